/- Part of the proof. -/
import Derived.Test.YtngnahfbgilapaaGBack03
set_option linter.unusedSimpArgs false
set_option linter.unusedVariables false
set_option linter.unusedSimpArgs false
set_option linter.unusedVariables false
namespace Go.AM.Fd
open Go.Proofs Go.AM.F
def cOu (x : Ou) : List Value := [.int .u8 (x.ch : Nat), .int .i64 x.cy, .int .i64 x.ep, .int .u64 (x.pr : Nat), .int .u32 (x.pt : Nat)]
def cLi (v : Value) (x : Li) : List Value := [.int .u8 (x.f : Nat), .int .u8 (x.t : Nat), .int .i64 x.q, .int .i64 x.k, v]
def cI6 (v : Value) (x : I6) : List Value := [.int .u8 (x.ch : Nat), .int .i64 x.cy, .int .u64 (x.oc : Nat), .int .u32 (x.no : Nat), .int .u32 (x.re : Nat), v]
def cSt (x : St) : List Value := .int .u64 (x.a : Nat) :: .int .u64 (x.b : Nat) :: .int .u64 (x.c : Nat) :: (cellsOf x.t ++ [.int .u32 (x.p : Nat)])
def cLo (x : Lo) : List Value := .int .i64 x.e :: .int .i64 x.c :: cSt x.s
theorem cellsOf_one (l : List UInt8) : (cellsOf l).all Value.oneCell' = true := by
  rw [List.all_eq_true]
  intro v hv
  simp only [cellsOf, List.mem_map] at hv
  obtain ⟨n, _, rfl⟩ := hv
  rfl
theorem cSt_one (x : St) : (cSt x).all Value.oneCell' = true := by
  simp only [cSt, List.all_cons, List.all_append, cellsOf_one, one_int, List.all_nil, Bool.and_true, Bool.true_and]
theorem cSt_len {x : St} (h : x.t.length = 64) : (cSt x).length = 68 := by simp [cSt, cellsOf_length, h]
theorem cLo_one (x : Lo) : (cLo x).all Value.oneCell' = true := by
  simp only [cLo, List.all_cons, cSt_one, one_int]; rfl
theorem cLo_len {x : Lo} (h : x.s.t.length = 64) : (cLo x).length = 70 := by simp [cLo, cSt_len h]
theorem sl1 (H : AHeap) (n : Int) (e : Nat) : Sl (H.alloc (.cells true false 1 [.int .i64 n] e)) 1 (slc H.n 0 1 1) (II [n]) := by
  refine ⟨⟨_, _, rfl⟩, by simp [II], ?_⟩
  exact elems_own (AHeap.get_alloc_new H _) rfl
theorem sl2 (H : AHeap) (n m : Int) (e : Nat) : Sl (H.alloc (.cells true false 1 [.int .i64 n, .int .i64 m] e)) 1 (slc H.n 0 2 2) (II [n, m]) := by
  refine ⟨⟨_, _, rfl⟩, by simp [II], ?_⟩
  exact elems_own (AHeap.get_alloc_new H _) rfl
theorem fillII (x y : Value) (n m : Int) : fillA [x, y] [(0, 1, .int .i64 n), (1, 1, .int .i64 m)] = some [.int .i64 n, .int .i64 m] := rfl
theorem mayOu (x : Ou) (H : AHeap) : ∃ v H', ARun Go.Proofs.Try.prog 0 101 [.iface 42 (.agg (cOu x).toArray)] H v H' ∧ v = .bool (okOu x) ∧ Keeps H H' := by
  refine walk2 f101_ok f101_n ?_
  intro Q hq1 hq2
  simp (disch := (first | assumption | omega | (simp only [List.length_cons, List.length_nil] <;> omega) | (simp only [alloc_n, set_n] <;> omega) | (simp (disch := (first | assumption | omega | (simp only [alloc_n, set_n] <;> omega))) only [row_alloc, row_set]; assumption))) only [f101, W_block, ANs, A3s, AOp.map, ↓reduceIte, Nat.reduceAdd, Nat.reduceEqDiff, reduceCtorEq, initFr, Nat.reduceLT, clsA, List.take, List.drop, Nat.reduceLeDiff, Nat.reduceMul, Nat.reduceSub, reduceIte, ANc, A3c, cOu, fillII]
  refine callK (t111 (sl2 _ _ _ _) (by simp)) ?_
  rintro _ _ ⟨rfl, rfl⟩
  simp (disch := (first | assumption | omega | (simp only [List.length_cons, List.length_nil] <;> omega) | (simp only [alloc_n, set_n] <;> omega) | (simp (disch := (first | assumption | omega | (simp only [alloc_n, set_n] <;> omega))) only [row_alloc, row_set]; assumption))) only [W_block, ANs, A3s, AOp.map, ↓reduceIte, Nat.reduceAdd, Nat.reduceEqDiff, reduceCtorEq, initFr, Nat.reduceLT, clsA, List.take, List.drop, Nat.reduceLeDiff, Nat.reduceMul, Nat.reduceSub, reduceIte, ANc, A3c]
  exact hq2 _ _ ⟨_, rfl, by simp [okOu]; rfl, by ((repeat (first | exact Keeps.refl _ | assumption | refine Keeps.alloc ?_ _ | (refine Keeps.set ?_ (by first | omega | (simp only [alloc_n, set_n] <;> omega)) (by first | omega | (simp only [alloc_n, set_n] <;> omega)) _) | (refine Keeps.trans' (by assumption) ?_))))⟩
theorem mayLo (x : Lo) (hx : x.s.t.length = 64) (H : AHeap) : ∃ v H', ARun Go.Proofs.Try.prog 0 101 [.iface 57 (.agg (cLo x).toArray)] H v H' ∧ v = .bool (okLo x) ∧ Keeps H H' := by
  refine walk2 f101_ok f101_n ?_
  intro Q hq1 hq2
  have lx := cLo_len hx
  have ox := cLo_one x
  have x0 : (cLo x)[0]? = some (.int .i64 x.e) := rfl
  have x1 : (cLo x)[1]? = some (.int .i64 x.c) := rfl
  have lz : Z70.length = 70 := rfl
  have oz : Z70.all Value.oneCell' = true := rfl
  simp (disch := (first | assumption | omega | (simp only [List.length_cons, List.length_nil] <;> omega) | (simp only [alloc_n, set_n] <;> omega) | (simp (disch := (first | assumption | omega | (simp only [alloc_n, set_n] <;> omega))) only [row_alloc, row_set]; assumption))) only [f101, W_block, ANs, A3s, AOp.map, ↓reduceIte, Nat.reduceAdd, Nat.reduceEqDiff, reduceCtorEq, initFr, Nat.reduceLT, clsA, List.take, List.drop, Nat.reduceLeDiff, Nat.reduceMul, Nat.reduceSub, reduceIte, ANc, A3c, fillII, ox, oz, x0, x1]
  refine callK (t111 (sl2 _ _ _ _) (by simp)) ?_
  rintro _ _ ⟨rfl, rfl⟩
  simp (disch := (first | assumption | omega | (simp only [List.length_cons, List.length_nil] <;> omega) | (simp only [alloc_n, set_n] <;> omega) | (simp (disch := (first | assumption | omega | (simp only [alloc_n, set_n] <;> omega))) only [row_alloc, row_set]; assumption))) only [W_block, ANs, A3s, AOp.map, ↓reduceIte, Nat.reduceAdd, Nat.reduceEqDiff, reduceCtorEq, initFr, Nat.reduceLT, clsA, List.take, List.drop, Nat.reduceLeDiff, Nat.reduceMul, Nat.reduceSub, reduceIte, ANc, A3c]
  exact hq2 _ _ ⟨_, rfl, by simp [okLo]; rfl, by ((repeat (first | exact Keeps.refl _ | assumption | refine Keeps.alloc ?_ _ | (refine Keeps.set ?_ (by first | omega | (simp only [alloc_n, set_n] <;> omega)) (by first | omega | (simp only [alloc_n, set_n] <;> omega)) _) | (refine Keeps.trans' (by assumption) ?_))))⟩
theorem mayI6 (x : I6) {vc : Value} {H : AHeap} (hc : Sl H 2 vc (CC x.cs)) (hl : x.cs.length ≤ 1000000000) : ∃ v H', ARun Go.Proofs.Try.prog 0 101 [.iface 30 (.agg (cI6 vc x).toArray)] H v H' ∧ v = .bool (okI6 x) ∧ Keeps H H' := by
  refine walk2 f101_ok f101_n ?_
  intro Q hq1 hq2
  have hone := hc.one
  have his := hc.is
  have hlen := hc.len
  rw [CC, List.length_map] at hlen
  have hcl : vc.cells.toList = [vc] := by obtain ⟨a, k, rfl⟩ := hc.sh; rfl
  simp (disch := (first | assumption | omega | (simp only [List.length_cons, List.length_nil] <;> omega) | (simp only [alloc_n, set_n] <;> omega) | (simp (disch := (first | assumption | omega | (simp only [alloc_n, set_n] <;> omega))) only [row_alloc, row_set]; assumption))) only [f101, W_block, ANs, A3s, AOp.map, ↓reduceIte, Nat.reduceAdd, Nat.reduceEqDiff, reduceCtorEq, initFr, Nat.reduceLT, clsA, List.take, List.drop, Nat.reduceLeDiff, Nat.reduceMul, Nat.reduceSub, reduceIte, ANc, A3c, cI6, hone, hcl]
  refine callK (t111 (sl1 _ _ _) (by simp)) ?_
  rintro _ _ ⟨rfl, rfl⟩
  by_cases h1 : cyB x.cy = true
  · have e1 : [x.cy].all cyB = true := by simp [h1]
    by_cases h2 : (x.cs.length : Int) ≤ 8
    · simp (disch := (first | assumption | omega | (simp only [List.length_cons, List.length_nil] <;> omega) | (simp only [alloc_n, set_n] <;> omega) | (simp (disch := (first | assumption | omega | (simp only [alloc_n, set_n] <;> omega))) only [row_alloc, row_set]; assumption))) only [W_block, ANs, A3s, AOp.map, ↓reduceIte, Nat.reduceAdd, Nat.reduceEqDiff, reduceCtorEq, initFr, Nat.reduceLT, clsA, List.take, List.drop, Nat.reduceLeDiff, Nat.reduceMul, Nat.reduceSub, reduceIte, ANc, A3c, e1, hlen]
      refine callK (t112 (hc.keeps (by ((repeat (first | exact Keeps.refl _ | assumption | refine Keeps.alloc ?_ _ | (refine Keeps.set ?_ (by first | omega | (simp only [alloc_n, set_n] <;> omega)) (by first | omega | (simp only [alloc_n, set_n] <;> omega)) _) | (refine Keeps.trans' (by assumption) ?_)))))) hl) ?_
      rintro _ _ ⟨rfl, k⟩
      simp (disch := (first | assumption | omega | (simp only [List.length_cons, List.length_nil] <;> omega) | (simp only [alloc_n, set_n] <;> omega) | (simp (disch := (first | assumption | omega | (simp only [alloc_n, set_n] <;> omega))) only [row_alloc, row_set]; assumption))) only [W_block, ANs, A3s, AOp.map, ↓reduceIte, Nat.reduceAdd, Nat.reduceEqDiff, reduceCtorEq, initFr, Nat.reduceLT, clsA, List.take, List.drop, Nat.reduceLeDiff, Nat.reduceMul, Nat.reduceSub, reduceIte, ANc, A3c]
      refine hq2 _ _ ⟨_, rfl, ?_, Keeps.trans (by ((repeat (first | exact Keeps.refl _ | assumption | refine Keeps.alloc ?_ _ | (refine Keeps.set ?_ (by first | omega | (simp only [alloc_n, set_n] <;> omega)) (by first | omega | (simp only [alloc_n, set_n] <;> omega)) _) | (refine Keeps.trans' (by assumption) ?_))))) k⟩
      simp only [okI6, h1, Bool.true_and, decide_eq_true (show x.cs.length ≤ 8 by omega), Bool.not_not]
      rfl
    · simp (disch := (first | assumption | omega | (simp only [List.length_cons, List.length_nil] <;> omega) | (simp only [alloc_n, set_n] <;> omega) | (simp (disch := (first | assumption | omega | (simp only [alloc_n, set_n] <;> omega))) only [row_alloc, row_set]; assumption))) only [W_block, ANs, A3s, AOp.map, ↓reduceIte, Nat.reduceAdd, Nat.reduceEqDiff, reduceCtorEq, initFr, Nat.reduceLT, clsA, List.take, List.drop, Nat.reduceLeDiff, Nat.reduceMul, Nat.reduceSub, reduceIte, ANc, A3c, e1, hlen]
      refine hq2 _ _ ⟨_, rfl, ?_, by ((repeat (first | exact Keeps.refl _ | assumption | refine Keeps.alloc ?_ _ | (refine Keeps.set ?_ (by first | omega | (simp only [alloc_n, set_n] <;> omega)) (by first | omega | (simp only [alloc_n, set_n] <;> omega)) _) | (refine Keeps.trans' (by assumption) ?_))))⟩
      simp only [okI6, decide_eq_false (show ¬ x.cs.length ≤ 8 by omega), Bool.and_false, Bool.false_and]
      rfl
  · rw [Bool.not_eq_true] at h1
    have e1 : [x.cy].all cyB = false := by simp [h1]
    simp (disch := (first | assumption | omega | (simp only [List.length_cons, List.length_nil] <;> omega) | (simp only [alloc_n, set_n] <;> omega) | (simp (disch := (first | assumption | omega | (simp only [alloc_n, set_n] <;> omega))) only [row_alloc, row_set]; assumption))) only [W_block, ANs, A3s, AOp.map, ↓reduceIte, Nat.reduceAdd, Nat.reduceEqDiff, reduceCtorEq, initFr, Nat.reduceLT, clsA, List.take, List.drop, Nat.reduceLeDiff, Nat.reduceMul, Nat.reduceSub, reduceIte, ANc, A3c, e1]
    refine hq2 _ _ ⟨_, rfl, ?_, by ((repeat (first | exact Keeps.refl _ | assumption | refine Keeps.alloc ?_ _ | (refine Keeps.set ?_ (by first | omega | (simp only [alloc_n, set_n] <;> omega)) (by first | omega | (simp only [alloc_n, set_n] <;> omega)) _) | (refine Keeps.trans' (by assumption) ?_))))⟩
    simp only [okI6, h1, Bool.false_and]
    rfl
theorem mayLi (x : Li) {vb : Value} {H : AHeap} (hb : BS H vb x.B) : ∃ v H', ARun Go.Proofs.Try.prog 0 101 [.iface 65 (.agg (cLi vb x).toArray)] H v H' ∧ v = .bool (okLi x) ∧ Keeps H H' := by
  refine walk2 f101_ok f101_n ?_
  intro Q hq1 hq2
  have hone := hb.sl.one
  have his := hb.sl.is
  have hlen := hb.sl.len
  rw [List.length_map] at hlen
  have lz : Z70.length = 70 := rfl
  have oz : Z70.all Value.oneCell' = true := rfl
  by_cases h0 : 0 ≤ x.q
  · by_cases h1 : x.q ≤ 4611686018427387904
    · by_cases h2 : 0 ≤ x.k
      · by_cases h3 : x.k ≤ 4611686018427387904
        · by_cases h4 : (x.B.length : Int) ≤ 2048
          · simp (disch := (first | assumption | omega | (simp only [List.length_cons, List.length_nil] <;> omega) | (simp only [alloc_n, set_n] <;> omega) | (simp (disch := (first | assumption | omega | (simp only [alloc_n, set_n] <;> omega))) only [row_alloc, row_set]; assumption))) only [f101, W_block, ANs, A3s, AOp.map, ↓reduceIte, Nat.reduceAdd, Nat.reduceEqDiff, reduceCtorEq, initFr, Nat.reduceLT, clsA, List.take, List.drop, Nat.reduceLeDiff, Nat.reduceMul, Nat.reduceSub, reduceIte, ANc, A3c, cLi, hone, hlen, oz]
            exact hq2 _ _ ⟨_, rfl, congrArg Value.bool (a₁ := _) (by simp [okLi, sqB]; omega), by ((repeat (first | exact Keeps.refl _ | assumption | refine Keeps.alloc ?_ _ | (refine Keeps.set ?_ (by first | omega | (simp only [alloc_n, set_n] <;> omega)) (by first | omega | (simp only [alloc_n, set_n] <;> omega)) _) | (refine Keeps.trans' (by assumption) ?_))))⟩
          · simp (disch := (first | assumption | omega | (simp only [List.length_cons, List.length_nil] <;> omega) | (simp only [alloc_n, set_n] <;> omega) | (simp (disch := (first | assumption | omega | (simp only [alloc_n, set_n] <;> omega))) only [row_alloc, row_set]; assumption))) only [f101, W_block, ANs, A3s, AOp.map, ↓reduceIte, Nat.reduceAdd, Nat.reduceEqDiff, reduceCtorEq, initFr, Nat.reduceLT, clsA, List.take, List.drop, Nat.reduceLeDiff, Nat.reduceMul, Nat.reduceSub, reduceIte, ANc, A3c, cLi, hone, hlen, oz]
            exact hq2 _ _ ⟨_, rfl, congrArg Value.bool (a₁ := _) (by simp [okLi, sqB]; omega), by ((repeat (first | exact Keeps.refl _ | assumption | refine Keeps.alloc ?_ _ | (refine Keeps.set ?_ (by first | omega | (simp only [alloc_n, set_n] <;> omega)) (by first | omega | (simp only [alloc_n, set_n] <;> omega)) _) | (refine Keeps.trans' (by assumption) ?_))))⟩
        · simp (disch := (first | assumption | omega | (simp only [List.length_cons, List.length_nil] <;> omega) | (simp only [alloc_n, set_n] <;> omega) | (simp (disch := (first | assumption | omega | (simp only [alloc_n, set_n] <;> omega))) only [row_alloc, row_set]; assumption))) only [f101, W_block, ANs, A3s, AOp.map, ↓reduceIte, Nat.reduceAdd, Nat.reduceEqDiff, reduceCtorEq, initFr, Nat.reduceLT, clsA, List.take, List.drop, Nat.reduceLeDiff, Nat.reduceMul, Nat.reduceSub, reduceIte, ANc, A3c, cLi, hone, hlen, oz]
          exact hq2 _ _ ⟨_, rfl, congrArg Value.bool (a₁ := _) (by simp [okLi, sqB]; omega), by ((repeat (first | exact Keeps.refl _ | assumption | refine Keeps.alloc ?_ _ | (refine Keeps.set ?_ (by first | omega | (simp only [alloc_n, set_n] <;> omega)) (by first | omega | (simp only [alloc_n, set_n] <;> omega)) _) | (refine Keeps.trans' (by assumption) ?_))))⟩
      · simp (disch := (first | assumption | omega | (simp only [List.length_cons, List.length_nil] <;> omega) | (simp only [alloc_n, set_n] <;> omega) | (simp (disch := (first | assumption | omega | (simp only [alloc_n, set_n] <;> omega))) only [row_alloc, row_set]; assumption))) only [f101, W_block, ANs, A3s, AOp.map, ↓reduceIte, Nat.reduceAdd, Nat.reduceEqDiff, reduceCtorEq, initFr, Nat.reduceLT, clsA, List.take, List.drop, Nat.reduceLeDiff, Nat.reduceMul, Nat.reduceSub, reduceIte, ANc, A3c, cLi, hone, hlen, oz]
        exact hq2 _ _ ⟨_, rfl, congrArg Value.bool (a₁ := _) (by simp [okLi, sqB]; omega), by ((repeat (first | exact Keeps.refl _ | assumption | refine Keeps.alloc ?_ _ | (refine Keeps.set ?_ (by first | omega | (simp only [alloc_n, set_n] <;> omega)) (by first | omega | (simp only [alloc_n, set_n] <;> omega)) _) | (refine Keeps.trans' (by assumption) ?_))))⟩
    · simp (disch := (first | assumption | omega | (simp only [List.length_cons, List.length_nil] <;> omega) | (simp only [alloc_n, set_n] <;> omega) | (simp (disch := (first | assumption | omega | (simp only [alloc_n, set_n] <;> omega))) only [row_alloc, row_set]; assumption))) only [f101, W_block, ANs, A3s, AOp.map, ↓reduceIte, Nat.reduceAdd, Nat.reduceEqDiff, reduceCtorEq, initFr, Nat.reduceLT, clsA, List.take, List.drop, Nat.reduceLeDiff, Nat.reduceMul, Nat.reduceSub, reduceIte, ANc, A3c, cLi, hone, hlen, oz]
      exact hq2 _ _ ⟨_, rfl, congrArg Value.bool (a₁ := _) (by simp [okLi, sqB]; omega), by ((repeat (first | exact Keeps.refl _ | assumption | refine Keeps.alloc ?_ _ | (refine Keeps.set ?_ (by first | omega | (simp only [alloc_n, set_n] <;> omega)) (by first | omega | (simp only [alloc_n, set_n] <;> omega)) _) | (refine Keeps.trans' (by assumption) ?_))))⟩
  · simp (disch := (first | assumption | omega | (simp only [List.length_cons, List.length_nil] <;> omega) | (simp only [alloc_n, set_n] <;> omega) | (simp (disch := (first | assumption | omega | (simp only [alloc_n, set_n] <;> omega))) only [row_alloc, row_set]; assumption))) only [f101, W_block, ANs, A3s, AOp.map, ↓reduceIte, Nat.reduceAdd, Nat.reduceEqDiff, reduceCtorEq, initFr, Nat.reduceLT, clsA, List.take, List.drop, Nat.reduceLeDiff, Nat.reduceMul, Nat.reduceSub, reduceIte, ANc, A3c, cLi, hone, hlen, oz]
    exact hq2 _ _ ⟨_, rfl, congrArg Value.bool (a₁ := _) (by simp [okLi, sqB]; omega), by ((repeat (first | exact Keeps.refl _ | assumption | refine Keeps.alloc ?_ _ | (refine Keeps.set ?_ (by first | omega | (simp only [alloc_n, set_n] <;> omega)) (by first | omega | (simp only [alloc_n, set_n] <;> omega)) _) | (refine Keeps.trans' (by assumption) ?_))))⟩
theorem maySt (x : St) (H : AHeap) : ∃ v H', ARun Go.Proofs.Try.prog 0 101 [.iface 51 (.agg (cSt x).toArray)] H v H' ∧ v = .bool true ∧ Keeps H H' := by
  refine walk2 f101_ok f101_n ?_
  intro Q hq1 hq2
  have lz : Z70.length = 70 := rfl
  have oz : Z70.all Value.oneCell' = true := rfl
  simp (disch := (first | assumption | omega | (simp only [List.length_cons, List.length_nil] <;> omega) | (simp only [alloc_n, set_n] <;> omega) | (simp (disch := (first | assumption | omega | (simp only [alloc_n, set_n] <;> omega))) only [row_alloc, row_set]; assumption))) only [f101, W_block, ANs, A3s, AOp.map, ↓reduceIte, Nat.reduceAdd, Nat.reduceEqDiff, reduceCtorEq, initFr, Nat.reduceLT, clsA, List.take, List.drop, Nat.reduceLeDiff, Nat.reduceMul, Nat.reduceSub, reduceIte, ANc, A3c, oz]
  exact hq2 _ _ ⟨_, rfl, rfl, by ((repeat (first | exact Keeps.refl _ | assumption | refine Keeps.alloc ?_ _ | (refine Keeps.set ?_ (by first | omega | (simp only [alloc_n, set_n] <;> omega)) (by first | omega | (simp only [alloc_n, set_n] <;> omega)) _) | (refine Keeps.trans' (by assumption) ?_))))⟩
end Go.AM.Fd

set_option linter.unusedSimpArgs false
set_option linter.unusedVariables false
namespace Go.AM.Fd
open Go.Proofs Go.AM.F
theorem Put.lt {H H' : AHeap} {b bv : Nat} {l : List UInt8} (h : Put H H' b bv l) : H.n ≤ H'.n := h.choose_spec.2.2.n
theorem Put.trans {A B C : AHeap} {b bv bv' : Nat} {l : List UInt8} (hl : bv < A.n) (h1 : bv' = bv ∨ A.n ≤ bv') (k : Chg [b, bv] A B) (h2 : Put B C b bv' l) : Put A C b bv l := by
  obtain ⟨bw, w, hb, k2⟩ := h2
  refine ⟨bw, w, ?_, ⟨Nat.le_trans k.n k2.n, fun x hx hn => ?_⟩⟩
  · have := k.n; omega
  · simp only [List.mem_cons, List.not_mem_nil, or_false, not_or] at hn
    rw [k2.get x (Nat.lt_of_lt_of_le hx k.n) (by simp; omega), k.get x hx (by simp; omega)]
theorem Put.keeps {A B : AHeap} {b bv : Nat} {l : List UInt8} (w : WS A b bv l) (k : Keeps A B) : Put A B b bv l :=
  ⟨bv, w.chg (k.chg []) (by simp) (by simp), .inl rfl, k.chg _⟩
def nsB (l : List Int) : List UInt8 := l.flatMap fun n => be 8 n.toNat
theorem nsB_len (l : List Int) : (nsB l).length = 8 * l.length := by
  induction l with
  | nil => rfl
  | cons x l ih =>
    rw [nsB, List.flatMap_cons, List.length_append, be_length, List.length_cons]
    have : (l.flatMap fun n => be 8 n.toNat).length = 8 * l.length := ih
    omega
theorem t80 {H : AHeap} {b bv : Nat} {l : List UInt8} (h : WS H b bv l) {v : Value} {ns : List Int} (hs : Sl H 1 v (II ns)) (hv : ∀ y, blk v = some y → y ≠ b ∧ y ≠ bv) (hn : ∀ n ∈ ns, 0 ≤ n ∧ n ≤ 4611686018427387904) (hl : l.length ≤ 10000000) (hnl : ns.length ≤ 1000) :
    ∃ w H', ARun Go.Proofs.Try.prog 0 80 [ptr b 0, v] H w H' ∧ Put H H' b bv (l ++ nsB ns) := by
  refine walk2 f80_ok f80_n ?_
  intro Q hq1 hq2
  have his := hs.is
  have hlen := hs.len
  rw [II, List.length_map] at hlen
  have hlt := h.lt
  simp (disch := (first | assumption | omega | (simp only [List.length_cons, List.length_nil] <;> omega) | (simp only [alloc_n, set_n] <;> omega) | (simp (disch := (first | assumption | omega | (simp only [alloc_n, set_n] <;> omega))) only [row_alloc, row_set]; assumption))) only [f80, W_block, ANs, A3s, AOp.map, ↓reduceIte, Nat.reduceAdd, Nat.reduceEqDiff, reduceCtorEq, initFr, Nat.reduceLT, clsA, List.take, List.drop, Nat.reduceLeDiff, Nat.reduceMul, Nat.reduceSub, reduceIte, ANc, A3c, hlen]
  refine W_loop2 (fun q fr K => ∃ (i bw : Nat) (c e : Value), i ≤ ns.length ∧ q = ns.length - i ∧ WS K b bw (l ++ nsB (ns.take i)) ∧ (bw = bv ∨ H.n ≤ bw) ∧ Chg [b, bv] H K ∧ fr = [ptr b 0, v, c, v, .int .i64 ns.length, .int .i64 i, e]) ns.length ⟨0, bv, undef, undef, by omega, rfl, by simpa [nsB] using h, .inl rfl, Chg.refl _ _, rfl⟩ ?_
  rintro Q' q fr K ⟨i, bw, c, e, hi, rfl, hw, hbw, kK, rfl⟩ hn' he hrt
  have nK := kK.n
  by_cases hc : i < ns.length
  · obtain ⟨hnn, hrow⟩ := (hs.chg kK (fun y hy => by have := hv y hy; simp; omega)).at_ (by omega) (i := i) (by simpa [II] using hc)
    simp only [II, List.getElem_map] at hrow
    have hb := hn _ (List.getElem_mem hc)
    have hwr : IntKind.u64.wrap ns[i] = ((ns[i].toNat : Nat) : Int) := by rw [wrap_u64]; omega
    simp (disch := (first | assumption | omega | (simp only [List.length_cons, List.length_nil] <;> omega) | (simp only [alloc_n, set_n] <;> omega) | (simp (disch := (first | assumption | omega | (simp only [alloc_n, set_n] <;> omega))) only [row_alloc, row_set]; assumption))) only [W_block, ANs, A3s, AOp.map, ↓reduceIte, Nat.reduceAdd, Nat.reduceEqDiff, reduceCtorEq, initFr, Nat.reduceLT, clsA, List.take, List.drop, Nat.reduceLeDiff, Nat.reduceMul, Nat.reduceSub, reduceIte, ANc, A3c, hwr]
    refine callK (t84 hw ns[i].toNat (by omega) (by
      rw [List.length_append, nsB_len, List.length_take]; omega)) ?_
    rintro w K2 ⟨bw2, hw2, hb2, k2⟩
    simp (disch := (first | assumption | omega | (simp only [List.length_cons, List.length_nil] <;> omega) | (simp only [alloc_n, set_n] <;> omega) | (simp (disch := (first | assumption | omega | (simp only [alloc_n, set_n] <;> omega))) only [row_alloc, row_set]; assumption))) only [W_block, ANs, A3s, AOp.map, ↓reduceIte, Nat.reduceAdd, Nat.reduceEqDiff, reduceCtorEq, initFr, Nat.reduceLT, clsA, List.take, List.drop, Nat.reduceLeDiff, Nat.reduceMul, Nat.reduceSub, reduceIte, ANc, A3c, wrap_succ (n := i) (by omega)]
    refine hn' _ _ _ ⟨i + 1, bw2, _, _, by omega, rfl, ?_, by have := hw.lt; omega, ?_, rfl⟩ (by omega)
    · rw [List.take_succ_eq_append_getElem hc, nsB, List.flatMap_append]
      simp only [List.flatMap_cons, List.flatMap_nil, List.append_nil, ← List.append_assoc]
      rw [← nsB]
      exact hw2
    · refine ⟨Nat.le_trans kK.n k2.n, fun x hx hxn => ?_⟩
      simp only [List.mem_cons, List.not_mem_nil, or_false, not_or] at hxn
      rw [k2.get x (by omega) (by simp; omega), kK.get x hx (by simp; omega)]
  · simp (disch := (first | assumption | omega | (simp only [List.length_cons, List.length_nil] <;> omega) | (simp only [alloc_n, set_n] <;> omega) | (simp (disch := (first | assumption | omega | (simp only [alloc_n, set_n] <;> omega))) only [row_alloc, row_set]; assumption))) only [W_block, ANs, A3s, AOp.map, ↓reduceIte, Nat.reduceAdd, Nat.reduceEqDiff, reduceCtorEq, initFr, Nat.reduceLT, clsA, List.take, List.drop, Nat.reduceLeDiff, Nat.reduceMul, Nat.reduceSub, reduceIte, ANc, A3c]
    refine he _ _ _ ?_
    simp (disch := (first | assumption | omega | (simp only [List.length_cons, List.length_nil] <;> omega) | (simp only [alloc_n, set_n] <;> omega) | (simp (disch := (first | assumption | omega | (simp only [alloc_n, set_n] <;> omega))) only [row_alloc, row_set]; assumption))) only [W_block, ANs, A3s, AOp.map, ↓reduceIte, Nat.reduceAdd, Nat.reduceEqDiff, reduceCtorEq, initFr, Nat.reduceLT, clsA, List.take, List.drop, Nat.reduceLeDiff, Nat.reduceMul, Nat.reduceSub, reduceIte, ANc, A3c]
    rw [List.take_of_length_le (by omega)] at hw
    exact hq1 _ _ ⟨_, rfl, bw, hw, hbw, kK⟩
theorem cSt_0 (x : St) : (cSt x)[0]? = some (.int .u64 (x.a : Nat)) := rfl
theorem cSt_1 (x : St) : (cSt x)[1]? = some (.int .u64 (x.b : Nat)) := rfl
theorem cSt_2 (x : St) : (cSt x)[2]? = some (.int .u64 (x.c : Nat)) := rfl
theorem cSt_67 {x : St} (h : x.t.length = 64) : (cSt x)[67]? = some (.int .u32 (x.p : Nat)) := by
  simp only [cSt, List.getElem?_cons_succ]
  rw [List.getElem?_append_right (by rw [cellsOf_length]; omega), cellsOf_length, h]
  rfl
theorem cSt_t {x : St} (h : x.t.length = 64) : ((cSt x).drop 3).take 64 = cellsOf x.t := by
  simp only [cSt, List.drop_succ_cons, List.drop_zero]
  rw [← h, ← cellsOf_length x.t, List.take_left]
theorem bs_st {H : AHeap} {x : St} (h : x.t.length = 64) {b e esz : Nat} {own room : Bool} (g : H.get b = some (.cells own room esz (cSt x) e)) : BS H (slc b 3 64 64) x.t := by
  refine ⟨⟨some ⟨b, 3, none⟩, 64, by rw [h]; rfl⟩, ?_⟩
  simp only [elemsA, slc, g, Nat.mul_one]
  rw [if_pos (by rw [cSt_len h]; omega), cSt_t h]
theorem t88 {H : AHeap} {b bv : Nat} {l : List UInt8} (h : WS H b bv l) {x : St} (hx : rgSt x) (hl : l.length ≤ 10000000) :
    ∃ w H', ARun Go.Proofs.Try.prog 0 88 [ptr b 0, .agg (cSt x).toArray] H w H' ∧ Put H H' b bv (l ++ enSt x) := by
  refine walk2 f88_ok f88_n ?_
  intro Q hq1 hq2
  have lx := cSt_len hx.ht
  have ox := cSt_one x
  have ht := hx.ht
  have hlt := h.lt
  have k0 := (Keeps.refl H).alloc (.cells true false 68 (cSt x) 51)
  have g := AHeap.get_alloc_new H (.cells true false 68 (cSt x) 51)
  simp (disch := (first | assumption | omega | (simp only [List.length_cons, List.length_nil] <;> omega) | (simp only [alloc_n, set_n] <;> omega) | (simp (disch := (first | assumption | omega | (simp only [alloc_n, set_n] <;> omega))) only [row_alloc, row_set]; assumption))) only [f88, W_block, ANs, A3s, AOp.map, ↓reduceIte, Nat.reduceAdd, Nat.reduceEqDiff, reduceCtorEq, initFr, Nat.reduceLT, clsA, List.take, List.drop, Nat.reduceLeDiff, Nat.reduceMul, Nat.reduceSub, reduceIte, ANc, A3c, ox]
  obtain ⟨Ha, hHa⟩ : ∃ X, X = H.alloc (.cells true false 68 (cSt x) 51) := ⟨_, rfl⟩
  rw [← hHa] at k0 g ⊢
  have la := AHeap.get_lt g
  simp (disch := (first | assumption | omega | (simp only [List.length_cons, List.length_nil] <;> omega) | (simp only [alloc_n, set_n] <;> omega) | (simp (disch := (first | assumption | omega | (simp only [alloc_n, set_n] <;> omega))) only [row_alloc, row_set]; assumption))) only [W_block, ANs, A3s, AOp.map, ↓reduceIte, Nat.reduceAdd, Nat.reduceEqDiff, reduceCtorEq, initFr, Nat.reduceLT, clsA, List.take, List.drop, Nat.reduceLeDiff, Nat.reduceMul, Nat.reduceSub, reduceIte, ANc, A3c, cSt_0]
  refine callK (t84 (h.chg (k0.chg []) (by simp) (by simp)) x.a hx.ha (by omega)) ?_
  rintro _ K1 ⟨b1, w1, hb1, d1⟩
  simp (disch := (first | assumption | omega | (simp only [List.length_cons, List.length_nil] <;> omega) | (simp only [alloc_n, set_n] <;> omega) | (simp (disch := (first | assumption | omega | (simp only [alloc_n, set_n] <;> omega))) only [row_alloc, row_set]; assumption))) only [Chg2.get d1, W_block, ANs, A3s, AOp.map, ↓reduceIte, Nat.reduceAdd, Nat.reduceEqDiff, reduceCtorEq, initFr, Nat.reduceLT, clsA, List.take, List.drop, Nat.reduceLeDiff, Nat.reduceMul, Nat.reduceSub, reduceIte, ANc, A3c, g, cSt_1]
  have n1 := d1.n
  refine callK (t84 w1 x.b hx.hb (by simp [be_length]; omega)) ?_
  rintro _ K2 ⟨b2, w2, hb2, d2⟩
  have n2 := d2.n
  simp (disch := (first | assumption | omega | (simp only [List.length_cons, List.length_nil] <;> omega) | (simp only [alloc_n, set_n] <;> omega) | (simp (disch := (first | assumption | omega | (simp only [alloc_n, set_n] <;> omega))) only [row_alloc, row_set]; assumption))) only [Chg2.get d1, Chg2.get d2, W_block, ANs, A3s, AOp.map, ↓reduceIte, Nat.reduceAdd, Nat.reduceEqDiff, reduceCtorEq, initFr, Nat.reduceLT, clsA, List.take, List.drop, Nat.reduceLeDiff, Nat.reduceMul, Nat.reduceSub, reduceIte, ANc, A3c, g, cSt_2]
  refine callK (t84 w2 x.c hx.hc (by simp [be_length]; omega)) ?_
  rintro _ K3 ⟨b3, w3, hb3, d3⟩
  have n3 := d3.n
  have g3 : K3.get H.n = some (.cells true false 68 (cSt x) 51) := by
    rw [Chg2.get d3 (by omega) (by omega) (by omega), Chg2.get d2 (by omega) (by omega) (by omega), Chg2.get d1 (by omega) (by omega) (by omega)]; exact g
  simp (disch := (first | assumption | omega | (simp only [List.length_cons, List.length_nil] <;> omega) | (simp only [alloc_n, set_n] <;> omega) | (simp (disch := (first | assumption | omega | (simp only [alloc_n, set_n] <;> omega))) only [row_alloc, row_set]; assumption))) only [W_block, ANs, A3s, AOp.map, ↓reduceIte, Nat.reduceAdd, Nat.reduceEqDiff, reduceCtorEq, initFr, Nat.reduceLT, clsA, List.take, List.drop, Nat.reduceLeDiff, Nat.reduceMul, Nat.reduceSub, reduceIte, ANc, A3c, a_slarr0]
  refine callK (t82 w3 (bs_st ht g3) (by simp [be_length]; omega)) ?_
  rintro _ K4 ⟨b4, w4, hb4, d4⟩
  have n4 := d4.n
  simp (disch := (first | assumption | omega | (simp only [List.length_cons, List.length_nil] <;> omega) | (simp only [alloc_n, set_n] <;> omega) | (simp (disch := (first | assumption | omega | (simp only [alloc_n, set_n] <;> omega))) only [row_alloc, row_set]; assumption))) only [Chg2.get d4, W_block, ANs, A3s, AOp.map, ↓reduceIte, Nat.reduceAdd, Nat.reduceEqDiff, reduceCtorEq, initFr, Nat.reduceLT, clsA, List.take, List.drop, Nat.reduceLeDiff, Nat.reduceMul, Nat.reduceSub, reduceIte, ANc, A3c, g3, cSt_67 ht]
  refine callK (t85 w4 x.p hx.hp (by simp [be_length]; omega)) ?_
  rintro _ K5 p5
  simp (disch := (first | assumption | omega | (simp only [List.length_cons, List.length_nil] <;> omega) | (simp only [alloc_n, set_n] <;> omega) | (simp (disch := (first | assumption | omega | (simp only [alloc_n, set_n] <;> omega))) only [row_alloc, row_set]; assumption))) only [W_block, ANs, A3s, AOp.map, ↓reduceIte, Nat.reduceAdd, Nat.reduceEqDiff, reduceCtorEq, initFr, Nat.reduceLT, clsA, List.take, List.drop, Nat.reduceLeDiff, Nat.reduceMul, Nat.reduceSub, reduceIte, ANc, A3c]
  refine hq1 _ _ ⟨_, rfl, ?_⟩
  have e : l ++ enSt x = l ++ be 8 x.a ++ be 8 x.b ++ be 8 x.c ++ x.t ++ be 4 x.p := by simp [enSt, List.append_assoc]
  rw [e]
  exact Put.trans hlt.2 (.inl rfl) (k0.chg _) (Put.trans (by omega) hb1 d1 (Put.trans (by have := w1.lt; omega) hb2 d2 (Put.trans (by have := w2.lt; omega) hb3 d3 (Put.trans (by have := w3.lt; omega) hb4 d4 p5))))
def CLO (H : AHeap) (g : Nat) (cap : Value) (pre body : List UInt8) : Prop :=
  ∀ (H1 : AHeap) (b bv : Nat), Keeps H H1 → H.n ≤ b → H.n ≤ bv → WS H1 b bv pre → ∃ w H', ARun Go.Proofs.Try.prog 0 g [ptr b 0, cap] H1 w H' ∧ Put H1 H' b bv (pre ++ body)
theorem blk_slc_eq {b o n k y : Nat} (h : blk (slc b o n k) = some y) : y = b := by cases h; rfl
theorem WS.alloc {H : AHeap} {b bv : Nat} {l : List UInt8} (h : WS H b bv l) (o : AO) : WS (H.alloc o) b bv l := h.chg (((Keeps.refl H).alloc o).chg []) (by simp) (by simp)
theorem Chg2.al {H K : AHeap} {b bv : Nat} {o : AO} (d : Chg [b, bv] (H.alloc o) K) : Chg [b, bv] H K := ⟨Nat.le_trans (by rw [alloc_n]; omega) d.n, fun x hx hn => by rw [d.get x (by rw [alloc_n]; omega) hn, AHeap.get_alloc_old _ _ hx]⟩
theorem or_al {H : AHeap} {b bv : Nat} {o : AO} (h : b = bv ∨ (H.alloc o).n ≤ b) : b = bv ∨ H.n ≤ b := by rw [alloc_n] at h; omega
theorem t86 {H : AHeap} {p : Nat} {x : Ou} (g : H.get p = some (.cells true false 5 (cOu x) 42)) (hx : rgOu x) (hok : okOu x = true) (pre : List UInt8) (hp : pre.length ≤ 1000) : CLO H 86 (ptr p 0) pre (enOu x) := by
  intro H1 b bv k1 hb hbv w
  have hok' := hok
  simp only [okOu, Bool.and_eq_true, cyB_iff] at hok'
  refine walk2 f86_ok f86_n ?_
  intro Q hq1 hq2
  have lpH := AHeap.get_lt g
  have g := k1.at_ g
  have lp := AHeap.get_lt g
  have hlt := w.lt
  simp (disch := (first | assumption | omega | (simp only [List.length_cons, List.length_nil] <;> omega) | (simp only [alloc_n, set_n] <;> omega) | (simp (disch := (first | assumption | omega | (simp only [alloc_n, set_n] <;> omega))) only [row_alloc, row_set]; assumption))) only [f86, W_block, ANs, A3s, AOp.map, ↓reduceIte, Nat.reduceAdd, Nat.reduceEqDiff, reduceCtorEq, initFr, Nat.reduceLT, clsA, List.take, List.drop, Nat.reduceLeDiff, Nat.reduceMul, Nat.reduceSub, reduceIte, ANc, A3c, g, cOu]
  refine callK (t79 w x.ch hx.h1 (by omega)) ?_
  rintro _ K1 ⟨b1, w1, hb1, d1⟩
  have n1 := d1.n
  simp (disch := (first | assumption | omega | (simp only [List.length_cons, List.length_nil] <;> omega) | (simp only [alloc_n, set_n] <;> omega) | (simp (disch := (first | assumption | omega | (simp only [alloc_n, set_n] <;> omega))) only [row_alloc, row_set]; assumption))) only [Chg2.get d1, W_block, ANs, A3s, AOp.map, ↓reduceIte, Nat.reduceAdd, Nat.reduceEqDiff, reduceCtorEq, initFr, Nat.reduceLT, clsA, List.take, List.drop, Nat.reduceLeDiff, Nat.reduceMul, Nat.reduceSub, reduceIte, ANc, A3c, g, cOu, fillII]
  refine callK (t80 (w1.alloc _) (sl2 _ _ _ _) (by intro y hy; have := blk_slc_eq hy; have := w1.lt; omega) (by simp; omega) (by simp [be_length]; omega) (by simp)) ?_
  rintro _ K2 ⟨b2, w2, hb2, d2⟩
  have hb2 := or_al hb2
  have d2 := Chg2.al d2
  have n2 := d2.n
  have l1 := w1.lt
  simp (disch := (first | assumption | omega | (simp only [List.length_cons, List.length_nil] <;> omega) | (simp only [alloc_n, set_n] <;> omega) | (simp (disch := (first | assumption | omega | (simp only [alloc_n, set_n] <;> omega))) only [row_alloc, row_set]; assumption))) only [Chg2.get d1, Chg2.get d2, W_block, ANs, A3s, AOp.map, ↓reduceIte, Nat.reduceAdd, Nat.reduceEqDiff, reduceCtorEq, initFr, Nat.reduceLT, clsA, List.take, List.drop, Nat.reduceLeDiff, Nat.reduceMul, Nat.reduceSub, reduceIte, ANc, A3c, g, cOu]
  refine callK (t84 w2 x.pr hx.h2 (by simp [be_length, nsB_len]; omega)) ?_
  rintro _ K3 ⟨b3, w3, hb3, d3⟩
  have n3 := d3.n
  have l2 := w2.lt
  simp (disch := (first | assumption | omega | (simp only [List.length_cons, List.length_nil] <;> omega) | (simp only [alloc_n, set_n] <;> omega) | (simp (disch := (first | assumption | omega | (simp only [alloc_n, set_n] <;> omega))) only [row_alloc, row_set]; assumption))) only [Chg2.get d1, Chg2.get d2, Chg2.get d3, W_block, ANs, A3s, AOp.map, ↓reduceIte, Nat.reduceAdd, Nat.reduceEqDiff, reduceCtorEq, initFr, Nat.reduceLT, clsA, List.take, List.drop, Nat.reduceLeDiff, Nat.reduceMul, Nat.reduceSub, reduceIte, ANc, A3c, g, cOu]
  refine callK (t85 w3 x.pt hx.h3 (by simp [be_length, nsB_len]; omega)) ?_
  rintro _ K4 p4
  simp (disch := (first | assumption | omega | (simp only [List.length_cons, List.length_nil] <;> omega) | (simp only [alloc_n, set_n] <;> omega) | (simp (disch := (first | assumption | omega | (simp only [alloc_n, set_n] <;> omega))) only [row_alloc, row_set]; assumption))) only [W_block, ANs, A3s, AOp.map, ↓reduceIte, Nat.reduceAdd, Nat.reduceEqDiff, reduceCtorEq, initFr, Nat.reduceLT, clsA, List.take, List.drop, Nat.reduceLeDiff, Nat.reduceMul, Nat.reduceSub, reduceIte, ANc, A3c]
  refine hq1 _ _ ⟨_, rfl, ?_⟩
  have e : pre ++ enOu x = pre ++ be 1 x.ch ++ nsB [x.cy, x.ep] ++ be 8 x.pr ++ be 4 x.pt := by simp [enOu, nsB, List.append_assoc]
  rw [e]
  exact Put.trans hlt.2 hb1 d1 (Put.trans l1.2 hb2 d2 (Put.trans l2.2 hb3 d3 p4))
theorem t87 {H : AHeap} {p : Nat} {x : St} (g : H.get p = some (.cells true false 68 (cSt x) 51)) (hx : rgSt x) (pre : List UInt8) (hp : pre.length ≤ 1000) : CLO H 87 (ptr p 0) pre (enSt x) := by
  intro H1 b bv k1 hb hbv w
  refine walk2 f87_ok f87_n ?_
  intro Q hq1 hq2
  have lpH := AHeap.get_lt g
  have g := k1.at_ g
  have lp := AHeap.get_lt g
  have lx := cSt_len hx.ht
  simp (disch := (first | assumption | omega | (simp only [List.length_cons, List.length_nil] <;> omega) | (simp only [alloc_n, set_n] <;> omega) | (simp (disch := (first | assumption | omega | (simp only [alloc_n, set_n] <;> omega))) only [row_alloc, row_set]; assumption))) only [f87, W_block, ANs, A3s, AOp.map, ↓reduceIte, Nat.reduceAdd, Nat.reduceEqDiff, reduceCtorEq, initFr, Nat.reduceLT, clsA, List.take, List.drop, Nat.reduceLeDiff, Nat.reduceMul, Nat.reduceSub, reduceIte, ANc, A3c, g]
  refine callK (t88 w hx (by omega)) ?_
  rintro _ K1 p1
  simp (disch := (first | assumption | omega | (simp only [List.length_cons, List.length_nil] <;> omega) | (simp only [alloc_n, set_n] <;> omega) | (simp (disch := (first | assumption | omega | (simp only [alloc_n, set_n] <;> omega))) only [row_alloc, row_set]; assumption))) only [W_block, ANs, A3s, AOp.map, ↓reduceIte, Nat.reduceAdd, Nat.reduceEqDiff, reduceCtorEq, initFr, Nat.reduceLT, clsA, List.take, List.drop, Nat.reduceLeDiff, Nat.reduceMul, Nat.reduceSub, reduceIte, ANc, A3c]
  exact hq1 _ _ ⟨_, rfl, p1⟩
theorem cLo_0 (x : Lo) : (cLo x)[0]? = some (.int .i64 x.e) := rfl
theorem cLo_1 (x : Lo) : (cLo x)[1]? = some (.int .i64 x.c) := rfl
theorem cLo_s {x : Lo} (h : x.s.t.length = 64) : ((cLo x).drop 2).take 68 = cSt x.s := by
  simp only [cLo, List.drop_succ_cons, List.drop_zero]
  exact List.take_of_length_le (by rw [cSt_len h]; omega)
theorem t89 {H : AHeap} {p : Nat} {x : Lo} (g : H.get p = some (.cells true false 70 (cLo x) 57)) (hx : rgSt x.s) (hok : okLo x = true) (pre : List UInt8) (hp : pre.length ≤ 1000) : CLO H 89 (ptr p 0) pre (enLo x) := by
  intro H1 b bv k1 hb hbv w
  have hok' := hok
  simp only [okLo, Bool.and_eq_true, cyB_iff] at hok'
  refine walk2 f89_ok f89_n ?_
  intro Q hq1 hq2
  have lpH := AHeap.get_lt g
  have g := k1.at_ g
  have lp := AHeap.get_lt g
  have hlt := w.lt
  have lx := cLo_len hx.ht
  simp (disch := (first | assumption | omega | (simp only [List.length_cons, List.length_nil] <;> omega) | (simp only [alloc_n, set_n] <;> omega) | (simp (disch := (first | assumption | omega | (simp only [alloc_n, set_n] <;> omega))) only [row_alloc, row_set]; assumption))) only [f89, W_block, ANs, A3s, AOp.map, ↓reduceIte, Nat.reduceAdd, Nat.reduceEqDiff, reduceCtorEq, initFr, Nat.reduceLT, clsA, List.take, List.drop, Nat.reduceLeDiff, Nat.reduceMul, Nat.reduceSub, reduceIte, ANc, A3c, g, cLo_0, cLo_1, fillII]
  refine callK (t80 (w.alloc _) (sl2 _ _ _ _) (by intro y hy; have := blk_slc_eq hy; omega) (by simp; omega) (by omega) (by simp)) ?_
  rintro _ K2 ⟨b2, w2, hb2, d2⟩
  have hb2 := or_al hb2
  have d2 := Chg2.al d2
  have n2 := d2.n
  simp (disch := (first | assumption | omega | (simp only [List.length_cons, List.length_nil] <;> omega) | (simp only [alloc_n, set_n] <;> omega) | (simp (disch := (first | assumption | omega | (simp only [alloc_n, set_n] <;> omega))) only [row_alloc, row_set]; assumption))) only [Chg2.get d2, W_block, ANs, A3s, AOp.map, ↓reduceIte, Nat.reduceAdd, Nat.reduceEqDiff, reduceCtorEq, initFr, Nat.reduceLT, clsA, List.take, List.drop, Nat.reduceLeDiff, Nat.reduceMul, Nat.reduceSub, reduceIte, ANc, A3c, g, cLo_s hx.ht]
  refine callK (t88 w2 hx (by simp [nsB_len]; omega)) ?_
  rintro _ K3 p3
  simp (disch := (first | assumption | omega | (simp only [List.length_cons, List.length_nil] <;> omega) | (simp only [alloc_n, set_n] <;> omega) | (simp (disch := (first | assumption | omega | (simp only [alloc_n, set_n] <;> omega))) only [row_alloc, row_set]; assumption))) only [W_block, ANs, A3s, AOp.map, ↓reduceIte, Nat.reduceAdd, Nat.reduceEqDiff, reduceCtorEq, initFr, Nat.reduceLT, clsA, List.take, List.drop, Nat.reduceLeDiff, Nat.reduceMul, Nat.reduceSub, reduceIte, ANc, A3c]
  refine hq1 _ _ ⟨_, rfl, ?_⟩
  have e : pre ++ enLo x = pre ++ nsB [x.e, x.c] ++ enSt x.s := by simp [enLo, nsB, List.append_assoc]
  rw [e]
  exact Put.trans hlt.2 hb2 d2 p3
theorem t78 {H : AHeap} {p : Nat} {x : Li} {vb : Value} (g : H.get p = some (.cells true false 5 (cLi vb x) 65)) (hB : BS H vb x.B) (hx : rgLi x) (hok : okLi x = true) (pre : List UInt8) (hp : pre.length ≤ 1000) : CLO H 78 (ptr p 0) pre (enLi x) := by
  intro H1 b bv k1 hb hbv w
  have hok' := okLi_iff.1 hok
  refine walk2 f78_ok f78_n ?_
  intro Q hq1 hq2
  have lpH := AHeap.get_lt g
  have g := k1.at_ g
  have lp := AHeap.get_lt g
  have hlt := w.lt
  have hone := hB.sl.one
  have his := hB.sl.is
  have hlen := hB.sl.len
  rw [List.length_map] at hlen
  have hB1 := hB.keeps k1
  have hne : ∀ y ∈ tb vb, y < H.n := hB.tbl
  simp (disch := (first | assumption | omega | (simp only [List.length_cons, List.length_nil] <;> omega) | (simp only [alloc_n, set_n] <;> omega) | (simp (disch := (first | assumption | omega | (simp only [alloc_n, set_n] <;> omega))) only [row_alloc, row_set]; assumption))) only [f78, W_block, ANs, A3s, AOp.map, ↓reduceIte, Nat.reduceAdd, Nat.reduceEqDiff, reduceCtorEq, initFr, Nat.reduceLT, clsA, List.take, List.drop, Nat.reduceLeDiff, Nat.reduceMul, Nat.reduceSub, reduceIte, ANc, A3c, g, cLi]
  refine callK (t79 w x.f hx.hf (by omega)) ?_
  rintro _ K1 ⟨b1, w1, hb1, d1⟩
  have n1 := d1.n
  have l1 := w1.lt
  simp (disch := (first | assumption | omega | (simp only [List.length_cons, List.length_nil] <;> omega) | (simp only [alloc_n, set_n] <;> omega) | (simp (disch := (first | assumption | omega | (simp only [alloc_n, set_n] <;> omega))) only [row_alloc, row_set]; assumption))) only [Chg2.get d1, W_block, ANs, A3s, AOp.map, ↓reduceIte, Nat.reduceAdd, Nat.reduceEqDiff, reduceCtorEq, initFr, Nat.reduceLT, clsA, List.take, List.drop, Nat.reduceLeDiff, Nat.reduceMul, Nat.reduceSub, reduceIte, ANc, A3c, g, cLi]
  refine callK (t79 w1 x.t hx.ht (by simp [be_length]; omega)) ?_
  rintro _ K2 ⟨b2, w2, hb2, d2⟩
  have n2 := d2.n
  have l2 := w2.lt
  simp (disch := (first | assumption | omega | (simp only [List.length_cons, List.length_nil] <;> omega) | (simp only [alloc_n, set_n] <;> omega) | (simp (disch := (first | assumption | omega | (simp only [alloc_n, set_n] <;> omega))) only [row_alloc, row_set]; assumption))) only [Chg2.get d1, Chg2.get d2, W_block, ANs, A3s, AOp.map, ↓reduceIte, Nat.reduceAdd, Nat.reduceEqDiff, reduceCtorEq, initFr, Nat.reduceLT, clsA, List.take, List.drop, Nat.reduceLeDiff, Nat.reduceMul, Nat.reduceSub, reduceIte, ANc, A3c, g, cLi, fillII]
  refine callK (t80 (w2.alloc _) (sl2 _ _ _ _) (by intro y hy; have := blk_slc_eq hy; omega) (by simp; omega) (by simp [be_length]; omega) (by simp)) ?_
  rintro _ K3 ⟨b3, w3, hb3, d3⟩
  have hb3 := or_al hb3
  have d3 := Chg2.al d3
  have n3 := d3.n
  have l3 := w3.lt
  have hw : IntKind.u16.wrap (x.B.length : Int) = (x.B.length : Nat) := by rw [wrap_u16]; omega
  simp (disch := (first | assumption | omega | (simp only [List.length_cons, List.length_nil] <;> omega) | (simp only [alloc_n, set_n] <;> omega) | (simp (disch := (first | assumption | omega | (simp only [alloc_n, set_n] <;> omega))) only [row_alloc, row_set]; assumption))) only [Chg2.get d1, Chg2.get d2, Chg2.get d3, W_block, ANs, A3s, AOp.map, ↓reduceIte, Nat.reduceAdd, Nat.reduceEqDiff, reduceCtorEq, initFr, Nat.reduceLT, clsA, List.take, List.drop, Nat.reduceLeDiff, Nat.reduceMul, Nat.reduceSub, reduceIte, ANc, A3c, g, cLi, hlen, hw]
  refine callK (t81 w3 x.B.length (by omega) (by simp [be_length, nsB_len]; omega)) ?_
  rintro _ K4 ⟨b4, w4, hb4, d4⟩
  have n4 := d4.n
  have l4 := w4.lt
  have hB4 : BS K4 vb x.B := (((hB1.chgT d1 (fun y hy => by have := hne y hy; simp; omega)).chgT d2 (fun y hy => by have := hne y hy; simp; omega)).chgT d3 (fun y hy => by have := hne y hy; simp; omega)).chgT d4 (fun y hy => by have := hne y hy; simp; omega)
  simp (disch := (first | assumption | omega | (simp only [List.length_cons, List.length_nil] <;> omega) | (simp only [alloc_n, set_n] <;> omega) | (simp (disch := (first | assumption | omega | (simp only [alloc_n, set_n] <;> omega))) only [row_alloc, row_set]; assumption))) only [Chg2.get d1, Chg2.get d2, Chg2.get d3, Chg2.get d4, W_block, ANs, A3s, AOp.map, ↓reduceIte, Nat.reduceAdd, Nat.reduceEqDiff, reduceCtorEq, initFr, Nat.reduceLT, clsA, List.take, List.drop, Nat.reduceLeDiff, Nat.reduceMul, Nat.reduceSub, reduceIte, ANc, A3c, g, cLi]
  refine callK (t82 w4 hB4 (by simp [be_length, nsB_len]; omega)) ?_
  rintro _ K5 p5
  simp (disch := (first | assumption | omega | (simp only [List.length_cons, List.length_nil] <;> omega) | (simp only [alloc_n, set_n] <;> omega) | (simp (disch := (first | assumption | omega | (simp only [alloc_n, set_n] <;> omega))) only [row_alloc, row_set]; assumption))) only [W_block, ANs, A3s, AOp.map, ↓reduceIte, Nat.reduceAdd, Nat.reduceEqDiff, reduceCtorEq, initFr, Nat.reduceLT, clsA, List.take, List.drop, Nat.reduceLeDiff, Nat.reduceMul, Nat.reduceSub, reduceIte, ANc, A3c]
  refine hq1 _ _ ⟨_, rfl, ?_⟩
  have e : pre ++ enLi x = pre ++ be 1 x.f ++ be 1 x.t ++ nsB [x.q, x.k] ++ be 2 x.B.length ++ x.B := by simp [enLi, nsB, List.append_assoc]
  rw [e]
  exact Put.trans hlt.2 hb1 d1 (Put.trans l1.2 hb2 d2 (Put.trans l2.2 hb3 d3 (Put.trans l3.2 hb4 d4 p5)))
theorem t83 {H : AHeap} {p : Nat} {x : I6} {vc : Value} (g : H.get p = some (.cells true false 6 (cI6 vc x) 30)) (hC : Sl H 2 vc (CC x.cs)) (hx : rgI6 x) (hok : okI6 x = true) (pre : List UInt8) (hp : pre.length ≤ 1000) : CLO H 83 (ptr p 0) pre (enI6 x) := by
  intro H1 b bv k1 hb hbv w
  have hok' := okI6_iff.1 hok
  refine walk2 f83_ok f83_n ?_
  intro Q hq1 hq2
  have lpH := AHeap.get_lt g
  have g := k1.at_ g
  have lp := AHeap.get_lt g
  have hlt := w.lt
  have hone := hC.one
  have his := hC.is
  have hlen := hC.len
  rw [CC, List.length_map] at hlen
  have hC1 := hC.keeps k1
  simp (disch := (first | assumption | omega | (simp only [List.length_cons, List.length_nil] <;> omega) | (simp only [alloc_n, set_n] <;> omega) | (simp (disch := (first | assumption | omega | (simp only [alloc_n, set_n] <;> omega))) only [row_alloc, row_set]; assumption))) only [f83, W_block, ANs, A3s, AOp.map, ↓reduceIte, Nat.reduceAdd, Nat.reduceEqDiff, reduceCtorEq, initFr, Nat.reduceLT, clsA, List.take, List.drop, Nat.reduceLeDiff, Nat.reduceMul, Nat.reduceSub, reduceIte, ANc, A3c, g, cI6]
  refine callK (t79 w x.ch hx.h1 (by omega)) ?_
  rintro _ K1 ⟨b1, w1, hb1, d1⟩
  have n1 := d1.n
  have l1 := w1.lt
  simp (disch := (first | assumption | omega | (simp only [List.length_cons, List.length_nil] <;> omega) | (simp only [alloc_n, set_n] <;> omega) | (simp (disch := (first | assumption | omega | (simp only [alloc_n, set_n] <;> omega))) only [row_alloc, row_set]; assumption))) only [Chg2.get d1, W_block, ANs, A3s, AOp.map, ↓reduceIte, Nat.reduceAdd, Nat.reduceEqDiff, reduceCtorEq, initFr, Nat.reduceLT, clsA, List.take, List.drop, Nat.reduceLeDiff, Nat.reduceMul, Nat.reduceSub, reduceIte, ANc, A3c, g, cI6, fill1]
  refine callK (t80 (w1.alloc _) (sl1 _ _ _) (by intro y hy; have := blk_slc_eq hy; omega) (by simp; omega) (by simp [be_length]; omega) (by simp)) ?_
  rintro _ K2 ⟨b2, w2, hb2, d2⟩
  have hb2 := or_al hb2
  have d2 := Chg2.al d2
  have n2 := d2.n
  have l2 := w2.lt
  simp (disch := (first | assumption | omega | (simp only [List.length_cons, List.length_nil] <;> omega) | (simp only [alloc_n, set_n] <;> omega) | (simp (disch := (first | assumption | omega | (simp only [alloc_n, set_n] <;> omega))) only [row_alloc, row_set]; assumption))) only [Chg2.get d1, Chg2.get d2, W_block, ANs, A3s, AOp.map, ↓reduceIte, Nat.reduceAdd, Nat.reduceEqDiff, reduceCtorEq, initFr, Nat.reduceLT, clsA, List.take, List.drop, Nat.reduceLeDiff, Nat.reduceMul, Nat.reduceSub, reduceIte, ANc, A3c, g, cI6]
  refine callK (t84 w2 x.oc hx.h2 (by simp [be_length, nsB_len]; omega)) ?_
  rintro _ K3 ⟨b3, w3, hb3, d3⟩
  have n3 := d3.n
  have l3 := w3.lt
  simp (disch := (first | assumption | omega | (simp only [List.length_cons, List.length_nil] <;> omega) | (simp only [alloc_n, set_n] <;> omega) | (simp (disch := (first | assumption | omega | (simp only [alloc_n, set_n] <;> omega))) only [row_alloc, row_set]; assumption))) only [Chg2.get d1, Chg2.get d2, Chg2.get d3, W_block, ANs, A3s, AOp.map, ↓reduceIte, Nat.reduceAdd, Nat.reduceEqDiff, reduceCtorEq, initFr, Nat.reduceLT, clsA, List.take, List.drop, Nat.reduceLeDiff, Nat.reduceMul, Nat.reduceSub, reduceIte, ANc, A3c, g, cI6]
  refine callK (t85 w3 x.no hx.h3 (by simp [be_length, nsB_len]; omega)) ?_
  rintro _ K4 ⟨b4, w4, hb4, d4⟩
  have n4 := d4.n
  have l4 := w4.lt
  simp (disch := (first | assumption | omega | (simp only [List.length_cons, List.length_nil] <;> omega) | (simp only [alloc_n, set_n] <;> omega) | (simp (disch := (first | assumption | omega | (simp only [alloc_n, set_n] <;> omega))) only [row_alloc, row_set]; assumption))) only [Chg2.get d1, Chg2.get d2, Chg2.get d3, Chg2.get d4, W_block, ANs, A3s, AOp.map, ↓reduceIte, Nat.reduceAdd, Nat.reduceEqDiff, reduceCtorEq, initFr, Nat.reduceLT, clsA, List.take, List.drop, Nat.reduceLeDiff, Nat.reduceMul, Nat.reduceSub, reduceIte, ANc, A3c, g, cI6]
  refine callK (t85 w4 x.re hx.h4 (by simp [be_length, nsB_len]; omega)) ?_
  rintro _ K5 ⟨b5, w5, hb5, d5⟩
  have n5 := d5.n
  have l5 := w5.lt
  have hw : IntKind.u8.wrap (x.cs.length : Int) = (x.cs.length : Nat) := by rw [wrap_u8]; omega
  simp (disch := (first | assumption | omega | (simp only [List.length_cons, List.length_nil] <;> omega) | (simp only [alloc_n, set_n] <;> omega) | (simp (disch := (first | assumption | omega | (simp only [alloc_n, set_n] <;> omega))) only [row_alloc, row_set]; assumption))) only [Chg2.get d1, Chg2.get d2, Chg2.get d3, Chg2.get d4, Chg2.get d5, W_block, ANs, A3s, AOp.map, ↓reduceIte, Nat.reduceAdd, Nat.reduceEqDiff, reduceCtorEq, initFr, Nat.reduceLT, clsA, List.take, List.drop, Nat.reduceLeDiff, Nat.reduceMul, Nat.reduceSub, reduceIte, ANc, A3c, g, cI6, hlen, hw]
  refine callK (t79 w5 x.cs.length (by omega) (by simp [be_length, nsB_len]; omega)) ?_
  rintro _ K6 ⟨b6, w6, hb6, d6⟩
  have n6 := d6.n
  have l6 := w6.lt
  have hne : ∀ y ∈ tb vc, y < H.n := hC.tbl
  have hC6 : Sl K6 2 vc (CC x.cs) := (((((hC1.chgT d1 (fun y hy => by have := hne y hy; simp; omega)).chgT d2 (fun y hy => by have := hne y hy; simp; omega)).chgT d3 (fun y hy => by have := hne y hy; simp; omega)).chgT d4 (fun y hy => by have := hne y hy; simp; omega)).chgT d5 (fun y hy => by have := hne y hy; simp; omega)).chgT d6 (fun y hy => by have := hne y hy; simp; omega)
  simp (disch := (first | assumption | omega | (simp only [List.length_cons, List.length_nil] <;> omega) | (simp only [alloc_n, set_n] <;> omega) | (simp (disch := (first | assumption | omega | (simp only [alloc_n, set_n] <;> omega))) only [row_alloc, row_set]; assumption))) only [Chg2.get d1, Chg2.get d2, Chg2.get d3, Chg2.get d4, Chg2.get d5, Chg2.get d6, W_block, ANs, A3s, AOp.map, ↓reduceIte, Nat.reduceAdd, Nat.reduceEqDiff, reduceCtorEq, initFr, Nat.reduceLT, clsA, List.take, List.drop, Nat.reduceLeDiff, Nat.reduceMul, Nat.reduceSub, reduceIte, ANc, A3c, g, cI6, hlen]
  have P6 : ∀ {X : AHeap} {m : List UInt8}, Put K6 X b b6 m → Put H1 X b bv m := fun h => Put.trans hlt.2 hb1 d1 (Put.trans l1.2 hb2 d2 (Put.trans l2.2 hb3 d3 (Put.trans l3.2 hb4 d4 (Put.trans l4.2 hb5 d5 (Put.trans l5.2 hb6 d6 h)))))
  have e0 : pre ++ enI6 x = pre ++ be 1 x.ch ++ nsB [x.cy] ++ be 8 x.oc ++ be 4 x.no ++ be 4 x.re ++ be 1 x.cs.length ++ enCs x.cs := by simp [enI6, nsB, List.append_assoc]
  have hlM : (pre ++ be 1 x.ch ++ nsB [x.cy] ++ be 8 x.oc ++ be 4 x.no ++ be 4 x.re ++ be 1 x.cs.length).length ≤ 2000 := by simp [be_length, nsB_len]; omega
  rw [e0] at hq1
  generalize pre ++ be 1 x.ch ++ nsB [x.cy] ++ be 8 x.oc ++ be 4 x.no ++ be 4 x.re ++ be 1 x.cs.length = M at w6 hq1 hlM
  refine W_loop2 (fun q fr K => ∃ (i bw : Nat) (c e : Value), i ≤ x.cs.length ∧ q = x.cs.length - i ∧ WS K b bw (M ++ enCs (x.cs.take i)) ∧ (bw = b6 ∨ K6.n ≤ bw) ∧ Chg [b, b6] K6 K ∧ fr = [ptr b 0, ptr p 0, c, vc, .int .i64 x.cs.length, .int .i64 i, e]) x.cs.length ⟨0, b6, undef, undef, by omega, rfl, by simpa [enCs] using w6, .inl rfl, Chg.refl _ _, rfl⟩ ?_
  rintro Q' q fr K ⟨i, bw, c, e, hi, rfl, hw', hbw, kK, rfl⟩ hn' he hrt
  have nK := kK.n
  have lw := hw'.lt
  by_cases hc : i < x.cs.length
  · obtain ⟨hnn, hrow⟩ := (hC6.chgT kK (fun y hy => by have := hne y hy; simp; omega)).at_ (by omega) (i := i) (by simpa [CC] using hc)
    simp only [CC, List.getElem_map] at hrow
    have hb := hok'.2.2 _ (List.getElem_mem hc)
    have hwr : IntKind.u8.wrap x.cs[i].2 = ((x.cs[i].2.toNat : Nat) : Int) := by rw [wrap_u8]; omega
    have hle : (enCs (x.cs.take i)).length ≤ 16 := by rw [enCs_len, List.length_take]; omega
    simp (disch := (first | assumption | omega | (simp only [List.length_cons, List.length_nil] <;> omega) | (simp only [alloc_n, set_n] <;> omega) | (simp (disch := (first | assumption | omega | (simp only [alloc_n, set_n] <;> omega))) only [row_alloc, row_set]; assumption))) only [W_block, ANs, A3s, AOp.map, ↓reduceIte, Nat.reduceAdd, Nat.reduceEqDiff, reduceCtorEq, initFr, Nat.reduceLT, clsA, List.take, List.drop, Nat.reduceLeDiff, Nat.reduceMul, Nat.reduceSub, reduceIte, ANc, A3c]
    obtain ⟨Ka, hKa⟩ : ∃ X, X = K.alloc (.cells true false 2 [.int .u8 (x.cs[i].1 : Nat), .int .i64 x.cs[i].2] 108) := ⟨_, rfl⟩
    have ka := (Keeps.refl K).alloc (.cells true false 2 [.int .u8 (x.cs[i].1 : Nat), .int .i64 x.cs[i].2] 108)
    have ga := AHeap.get_alloc_new K (.cells true false 2 [.int .u8 (x.cs[i].1 : Nat), .int .i64 x.cs[i].2] 108)
    have wa := hw'.alloc (.cells true false 2 [.int .u8 (x.cs[i].1 : Nat), .int .i64 x.cs[i].2] 108)
    rw [← hKa] at ka ga wa ⊢
    have la := AHeap.get_lt ga
    have na := ka.n
    refine callK (t79 wa x.cs[i].1 (by omega) (by rw [List.length_append]; omega)) ?_
    rintro _ K8 ⟨b8, w8, hb8, d8⟩
    have n8 := d8.n
    have l8 := w8.lt
    simp (disch := (first | assumption | omega | (simp only [List.length_cons, List.length_nil] <;> omega) | (simp only [alloc_n, set_n] <;> omega) | (simp (disch := (first | assumption | omega | (simp only [alloc_n, set_n] <;> omega))) only [row_alloc, row_set]; assumption))) only [Chg2.get d8, W_block, ANs, A3s, AOp.map, ↓reduceIte, Nat.reduceAdd, Nat.reduceEqDiff, reduceCtorEq, initFr, Nat.reduceLT, clsA, List.take, List.drop, Nat.reduceLeDiff, Nat.reduceMul, Nat.reduceSub, reduceIte, ANc, A3c, ga, hwr]
    refine callK (t79 w8 x.cs[i].2.toNat (by omega) (by rw [List.length_append, List.length_append, be_length]; omega)) ?_
    rintro _ K9 ⟨b9, w9, hb9, d9⟩
    simp (disch := (first | assumption | omega | (simp only [List.length_cons, List.length_nil] <;> omega) | (simp only [alloc_n, set_n] <;> omega) | (simp (disch := (first | assumption | omega | (simp only [alloc_n, set_n] <;> omega))) only [row_alloc, row_set]; assumption))) only [W_block, ANs, A3s, AOp.map, ↓reduceIte, Nat.reduceAdd, Nat.reduceEqDiff, reduceCtorEq, initFr, Nat.reduceLT, clsA, List.take, List.drop, Nat.reduceLeDiff, Nat.reduceMul, Nat.reduceSub, reduceIte, ANc, A3c, wrap_succ (n := i) (by omega)]
    refine hn' _ _ _ ⟨i + 1, b9, _, _, by omega, rfl, ?_, by omega, ?_, rfl⟩ (by omega)
    · rw [List.take_succ_eq_append_getElem hc, enCs_app]
      have e2 : enCs [x.cs[i]] = be 1 x.cs[i].1 ++ be 1 x.cs[i].2.toNat := by simp [enCs]
      rw [e2, ← List.append_assoc, ← List.append_assoc]
      exact w9
    · refine ⟨Nat.le_trans kK.n (Nat.le_trans ka.n (Nat.le_trans d8.n d9.n)), fun y hy hyn => ?_⟩
      simp only [List.mem_cons, List.not_mem_nil, or_false, not_or] at hyn
      rw [d9.get y (by omega) (by simp; omega), d8.get y (by omega) (by simp; omega), ka.get y (by omega), kK.get y hy (by simp; omega)]
  · simp (disch := (first | assumption | omega | (simp only [List.length_cons, List.length_nil] <;> omega) | (simp only [alloc_n, set_n] <;> omega) | (simp (disch := (first | assumption | omega | (simp only [alloc_n, set_n] <;> omega))) only [row_alloc, row_set]; assumption))) only [W_block, ANs, A3s, AOp.map, ↓reduceIte, Nat.reduceAdd, Nat.reduceEqDiff, reduceCtorEq, initFr, Nat.reduceLT, clsA, List.take, List.drop, Nat.reduceLeDiff, Nat.reduceMul, Nat.reduceSub, reduceIte, ANc, A3c]
    refine he _ _ _ ?_
    simp (disch := (first | assumption | omega | (simp only [List.length_cons, List.length_nil] <;> omega) | (simp only [alloc_n, set_n] <;> omega) | (simp (disch := (first | assumption | omega | (simp only [alloc_n, set_n] <;> omega))) only [row_alloc, row_set]; assumption))) only [W_block, ANs, A3s, AOp.map, ↓reduceIte, Nat.reduceAdd, Nat.reduceEqDiff, reduceCtorEq, initFr, Nat.reduceLT, clsA, List.take, List.drop, Nat.reduceLeDiff, Nat.reduceMul, Nat.reduceSub, reduceIte, ANc, A3c]
    rw [List.take_of_length_le (by omega)] at hw'
    exact hq1 _ _ ⟨_, rfl, P6 ⟨bw, hw', hbw, kK⟩⟩
end Go.AM.Fd

set_option linter.unusedSimpArgs false
set_option linter.unusedVariables false
namespace Go.AM.Fd
open Go.Proofs Go.AM.F
theorem new_ws (H : AHeap) : WS (H.alloc (.cells true false 1 [.slice none 0 0] 166)) H.n H.n [] := ⟨_, AHeap.get_alloc_new H _, .inl ⟨rfl, rfl, rfl⟩, .inl ⟨rfl, rfl⟩⟩
theorem be1 (k : Nat) : be 1 k = [UInt8.ofNat k] := by simp [be]
def PutR (H H' : AHeap) (v : Value) (l : List UInt8) : Prop := AP H' 5 1 v l.length (cellsOf l) ∧ Keeps H H' ∧ Fresh H.n v
theorem t77 {H : AHeap} (k : Nat) (hk : k < 256) (vi : Value) (okb : Bool) (g : Nat) (cap : Value) (body : List UInt8) (hb : body.length ≤ 100000)
    (hmay : ∃ v H', ARun Go.Proofs.Try.prog 0 101 [vi] H v H' ∧ v = .bool okb ∧ Keeps H H') (hfill : okb = true → CLO H g cap (be 1 k) body) :
    ∃ v H', ARun Go.Proofs.Try.prog 0 77 [.int .u8 k, vi, .func (.func g) #[] #[cap]] H v H' ∧ PutR H H' v (if okb then chk (UInt8.ofNat k :: body) else []) := by
  refine walk2 f77_ok f77_n ?_
  intro Q hq1 hq2
  simp (disch := (first | assumption | omega | (simp only [List.length_cons, List.length_nil] <;> omega) | (simp only [alloc_n, set_n] <;> omega) | (simp (disch := (first | assumption | omega | (simp only [alloc_n, set_n] <;> omega))) only [row_alloc, row_set]; assumption))) only [f77, W_block, ANs, A3s, AOp.map, ↓reduceIte, Nat.reduceAdd, Nat.reduceEqDiff, reduceCtorEq, initFr, Nat.reduceLT, clsA, List.take, List.drop, Nat.reduceLeDiff, Nat.reduceMul, Nat.reduceSub, reduceIte, ANc, A3c]
  refine callK hmay ?_
  rintro _ H1 ⟨rfl, k1⟩
  cases okb with
  | false =>
    simp (disch := (first | assumption | omega | (simp only [List.length_cons, List.length_nil] <;> omega) | (simp only [alloc_n, set_n] <;> omega) | (simp (disch := (first | assumption | omega | (simp only [alloc_n, set_n] <;> omega))) only [row_alloc, row_set]; assumption))) only [W_block, ANs, A3s, AOp.map, ↓reduceIte, Nat.reduceAdd, Nat.reduceEqDiff, reduceCtorEq, initFr, Nat.reduceLT, clsA, List.take, List.drop, Nat.reduceLeDiff, Nat.reduceMul, Nat.reduceSub, reduceIte, ANc, A3c]
    exact hq2 _ _ ⟨_, rfl, .inl ⟨rfl, rfl, rfl⟩, k1, by intro b hb; cases hb⟩
  | true =>
    have hn1 := k1.n
    simp (disch := (first | assumption | omega | (simp only [List.length_cons, List.length_nil] <;> omega) | (simp only [alloc_n, set_n] <;> omega) | (simp (disch := (first | assumption | omega | (simp only [alloc_n, set_n] <;> omega))) only [row_alloc, row_set]; assumption))) only [W_block, ANs, A3s, AOp.map, ↓reduceIte, Nat.reduceAdd, Nat.reduceEqDiff, reduceCtorEq, initFr, Nat.reduceLT, clsA, List.take, List.drop, Nat.reduceLeDiff, Nat.reduceMul, Nat.reduceSub, reduceIte, ANc, A3c]
    have w0 := new_ws H1
    have k2 := (Keeps.refl H1).alloc (.cells true false 1 [.slice none 0 0] 166)
    obtain ⟨Ha, hHa⟩ : ∃ X, X = H1.alloc (.cells true false 1 [.slice none 0 0] 166) := ⟨_, rfl⟩
    rw [← hHa] at w0 k2 ⊢
    have n2 := k2.n
    refine callK (t79 w0 k hk (by simp)) ?_
    rintro _ H3 ⟨b3, w3, hb3, d3⟩
    rw [List.nil_append] at w3
    have n3 := d3.n
    have k3 : Keeps H H3 := (k1.trans k2).chg_trans d3 (by simp; omega)
    simp (disch := (first | assumption | omega | (simp only [List.length_cons, List.length_nil] <;> omega) | (simp only [alloc_n, set_n] <;> omega) | (simp (disch := (first | assumption | omega | (simp only [alloc_n, set_n] <;> omega))) only [row_alloc, row_set]; assumption))) only [W_block, ANs, A3s, AOp.map, ↓reduceIte, Nat.reduceAdd, Nat.reduceEqDiff, reduceCtorEq, initFr, Nat.reduceLT, clsA, List.take, List.drop, Nat.reduceLeDiff, Nat.reduceMul, Nat.reduceSub, reduceIte, ANc, A3c]
    refine callK (hfill rfl H3 H1.n b3 k3 (by omega) (by omega) w3) ?_
    rintro _ H4 ⟨b4, w4, hb4, d4⟩
    have n4 := d4.n
    have k4 : Keeps H H4 := k3.chg_trans d4 (by simp; omega)
    have hlen : (be 1 k ++ body).length ≤ 1000000 := by simp [be_length]; omega
    simp (disch := (first | assumption | omega | (simp only [List.length_cons, List.length_nil] <;> omega) | (simp only [alloc_n, set_n] <;> omega) | (simp (disch := (first | assumption | omega | (simp only [alloc_n, set_n] <;> omega))) only [row_alloc, row_set]; assumption))) only [W_block, ANs, A3s, AOp.map, ↓reduceIte, Nat.reduceAdd, Nat.reduceEqDiff, reduceCtorEq, initFr, Nat.reduceLT, clsA, List.take, List.drop, Nat.reduceLeDiff, Nat.reduceMul, Nat.reduceSub, reduceIte, ANc, A3c]
    refine callK (t104 w4 (by omega)) ?_
    rintro v5 H5 ⟨a5, k5, f5⟩
    simp (disch := (first | assumption | omega | (simp only [List.length_cons, List.length_nil] <;> omega) | (simp only [alloc_n, set_n] <;> omega) | (simp (disch := (first | assumption | omega | (simp only [alloc_n, set_n] <;> omega))) only [row_alloc, row_set]; assumption))) only [W_block, ANs, A3s, AOp.map, ↓reduceIte, Nat.reduceAdd, Nat.reduceEqDiff, reduceCtorEq, initFr, Nat.reduceLT, clsA, List.take, List.drop, Nat.reduceLeDiff, Nat.reduceMul, Nat.reduceSub, reduceIte, ANc, A3c]
    refine callK (t97 a5.bs (by omega)) ?_
    rintro _ _ ⟨rfl, rfl⟩
    simp (disch := (first | assumption | omega | (simp only [List.length_cons, List.length_nil] <;> omega) | (simp only [alloc_n, set_n] <;> omega) | (simp (disch := (first | assumption | omega | (simp only [alloc_n, set_n] <;> omega))) only [row_alloc, row_set]; assumption))) only [W_block, ANs, A3s, AOp.map, ↓reduceIte, Nat.reduceAdd, Nat.reduceEqDiff, reduceCtorEq, initFr, Nat.reduceLT, clsA, List.take, List.drop, Nat.reduceLeDiff, Nat.reduceMul, Nat.reduceSub, reduceIte, ANc, A3c]
    refine callK (t85 (w4.chg (k5.chg []) (by simp) (by simp)) (crc (be 1 k ++ body)) (crc_lt _) (by omega)) ?_
    rintro _ H6 ⟨b6, w6, hb6, d6⟩
    have n6 := d6.n
    have n5 := k5.n
    simp (disch := (first | assumption | omega | (simp only [List.length_cons, List.length_nil] <;> omega) | (simp only [alloc_n, set_n] <;> omega) | (simp (disch := (first | assumption | omega | (simp only [alloc_n, set_n] <;> omega))) only [row_alloc, row_set]; assumption))) only [W_block, ANs, A3s, AOp.map, ↓reduceIte, Nat.reduceAdd, Nat.reduceEqDiff, reduceCtorEq, initFr, Nat.reduceLT, clsA, List.take, List.drop, Nat.reduceLeDiff, Nat.reduceMul, Nat.reduceSub, reduceIte, ANc, A3c]
    refine callK (t104 w6 (by rw [List.length_append, be_length]; omega)) ?_
    rintro v7 H7 ⟨a7, k7, f7⟩
    simp (disch := (first | assumption | omega | (simp only [List.length_cons, List.length_nil] <;> omega) | (simp only [alloc_n, set_n] <;> omega) | (simp (disch := (first | assumption | omega | (simp only [alloc_n, set_n] <;> omega))) only [row_alloc, row_set]; assumption))) only [W_block, ANs, A3s, AOp.map, ↓reduceIte, Nat.reduceAdd, Nat.reduceEqDiff, reduceCtorEq, initFr, Nat.reduceLT, clsA, List.take, List.drop, Nat.reduceLeDiff, Nat.reduceMul, Nat.reduceSub, reduceIte, ANc, A3c]
    have k6 : Keeps H H6 := (k4.trans k5).chg_trans d6 (by simp; omega)
    refine hq2 _ _ ⟨_, rfl, ?_, k6.trans k7, fun b hb => by have := f7 b hb; have := k6.n; omega⟩
    rw [be1] at a7
    exact a7
def fOu (x : Ou) : List UInt8 := if okOu x then chk (2 :: enOu x) else []
def fSt (x : St) : List UInt8 := chk (3 :: enSt x)
def fLo (x : Lo) : List UInt8 := if okLo x then chk (4 :: enLo x) else []
def fLi (x : Li) : List UInt8 := if okLi x then chk (5 :: enLi x) else []
def fI6 (x : I6) : List UInt8 := if okI6 x then chk (1 :: enI6 x) else []
theorem CLO.keeps {H H' : AHeap} {g : Nat} {cap : Value} {pre body : List UInt8} (h : CLO H g cap pre body) (k : Keeps H H') : CLO H' g cap pre body :=
  fun H1 b bv k1 hb hbv w => h H1 b bv (k.trans k1) (Nat.le_trans k.n hb) (Nat.le_trans k.n hbv) w
theorem PutR.from_ {A B C : AHeap} {v : Value} {l : List UInt8} (k : Keeps A B) (h : PutR B C v l) : PutR A C v l := ⟨h.1, k.trans h.2.1, fun b hb => Nat.le_trans k.n (h.2.2 b hb)⟩
theorem t45 (x : Ou) (hx : rgOu x) (H : AHeap) : ∃ v H', ARun Go.Proofs.Try.prog 0 45 [.agg (cOu x).toArray] H v H' ∧ PutR H H' v (fOu x) := by
  refine walk2 f45_ok f45_n ?_
  intro Q hq1 hq2
  have lx : (cOu x).length = 5 := rfl
  have ox : (cOu x).all Value.oneCell' = true := rfl
  have k0 := (Keeps.refl H).alloc (.cells true false 5 (cOu x) 42)
  have g := AHeap.get_alloc_new H (.cells true false 5 (cOu x) 42)
  simp (disch := (first | assumption | omega | (simp only [List.length_cons, List.length_nil] <;> omega) | (simp only [alloc_n, set_n] <;> omega) | (simp (disch := (first | assumption | omega | (simp only [alloc_n, set_n] <;> omega))) only [row_alloc, row_set]; assumption))) only [f45, W_block, ANs, A3s, AOp.map, ↓reduceIte, Nat.reduceAdd, Nat.reduceEqDiff, reduceCtorEq, initFr, Nat.reduceLT, clsA, List.take, List.drop, Nat.reduceLeDiff, Nat.reduceMul, Nat.reduceSub, reduceIte, ANc, A3c, ox]
  refine callK (t77 2 (by omega) _ (okOu x) 86 _ (enOu x) (by rw [enOu_len]; omega) (mayOu x _) (fun hok => t86 g hx hok _ (by rw [be_length]; omega))) ?_
  rintro v H' p
  simp (disch := (first | assumption | omega | (simp only [List.length_cons, List.length_nil] <;> omega) | (simp only [alloc_n, set_n] <;> omega) | (simp (disch := (first | assumption | omega | (simp only [alloc_n, set_n] <;> omega))) only [row_alloc, row_set]; assumption))) only [W_block, ANs, A3s, AOp.map, ↓reduceIte, Nat.reduceAdd, Nat.reduceEqDiff, reduceCtorEq, initFr, Nat.reduceLT, clsA, List.take, List.drop, Nat.reduceLeDiff, Nat.reduceMul, Nat.reduceSub, reduceIte, ANc, A3c]
  exact hq2 _ _ ⟨_, rfl, PutR.from_ k0 p⟩
theorem t46 (x : St) (hx : rgSt x) (H : AHeap) : ∃ v H', ARun Go.Proofs.Try.prog 0 46 [.agg (cSt x).toArray] H v H' ∧ PutR H H' v (fSt x) := by
  refine walk2 f46_ok f46_n ?_
  intro Q hq1 hq2
  have lx := cSt_len hx.ht
  have ox := cSt_one x
  have k0 := (Keeps.refl H).alloc (.cells true false 68 (cSt x) 51)
  have g := AHeap.get_alloc_new H (.cells true false 68 (cSt x) 51)
  simp (disch := (first | assumption | omega | (simp only [List.length_cons, List.length_nil] <;> omega) | (simp only [alloc_n, set_n] <;> omega) | (simp (disch := (first | assumption | omega | (simp only [alloc_n, set_n] <;> omega))) only [row_alloc, row_set]; assumption))) only [f46, W_block, ANs, A3s, AOp.map, ↓reduceIte, Nat.reduceAdd, Nat.reduceEqDiff, reduceCtorEq, initFr, Nat.reduceLT, clsA, List.take, List.drop, Nat.reduceLeDiff, Nat.reduceMul, Nat.reduceSub, reduceIte, ANc, A3c, ox]
  refine callK (t77 3 (by omega) _ true 87 _ (enSt x) (by rw [enSt_len hx.ht]; omega) (maySt x _) (fun hok => t87 g hx _ (by rw [be_length]; omega))) ?_
  rintro v H' p
  simp (disch := (first | assumption | omega | (simp only [List.length_cons, List.length_nil] <;> omega) | (simp only [alloc_n, set_n] <;> omega) | (simp (disch := (first | assumption | omega | (simp only [alloc_n, set_n] <;> omega))) only [row_alloc, row_set]; assumption))) only [W_block, ANs, A3s, AOp.map, ↓reduceIte, Nat.reduceAdd, Nat.reduceEqDiff, reduceCtorEq, initFr, Nat.reduceLT, clsA, List.take, List.drop, Nat.reduceLeDiff, Nat.reduceMul, Nat.reduceSub, reduceIte, ANc, A3c]
  exact hq2 _ _ ⟨_, rfl, PutR.from_ k0 p⟩
theorem t47 (x : Lo) (hx : rgSt x.s) (H : AHeap) : ∃ v H', ARun Go.Proofs.Try.prog 0 47 [.agg (cLo x).toArray] H v H' ∧ PutR H H' v (fLo x) := by
  refine walk2 f47_ok f47_n ?_
  intro Q hq1 hq2
  have lx := cLo_len hx.ht
  have ox := cLo_one x
  have k0 := (Keeps.refl H).alloc (.cells true false 70 (cLo x) 57)
  have g := AHeap.get_alloc_new H (.cells true false 70 (cLo x) 57)
  simp (disch := (first | assumption | omega | (simp only [List.length_cons, List.length_nil] <;> omega) | (simp only [alloc_n, set_n] <;> omega) | (simp (disch := (first | assumption | omega | (simp only [alloc_n, set_n] <;> omega))) only [row_alloc, row_set]; assumption))) only [f47, W_block, ANs, A3s, AOp.map, ↓reduceIte, Nat.reduceAdd, Nat.reduceEqDiff, reduceCtorEq, initFr, Nat.reduceLT, clsA, List.take, List.drop, Nat.reduceLeDiff, Nat.reduceMul, Nat.reduceSub, reduceIte, ANc, A3c, ox]
  refine callK (t77 4 (by omega) _ (okLo x) 89 _ (enLo x) (by rw [enLo_len hx.ht]; omega) (mayLo x hx.ht _) (fun hok => t89 g hx hok _ (by rw [be_length]; omega))) ?_
  rintro v H' p
  simp (disch := (first | assumption | omega | (simp only [List.length_cons, List.length_nil] <;> omega) | (simp only [alloc_n, set_n] <;> omega) | (simp (disch := (first | assumption | omega | (simp only [alloc_n, set_n] <;> omega))) only [row_alloc, row_set]; assumption))) only [W_block, ANs, A3s, AOp.map, ↓reduceIte, Nat.reduceAdd, Nat.reduceEqDiff, reduceCtorEq, initFr, Nat.reduceLT, clsA, List.take, List.drop, Nat.reduceLeDiff, Nat.reduceMul, Nat.reduceSub, reduceIte, ANc, A3c]
  exact hq2 _ _ ⟨_, rfl, PutR.from_ k0 p⟩
theorem t36 {H : AHeap} (x : Li) {vb : Value} (hx : rgLi x) (hB : BS H vb x.B) (hl : x.B.length ≤ 50000) : ∃ v H', ARun Go.Proofs.Try.prog 0 36 [.agg (cLi vb x).toArray] H v H' ∧ PutR H H' v (fLi x) := by
  refine walk2 f36_ok f36_n ?_
  intro Q hq1 hq2
  have hone := hB.sl.one
  have k0 := (Keeps.refl H).alloc (.cells true false 5 (cLi vb x) 65)
  have g := AHeap.get_alloc_new H (.cells true false 5 (cLi vb x) 65)
  have hcl : vb.cells.toList = [vb] := by obtain ⟨a, k, rfl⟩ := hB.sh; rfl
  have lx : (cLi vb x).length = 5 := rfl
  have ox : (cLi vb x).all Value.oneCell' = true := by simp only [cLi, List.all_cons, List.all_nil, hone]; rfl
  simp (disch := (first | assumption | omega | (simp only [List.length_cons, List.length_nil] <;> omega) | (simp only [alloc_n, set_n] <;> omega) | (simp (disch := (first | assumption | omega | (simp only [alloc_n, set_n] <;> omega))) only [row_alloc, row_set]; assumption))) only [f36, W_block, ANs, A3s, AOp.map, ↓reduceIte, Nat.reduceAdd, Nat.reduceEqDiff, reduceCtorEq, initFr, Nat.reduceLT, clsA, List.take, List.drop, Nat.reduceLeDiff, Nat.reduceMul, Nat.reduceSub, reduceIte, ANc, A3c, ox]
  have hB1 := hB.keeps k0
  refine callK (t77 5 (by omega) _ (okLi x) 78 _ (enLi x) (by rw [enLi_len]; omega) (mayLi x hB1) (fun hok => t78 g hB1 hx hok _ (by rw [be_length]; omega))) ?_
  rintro v H' p
  simp (disch := (first | assumption | omega | (simp only [List.length_cons, List.length_nil] <;> omega) | (simp only [alloc_n, set_n] <;> omega) | (simp (disch := (first | assumption | omega | (simp only [alloc_n, set_n] <;> omega))) only [row_alloc, row_set]; assumption))) only [W_block, ANs, A3s, AOp.map, ↓reduceIte, Nat.reduceAdd, Nat.reduceEqDiff, reduceCtorEq, initFr, Nat.reduceLT, clsA, List.take, List.drop, Nat.reduceLeDiff, Nat.reduceMul, Nat.reduceSub, reduceIte, ANc, A3c]
  exact hq2 _ _ ⟨_, rfl, PutR.from_ k0 p⟩
theorem t44 {H : AHeap} (x : I6) {vc : Value} (hx : rgI6 x) (hC : Sl H 2 vc (CC x.cs)) (hl : x.cs.length ≤ 40000) : ∃ v H', ARun Go.Proofs.Try.prog 0 44 [.agg (cI6 vc x).toArray] H v H' ∧ PutR H H' v (fI6 x) := by
  refine walk2 f44_ok f44_n ?_
  intro Q hq1 hq2
  have hone := hC.one
  have k0 := (Keeps.refl H).alloc (.cells true false 6 (cI6 vc x) 30)
  have g := AHeap.get_alloc_new H (.cells true false 6 (cI6 vc x) 30)
  have lx : (cI6 vc x).length = 6 := rfl
  have ox : (cI6 vc x).all Value.oneCell' = true := by simp only [cI6, List.all_cons, List.all_nil, hone]; rfl
  simp (disch := (first | assumption | omega | (simp only [List.length_cons, List.length_nil] <;> omega) | (simp only [alloc_n, set_n] <;> omega) | (simp (disch := (first | assumption | omega | (simp only [alloc_n, set_n] <;> omega))) only [row_alloc, row_set]; assumption))) only [f44, W_block, ANs, A3s, AOp.map, ↓reduceIte, Nat.reduceAdd, Nat.reduceEqDiff, reduceCtorEq, initFr, Nat.reduceLT, clsA, List.take, List.drop, Nat.reduceLeDiff, Nat.reduceMul, Nat.reduceSub, reduceIte, ANc, A3c, ox]
  have hC1 := hC.keeps k0
  refine callK (t77 1 (by omega) _ (okI6 x) 83 _ (enI6 x) (by rw [enI6_len]; omega) (mayI6 x hC1 (by omega)) (fun hok => t83 g hC1 hx hok _ (by rw [be_length]; omega))) ?_
  rintro v H' p
  simp (disch := (first | assumption | omega | (simp only [List.length_cons, List.length_nil] <;> omega) | (simp only [alloc_n, set_n] <;> omega) | (simp (disch := (first | assumption | omega | (simp only [alloc_n, set_n] <;> omega))) only [row_alloc, row_set]; assumption))) only [W_block, ANs, A3s, AOp.map, ↓reduceIte, Nat.reduceAdd, Nat.reduceEqDiff, reduceCtorEq, initFr, Nat.reduceLT, clsA, List.take, List.drop, Nat.reduceLeDiff, Nat.reduceMul, Nat.reduceSub, reduceIte, ANc, A3c]
  exact hq2 _ _ ⟨_, rfl, PutR.from_ k0 p⟩
end Go.AM.Fd

set_option linter.unusedSimpArgs false
set_option linter.unusedVariables false
namespace Go.AM.Fd
open Go.Proofs Go.AM.F
def GotV (c : List Value) (e : Int) : Value := .tuple #[.agg c.toArray, .int .i64 e]
-- got{
theorem t68 {H : AHeap} {lo hi r s : Nat} {l : List UInt8} (h : RR H lo hi r l s) (ok : Bool) (x : Ou) : ∃ v H', ARun Go.Proofs.Try.prog 0 68 [ptr r 0, .bool ok, .agg (cOu x).toArray] H v H' ∧ Keeps H H' ∧
    v = if ok = true ∧ l.length = s ∧ okOu x = true then GotV (cOu x) 0 else GotV (cOu Ou0) 130 := by
  refine walk2 f68_ok f68_n ?_
  intro Q hq1 hq2
  have hr : ∀ fr H', resO f68.res fr H' = (celln 5 (fr.getD 4 undef) H').map fun c => .tuple #[c, fr.getD 5 undef] := fun fr H' => resCT 5 4 5 fr
  have lx : (cOu x).length = 5 := rfl
  have ox : (cOu x).all Value.oneCell' = true := rfl
  cases ok with
  | false =>
    simp (disch := (first | assumption | omega | (simp only [List.length_cons, List.length_nil] <;> omega) | (simp only [alloc_n, set_n] <;> omega) | (simp (disch := (first | assumption | omega | (simp only [alloc_n, set_n] <;> omega))) only [row_alloc, row_set]; assumption))) only [f68, W_block, ANs, A3s, AOp.map, ↓reduceIte, Nat.reduceAdd, Nat.reduceEqDiff, reduceCtorEq, initFr, Nat.reduceLT, clsA, List.take, List.drop, Nat.reduceLeDiff, Nat.reduceMul, Nat.reduceSub, reduceIte, ANc, A3c, ox]
    refine hq2 _ _ ⟨_, by rw [hr]; simp (disch := (first | assumption | omega | (simp only [List.length_cons, List.length_nil] <;> omega) | (simp only [alloc_n, set_n] <;> omega) | (simp (disch := (first | assumption | omega | (simp only [alloc_n, set_n] <;> omega))) only [row_alloc, row_set]; assumption))) only [W_block, ANs, A3s, AOp.map, ↓reduceIte, Nat.reduceAdd, Nat.reduceEqDiff, reduceCtorEq, initFr, Nat.reduceLT, clsA, List.take, List.drop, Nat.reduceLeDiff, Nat.reduceMul, Nat.reduceSub, reduceIte, ANc, A3c]; rfl, by ((repeat (first | exact Keeps.refl _ | assumption | refine Keeps.alloc ?_ _ | (refine Keeps.set ?_ (by first | omega | (simp only [alloc_n, set_n] <;> omega)) (by first | omega | (simp only [alloc_n, set_n] <;> omega)) _) | (refine Keeps.trans' (by assumption) ?_)))), by rw [if_neg (by simp)]; rfl⟩
  | true =>
    simp (disch := (first | assumption | omega | (simp only [List.length_cons, List.length_nil] <;> omega) | (simp only [alloc_n, set_n] <;> omega) | (simp (disch := (first | assumption | omega | (simp only [alloc_n, set_n] <;> omega))) only [row_alloc, row_set]; assumption))) only [f68, W_block, ANs, A3s, AOp.map, ↓reduceIte, Nat.reduceAdd, Nat.reduceEqDiff, reduceCtorEq, initFr, Nat.reduceLT, clsA, List.take, List.drop, Nat.reduceLeDiff, Nat.reduceMul, Nat.reduceSub, reduceIte, ANc, A3c, ox]
    refine callK (q99 (h.keeps (by ((repeat (first | exact Keeps.refl _ | assumption | refine Keeps.alloc ?_ _ | (refine Keeps.set ?_ (by first | omega | (simp only [alloc_n, set_n] <;> omega)) (by first | omega | (simp only [alloc_n, set_n] <;> omega)) _) | (refine Keeps.trans' (by assumption) ?_))))))) ?_
    rintro _ _ ⟨rfl, rfl⟩
    by_cases h1 : l.length < s
    · have e1 : decide (l.length < s) = true := by simp [h1]
      simp (disch := (first | assumption | omega | (simp only [List.length_cons, List.length_nil] <;> omega) | (simp only [alloc_n, set_n] <;> omega) | (simp (disch := (first | assumption | omega | (simp only [alloc_n, set_n] <;> omega))) only [row_alloc, row_set]; assumption))) only [W_block, ANs, A3s, AOp.map, ↓reduceIte, Nat.reduceAdd, Nat.reduceEqDiff, reduceCtorEq, initFr, Nat.reduceLT, clsA, List.take, List.drop, Nat.reduceLeDiff, Nat.reduceMul, Nat.reduceSub, reduceIte, ANc, A3c, ox, e1]
      refine hq2 _ _ ⟨_, by rw [hr]; simp (disch := (first | assumption | omega | (simp only [List.length_cons, List.length_nil] <;> omega) | (simp only [alloc_n, set_n] <;> omega) | (simp (disch := (first | assumption | omega | (simp only [alloc_n, set_n] <;> omega))) only [row_alloc, row_set]; assumption))) only [W_block, ANs, A3s, AOp.map, ↓reduceIte, Nat.reduceAdd, Nat.reduceEqDiff, reduceCtorEq, initFr, Nat.reduceLT, clsA, List.take, List.drop, Nat.reduceLeDiff, Nat.reduceMul, Nat.reduceSub, reduceIte, ANc, A3c]; rfl, by ((repeat (first | exact Keeps.refl _ | assumption | refine Keeps.alloc ?_ _ | (refine Keeps.set ?_ (by first | omega | (simp only [alloc_n, set_n] <;> omega)) (by first | omega | (simp only [alloc_n, set_n] <;> omega)) _) | (refine Keeps.trans' (by assumption) ?_)))), by rw [if_neg (by omega)]; rfl⟩
    · have e1 : decide (l.length < s) = false := by simp [h1]
      simp (disch := (first | assumption | omega | (simp only [List.length_cons, List.length_nil] <;> omega) | (simp only [alloc_n, set_n] <;> omega) | (simp (disch := (first | assumption | omega | (simp only [alloc_n, set_n] <;> omega))) only [row_alloc, row_set]; assumption))) only [W_block, ANs, A3s, AOp.map, ↓reduceIte, Nat.reduceAdd, Nat.reduceEqDiff, reduceCtorEq, initFr, Nat.reduceLT, clsA, List.take, List.drop, Nat.reduceLeDiff, Nat.reduceMul, Nat.reduceSub, reduceIte, ANc, A3c, ox, e1]
      refine callK (q100 (h.keeps (by ((repeat (first | exact Keeps.refl _ | assumption | refine Keeps.alloc ?_ _ | (refine Keeps.set ?_ (by first | omega | (simp only [alloc_n, set_n] <;> omega)) (by first | omega | (simp only [alloc_n, set_n] <;> omega)) _) | (refine Keeps.trans' (by assumption) ?_))))))) ?_
      rintro _ _ ⟨rfl, rfl⟩
      by_cases h2 : l.length = s
      · have e2 : ¬ (0 : Int) < ((l.length - s : Nat) : Int) := by omega
        simp (disch := (first | assumption | omega | (simp only [List.length_cons, List.length_nil] <;> omega) | (simp only [alloc_n, set_n] <;> omega) | (simp (disch := (first | assumption | omega | (simp only [alloc_n, set_n] <;> omega))) only [row_alloc, row_set]; assumption))) only [W_block, ANs, A3s, AOp.map, ↓reduceIte, Nat.reduceAdd, Nat.reduceEqDiff, reduceCtorEq, initFr, Nat.reduceLT, clsA, List.take, List.drop, Nat.reduceLeDiff, Nat.reduceMul, Nat.reduceSub, reduceIte, ANc, A3c, ox, e2]
        refine callK (mayOu x _) ?_
        rintro _ K ⟨rfl, k⟩
        have nk := k.n
        simp only [alloc_n, set_n] at nk
        cases h3 : okOu x with
        | false =>
          simp (disch := (first | assumption | omega | (simp only [List.length_cons, List.length_nil] <;> omega) | (simp only [alloc_n, set_n] <;> omega) | (simp (disch := (first | assumption | omega | (simp only [alloc_n, set_n] <;> omega))) only [row_alloc, row_set, Keeps.row k]; assumption))) only [Keeps.get k, Keeps.row k, W_block, ANs, A3s, AOp.map, ↓reduceIte, Nat.reduceAdd, Nat.reduceEqDiff, reduceCtorEq, initFr, Nat.reduceLT, clsA, List.take, List.drop, Nat.reduceLeDiff, Nat.reduceMul, Nat.reduceSub, reduceIte, ANc, A3c, ox, h3]
          refine hq2 _ _ ⟨_, by rw [hr]; simp (disch := (first | assumption | omega | (simp only [List.length_cons, List.length_nil] <;> omega) | (simp only [alloc_n, set_n] <;> omega) | (simp (disch := (first | assumption | omega | (simp only [alloc_n, set_n] <;> omega))) only [row_alloc, row_set, Keeps.row k]; assumption))) only [Keeps.get k, Keeps.row k, W_block, ANs, A3s, AOp.map, ↓reduceIte, Nat.reduceAdd, Nat.reduceEqDiff, reduceCtorEq, initFr, Nat.reduceLT, clsA, List.take, List.drop, Nat.reduceLeDiff, Nat.reduceMul, Nat.reduceSub, reduceIte, ANc, A3c]; rfl, by ((repeat (first | exact Keeps.refl _ | assumption | refine Keeps.alloc ?_ _ | (refine Keeps.set ?_ (by first | omega | (simp only [alloc_n, set_n] <;> omega)) (by first | omega | (simp only [alloc_n, set_n] <;> omega)) _) | (refine Keeps.trans' (by assumption) ?_)))), by rw [if_neg (by simp [h3])]; rfl⟩
        | true =>
          simp (disch := (first | assumption | omega | (simp only [List.length_cons, List.length_nil] <;> omega) | (simp only [alloc_n, set_n] <;> omega) | (simp (disch := (first | assumption | omega | (simp only [alloc_n, set_n] <;> omega))) only [row_alloc, row_set, Keeps.row k]; assumption))) only [Keeps.get k, Keeps.row k, W_block, ANs, A3s, AOp.map, ↓reduceIte, Nat.reduceAdd, Nat.reduceEqDiff, reduceCtorEq, initFr, Nat.reduceLT, clsA, List.take, List.drop, Nat.reduceLeDiff, Nat.reduceMul, Nat.reduceSub, reduceIte, ANc, A3c, ox, h3]
          refine hq2 _ _ ⟨_, by rw [hr]; simp (disch := (first | assumption | omega | (simp only [List.length_cons, List.length_nil] <;> omega) | (simp only [alloc_n, set_n] <;> omega) | (simp (disch := (first | assumption | omega | (simp only [alloc_n, set_n] <;> omega))) only [row_alloc, row_set, Keeps.row k]; assumption))) only [Keeps.get k, Keeps.row k, W_block, ANs, A3s, AOp.map, ↓reduceIte, Nat.reduceAdd, Nat.reduceEqDiff, reduceCtorEq, initFr, Nat.reduceLT, clsA, List.take, List.drop, Nat.reduceLeDiff, Nat.reduceMul, Nat.reduceSub, reduceIte, ANc, A3c]; rfl, by ((repeat (first | exact Keeps.refl _ | assumption | refine Keeps.alloc ?_ _ | (refine Keeps.set ?_ (by first | omega | (simp only [alloc_n, set_n] <;> omega)) (by first | omega | (simp only [alloc_n, set_n] <;> omega)) _) | (refine Keeps.trans' (by assumption) ?_)))), by rw [if_pos ⟨rfl, h2, h3⟩]; rfl⟩
      · have e2 : (0 : Int) < ((l.length - s : Nat) : Int) := by omega
        simp (disch := (first | assumption | omega | (simp only [List.length_cons, List.length_nil] <;> omega) | (simp only [alloc_n, set_n] <;> omega) | (simp (disch := (first | assumption | omega | (simp only [alloc_n, set_n] <;> omega))) only [row_alloc, row_set]; assumption))) only [W_block, ANs, A3s, AOp.map, ↓reduceIte, Nat.reduceAdd, Nat.reduceEqDiff, reduceCtorEq, initFr, Nat.reduceLT, clsA, List.take, List.drop, Nat.reduceLeDiff, Nat.reduceMul, Nat.reduceSub, reduceIte, ANc, A3c, ox, e2]
        refine hq2 _ _ ⟨_, by rw [hr]; simp (disch := (first | assumption | omega | (simp only [List.length_cons, List.length_nil] <;> omega) | (simp only [alloc_n, set_n] <;> omega) | (simp (disch := (first | assumption | omega | (simp only [alloc_n, set_n] <;> omega))) only [row_alloc, row_set]; assumption))) only [W_block, ANs, A3s, AOp.map, ↓reduceIte, Nat.reduceAdd, Nat.reduceEqDiff, reduceCtorEq, initFr, Nat.reduceLT, clsA, List.take, List.drop, Nat.reduceLeDiff, Nat.reduceMul, Nat.reduceSub, reduceIte, ANc, A3c]; rfl, by ((repeat (first | exact Keeps.refl _ | assumption | refine Keeps.alloc ?_ _ | (refine Keeps.set ?_ (by first | omega | (simp only [alloc_n, set_n] <;> omega)) (by first | omega | (simp only [alloc_n, set_n] <;> omega)) _) | (refine Keeps.trans' (by assumption) ?_)))), by rw [if_neg (by omega)]; rfl⟩
theorem n68 {H : AHeap} (x : Ou) : ∃ v H', ARun Go.Proofs.Try.prog 0 68 [.pointer none, .bool false, .agg (cOu x).toArray] H v H' ∧ Keeps H H' ∧ v = GotV (cOu Ou0) 130 := by
  refine walk2 f68_ok f68_n ?_
  intro Q hq1 hq2
  have hr : ∀ fr H', resO f68.res fr H' = (celln 5 (fr.getD 4 undef) H').map fun c => .tuple #[c, fr.getD 5 undef] := fun fr H' => resCT 5 4 5 fr
  have lx : (cOu x).length = 5 := rfl
  have ox : (cOu x).all Value.oneCell' = true := rfl
  simp (disch := (first | assumption | omega | (simp only [List.length_cons, List.length_nil] <;> omega) | (simp only [alloc_n, set_n] <;> omega) | (simp (disch := (first | assumption | omega | (simp only [alloc_n, set_n] <;> omega))) only [row_alloc, row_set]; assumption))) only [f68, W_block, ANs, A3s, AOp.map, ↓reduceIte, Nat.reduceAdd, Nat.reduceEqDiff, reduceCtorEq, initFr, Nat.reduceLT, clsA, List.take, List.drop, Nat.reduceLeDiff, Nat.reduceMul, Nat.reduceSub, reduceIte, ANc, A3c, ox]
  refine hq2 _ _ ⟨_, by rw [hr]; simp (disch := (first | assumption | omega | (simp only [List.length_cons, List.length_nil] <;> omega) | (simp only [alloc_n, set_n] <;> omega) | (simp (disch := (first | assumption | omega | (simp only [alloc_n, set_n] <;> omega))) only [row_alloc, row_set]; assumption))) only [W_block, ANs, A3s, AOp.map, ↓reduceIte, Nat.reduceAdd, Nat.reduceEqDiff, reduceCtorEq, initFr, Nat.reduceLT, clsA, List.take, List.drop, Nat.reduceLeDiff, Nat.reduceMul, Nat.reduceSub, reduceIte, ANc, A3c]; rfl, by ((repeat (first | exact Keeps.refl _ | assumption | refine Keeps.alloc ?_ _ | (refine Keeps.set ?_ (by first | omega | (simp only [alloc_n, set_n] <;> omega)) (by first | omega | (simp only [alloc_n, set_n] <;> omega)) _) | (refine Keeps.trans' (by assumption) ?_)))), rfl⟩
theorem t76 {H : AHeap} {lo hi r s : Nat} {l : List UInt8} (h : RR H lo hi r l s) (ok : Bool) (x : Li) {vb : Value} (hB : BS H vb x.B) : ∃ v H', ARun Go.Proofs.Try.prog 0 76 [ptr r 0, .bool ok, .agg (cLi vb x).toArray] H v H' ∧ Keeps H H' ∧
    v = if ok = true ∧ l.length = s ∧ okLi x = true then GotV (cLi vb x) 0 else GotV (cLi (.slice none 0 0) Li0) 130 := by
  refine walk2 f76_ok f76_n ?_
  intro Q hq1 hq2
  have hr : ∀ fr H', resO f76.res fr H' = (celln 5 (fr.getD 4 undef) H').map fun c => .tuple #[c, fr.getD 5 undef] := fun fr H' => resCT 5 4 5 fr
  have hone := hB.sl.one
  have lx : (cLi vb x).length = 5 := rfl
  have ox : (cLi vb x).all Value.oneCell' = true := by simp only [cLi, List.all_cons, List.all_nil, hone]; rfl
  cases ok with
  | false =>
    simp (disch := (first | assumption | omega | (simp only [List.length_cons, List.length_nil] <;> omega) | (simp only [alloc_n, set_n] <;> omega) | (simp (disch := (first | assumption | omega | (simp only [alloc_n, set_n] <;> omega))) only [row_alloc, row_set]; assumption))) only [f76, W_block, ANs, A3s, AOp.map, ↓reduceIte, Nat.reduceAdd, Nat.reduceEqDiff, reduceCtorEq, initFr, Nat.reduceLT, clsA, List.take, List.drop, Nat.reduceLeDiff, Nat.reduceMul, Nat.reduceSub, reduceIte, ANc, A3c, ox]
    refine hq2 _ _ ⟨_, by rw [hr]; simp (disch := (first | assumption | omega | (simp only [List.length_cons, List.length_nil] <;> omega) | (simp only [alloc_n, set_n] <;> omega) | (simp (disch := (first | assumption | omega | (simp only [alloc_n, set_n] <;> omega))) only [row_alloc, row_set]; assumption))) only [W_block, ANs, A3s, AOp.map, ↓reduceIte, Nat.reduceAdd, Nat.reduceEqDiff, reduceCtorEq, initFr, Nat.reduceLT, clsA, List.take, List.drop, Nat.reduceLeDiff, Nat.reduceMul, Nat.reduceSub, reduceIte, ANc, A3c]; rfl, by ((repeat (first | exact Keeps.refl _ | assumption | refine Keeps.alloc ?_ _ | (refine Keeps.set ?_ (by first | omega | (simp only [alloc_n, set_n] <;> omega)) (by first | omega | (simp only [alloc_n, set_n] <;> omega)) _) | (refine Keeps.trans' (by assumption) ?_)))), by rw [if_neg (by simp)]; rfl⟩
  | true =>
    simp (disch := (first | assumption | omega | (simp only [List.length_cons, List.length_nil] <;> omega) | (simp only [alloc_n, set_n] <;> omega) | (simp (disch := (first | assumption | omega | (simp only [alloc_n, set_n] <;> omega))) only [row_alloc, row_set]; assumption))) only [f76, W_block, ANs, A3s, AOp.map, ↓reduceIte, Nat.reduceAdd, Nat.reduceEqDiff, reduceCtorEq, initFr, Nat.reduceLT, clsA, List.take, List.drop, Nat.reduceLeDiff, Nat.reduceMul, Nat.reduceSub, reduceIte, ANc, A3c, ox]
    refine callK (q99 (h.keeps (by ((repeat (first | exact Keeps.refl _ | assumption | refine Keeps.alloc ?_ _ | (refine Keeps.set ?_ (by first | omega | (simp only [alloc_n, set_n] <;> omega)) (by first | omega | (simp only [alloc_n, set_n] <;> omega)) _) | (refine Keeps.trans' (by assumption) ?_))))))) ?_
    rintro _ _ ⟨rfl, rfl⟩
    by_cases h1 : l.length < s
    · have e1 : decide (l.length < s) = true := by simp [h1]
      simp (disch := (first | assumption | omega | (simp only [List.length_cons, List.length_nil] <;> omega) | (simp only [alloc_n, set_n] <;> omega) | (simp (disch := (first | assumption | omega | (simp only [alloc_n, set_n] <;> omega))) only [row_alloc, row_set]; assumption))) only [W_block, ANs, A3s, AOp.map, ↓reduceIte, Nat.reduceAdd, Nat.reduceEqDiff, reduceCtorEq, initFr, Nat.reduceLT, clsA, List.take, List.drop, Nat.reduceLeDiff, Nat.reduceMul, Nat.reduceSub, reduceIte, ANc, A3c, ox, e1]
      refine hq2 _ _ ⟨_, by rw [hr]; simp (disch := (first | assumption | omega | (simp only [List.length_cons, List.length_nil] <;> omega) | (simp only [alloc_n, set_n] <;> omega) | (simp (disch := (first | assumption | omega | (simp only [alloc_n, set_n] <;> omega))) only [row_alloc, row_set]; assumption))) only [W_block, ANs, A3s, AOp.map, ↓reduceIte, Nat.reduceAdd, Nat.reduceEqDiff, reduceCtorEq, initFr, Nat.reduceLT, clsA, List.take, List.drop, Nat.reduceLeDiff, Nat.reduceMul, Nat.reduceSub, reduceIte, ANc, A3c]; rfl, by ((repeat (first | exact Keeps.refl _ | assumption | refine Keeps.alloc ?_ _ | (refine Keeps.set ?_ (by first | omega | (simp only [alloc_n, set_n] <;> omega)) (by first | omega | (simp only [alloc_n, set_n] <;> omega)) _) | (refine Keeps.trans' (by assumption) ?_)))), by rw [if_neg (by omega)]; rfl⟩
    · have e1 : decide (l.length < s) = false := by simp [h1]
      simp (disch := (first | assumption | omega | (simp only [List.length_cons, List.length_nil] <;> omega) | (simp only [alloc_n, set_n] <;> omega) | (simp (disch := (first | assumption | omega | (simp only [alloc_n, set_n] <;> omega))) only [row_alloc, row_set]; assumption))) only [W_block, ANs, A3s, AOp.map, ↓reduceIte, Nat.reduceAdd, Nat.reduceEqDiff, reduceCtorEq, initFr, Nat.reduceLT, clsA, List.take, List.drop, Nat.reduceLeDiff, Nat.reduceMul, Nat.reduceSub, reduceIte, ANc, A3c, ox, e1]
      refine callK (q100 (h.keeps (by ((repeat (first | exact Keeps.refl _ | assumption | refine Keeps.alloc ?_ _ | (refine Keeps.set ?_ (by first | omega | (simp only [alloc_n, set_n] <;> omega)) (by first | omega | (simp only [alloc_n, set_n] <;> omega)) _) | (refine Keeps.trans' (by assumption) ?_))))))) ?_
      rintro _ _ ⟨rfl, rfl⟩
      by_cases h2 : l.length = s
      · have e2 : ¬ (0 : Int) < ((l.length - s : Nat) : Int) := by omega
        simp (disch := (first | assumption | omega | (simp only [List.length_cons, List.length_nil] <;> omega) | (simp only [alloc_n, set_n] <;> omega) | (simp (disch := (first | assumption | omega | (simp only [alloc_n, set_n] <;> omega))) only [row_alloc, row_set]; assumption))) only [W_block, ANs, A3s, AOp.map, ↓reduceIte, Nat.reduceAdd, Nat.reduceEqDiff, reduceCtorEq, initFr, Nat.reduceLT, clsA, List.take, List.drop, Nat.reduceLeDiff, Nat.reduceMul, Nat.reduceSub, reduceIte, ANc, A3c, ox, e2]
        refine callK (mayLi x (hB.keeps (by ((repeat (first | exact Keeps.refl _ | assumption | refine Keeps.alloc ?_ _ | (refine Keeps.set ?_ (by first | omega | (simp only [alloc_n, set_n] <;> omega)) (by first | omega | (simp only [alloc_n, set_n] <;> omega)) _) | (refine Keeps.trans' (by assumption) ?_))))))) ?_
        rintro _ K ⟨rfl, k⟩
        have nk := k.n
        simp only [alloc_n, set_n] at nk
        cases h3 : okLi x with
        | false =>
          simp (disch := (first | assumption | omega | (simp only [List.length_cons, List.length_nil] <;> omega) | (simp only [alloc_n, set_n] <;> omega) | (simp (disch := (first | assumption | omega | (simp only [alloc_n, set_n] <;> omega))) only [row_alloc, row_set, Keeps.row k]; assumption))) only [Keeps.get k, Keeps.row k, W_block, ANs, A3s, AOp.map, ↓reduceIte, Nat.reduceAdd, Nat.reduceEqDiff, reduceCtorEq, initFr, Nat.reduceLT, clsA, List.take, List.drop, Nat.reduceLeDiff, Nat.reduceMul, Nat.reduceSub, reduceIte, ANc, A3c, ox, h3]
          refine hq2 _ _ ⟨_, by rw [hr]; simp (disch := (first | assumption | omega | (simp only [List.length_cons, List.length_nil] <;> omega) | (simp only [alloc_n, set_n] <;> omega) | (simp (disch := (first | assumption | omega | (simp only [alloc_n, set_n] <;> omega))) only [row_alloc, row_set, Keeps.row k]; assumption))) only [Keeps.get k, Keeps.row k, W_block, ANs, A3s, AOp.map, ↓reduceIte, Nat.reduceAdd, Nat.reduceEqDiff, reduceCtorEq, initFr, Nat.reduceLT, clsA, List.take, List.drop, Nat.reduceLeDiff, Nat.reduceMul, Nat.reduceSub, reduceIte, ANc, A3c]; rfl, by ((repeat (first | exact Keeps.refl _ | assumption | refine Keeps.alloc ?_ _ | (refine Keeps.set ?_ (by first | omega | (simp only [alloc_n, set_n] <;> omega)) (by first | omega | (simp only [alloc_n, set_n] <;> omega)) _) | (refine Keeps.trans' (by assumption) ?_)))), by rw [if_neg (by simp [h3])]; rfl⟩
        | true =>
          simp (disch := (first | assumption | omega | (simp only [List.length_cons, List.length_nil] <;> omega) | (simp only [alloc_n, set_n] <;> omega) | (simp (disch := (first | assumption | omega | (simp only [alloc_n, set_n] <;> omega))) only [row_alloc, row_set, Keeps.row k]; assumption))) only [Keeps.get k, Keeps.row k, W_block, ANs, A3s, AOp.map, ↓reduceIte, Nat.reduceAdd, Nat.reduceEqDiff, reduceCtorEq, initFr, Nat.reduceLT, clsA, List.take, List.drop, Nat.reduceLeDiff, Nat.reduceMul, Nat.reduceSub, reduceIte, ANc, A3c, ox, h3]
          refine hq2 _ _ ⟨_, by rw [hr]; simp (disch := (first | assumption | omega | (simp only [List.length_cons, List.length_nil] <;> omega) | (simp only [alloc_n, set_n] <;> omega) | (simp (disch := (first | assumption | omega | (simp only [alloc_n, set_n] <;> omega))) only [row_alloc, row_set, Keeps.row k]; assumption))) only [Keeps.get k, Keeps.row k, W_block, ANs, A3s, AOp.map, ↓reduceIte, Nat.reduceAdd, Nat.reduceEqDiff, reduceCtorEq, initFr, Nat.reduceLT, clsA, List.take, List.drop, Nat.reduceLeDiff, Nat.reduceMul, Nat.reduceSub, reduceIte, ANc, A3c]; rfl, by ((repeat (first | exact Keeps.refl _ | assumption | refine Keeps.alloc ?_ _ | (refine Keeps.set ?_ (by first | omega | (simp only [alloc_n, set_n] <;> omega)) (by first | omega | (simp only [alloc_n, set_n] <;> omega)) _) | (refine Keeps.trans' (by assumption) ?_)))), by rw [if_pos ⟨rfl, h2, h3⟩]; rfl⟩
      · have e2 : (0 : Int) < ((l.length - s : Nat) : Int) := by omega
        simp (disch := (first | assumption | omega | (simp only [List.length_cons, List.length_nil] <;> omega) | (simp only [alloc_n, set_n] <;> omega) | (simp (disch := (first | assumption | omega | (simp only [alloc_n, set_n] <;> omega))) only [row_alloc, row_set]; assumption))) only [W_block, ANs, A3s, AOp.map, ↓reduceIte, Nat.reduceAdd, Nat.reduceEqDiff, reduceCtorEq, initFr, Nat.reduceLT, clsA, List.take, List.drop, Nat.reduceLeDiff, Nat.reduceMul, Nat.reduceSub, reduceIte, ANc, A3c, ox, e2]
        refine hq2 _ _ ⟨_, by rw [hr]; simp (disch := (first | assumption | omega | (simp only [List.length_cons, List.length_nil] <;> omega) | (simp only [alloc_n, set_n] <;> omega) | (simp (disch := (first | assumption | omega | (simp only [alloc_n, set_n] <;> omega))) only [row_alloc, row_set]; assumption))) only [W_block, ANs, A3s, AOp.map, ↓reduceIte, Nat.reduceAdd, Nat.reduceEqDiff, reduceCtorEq, initFr, Nat.reduceLT, clsA, List.take, List.drop, Nat.reduceLeDiff, Nat.reduceMul, Nat.reduceSub, reduceIte, ANc, A3c]; rfl, by ((repeat (first | exact Keeps.refl _ | assumption | refine Keeps.alloc ?_ _ | (refine Keeps.set ?_ (by first | omega | (simp only [alloc_n, set_n] <;> omega)) (by first | omega | (simp only [alloc_n, set_n] <;> omega)) _) | (refine Keeps.trans' (by assumption) ?_)))), by rw [if_neg (by omega)]; rfl⟩
theorem n76 {H : AHeap} (x : Li) {vb : Value} (hB : BS H vb x.B) : ∃ v H', ARun Go.Proofs.Try.prog 0 76 [.pointer none, .bool false, .agg (cLi vb x).toArray] H v H' ∧ Keeps H H' ∧ v = GotV (cLi (.slice none 0 0) Li0) 130 := by
  refine walk2 f76_ok f76_n ?_
  intro Q hq1 hq2
  have hr : ∀ fr H', resO f76.res fr H' = (celln 5 (fr.getD 4 undef) H').map fun c => .tuple #[c, fr.getD 5 undef] := fun fr H' => resCT 5 4 5 fr
  have hone := hB.sl.one
  have lx : (cLi vb x).length = 5 := rfl
  have ox : (cLi vb x).all Value.oneCell' = true := by simp only [cLi, List.all_cons, List.all_nil, hone]; rfl
  simp (disch := (first | assumption | omega | (simp only [List.length_cons, List.length_nil] <;> omega) | (simp only [alloc_n, set_n] <;> omega) | (simp (disch := (first | assumption | omega | (simp only [alloc_n, set_n] <;> omega))) only [row_alloc, row_set]; assumption))) only [f76, W_block, ANs, A3s, AOp.map, ↓reduceIte, Nat.reduceAdd, Nat.reduceEqDiff, reduceCtorEq, initFr, Nat.reduceLT, clsA, List.take, List.drop, Nat.reduceLeDiff, Nat.reduceMul, Nat.reduceSub, reduceIte, ANc, A3c, ox]
  refine hq2 _ _ ⟨_, by rw [hr]; simp (disch := (first | assumption | omega | (simp only [List.length_cons, List.length_nil] <;> omega) | (simp only [alloc_n, set_n] <;> omega) | (simp (disch := (first | assumption | omega | (simp only [alloc_n, set_n] <;> omega))) only [row_alloc, row_set]; assumption))) only [W_block, ANs, A3s, AOp.map, ↓reduceIte, Nat.reduceAdd, Nat.reduceEqDiff, reduceCtorEq, initFr, Nat.reduceLT, clsA, List.take, List.drop, Nat.reduceLeDiff, Nat.reduceMul, Nat.reduceSub, reduceIte, ANc, A3c]; rfl, by ((repeat (first | exact Keeps.refl _ | assumption | refine Keeps.alloc ?_ _ | (refine Keeps.set ?_ (by first | omega | (simp only [alloc_n, set_n] <;> omega)) (by first | omega | (simp only [alloc_n, set_n] <;> omega)) _) | (refine Keeps.trans' (by assumption) ?_)))), rfl⟩
theorem t66 {H : AHeap} {lo hi r s : Nat} {l : List UInt8} (h : RR H lo hi r l s) (ok : Bool) (x : I6) {vc : Value} (hC : Sl H 2 vc (CC x.cs)) (hl : x.cs.length ≤ 100000) : ∃ v H', ARun Go.Proofs.Try.prog 0 66 [ptr r 0, .bool ok, .agg (cI6 vc x).toArray] H v H' ∧ Keeps H H' ∧
    v = if ok = true ∧ l.length = s ∧ okI6 x = true then GotV (cI6 vc x) 0 else GotV (cI6 (.slice none 0 0) I60) 130 := by
  refine walk2 f66_ok f66_n ?_
  intro Q hq1 hq2
  have hr : ∀ fr H', resO f66.res fr H' = (celln 6 (fr.getD 4 undef) H').map fun c => .tuple #[c, fr.getD 5 undef] := fun fr H' => resCT 6 4 5 fr
  have hone := hC.one
  have lx : (cI6 vc x).length = 6 := rfl
  have ox : (cI6 vc x).all Value.oneCell' = true := by simp only [cI6, List.all_cons, List.all_nil, hone]; rfl
  cases ok with
  | false =>
    simp (disch := (first | assumption | omega | (simp only [List.length_cons, List.length_nil] <;> omega) | (simp only [alloc_n, set_n] <;> omega) | (simp (disch := (first | assumption | omega | (simp only [alloc_n, set_n] <;> omega))) only [row_alloc, row_set]; assumption))) only [f66, W_block, ANs, A3s, AOp.map, ↓reduceIte, Nat.reduceAdd, Nat.reduceEqDiff, reduceCtorEq, initFr, Nat.reduceLT, clsA, List.take, List.drop, Nat.reduceLeDiff, Nat.reduceMul, Nat.reduceSub, reduceIte, ANc, A3c, ox]
    refine hq2 _ _ ⟨_, by rw [hr]; simp (disch := (first | assumption | omega | (simp only [List.length_cons, List.length_nil] <;> omega) | (simp only [alloc_n, set_n] <;> omega) | (simp (disch := (first | assumption | omega | (simp only [alloc_n, set_n] <;> omega))) only [row_alloc, row_set]; assumption))) only [W_block, ANs, A3s, AOp.map, ↓reduceIte, Nat.reduceAdd, Nat.reduceEqDiff, reduceCtorEq, initFr, Nat.reduceLT, clsA, List.take, List.drop, Nat.reduceLeDiff, Nat.reduceMul, Nat.reduceSub, reduceIte, ANc, A3c]; rfl, by ((repeat (first | exact Keeps.refl _ | assumption | refine Keeps.alloc ?_ _ | (refine Keeps.set ?_ (by first | omega | (simp only [alloc_n, set_n] <;> omega)) (by first | omega | (simp only [alloc_n, set_n] <;> omega)) _) | (refine Keeps.trans' (by assumption) ?_)))), by rw [if_neg (by simp)]; rfl⟩
  | true =>
    simp (disch := (first | assumption | omega | (simp only [List.length_cons, List.length_nil] <;> omega) | (simp only [alloc_n, set_n] <;> omega) | (simp (disch := (first | assumption | omega | (simp only [alloc_n, set_n] <;> omega))) only [row_alloc, row_set]; assumption))) only [f66, W_block, ANs, A3s, AOp.map, ↓reduceIte, Nat.reduceAdd, Nat.reduceEqDiff, reduceCtorEq, initFr, Nat.reduceLT, clsA, List.take, List.drop, Nat.reduceLeDiff, Nat.reduceMul, Nat.reduceSub, reduceIte, ANc, A3c, ox]
    refine callK (q99 (h.keeps (by ((repeat (first | exact Keeps.refl _ | assumption | refine Keeps.alloc ?_ _ | (refine Keeps.set ?_ (by first | omega | (simp only [alloc_n, set_n] <;> omega)) (by first | omega | (simp only [alloc_n, set_n] <;> omega)) _) | (refine Keeps.trans' (by assumption) ?_))))))) ?_
    rintro _ _ ⟨rfl, rfl⟩
    by_cases h1 : l.length < s
    · have e1 : decide (l.length < s) = true := by simp [h1]
      simp (disch := (first | assumption | omega | (simp only [List.length_cons, List.length_nil] <;> omega) | (simp only [alloc_n, set_n] <;> omega) | (simp (disch := (first | assumption | omega | (simp only [alloc_n, set_n] <;> omega))) only [row_alloc, row_set]; assumption))) only [W_block, ANs, A3s, AOp.map, ↓reduceIte, Nat.reduceAdd, Nat.reduceEqDiff, reduceCtorEq, initFr, Nat.reduceLT, clsA, List.take, List.drop, Nat.reduceLeDiff, Nat.reduceMul, Nat.reduceSub, reduceIte, ANc, A3c, ox, e1]
      refine hq2 _ _ ⟨_, by rw [hr]; simp (disch := (first | assumption | omega | (simp only [List.length_cons, List.length_nil] <;> omega) | (simp only [alloc_n, set_n] <;> omega) | (simp (disch := (first | assumption | omega | (simp only [alloc_n, set_n] <;> omega))) only [row_alloc, row_set]; assumption))) only [W_block, ANs, A3s, AOp.map, ↓reduceIte, Nat.reduceAdd, Nat.reduceEqDiff, reduceCtorEq, initFr, Nat.reduceLT, clsA, List.take, List.drop, Nat.reduceLeDiff, Nat.reduceMul, Nat.reduceSub, reduceIte, ANc, A3c]; rfl, by ((repeat (first | exact Keeps.refl _ | assumption | refine Keeps.alloc ?_ _ | (refine Keeps.set ?_ (by first | omega | (simp only [alloc_n, set_n] <;> omega)) (by first | omega | (simp only [alloc_n, set_n] <;> omega)) _) | (refine Keeps.trans' (by assumption) ?_)))), by rw [if_neg (by omega)]; rfl⟩
    · have e1 : decide (l.length < s) = false := by simp [h1]
      simp (disch := (first | assumption | omega | (simp only [List.length_cons, List.length_nil] <;> omega) | (simp only [alloc_n, set_n] <;> omega) | (simp (disch := (first | assumption | omega | (simp only [alloc_n, set_n] <;> omega))) only [row_alloc, row_set]; assumption))) only [W_block, ANs, A3s, AOp.map, ↓reduceIte, Nat.reduceAdd, Nat.reduceEqDiff, reduceCtorEq, initFr, Nat.reduceLT, clsA, List.take, List.drop, Nat.reduceLeDiff, Nat.reduceMul, Nat.reduceSub, reduceIte, ANc, A3c, ox, e1]
      refine callK (q100 (h.keeps (by ((repeat (first | exact Keeps.refl _ | assumption | refine Keeps.alloc ?_ _ | (refine Keeps.set ?_ (by first | omega | (simp only [alloc_n, set_n] <;> omega)) (by first | omega | (simp only [alloc_n, set_n] <;> omega)) _) | (refine Keeps.trans' (by assumption) ?_))))))) ?_
      rintro _ _ ⟨rfl, rfl⟩
      by_cases h2 : l.length = s
      · have e2 : ¬ (0 : Int) < ((l.length - s : Nat) : Int) := by omega
        simp (disch := (first | assumption | omega | (simp only [List.length_cons, List.length_nil] <;> omega) | (simp only [alloc_n, set_n] <;> omega) | (simp (disch := (first | assumption | omega | (simp only [alloc_n, set_n] <;> omega))) only [row_alloc, row_set]; assumption))) only [W_block, ANs, A3s, AOp.map, ↓reduceIte, Nat.reduceAdd, Nat.reduceEqDiff, reduceCtorEq, initFr, Nat.reduceLT, clsA, List.take, List.drop, Nat.reduceLeDiff, Nat.reduceMul, Nat.reduceSub, reduceIte, ANc, A3c, ox, e2]
        refine callK (mayI6 x (hC.keeps (by ((repeat (first | exact Keeps.refl _ | assumption | refine Keeps.alloc ?_ _ | (refine Keeps.set ?_ (by first | omega | (simp only [alloc_n, set_n] <;> omega)) (by first | omega | (simp only [alloc_n, set_n] <;> omega)) _) | (refine Keeps.trans' (by assumption) ?_)))))) (by omega)) ?_
        rintro _ K ⟨rfl, k⟩
        have nk := k.n
        simp only [alloc_n, set_n] at nk
        cases h3 : okI6 x with
        | false =>
          simp (disch := (first | assumption | omega | (simp only [List.length_cons, List.length_nil] <;> omega) | (simp only [alloc_n, set_n] <;> omega) | (simp (disch := (first | assumption | omega | (simp only [alloc_n, set_n] <;> omega))) only [row_alloc, row_set, Keeps.row k]; assumption))) only [Keeps.get k, Keeps.row k, W_block, ANs, A3s, AOp.map, ↓reduceIte, Nat.reduceAdd, Nat.reduceEqDiff, reduceCtorEq, initFr, Nat.reduceLT, clsA, List.take, List.drop, Nat.reduceLeDiff, Nat.reduceMul, Nat.reduceSub, reduceIte, ANc, A3c, ox, h3]
          refine hq2 _ _ ⟨_, by rw [hr]; simp (disch := (first | assumption | omega | (simp only [List.length_cons, List.length_nil] <;> omega) | (simp only [alloc_n, set_n] <;> omega) | (simp (disch := (first | assumption | omega | (simp only [alloc_n, set_n] <;> omega))) only [row_alloc, row_set, Keeps.row k]; assumption))) only [Keeps.get k, Keeps.row k, W_block, ANs, A3s, AOp.map, ↓reduceIte, Nat.reduceAdd, Nat.reduceEqDiff, reduceCtorEq, initFr, Nat.reduceLT, clsA, List.take, List.drop, Nat.reduceLeDiff, Nat.reduceMul, Nat.reduceSub, reduceIte, ANc, A3c]; rfl, by ((repeat (first | exact Keeps.refl _ | assumption | refine Keeps.alloc ?_ _ | (refine Keeps.set ?_ (by first | omega | (simp only [alloc_n, set_n] <;> omega)) (by first | omega | (simp only [alloc_n, set_n] <;> omega)) _) | (refine Keeps.trans' (by assumption) ?_)))), by rw [if_neg (by simp [h3])]; rfl⟩
        | true =>
          simp (disch := (first | assumption | omega | (simp only [List.length_cons, List.length_nil] <;> omega) | (simp only [alloc_n, set_n] <;> omega) | (simp (disch := (first | assumption | omega | (simp only [alloc_n, set_n] <;> omega))) only [row_alloc, row_set, Keeps.row k]; assumption))) only [Keeps.get k, Keeps.row k, W_block, ANs, A3s, AOp.map, ↓reduceIte, Nat.reduceAdd, Nat.reduceEqDiff, reduceCtorEq, initFr, Nat.reduceLT, clsA, List.take, List.drop, Nat.reduceLeDiff, Nat.reduceMul, Nat.reduceSub, reduceIte, ANc, A3c, ox, h3]
          refine hq2 _ _ ⟨_, by rw [hr]; simp (disch := (first | assumption | omega | (simp only [List.length_cons, List.length_nil] <;> omega) | (simp only [alloc_n, set_n] <;> omega) | (simp (disch := (first | assumption | omega | (simp only [alloc_n, set_n] <;> omega))) only [row_alloc, row_set, Keeps.row k]; assumption))) only [Keeps.get k, Keeps.row k, W_block, ANs, A3s, AOp.map, ↓reduceIte, Nat.reduceAdd, Nat.reduceEqDiff, reduceCtorEq, initFr, Nat.reduceLT, clsA, List.take, List.drop, Nat.reduceLeDiff, Nat.reduceMul, Nat.reduceSub, reduceIte, ANc, A3c]; rfl, by ((repeat (first | exact Keeps.refl _ | assumption | refine Keeps.alloc ?_ _ | (refine Keeps.set ?_ (by first | omega | (simp only [alloc_n, set_n] <;> omega)) (by first | omega | (simp only [alloc_n, set_n] <;> omega)) _) | (refine Keeps.trans' (by assumption) ?_)))), by rw [if_pos ⟨rfl, h2, h3⟩]; rfl⟩
      · have e2 : (0 : Int) < ((l.length - s : Nat) : Int) := by omega
        simp (disch := (first | assumption | omega | (simp only [List.length_cons, List.length_nil] <;> omega) | (simp only [alloc_n, set_n] <;> omega) | (simp (disch := (first | assumption | omega | (simp only [alloc_n, set_n] <;> omega))) only [row_alloc, row_set]; assumption))) only [W_block, ANs, A3s, AOp.map, ↓reduceIte, Nat.reduceAdd, Nat.reduceEqDiff, reduceCtorEq, initFr, Nat.reduceLT, clsA, List.take, List.drop, Nat.reduceLeDiff, Nat.reduceMul, Nat.reduceSub, reduceIte, ANc, A3c, ox, e2]
        refine hq2 _ _ ⟨_, by rw [hr]; simp (disch := (first | assumption | omega | (simp only [List.length_cons, List.length_nil] <;> omega) | (simp only [alloc_n, set_n] <;> omega) | (simp (disch := (first | assumption | omega | (simp only [alloc_n, set_n] <;> omega))) only [row_alloc, row_set]; assumption))) only [W_block, ANs, A3s, AOp.map, ↓reduceIte, Nat.reduceAdd, Nat.reduceEqDiff, reduceCtorEq, initFr, Nat.reduceLT, clsA, List.take, List.drop, Nat.reduceLeDiff, Nat.reduceMul, Nat.reduceSub, reduceIte, ANc, A3c]; rfl, by ((repeat (first | exact Keeps.refl _ | assumption | refine Keeps.alloc ?_ _ | (refine Keeps.set ?_ (by first | omega | (simp only [alloc_n, set_n] <;> omega)) (by first | omega | (simp only [alloc_n, set_n] <;> omega)) _) | (refine Keeps.trans' (by assumption) ?_)))), by rw [if_neg (by omega)]; rfl⟩
theorem n66 {H : AHeap} (x : I6) {vc : Value} (hC : Sl H 2 vc (CC x.cs)) : ∃ v H', ARun Go.Proofs.Try.prog 0 66 [.pointer none, .bool false, .agg (cI6 vc x).toArray] H v H' ∧ Keeps H H' ∧ v = GotV (cI6 (.slice none 0 0) I60) 130 := by
  refine walk2 f66_ok f66_n ?_
  intro Q hq1 hq2
  have hr : ∀ fr H', resO f66.res fr H' = (celln 6 (fr.getD 4 undef) H').map fun c => .tuple #[c, fr.getD 5 undef] := fun fr H' => resCT 6 4 5 fr
  have hone := hC.one
  have lx : (cI6 vc x).length = 6 := rfl
  have ox : (cI6 vc x).all Value.oneCell' = true := by simp only [cI6, List.all_cons, List.all_nil, hone]; rfl
  simp (disch := (first | assumption | omega | (simp only [List.length_cons, List.length_nil] <;> omega) | (simp only [alloc_n, set_n] <;> omega) | (simp (disch := (first | assumption | omega | (simp only [alloc_n, set_n] <;> omega))) only [row_alloc, row_set]; assumption))) only [f66, W_block, ANs, A3s, AOp.map, ↓reduceIte, Nat.reduceAdd, Nat.reduceEqDiff, reduceCtorEq, initFr, Nat.reduceLT, clsA, List.take, List.drop, Nat.reduceLeDiff, Nat.reduceMul, Nat.reduceSub, reduceIte, ANc, A3c, ox]
  refine hq2 _ _ ⟨_, by rw [hr]; simp (disch := (first | assumption | omega | (simp only [List.length_cons, List.length_nil] <;> omega) | (simp only [alloc_n, set_n] <;> omega) | (simp (disch := (first | assumption | omega | (simp only [alloc_n, set_n] <;> omega))) only [row_alloc, row_set]; assumption))) only [W_block, ANs, A3s, AOp.map, ↓reduceIte, Nat.reduceAdd, Nat.reduceEqDiff, reduceCtorEq, initFr, Nat.reduceLT, clsA, List.take, List.drop, Nat.reduceLeDiff, Nat.reduceMul, Nat.reduceSub, reduceIte, ANc, A3c]; rfl, by ((repeat (first | exact Keeps.refl _ | assumption | refine Keeps.alloc ?_ _ | (refine Keeps.set ?_ (by first | omega | (simp only [alloc_n, set_n] <;> omega)) (by first | omega | (simp only [alloc_n, set_n] <;> omega)) _) | (refine Keeps.trans' (by assumption) ?_)))), rfl⟩
theorem t69 {H : AHeap} {lo hi r s : Nat} {l : List UInt8} (h : RR H lo hi r l s) (ok : Bool) (x : St) (hx : x.t.length = 64) : ∃ v H', ARun Go.Proofs.Try.prog 0 69 [ptr r 0, .bool ok, .agg (cSt x).toArray] H v H' ∧ Keeps H H' ∧
    v = if ok = true ∧ l.length = s then GotV (cSt x) 0 else GotV (cSt St0) 130 := by
  refine walk2 f69_ok f69_n ?_
  intro Q hq1 hq2
  have hr : ∀ fr H', resO f69.res fr H' = (celln 68 (fr.getD 4 undef) H').map fun c => .tuple #[c, fr.getD 5 undef] := fun fr H' => resCT 68 4 5 fr
  have lx := cSt_len hx
  have ox := cSt_one x
  have lz : Z68.length = 68 := rfl
  have oz : Z68.all Value.oneCell' = true := rfl
  cases ok with
  | false =>
    simp (disch := (first | assumption | omega | (simp only [List.length_cons, List.length_nil] <;> omega) | (simp only [alloc_n, set_n] <;> omega) | (simp (disch := (first | assumption | omega | (simp only [alloc_n, set_n] <;> omega))) only [row_alloc, row_set]; assumption))) only [f69, W_block, ANs, A3s, AOp.map, ↓reduceIte, Nat.reduceAdd, Nat.reduceEqDiff, reduceCtorEq, initFr, Nat.reduceLT, clsA, List.take, List.drop, Nat.reduceLeDiff, Nat.reduceMul, Nat.reduceSub, reduceIte, ANc, A3c, ox, oz]
    refine hq2 _ _ ⟨_, by rw [hr]; simp (disch := (first | assumption | omega | (simp only [List.length_cons, List.length_nil] <;> omega) | (simp only [alloc_n, set_n] <;> omega) | (simp (disch := (first | assumption | omega | (simp only [alloc_n, set_n] <;> omega))) only [row_alloc, row_set]; assumption))) only [W_block, ANs, A3s, AOp.map, ↓reduceIte, Nat.reduceAdd, Nat.reduceEqDiff, reduceCtorEq, initFr, Nat.reduceLT, clsA, List.take, List.drop, Nat.reduceLeDiff, Nat.reduceMul, Nat.reduceSub, reduceIte, ANc, A3c]; rfl, by ((repeat (first | exact Keeps.refl _ | assumption | refine Keeps.alloc ?_ _ | (refine Keeps.set ?_ (by first | omega | (simp only [alloc_n, set_n] <;> omega)) (by first | omega | (simp only [alloc_n, set_n] <;> omega)) _) | (refine Keeps.trans' (by assumption) ?_)))), by rw [if_neg (by simp)]; rfl⟩
  | true =>
    simp (disch := (first | assumption | omega | (simp only [List.length_cons, List.length_nil] <;> omega) | (simp only [alloc_n, set_n] <;> omega) | (simp (disch := (first | assumption | omega | (simp only [alloc_n, set_n] <;> omega))) only [row_alloc, row_set]; assumption))) only [f69, W_block, ANs, A3s, AOp.map, ↓reduceIte, Nat.reduceAdd, Nat.reduceEqDiff, reduceCtorEq, initFr, Nat.reduceLT, clsA, List.take, List.drop, Nat.reduceLeDiff, Nat.reduceMul, Nat.reduceSub, reduceIte, ANc, A3c, ox, oz]
    refine callK (q99 (h.keeps (by ((repeat (first | exact Keeps.refl _ | assumption | refine Keeps.alloc ?_ _ | (refine Keeps.set ?_ (by first | omega | (simp only [alloc_n, set_n] <;> omega)) (by first | omega | (simp only [alloc_n, set_n] <;> omega)) _) | (refine Keeps.trans' (by assumption) ?_))))))) ?_
    rintro _ _ ⟨rfl, rfl⟩
    by_cases h1 : l.length < s
    · have e1 : decide (l.length < s) = true := by simp [h1]
      simp (disch := (first | assumption | omega | (simp only [List.length_cons, List.length_nil] <;> omega) | (simp only [alloc_n, set_n] <;> omega) | (simp (disch := (first | assumption | omega | (simp only [alloc_n, set_n] <;> omega))) only [row_alloc, row_set]; assumption))) only [W_block, ANs, A3s, AOp.map, ↓reduceIte, Nat.reduceAdd, Nat.reduceEqDiff, reduceCtorEq, initFr, Nat.reduceLT, clsA, List.take, List.drop, Nat.reduceLeDiff, Nat.reduceMul, Nat.reduceSub, reduceIte, ANc, A3c, ox, oz, e1]
      refine hq2 _ _ ⟨_, by rw [hr]; simp (disch := (first | assumption | omega | (simp only [List.length_cons, List.length_nil] <;> omega) | (simp only [alloc_n, set_n] <;> omega) | (simp (disch := (first | assumption | omega | (simp only [alloc_n, set_n] <;> omega))) only [row_alloc, row_set]; assumption))) only [W_block, ANs, A3s, AOp.map, ↓reduceIte, Nat.reduceAdd, Nat.reduceEqDiff, reduceCtorEq, initFr, Nat.reduceLT, clsA, List.take, List.drop, Nat.reduceLeDiff, Nat.reduceMul, Nat.reduceSub, reduceIte, ANc, A3c]; rfl, by ((repeat (first | exact Keeps.refl _ | assumption | refine Keeps.alloc ?_ _ | (refine Keeps.set ?_ (by first | omega | (simp only [alloc_n, set_n] <;> omega)) (by first | omega | (simp only [alloc_n, set_n] <;> omega)) _) | (refine Keeps.trans' (by assumption) ?_)))), by rw [if_neg (by omega)]; rfl⟩
    · have e1 : decide (l.length < s) = false := by simp [h1]
      simp (disch := (first | assumption | omega | (simp only [List.length_cons, List.length_nil] <;> omega) | (simp only [alloc_n, set_n] <;> omega) | (simp (disch := (first | assumption | omega | (simp only [alloc_n, set_n] <;> omega))) only [row_alloc, row_set]; assumption))) only [W_block, ANs, A3s, AOp.map, ↓reduceIte, Nat.reduceAdd, Nat.reduceEqDiff, reduceCtorEq, initFr, Nat.reduceLT, clsA, List.take, List.drop, Nat.reduceLeDiff, Nat.reduceMul, Nat.reduceSub, reduceIte, ANc, A3c, ox, oz, e1]
      refine callK (q100 (h.keeps (by ((repeat (first | exact Keeps.refl _ | assumption | refine Keeps.alloc ?_ _ | (refine Keeps.set ?_ (by first | omega | (simp only [alloc_n, set_n] <;> omega)) (by first | omega | (simp only [alloc_n, set_n] <;> omega)) _) | (refine Keeps.trans' (by assumption) ?_))))))) ?_
      rintro _ _ ⟨rfl, rfl⟩
      by_cases h2 : l.length = s
      · have e2 : ¬ (0 : Int) < ((l.length - s : Nat) : Int) := by omega
        simp (disch := (first | assumption | omega | (simp only [List.length_cons, List.length_nil] <;> omega) | (simp only [alloc_n, set_n] <;> omega) | (simp (disch := (first | assumption | omega | (simp only [alloc_n, set_n] <;> omega))) only [row_alloc, row_set]; assumption))) only [W_block, ANs, A3s, AOp.map, ↓reduceIte, Nat.reduceAdd, Nat.reduceEqDiff, reduceCtorEq, initFr, Nat.reduceLT, clsA, List.take, List.drop, Nat.reduceLeDiff, Nat.reduceMul, Nat.reduceSub, reduceIte, ANc, A3c, ox, oz, e2]
        refine callK (maySt x _) ?_
        rintro _ K ⟨rfl, k⟩
        have nk := k.n
        simp only [alloc_n, set_n] at nk
        simp (disch := (first | assumption | omega | (simp only [List.length_cons, List.length_nil] <;> omega) | (simp only [alloc_n, set_n] <;> omega) | (simp (disch := (first | assumption | omega | (simp only [alloc_n, set_n] <;> omega))) only [row_alloc, row_set, Keeps.row k]; assumption))) only [Keeps.get k, Keeps.row k, W_block, ANs, A3s, AOp.map, ↓reduceIte, Nat.reduceAdd, Nat.reduceEqDiff, reduceCtorEq, initFr, Nat.reduceLT, clsA, List.take, List.drop, Nat.reduceLeDiff, Nat.reduceMul, Nat.reduceSub, reduceIte, ANc, A3c, ox, oz]
        refine hq2 _ _ ⟨_, by rw [hr]; simp (disch := (first | assumption | omega | (simp only [List.length_cons, List.length_nil] <;> omega) | (simp only [alloc_n, set_n] <;> omega) | (simp (disch := (first | assumption | omega | (simp only [alloc_n, set_n] <;> omega))) only [row_alloc, row_set, Keeps.row k]; assumption))) only [Keeps.get k, Keeps.row k, W_block, ANs, A3s, AOp.map, ↓reduceIte, Nat.reduceAdd, Nat.reduceEqDiff, reduceCtorEq, initFr, Nat.reduceLT, clsA, List.take, List.drop, Nat.reduceLeDiff, Nat.reduceMul, Nat.reduceSub, reduceIte, ANc, A3c]; rfl, by ((repeat (first | exact Keeps.refl _ | assumption | refine Keeps.alloc ?_ _ | (refine Keeps.set ?_ (by first | omega | (simp only [alloc_n, set_n] <;> omega)) (by first | omega | (simp only [alloc_n, set_n] <;> omega)) _) | (refine Keeps.trans' (by assumption) ?_)))), by rw [if_pos ⟨rfl, h2⟩]; rfl⟩
      · have e2 : (0 : Int) < ((l.length - s : Nat) : Int) := by omega
        simp (disch := (first | assumption | omega | (simp only [List.length_cons, List.length_nil] <;> omega) | (simp only [alloc_n, set_n] <;> omega) | (simp (disch := (first | assumption | omega | (simp only [alloc_n, set_n] <;> omega))) only [row_alloc, row_set]; assumption))) only [W_block, ANs, A3s, AOp.map, ↓reduceIte, Nat.reduceAdd, Nat.reduceEqDiff, reduceCtorEq, initFr, Nat.reduceLT, clsA, List.take, List.drop, Nat.reduceLeDiff, Nat.reduceMul, Nat.reduceSub, reduceIte, ANc, A3c, ox, oz, e2]
        refine hq2 _ _ ⟨_, by rw [hr]; simp (disch := (first | assumption | omega | (simp only [List.length_cons, List.length_nil] <;> omega) | (simp only [alloc_n, set_n] <;> omega) | (simp (disch := (first | assumption | omega | (simp only [alloc_n, set_n] <;> omega))) only [row_alloc, row_set]; assumption))) only [W_block, ANs, A3s, AOp.map, ↓reduceIte, Nat.reduceAdd, Nat.reduceEqDiff, reduceCtorEq, initFr, Nat.reduceLT, clsA, List.take, List.drop, Nat.reduceLeDiff, Nat.reduceMul, Nat.reduceSub, reduceIte, ANc, A3c]; rfl, by ((repeat (first | exact Keeps.refl _ | assumption | refine Keeps.alloc ?_ _ | (refine Keeps.set ?_ (by first | omega | (simp only [alloc_n, set_n] <;> omega)) (by first | omega | (simp only [alloc_n, set_n] <;> omega)) _) | (refine Keeps.trans' (by assumption) ?_)))), by rw [if_neg (by omega)]; rfl⟩
theorem n69 {H : AHeap} (x : St) (hx : x.t.length = 64) : ∃ v H', ARun Go.Proofs.Try.prog 0 69 [.pointer none, .bool false, .agg (cSt x).toArray] H v H' ∧ Keeps H H' ∧ v = GotV (cSt St0) 130 := by
  refine walk2 f69_ok f69_n ?_
  intro Q hq1 hq2
  have hr : ∀ fr H', resO f69.res fr H' = (celln 68 (fr.getD 4 undef) H').map fun c => .tuple #[c, fr.getD 5 undef] := fun fr H' => resCT 68 4 5 fr
  have lx := cSt_len hx
  have ox := cSt_one x
  have lz : Z68.length = 68 := rfl
  have oz : Z68.all Value.oneCell' = true := rfl
  simp (disch := (first | assumption | omega | (simp only [List.length_cons, List.length_nil] <;> omega) | (simp only [alloc_n, set_n] <;> omega) | (simp (disch := (first | assumption | omega | (simp only [alloc_n, set_n] <;> omega))) only [row_alloc, row_set]; assumption))) only [f69, W_block, ANs, A3s, AOp.map, ↓reduceIte, Nat.reduceAdd, Nat.reduceEqDiff, reduceCtorEq, initFr, Nat.reduceLT, clsA, List.take, List.drop, Nat.reduceLeDiff, Nat.reduceMul, Nat.reduceSub, reduceIte, ANc, A3c, ox, oz]
  refine hq2 _ _ ⟨_, by rw [hr]; simp (disch := (first | assumption | omega | (simp only [List.length_cons, List.length_nil] <;> omega) | (simp only [alloc_n, set_n] <;> omega) | (simp (disch := (first | assumption | omega | (simp only [alloc_n, set_n] <;> omega))) only [row_alloc, row_set]; assumption))) only [W_block, ANs, A3s, AOp.map, ↓reduceIte, Nat.reduceAdd, Nat.reduceEqDiff, reduceCtorEq, initFr, Nat.reduceLT, clsA, List.take, List.drop, Nat.reduceLeDiff, Nat.reduceMul, Nat.reduceSub, reduceIte, ANc, A3c]; rfl, by ((repeat (first | exact Keeps.refl _ | assumption | refine Keeps.alloc ?_ _ | (refine Keeps.set ?_ (by first | omega | (simp only [alloc_n, set_n] <;> omega)) (by first | omega | (simp only [alloc_n, set_n] <;> omega)) _) | (refine Keeps.trans' (by assumption) ?_)))), rfl⟩
theorem t72 {H : AHeap} {lo hi r s : Nat} {l : List UInt8} (h : RR H lo hi r l s) (ok : Bool) (x : Lo) (hx : x.s.t.length = 64) : ∃ v H', ARun Go.Proofs.Try.prog 0 72 [ptr r 0, .bool ok, .agg (cLo x).toArray] H v H' ∧ Keeps H H' ∧
    v = if ok = true ∧ l.length = s ∧ okLo x = true then GotV (cLo x) 0 else GotV (cLo Lo0) 130 := by
  refine walk2 f72_ok f72_n ?_
  intro Q hq1 hq2
  have hr : ∀ fr H', resO f72.res fr H' = (celln 70 (fr.getD 4 undef) H').map fun c => .tuple #[c, fr.getD 5 undef] := fun fr H' => resCT 70 4 5 fr
  have lx := cLo_len hx
  have ox := cLo_one x
  have lz : Z70.length = 70 := rfl
  have oz : Z70.all Value.oneCell' = true := rfl
  cases ok with
  | false =>
    simp (disch := (first | assumption | omega | (simp only [List.length_cons, List.length_nil] <;> omega) | (simp only [alloc_n, set_n] <;> omega) | (simp (disch := (first | assumption | omega | (simp only [alloc_n, set_n] <;> omega))) only [row_alloc, row_set]; assumption))) only [f72, W_block, ANs, A3s, AOp.map, ↓reduceIte, Nat.reduceAdd, Nat.reduceEqDiff, reduceCtorEq, initFr, Nat.reduceLT, clsA, List.take, List.drop, Nat.reduceLeDiff, Nat.reduceMul, Nat.reduceSub, reduceIte, ANc, A3c, ox, oz]
    refine hq2 _ _ ⟨_, by rw [hr]; simp (disch := (first | assumption | omega | (simp only [List.length_cons, List.length_nil] <;> omega) | (simp only [alloc_n, set_n] <;> omega) | (simp (disch := (first | assumption | omega | (simp only [alloc_n, set_n] <;> omega))) only [row_alloc, row_set]; assumption))) only [W_block, ANs, A3s, AOp.map, ↓reduceIte, Nat.reduceAdd, Nat.reduceEqDiff, reduceCtorEq, initFr, Nat.reduceLT, clsA, List.take, List.drop, Nat.reduceLeDiff, Nat.reduceMul, Nat.reduceSub, reduceIte, ANc, A3c]; rfl, by ((repeat (first | exact Keeps.refl _ | assumption | refine Keeps.alloc ?_ _ | (refine Keeps.set ?_ (by first | omega | (simp only [alloc_n, set_n] <;> omega)) (by first | omega | (simp only [alloc_n, set_n] <;> omega)) _) | (refine Keeps.trans' (by assumption) ?_)))), by rw [if_neg (by simp)]; rfl⟩
  | true =>
    simp (disch := (first | assumption | omega | (simp only [List.length_cons, List.length_nil] <;> omega) | (simp only [alloc_n, set_n] <;> omega) | (simp (disch := (first | assumption | omega | (simp only [alloc_n, set_n] <;> omega))) only [row_alloc, row_set]; assumption))) only [f72, W_block, ANs, A3s, AOp.map, ↓reduceIte, Nat.reduceAdd, Nat.reduceEqDiff, reduceCtorEq, initFr, Nat.reduceLT, clsA, List.take, List.drop, Nat.reduceLeDiff, Nat.reduceMul, Nat.reduceSub, reduceIte, ANc, A3c, ox, oz]
    refine callK (q99 (h.keeps (by ((repeat (first | exact Keeps.refl _ | assumption | refine Keeps.alloc ?_ _ | (refine Keeps.set ?_ (by first | omega | (simp only [alloc_n, set_n] <;> omega)) (by first | omega | (simp only [alloc_n, set_n] <;> omega)) _) | (refine Keeps.trans' (by assumption) ?_))))))) ?_
    rintro _ _ ⟨rfl, rfl⟩
    by_cases h1 : l.length < s
    · have e1 : decide (l.length < s) = true := by simp [h1]
      simp (disch := (first | assumption | omega | (simp only [List.length_cons, List.length_nil] <;> omega) | (simp only [alloc_n, set_n] <;> omega) | (simp (disch := (first | assumption | omega | (simp only [alloc_n, set_n] <;> omega))) only [row_alloc, row_set]; assumption))) only [W_block, ANs, A3s, AOp.map, ↓reduceIte, Nat.reduceAdd, Nat.reduceEqDiff, reduceCtorEq, initFr, Nat.reduceLT, clsA, List.take, List.drop, Nat.reduceLeDiff, Nat.reduceMul, Nat.reduceSub, reduceIte, ANc, A3c, ox, oz, e1]
      refine hq2 _ _ ⟨_, by rw [hr]; simp (disch := (first | assumption | omega | (simp only [List.length_cons, List.length_nil] <;> omega) | (simp only [alloc_n, set_n] <;> omega) | (simp (disch := (first | assumption | omega | (simp only [alloc_n, set_n] <;> omega))) only [row_alloc, row_set]; assumption))) only [W_block, ANs, A3s, AOp.map, ↓reduceIte, Nat.reduceAdd, Nat.reduceEqDiff, reduceCtorEq, initFr, Nat.reduceLT, clsA, List.take, List.drop, Nat.reduceLeDiff, Nat.reduceMul, Nat.reduceSub, reduceIte, ANc, A3c]; rfl, by ((repeat (first | exact Keeps.refl _ | assumption | refine Keeps.alloc ?_ _ | (refine Keeps.set ?_ (by first | omega | (simp only [alloc_n, set_n] <;> omega)) (by first | omega | (simp only [alloc_n, set_n] <;> omega)) _) | (refine Keeps.trans' (by assumption) ?_)))), by rw [if_neg (by omega)]; rfl⟩
    · have e1 : decide (l.length < s) = false := by simp [h1]
      simp (disch := (first | assumption | omega | (simp only [List.length_cons, List.length_nil] <;> omega) | (simp only [alloc_n, set_n] <;> omega) | (simp (disch := (first | assumption | omega | (simp only [alloc_n, set_n] <;> omega))) only [row_alloc, row_set]; assumption))) only [W_block, ANs, A3s, AOp.map, ↓reduceIte, Nat.reduceAdd, Nat.reduceEqDiff, reduceCtorEq, initFr, Nat.reduceLT, clsA, List.take, List.drop, Nat.reduceLeDiff, Nat.reduceMul, Nat.reduceSub, reduceIte, ANc, A3c, ox, oz, e1]
      refine callK (q100 (h.keeps (by ((repeat (first | exact Keeps.refl _ | assumption | refine Keeps.alloc ?_ _ | (refine Keeps.set ?_ (by first | omega | (simp only [alloc_n, set_n] <;> omega)) (by first | omega | (simp only [alloc_n, set_n] <;> omega)) _) | (refine Keeps.trans' (by assumption) ?_))))))) ?_
      rintro _ _ ⟨rfl, rfl⟩
      by_cases h2 : l.length = s
      · have e2 : ¬ (0 : Int) < ((l.length - s : Nat) : Int) := by omega
        simp (disch := (first | assumption | omega | (simp only [List.length_cons, List.length_nil] <;> omega) | (simp only [alloc_n, set_n] <;> omega) | (simp (disch := (first | assumption | omega | (simp only [alloc_n, set_n] <;> omega))) only [row_alloc, row_set]; assumption))) only [W_block, ANs, A3s, AOp.map, ↓reduceIte, Nat.reduceAdd, Nat.reduceEqDiff, reduceCtorEq, initFr, Nat.reduceLT, clsA, List.take, List.drop, Nat.reduceLeDiff, Nat.reduceMul, Nat.reduceSub, reduceIte, ANc, A3c, ox, oz, e2]
        refine callK (mayLo x hx _) ?_
        rintro _ K ⟨rfl, k⟩
        have nk := k.n
        simp only [alloc_n, set_n] at nk
        cases h3 : okLo x with
        | false =>
          simp (disch := (first | assumption | omega | (simp only [List.length_cons, List.length_nil] <;> omega) | (simp only [alloc_n, set_n] <;> omega) | (simp (disch := (first | assumption | omega | (simp only [alloc_n, set_n] <;> omega))) only [row_alloc, row_set, Keeps.row k]; assumption))) only [Keeps.get k, Keeps.row k, W_block, ANs, A3s, AOp.map, ↓reduceIte, Nat.reduceAdd, Nat.reduceEqDiff, reduceCtorEq, initFr, Nat.reduceLT, clsA, List.take, List.drop, Nat.reduceLeDiff, Nat.reduceMul, Nat.reduceSub, reduceIte, ANc, A3c, ox, oz, h3]
          refine hq2 _ _ ⟨_, by rw [hr]; simp (disch := (first | assumption | omega | (simp only [List.length_cons, List.length_nil] <;> omega) | (simp only [alloc_n, set_n] <;> omega) | (simp (disch := (first | assumption | omega | (simp only [alloc_n, set_n] <;> omega))) only [row_alloc, row_set, Keeps.row k]; assumption))) only [Keeps.get k, Keeps.row k, W_block, ANs, A3s, AOp.map, ↓reduceIte, Nat.reduceAdd, Nat.reduceEqDiff, reduceCtorEq, initFr, Nat.reduceLT, clsA, List.take, List.drop, Nat.reduceLeDiff, Nat.reduceMul, Nat.reduceSub, reduceIte, ANc, A3c]; rfl, by ((repeat (first | exact Keeps.refl _ | assumption | refine Keeps.alloc ?_ _ | (refine Keeps.set ?_ (by first | omega | (simp only [alloc_n, set_n] <;> omega)) (by first | omega | (simp only [alloc_n, set_n] <;> omega)) _) | (refine Keeps.trans' (by assumption) ?_)))), by rw [if_neg (by simp [h3])]; rfl⟩
        | true =>
          simp (disch := (first | assumption | omega | (simp only [List.length_cons, List.length_nil] <;> omega) | (simp only [alloc_n, set_n] <;> omega) | (simp (disch := (first | assumption | omega | (simp only [alloc_n, set_n] <;> omega))) only [row_alloc, row_set, Keeps.row k]; assumption))) only [Keeps.get k, Keeps.row k, W_block, ANs, A3s, AOp.map, ↓reduceIte, Nat.reduceAdd, Nat.reduceEqDiff, reduceCtorEq, initFr, Nat.reduceLT, clsA, List.take, List.drop, Nat.reduceLeDiff, Nat.reduceMul, Nat.reduceSub, reduceIte, ANc, A3c, ox, oz, h3]
          refine hq2 _ _ ⟨_, by rw [hr]; simp (disch := (first | assumption | omega | (simp only [List.length_cons, List.length_nil] <;> omega) | (simp only [alloc_n, set_n] <;> omega) | (simp (disch := (first | assumption | omega | (simp only [alloc_n, set_n] <;> omega))) only [row_alloc, row_set, Keeps.row k]; assumption))) only [Keeps.get k, Keeps.row k, W_block, ANs, A3s, AOp.map, ↓reduceIte, Nat.reduceAdd, Nat.reduceEqDiff, reduceCtorEq, initFr, Nat.reduceLT, clsA, List.take, List.drop, Nat.reduceLeDiff, Nat.reduceMul, Nat.reduceSub, reduceIte, ANc, A3c]; rfl, by ((repeat (first | exact Keeps.refl _ | assumption | refine Keeps.alloc ?_ _ | (refine Keeps.set ?_ (by first | omega | (simp only [alloc_n, set_n] <;> omega)) (by first | omega | (simp only [alloc_n, set_n] <;> omega)) _) | (refine Keeps.trans' (by assumption) ?_)))), by rw [if_pos ⟨rfl, h2, h3⟩]; rfl⟩
      · have e2 : (0 : Int) < ((l.length - s : Nat) : Int) := by omega
        simp (disch := (first | assumption | omega | (simp only [List.length_cons, List.length_nil] <;> omega) | (simp only [alloc_n, set_n] <;> omega) | (simp (disch := (first | assumption | omega | (simp only [alloc_n, set_n] <;> omega))) only [row_alloc, row_set]; assumption))) only [W_block, ANs, A3s, AOp.map, ↓reduceIte, Nat.reduceAdd, Nat.reduceEqDiff, reduceCtorEq, initFr, Nat.reduceLT, clsA, List.take, List.drop, Nat.reduceLeDiff, Nat.reduceMul, Nat.reduceSub, reduceIte, ANc, A3c, ox, oz, e2]
        refine hq2 _ _ ⟨_, by rw [hr]; simp (disch := (first | assumption | omega | (simp only [List.length_cons, List.length_nil] <;> omega) | (simp only [alloc_n, set_n] <;> omega) | (simp (disch := (first | assumption | omega | (simp only [alloc_n, set_n] <;> omega))) only [row_alloc, row_set]; assumption))) only [W_block, ANs, A3s, AOp.map, ↓reduceIte, Nat.reduceAdd, Nat.reduceEqDiff, reduceCtorEq, initFr, Nat.reduceLT, clsA, List.take, List.drop, Nat.reduceLeDiff, Nat.reduceMul, Nat.reduceSub, reduceIte, ANc, A3c]; rfl, by ((repeat (first | exact Keeps.refl _ | assumption | refine Keeps.alloc ?_ _ | (refine Keeps.set ?_ (by first | omega | (simp only [alloc_n, set_n] <;> omega)) (by first | omega | (simp only [alloc_n, set_n] <;> omega)) _) | (refine Keeps.trans' (by assumption) ?_)))), by rw [if_neg (by omega)]; rfl⟩
theorem n72 {H : AHeap} (x : Lo) (hx : x.s.t.length = 64) : ∃ v H', ARun Go.Proofs.Try.prog 0 72 [.pointer none, .bool false, .agg (cLo x).toArray] H v H' ∧ Keeps H H' ∧ v = GotV (cLo Lo0) 130 := by
  refine walk2 f72_ok f72_n ?_
  intro Q hq1 hq2
  have hr : ∀ fr H', resO f72.res fr H' = (celln 70 (fr.getD 4 undef) H').map fun c => .tuple #[c, fr.getD 5 undef] := fun fr H' => resCT 70 4 5 fr
  have lx := cLo_len hx
  have ox := cLo_one x
  have lz : Z70.length = 70 := rfl
  have oz : Z70.all Value.oneCell' = true := rfl
  simp (disch := (first | assumption | omega | (simp only [List.length_cons, List.length_nil] <;> omega) | (simp only [alloc_n, set_n] <;> omega) | (simp (disch := (first | assumption | omega | (simp only [alloc_n, set_n] <;> omega))) only [row_alloc, row_set]; assumption))) only [f72, W_block, ANs, A3s, AOp.map, ↓reduceIte, Nat.reduceAdd, Nat.reduceEqDiff, reduceCtorEq, initFr, Nat.reduceLT, clsA, List.take, List.drop, Nat.reduceLeDiff, Nat.reduceMul, Nat.reduceSub, reduceIte, ANc, A3c, ox, oz]
  refine hq2 _ _ ⟨_, by rw [hr]; simp (disch := (first | assumption | omega | (simp only [List.length_cons, List.length_nil] <;> omega) | (simp only [alloc_n, set_n] <;> omega) | (simp (disch := (first | assumption | omega | (simp only [alloc_n, set_n] <;> omega))) only [row_alloc, row_set]; assumption))) only [W_block, ANs, A3s, AOp.map, ↓reduceIte, Nat.reduceAdd, Nat.reduceEqDiff, reduceCtorEq, initFr, Nat.reduceLT, clsA, List.take, List.drop, Nat.reduceLeDiff, Nat.reduceMul, Nat.reduceSub, reduceIte, ANc, A3c]; rfl, by ((repeat (first | exact Keeps.refl _ | assumption | refine Keeps.alloc ?_ _ | (refine Keeps.set ?_ (by first | omega | (simp only [alloc_n, set_n] <;> omega)) (by first | omega | (simp only [alloc_n, set_n] <;> omega)) _) | (refine Keeps.trans' (by assumption) ?_)))), rfl⟩
-- }got
end Go.AM.Fd

set_option linter.unusedSimpArgs false
set_option linter.unusedVariables false
namespace Go.AM.Fd
open Go.Proofs Go.AM.F
theorem fillS (a b c : Nat) : fillA Z68 [(0, 1, .int .u64 (a : Nat)), (1, 1, .int .u64 (b : Nat)), (2, 1, .int .u64 (c : Nat))] = some (cSt ⟨a, b, c, Z64, 0⟩) := rfl
theorem fillS0 : fillA Z68 [(0, 1, .int .u64 0), (1, 1, .int .u64 0), (2, 1, .int .u64 0)] = some (cSt St0) := rfl
theorem copy_t {H : AHeap} {b e : Nat} {x : St} {v : Value} {sg : List UInt8} (g : H.get b = some (.cells true false 68 (cSt x) e)) (hx : x.t.length = 64) (hv : BS H v sg) (hl : sg.length = 64 ∨ sg = []) :
    ∃ w, asem (.copy 1 (slc b 3 64 64) v) H = some (w, if sg = [] then H else H.set b (.cells true false 68 (cSt { x with t := sg }) e)) := by
  have he := hv.el
  obtain ⟨a, k, rfl⟩ := hv.sh
  have lx := cSt_len hx
  rcases hl with hl | rfl
  · have h0 : sg ≠ [] := by intro h; rw [h] at hl; simp at hl
    refine ⟨.int .i64 64, ?_⟩
    rw [hl] at he
    simp only [asem, slc, he, g, hl, if_neg h0, Nat.min_self, Nat.mul_one]
    rw [if_neg (by omega), if_pos ⟨trivial, by omega⟩]
    have e1 : (cSt x).take 3 ++ (cellsOf sg).take 64 ++ (cSt x).drop (3 + 64) = cSt { x with t := sg } := by
      have e0 : (cellsOf sg).take 64 = cellsOf sg := List.take_of_length_le (by rw [cellsOf_length]; omega)
      rw [e0]
      simp only [cSt, List.drop_succ_cons, List.take_succ_cons, List.take_zero, Nat.reduceAdd]
      rw [List.drop_append, List.drop_of_length_le (by rw [cellsOf_length]; omega), cellsOf_length, hx]
      rfl
    rw [e1]
    rfl
  · simp only [List.length_nil] at he
    exact ⟨.int .i64 0, by simp [asem, slc, he, g]⟩
theorem cSt_set67 {x : St} (h : x.t.length = 64) (n : Nat) : (cSt x).set 67 (.int .u32 (n : Nat)) = cSt { x with p := n } := by
  simp only [cSt, List.set_cons_succ]
  rw [List.set_append_right _ _ (by rw [cellsOf_length]; omega), cellsOf_length, h]
  rfl
theorem t70 {H : AHeap} {lo hi r s : Nat} {l : List UInt8} (h : RR H lo hi r l s) (hl : l.length ≤ 1000000000) : ∃ v H', ARun Go.Proofs.Try.prog 0 70 [ptr r 0] H v H' ∧ v = .agg (cSt (deSt l s)).toArray ∧ RR H' lo hi r l (s + 92) ∧ Chg [r] H H' := by
  refine walk2 f70_ok f70_n ?_
  intro Q hq1 hq2
  have hr : ∀ fr H', resO f70.res fr H' = (celln 68 (fr.getD 1 undef) H') := fun fr H' => resC 1 68 fr
  have lz : Z68.length = 68 := rfl
  have oz : Z68.all Value.oneCell' = true := rfl
  have hrh := h.2.2.1
  have hr1 := h.2.1
  have k0 := (Keeps.refl H).alloc (.cells true false 68 Z68 51)
  have g0 := AHeap.get_alloc_new H (.cells true false 68 Z68 51)
  simp (disch := (first | assumption | omega | (simp only [List.length_cons, List.length_nil] <;> omega) | (simp only [alloc_n, set_n] <;> omega) | (simp (disch := (first | assumption | omega | (simp only [alloc_n, set_n] <;> omega))) only [row_alloc, row_set]; assumption))) only [f70, W_block, ANs, A3s, AOp.map, ↓reduceIte, Nat.reduceAdd, Nat.reduceEqDiff, reduceCtorEq, initFr, Nat.reduceLT, clsA, List.take, List.drop, Nat.reduceLeDiff, Nat.reduceMul, Nat.reduceSub, reduceIte, ANc, A3c, oz]
  obtain ⟨Ha, hHa⟩ : ∃ X, X = H.alloc (.cells true false 68 Z68 51) := ⟨_, rfl⟩
  rw [← hHa] at k0 g0 ⊢
  have l0 := AHeap.get_lt g0
  have n0 := k0.n
  refine callK (q64 (h.keeps k0) hl) ?_
  rintro _ K1 ⟨rfl, r1, c1⟩
  have n1 := c1.n
  simp (disch := (first | assumption | omega | (simp only [List.length_cons, List.length_nil] <;> omega) | (simp only [alloc_n, set_n] <;> omega) | (simp (disch := (first | assumption | omega | (simp only [alloc_n, set_n] <;> omega))) only [row_alloc, row_set]; assumption))) only [W_block, ANs, A3s, AOp.map, ↓reduceIte, Nat.reduceAdd, Nat.reduceEqDiff, reduceCtorEq, initFr, Nat.reduceLT, clsA, List.take, List.drop, Nat.reduceLeDiff, Nat.reduceMul, Nat.reduceSub, reduceIte, ANc, A3c]
  refine callK (q64 r1 hl) ?_
  rintro _ K2 ⟨rfl, r2, c2⟩
  have n2 := c2.n
  simp (disch := (first | assumption | omega | (simp only [List.length_cons, List.length_nil] <;> omega) | (simp only [alloc_n, set_n] <;> omega) | (simp (disch := (first | assumption | omega | (simp only [alloc_n, set_n] <;> omega))) only [row_alloc, row_set]; assumption))) only [W_block, ANs, A3s, AOp.map, ↓reduceIte, Nat.reduceAdd, Nat.reduceEqDiff, reduceCtorEq, initFr, Nat.reduceLT, clsA, List.take, List.drop, Nat.reduceLeDiff, Nat.reduceMul, Nat.reduceSub, reduceIte, ANc, A3c]
  refine callK (q64 r2 hl) ?_
  rintro _ K3 ⟨rfl, r3, c3⟩
  have n3 := c3.n
  have l1 : (cSt ⟨na l s 8, na l (s + 8) 8, na l (s + 8 + 8) 8, Z64, 0⟩).length = 68 := cSt_len rfl
  have o1 := cSt_one ⟨na l s 8, na l (s + 8) 8, na l (s + 8 + 8) 8, Z64, 0⟩
  simp (disch := (first | assumption | omega | (simp only [List.length_cons, List.length_nil] <;> omega) | (simp only [alloc_n, set_n] <;> omega) | (simp (disch := (first | assumption | omega | (simp only [alloc_n, set_n] <;> omega))) only [row_alloc, row_set]; assumption))) only [W_block, ANs, A3s, AOp.map, ↓reduceIte, Nat.reduceAdd, Nat.reduceEqDiff, reduceCtorEq, initFr, Nat.reduceLT, clsA, List.take, List.drop, Nat.reduceLeDiff, Nat.reduceMul, Nat.reduceSub, reduceIte, ANc, A3c, fillS, o1, oz]
  obtain ⟨Kb, hKb⟩ : ∃ X, X = K3.alloc (.cells true false 68 (cSt ⟨na l s 8, na l (s + 8) 8, na l (s + 8 + 8) 8, Z64, 0⟩) 51) := ⟨_, rfl⟩
  have kb := (Keeps.refl K3).alloc (.cells true false 68 (cSt ⟨na l s 8, na l (s + 8) 8, na l (s + 8 + 8) 8, Z64, 0⟩) 51)
  have gb := AHeap.get_alloc_new K3 (.cells true false 68 (cSt ⟨na l s 8, na l (s + 8) 8, na l (s + 8 + 8) 8, Z64, 0⟩) 51)
  rw [← hKb] at kb gb ⊢
  have nb := kb.n
  have lb := AHeap.get_lt gb
  simp (disch := (first | assumption | omega | (simp only [List.length_cons, List.length_nil] <;> omega) | (simp only [alloc_n, set_n] <;> omega) | (simp (disch := (first | assumption | omega | (simp only [alloc_n, set_n] <;> omega))) only [row_alloc, row_set]; assumption))) only [W_block, ANs, A3s, AOp.map, ↓reduceIte, Nat.reduceAdd, Nat.reduceEqDiff, reduceCtorEq, initFr, Nat.reduceLT, clsA, List.take, List.drop, Nat.reduceLeDiff, Nat.reduceMul, Nat.reduceSub, reduceIte, ANc, A3c, a_slarr0]
  refine callK (q74 (r3.keeps kb) 64 hl) ?_
  rintro v4 K4 ⟨B4, r4, c4, hv4⟩
  have n4 := c4.n
  have g4 : K4.get K3.n = some (.cells true false 68 (cSt ⟨na l s 8, na l (s + 8) 8, na l (s + 8 + 8) 8, Z64, 0⟩) 51) := by
    rw [Chg1.get c4 (by omega) (by omega)]; exact gb
  have hsg : (seg l (s + 8 + 8 + 8) 64).length = 64 ∨ seg l (s + 8 + 8 + 8) 64 = [] := by
    unfold seg
    split
    · right; rfl
    · left; rw [List.length_take, List.length_drop]; omega
  obtain ⟨w4, cp⟩ := copy_t g4 rfl B4 hsg
  have ht : tmr l (s + 24) = if seg l (s + 8 + 8 + 8) 64 = [] then Z64 else seg l (s + 8 + 8 + 8) 64 := by
    have e24 : s + 8 + 8 + 8 = s + 24 := by omega
    rw [e24] at hsg ⊢
    unfold tmr seg
    by_cases hlt : l.length < s + 24 + 64
    · rw [if_pos hlt, if_pos hlt]; simp
    · rw [if_neg hlt, if_neg hlt, if_neg]
      intro hn
      have := congrArg List.length hn
      rw [List.length_take, List.length_drop] at this
      simp at this; omega
  obtain ⟨Kc, hKc, gc, cc⟩ : ∃ Kc, (if seg l (s + 8 + 8 + 8) 64 = [] then K4 else K4.set K3.n (.cells true false 68 (cSt ⟨na l s 8, na l (s + 8) 8, na l (s + 8 + 8) 8, seg l (s + 8 + 8 + 8) 64, 0⟩) 51)) = Kc ∧ Kc.get K3.n = some (.cells true false 68 (cSt ⟨na l s 8, na l (s + 8) 8, na l (s + 8 + 8) 8, tmr l (s + 24), 0⟩) 51) ∧ Chg [K3.n] K4 Kc := by
    refine ⟨_, rfl, ?_, ?_⟩
    · rw [ht]
      split
      · exact g4
      · exact AHeap.get_set_same g4 _
    · split
      · exact Chg.refl _ _
      · exact Chg.set K4 (AHeap.get_lt g4) _
  rw [hKc] at cp
  have nc := cc.n
  simp (disch := (first | assumption | omega | (simp only [List.length_cons, List.length_nil] <;> omega) | (simp only [alloc_n, set_n] <;> omega) | (simp (disch := (first | assumption | omega | (simp only [alloc_n, set_n] <;> omega))) only [row_alloc, row_set]; assumption))) only [W_block, ANs, A3s, AOp.map, ↓reduceIte, Nat.reduceAdd, Nat.reduceEqDiff, reduceCtorEq, initFr, Nat.reduceLT, clsA, List.take, List.drop, Nat.reduceLeDiff, Nat.reduceMul, Nat.reduceSub, reduceIte, ANc, A3c, cp]
  refine callK (q65 (r4.chg cc (by omega)) hl) ?_
  rintro _ K5 ⟨rfl, r5, c5⟩
  have n5 := c5.n
  have l5 : (cSt ⟨na l s 8, na l (s + 8) 8, na l (s + 8 + 8) 8, tmr l (s + 24), 0⟩).length = 68 := cSt_len (tmr_len _ _)
  have g5 : K5.get K3.n = some (.cells true false 68 (cSt ⟨na l s 8, na l (s + 8) 8, na l (s + 8 + 8) 8, tmr l (s + 24), 0⟩) 51) := by
    rw [Chg1.get c5 (by omega) (by omega)]; exact gc
  have g0' : K5.get H.n = some (.cells true false 68 Z68 51) := by
    rw [Chg1.get c5 (by omega) (by omega), Chg1.get cc (by omega) (by omega), Chg1.get c4 (by omega) (by omega), kb.get _ (by omega), Chg1.get c3 (by omega) (by omega), Chg1.get c2 (by omega) (by omega), Chg1.get c1 (by omega) (by omega)]; exact g0
  have l6 := cSt_len (x := ⟨na l s 8, na l (s + 8) 8, na l (s + 8 + 8) 8, tmr l (s + 24), na l (s + 8 + 8 + 8 + 64) 4⟩) (tmr_len _ _)
  have o6 := cSt_one ⟨na l s 8, na l (s + 8) 8, na l (s + 8 + 8) 8, tmr l (s + 24), na l (s + 8 + 8 + 8 + 64) 4⟩
  have e6 := cSt_set67 (x := ⟨na l s 8, na l (s + 8) 8, na l (s + 8 + 8) 8, tmr l (s + 24), 0⟩) (tmr_len _ _) (na l (s + 8 + 8 + 8 + 64) 4)
  have p0 := AHeap.get_lt g0'
  have p5 := AHeap.get_lt g5
  simp (disch := (first | assumption | omega | (simp only [List.length_cons, List.length_nil] <;> omega) | (simp only [alloc_n, set_n] <;> omega) | (simp (disch := (first | assumption | omega | (simp only [alloc_n, set_n] <;> omega))) only [row_alloc, row_set]; assumption))) only [W_block, ANs, A3s, AOp.map, ↓reduceIte, Nat.reduceAdd, Nat.reduceEqDiff, reduceCtorEq, initFr, Nat.reduceLT, clsA, List.take, List.drop, Nat.reduceLeDiff, Nat.reduceMul, Nat.reduceSub, reduceIte, ANc, A3c, g5, g0', l5, e6, o6]
  have ed : deSt l s = ⟨na l s 8, na l (s + 8) 8, na l (s + 8 + 8) 8, tmr l (s + 24), na l (s + 8 + 8 + 8 + 64) 4⟩ := by
    unfold deSt
    simp only [Nat.add_assoc, Nat.reduceAdd]
  refine hq2 _ _ ⟨_, by rw [hr]; simp (disch := (first | assumption | omega | (simp only [List.length_cons, List.length_nil] <;> omega) | (simp only [alloc_n, set_n] <;> omega) | (simp (disch := (first | assumption | omega | (simp only [alloc_n, set_n] <;> omega))) only [row_alloc, row_set]; assumption))) only [W_block, ANs, A3s, AOp.map, ↓reduceIte, Nat.reduceAdd, Nat.reduceEqDiff, reduceCtorEq, initFr, Nat.reduceLT, clsA, List.take, List.drop, Nat.reduceLeDiff, Nat.reduceMul, Nat.reduceSub, reduceIte, ANc, A3c, g5, g0', l5, l6]; rfl, by rw [ed], ?_, ?_⟩
  · have := (r5.chg (Chg.set K5 p5 (.cells true false 68 (cSt ⟨na l s 8, na l (s + 8) 8, na l (s + 8 + 8) 8, tmr l (s + 24), na l (s + 8 + 8 + 8 + 64) 4⟩) 51)) (by omega)).chg (Chg.set _ (by rw [set_n]; exact p0) (.cells true false 68 (cSt ⟨na l s 8, na l (s + 8) 8, na l (s + 8 + 8) 8, tmr l (s + 24), na l (s + 8 + 8 + 8 + 64) 4⟩) 51)) (by omega)
    rw [show s + 8 + 8 + 8 + 64 + 4 = s + 92 by omega] at this
    exact this
  · refine ⟨by rw [set_n, set_n]; omega, fun x hx hn => ?_⟩
    simp only [List.mem_singleton] at hn
    rw [AHeap.get_set_other _ (by omega) (by rw [set_n]; exact p0), AHeap.get_set_other _ (by omega) p5, Chg1.get c5 (by omega) hn, Chg1.get cc (by omega) (by omega), Chg1.get c4 (by omega) hn, kb.get _ (by omega), Chg1.get c3 (by omega) hn, Chg1.get c2 (by omega) hn, Chg1.get c1 (by omega) hn, k0.get _ hx]
theorem n70 (H : AHeap) : ∃ v H', ARun Go.Proofs.Try.prog 0 70 [.pointer none] H v H' ∧ v = .agg (cSt St0).toArray ∧ Keeps H H' := by
  refine walk2 f70_ok f70_n ?_
  intro Q hq1 hq2
  have hr : ∀ fr H', resO f70.res fr H' = (celln 68 (fr.getD 1 undef) H') := fun fr H' => resC 1 68 fr
  have lz : Z68.length = 68 := rfl
  have oz : Z68.all Value.oneCell' = true := rfl
  have lz2 : (cSt St0).length = 68 := rfl
  have oz2 : (cSt St0).all Value.oneCell' = true := rfl
  simp (disch := (first | assumption | omega | (simp only [List.length_cons, List.length_nil] <;> omega) | (simp only [alloc_n, set_n] <;> omega) | (simp (disch := (first | assumption | omega | (simp only [alloc_n, set_n] <;> omega))) only [row_alloc, row_set]; assumption))) only [f70, W_block, ANs, A3s, AOp.map, ↓reduceIte, Nat.reduceAdd, Nat.reduceEqDiff, reduceCtorEq, initFr, Nat.reduceLT, clsA, List.take, List.drop, Nat.reduceLeDiff, Nat.reduceMul, Nat.reduceSub, reduceIte, ANc, A3c, oz]
  refine callK (n64 _) ?_
  rintro _ _ ⟨rfl, rfl⟩
  simp (disch := (first | assumption | omega | (simp only [List.length_cons, List.length_nil] <;> omega) | (simp only [alloc_n, set_n] <;> omega) | (simp (disch := (first | assumption | omega | (simp only [alloc_n, set_n] <;> omega))) only [row_alloc, row_set]; assumption))) only [W_block, ANs, A3s, AOp.map, ↓reduceIte, Nat.reduceAdd, Nat.reduceEqDiff, reduceCtorEq, initFr, Nat.reduceLT, clsA, List.take, List.drop, Nat.reduceLeDiff, Nat.reduceMul, Nat.reduceSub, reduceIte, ANc, A3c]
  refine callK (n64 _) ?_
  rintro _ _ ⟨rfl, rfl⟩
  simp (disch := (first | assumption | omega | (simp only [List.length_cons, List.length_nil] <;> omega) | (simp only [alloc_n, set_n] <;> omega) | (simp (disch := (first | assumption | omega | (simp only [alloc_n, set_n] <;> omega))) only [row_alloc, row_set]; assumption))) only [W_block, ANs, A3s, AOp.map, ↓reduceIte, Nat.reduceAdd, Nat.reduceEqDiff, reduceCtorEq, initFr, Nat.reduceLT, clsA, List.take, List.drop, Nat.reduceLeDiff, Nat.reduceMul, Nat.reduceSub, reduceIte, ANc, A3c]
  refine callK (n64 _) ?_
  rintro _ _ ⟨rfl, rfl⟩
  simp (disch := (first | assumption | omega | (simp only [List.length_cons, List.length_nil] <;> omega) | (simp only [alloc_n, set_n] <;> omega) | (simp (disch := (first | assumption | omega | (simp only [alloc_n, set_n] <;> omega))) only [row_alloc, row_set]; assumption))) only [W_block, ANs, A3s, AOp.map, ↓reduceIte, Nat.reduceAdd, Nat.reduceEqDiff, reduceCtorEq, initFr, Nat.reduceLT, clsA, List.take, List.drop, Nat.reduceLeDiff, Nat.reduceMul, Nat.reduceSub, reduceIte, ANc, A3c, fillS0, oz, oz2, a_slarr0]
  refine callK (n74 _ _) ?_
  rintro _ _ ⟨rfl, rfl⟩
  have cp : ∀ X : AHeap, X.get (H.n + 1) = some (.cells true false 68 (cSt St0) 51) → ∃ w, asem (.copy 1 (slc (H.n + 1) 3 64 64) (.slice none 0 0)) X = some (w, X) := fun X g => by
    obtain ⟨w, e⟩ := copy_t g rfl (BS.nil X) (.inr rfl)
    exact ⟨w, by simpa using e⟩
  obtain ⟨w, cp⟩ := cp _ (by rw [show H.n + 1 = (H.alloc (.cells true false 68 Z68 51)).n from rfl]; exact AHeap.get_alloc_new _ _)
  simp (disch := (first | assumption | omega | (simp only [List.length_cons, List.length_nil] <;> omega) | (simp only [alloc_n, set_n] <;> omega) | (simp (disch := (first | assumption | omega | (simp only [alloc_n, set_n] <;> omega))) only [row_alloc, row_set]; assumption))) only [W_block, ANs, A3s, AOp.map, ↓reduceIte, Nat.reduceAdd, Nat.reduceEqDiff, reduceCtorEq, initFr, Nat.reduceLT, clsA, List.take, List.drop, Nat.reduceLeDiff, Nat.reduceMul, Nat.reduceSub, reduceIte, ANc, A3c, cp]
  refine callK (n65 _) ?_
  rintro _ _ ⟨rfl, rfl⟩
  have e6 : (cSt St0).set 67 (.int .u32 0) = cSt St0 := rfl
  simp (disch := (first | assumption | omega | (simp only [List.length_cons, List.length_nil] <;> omega) | (simp only [alloc_n, set_n] <;> omega) | (simp (disch := (first | assumption | omega | (simp only [alloc_n, set_n] <;> omega))) only [row_alloc, row_set]; assumption))) only [W_block, ANs, A3s, AOp.map, ↓reduceIte, Nat.reduceAdd, Nat.reduceEqDiff, reduceCtorEq, initFr, Nat.reduceLT, clsA, List.take, List.drop, Nat.reduceLeDiff, Nat.reduceMul, Nat.reduceSub, reduceIte, ANc, A3c, e6, oz2]
  refine hq2 _ _ ⟨_, by rw [hr]; simp (disch := (first | assumption | omega | (simp only [List.length_cons, List.length_nil] <;> omega) | (simp only [alloc_n, set_n] <;> omega) | (simp (disch := (first | assumption | omega | (simp only [alloc_n, set_n] <;> omega))) only [row_alloc, row_set]; assumption))) only [W_block, ANs, A3s, AOp.map, ↓reduceIte, Nat.reduceAdd, Nat.reduceEqDiff, reduceCtorEq, initFr, Nat.reduceLT, clsA, List.take, List.drop, Nat.reduceLeDiff, Nat.reduceMul, Nat.reduceSub, reduceIte, ANc, A3c], rfl, by ((repeat (first | exact Keeps.refl _ | assumption | refine Keeps.alloc ?_ _ | (refine Keeps.set ?_ (by first | omega | (simp only [alloc_n, set_n] <;> omega)) (by first | omega | (simp only [alloc_n, set_n] <;> omega)) _) | (refine Keeps.trans' (by assumption) ?_))))⟩
end Go.AM.Fd

set_option linter.unusedSimpArgs false
set_option linter.unusedVariables false
namespace Go.AM.Fd
open Go.Proofs Go.AM.F
def geOu (b : List UInt8) : Option Ou := if frm 2 b = true then pdOu (bd b) else none
def geSt (b : List UInt8) : Option St := if frm 3 b = true then pdSt (bd b) else none
def geLo (b : List UInt8) : Option Lo := if frm 4 b = true then pdLo (bd b) else none
def geLi (b : List UInt8) : Option Li := if frm 5 b = true then pdLi (bd b) else none
def geI6 (b : List UInt8) : Option I6 := if frm 1 b = true then pdI6 (bd b) else none
theorem bd_le {b : List UInt8} (h : b.length ≤ 1000000000) : (bd b).length ≤ 1000000000 := by rw [bd_len]; omega
theorem fillOu (ch : Nat) (cy ep : Int) (pr pt : Nat) : fillA [.int .u8 0, .int .i64 0, .int .i64 0, .int .u64 0, .int .u32 0] [(0, 1, .int .u8 (ch : Nat)), (1, 1, .int .i64 cy), (2, 1, .int .i64 ep), (3, 2, .agg #[.int .u64 (pr : Nat), .int .u32 (pt : Nat)])] = some (cOu ⟨ch, cy, ep, pr, pt⟩) := rfl
theorem fillOp (pr pt : Nat) : fillA [.int .u64 0, .int .u32 0] [(0, 1, .int .u64 (pr : Nat)), (1, 1, .int .u32 (pt : Nat))] = some [.int .u64 (pr : Nat), .int .u32 (pt : Nat)] := rfl
theorem t16 {H : AHeap} {v : Value} {b : List UInt8} (hb : BQ H v b) (hl : b.length ≤ 1000000000) : ∃ w H', ARun Go.Proofs.Try.prog 0 16 [v] H w H' ∧ Keeps H H' ∧ w = match geOu b with | some x => GotV (cOu x) 0 | none => GotV (cOu Ou0) 130 := by
  refine walk2 f16_ok f16_n ?_
  intro Q hq1 hq2
  have hr : ∀ fr H', resO f16.res fr H' = (celln 5 (fr.getD 1 undef) H').map fun c => .tuple #[c, fr.getD 2 undef] := fun fr H' => resCT 5 1 2 fr
  have k0 := (Keeps.refl H).alloc (.cells true false 5 (cOu Ou0) 42)
  have g0 := AHeap.get_alloc_new H (.cells true false 5 (cOu Ou0) 42)
  have lz : (cOu Ou0).length = 5 := rfl
  have ozz : (cOu Ou0).all Value.oneCell' = true := rfl
  simp (disch := (first | assumption | omega | (simp only [List.length_cons, List.length_nil] <;> omega) | (simp only [alloc_n, set_n] <;> omega) | (simp (disch := (first | assumption | omega | (simp only [alloc_n, set_n] <;> omega))) only [row_alloc, row_set]; assumption))) only [f16, W_block, ANs, A3s, AOp.map, ↓reduceIte, Nat.reduceAdd, Nat.reduceEqDiff, reduceCtorEq, initFr, Nat.reduceLT, clsA, List.take, List.drop, Nat.reduceLeDiff, Nat.reduceMul, Nat.reduceSub, reduceIte, ANc, A3c]
  refine callK (t62 (hb.keeps (by ((repeat (first | exact Keeps.refl _ | assumption | refine Keeps.alloc ?_ _ | (refine Keeps.set ?_ (by first | omega | (simp only [alloc_n, set_n] <;> omega)) (by first | omega | (simp only [alloc_n, set_n] <;> omega)) _) | (refine Keeps.trans' (by assumption) ?_)))))) 2 (by omega) hl) ?_
  rintro _ K0 ⟨k, ⟨rfl, rfl, hf⟩ | ⟨r, rfl, r0⟩⟩
  · simp (disch := (first | assumption | omega | (simp only [List.length_cons, List.length_nil] <;> omega) | (simp only [alloc_n, set_n] <;> omega) | (simp (disch := (first | assumption | omega | (simp only [alloc_n, set_n] <;> omega))) only [row_alloc, row_set]; assumption))) only [W_block, ANs, A3s, AOp.map, ↓reduceIte, Nat.reduceAdd, Nat.reduceEqDiff, reduceCtorEq, initFr, Nat.reduceLT, clsA, List.take, List.drop, Nat.reduceLeDiff, Nat.reduceMul, Nat.reduceSub, reduceIte, ANc, A3c]
    refine callK (n63 _) ?_
    rintro _ _ ⟨rfl, rfl⟩
    simp (disch := (first | assumption | omega | (simp only [List.length_cons, List.length_nil] <;> omega) | (simp only [alloc_n, set_n] <;> omega) | (simp (disch := (first | assumption | omega | (simp only [alloc_n, set_n] <;> omega))) only [row_alloc, row_set]; assumption))) only [W_block, ANs, A3s, AOp.map, ↓reduceIte, Nat.reduceAdd, Nat.reduceEqDiff, reduceCtorEq, initFr, Nat.reduceLT, clsA, List.take, List.drop, Nat.reduceLeDiff, Nat.reduceMul, Nat.reduceSub, reduceIte, ANc, A3c]
    refine callK (n64 _) ?_
    rintro _ _ ⟨rfl, rfl⟩
    simp (disch := (first | assumption | omega | (simp only [List.length_cons, List.length_nil] <;> omega) | (simp only [alloc_n, set_n] <;> omega) | (simp (disch := (first | assumption | omega | (simp only [alloc_n, set_n] <;> omega))) only [row_alloc, row_set]; assumption))) only [W_block, ANs, A3s, AOp.map, ↓reduceIte, Nat.reduceAdd, Nat.reduceEqDiff, reduceCtorEq, initFr, Nat.reduceLT, clsA, List.take, List.drop, Nat.reduceLeDiff, Nat.reduceMul, Nat.reduceSub, reduceIte, ANc, A3c]
    refine callK (n64 _) ?_
    rintro _ _ ⟨rfl, rfl⟩
    simp (disch := (first | assumption | omega | (simp only [List.length_cons, List.length_nil] <;> omega) | (simp only [alloc_n, set_n] <;> omega) | (simp (disch := (first | assumption | omega | (simp only [alloc_n, set_n] <;> omega))) only [row_alloc, row_set]; assumption))) only [W_block, ANs, A3s, AOp.map, ↓reduceIte, Nat.reduceAdd, Nat.reduceEqDiff, reduceCtorEq, initFr, Nat.reduceLT, clsA, List.take, List.drop, Nat.reduceLeDiff, Nat.reduceMul, Nat.reduceSub, reduceIte, ANc, A3c]
    refine callK (n64 _) ?_
    rintro _ _ ⟨rfl, rfl⟩
    simp (disch := (first | assumption | omega | (simp only [List.length_cons, List.length_nil] <;> omega) | (simp only [alloc_n, set_n] <;> omega) | (simp (disch := (first | assumption | omega | (simp only [alloc_n, set_n] <;> omega))) only [row_alloc, row_set]; assumption))) only [W_block, ANs, A3s, AOp.map, ↓reduceIte, Nat.reduceAdd, Nat.reduceEqDiff, reduceCtorEq, initFr, Nat.reduceLT, clsA, List.take, List.drop, Nat.reduceLeDiff, Nat.reduceMul, Nat.reduceSub, reduceIte, ANc, A3c]
    refine callK (n65 _) ?_
    rintro _ _ ⟨rfl, rfl⟩
    have f1 := fillOp 0 0
    have f2 := fillOu 0 (IntKind.i64.wrap 0) (IntKind.i64.wrap 0) 0 0
    simp only [Int.natCast_zero] at f1 f2
    simp (disch := (first | assumption | omega | (simp only [List.length_cons, List.length_nil] <;> omega) | (simp only [alloc_n, set_n] <;> omega) | (simp (disch := (first | assumption | omega | (simp only [alloc_n, set_n] <;> omega))) only [row_alloc, row_set]; assumption))) only [W_block, ANs, A3s, AOp.map, ↓reduceIte, Nat.reduceAdd, Nat.reduceEqDiff, reduceCtorEq, initFr, Nat.reduceLT, clsA, List.take, List.drop, Nat.reduceLeDiff, Nat.reduceMul, Nat.reduceSub, reduceIte, ANc, A3c, f1, f2]
    refine callK (n68 _) ?_
    rintro _ K1 ⟨k1, rfl⟩
    have nk1 := k1.n
    try simp only [alloc_n] at nk1
    simp (disch := (first | assumption | omega | (simp only [List.length_cons, List.length_nil] <;> omega) | (simp only [alloc_n, set_n] <;> omega) | (simp (disch := (first | assumption | omega | (simp only [alloc_n, set_n] <;> omega))) only [row_alloc, row_set, Keeps.row k1]; assumption))) only [Keeps.get k1, Keeps.row k1, W_block, ANs, A3s, AOp.map, ↓reduceIte, Nat.reduceAdd, Nat.reduceEqDiff, reduceCtorEq, initFr, Nat.reduceLT, clsA, List.take, List.drop, Nat.reduceLeDiff, Nat.reduceMul, Nat.reduceSub, reduceIte, ANc, A3c, GotV, ozz]
    refine hq2 _ _ ⟨_, by rw [hr]; simp (disch := (first | assumption | omega | (simp only [List.length_cons, List.length_nil] <;> omega) | (simp only [alloc_n, set_n] <;> omega) | (simp (disch := (first | assumption | omega | (simp only [alloc_n, set_n] <;> omega))) only [row_alloc, row_set, Keeps.row k1]; assumption))) only [Keeps.get k1, Keeps.row k1, W_block, ANs, A3s, AOp.map, ↓reduceIte, Nat.reduceAdd, Nat.reduceEqDiff, reduceCtorEq, initFr, Nat.reduceLT, clsA, List.take, List.drop, Nat.reduceLeDiff, Nat.reduceMul, Nat.reduceSub, reduceIte, ANc, A3c, ozz]; rfl, by ((repeat (first | exact Keeps.refl _ | assumption | refine Keeps.alloc ?_ _ | (refine Keeps.set ?_ (by first | omega | (simp only [alloc_n, set_n] <;> omega)) (by first | omega | (simp only [alloc_n, set_n] <;> omega)) _) | (refine Keeps.trans' (by assumption) ?_)))), ?_⟩
    simp only [geOu, hf]
    rfl
  · have hn0 := k.n
    simp only [alloc_n] at hn0
    have hlb := bd_le hl
    have hrl : H.n + 1 ≤ r := r0.1
    simp (disch := (first | assumption | omega | (simp only [List.length_cons, List.length_nil] <;> omega) | (simp only [alloc_n, set_n] <;> omega) | (simp (disch := (first | assumption | omega | (simp only [alloc_n, set_n] <;> omega))) only [row_alloc, row_set]; assumption))) only [W_block, ANs, A3s, AOp.map, ↓reduceIte, Nat.reduceAdd, Nat.reduceEqDiff, reduceCtorEq, initFr, Nat.reduceLT, clsA, List.take, List.drop, Nat.reduceLeDiff, Nat.reduceMul, Nat.reduceSub, reduceIte, ANc, A3c]
    refine callK (q63 r0 hlb) ?_
    rintro _ K1 ⟨rfl, r1, c1⟩
    have n1 := c1.n
    simp (disch := (first | assumption | omega | (simp only [List.length_cons, List.length_nil] <;> omega) | (simp only [alloc_n, set_n] <;> omega) | (simp (disch := (first | assumption | omega | (simp only [alloc_n, set_n] <;> omega))) only [row_alloc, row_set]; assumption))) only [W_block, ANs, A3s, AOp.map, ↓reduceIte, Nat.reduceAdd, Nat.reduceEqDiff, reduceCtorEq, initFr, Nat.reduceLT, clsA, List.take, List.drop, Nat.reduceLeDiff, Nat.reduceMul, Nat.reduceSub, reduceIte, ANc, A3c]
    refine callK (q64 r1 hlb) ?_
    rintro _ K2 ⟨rfl, r2, c2⟩
    have n2 := c2.n
    simp (disch := (first | assumption | omega | (simp only [List.length_cons, List.length_nil] <;> omega) | (simp only [alloc_n, set_n] <;> omega) | (simp (disch := (first | assumption | omega | (simp only [alloc_n, set_n] <;> omega))) only [row_alloc, row_set]; assumption))) only [W_block, ANs, A3s, AOp.map, ↓reduceIte, Nat.reduceAdd, Nat.reduceEqDiff, reduceCtorEq, initFr, Nat.reduceLT, clsA, List.take, List.drop, Nat.reduceLeDiff, Nat.reduceMul, Nat.reduceSub, reduceIte, ANc, A3c]
    refine callK (q64 r2 hlb) ?_
    rintro _ K3 ⟨rfl, r3, c3⟩
    have n3 := c3.n
    simp (disch := (first | assumption | omega | (simp only [List.length_cons, List.length_nil] <;> omega) | (simp only [alloc_n, set_n] <;> omega) | (simp (disch := (first | assumption | omega | (simp only [alloc_n, set_n] <;> omega))) only [row_alloc, row_set]; assumption))) only [W_block, ANs, A3s, AOp.map, ↓reduceIte, Nat.reduceAdd, Nat.reduceEqDiff, reduceCtorEq, initFr, Nat.reduceLT, clsA, List.take, List.drop, Nat.reduceLeDiff, Nat.reduceMul, Nat.reduceSub, reduceIte, ANc, A3c]
    refine callK (q64 r3 hlb) ?_
    rintro _ K4 ⟨rfl, r4, c4⟩
    have n4 := c4.n
    simp (disch := (first | assumption | omega | (simp only [List.length_cons, List.length_nil] <;> omega) | (simp only [alloc_n, set_n] <;> omega) | (simp (disch := (first | assumption | omega | (simp only [alloc_n, set_n] <;> omega))) only [row_alloc, row_set]; assumption))) only [W_block, ANs, A3s, AOp.map, ↓reduceIte, Nat.reduceAdd, Nat.reduceEqDiff, reduceCtorEq, initFr, Nat.reduceLT, clsA, List.take, List.drop, Nat.reduceLeDiff, Nat.reduceMul, Nat.reduceSub, reduceIte, ANc, A3c]
    refine callK (q65 r4 hlb) ?_
    rintro _ K5 ⟨rfl, r5, c5⟩
    have n5 := c5.n
    simp (disch := (first | assumption | omega | (simp only [List.length_cons, List.length_nil] <;> omega) | (simp only [alloc_n, set_n] <;> omega) | (simp (disch := (first | assumption | omega | (simp only [alloc_n, set_n] <;> omega))) only [row_alloc, row_set]; assumption))) only [W_block, ANs, A3s, AOp.map, ↓reduceIte, Nat.reduceAdd, Nat.reduceEqDiff, reduceCtorEq, initFr, Nat.reduceLT, clsA, List.take, List.drop, Nat.reduceLeDiff, Nat.reduceMul, Nat.reduceSub, reduceIte, ANc, A3c, fillOp, fillOu]
    refine callK (t68 r5 (frm 2 b) _) ?_
    rintro _ K6 ⟨k6, rfl⟩
    have n6 := k6.n
    have g6 : K6.get H.n = some (.cells true false 5 (cOu Ou0) 42) := by
      rw [k6.get _ (by omega), Chg1.get c5 (by omega) (by omega), Chg1.get c4 (by omega) (by omega), Chg1.get c3 (by omega) (by omega), Chg1.get c2 (by omega) (by omega), Chg1.get c1 (by omega) (by omega), k.get _ (by rw [alloc_n]; omega)]; exact g0
    have p6 := AHeap.get_lt g6
    have kk : ∀ o, Keeps H (K6.set H.n o) := fun o => ⟨by rw [set_n]; omega, fun y hy => by
      rw [AHeap.get_set_other _ (by omega) p6, k6.get _ (by omega), Chg1.get c5 (by omega) (by omega), Chg1.get c4 (by omega) (by omega), Chg1.get c3 (by omega) (by omega), Chg1.get c2 (by omega) (by omega), Chg1.get c1 (by omega) (by omega), k.get _ (by rw [alloc_n]; omega)]; exact k0.get _ hy⟩
    have ed : (⟨na (bd b) 0 1, IntKind.i64.wrap (na (bd b) (0 + 1) 8), IntKind.i64.wrap (na (bd b) (0 + 1 + 8) 8), na (bd b) (0 + 1 + 8 + 8) 8, na (bd b) (0 + 1 + 8 + 8 + 8) 4⟩ : Ou) = deOu (bd b) := rfl
    rw [ed]
    by_cases hc : frm 2 b = true ∧ (bd b).length = 0 + 1 + 8 + 8 + 8 + 4 ∧ okOu (deOu (bd b)) = true
    · rw [if_pos hc]
      have ge : geOu b = some (deOu (bd b)) := by unfold geOu pdOu; rw [if_pos hc.1, if_pos hc.2]
      have lx : (cOu (deOu (bd b))).length = 5 := rfl
      have ox : (cOu (deOu (bd b))).all Value.oneCell' = true := rfl
      simp (disch := (first | assumption | omega | (simp only [List.length_cons, List.length_nil] <;> omega) | (simp only [alloc_n, set_n] <;> omega) | (simp (disch := (first | assumption | omega | (simp only [alloc_n, set_n] <;> omega))) only [row_alloc, row_set]; assumption))) only [W_block, ANs, A3s, AOp.map, ↓reduceIte, Nat.reduceAdd, Nat.reduceEqDiff, reduceCtorEq, initFr, Nat.reduceLT, clsA, List.take, List.drop, Nat.reduceLeDiff, Nat.reduceMul, Nat.reduceSub, reduceIte, ANc, A3c, GotV, g6, ox]
      refine hq2 _ _ ⟨_, by rw [hr]; simp (disch := (first | assumption | omega | (simp only [List.length_cons, List.length_nil] <;> omega) | (simp only [alloc_n, set_n] <;> omega) | (simp (disch := (first | assumption | omega | (simp only [alloc_n, set_n] <;> omega))) only [row_alloc, row_set]; assumption))) only [W_block, ANs, A3s, AOp.map, ↓reduceIte, Nat.reduceAdd, Nat.reduceEqDiff, reduceCtorEq, initFr, Nat.reduceLT, clsA, List.take, List.drop, Nat.reduceLeDiff, Nat.reduceMul, Nat.reduceSub, reduceIte, ANc, A3c, g6, ox]; rfl, kk _, ?_⟩
      rw [ge]; rfl
    · rw [if_neg hc]
      have ge : geOu b = none := by
        unfold geOu pdOu
        split
        · rename_i hf
          rw [if_neg (fun h => hc ⟨hf, h⟩)]
        · rfl
      simp (disch := (first | assumption | omega | (simp only [List.length_cons, List.length_nil] <;> omega) | (simp only [alloc_n, set_n] <;> omega) | (simp (disch := (first | assumption | omega | (simp only [alloc_n, set_n] <;> omega))) only [row_alloc, row_set]; assumption))) only [W_block, ANs, A3s, AOp.map, ↓reduceIte, Nat.reduceAdd, Nat.reduceEqDiff, reduceCtorEq, initFr, Nat.reduceLT, clsA, List.take, List.drop, Nat.reduceLeDiff, Nat.reduceMul, Nat.reduceSub, reduceIte, ANc, A3c, GotV, g6, ozz]
      refine hq2 _ _ ⟨_, by rw [hr]; simp (disch := (first | assumption | omega | (simp only [List.length_cons, List.length_nil] <;> omega) | (simp only [alloc_n, set_n] <;> omega) | (simp (disch := (first | assumption | omega | (simp only [alloc_n, set_n] <;> omega))) only [row_alloc, row_set]; assumption))) only [W_block, ANs, A3s, AOp.map, ↓reduceIte, Nat.reduceAdd, Nat.reduceEqDiff, reduceCtorEq, initFr, Nat.reduceLT, clsA, List.take, List.drop, Nat.reduceLeDiff, Nat.reduceMul, Nat.reduceSub, reduceIte, ANc, A3c, g6, ozz]; rfl, kk _, ?_⟩
      rw [ge]; rfl
theorem fillLo {e c : Int} {s : St} (h : s.t.length = 64) : fillA Z70 [(0, 1, .int .i64 e), (1, 1, .int .i64 c), (2, 68, .agg (cSt s).toArray)] = some (cLo ⟨e, c, s⟩) := by
  have h1 : fillA Z70 [(0, 1, .int .i64 e), (1, 1, .int .i64 c), (2, 68, .agg (cSt s).toArray)] = fillA (.int .i64 e :: .int .i64 c :: Z70.drop 2) [(2, 68, .agg (cSt s).toArray)] := rfl
  rw [h1, fill_cons, cells_agg, if_pos ⟨cSt_len h, Nat.le_refl 70⟩, fill0]
  have h2 : List.drop (2 + 68) (Value.int .i64 e :: Value.int .i64 c :: Z70.drop 2) = [] := rfl
  have h3 : List.take 2 (Value.int .i64 e :: Value.int .i64 c :: Z70.drop 2) = [.int .i64 e, .int .i64 c] := rfl
  rw [h2, h3, List.append_nil]
  rfl
theorem t19 {H : AHeap} {v : Value} {b : List UInt8} (hb : BQ H v b) (hl : b.length ≤ 1000000000) : ∃ w H', ARun Go.Proofs.Try.prog 0 19 [v] H w H' ∧ Keeps H H' ∧ w = match geSt b with | some x => GotV (cSt x) 0 | none => GotV (cSt St0) 130 := by
  refine walk2 f19_ok f19_n ?_
  intro Q hq1 hq2
  have hr : ∀ fr H', resO f19.res fr H' = (celln 68 (fr.getD 1 undef) H').map fun c => .tuple #[c, fr.getD 2 undef] := fun fr H' => resCT 68 1 2 fr
  have k0 := (Keeps.refl H).alloc (.cells true false 68 Z68 51)
  have g0 := AHeap.get_alloc_new H (.cells true false 68 Z68 51)
  have lz : Z68.length = 68 := rfl
  have ozz : Z68.all Value.oneCell' = true := rfl
  have lz' : (cSt St0).length = 68 := rfl
  have ozz' : (cSt St0).all Value.oneCell' = true := rfl
  simp (disch := (first | assumption | omega | (simp only [List.length_cons, List.length_nil] <;> omega) | (simp only [alloc_n, set_n] <;> omega) | (simp (disch := (first | assumption | omega | (simp only [alloc_n, set_n] <;> omega))) only [row_alloc, row_set]; assumption))) only [f19, W_block, ANs, A3s, AOp.map, ↓reduceIte, Nat.reduceAdd, Nat.reduceEqDiff, reduceCtorEq, initFr, Nat.reduceLT, clsA, List.take, List.drop, Nat.reduceLeDiff, Nat.reduceMul, Nat.reduceSub, reduceIte, ANc, A3c, ozz]
  refine callK (t62 (hb.keeps (by ((repeat (first | exact Keeps.refl _ | assumption | refine Keeps.alloc ?_ _ | (refine Keeps.set ?_ (by first | omega | (simp only [alloc_n, set_n] <;> omega)) (by first | omega | (simp only [alloc_n, set_n] <;> omega)) _) | (refine Keeps.trans' (by assumption) ?_)))))) 3 (by omega) hl) ?_
  rintro _ K0 ⟨k, ⟨rfl, rfl, hf⟩ | ⟨r, rfl, r0⟩⟩
  · simp (disch := (first | assumption | omega | (simp only [List.length_cons, List.length_nil] <;> omega) | (simp only [alloc_n, set_n] <;> omega) | (simp (disch := (first | assumption | omega | (simp only [alloc_n, set_n] <;> omega))) only [row_alloc, row_set]; assumption))) only [W_block, ANs, A3s, AOp.map, ↓reduceIte, Nat.reduceAdd, Nat.reduceEqDiff, reduceCtorEq, initFr, Nat.reduceLT, clsA, List.take, List.drop, Nat.reduceLeDiff, Nat.reduceMul, Nat.reduceSub, reduceIte, ANc, A3c]
    refine callK (n70 _) ?_
    rintro _ Ks ⟨rfl, ks⟩
    have nks := ks.n
    simp only [alloc_n] at nks
    simp (disch := (first | assumption | omega | (simp only [List.length_cons, List.length_nil] <;> omega) | (simp only [alloc_n, set_n] <;> omega) | (simp (disch := (first | assumption | omega | (simp only [alloc_n, set_n] <;> omega))) only [row_alloc, row_set, Keeps.row ks]; assumption))) only [Keeps.get ks, Keeps.row ks, W_block, ANs, A3s, AOp.map, ↓reduceIte, Nat.reduceAdd, Nat.reduceEqDiff, reduceCtorEq, initFr, Nat.reduceLT, clsA, List.take, List.drop, Nat.reduceLeDiff, Nat.reduceMul, Nat.reduceSub, reduceIte, ANc, A3c]
    refine callK (n69 St0 rfl) ?_
    rintro _ K1 ⟨k1, rfl⟩
    have nk1 := k1.n
    try simp only [alloc_n] at nk1
    simp (disch := (first | assumption | omega | (simp only [List.length_cons, List.length_nil] <;> omega) | (simp only [alloc_n, set_n] <;> omega) | (simp (disch := (first | assumption | omega | (simp only [alloc_n, set_n] <;> omega))) only [row_alloc, row_set, Keeps.row ks, Keeps.row k1]; assumption))) only [Keeps.get ks, Keeps.get k1, Keeps.row ks, Keeps.row k1, W_block, ANs, A3s, AOp.map, ↓reduceIte, Nat.reduceAdd, Nat.reduceEqDiff, reduceCtorEq, initFr, Nat.reduceLT, clsA, List.take, List.drop, Nat.reduceLeDiff, Nat.reduceMul, Nat.reduceSub, reduceIte, ANc, A3c, GotV, ozz, ozz']
    refine hq2 _ _ ⟨_, by rw [hr]; simp (disch := (first | assumption | omega | (simp only [List.length_cons, List.length_nil] <;> omega) | (simp only [alloc_n, set_n] <;> omega) | (simp (disch := (first | assumption | omega | (simp only [alloc_n, set_n] <;> omega))) only [row_alloc, row_set, Keeps.row ks, Keeps.row k1]; assumption))) only [Keeps.get ks, Keeps.get k1, Keeps.row ks, Keeps.row k1, W_block, ANs, A3s, AOp.map, ↓reduceIte, Nat.reduceAdd, Nat.reduceEqDiff, reduceCtorEq, initFr, Nat.reduceLT, clsA, List.take, List.drop, Nat.reduceLeDiff, Nat.reduceMul, Nat.reduceSub, reduceIte, ANc, A3c, ozz, ozz']; rfl, by ((repeat (first | exact Keeps.refl _ | assumption | refine Keeps.alloc ?_ _ | (refine Keeps.set ?_ (by first | omega | (simp only [alloc_n, set_n] <;> omega)) (by first | omega | (simp only [alloc_n, set_n] <;> omega)) _) | (refine Keeps.trans' (by assumption) ?_)))), ?_⟩
    simp only [geSt, hf]
    rfl
  · have hn0 := k.n
    simp only [alloc_n] at hn0
    have hlb := bd_le hl
    have hrl : H.n + 1 ≤ r := r0.1
    have c0 := Chg.refl [r] K0
    simp (disch := (first | assumption | omega | (simp only [List.length_cons, List.length_nil] <;> omega) | (simp only [alloc_n, set_n] <;> omega) | (simp (disch := (first | assumption | omega | (simp only [alloc_n, set_n] <;> omega))) only [row_alloc, row_set]; assumption))) only [W_block, ANs, A3s, AOp.map, ↓reduceIte, Nat.reduceAdd, Nat.reduceEqDiff, reduceCtorEq, initFr, Nat.reduceLT, clsA, List.take, List.drop, Nat.reduceLeDiff, Nat.reduceMul, Nat.reduceSub, reduceIte, ANc, A3c]
    refine callK (t70 r0 hlb) ?_
    rintro _ K1 ⟨rfl, r1, e1⟩
    have c1 := Chg1.tr c0 e1
    simp (disch := (first | assumption | omega | (simp only [List.length_cons, List.length_nil] <;> omega) | (simp only [alloc_n, set_n] <;> omega) | (simp (disch := (first | assumption | omega | (simp only [alloc_n, set_n] <;> omega))) only [row_alloc, row_set]; assumption))) only [W_block, ANs, A3s, AOp.map, ↓reduceIte, Nat.reduceAdd, Nat.reduceEqDiff, reduceCtorEq, initFr, Nat.reduceLT, clsA, List.take, List.drop, Nat.reduceLeDiff, Nat.reduceMul, Nat.reduceSub, reduceIte, ANc, A3c]
    refine callK (t69 r1 (frm 3 b) (deSt (bd b) 0) (tmr_len _ _)) ?_
    rintro _ K ⟨k6, rfl⟩
    have cc := Chg1.tr c1 (Chg1.kp k6)
    have n6 := cc.n
    have g6 : K.get H.n = some (.cells true false 68 Z68 51) := by
      rw [Chg1.get cc (by omega) (by omega), k.get _ (by rw [alloc_n]; omega)]; exact g0
    have p6 := AHeap.get_lt g6
    have kk : ∀ o, Keeps H (K.set H.n o) := fun o => ⟨by rw [set_n]; omega, fun y hy => by
      rw [AHeap.get_set_other _ (by omega) p6, Chg1.get cc (by omega) (by omega), k.get _ (by rw [alloc_n]; omega)]; exact k0.get _ hy⟩
    have ed : deSt (bd b) 0 = deSt (bd b) 0 := rfl
    rw [ed]
    by_cases hc : frm 3 b = true ∧ (bd b).length = 0 + 92
    · rw [if_pos hc]
      have ge : geSt b = some (deSt (bd b) 0) := by unfold geSt pdSt; rw [if_pos hc.1, if_pos hc.2]
      have lx := cSt_len (x := deSt (bd b) 0) (tmr_len _ _)
      have ox := cSt_one (deSt (bd b) 0)
      simp (disch := (first | assumption | omega | (simp only [List.length_cons, List.length_nil] <;> omega) | (simp only [alloc_n, set_n] <;> omega) | (simp (disch := (first | assumption | omega | (simp only [alloc_n, set_n] <;> omega))) only [row_alloc, row_set]; assumption))) only [W_block, ANs, A3s, AOp.map, ↓reduceIte, Nat.reduceAdd, Nat.reduceEqDiff, reduceCtorEq, initFr, Nat.reduceLT, clsA, List.take, List.drop, Nat.reduceLeDiff, Nat.reduceMul, Nat.reduceSub, reduceIte, ANc, A3c, GotV, g6, ox, ozz]
      refine hq2 _ _ ⟨_, by rw [hr]; simp (disch := (first | assumption | omega | (simp only [List.length_cons, List.length_nil] <;> omega) | (simp only [alloc_n, set_n] <;> omega) | (simp (disch := (first | assumption | omega | (simp only [alloc_n, set_n] <;> omega))) only [row_alloc, row_set]; assumption))) only [W_block, ANs, A3s, AOp.map, ↓reduceIte, Nat.reduceAdd, Nat.reduceEqDiff, reduceCtorEq, initFr, Nat.reduceLT, clsA, List.take, List.drop, Nat.reduceLeDiff, Nat.reduceMul, Nat.reduceSub, reduceIte, ANc, A3c, g6, ox, ozz]; rfl, kk _, ?_⟩
      rw [ge]; rfl
    · rw [if_neg hc]
      have ge : geSt b = none := by
        unfold geSt pdSt
        split
        · rename_i hf
          rw [if_neg (fun h => hc ⟨hf, h⟩)]
        · rfl
      simp (disch := (first | assumption | omega | (simp only [List.length_cons, List.length_nil] <;> omega) | (simp only [alloc_n, set_n] <;> omega) | (simp (disch := (first | assumption | omega | (simp only [alloc_n, set_n] <;> omega))) only [row_alloc, row_set]; assumption))) only [W_block, ANs, A3s, AOp.map, ↓reduceIte, Nat.reduceAdd, Nat.reduceEqDiff, reduceCtorEq, initFr, Nat.reduceLT, clsA, List.take, List.drop, Nat.reduceLeDiff, Nat.reduceMul, Nat.reduceSub, reduceIte, ANc, A3c, GotV, g6, ozz, ozz']
      refine hq2 _ _ ⟨_, by rw [hr]; simp (disch := (first | assumption | omega | (simp only [List.length_cons, List.length_nil] <;> omega) | (simp only [alloc_n, set_n] <;> omega) | (simp (disch := (first | assumption | omega | (simp only [alloc_n, set_n] <;> omega))) only [row_alloc, row_set]; assumption))) only [W_block, ANs, A3s, AOp.map, ↓reduceIte, Nat.reduceAdd, Nat.reduceEqDiff, reduceCtorEq, initFr, Nat.reduceLT, clsA, List.take, List.drop, Nat.reduceLeDiff, Nat.reduceMul, Nat.reduceSub, reduceIte, ANc, A3c, g6, ozz, ozz']; rfl, kk _, ?_⟩
      rw [ge]; rfl
theorem t21 {H : AHeap} {v : Value} {b : List UInt8} (hb : BQ H v b) (hl : b.length ≤ 1000000000) : ∃ w H', ARun Go.Proofs.Try.prog 0 21 [v] H w H' ∧ Keeps H H' ∧ w = match geLo b with | some x => GotV (cLo x) 0 | none => GotV (cLo Lo0) 130 := by
  refine walk2 f21_ok f21_n ?_
  intro Q hq1 hq2
  have hr : ∀ fr H', resO f21.res fr H' = (celln 70 (fr.getD 1 undef) H').map fun c => .tuple #[c, fr.getD 2 undef] := fun fr H' => resCT 70 1 2 fr
  have k0 := (Keeps.refl H).alloc (.cells true false 70 Z70 57)
  have g0 := AHeap.get_alloc_new H (.cells true false 70 Z70 57)
  have lz : Z70.length = 70 := rfl
  have ozz : Z70.all Value.oneCell' = true := rfl
  have lz' : (cLo Lo0).length = 70 := rfl
  have ozz' : (cLo Lo0).all Value.oneCell' = true := rfl
  simp (disch := (first | assumption | omega | (simp only [List.length_cons, List.length_nil] <;> omega) | (simp only [alloc_n, set_n] <;> omega) | (simp (disch := (first | assumption | omega | (simp only [alloc_n, set_n] <;> omega))) only [row_alloc, row_set]; assumption))) only [f21, W_block, ANs, A3s, AOp.map, ↓reduceIte, Nat.reduceAdd, Nat.reduceEqDiff, reduceCtorEq, initFr, Nat.reduceLT, clsA, List.take, List.drop, Nat.reduceLeDiff, Nat.reduceMul, Nat.reduceSub, reduceIte, ANc, A3c, ozz]
  refine callK (t62 (hb.keeps (by ((repeat (first | exact Keeps.refl _ | assumption | refine Keeps.alloc ?_ _ | (refine Keeps.set ?_ (by first | omega | (simp only [alloc_n, set_n] <;> omega)) (by first | omega | (simp only [alloc_n, set_n] <;> omega)) _) | (refine Keeps.trans' (by assumption) ?_)))))) 4 (by omega) hl) ?_
  rintro _ K0 ⟨k, ⟨rfl, rfl, hf⟩ | ⟨r, rfl, r0⟩⟩
  · simp (disch := (first | assumption | omega | (simp only [List.length_cons, List.length_nil] <;> omega) | (simp only [alloc_n, set_n] <;> omega) | (simp (disch := (first | assumption | omega | (simp only [alloc_n, set_n] <;> omega))) only [row_alloc, row_set]; assumption))) only [W_block, ANs, A3s, AOp.map, ↓reduceIte, Nat.reduceAdd, Nat.reduceEqDiff, reduceCtorEq, initFr, Nat.reduceLT, clsA, List.take, List.drop, Nat.reduceLeDiff, Nat.reduceMul, Nat.reduceSub, reduceIte, ANc, A3c]
    refine callK (n64 _) ?_
    rintro _ _ ⟨rfl, rfl⟩
    simp (disch := (first | assumption | omega | (simp only [List.length_cons, List.length_nil] <;> omega) | (simp only [alloc_n, set_n] <;> omega) | (simp (disch := (first | assumption | omega | (simp only [alloc_n, set_n] <;> omega))) only [row_alloc, row_set]; assumption))) only [W_block, ANs, A3s, AOp.map, ↓reduceIte, Nat.reduceAdd, Nat.reduceEqDiff, reduceCtorEq, initFr, Nat.reduceLT, clsA, List.take, List.drop, Nat.reduceLeDiff, Nat.reduceMul, Nat.reduceSub, reduceIte, ANc, A3c]
    refine callK (n64 _) ?_
    rintro _ _ ⟨rfl, rfl⟩
    simp (disch := (first | assumption | omega | (simp only [List.length_cons, List.length_nil] <;> omega) | (simp only [alloc_n, set_n] <;> omega) | (simp (disch := (first | assumption | omega | (simp only [alloc_n, set_n] <;> omega))) only [row_alloc, row_set]; assumption))) only [W_block, ANs, A3s, AOp.map, ↓reduceIte, Nat.reduceAdd, Nat.reduceEqDiff, reduceCtorEq, initFr, Nat.reduceLT, clsA, List.take, List.drop, Nat.reduceLeDiff, Nat.reduceMul, Nat.reduceSub, reduceIte, ANc, A3c]
    refine callK (n70 _) ?_
    rintro _ Ks ⟨rfl, ks⟩
    have nks := ks.n
    simp only [alloc_n] at nks
    simp (disch := (first | assumption | omega | (simp only [List.length_cons, List.length_nil] <;> omega) | (simp only [alloc_n, set_n] <;> omega) | (simp (disch := (first | assumption | omega | (simp only [alloc_n, set_n] <;> omega))) only [row_alloc, row_set, Keeps.row ks]; assumption))) only [Keeps.get ks, Keeps.row ks, W_block, ANs, A3s, AOp.map, ↓reduceIte, Nat.reduceAdd, Nat.reduceEqDiff, reduceCtorEq, initFr, Nat.reduceLT, clsA, List.take, List.drop, Nat.reduceLeDiff, Nat.reduceMul, Nat.reduceSub, reduceIte, ANc, A3c, fillLo (s := St0) rfl]
    refine callK (n72 _ rfl) ?_
    rintro _ K1 ⟨k1, rfl⟩
    have nk1 := k1.n
    try simp only [alloc_n] at nk1
    simp (disch := (first | assumption | omega | (simp only [List.length_cons, List.length_nil] <;> omega) | (simp only [alloc_n, set_n] <;> omega) | (simp (disch := (first | assumption | omega | (simp only [alloc_n, set_n] <;> omega))) only [row_alloc, row_set, Keeps.row ks, Keeps.row k1]; assumption))) only [Keeps.get ks, Keeps.get k1, Keeps.row ks, Keeps.row k1, W_block, ANs, A3s, AOp.map, ↓reduceIte, Nat.reduceAdd, Nat.reduceEqDiff, reduceCtorEq, initFr, Nat.reduceLT, clsA, List.take, List.drop, Nat.reduceLeDiff, Nat.reduceMul, Nat.reduceSub, reduceIte, ANc, A3c, GotV, ozz, ozz']
    refine hq2 _ _ ⟨_, by rw [hr]; simp (disch := (first | assumption | omega | (simp only [List.length_cons, List.length_nil] <;> omega) | (simp only [alloc_n, set_n] <;> omega) | (simp (disch := (first | assumption | omega | (simp only [alloc_n, set_n] <;> omega))) only [row_alloc, row_set, Keeps.row ks, Keeps.row k1]; assumption))) only [Keeps.get ks, Keeps.get k1, Keeps.row ks, Keeps.row k1, W_block, ANs, A3s, AOp.map, ↓reduceIte, Nat.reduceAdd, Nat.reduceEqDiff, reduceCtorEq, initFr, Nat.reduceLT, clsA, List.take, List.drop, Nat.reduceLeDiff, Nat.reduceMul, Nat.reduceSub, reduceIte, ANc, A3c, ozz, ozz']; rfl, by ((repeat (first | exact Keeps.refl _ | assumption | refine Keeps.alloc ?_ _ | (refine Keeps.set ?_ (by first | omega | (simp only [alloc_n, set_n] <;> omega)) (by first | omega | (simp only [alloc_n, set_n] <;> omega)) _) | (refine Keeps.trans' (by assumption) ?_)))), ?_⟩
    simp only [geLo, hf]
    rfl
  · have hn0 := k.n
    simp only [alloc_n] at hn0
    have hlb := bd_le hl
    have hrl : H.n + 1 ≤ r := r0.1
    have c0 := Chg.refl [r] K0
    simp (disch := (first | assumption | omega | (simp only [List.length_cons, List.length_nil] <;> omega) | (simp only [alloc_n, set_n] <;> omega) | (simp (disch := (first | assumption | omega | (simp only [alloc_n, set_n] <;> omega))) only [row_alloc, row_set]; assumption))) only [W_block, ANs, A3s, AOp.map, ↓reduceIte, Nat.reduceAdd, Nat.reduceEqDiff, reduceCtorEq, initFr, Nat.reduceLT, clsA, List.take, List.drop, Nat.reduceLeDiff, Nat.reduceMul, Nat.reduceSub, reduceIte, ANc, A3c]
    refine callK (q64 r0 hlb) ?_
    rintro _ K1 ⟨rfl, r1, e1⟩
    have c1 := Chg1.tr c0 e1
    simp (disch := (first | assumption | omega | (simp only [List.length_cons, List.length_nil] <;> omega) | (simp only [alloc_n, set_n] <;> omega) | (simp (disch := (first | assumption | omega | (simp only [alloc_n, set_n] <;> omega))) only [row_alloc, row_set]; assumption))) only [W_block, ANs, A3s, AOp.map, ↓reduceIte, Nat.reduceAdd, Nat.reduceEqDiff, reduceCtorEq, initFr, Nat.reduceLT, clsA, List.take, List.drop, Nat.reduceLeDiff, Nat.reduceMul, Nat.reduceSub, reduceIte, ANc, A3c]
    refine callK (q64 r1 hlb) ?_
    rintro _ K2 ⟨rfl, r2, e2⟩
    have c2 := Chg1.tr c1 e2
    simp (disch := (first | assumption | omega | (simp only [List.length_cons, List.length_nil] <;> omega) | (simp only [alloc_n, set_n] <;> omega) | (simp (disch := (first | assumption | omega | (simp only [alloc_n, set_n] <;> omega))) only [row_alloc, row_set]; assumption))) only [W_block, ANs, A3s, AOp.map, ↓reduceIte, Nat.reduceAdd, Nat.reduceEqDiff, reduceCtorEq, initFr, Nat.reduceLT, clsA, List.take, List.drop, Nat.reduceLeDiff, Nat.reduceMul, Nat.reduceSub, reduceIte, ANc, A3c]
    refine callK (t70 r2 hlb) ?_
    rintro _ K3 ⟨rfl, r3, e3⟩
    have c3 := Chg1.tr c2 e3
    simp (disch := (first | assumption | omega | (simp only [List.length_cons, List.length_nil] <;> omega) | (simp only [alloc_n, set_n] <;> omega) | (simp (disch := (first | assumption | omega | (simp only [alloc_n, set_n] <;> omega))) only [row_alloc, row_set]; assumption))) only [W_block, ANs, A3s, AOp.map, ↓reduceIte, Nat.reduceAdd, Nat.reduceEqDiff, reduceCtorEq, initFr, Nat.reduceLT, clsA, List.take, List.drop, Nat.reduceLeDiff, Nat.reduceMul, Nat.reduceSub, reduceIte, ANc, A3c, fillLo (s := deSt (bd b) (0 + 8 + 8)) (tmr_len _ _)]
    refine callK (t72 r3 (frm 4 b) ⟨sg (na (bd b) 0 8), sg (na (bd b) (0 + 8) 8), deSt (bd b) (0 + 8 + 8)⟩ (tmr_len _ _)) ?_
    rintro _ K ⟨k6, rfl⟩
    have cc := Chg1.tr c3 (Chg1.kp k6)
    have n6 := cc.n
    have g6 : K.get H.n = some (.cells true false 70 Z70 57) := by
      rw [Chg1.get cc (by omega) (by omega), k.get _ (by rw [alloc_n]; omega)]; exact g0
    have p6 := AHeap.get_lt g6
    have kk : ∀ o, Keeps H (K.set H.n o) := fun o => ⟨by rw [set_n]; omega, fun y hy => by
      rw [AHeap.get_set_other _ (by omega) p6, Chg1.get cc (by omega) (by omega), k.get _ (by rw [alloc_n]; omega)]; exact k0.get _ hy⟩
    have ed : (⟨sg (na (bd b) 0 8), sg (na (bd b) (0 + 8) 8), deSt (bd b) (0 + 8 + 8)⟩ : Lo) = deLo (bd b) := rfl
    rw [ed]
    by_cases hc : frm 4 b = true ∧ (bd b).length = 0 + 8 + 8 + 92 ∧ okLo (deLo (bd b)) = true
    · rw [if_pos hc]
      have ge : geLo b = some (deLo (bd b)) := by unfold geLo pdLo; rw [if_pos hc.1, if_pos hc.2]
      have lx := cLo_len (x := deLo (bd b)) (tmr_len _ _)
      have ox := cLo_one (deLo (bd b))
      simp (disch := (first | assumption | omega | (simp only [List.length_cons, List.length_nil] <;> omega) | (simp only [alloc_n, set_n] <;> omega) | (simp (disch := (first | assumption | omega | (simp only [alloc_n, set_n] <;> omega))) only [row_alloc, row_set]; assumption))) only [W_block, ANs, A3s, AOp.map, ↓reduceIte, Nat.reduceAdd, Nat.reduceEqDiff, reduceCtorEq, initFr, Nat.reduceLT, clsA, List.take, List.drop, Nat.reduceLeDiff, Nat.reduceMul, Nat.reduceSub, reduceIte, ANc, A3c, GotV, g6, ox, ozz]
      refine hq2 _ _ ⟨_, by rw [hr]; simp (disch := (first | assumption | omega | (simp only [List.length_cons, List.length_nil] <;> omega) | (simp only [alloc_n, set_n] <;> omega) | (simp (disch := (first | assumption | omega | (simp only [alloc_n, set_n] <;> omega))) only [row_alloc, row_set]; assumption))) only [W_block, ANs, A3s, AOp.map, ↓reduceIte, Nat.reduceAdd, Nat.reduceEqDiff, reduceCtorEq, initFr, Nat.reduceLT, clsA, List.take, List.drop, Nat.reduceLeDiff, Nat.reduceMul, Nat.reduceSub, reduceIte, ANc, A3c, g6, ox, ozz]; rfl, kk _, ?_⟩
      rw [ge]; rfl
    · rw [if_neg hc]
      have ge : geLo b = none := by
        unfold geLo pdLo
        split
        · rename_i hf
          rw [if_neg (fun h => hc ⟨hf, h⟩)]
        · rfl
      simp (disch := (first | assumption | omega | (simp only [List.length_cons, List.length_nil] <;> omega) | (simp only [alloc_n, set_n] <;> omega) | (simp (disch := (first | assumption | omega | (simp only [alloc_n, set_n] <;> omega))) only [row_alloc, row_set]; assumption))) only [W_block, ANs, A3s, AOp.map, ↓reduceIte, Nat.reduceAdd, Nat.reduceEqDiff, reduceCtorEq, initFr, Nat.reduceLT, clsA, List.take, List.drop, Nat.reduceLeDiff, Nat.reduceMul, Nat.reduceSub, reduceIte, ANc, A3c, GotV, g6, ozz, ozz']
      refine hq2 _ _ ⟨_, by rw [hr]; simp (disch := (first | assumption | omega | (simp only [List.length_cons, List.length_nil] <;> omega) | (simp only [alloc_n, set_n] <;> omega) | (simp (disch := (first | assumption | omega | (simp only [alloc_n, set_n] <;> omega))) only [row_alloc, row_set]; assumption))) only [W_block, ANs, A3s, AOp.map, ↓reduceIte, Nat.reduceAdd, Nat.reduceEqDiff, reduceCtorEq, initFr, Nat.reduceLT, clsA, List.take, List.drop, Nat.reduceLeDiff, Nat.reduceMul, Nat.reduceSub, reduceIte, ANc, A3c, g6, ozz, ozz']; rfl, kk _, ?_⟩
      rw [ge]; rfl
end Go.AM.Fd
