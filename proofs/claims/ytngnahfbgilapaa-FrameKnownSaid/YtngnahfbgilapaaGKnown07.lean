/- Part of the proof. -/
import Derived.Test.YtngnahfbgilapaaGKnown06
set_option linter.unusedSimpArgs false
set_option linter.unusedVariables false
set_option linter.unusedSimpArgs false
set_option linter.unusedVariables false
namespace Go.AM.Fd
open Nat (reduceAdd reduceEqDiff reduceLT reduceLeDiff reduceMul reduceSub)
open Go.Proofs Go.AM.F
theorem GotV.nv {ρ : Nat → Option Nat} {c : List Value} (h : c.all plain1 = true) (e : Int) : NV ρ (GotV c e) (GotV c e) :=
  NV.tuple_of (.cons (NV.agg_of (NL.plain h)) (.cons (.int _ e) .nil))
def er (ok : Bool) : Int := if ok then 0 else 130
theorem er_b (ok : Bool) : (er ok == 0) = ok := by cases ok <;> rfl
theorem e16 {H : AHeap} {v : Value} {b : List UInt8} (hb : BQ H v b) (hl : b.length ≤ 1000000) : ∃ w H', ARun Go.Proofs.Try.prog 0 16 [v] H w H' ∧ w = GotV (cOu ((geOu b).getD Ou0)) (er (geOu b).isSome) ∧ H' = H := by
  obtain ⟨w, H', a, k, e⟩ := t16 hb (by omega)
  have e2 : w = GotV (cOu ((geOu b).getD Ou0)) (er (geOu b).isSome) := by rw [e]; cases geOu b <;> rfl
  subst e2
  exact ⟨_, _, a.gc0 k (.inr (GotV.nv rfl _)), rfl, rfl⟩
theorem e19 {H : AHeap} {v : Value} {b : List UInt8} (hb : BQ H v b) (hl : b.length ≤ 1000000) : ∃ w H', ARun Go.Proofs.Try.prog 0 19 [v] H w H' ∧ w = GotV (cSt ((geSt b).getD St0)) (er (geSt b).isSome) ∧ H' = H := by
  obtain ⟨w, H', a, k, e⟩ := t19 hb (by omega)
  have e2 : w = GotV (cSt ((geSt b).getD St0)) (er (geSt b).isSome) := by rw [e]; cases geSt b <;> rfl
  subst e2
  exact ⟨_, _, a.gc0 k (.inr (GotV.nv (cSt_plain _) _)), rfl, rfl⟩
theorem e21 {H : AHeap} {v : Value} {b : List UInt8} (hb : BQ H v b) (hl : b.length ≤ 1000000) : ∃ w H', ARun Go.Proofs.Try.prog 0 21 [v] H w H' ∧ w = GotV (cLo ((geLo b).getD Lo0)) (er (geLo b).isSome) ∧ H' = H := by
  obtain ⟨w, H', a, k, e⟩ := t21 hb (by omega)
  have e2 : w = GotV (cLo ((geLo b).getD Lo0)) (er (geLo b).isSome) := by rw [e]; cases geLo b <;> rfl
  subst e2
  exact ⟨_, _, a.gc0 k (.inr (GotV.nv (cLo_plain _) _)), rfl, rfl⟩
theorem e12 {H : AHeap} {v : Value} {b : List UInt8} (hb : BQ H v b) (hl : b.length ≤ 1000000) : ∃ w H', ARun Go.Proofs.Try.prog 0 12 [v] H w H' ∧ ∃ vc, w = GotV (cI6 vc ((geI6 b).getD I60)) (er (geI6 b).isSome) ∧ Keeps H H' ∧ Fresh H.n vc ∧ AP H' 108 2 vc ((geI6 b).getD I60).cs.length (CC ((geI6 b).getD I60).cs).flatten := by
  obtain ⟨w, H', a, k, vc, f, e⟩ := t12 hb (by omega)
  refine ⟨w, H', a, ?_⟩
  cases hg : geI6 b with
  | none =>
    rw [hg] at e
    exact ⟨.slice none 0 0, e, k, fun b hb => (by cases hb), .inl ⟨rfl, rfl, rfl⟩⟩
  | some x =>
    rw [hg] at e
    exact ⟨vc, e.1, k, f, e.2⟩
theorem e24 {H : AHeap} {v : Value} {b : List UInt8} (hb : BQ H v b) (hl : b.length ≤ 1000000) : ∃ w H', ARun Go.Proofs.Try.prog 0 24 [v] H w H' ∧ ∃ vb, w = GotV (cLi vb ((geLi b).getD Li0)) (er (geLi b).isSome) ∧ Keeps H H' ∧ Fresh H.n vb ∧ AP H' 5 1 vb ((geLi b).getD Li0).B.length (cellsOf ((geLi b).getD Li0).B) := by
  obtain ⟨w, H', a, k, vc, f, e⟩ := t24 hb (by omega)
  refine ⟨w, H', a, ?_⟩
  cases hg : geLi b with
  | none =>
    rw [hg] at e
    exact ⟨.slice none 0 0, e, k, fun b hb => (by cases hb), .inl ⟨rfl, rfl, rfl⟩⟩
  | some x =>
    rw [hg] at e
    exact ⟨vc, e.1, k, f, e.2⟩
theorem d17 {H : AHeap} {v : Value} {b : List UInt8} (hb : BQ H v b) (hl : b.length ≤ 1000000) : ∃ w H', ARun Go.Proofs.Try.prog 0 17 [v] H w H' ∧ w = GotB (cOu ((geOu b).getD Ou0)) (geOu b).isSome ∧ H' = H := by
  obtain ⟨w, H', a, e, k⟩ := t17 hb (by omega)
  exact ⟨w, H', a, by rw [e]; cases geOu b <;> rfl, k⟩
theorem d20 {H : AHeap} {v : Value} {b : List UInt8} (hb : BQ H v b) (hl : b.length ≤ 1000000) : ∃ w H', ARun Go.Proofs.Try.prog 0 20 [v] H w H' ∧ w = GotB (cSt ((geSt b).getD St0)) (geSt b).isSome ∧ H' = H := by
  obtain ⟨w, H', a, e, k⟩ := t20 hb (by omega)
  exact ⟨w, H', a, by rw [e]; cases geSt b <;> rfl, k⟩
theorem d22 {H : AHeap} {v : Value} {b : List UInt8} (hb : BQ H v b) (hl : b.length ≤ 1000000) : ∃ w H', ARun Go.Proofs.Try.prog 0 22 [v] H w H' ∧ w = GotB (cLo ((geLo b).getD Lo0)) (geLo b).isSome ∧ H' = H := by
  obtain ⟨w, H', a, e, k⟩ := t22 hb (by omega)
  exact ⟨w, H', a, by rw [e]; cases geLo b <;> rfl, k⟩
theorem d25 {H : AHeap} {v : Value} {b : List UInt8} (hb : BQ H v b) (hl : b.length ≤ 1000000) : ∃ w H', ARun Go.Proofs.Try.prog 0 25 [v] H w H' ∧ w = GotB (cLs ((geLi b).getD Li0)) (geLi b).isSome ∧ H' = H := by
  obtain ⟨w, H', a, e, k⟩ := t25 hb (by omega)
  exact ⟨w, H', a, by rw [e]; cases geLi b <;> rfl, k⟩
theorem d13 {H : AHeap} {v : Value} {b : List UInt8} (hb : BQ H v b) (hl : b.length ≤ 1000000) : ∃ w H', ARun Go.Proofs.Try.prog 0 13 [v] H w H' ∧ ∃ vc, w = GotB (cI6 vc ((geI6 b).getD I60)) (geI6 b).isSome ∧ Keeps H H' ∧ Fresh H.n vc ∧ AP H' 108 2 vc ((geI6 b).getD I60).cs.length (CC ((geI6 b).getD I60).cs).flatten := by
  obtain ⟨w, H', a, k, vc, f, e⟩ := t13 hb (by omega)
  refine ⟨w, H', a, ?_⟩
  cases hg : geI6 b with
  | none =>
    rw [hg] at e
    exact ⟨.slice none 0 0, e, k, fun b hb => (by cases hb), .inl ⟨rfl, rfl, rfl⟩⟩
  | some x =>
    rw [hg] at e
    exact ⟨vc, e.1, k, f, e.2⟩
theorem Stood.arg {ng : Nat} {H : AHeap} {v : Value} {l : List Value} : Stood ng (v :: l) H v := by
  intro σ w args' _ ha
  cases ha with
  | cons h _ => exact ⟨_, h⟩
theorem fill642 (a : Int) (b : Int) (c d e : Int) (v : Value) : fillA [.int .u8 0, .int .i64 0, .int .u64 0, .int .u32 0, .int .u32 0, .slice none 0 0] [(0, 1, .int .u8 a), (1, 1, .int .i64 b), (2, 4, .agg #[.int .u64 c, .int .u32 d, .int .u32 e, v])] = some [.int .u8 a, .int .i64 b, .int .u64 c, .int .u32 d, .int .u32 e, v] := rfl
theorem t15 (x : I6) {H : AHeap} {vx : Value} (h1 : vx.oneCell' = true) : ∃ w H', ARun Go.Proofs.Try.prog 0 15 [.agg (cI6 vx x).toArray] H w H' ∧ w = .agg (cI6 vx x).toArray ∧ H' = H := by
  suffices h : ∃ w H', ARun Go.Proofs.Try.prog 0 15 [.agg (cI6 vx x).toArray] H w H' ∧ w = .agg (cI6 vx x).toArray ∧ Keeps H H' by
    obtain ⟨_, _, a, rfl, k⟩ := h
    exact ⟨_, _, a.gc0 k (.inl Stood.arg), rfl, rfl⟩
  refine walk2 f15_ok f15_n ?_
  intro Q hq1 hq2
  have hr : ∀ fr H', resO f15.res fr H' = (celln 6 (fr.getD 2 undef) H') := fun fr H' => resC 2 6 fr
  have ox : (cI6 vx x).all Value.oneCell' = true := by simp only [cI6, List.all_cons, List.all_nil, h1]; rfl
  have ce := cI6G vx x
  have d4 : ((cI6 vx x).drop 2).take 4 = [.int .u64 (x.oc : Nat), .int .u32 (x.no : Nat), .int .u32 (x.re : Nat), vx] := rfl
  have hne : (cI6 vx x).length ≠ 4 := by rw [cI6L]; omega
  simp (disch := first | assumption | omega | (simp only [LN] <;> omega) | (simp (disch := first | assumption | omega | (simp only [LN] <;> omega)) only [row_alloc, row_set]; assumption)) only [f15, W_block, P3, ↓reduceIte, reduceAdd, reduceEqDiff, reduceCtorEq, initFr, reduceLT, clsA, reduceLeDiff, reduceMul, reduceSub, reduceIte, ox, ce, d4, cI6L, fill642, h1]
  refine hq2 _ _ ⟨_, by rw [hr]; simp (disch := first | assumption | omega | (simp only [LN] <;> omega) | (simp (disch := first | assumption | omega | (simp only [LN] <;> omega)) only [row_alloc, row_set]; assumption)) only [W_block, P3, ↓reduceIte, reduceAdd, reduceEqDiff, reduceCtorEq, initFr, reduceLT, clsA, reduceLeDiff, reduceMul, reduceSub, reduceIte]; (try rfl), rfl, ?_⟩
  ((repeat (first | exact Keeps.refl _ | assumption | refine Keeps.alloc ?_ _ | (refine Keeps.set ?_ (by first | omega | (simp only [alloc_n, set_n] <;> omega)) (by first | omega | (simp only [alloc_n, set_n] <;> omega)) _) | (refine Keeps.trans' (by assumption) ?_))))
theorem fill5o (a b c d e : Int) : fillA [.int .u8 0, .int .i64 0, .int .i64 0, .int .u64 0, .int .u32 0] [(0, 1, .int .u8 a), (1, 1, .int .i64 b), (2, 1, .int .i64 c), (3, 2, .agg #[.int .u64 d, .int .u32 e])] = some [.int .u8 a, .int .i64 b, .int .i64 c, .int .u64 d, .int .u32 e] := rfl
theorem t18 (x : Ou) (H : AHeap) : ∃ w H', ARun Go.Proofs.Try.prog 0 18 [.agg (cOu x).toArray] H w H' ∧ w = .agg (cOu x).toArray ∧ H' = H := by
  suffices h : ∃ w H', ARun Go.Proofs.Try.prog 0 18 [.agg (cOu x).toArray] H w H' ∧ w = .agg (cOu x).toArray ∧ Keeps H H' by
    obtain ⟨_, _, a, rfl, k⟩ := h
    exact ⟨_, _, a.gc0 k (.inl Stood.arg), rfl, rfl⟩
  refine walk2 f18_ok f18_n ?_
  intro Q hq1 hq2
  have hr : ∀ fr H', resO f18.res fr H' = (celln 5 (fr.getD 2 undef) H') := fun fr H' => resC 2 5 fr
  have d4 : ((cOu x).drop 3).take 2 = [.int .u64 (x.pr : Nat), .int .u32 (x.pt : Nat)] := rfl
  have hne : (cOu x).length ≠ 2 := by rw [cOuL]; omega
  simp (disch := first | assumption | omega | (simp only [LN] <;> omega) | (simp (disch := first | assumption | omega | (simp only [LN] <;> omega)) only [row_alloc, row_set]; assumption)) only [f18, W_block, P3, ↓reduceIte, reduceAdd, reduceEqDiff, reduceCtorEq, initFr, reduceLT, clsA, reduceLeDiff, reduceMul, reduceSub, reduceIte, cOuO, cOuG x, d4, cOuL, fill5o]
  refine hq2 _ _ ⟨_, by rw [hr]; simp (disch := first | assumption | omega | (simp only [LN] <;> omega) | (simp (disch := first | assumption | omega | (simp only [LN] <;> omega)) only [row_alloc, row_set]; assumption)) only [W_block, P3, ↓reduceIte, reduceAdd, reduceEqDiff, reduceCtorEq, initFr, reduceLT, clsA, reduceLeDiff, reduceMul, reduceSub, reduceIte]; (try rfl), rfl, ?_⟩
  ((repeat (first | exact Keeps.refl _ | assumption | refine Keeps.alloc ?_ _ | (refine Keeps.set ?_ (by first | omega | (simp only [alloc_n, set_n] <;> omega)) (by first | omega | (simp only [alloc_n, set_n] <;> omega)) _) | (refine Keeps.trans' (by assumption) ?_))))
theorem t23 (x : Lo) (hx : x.s.t.length = 64) (H : AHeap) : ∃ w H', ARun Go.Proofs.Try.prog 0 23 [.agg (cLo x).toArray] H w H' ∧ w = .agg (cLo x).toArray ∧ H' = H := by
  suffices h : ∃ w H', ARun Go.Proofs.Try.prog 0 23 [.agg (cLo x).toArray] H w H' ∧ w = .agg (cLo x).toArray ∧ Keeps H H' by
    obtain ⟨_, _, a, rfl, k⟩ := h
    exact ⟨_, _, a.gc0 k (.inl Stood.arg), rfl, rfl⟩
  refine walk2 f23_ok f23_n ?_
  intro Q hq1 hq2
  have hr : ∀ fr H', resO f23.res fr H' = (celln 70 (fr.getD 2 undef) H') := fun fr H' => resC 2 70 fr
  have lx := cLo_len hx
  have ox := cLo_one x
  have oz : Z70.all Value.oneCell' = true := rfl
  have lz : Z70.length = 70 := rfl
  have hne : (cLo x).length ≠ 68 := by omega
  simp (disch := first | assumption | omega | (simp only [LN] <;> omega) | (simp (disch := first | assumption | omega | (simp only [LN] <;> omega)) only [row_alloc, row_set]; assumption)) only [f23, W_block, P3, ↓reduceIte, reduceAdd, reduceEqDiff, reduceCtorEq, initFr, reduceLT, clsA, reduceLeDiff, reduceMul, reduceSub, reduceIte, ox, (cLoG hx).1, (cLoG hx).2, cLo_s hx, lx, fillLo (e := x.e) (c := x.c) (s := x.s) hx, oz, lz]
  refine hq2 _ _ ⟨_, by rw [hr]; simp (disch := first | assumption | omega | (simp only [LN] <;> omega) | (simp (disch := first | assumption | omega | (simp only [LN] <;> omega)) only [row_alloc, row_set]; assumption)) only [W_block, P3, ↓reduceIte, reduceAdd, reduceEqDiff, reduceCtorEq, initFr, reduceLT, clsA, reduceLeDiff, reduceMul, reduceSub, reduceIte]; (try rfl), rfl, ?_⟩
  ((repeat (first | exact Keeps.refl _ | assumption | refine Keeps.alloc ?_ _ | (refine Keeps.set ?_ (by first | omega | (simp only [alloc_n, set_n] <;> omega)) (by first | omega | (simp only [alloc_n, set_n] <;> omega)) _) | (refine Keeps.trans' (by assumption) ?_))))
theorem t26 (x : Li) {H : AHeap} {vb : Value} (hB : BS H vb x.B) : ∃ w H', ARun Go.Proofs.Try.prog 0 26 [.agg (cLi vb x).toArray] H w H' ∧ w = .agg (cLs x).toArray ∧ H' = H := by
  suffices h : ∃ w H', ARun Go.Proofs.Try.prog 0 26 [.agg (cLi vb x).toArray] H w H' ∧ w = .agg (cLs x).toArray ∧ Keeps H H' by
    obtain ⟨_, _, a, rfl, k⟩ := h
    exact ⟨_, _, a.gc0 k (.inr (NV.agg_of (NL.plain (cLs_plain x)))), rfl, rfl⟩
  refine walk2 f26_ok f26_n ?_
  intro Q hq1 hq2
  have hr : ∀ fr H', resO f26.res fr H' = (celln 5 (fr.getD 2 undef) H') := fun fr H' => resC 2 5 fr
  have hone := hB.sl.one
  have lx : (cLi vb x).length = 5 := rfl
  have ox : (cLi vb x).all Value.oneCell' = true := by simp only [cLi, List.all_cons, List.all_nil, hone]; rfl
  have k2 := ((Keeps.refl H).alloc (.cells true false 5 (cLi vb x) 65)).alloc (.cells true false 5 [.int .u8 0, .int .u8 0, .int .i64 0, .int .i64 0, .string ByteArray.empty] 69)
  simp (disch := first | assumption | omega | (simp only [LN] <;> omega) | (simp (disch := first | assumption | omega | (simp only [LN] <;> omega)) only [row_alloc, row_set]; assumption)) only [f26, W_block, P3, ↓reduceIte, reduceAdd, reduceEqDiff, reduceCtorEq, initFr, reduceLT, clsA, reduceLeDiff, reduceMul, reduceSub, reduceIte, ox, cLiG vb x, a_b2sB (hB.keeps k2), fillLs, cLsL, cLsO]
  refine hq2 _ _ ⟨_, by rw [hr]; simp (disch := first | assumption | omega | (simp only [LN] <;> omega) | (simp (disch := first | assumption | omega | (simp only [LN] <;> omega)) only [row_alloc, row_set]; assumption)) only [W_block, P3, ↓reduceIte, reduceAdd, reduceEqDiff, reduceCtorEq, initFr, reduceLT, clsA, reduceLeDiff, reduceMul, reduceSub, reduceIte, cLsL]; (try rfl), rfl, ?_⟩
  ((repeat (first | exact Keeps.refl _ | assumption | refine Keeps.alloc ?_ _ | (refine Keeps.set ?_ (by first | omega | (simp only [alloc_n, set_n] <;> omega)) (by first | omega | (simp only [alloc_n, set_n] <;> omega)) _) | (refine Keeps.trans' (by assumption) ?_))))
theorem t43 (x : I6) (y : Li) {H : AHeap} {vx vy : Value} (hx : Sl H 2 vx (CC x.cs)) (hy : BS H vy y.B) : ∃ w H', ARun Go.Proofs.Try.prog 0 43 [.agg (cI6 vx x).toArray, .agg (cLi vy y).toArray] H w H' ∧ w = .bool (decide (x.cs.length ≤ 1000 ∧ y.B.length ≤ 5000)) ∧ H' = H := by
  suffices h : ∃ w H', ARun Go.Proofs.Try.prog 0 43 [.agg (cI6 vx x).toArray, .agg (cLi vy y).toArray] H w H' ∧ w = .bool (decide (x.cs.length ≤ 1000 ∧ y.B.length ≤ 5000)) ∧ Keeps H H' by
    obtain ⟨_, _, a, rfl, k⟩ := h
    exact ⟨_, _, a.gc0 k (.inr (.bool _)), rfl, rfl⟩
  refine walk2 f43_ok f43_n ?_
  intro Q hq1 hq2
  have h1 := hx.one
  have h2 := hy.sl.one
  have ox : (cI6 vx x).all Value.oneCell' = true := by simp only [cI6, List.all_cons, List.all_nil, h1]; rfl
  have oy : (cLi vy y).all Value.oneCell' = true := by simp only [cLi, List.all_cons, List.all_nil, h2]; rfl
  have his := hx.is
  have hlen := hx.len
  have his2 := hy.sl.is
  have hlen2 := hy.sl.len
  rw [CC, List.length_map] at hlen
  rw [List.length_map] at hlen2
  have k0 := ((Keeps.refl H).alloc (.cells true false 6 (cI6 vx x) 30)).alloc (.cells true false 5 (cLi vy y) 65)
  by_cases c1 : x.cs.length ≤ 1000
  · by_cases c2 : y.B.length ≤ 5000
    · simp (disch := first | assumption | omega | (simp only [LN] <;> omega) | (simp (disch := first | assumption | omega | (simp only [LN] <;> omega)) only [row_alloc, row_set]; assumption)) only [f43, W_block, P3, ↓reduceIte, reduceAdd, reduceEqDiff, reduceCtorEq, initFr, reduceLT, clsA, reduceLeDiff, reduceMul, reduceSub, reduceIte, ox, oy, cI6G vx x, cLiG vy y, hlen, hlen2]
      exact hq2 _ _ ⟨_, rfl, by simp [c1, c2]; rfl, k0⟩
    · have e2 : decide ((y.B.length : Int) ≤ 5000) = false := by simp; omega
      simp (disch := first | assumption | omega | (simp only [LN] <;> omega) | (simp (disch := first | assumption | omega | (simp only [LN] <;> omega)) only [row_alloc, row_set]; assumption)) only [f43, W_block, P3, ↓reduceIte, reduceAdd, reduceEqDiff, reduceCtorEq, initFr, reduceLT, clsA, reduceLeDiff, reduceMul, reduceSub, reduceIte, ox, oy, cI6G vx x, cLiG vy y, hlen, hlen2, e2]
      exact hq2 _ _ ⟨_, rfl, by simp [c1, c2]; rfl, k0⟩
  · have e1 : decide ((x.cs.length : Int) ≤ 1000) = false := by simp; omega
    simp (disch := first | assumption | omega | (simp only [LN] <;> omega) | (simp (disch := first | assumption | omega | (simp only [LN] <;> omega)) only [row_alloc, row_set]; assumption)) only [f43, W_block, P3, ↓reduceIte, reduceAdd, reduceEqDiff, reduceCtorEq, initFr, reduceLT, clsA, reduceLeDiff, reduceMul, reduceSub, reduceIte, ox, oy, cI6G vx x, cLiG vy y, hlen, hlen2, e1]
    exact hq2 _ _ ⟨_, rfl, by simp [c1]; rfl, k0⟩
theorem filli5 (a b c d e : Int) : fillA [.int .i64 0, .int .i64 0, .int .i64 0, .int .i64 0, .int .i64 0] [(0, 1, .int .i64 a), (1, 1, .int .i64 b), (2, 1, .int .i64 c), (3, 1, .int .i64 d), (4, 1, .int .i64 e)] = some [.int .i64 a, .int .i64 b, .int .i64 c, .int .i64 d, .int .i64 e] := rfl
theorem t27 (a b c d e : Bool) (H : AHeap) : ∃ w H', ARun Go.Proofs.Try.prog 0 27 [.int .i64 (er a), .int .i64 (er b), .int .i64 (er c), .int .i64 (er d), .int .i64 (er e)] H w H' ∧ w = .bool true ∧ H' = H := by
  suffices h : ∃ w H', ARun Go.Proofs.Try.prog 0 27 [.int .i64 (er a), .int .i64 (er b), .int .i64 (er c), .int .i64 (er d), .int .i64 (er e)] H w H' ∧ w = .bool true ∧ Keeps H H' by
    obtain ⟨_, _, a, rfl, k⟩ := h
    exact ⟨_, _, a.gc0 k (.inr (.bool _)), rfl, rfl⟩
  refine walk2 f27_ok f27_n ?_
  intro Q hq1 hq2
  simp (disch := first | assumption | omega | (simp only [LN] <;> omega) | (simp (disch := first | assumption | omega | (simp only [LN] <;> omega)) only [row_alloc, row_set]; assumption)) only [f27, W_block, P3, ↓reduceIte, reduceAdd, reduceEqDiff, reduceCtorEq, initFr, reduceLT, clsA, reduceLeDiff, reduceMul, reduceSub, reduceIte, filli5]
  have k0 := (Keeps.refl H).alloc (.cells true false 1 [.int .i64 (er a), .int .i64 (er b), .int .i64 (er c), .int .i64 (er d), .int .i64 (er e)] 31)
  refine W_loop2 (fun q fr K => ∃ (i : Nat) (x y : Value), i ≤ 5 ∧ q = 5 - i ∧ K = H.alloc (.cells true false 1 [.int .i64 (er a), .int .i64 (er b), .int .i64 (er c), .int .i64 (er d), .int .i64 (er e)] 31) ∧
    fr = [.int .i64 (er a), .int .i64 (er b), .int .i64 (er c), .int .i64 (er d), .int .i64 (er e), .bool false, slc H.n 0 5 5, .int .i64 (i : Nat), x, y]) 5 ⟨0, undef, undef, by omega, rfl, rfl, rfl⟩ ?_
  rintro Q' q fr _ ⟨i, x, y, hi, rfl, rfl, rfl⟩ hnx hex hrt
  have key : ∀ o : Bool, ((er o != 0) = false) ∨ ((er o != 0) = true ∧ (er o != 130) = false) := by intro o; cases o <;> decide
  by_cases hc : i < 5
  · obtain ⟨o, ho⟩ : ∃ o : Bool, [Value.int .i64 (er a), .int .i64 (er b), .int .i64 (er c), .int .i64 (er d), .int .i64 (er e)][i]? = some (.int .i64 (er o)) := by
      rcases (show i = 0 ∨ i = 1 ∨ i = 2 ∨ i = 3 ∨ i = 4 by omega) with rfl | rfl | rfl | rfl | rfl <;> exact ⟨_, rfl⟩
    rcases key o with h1 | ⟨h1, h2⟩
    · simp (disch := first | assumption | omega | (simp only [LN] <;> omega) | (simp (disch := first | assumption | omega | (simp only [LN] <;> omega)) only [row_alloc, row_set]; assumption)) only [W_block, P3, ↓reduceIte, reduceAdd, reduceEqDiff, reduceCtorEq, initFr, reduceLT, clsA, reduceLeDiff, reduceMul, reduceSub, reduceIte, ho, h1, wrap_succ (n := i) (by omega)]
      exact hnx _ _ _ ⟨i + 1, _, _, by omega, rfl, rfl, rfl⟩ (by omega)
    · simp (disch := first | assumption | omega | (simp only [LN] <;> omega) | (simp (disch := first | assumption | omega | (simp only [LN] <;> omega)) only [row_alloc, row_set]; assumption)) only [W_block, P3, ↓reduceIte, reduceAdd, reduceEqDiff, reduceCtorEq, initFr, reduceLT, clsA, reduceLeDiff, reduceMul, reduceSub, reduceIte, ho, h1, h2, wrap_succ (n := i) (by omega)]
      exact hnx _ _ _ ⟨i + 1, _, _, by omega, rfl, rfl, rfl⟩ (by omega)
  · simp (disch := first | assumption | omega | (simp only [LN] <;> omega) | (simp (disch := first | assumption | omega | (simp only [LN] <;> omega)) only [row_alloc, row_set]; assumption)) only [W_block, P3, ↓reduceIte, reduceAdd, reduceEqDiff, reduceCtorEq, initFr, reduceLT, clsA, reduceLeDiff, reduceMul, reduceSub, reduceIte]
    refine hex _ _ _ ?_
    simp (disch := first | assumption | omega | (simp only [LN] <;> omega) | (simp (disch := first | assumption | omega | (simp only [LN] <;> omega)) only [row_alloc, row_set]; assumption)) only [W_block, P3, ↓reduceIte, reduceAdd, reduceEqDiff, reduceCtorEq, initFr, reduceLT, clsA, reduceLeDiff, reduceMul, reduceSub, reduceIte]
    exact hq2 _ _ ⟨_, rfl, rfl, k0⟩
end Go.AM.Fd

set_option linter.unusedSimpArgs false
set_option linter.unusedVariables false
namespace Go.AM.Fd
open Nat (reduceAdd reduceEqDiff reduceLT reduceLeDiff reduceMul reduceSub)
open Go.Proofs Go.AM.F
theorem frm_of_ou {b : List UInt8} {x : Ou} (h : geOu b = some x) : frm 2 b = true := by
  unfold geOu at h; split at h; assumption; cases h
theorem frm_of_st {b : List UInt8} {x : St} (h : geSt b = some x) : frm 3 b = true := by
  unfold geSt at h; split at h; assumption; cases h
theorem frm_of_lo {b : List UInt8} {x : Lo} (h : geLo b = some x) : frm 4 b = true := by
  unfold geLo at h; split at h; assumption; cases h
theorem frm_of_li {b : List UInt8} {x : Li} (h : geLi b = some x) : frm 5 b = true := by
  unfold geLi at h; split at h; assumption; cases h
theorem frm_other {k k' : Nat} {b : List UInt8} (h : frm k b = true) (hk : k < 256) (hk' : k' < 256) (hne : k' ≠ k) : frm k' b = false := by
  cases h' : frm k' b with
  | false => rfl
  | true => exact absurd (frm_k h' h hk' hk) hne
theorem ki_i6 {b : List UInt8} {x : I6} (h : geI6 b = some x) : kiB b = 1 := by unfold kiB; rw [h]; rfl
theorem ki_ou {b : List UInt8} {x : Ou} (h : geOu b = some x) : kiB b = 2 := by
  have f := frm_of_ou h
  have h1 : geI6 b = none := by unfold geI6; rw [frm_other f (by omega) (k' := 1) (by omega) (by omega)]; rfl
  unfold kiB; rw [h1, h]; rfl
theorem ki_st {b : List UInt8} {x : St} (h : geSt b = some x) : kiB b = 3 := by
  have f := frm_of_st h
  have h1 : geI6 b = none := by unfold geI6; rw [frm_other f (by omega) (k' := 1) (by omega) (by omega)]; rfl
  have h2 : geOu b = none := by unfold geOu; rw [frm_other f (by omega) (k' := 2) (by omega) (by omega)]; rfl
  unfold kiB; rw [h1, h2, h]; rfl
theorem ki_lo {b : List UInt8} {x : Lo} (h : geLo b = some x) : kiB b = 4 := by
  have f := frm_of_lo h
  have h1 : geI6 b = none := by unfold geI6; rw [frm_other f (by omega) (k' := 1) (by omega) (by omega)]; rfl
  have h2 : geOu b = none := by unfold geOu; rw [frm_other f (by omega) (k' := 2) (by omega) (by omega)]; rfl
  have h3 : geSt b = none := by unfold geSt; rw [frm_other f (by omega) (k' := 3) (by omega) (by omega)]; rfl
  unfold kiB; rw [h1, h2, h3, h]; rfl
theorem ki_li {b : List UInt8} {x : Li} (h : geLi b = some x) : kiB b = 5 := by
  have f := frm_of_li h
  have h1 : geI6 b = none := by unfold geI6; rw [frm_other f (by omega) (k' := 1) (by omega) (by omega)]; rfl
  have h2 : geOu b = none := by unfold geOu; rw [frm_other f (by omega) (k' := 2) (by omega) (by omega)]; rfl
  have h3 : geSt b = none := by unfold geSt; rw [frm_other f (by omega) (k' := 3) (by omega) (by omega)]; rfl
  have h4 : geLo b = none := by unfold geLo; rw [frm_other f (by omega) (k' := 4) (by omega) (by omega)]; rfl
  unfold kiB; rw [h1, h2, h3, h4, h]; rfl
theorem t11 (H : AHeap) : ∃ w H', ARun Go.Proofs.Try.prog 0 11 [] H w H' ∧ w = .bool true ∧ H' = H := by
  suffices h : ∃ w H', ARun Go.Proofs.Try.prog 0 11 [] H w H' ∧ w = .bool true ∧ Keeps H H' by
    obtain ⟨_, _, a, rfl, k⟩ := h
    exact ⟨_, _, a.gc0 k (.inr (.bool _)), rfl, rfl⟩
  refine walk2 f11_ok f11_n ?_
  intro Q hq1 hq2
  obtain ⟨x, hx⟩ : ∃ x, x = (⟨1, 2, 3, 4, 5⟩ : Ou) := ⟨_, rfl⟩
  have hrg : rgOu x := by rw [hx]; exact ⟨by decide, by decide, by decide⟩
  have hok : okOu x = true := by rw [hx]; rfl
  have cx : cOu x = [.int .u8 1, .int .i64 2, .int .i64 3, .int .u64 4, .int .u32 5] := by rw [hx]; rfl
  have f2 : fillA [.int .u64 0, .int .u32 0] [(0, 1, .int .u64 4), (1, 1, .int .u32 5)] = some [.int .u64 4, .int .u32 5] := rfl
  have f5 : fillA [.int .u8 0, .int .i64 0, .int .i64 0, .int .u64 0, .int .u32 0] [(0, 1, .int .u8 1), (1, 1, .int .i64 2), (2, 1, .int .i64 3), (3, 2, .agg #[.int .u64 4, .int .u32 5])] = some (cOu x) := by rw [cx]; rfl
  have hfl : (fOu x).length = 34 := by unfold fOu; rw [if_pos hok, chk_len, List.length_cons, enOu_len]
  have hne : fOu x ≠ [] := by intro e; rw [e] at hfl; simp at hfl
  have hg := geOu_of hrg hne rfl
  have hk := ki_ou hg
  simp (disch := first | assumption | omega | (simp only [LN] <;> omega) | (simp (disch := first | assumption | omega | (simp only [LN] <;> omega)) only [row_alloc, row_set]; assumption)) only [f11, W_block, P3, ↓reduceIte, reduceAdd, reduceEqDiff, reduceCtorEq, initFr, reduceLT, clsA, reduceLeDiff, reduceMul, reduceSub, reduceIte, f2, f5]
  refine callK (t45 x hrg H) ?_
  rintro v1 K1 ⟨a1, k1, fr1⟩
  have q1 := a1.bq
  have hs := q1.bs.sl
  have his := hs.is
  have hlen := hs.len
  rw [List.length_map, hfl] at hlen
  simp (disch := first | assumption | omega | (simp only [LN] <;> omega) | (simp (disch := first | assumption | omega | (simp only [LN] <;> omega)) only [row_alloc, row_set]; assumption)) only [W_block, P3, ↓reduceIte, reduceAdd, reduceEqDiff, reduceCtorEq, initFr, reduceLT, clsA, reduceLeDiff, reduceMul, reduceSub, reduceIte]
  refine callK (e16 q1 (by omega)) ?_
  rintro _ _ ⟨rfl, rfl⟩
  rw [hg]
  have hsome : er (some x).isSome = 0 := rfl
  simp (disch := first | assumption | omega | (simp only [LN] <;> omega) | (simp (disch := first | assumption | omega | (simp only [LN] <;> omega)) only [row_alloc, row_set]; assumption)) only [W_block, P3, ↓reduceIte, reduceAdd, reduceEqDiff, reduceCtorEq, initFr, reduceLT, clsA, reduceLeDiff, reduceMul, reduceSub, reduceIte, GotV, Option.getD_some, hsome, cOuL, cOuO, hlen, cx]
  refine callK (t28 (q1.keeps ((Keeps.refl _).alloc _)) (by omega)) ?_
  rintro _ _ ⟨rfl, rfl⟩
  rw [hk]
  simp (disch := first | assumption | omega | (simp only [LN] <;> omega) | (simp (disch := first | assumption | omega | (simp only [LN] <;> omega)) only [row_alloc, row_set]; assumption)) only [W_block, P3, ↓reduceIte, reduceAdd, reduceEqDiff, reduceCtorEq, initFr, reduceLT, clsA, reduceLeDiff, reduceMul, reduceSub, reduceIte]
  exact hq2 _ _ ⟨_, rfl, rfl, k1.trans ((Keeps.refl _).alloc _)⟩
theorem eqCs_int : ∀ c : List Value, (∀ v ∈ c, ∃ k n, v = .int k n) → eqCs (List.replicate c.length 1) c c = some true
  | [], _ => rfl
  | v :: c, h => by
    obtain ⟨k, n, rfl⟩ := h v (List.mem_cons_self ..)
    have ih := eqCs_int c (fun v hv => h v (List.mem_cons_of_mem _ hv))
    simp only [List.length_cons, List.replicate_succ, eqCs, ih]
    simp [eqC]
theorem a_eqsR {cs : List Nat} {c : List Value} (h : eqCs cs c c = some true) (H : AHeap) : asem (.eqs cs false (.agg c.toArray) (.agg c.toArray)) H = some (.bool true, H) := by
  simp only [asem, h]; rfl
theorem a_eqsN {cs : List Nat} {c : List Value} (h : eqCs cs c c = some true) (H : AHeap) : asem (.eqs cs true (.agg c.toArray) (.agg c.toArray)) H = some (.bool false, H) := by
  simp only [asem, h]; rfl
theorem cellsOf_int (l : List UInt8) : ∀ v ∈ cellsOf l, ∃ k n, v = Value.int k n := by
  intro v hv
  simp only [cellsOf, List.mem_map] at hv
  obtain ⟨b, _, rfl⟩ := hv
  exact ⟨_, _, rfl⟩
theorem cSt_int (x : St) : ∀ v ∈ cSt x, ∃ k n, v = Value.int k n := by
  intro v hv
  simp only [cSt, List.mem_cons, List.mem_append, List.mem_nil_iff, or_false] at hv
  rcases hv with rfl | rfl | rfl | h | rfl
  · exact ⟨_, _, rfl⟩
  · exact ⟨_, _, rfl⟩
  · exact ⟨_, _, rfl⟩
  · exact cellsOf_int _ v h
  · exact ⟨_, _, rfl⟩
theorem cLo_int (x : Lo) : ∀ v ∈ cLo x, ∃ k n, v = Value.int k n := by
  intro v hv
  simp only [cLo, List.mem_cons] at hv
  rcases hv with rfl | rfl | h
  · exact ⟨_, _, rfl⟩
  · exact ⟨_, _, rfl⟩
  · exact cSt_int _ v h
theorem eqOu (x : Ou) : eqCs [1, 1, 1, 1, 1] (cOu x) (cOu x) = some true := by simp [eqCs, eqC, cOu]
theorem eqSt {x : St} (h : x.t.length = 64) : eqCs O68 (cSt x) (cSt x) = some true := by
  have := eqCs_int (cSt x) (cSt_int x)
  rw [cSt_len h] at this; exact this
theorem eqLo {x : Lo} (h : x.s.t.length = 64) : eqCs O70 (cLo x) (cLo x) = some true := by
  have := eqCs_int (cLo x) (cLo_int x)
  rw [cLo_len h] at this; exact this
theorem eqLs (x : Li) : eqCs [1, 1, 1, 1, 2] (cLs x) (cLs x) = some true := by simp [eqCs, eqC, cLs, cLi, strB]
theorem sI6_refl (x : I6) : sI6 x x = true := by simp [sI6]
theorem gotSt_len (b : List UInt8) : ((geSt b).getD St0).t.length = 64 := by
  cases h : geSt b with
  | none => rfl
  | some y => exact (geSt_some h).2.1.1
theorem gotLo_len (b : List UInt8) : ((geLo b).getD Lo0).s.t.length = 64 := by
  cases h : geLo b with
  | none => rfl
  | some y => exact (geLo_some h).2.1.1
end Go.AM.Fd

set_option linter.unusedSimpArgs false
set_option linter.unusedVariables false
namespace Go.AM.Fd
open Nat (reduceAdd reduceEqDiff reduceLT reduceLeDiff reduceMul reduceSub)
open Go.Proofs Go.AM.F
theorem bq_new (H : AHeap) (room : Bool) (l : List UInt8) (n : Nat) (hn : n = l.length) : BQ (H.alloc (.cells true room 1 (cellsOf l) 5)) (slc H.n 0 n n) l := by
  subst hn
  exact (AP.bq (.inr ⟨H.n, room, rfl, by rw [cellsOf_length, Nat.mul_one], AHeap.get_alloc_new H _⟩) : BQ _ _ l)
theorem apSl {H : AHeap} {v : Value} {cs : List (Nat × Int)} (a : AP H 108 2 v cs.length (CC cs).flatten) : Sl H 2 v (CC cs) := by
  refine a.sl (fun r hr => ?_) (by simp [CC])
  simp only [CC, List.mem_map] at hr
  obtain ⟨_, _, rfl⟩ := hr
  rfl
set_option maxHeartbeats 1000000 in
theorem t3 {H : AHeap} {v : Value} {b : List UInt8} (hb : BQ H v b) : ∃ w H', ARun Go.Proofs.Try.prog 0 3 [v] H w H' ∧ w = .bool true := by
  refine walk2 f3_ok f3_n ?_
  intro Q hq1 hq2
  have hs := hb.bs.sl
  have his := hs.is
  have hlen := hs.len
  rw [List.length_map] at hlen
  by_cases h0 : 3000 < b.length
  · simp (disch := first | assumption | omega | (simp only [LN] <;> omega) | (simp (disch := first | assumption | omega | (simp only [LN] <;> omega)) only [row_alloc, row_set]; assumption)) only [f3, W_block, P3, ↓reduceIte, reduceAdd, reduceEqDiff, reduceCtorEq, initFr, reduceLT, clsA, reduceLeDiff, reduceMul, reduceSub, reduceIte, hlen]
    refine callK (t11 _) ?_
    rintro _ _ ⟨rfl, rfl⟩
    simp (disch := first | assumption | omega | (simp only [LN] <;> omega) | (simp (disch := first | assumption | omega | (simp only [LN] <;> omega)) only [row_alloc, row_set]; assumption)) only [W_block, P3, ↓reduceIte, reduceAdd, reduceEqDiff, reduceCtorEq, initFr, reduceLT, clsA, reduceLeDiff, reduceMul, reduceSub, reduceIte]
    exact hq2 _ _ ⟨_, rfl, rfl⟩
  simp (disch := first | assumption | omega | (simp only [LN] <;> omega) | (simp (disch := first | assumption | omega | (simp only [LN] <;> omega)) only [row_alloc, row_set]; assumption)) only [f3, W_block, P3, ↓reduceIte, reduceAdd, reduceEqDiff, reduceCtorEq, initFr, reduceLT, clsA, reduceLeDiff, reduceMul, reduceSub, reduceIte, hlen, a_b2sB hb.bs, a_s2bl]
  have hown := bq_new H true b _ rfl
  have kB := (Keeps.refl H).alloc (.cells true true 1 (cellsOf b) 5)
  obtain ⟨B0, hB0⟩ : ∃ X, X = H.alloc (.cells true true 1 (cellsOf b) 5) := ⟨_, rfl⟩
  rw [← hB0] at hown kB ⊢
  have hbB := hb.keeps kB
  have tvO := hown.tbl
  -- inputs
  refine callK (e12 hown (by omega)) ?_
  rintro _ K1 ⟨vc1, rfl, k1, fc1, ac1⟩
  obtain ⟨y6, hy6⟩ : ∃ y, y = (geI6 b).getD I60 := ⟨_, rfl⟩
  obtain ⟨b6, hb6⟩ : ∃ y, y = (geI6 b).isSome := ⟨_, rfl⟩
  rw [← hy6] at ac1 ⊢
  rw [← hb6]
  have h1c := (apSl ac1).one
  have o6 : (cI6 vc1 y6).all Value.oneCell' = true := by simp only [cI6, List.all_cons, List.all_nil, h1c]; rfl
  simp (disch := first | assumption | omega | (simp only [LN] <;> omega) | (simp (disch := first | assumption | omega | (simp only [LN] <;> omega)) only [row_alloc, row_set]; assumption)) only [W_block, P3, ↓reduceIte, reduceAdd, reduceEqDiff, reduceCtorEq, initFr, reduceLT, clsA, reduceLeDiff, reduceMul, reduceSub, reduceIte, GotV, cI6L, o6]
  have kk1 := k1.alloc (.cells true false 6 (cI6 vc1 y6) 30)
  refine callK (d13 (hbB.keeps kk1) (by omega)) ?_
  rintro _ K2 ⟨vc2, rfl, k2, fc2, ac2⟩
  rw [← hy6] at ac2 ⊢
  rw [← hb6]
  have h2c := (apSl ac2).one
  have o62 : (cI6 vc2 y6).all Value.oneCell' = true := by simp only [cI6, List.all_cons, List.all_nil, h2c]; rfl
  have n1 := k1.n
  have n2 := k2.n
  simp only [alloc_n] at n2
  have l6 : (cI6 vc1 y6).length = 6 := rfl
  have l62 : (cI6 vc2 y6).length = 6 := rfl
  simp (disch := first | assumption | omega | (simp only [LN] <;> omega) | (simp (disch := first | assumption | omega | (simp only [LN] <;> omega)) only [row_alloc, row_set, Keeps.row k2]; assumption)) only [Keeps.get k2, Keeps.row k2, W_block, P3, ↓reduceIte, reduceAdd, reduceEqDiff, reduceCtorEq, initFr, reduceLT, clsA, reduceLeDiff, reduceMul, reduceSub, reduceIte, GotB, cI6L, o62]
  refine callP (t15 y6 h1c) ?_
  simp (disch := first | assumption | omega | (simp only [LN] <;> omega) | (simp (disch := first | assumption | omega | (simp only [LN] <;> omega)) only [row_alloc, row_set, Keeps.row k2]; assumption)) only [Keeps.get k2, Keeps.row k2, W_block, P3, ↓reduceIte, reduceAdd, reduceEqDiff, reduceCtorEq, initFr, reduceLT, clsA, reduceLeDiff, reduceMul, reduceSub, reduceIte, ite_self]
  have kk2 := k2.alloc (.cells true false 6 (cI6 vc2 y6) 34)
  have sl1 := (apSl ac1).keeps (((Keeps.refl K1).alloc (.cells true false 6 (cI6 vc1 y6) 30)).trans kk2)
  have sl2 := (apSl ac2).keeps ((Keeps.refl K2).alloc (.cells true false 6 (cI6 vc2 y6) 34))
  have hcs : y6.cs.length ≤ 1000000 := by
    rw [hy6]
    cases hg : geI6 b with
    | none => simp [I60]
    | some y => have := geI6_few hg; simp only [Option.getD_some]; omega
  refine callP (t14 y6 y6 sl1 sl2 hcs hcs) ?_
  have kB2 : Keeps B0 (K2.alloc (.cells true false 6 (cI6 vc2 y6) 34)) := kk1.trans kk2
  simp (disch := first | assumption | omega | (simp only [LN] <;> omega) | (simp (disch := first | assumption | omega | (simp only [LN] <;> omega)) only [row_alloc, row_set, Keeps.row k2]; assumption)) only [Keeps.get k2, Keeps.row k2, W_block, P3, ↓reduceIte, reduceAdd, reduceEqDiff, reduceCtorEq, initFr, reduceLT, clsA, reduceLeDiff, reduceMul, reduceSub, reduceIte, ite_self, sI6_refl, er_b]
  -- outputs
  obtain ⟨K3, hK3⟩ : ∃ X, X = K2.alloc (.cells true false 6 (cI6 vc2 y6) 34) := ⟨_, rfl⟩
  rw [← hK3] at kB2 ⊢
  refine callP (e16 (hown.keeps kB2) (by omega)) ?_
  obtain ⟨yo, hyo⟩ : ∃ y, y = (geOu b).getD Ou0 := ⟨_, rfl⟩
  obtain ⟨bo, hbo⟩ : ∃ y, y = (geOu b).isSome := ⟨_, rfl⟩
  rw [← hyo, ← hbo]
  simp (disch := first | assumption | omega | (simp only [LN] <;> omega) | (simp (disch := first | assumption | omega | (simp only [LN] <;> omega)) only [row_alloc, row_set]; assumption)) only [W_block, P3, ↓reduceIte, reduceAdd, reduceEqDiff, reduceCtorEq, initFr, reduceLT, clsA, reduceLeDiff, reduceMul, reduceSub, reduceIte, GotV, cOuL, cOuO]
  refine callP (d17 (hbB.keeps (kB2.alloc _)) (by omega)) ?_
  rw [← hyo, ← hbo]
  have lo := cOuL yo
  simp (disch := first | assumption | omega | (simp only [LN] <;> omega) | (simp (disch := first | assumption | omega | (simp only [LN] <;> omega)) only [row_alloc, row_set]; assumption)) only [W_block, P3, ↓reduceIte, reduceAdd, reduceEqDiff, reduceCtorEq, initFr, reduceLT, clsA, reduceLeDiff, reduceMul, reduceSub, reduceIte, GotB, cOuL, cOuO]
  refine callP (t18 yo _) ?_
  simp (disch := first | assumption | omega | (simp only [LN] <;> omega) | (simp (disch := first | assumption | omega | (simp only [LN] <;> omega)) only [row_alloc, row_set]; assumption)) only [W_block, P3, ↓reduceIte, reduceAdd, reduceEqDiff, reduceCtorEq, initFr, reduceLT, clsA, reduceLeDiff, reduceMul, reduceSub, reduceIte, ite_self, a_eqsR (eqOu yo), er_b]
  -- states
  have kB3 := (kB2.alloc (.cells true false 5 (cOu yo) 42)).alloc (.cells true false 5 (cOu yo) 45)
  obtain ⟨K4, hK4⟩ : ∃ X, X = (K3.alloc (.cells true false 5 (cOu yo) 42)).alloc (.cells true false 5 (cOu yo) 45) := ⟨_, rfl⟩
  rw [← hK4] at kB3 ⊢
  refine callP (e19 (hown.keeps kB3) (by omega)) ?_
  have lst := gotSt_len b
  have llo := gotLo_len b
  obtain ⟨ys, hys⟩ : ∃ y, y = (geSt b).getD St0 := ⟨_, rfl⟩
  obtain ⟨bs, hbs⟩ : ∃ y, y = (geSt b).isSome := ⟨_, rfl⟩
  rw [← hys] at lst
  rw [← hys, ← hbs]
  have lz3 : Z68.length = 68 := rfl
  have oz3 : Z68.all Value.oneCell' = true := rfl
  have ls := cSt_len lst
  have os := cSt_one ys
  simp (disch := first | assumption | omega | (simp only [LN] <;> omega) | (simp (disch := first | assumption | omega | (simp only [LN] <;> omega)) only [row_alloc, row_set]; assumption)) only [W_block, P3, ↓reduceIte, reduceAdd, reduceEqDiff, reduceCtorEq, initFr, reduceLT, clsA, reduceLeDiff, reduceMul, reduceSub, reduceIte, GotV, ls, os, oz3]
  refine callP (d20 (hbB.keeps (kB3.alloc _)) (by omega)) ?_
  rw [← hys, ← hbs]
  simp (disch := first | assumption | omega | (simp only [LN] <;> omega) | (simp (disch := first | assumption | omega | (simp only [LN] <;> omega)) only [row_alloc, row_set]; assumption)) only [W_block, P3, ↓reduceIte, reduceAdd, reduceEqDiff, reduceCtorEq, initFr, reduceLT, clsA, reduceLeDiff, reduceMul, reduceSub, reduceIte, GotB, ls, os, oz3, a_eqsR (eqSt lst), er_b]
  -- records
  have kB4 := (kB3.alloc (.cells true false 68 (cSt ys) 51)).alloc (.cells true false 68 (cSt ys) 51)
  obtain ⟨K5, hK5⟩ : ∃ X, X = (K4.alloc (.cells true false 68 (cSt ys) 51)).alloc (.cells true false 68 (cSt ys) 51) := ⟨_, rfl⟩
  rw [← hK5] at kB4 ⊢
  refine callP (e21 (hown.keeps kB4) (by omega)) ?_
  obtain ⟨yl, hyl⟩ : ∃ y, y = (geLo b).getD Lo0 := ⟨_, rfl⟩
  obtain ⟨bl, hbl⟩ : ∃ y, y = (geLo b).isSome := ⟨_, rfl⟩
  rw [← hyl] at llo
  rw [← hyl, ← hbl]
  have lz4 : Z70.length = 70 := rfl
  have oz4 : Z70.all Value.oneCell' = true := rfl
  have ll := cLo_len llo
  have ol := cLo_one yl
  simp (disch := first | assumption | omega | (simp only [LN] <;> omega) | (simp (disch := first | assumption | omega | (simp only [LN] <;> omega)) only [row_alloc, row_set]; assumption)) only [W_block, P3, ↓reduceIte, reduceAdd, reduceEqDiff, reduceCtorEq, initFr, reduceLT, clsA, reduceLeDiff, reduceMul, reduceSub, reduceIte, GotV, ll, ol, oz4]
  refine callP (d22 (hbB.keeps (kB4.alloc _)) (by omega)) ?_
  rw [← hyl, ← hbl]
  simp (disch := first | assumption | omega | (simp only [LN] <;> omega) | (simp (disch := first | assumption | omega | (simp only [LN] <;> omega)) only [row_alloc, row_set]; assumption)) only [W_block, P3, ↓reduceIte, reduceAdd, reduceEqDiff, reduceCtorEq, initFr, reduceLT, clsA, reduceLeDiff, reduceMul, reduceSub, reduceIte, GotB, ll, ol, oz4]
  refine callP (t23 yl llo _) ?_
  simp (disch := first | assumption | omega | (simp only [LN] <;> omega) | (simp (disch := first | assumption | omega | (simp only [LN] <;> omega)) only [row_alloc, row_set]; assumption)) only [W_block, P3, ↓reduceIte, reduceAdd, reduceEqDiff, reduceCtorEq, initFr, reduceLT, clsA, reduceLeDiff, reduceMul, reduceSub, reduceIte, ite_self, a_eqsR (eqLo llo), er_b]
  -- messages
  have kB5 := (kB4.alloc (.cells true false 70 (cLo yl) 57)).alloc (.cells true false 70 (cLo yl) 60)
  obtain ⟨K6, hK6⟩ : ∃ X, X = (K5.alloc (.cells true false 70 (cLo yl) 57)).alloc (.cells true false 70 (cLo yl) 60) := ⟨_, rfl⟩
  rw [← hK6] at kB5 ⊢
  refine callK (e24 (hown.keeps kB5) (by omega)) ?_
  rintro _ K7 ⟨vb, rfl, k7, fb, ab⟩
  obtain ⟨ym, hym⟩ : ∃ y, y = (geLi b).getD Li0 := ⟨_, rfl⟩
  obtain ⟨bm, hbm⟩ : ∃ y, y = (geLi b).isSome := ⟨_, rfl⟩
  rw [← hym] at ab ⊢
  rw [← hbm]
  have h1b := ab.bs.sl.one
  have om : (cLi vb ym).all Value.oneCell' = true := by simp only [cLi, List.all_cons, List.all_nil, h1b]; rfl
  have lm : (cLi vb ym).length = 5 := rfl
  have kB7 := kB5.trans k7
  simp (disch := first | assumption | omega | (simp only [LN] <;> omega) | (simp (disch := first | assumption | omega | (simp only [LN] <;> omega)) only [row_alloc, row_set]; assumption)) only [W_block, P3, ↓reduceIte, reduceAdd, reduceEqDiff, reduceCtorEq, initFr, reduceLT, clsA, reduceLeDiff, reduceMul, reduceSub, reduceIte, GotV, lm, om]
  refine callP (d25 (hbB.keeps (kB7.alloc _)) (by omega)) ?_
  rw [← hym, ← hbm]
  have lls := cLsL ym
  simp (disch := first | assumption | omega | (simp only [LN] <;> omega) | (simp (disch := first | assumption | omega | (simp only [LN] <;> omega)) only [row_alloc, row_set]; assumption)) only [W_block, P3, ↓reduceIte, reduceAdd, reduceEqDiff, reduceCtorEq, initFr, reduceLT, clsA, reduceLeDiff, reduceMul, reduceSub, reduceIte, GotB, cLsL, cLsO]
  have kB8 := (kB7.alloc (.cells true false 5 (cLi vb ym) 65)).alloc (.cells true false 5 (cLs ym) 69)
  refine callP (t26 ym (ab.bs.keeps (((Keeps.refl K7).alloc (.cells true false 5 (cLi vb ym) 65)).alloc (.cells true false 5 (cLs ym) 69)))) ?_
  simp (disch := first | assumption | omega | (simp only [LN] <;> omega) | (simp (disch := first | assumption | omega | (simp only [LN] <;> omega)) only [row_alloc, row_set]; assumption)) only [W_block, P3, ↓reduceIte, reduceAdd, reduceEqDiff, reduceCtorEq, initFr, reduceLT, clsA, reduceLeDiff, reduceMul, reduceSub, reduceIte, ite_self, a_eqsR (eqLs ym), er_b]
  have a8 := ab.keeps (((Keeps.refl K7).alloc (.cells true false 5 (cLi vb ym) 65)).alloc (.cells true false 5 (cLs ym) 69))
  have g8 : ((K7.alloc (.cells true false 5 (cLi vb ym) 65)).alloc (.cells true false 5 (cLs ym) 69)).get K7.n = some (.cells true false 5 (cLi vb ym) 65) := (AHeap.get_alloc_old _ _ (by rw [alloc_n]; omega)).trans (AHeap.get_alloc_new _ _)
  obtain ⟨K8, hK8⟩ : ∃ X, X = (K7.alloc (.cells true false 5 (cLi vb ym) 65)).alloc (.cells true false 5 (cLs ym) 69) := ⟨_, rfl⟩
  rw [← hK8] at kB8 a8 g8 ⊢
  have lB := ab
  have lvb : ∀ y ∈ blkL vb, B0.n ≤ y ∧ y < K7.n := fun y hy => ⟨by have := fb y (mem_blkL.1 hy); have := kB5.n; omega, ab.lt (mem_blkL.1 hy)⟩
  have hml : ym.B.length ≤ 1000000 := by
    rw [hym]
    cases hg : geLi b with
    | none => simp [Li0]
    | some y => have := (geLi_some hg).2.2.2; simp only [Option.getD_some]; omega
  refine W_loop2 (fun q fr K => ∃ (j : Nat) (l' : List UInt8) (e : Value), j ≤ ym.B.length ∧ q = ym.B.length - j ∧ l'.length = ym.B.length ∧ AP K 5 1 vb ym.B.length (cellsOf l') ∧ K.get K7.n = some (.cells true false 5 (cLi vb ym) 65) ∧ Chg (blkL vb) K8 K ∧
    fr = [v, .bool false, slc H.n 0 b.length b.length, ptr K1.n 0, .int .i64 (er b6), ptr K2.n 0, .bool b6, .bool true, ptr K3.n 0, .int .i64 (er bo), ptr (K3.n + 1) 0, .bool bo, .bool true, ptr K4.n 0, .int .i64 (er bs), ptr (K4.n + 1) 0, .bool bs, .bool true, ptr K5.n 0, .int .i64 (er bl), ptr (K5.n + 1) 0, .bool bl, .bool true, ptr K7.n 0, .int .i64 (er bm), ptr (K7.n + 1) 0, .bool bm, .bool true, .int .i64 (j : Nat), .bool false, e]) ym.B.length ⟨0, ym.B, undef, by omega, rfl, rfl, a8, g8, Chg.refl _ _, rfl⟩ ?_
  rintro Q' q fr K ⟨j, l', e, hj, rfl, hl', aK, gK, cK, rfl⟩ hnx hex hrt
  by_cases hc : j < ym.B.length
  · rcases aK with ⟨_, h0', _⟩ | ⟨bb, room, rfl, h1', g1⟩
    · omega
    have hbb := lvb bb (mem_blkL.2 rfl)
    have hj' : j < l'.length := by omega
    have p1 := AHeap.get_lt g1
    simp (disch := first | assumption | omega | (simp only [LN] <;> omega) | (simp (disch := first | assumption | omega | (simp only [LN] <;> omega)) only [row_alloc, row_set]; assumption)) only [W_block, P3, ↓reduceIte, reduceAdd, reduceEqDiff, reduceCtorEq, initFr, reduceLT, clsA, reduceLeDiff, reduceMul, reduceSub, reduceIte, gK, cLiG (slc bb 0 ym.B.length ym.B.length) ym, g1, cells_get hj', inc_byte, cellsOf_length, cells_set, wrap_succ (n := j) (by omega)]
    refine hnx _ _ _ ⟨j + 1, l'.set j (UInt8.ofNat (l'[j].toNat + 1)), _, by omega, rfl, by rw [List.length_set]; exact hl', .inr ⟨bb, room, rfl, by rw [cellsOf_length, List.length_set]; omega, AHeap.get_set_same g1 _⟩, ?_, ?_, rfl⟩ (by omega)
    · rw [AHeap.get_set_other _ (by omega) p1]; exact gK
    · exact cK.trans (Chg.set K p1 _) (fun x hx => .inl (by simp at hx; subst hx; exact mem_blkL.2 rfl))
  · have his2 := aK.bs.sl.is
    have hlen2 := aK.bs.sl.len
    rw [List.length_map, hl'] at hlen2
    simp (disch := first | assumption | omega | (simp only [LN] <;> omega) | (simp (disch := first | assumption | omega | (simp only [LN] <;> omega)) only [row_alloc, row_set]; assumption)) only [W_block, P3, ↓reduceIte, reduceAdd, reduceEqDiff, reduceCtorEq, initFr, reduceLT, clsA, reduceLeDiff, reduceMul, reduceSub, reduceIte, gK, cLiG vb ym, hlen2]
    refine hex _ _ _ ?_
    have kE : Keeps B0 K := kB8.chg_trans cK (fun x hx => (lvb x hx).1)
    simp (disch := first | assumption | omega | (simp only [LN] <;> omega) | (simp (disch := first | assumption | omega | (simp only [LN] <;> omega)) only [row_alloc, row_set]; assumption)) only [W_block, P3, ↓reduceIte, reduceAdd, reduceEqDiff, reduceCtorEq, initFr, reduceLT, clsA, reduceLeDiff, reduceMul, reduceSub, reduceIte]
    refine callP (t27 b6 bo bs bl bm K) ?_
    simp (disch := first | assumption | omega | (simp only [LN] <;> omega) | (simp (disch := first | assumption | omega | (simp only [LN] <;> omega)) only [row_alloc, row_set]; assumption)) only [W_block, P3, ↓reduceIte, reduceAdd, reduceEqDiff, reduceCtorEq, initFr, reduceLT, clsA, reduceLeDiff, reduceMul, reduceSub, reduceIte]
    refine callP (t28 (hown.keeps kE) (by omega)) ?_
    simp (disch := first | assumption | omega | (simp only [LN] <;> omega) | (simp (disch := first | assumption | omega | (simp only [LN] <;> omega)) only [row_alloc, row_set]; assumption)) only [W_block, P3, ↓reduceIte, reduceAdd, reduceEqDiff, reduceCtorEq, initFr, reduceLT, clsA, reduceLeDiff, reduceMul, reduceSub, reduceIte]
    refine callP (t29 (hbB.keeps kE) (by omega)) ?_
    simp (disch := first | assumption | omega | (simp only [LN] <;> omega) | (simp (disch := first | assumption | omega | (simp only [LN] <;> omega)) only [row_alloc, row_set]; assumption)) only [W_block, P3, ↓reduceIte, reduceAdd, reduceEqDiff, reduceCtorEq, initFr, reduceLT, clsA, reduceLeDiff, reduceMul, reduceSub, reduceIte, a_b2sB (hown.keeps kE).bs, a_b2sB (hbB.keeps kE).bs]
    refine callP (t11 K) ?_
    simp (disch := first | assumption | omega | (simp only [LN] <;> omega) | (simp (disch := first | assumption | omega | (simp only [LN] <;> omega)) only [row_alloc, row_set]; assumption)) only [W_block, P3, ↓reduceIte, reduceAdd, reduceEqDiff, reduceCtorEq, initFr, reduceLT, clsA, reduceLeDiff, reduceMul, reduceSub, reduceIte]
    exact hq2 _ _ ⟨_, rfl, rfl⟩
end Go.AM.Fd

set_option linter.unusedSimpArgs false
set_option linter.unusedVariables false
namespace Go.AM.Fd
open Nat (reduceAdd reduceEqDiff reduceLT reduceLeDiff reduceMul reduceSub)
open Go.Proofs Go.AM.F
theorem ki_cases (b : List UInt8) : kiB b = 0 ∨ (∃ x, geI6 b = some x ∧ kiB b = 1) ∨ (∃ x, geOu b = some x ∧ kiB b = 2) ∨ (∃ x, geSt b = some x ∧ kiB b = 3) ∨ (∃ x, geLo b = some x ∧ kiB b = 4) ∨ (∃ x, geLi b = some x ∧ kiB b = 5) := by
  cases h1 : geI6 b with
  | some x => exact .inr (.inl ⟨x, rfl, ki_i6 h1⟩)
  | none =>
  cases h2 : geOu b with
  | some x => exact .inr (.inr (.inl ⟨x, rfl, ki_ou h2⟩))
  | none =>
  cases h3 : geSt b with
  | some x => exact .inr (.inr (.inr (.inl ⟨x, rfl, ki_st h3⟩)))
  | none =>
  cases h4 : geLo b with
  | some x => exact .inr (.inr (.inr (.inr (.inl ⟨x, rfl, ki_lo h4⟩))))
  | none =>
  cases h5 : geLi b with
  | some x => exact .inr (.inr (.inr (.inr (.inr ⟨x, rfl, ki_li h5⟩))))
  | none => exact .inl (by unfold kiB; rw [h1, h2, h3, h4, h5]; rfl)
theorem PutR.bs {H H' : AHeap} {v : Value} {l : List UInt8} (h : PutR H H' v l) : BS H' v l := h.1.bs
theorem PutR.bq {H H' : AHeap} {v : Value} {l : List UInt8} (h : PutR H H' v l) : BQ H' v l := h.1.bq
set_option maxHeartbeats 1000000 in
theorem t53 {H : AHeap} {v : Value} {b : List UInt8} (hb : BQ H v b) (hl : b.length ≤ 1000000) : ∃ w H', ARun Go.Proofs.Try.prog 0 53 [v] H w H' ∧ w = .bool true ∧ H' = H := by
  obtain ⟨w, H', a, rfl, k⟩ : ∃ w H', ARun Go.Proofs.Try.prog 0 53 [v] H w H' ∧ w = .bool true ∧ Keeps H H' := by
    refine walk2 f53_ok f53_n ?_
    intro Q hq1 hq2
    simp (disch := first | assumption | omega | (simp only [LN] <;> omega) | (simp (disch := first | assumption | omega | (simp only [LN] <;> omega)) only [row_alloc, row_set]; assumption)) only [f53, W_block, P3, ↓reduceIte, reduceAdd, reduceEqDiff, reduceCtorEq, initFr, reduceLT, clsA, reduceLeDiff, reduceMul, reduceSub, reduceIte]
    refine callK (e12 hb hl) ?_
    rintro _ K1 ⟨vc1, rfl, k1, fc1, ac1⟩
    obtain ⟨y6, hy6⟩ : ∃ y, y = (geI6 b).getD I60 := ⟨_, rfl⟩
    rw [← hy6] at ac1 ⊢
    have h1c := (apSl ac1).one
    have o6 : (cI6 vc1 y6).all Value.oneCell' = true := by simp only [cI6, List.all_cons, List.all_nil, h1c]; rfl
    simp (disch := first | assumption | omega | (simp only [LN] <;> omega) | (simp (disch := first | assumption | omega | (simp only [LN] <;> omega)) only [row_alloc, row_set]; assumption)) only [W_block, P3, ↓reduceIte, reduceAdd, reduceEqDiff, reduceCtorEq, initFr, reduceLT, clsA, reduceLeDiff, reduceMul, reduceSub, reduceIte, GotV, cI6L, o6]
    have l6 : (cI6 vc1 y6).length = 6 := rfl
    have kk1 := k1.alloc (.cells true false 6 (cI6 vc1 y6) 30)
    refine callP (e16 (hb.keeps kk1) hl) ?_
    obtain ⟨yo, hyo⟩ : ∃ y, y = (geOu b).getD Ou0 := ⟨_, rfl⟩
    rw [← hyo]
    simp (disch := first | assumption | omega | (simp only [LN] <;> omega) | (simp (disch := first | assumption | omega | (simp only [LN] <;> omega)) only [row_alloc, row_set]; assumption)) only [W_block, P3, ↓reduceIte, reduceAdd, reduceEqDiff, reduceCtorEq, initFr, reduceLT, clsA, reduceLeDiff, reduceMul, reduceSub, reduceIte, GotV, cOuL, cOuO]
    have lo : (cOu yo).length = 5 := rfl
    have kk2 := kk1.alloc (.cells true false 5 (cOu yo) 42)
    refine callP (e19 (hb.keeps kk2) hl) ?_
    have lst := gotSt_len b
    have llo := gotLo_len b
    obtain ⟨ys, hys⟩ : ∃ y, y = (geSt b).getD St0 := ⟨_, rfl⟩
    rw [← hys] at lst
    rw [← hys]
    have lz3 : Z68.length = 68 := rfl
    have oz3 : Z68.all Value.oneCell' = true := rfl
    have ls := cSt_len lst
    have os := cSt_one ys
    simp (disch := first | assumption | omega | (simp only [LN] <;> omega) | (simp (disch := first | assumption | omega | (simp only [LN] <;> omega)) only [row_alloc, row_set]; assumption)) only [W_block, P3, ↓reduceIte, reduceAdd, reduceEqDiff, reduceCtorEq, initFr, reduceLT, clsA, reduceLeDiff, reduceMul, reduceSub, reduceIte, GotV, ls, os, oz3]
    have kk3 := kk2.alloc (.cells true false 68 (cSt ys) 51)
    refine callP (e21 (hb.keeps kk3) hl) ?_
    obtain ⟨yl, hyl⟩ : ∃ y, y = (geLo b).getD Lo0 := ⟨_, rfl⟩
    rw [← hyl] at llo
    rw [← hyl]
    have lz4 : Z70.length = 70 := rfl
    have oz4 : Z70.all Value.oneCell' = true := rfl
    have ll := cLo_len llo
    have ol := cLo_one yl
    simp (disch := first | assumption | omega | (simp only [LN] <;> omega) | (simp (disch := first | assumption | omega | (simp only [LN] <;> omega)) only [row_alloc, row_set]; assumption)) only [W_block, P3, ↓reduceIte, reduceAdd, reduceEqDiff, reduceCtorEq, initFr, reduceLT, clsA, reduceLeDiff, reduceMul, reduceSub, reduceIte, GotV, ll, ol, oz4]
    have kk4 := kk3.alloc (.cells true false 70 (cLo yl) 57)
    have g1 : ((((K1.alloc (.cells true false 6 (cI6 vc1 y6) 30)).alloc (.cells true false 5 (cOu yo) 42)).alloc (.cells true false 68 (cSt ys) 51)).alloc (.cells true false 70 (cLo yl) 57)).get K1.n = some (.cells true false 6 (cI6 vc1 y6) 30) := by
      simp (disch := first | assumption | omega | (simp only [LN] <;> omega) | (simp (disch := first | assumption | omega | (simp only [LN] <;> omega)) only [row_alloc, row_set]; assumption)) only [W_block, P3, ↓reduceIte, reduceAdd, reduceEqDiff, reduceCtorEq, initFr, reduceLT, clsA, reduceLeDiff, reduceMul, reduceSub, reduceIte]
    have g2 : ((((K1.alloc (.cells true false 6 (cI6 vc1 y6) 30)).alloc (.cells true false 5 (cOu yo) 42)).alloc (.cells true false 68 (cSt ys) 51)).alloc (.cells true false 70 (cLo yl) 57)).get (K1.n + 1) = some (.cells true false 5 (cOu yo) 42) := by
      simp (disch := first | assumption | omega | (simp only [LN] <;> omega) | (simp (disch := first | assumption | omega | (simp only [LN] <;> omega)) only [row_alloc, row_set]; assumption)) only [W_block, P3, ↓reduceIte, reduceAdd, reduceEqDiff, reduceCtorEq, initFr, reduceLT, clsA, reduceLeDiff, reduceMul, reduceSub, reduceIte]
    have g3 : ((((K1.alloc (.cells true false 6 (cI6 vc1 y6) 30)).alloc (.cells true false 5 (cOu yo) 42)).alloc (.cells true false 68 (cSt ys) 51)).alloc (.cells true false 70 (cLo yl) 57)).get (K1.n + 1 + 1) = some (.cells true false 68 (cSt ys) 51) := by
      simp (disch := first | assumption | omega | (simp only [LN] <;> omega) | (simp (disch := first | assumption | omega | (simp only [LN] <;> omega)) only [row_alloc, row_set]; assumption)) only [W_block, P3, ↓reduceIte, reduceAdd, reduceEqDiff, reduceCtorEq, initFr, reduceLT, clsA, reduceLeDiff, reduceMul, reduceSub, reduceIte]
    have g4 : ((((K1.alloc (.cells true false 6 (cI6 vc1 y6) 30)).alloc (.cells true false 5 (cOu yo) 42)).alloc (.cells true false 68 (cSt ys) 51)).alloc (.cells true false 70 (cLo yl) 57)).get (K1.n + 1 + 1 + 1) = some (.cells true false 70 (cLo yl) 57) := by
      simp (disch := first | assumption | omega | (simp only [LN] <;> omega) | (simp (disch := first | assumption | omega | (simp only [LN] <;> omega)) only [row_alloc, row_set]; assumption)) only [W_block, P3, ↓reduceIte, reduceAdd, reduceEqDiff, reduceCtorEq, initFr, reduceLT, clsA, reduceLeDiff, reduceMul, reduceSub, reduceIte]
    have s1 : Keeps K1 ((((K1.alloc (.cells true false 6 (cI6 vc1 y6) 30)).alloc (.cells true false 5 (cOu yo) 42)).alloc (.cells true false 68 (cSt ys) 51)).alloc (.cells true false 70 (cLo yl) 57)) := ((((Keeps.refl K1).alloc _).alloc _).alloc _).alloc _
    obtain ⟨K4, hK4⟩ : ∃ X, X = ((((K1.alloc (.cells true false 6 (cI6 vc1 y6) 30)).alloc (.cells true false 5 (cOu yo) 42)).alloc (.cells true false 68 (cSt ys) 51)).alloc (.cells true false 70 (cLo yl) 57)) := ⟨_, rfl⟩
    rw [← hK4] at kk4 g1 g2 g3 g4 s1 ⊢
    refine callK (e24 (hb.keeps kk4) hl) ?_
    rintro _ K5 ⟨vb, rfl, k5, fb, ab⟩
    obtain ⟨ym, hym⟩ : ∃ y, y = (geLi b).getD Li0 := ⟨_, rfl⟩
    rw [← hym] at ab ⊢
    have h1b := ab.bs.sl.one
    have om : (cLi vb ym).all Value.oneCell' = true := by simp only [cLi, List.all_cons, List.all_nil, h1b]; rfl
    have lm : (cLi vb ym).length = 5 := rfl
    simp (disch := first | assumption | omega | (simp only [LN] <;> omega) | (simp (disch := first | assumption | omega | (simp only [LN] <;> omega)) only [row_alloc, row_set]; assumption)) only [W_block, P3, ↓reduceIte, reduceAdd, reduceEqDiff, reduceCtorEq, initFr, reduceLT, clsA, reduceLeDiff, reduceMul, reduceSub, reduceIte, GotV, lm, om]
    have k6 := k5.alloc (.cells true false 5 (cLi vb ym) 65)
    have g5 : (K5.alloc (.cells true false 5 (cLi vb ym) 65)).get K5.n = some (.cells true false 5 (cLi vb ym) 65) := AHeap.get_alloc_new _ _
    have ac6 := ac1.keeps (s1.trans k6)
    have ab6 := ab.keeps ((Keeps.refl K5).alloc (.cells true false 5 (cLi vb ym) 65))
    have g1 := k6.at_ g1
    have g2 := k6.at_ g2
    have g3 := k6.at_ g3
    have g4 := k6.at_ g4
    have kk6 := kk4.trans k6
    obtain ⟨K6, hK6⟩ : ∃ X, X = K5.alloc (.cells true false 5 (cLi vb ym) 65) := ⟨_, rfl⟩
    rw [← hK6] at g1 g2 g3 g4 g5 ac6 ab6 kk6 ⊢
    refine callP (t28 (hb.keeps kk6) (by omega)) ?_
    have hbs := (hb.keeps kk6).bs
    rcases ki_cases b with hk | ⟨x, hx, hk⟩ | ⟨x, hx, hk⟩ | ⟨x, hx, hk⟩ | ⟨x, hx, hk⟩ | ⟨x, hx, hk⟩
    · rw [hk]
      simp (disch := first | assumption | omega | (simp only [LN] <;> omega) | (simp (disch := first | assumption | omega | (simp only [LN] <;> omega)) only [row_alloc, row_set]; assumption)) only [W_block, P3, ↓reduceIte, reduceAdd, reduceEqDiff, reduceCtorEq, initFr, reduceLT, clsA, reduceLeDiff, reduceMul, reduceSub, reduceIte]
      exact hq2 _ _ ⟨_, rfl, rfl, kk6⟩
    · rw [hk]
      obtain rfl : y6 = x := by rw [hy6, hx]; rfl
      obtain ⟨e1, e2, e3, e4⟩ := geI6_some hx
      simp (disch := first | assumption | omega | (simp only [LN] <;> omega) | (simp (disch := first | assumption | omega | (simp only [LN] <;> omega)) only [row_alloc, row_set]; assumption)) only [W_block, P3, ↓reduceIte, reduceAdd, reduceEqDiff, reduceCtorEq, initFr, reduceLT, clsA, reduceLeDiff, reduceMul, reduceSub, reduceIte, g1, cI6L]
      refine callK (t44 y6 e2 (apSl ac6) (by have := geI6_few hx; omega)) ?_
      rintro w K7 p7
      rw [e1] at p7
      simp (disch := first | assumption | omega | (simp only [LN] <;> omega) | (simp (disch := first | assumption | omega | (simp only [LN] <;> omega)) only [row_alloc, row_set]; assumption)) only [W_block, P3, ↓reduceIte, reduceAdd, reduceEqDiff, reduceCtorEq, initFr, reduceLT, clsA, reduceLeDiff, reduceMul, reduceSub, reduceIte, a_b2sB p7.bs, a_b2sB (hbs.keeps p7.2.1), bytes_eq]
      exact hq2 _ _ ⟨_, rfl, rfl, kk6.trans p7.2.1⟩
    · rw [hk]
      obtain rfl : yo = x := by rw [hyo, hx]; rfl
      obtain ⟨e1, e2, e3, e4⟩ := geOu_some hx
      simp (disch := first | assumption | omega | (simp only [LN] <;> omega) | (simp (disch := first | assumption | omega | (simp only [LN] <;> omega)) only [row_alloc, row_set]; assumption)) only [W_block, P3, ↓reduceIte, reduceAdd, reduceEqDiff, reduceCtorEq, initFr, reduceLT, clsA, reduceLeDiff, reduceMul, reduceSub, reduceIte, g2, cOuL]
      refine callK (t45 yo e2 _) ?_
      rintro w K7 p7
      rw [e1] at p7
      simp (disch := first | assumption | omega | (simp only [LN] <;> omega) | (simp (disch := first | assumption | omega | (simp only [LN] <;> omega)) only [row_alloc, row_set]; assumption)) only [W_block, P3, ↓reduceIte, reduceAdd, reduceEqDiff, reduceCtorEq, initFr, reduceLT, clsA, reduceLeDiff, reduceMul, reduceSub, reduceIte, a_b2sB p7.bs, a_b2sB (hbs.keeps p7.2.1), bytes_eq]
      exact hq2 _ _ ⟨_, rfl, rfl, kk6.trans p7.2.1⟩
    · rw [hk]
      obtain rfl : ys = x := by rw [hys, hx]; rfl
      obtain ⟨e1, e2, e3, e4⟩ := geSt_some hx
      simp (disch := first | assumption | omega | (simp only [LN] <;> omega) | (simp (disch := first | assumption | omega | (simp only [LN] <;> omega)) only [row_alloc, row_set]; assumption)) only [W_block, P3, ↓reduceIte, reduceAdd, reduceEqDiff, reduceCtorEq, initFr, reduceLT, clsA, reduceLeDiff, reduceMul, reduceSub, reduceIte, g3, ls]
      refine callK (t46 ys e2 _) ?_
      rintro w K7 p7
      rw [e1] at p7
      simp (disch := first | assumption | omega | (simp only [LN] <;> omega) | (simp (disch := first | assumption | omega | (simp only [LN] <;> omega)) only [row_alloc, row_set]; assumption)) only [W_block, P3, ↓reduceIte, reduceAdd, reduceEqDiff, reduceCtorEq, initFr, reduceLT, clsA, reduceLeDiff, reduceMul, reduceSub, reduceIte, a_b2sB p7.bs, a_b2sB (hbs.keeps p7.2.1), bytes_eq]
      exact hq2 _ _ ⟨_, rfl, rfl, kk6.trans p7.2.1⟩
    · rw [hk]
      obtain rfl : yl = x := by rw [hyl, hx]; rfl
      obtain ⟨e1, e2, e3, e4⟩ := geLo_some hx
      simp (disch := first | assumption | omega | (simp only [LN] <;> omega) | (simp (disch := first | assumption | omega | (simp only [LN] <;> omega)) only [row_alloc, row_set]; assumption)) only [W_block, P3, ↓reduceIte, reduceAdd, reduceEqDiff, reduceCtorEq, initFr, reduceLT, clsA, reduceLeDiff, reduceMul, reduceSub, reduceIte, g4, ll]
      refine callK (t47 yl e2 _) ?_
      rintro w K7 p7
      rw [e1] at p7
      simp (disch := first | assumption | omega | (simp only [LN] <;> omega) | (simp (disch := first | assumption | omega | (simp only [LN] <;> omega)) only [row_alloc, row_set]; assumption)) only [W_block, P3, ↓reduceIte, reduceAdd, reduceEqDiff, reduceCtorEq, initFr, reduceLT, clsA, reduceLeDiff, reduceMul, reduceSub, reduceIte, a_b2sB p7.bs, a_b2sB (hbs.keeps p7.2.1), bytes_eq]
      exact hq2 _ _ ⟨_, rfl, rfl, kk6.trans p7.2.1⟩
    · rw [hk]
      obtain rfl : ym = x := by rw [hym, hx]; rfl
      obtain ⟨e1, e2, e3, e4⟩ := geLi_some hx
      have hok : okLi ym = true := by
        cases h : okLi ym with
        | true => rfl
        | false =>
          simp only [fLi, h, Bool.false_eq_true, if_false] at e1
          rw [← e1] at e4; simp at e4; omega
      have := (okLi_iff.1 hok).2.2
      simp (disch := first | assumption | omega | (simp only [LN] <;> omega) | (simp (disch := first | assumption | omega | (simp only [LN] <;> omega)) only [row_alloc, row_set]; assumption)) only [W_block, P3, ↓reduceIte, reduceAdd, reduceEqDiff, reduceCtorEq, initFr, reduceLT, clsA, reduceLeDiff, reduceMul, reduceSub, reduceIte, g5, lm]
      refine callK (t36 ym e2 ab6.bs (by omega)) ?_
      rintro w K7 p7
      rw [e1] at p7
      simp (disch := first | assumption | omega | (simp only [LN] <;> omega) | (simp (disch := first | assumption | omega | (simp only [LN] <;> omega)) only [row_alloc, row_set]; assumption)) only [W_block, P3, ↓reduceIte, reduceAdd, reduceEqDiff, reduceCtorEq, initFr, reduceLT, clsA, reduceLeDiff, reduceMul, reduceSub, reduceIte, a_b2sB p7.bs, a_b2sB (hbs.keeps p7.2.1), bytes_eq]
      exact hq2 _ _ ⟨_, rfl, rfl, kk6.trans p7.2.1⟩
  exact ⟨_, _, a.gc0 k (.inr (.bool _)), rfl, rfl⟩
end Go.AM.Fd

set_option linter.unusedSimpArgs false
set_option linter.unusedVariables false
namespace Go.AM.Fd
open Nat (reduceAdd reduceEqDiff reduceLT reduceLeDiff reduceMul reduceSub)
open Go.Proofs Go.AM.F
def M6 (A0 A1 A2 A3' A4 v : Value) (n : Nat) (Hb : AHeap) (fr : List Value) (K : AHeap) : Prop := ∃ x12 x13 x14 x15 x16 x17 x18 x19 x20 x21 x22 x23 x24, fr = [A0, A1, A2, A3', A4, v, ptr n 0, ptr (n + 1) 0, ptr (n + 1 + 1) 0, ptr (n + 1 + 1 + 1) 0, ptr (n + 1 + 1 + 1 + 1) 0, .bool false, x12, x13, x14, x15, x16, x17, x18, x19, x20, x21, x22, x23, x24] ∧ Keeps Hb K
theorem fI6_len {x : I6} : (fI6 x).length ≤ 31 + 2 * x.cs.length := by
  unfold fI6
  split
  · rw [chk_len, List.length_cons, enI6_len]; omega
  · simp
theorem fOu_len {x : Ou} : (fOu x).length ≤ 34 := by
  unfold fOu
  split
  · rw [chk_len, List.length_cons, enOu_len]; omega
  · simp
theorem fSt_len {x : St} (h : x.t.length = 64) : (fSt x).length = 97 := by
  unfold fSt
  rw [chk_len, List.length_cons, enSt_len h]
theorem fLo_len {x : Lo} (h : x.s.t.length = 64) : (fLo x).length ≤ 113 := by
  unfold fLo
  split
  · rw [chk_len, List.length_cons, enLo_len h]; omega
  · simp
theorem fLi_len {x : Li} : (fLi x).length ≤ 25 + x.B.length := by
  unfold fLi
  split
  · rw [chk_len, List.length_cons, enLi_len]; omega
  · simp
section
variable {A0 A1 A2 A3' A4 v : Value} {n : Nat} {Hb K : AHeap} {Q : AQ} {fr : List Value}
set_option maxHeartbeats 1000000 in
theorem b6In {i : I6} {vc : Value} (hM : M6 A0 A1 A2 A3' A4 v n Hb fr K) (g : Hb.get n = some (.cells true false 6 (cI6 vc i) 30)) (hi : rgI6 i) (hC : Sl Hb 2 vc (CC i.cs)) (hl : i.cs.length ≤ 1000)
    (hq : ∀ fr K, M6 A0 A1 A2 A3' A4 v n Hb fr K → Q .normal fr K) : W Go.Proofs.Try.prog 0 (cpre 3 (cpost 2 f6.body)) Q fr K := by
  obtain ⟨x12, x13, x14, x15, x16, x17, x18, x19, x20, x21, x22, x23, x24, rfl, k⟩ := hM
  have g1 := k.at_ g
  have l6 : (cI6 vc i).length = 6 := rfl
  simp (disch := first | assumption | omega | (simp only [LN] <;> omega) | (simp (disch := first | assumption | omega | (simp only [LN] <;> omega)) only [row_alloc, row_set]; assumption)) only [f6, cpre, cpost, W_block, P3, ↓reduceIte, reduceAdd, reduceEqDiff, reduceCtorEq, initFr, reduceLT, clsA, reduceLeDiff, reduceMul, reduceSub, reduceIte, g1]
  refine callK (t44 i hi (hC.keeps k) (by omega)) ?_
  rintro w K1 p1
  have fl := fI6_len (x := i)
  simp (disch := first | assumption | omega | (simp only [LN] <;> omega) | (simp (disch := first | assumption | omega | (simp only [LN] <;> omega)) only [row_alloc, row_set]; assumption)) only [W_block, P3, ↓reduceIte, reduceAdd, reduceEqDiff, reduceCtorEq, initFr, reduceLT, clsA, reduceLeDiff, reduceMul, reduceSub, reduceIte]
  refine callK (e12 p1.bq (by omega)) ?_
  rintro _ K2 ⟨vd, rfl, k2, fd, ad⟩
  obtain ⟨y, hy⟩ : ∃ y, y = (geI6 (fI6 i)).getD I60 := ⟨_, rfl⟩
  rw [← hy] at ad ⊢
  have h1c := (apSl ad).one
  have o6 : (cI6 vd y).all Value.oneCell' = true := by simp only [cI6, List.all_cons, List.all_nil, h1c]; rfl
  have l62 : (cI6 vd y).length = 6 := rfl
  have his := p1.bs.sl.is
  have hlen := p1.bs.sl.len
  rw [List.length_map] at hlen
  have kk := (k.trans p1.2.1).trans k2
  by_cases hok : fI6 i = []
  · rw [hok] at hlen
    simp (disch := first | assumption | omega | (simp only [LN] <;> omega) | (simp (disch := first | assumption | omega | (simp only [LN] <;> omega)) only [row_alloc, row_set]; assumption)) only [W_block, P3, ↓reduceIte, reduceAdd, reduceEqDiff, reduceCtorEq, initFr, reduceLT, clsA, reduceLeDiff, reduceMul, reduceSub, reduceIte, GotV, cI6L, o6, hlen, List.length_nil]
    exact hq _ _ ⟨_, _, _, _, _, _, _, _, _, _, _, _, _, rfl, kk.alloc _⟩
  · have hlt : 0 < (fI6 i).length := List.length_pos_iff.2 hok
    have hg := geI6_of hi hok rfl
    have hki := ki_i6 hg
    rw [hg] at hy ⊢
    obtain rfl : y = i := hy
    rw [show er (some y).isSome = 0 from rfl]
    simp (disch := first | assumption | omega | (simp only [LN] <;> omega) | (simp (disch := first | assumption | omega | (simp only [LN] <;> omega)) only [row_alloc, row_set]; assumption)) only [W_block, P3, ↓reduceIte, reduceAdd, reduceEqDiff, reduceCtorEq, initFr, reduceLT, clsA, reduceLeDiff, reduceMul, reduceSub, reduceIte, GotV, cI6L, o6, hlen]
    have k3 := (Keeps.refl K2).alloc (.cells true false 6 (cI6 vd y) 30)
    have g2 := (kk.trans k3).at_ g
    have hc1 := (hC.keeps (kk.trans k3))
    have hd1 := (apSl ad).keeps k3
    have g3 := AHeap.get_alloc_new K2 (.cells true false 6 (cI6 vd y) 30)
    have b3 := p1.bq.keeps (k2.trans k3)
    have lt3 := AHeap.get_lt g
    have lk := kk.n
    have kk3 := kk.trans k3
    obtain ⟨K3, hK3⟩ : ∃ X, X = K2.alloc (.cells true false 6 (cI6 vd y) 30) := ⟨_, rfl⟩
    rw [← hK3] at g2 g3 hc1 hd1 b3 kk3 ⊢
    refine callP (t15 y h1c) ?_
    simp (disch := first | assumption | omega | (simp only [LN] <;> omega) | (simp (disch := first | assumption | omega | (simp only [LN] <;> omega)) only [row_alloc, row_set]; assumption)) only [W_block, P3, ↓reduceIte, reduceAdd, reduceEqDiff, reduceCtorEq, initFr, reduceLT, clsA, reduceLeDiff, reduceMul, reduceSub, reduceIte, g2, g3]
    refine ⟨AHeap.get_lt g2, ?_⟩
    refine callP (t15 y (hC.one)) ?_
    simp (disch := first | assumption | omega | (simp only [LN] <;> omega) | (simp (disch := first | assumption | omega | (simp only [LN] <;> omega)) only [row_alloc, row_set]; assumption)) only [W_block, P3, ↓reduceIte, reduceAdd, reduceEqDiff, reduceCtorEq, initFr, reduceLT, clsA, reduceLeDiff, reduceMul, reduceSub, reduceIte]
    refine callP (t14 y y hd1 hc1 (by omega) (by omega)) ?_
    simp (disch := first | assumption | omega | (simp only [LN] <;> omega) | (simp (disch := first | assumption | omega | (simp only [LN] <;> omega)) only [row_alloc, row_set]; assumption)) only [W_block, P3, ↓reduceIte, reduceAdd, reduceEqDiff, reduceCtorEq, initFr, reduceLT, clsA, reduceLeDiff, reduceMul, reduceSub, reduceIte, sI6_refl]
    refine callP (t28 b3 (by omega)) ?_
    rw [hki]
    simp (disch := first | assumption | omega | (simp only [LN] <;> omega) | (simp (disch := first | assumption | omega | (simp only [LN] <;> omega)) only [row_alloc, row_set]; assumption)) only [W_block, P3, ↓reduceIte, reduceAdd, reduceEqDiff, reduceCtorEq, initFr, reduceLT, clsA, reduceLeDiff, reduceMul, reduceSub, reduceIte]
    exact hq _ _ ⟨_, _, _, _, _, _, _, _, _, _, _, _, _, rfl, kk3⟩
--flat{
set_option maxHeartbeats 1000000 in
theorem b6Ou {x : Ou} (hM : M6 A0 A1 A2 A3' A4 v n Hb fr K) (g : Hb.get (n + 1) = some (.cells true false 5 (cOu x) 42)) (hx : rgOu x)
    (hq : ∀ fr K, M6 A0 A1 A2 A3' A4 v n Hb fr K → Q .normal fr K) : W Go.Proofs.Try.prog 0 (cpre 3 (cpost 5 f6.body)) Q fr K := by
  obtain ⟨x12, x13, x14, x15, x16, x17, x18, x19, x20, x21, x22, x23, x24, rfl, k⟩ := hM
  have g1 := k.at_ g
  have ltb := AHeap.get_lt g
  have hxl : (cOu x).length = 5 := rfl
  simp (disch := first | assumption | omega | (simp only [LN] <;> omega) | (simp (disch := first | assumption | omega | (simp only [LN] <;> omega)) only [row_alloc, row_set]; assumption)) only [f6, cpre, cpost, W_block, P3, ↓reduceIte, reduceAdd, reduceEqDiff, reduceCtorEq, initFr, reduceLT, clsA, reduceLeDiff, reduceMul, reduceSub, reduceIte, g1]
  refine callK (t45 x hx _) ?_
  rintro w K1 p1
  have fl := fOu_len (x := x)
  simp (disch := first | assumption | omega | (simp only [LN] <;> omega) | (simp (disch := first | assumption | omega | (simp only [LN] <;> omega)) only [row_alloc, row_set]; assumption)) only [W_block, P3, ↓reduceIte, reduceAdd, reduceEqDiff, reduceCtorEq, initFr, reduceLT, clsA, reduceLeDiff, reduceMul, reduceSub, reduceIte]
  refine callP (e16 p1.bq (by omega)) ?_
  have his := p1.bs.sl.is
  have hlen := p1.bs.sl.len
  rw [List.length_map] at hlen
  have kk := k.trans p1.2.1
  have lk := kk.n
  obtain ⟨y, hy⟩ : ∃ y, y = (geOu (fOu x)).getD Ou0 := ⟨_, rfl⟩
  rw [← hy]
  have hyl : (cOu y).length = 5 := rfl
  have hyo : (cOu y).all Value.oneCell' = true := rfl
  have kf := kk.alloc (.cells true false 5 (cOu y) 42)
  have g2 := kk.at_ g
  have b3 := p1.bq.keeps ((Keeps.refl K1).alloc (.cells true false 5 (cOu y) 42))
  by_cases hok : fOu x = []
  · rw [hok] at hlen
    simp (disch := first | assumption | omega | (simp only [LN] <;> omega) | (simp (disch := first | assumption | omega | (simp only [LN] <;> omega)) only [row_alloc, row_set]; assumption)) only [W_block, P3, ↓reduceIte, reduceAdd, reduceEqDiff, reduceCtorEq, initFr, reduceLT, clsA, reduceLeDiff, reduceMul, reduceSub, reduceIte, GotV, hyl, hyo, hlen, List.length_nil]
    exact hq _ _ ⟨_, _, _, _, _, _, _, _, _, _, _, _, _, rfl, kf⟩
  have hlt : 0 < (fOu x).length := List.length_pos_iff.2 hok
  have hg := geOu_of hx hok rfl
  have hki := ki_ou hg
  rw [hg] at hy ⊢
  obtain rfl : y = x := hy
  rw [show er (some y).isSome = 0 from rfl]
  simp (disch := first | assumption | omega | (simp only [LN] <;> omega) | (simp (disch := first | assumption | omega | (simp only [LN] <;> omega)) only [row_alloc, row_set]; assumption)) only [W_block, P3, ↓reduceIte, reduceAdd, reduceEqDiff, reduceCtorEq, initFr, reduceLT, clsA, reduceLeDiff, reduceMul, reduceSub, reduceIte, GotV, hyl, hyo, hlen, g2, a_eqsN (eqOu y)]
  refine callP (t28 b3 (by omega)) ?_
  rw [hki]
  simp (disch := first | assumption | omega | (simp only [LN] <;> omega) | (simp (disch := first | assumption | omega | (simp only [LN] <;> omega)) only [row_alloc, row_set]; assumption)) only [W_block, P3, ↓reduceIte, reduceAdd, reduceEqDiff, reduceCtorEq, initFr, reduceLT, clsA, reduceLeDiff, reduceMul, reduceSub, reduceIte]
  exact hq _ _ ⟨_, _, _, _, _, _, _, _, _, _, _, _, _, rfl, kf⟩
set_option maxHeartbeats 1000000 in
theorem b6St {x : St} (hM : M6 A0 A1 A2 A3' A4 v n Hb fr K) (g : Hb.get (n + 1 + 1) = some (.cells true false 68 (cSt x) 51)) (hx : rgSt x)
    (hq : ∀ fr K, M6 A0 A1 A2 A3' A4 v n Hb fr K → Q .normal fr K) : W Go.Proofs.Try.prog 0 (cpre 3 (cpost 8 f6.body)) Q fr K := by
  obtain ⟨x12, x13, x14, x15, x16, x17, x18, x19, x20, x21, x22, x23, x24, rfl, k⟩ := hM
  have g1 := k.at_ g
  have ltb := AHeap.get_lt g
  have hxl : (cSt x).length = 68 := cSt_len hx.ht
  have oz3 : Z68.all Value.oneCell' = true := rfl
  have lz3 : Z68.length = 68 := rfl
  simp (disch := first | assumption | omega | (simp only [LN] <;> omega) | (simp (disch := first | assumption | omega | (simp only [LN] <;> omega)) only [row_alloc, row_set]; assumption)) only [f6, cpre, cpost, W_block, P3, ↓reduceIte, reduceAdd, reduceEqDiff, reduceCtorEq, initFr, reduceLT, clsA, reduceLeDiff, reduceMul, reduceSub, reduceIte, g1]
  refine callK (t46 x hx _) ?_
  rintro w K1 p1
  have fl := fSt_len hx.ht
  simp (disch := first | assumption | omega | (simp only [LN] <;> omega) | (simp (disch := first | assumption | omega | (simp only [LN] <;> omega)) only [row_alloc, row_set]; assumption)) only [W_block, P3, ↓reduceIte, reduceAdd, reduceEqDiff, reduceCtorEq, initFr, reduceLT, clsA, reduceLeDiff, reduceMul, reduceSub, reduceIte]
  refine callP (e19 p1.bq (by omega)) ?_
  have his := p1.bs.sl.is
  have hlen := p1.bs.sl.len
  rw [List.length_map] at hlen
  have kk := k.trans p1.2.1
  have lk := kk.n
  have lst := gotSt_len (fSt x)
  obtain ⟨y, hy⟩ : ∃ y, y = (geSt (fSt x)).getD St0 := ⟨_, rfl⟩
  rw [← hy] at lst ⊢
  have hyl : (cSt y).length = 68 := cSt_len lst
  have hyo : (cSt y).all Value.oneCell' = true := cSt_one y
  have kf := kk.alloc (.cells true false 68 (cSt y) 51)
  have g2 := kk.at_ g
  have b3 := p1.bq.keeps ((Keeps.refl K1).alloc (.cells true false 68 (cSt y) 51))
  have hg := geSt_of hx rfl
  have hki := ki_st hg
  rw [hg] at hy ⊢
  obtain rfl : y = x := hy
  rw [show er (some y).isSome = 0 from rfl]
  simp (disch := first | assumption | omega | (simp only [LN] <;> omega) | (simp (disch := first | assumption | omega | (simp only [LN] <;> omega)) only [row_alloc, row_set]; assumption)) only [W_block, P3, ↓reduceIte, reduceAdd, reduceEqDiff, reduceCtorEq, initFr, reduceLT, clsA, reduceLeDiff, reduceMul, reduceSub, reduceIte, GotV, hyl, hyo, hlen, oz3, g2, a_eqsN (eqSt hx.ht)]
  refine callP (t28 b3 (by omega)) ?_
  rw [hki]
  simp (disch := first | assumption | omega | (simp only [LN] <;> omega) | (simp (disch := first | assumption | omega | (simp only [LN] <;> omega)) only [row_alloc, row_set]; assumption)) only [W_block, P3, ↓reduceIte, reduceAdd, reduceEqDiff, reduceCtorEq, initFr, reduceLT, clsA, reduceLeDiff, reduceMul, reduceSub, reduceIte]
  exact hq _ _ ⟨_, _, _, _, _, _, _, _, _, _, _, _, _, rfl, kf⟩
set_option maxHeartbeats 1000000 in
theorem b6Lo {x : Lo} (hM : M6 A0 A1 A2 A3' A4 v n Hb fr K) (g : Hb.get (n + 1 + 1 + 1) = some (.cells true false 70 (cLo x) 57)) (hx : rgSt x.s)
    (hq : ∀ fr K, M6 A0 A1 A2 A3' A4 v n Hb fr K → Q .normal fr K) : W Go.Proofs.Try.prog 0 (cpre 3 (cpost 11 f6.body)) Q fr K := by
  obtain ⟨x12, x13, x14, x15, x16, x17, x18, x19, x20, x21, x22, x23, x24, rfl, k⟩ := hM
  have g1 := k.at_ g
  have ltb := AHeap.get_lt g
  have hxl : (cLo x).length = 70 := cLo_len hx.ht
  have oz3 : Z70.all Value.oneCell' = true := rfl
  have lz3 : Z70.length = 70 := rfl
  simp (disch := first | assumption | omega | (simp only [LN] <;> omega) | (simp (disch := first | assumption | omega | (simp only [LN] <;> omega)) only [row_alloc, row_set]; assumption)) only [f6, cpre, cpost, W_block, P3, ↓reduceIte, reduceAdd, reduceEqDiff, reduceCtorEq, initFr, reduceLT, clsA, reduceLeDiff, reduceMul, reduceSub, reduceIte, g1]
  refine callK (t47 x hx _) ?_
  rintro w K1 p1
  have fl := fLo_len hx.ht
  simp (disch := first | assumption | omega | (simp only [LN] <;> omega) | (simp (disch := first | assumption | omega | (simp only [LN] <;> omega)) only [row_alloc, row_set]; assumption)) only [W_block, P3, ↓reduceIte, reduceAdd, reduceEqDiff, reduceCtorEq, initFr, reduceLT, clsA, reduceLeDiff, reduceMul, reduceSub, reduceIte]
  refine callP (e21 p1.bq (by omega)) ?_
  have his := p1.bs.sl.is
  have hlen := p1.bs.sl.len
  rw [List.length_map] at hlen
  have kk := k.trans p1.2.1
  have lk := kk.n
  have lst := gotLo_len (fLo x)
  obtain ⟨y, hy⟩ : ∃ y, y = (geLo (fLo x)).getD Lo0 := ⟨_, rfl⟩
  rw [← hy] at lst ⊢
  have hyl : (cLo y).length = 70 := cLo_len lst
  have hyo : (cLo y).all Value.oneCell' = true := cLo_one y
  have kf := kk.alloc (.cells true false 70 (cLo y) 57)
  have g2 := kk.at_ g
  have b3 := p1.bq.keeps ((Keeps.refl K1).alloc (.cells true false 70 (cLo y) 57))
  by_cases hok : fLo x = []
  · rw [hok] at hlen
    simp (disch := first | assumption | omega | (simp only [LN] <;> omega) | (simp (disch := first | assumption | omega | (simp only [LN] <;> omega)) only [row_alloc, row_set]; assumption)) only [W_block, P3, ↓reduceIte, reduceAdd, reduceEqDiff, reduceCtorEq, initFr, reduceLT, clsA, reduceLeDiff, reduceMul, reduceSub, reduceIte, GotV, hyl, hyo, hlen, List.length_nil, oz3]
    exact hq _ _ ⟨_, _, _, _, _, _, _, _, _, _, _, _, _, rfl, kf⟩
  have hlt : 0 < (fLo x).length := List.length_pos_iff.2 hok
  have hg := geLo_of hx hok rfl
  have hki := ki_lo hg
  rw [hg] at hy ⊢
  obtain rfl : y = x := hy
  rw [show er (some y).isSome = 0 from rfl]
  simp (disch := first | assumption | omega | (simp only [LN] <;> omega) | (simp (disch := first | assumption | omega | (simp only [LN] <;> omega)) only [row_alloc, row_set]; assumption)) only [W_block, P3, ↓reduceIte, reduceAdd, reduceEqDiff, reduceCtorEq, initFr, reduceLT, clsA, reduceLeDiff, reduceMul, reduceSub, reduceIte, GotV, hyl, hyo, hlen, oz3, g2, a_eqsN (eqLo hx.ht)]
  refine callP (t28 b3 (by omega)) ?_
  rw [hki]
  simp (disch := first | assumption | omega | (simp only [LN] <;> omega) | (simp (disch := first | assumption | omega | (simp only [LN] <;> omega)) only [row_alloc, row_set]; assumption)) only [W_block, P3, ↓reduceIte, reduceAdd, reduceEqDiff, reduceCtorEq, initFr, reduceLT, clsA, reduceLeDiff, reduceMul, reduceSub, reduceIte]
  exact hq _ _ ⟨_, _, _, _, _, _, _, _, _, _, _, _, _, rfl, kf⟩
--}flat
set_option maxHeartbeats 1000000 in
theorem b6Li {x : Li} {vb : Value} (hM : M6 A0 A1 A2 A3' A4 v n Hb fr K) (g : Hb.get (n + 1 + 1 + 1 + 1) = some (.cells true false 5 (cLi vb x) 65)) (hx : rgLi x) (hB : BS Hb vb x.B) (hl : x.B.length ≤ 5000)
    (hq : ∀ fr K, M6 A0 A1 A2 A3' A4 v n Hb fr K → Q .normal fr K) : W Go.Proofs.Try.prog 0 (cpre 3 (cpost 14 f6.body)) Q fr K := by
  obtain ⟨x12, x13, x14, x15, x16, x17, x18, x19, x20, x21, x22, x23, x24, rfl, k⟩ := hM
  have g1 := k.at_ g
  have ltb := AHeap.get_lt g
  have hxl : (cLi vb x).length = 5 := rfl
  simp (disch := first | assumption | omega | (simp only [LN] <;> omega) | (simp (disch := first | assumption | omega | (simp only [LN] <;> omega)) only [row_alloc, row_set]; assumption)) only [f6, cpre, cpost, W_block, P3, ↓reduceIte, reduceAdd, reduceEqDiff, reduceCtorEq, initFr, reduceLT, clsA, reduceLeDiff, reduceMul, reduceSub, reduceIte, g1]
  refine callK (t36 x hx (hB.keeps k) (by omega)) ?_
  rintro w K1 p1
  have fl := fLi_len (x := x)
  simp (disch := first | assumption | omega | (simp only [LN] <;> omega) | (simp (disch := first | assumption | omega | (simp only [LN] <;> omega)) only [row_alloc, row_set]; assumption)) only [W_block, P3, ↓reduceIte, reduceAdd, reduceEqDiff, reduceCtorEq, initFr, reduceLT, clsA, reduceLeDiff, reduceMul, reduceSub, reduceIte]
  refine callK (e24 p1.bq (by omega)) ?_
  rintro _ K2 ⟨vd, rfl, k2, fd, ad⟩
  obtain ⟨y, hy⟩ : ∃ y, y = (geLi (fLi x)).getD Li0 := ⟨_, rfl⟩
  rw [← hy] at ad ⊢
  have h1b := ad.bs.sl.one
  have om : (cLi vd y).all Value.oneCell' = true := by simp only [cLi, List.all_cons, List.all_nil, h1b]; rfl
  have lm : (cLi vd y).length = 5 := rfl
  have his := p1.bs.sl.is
  have hlen := p1.bs.sl.len
  rw [List.length_map] at hlen
  have kk := (k.trans p1.2.1).trans k2
  have lk := kk.n
  have kf := kk.alloc (.cells true false 5 (cLi vd y) 65)
  by_cases hok : fLi x = []
  · rw [hok] at hlen
    simp (disch := first | assumption | omega | (simp only [LN] <;> omega) | (simp (disch := first | assumption | omega | (simp only [LN] <;> omega)) only [row_alloc, row_set]; assumption)) only [W_block, P3, ↓reduceIte, reduceAdd, reduceEqDiff, reduceCtorEq, initFr, reduceLT, clsA, reduceLeDiff, reduceMul, reduceSub, reduceIte, GotV, lm, om, hlen, List.length_nil]
    exact hq _ _ ⟨_, _, _, _, _, _, _, _, _, _, _, _, _, rfl, kf⟩
  have hlt : 0 < (fLi x).length := List.length_pos_iff.2 hok
  have hg := geLi_of hx hok rfl
  have hki := ki_li hg
  rw [hg] at hy ⊢
  obtain rfl : y = x := hy
  rw [show er (some y).isSome = 0 from rfl]
  have g2 := kf.at_ g
  have b3 := p1.bq.keeps (k2.alloc (.cells true false 5 (cLi vd y) 65))
  have g3 := AHeap.get_alloc_new K2 (.cells true false 5 (cLi vd y) 65)
  have bd := ad.bs.keeps ((Keeps.refl K2).alloc (.cells true false 5 (cLi vd y) 65))
  have bx := hB.keeps kf
  simp (disch := first | assumption | omega | (simp only [LN] <;> omega) | (simp (disch := first | assumption | omega | (simp only [LN] <;> omega)) only [row_alloc, row_set]; assumption)) only [W_block, P3, ↓reduceIte, reduceAdd, reduceEqDiff, reduceCtorEq, initFr, reduceLT, clsA, reduceLeDiff, reduceMul, reduceSub, reduceIte, GotV, lm, om, hlen]
  obtain ⟨K3, hK3⟩ : ∃ X, X = K2.alloc (.cells true false 5 (cLi vd y) 65) := ⟨_, rfl⟩
  rw [← hK3] at bd bx g2 g3 b3 kf ⊢
  refine callP (t26 y bd) ?_
  simp (disch := first | assumption | omega | (simp only [LN] <;> omega) | (simp (disch := first | assumption | omega | (simp only [LN] <;> omega)) only [row_alloc, row_set]; assumption)) only [W_block, P3, ↓reduceIte, reduceAdd, reduceEqDiff, reduceCtorEq, initFr, reduceLT, clsA, reduceLeDiff, reduceMul, reduceSub, reduceIte, g2, g3]
  refine ⟨AHeap.get_lt g2, ?_⟩
  refine callP (t26 y bx) ?_
  simp (disch := first | assumption | omega | (simp only [LN] <;> omega) | (simp (disch := first | assumption | omega | (simp only [LN] <;> omega)) only [row_alloc, row_set]; assumption)) only [W_block, P3, ↓reduceIte, reduceAdd, reduceEqDiff, reduceCtorEq, initFr, reduceLT, clsA, reduceLeDiff, reduceMul, reduceSub, reduceIte, a_eqsN (eqLs y)]
  refine callP (t28 b3 (by omega)) ?_
  rw [hki]
  simp (disch := first | assumption | omega | (simp only [LN] <;> omega) | (simp (disch := first | assumption | omega | (simp only [LN] <;> omega)) only [row_alloc, row_set]; assumption)) only [W_block, P3, ↓reduceIte, reduceAdd, reduceEqDiff, reduceCtorEq, initFr, reduceLT, clsA, reduceLeDiff, reduceMul, reduceSub, reduceIte]
  exact hq _ _ ⟨_, _, _, _, _, _, _, _, _, _, _, _, _, rfl, kf⟩
end
set_option maxHeartbeats 1000000 in
theorem t6 {H : AHeap} {i : I6} {o : Ou} {s : St} {g : Lo} {l : Li} {vc vb v : Value} {b : List UInt8} (hi : rgI6 i) (hC : Sl H 2 vc (CC i.cs)) (ho : rgOu o) (hs : rgSt s) (hg : rgSt g.s) (hli : rgLi l) (hB : BS H vb l.B) (hb : BQ H v b) :
    ∃ w H', ARun Go.Proofs.Try.prog 0 6 [.agg (cI6 vc i).toArray, .agg (cOu o).toArray, .agg (cSt s).toArray, .agg (cLo g).toArray, .agg (cLi vb l).toArray, v] H w H' ∧ w = .bool true ∧ H' = H := by
  obtain ⟨w, H', a, rfl, k⟩ : ∃ w H', ARun Go.Proofs.Try.prog 0 6 [.agg (cI6 vc i).toArray, .agg (cOu o).toArray, .agg (cSt s).toArray, .agg (cLo g).toArray, .agg (cLi vb l).toArray, v] H w H' ∧ w = .bool true ∧ Keeps H H' := by
    refine walk2 f6_ok f6_n ?_
    intro Q hq1 hq2
    have hcs := hC.one
    have hbs := hB.sl.one
    have o6 : (cI6 vc i).all Value.oneCell' = true := by simp only [cI6, List.all_cons, List.all_nil, hcs]; rfl
    have om : (cLi vb l).all Value.oneCell' = true := by simp only [cLi, List.all_cons, List.all_nil, hbs]; rfl
    have os := cSt_one s
    have og := cLo_one g
    have lI : (cI6 vc i).length = 6 := rfl
    have lL : (cLi vb l).length = 5 := rfl
    obtain ⟨Hb, hHb⟩ : ∃ X, X = ((((H.alloc (.cells true false 6 (cI6 vc i) 30)).alloc (.cells true false 5 (cOu o) 42)).alloc (.cells true false 68 (cSt s) 51)).alloc (.cells true false 70 (cLo g) 57)).alloc (.cells true false 5 (cLi vb l) 65) := ⟨_, rfl⟩
    have kb : Keeps H Hb := by rw [hHb]; exact (((((Keeps.refl H).alloc _).alloc _).alloc _).alloc _).alloc _
    have g0 : Hb.get H.n = some (.cells true false 6 (cI6 vc i) 30) := by rw [hHb]; simp (disch := first | assumption | omega | (simp only [LN] <;> omega) | (simp (disch := first | assumption | omega | (simp only [LN] <;> omega)) only [row_alloc, row_set]; assumption)) only [W_block, P3, ↓reduceIte, reduceAdd, reduceEqDiff, reduceCtorEq, initFr, reduceLT, clsA, reduceLeDiff, reduceMul, reduceSub, reduceIte]
    have g1 : Hb.get (H.n + 1) = some (.cells true false 5 (cOu o) 42) := by rw [hHb]; simp (disch := first | assumption | omega | (simp only [LN] <;> omega) | (simp (disch := first | assumption | omega | (simp only [LN] <;> omega)) only [row_alloc, row_set]; assumption)) only [W_block, P3, ↓reduceIte, reduceAdd, reduceEqDiff, reduceCtorEq, initFr, reduceLT, clsA, reduceLeDiff, reduceMul, reduceSub, reduceIte]
    have g2 : Hb.get (H.n + 1 + 1) = some (.cells true false 68 (cSt s) 51) := by rw [hHb]; simp (disch := first | assumption | omega | (simp only [LN] <;> omega) | (simp (disch := first | assumption | omega | (simp only [LN] <;> omega)) only [row_alloc, row_set]; assumption)) only [W_block, P3, ↓reduceIte, reduceAdd, reduceEqDiff, reduceCtorEq, initFr, reduceLT, clsA, reduceLeDiff, reduceMul, reduceSub, reduceIte]
    have g3 : Hb.get (H.n + 1 + 1 + 1) = some (.cells true false 70 (cLo g) 57) := by rw [hHb]; simp (disch := first | assumption | omega | (simp only [LN] <;> omega) | (simp (disch := first | assumption | omega | (simp only [LN] <;> omega)) only [row_alloc, row_set]; assumption)) only [W_block, P3, ↓reduceIte, reduceAdd, reduceEqDiff, reduceCtorEq, initFr, reduceLT, clsA, reduceLeDiff, reduceMul, reduceSub, reduceIte]
    have g4 : Hb.get (H.n + 1 + 1 + 1 + 1) = some (.cells true false 5 (cLi vb l) 65) := by rw [hHb]; simp (disch := first | assumption | omega | (simp only [LN] <;> omega) | (simp (disch := first | assumption | omega | (simp only [LN] <;> omega)) only [row_alloc, row_set]; assumption)) only [W_block, P3, ↓reduceIte, reduceAdd, reduceEqDiff, reduceCtorEq, initFr, reduceLT, clsA, reduceLeDiff, reduceMul, reduceSub, reduceIte]
    refine W_part 1 (M6 (.agg (cI6 vc i).toArray) (.agg (cOu o).toArray) (.agg (cSt s).toArray) (.agg (cLo g).toArray) (.agg (cLi vb l).toArray) v H.n Hb) (by kernel_rfl) ?_ ?_
    · intro Q' h1 _ _
      simp (disch := first | assumption | omega | (simp only [LN] <;> omega) | (simp (disch := first | assumption | omega | (simp only [LN] <;> omega)) only [row_alloc, row_set]; assumption)) only [f6, cpre, cpost, W_block, P3, ↓reduceIte, reduceAdd, reduceEqDiff, reduceCtorEq, initFr, reduceLT, clsA, reduceLeDiff, reduceMul, reduceSub, reduceIte, o6, om, os, og, cOuO]
      exact h1 _ _ ⟨_, _, _, _, _, _, _, _, _, _, _, _, _, rfl, by rw [hHb]; exact Keeps.refl _⟩
    rintro fr K hM
    by_cases hf : i.cs.length ≤ 1000 ∧ l.B.length ≤ 5000 ∧ b.length ≤ 3000
    case neg =>
      obtain ⟨x12, x13, x14, x15, x16, x17, x18, x19, x20, x21, x22, x23, x24, rfl, k⟩ := hM
      have hlen := (hb.keeps (kb.trans k)).bs.sl.len
      have his := (hb.keeps (kb.trans k)).bs.sl.is
      rw [List.length_map] at hlen
      simp (disch := first | assumption | omega | (simp only [LN] <;> omega) | (simp (disch := first | assumption | omega | (simp only [LN] <;> omega)) only [row_alloc, row_set]; assumption)) only [f6, cpre, cpost, W_block, P3, ↓reduceIte, reduceAdd, reduceEqDiff, reduceCtorEq, initFr, reduceLT, clsA, reduceLeDiff, reduceMul, reduceSub, reduceIte, k.at_ g0, k.at_ g4]
      refine callP (t43 i l (hC.keeps (kb.trans k)) (hB.keeps (kb.trans k))) ?_
      by_cases h2 : i.cs.length ≤ 1000 ∧ l.B.length ≤ 5000
      · have h3 : 3000 < b.length := by omega
        simp only [h2, and_self, decide_true]
        simp (disch := first | assumption | omega | (simp only [LN] <;> omega) | (simp (disch := first | assumption | omega | (simp only [LN] <;> omega)) only [row_alloc, row_set]; assumption)) only [W_block, P3, ↓reduceIte, reduceAdd, reduceEqDiff, reduceCtorEq, initFr, reduceLT, clsA, reduceLeDiff, reduceMul, reduceSub, reduceIte, hlen]
        refine callP (t11 _) ?_
        simp (disch := first | assumption | omega | (simp only [LN] <;> omega) | (simp (disch := first | assumption | omega | (simp only [LN] <;> omega)) only [row_alloc, row_set]; assumption)) only [W_block, P3, ↓reduceIte, reduceAdd, reduceEqDiff, reduceCtorEq, initFr, reduceLT, clsA, reduceLeDiff, reduceMul, reduceSub, reduceIte]
        exact hq2 _ _ ⟨_, rfl, rfl, kb.trans k⟩
      · simp only [h2, decide_false]
        simp (disch := first | assumption | omega | (simp only [LN] <;> omega) | (simp (disch := first | assumption | omega | (simp only [LN] <;> omega)) only [row_alloc, row_set]; assumption)) only [W_block, P3, ↓reduceIte, reduceAdd, reduceEqDiff, reduceCtorEq, initFr, reduceLT, clsA, reduceLeDiff, reduceMul, reduceSub, reduceIte, hlen]
        refine callP (t11 _) ?_
        simp (disch := first | assumption | omega | (simp only [LN] <;> omega) | (simp (disch := first | assumption | omega | (simp only [LN] <;> omega)) only [row_alloc, row_set]; assumption)) only [W_block, P3, ↓reduceIte, reduceAdd, reduceEqDiff, reduceCtorEq, initFr, reduceLT, clsA, reduceLeDiff, reduceMul, reduceSub, reduceIte]
        exact hq2 _ _ ⟨_, rfl, rfl, kb.trans k⟩
    obtain ⟨hf1, hf2, hf3⟩ := hf
    refine W_part 1 (M6 (.agg (cI6 vc i).toArray) (.agg (cOu o).toArray) (.agg (cSt s).toArray) (.agg (cLo g).toArray) (.agg (cLi vb l).toArray) v H.n Hb) (by kernel_rfl) ?_ ?_
    · intro Q' h1 _ _
      obtain ⟨x12, x13, x14, x15, x16, x17, x18, x19, x20, x21, x22, x23, x24, rfl, k⟩ := hM
      have hlen := (hb.keeps (kb.trans k)).bs.sl.len
      have his := (hb.keeps (kb.trans k)).bs.sl.is
      rw [List.length_map] at hlen
      simp (disch := first | assumption | omega | (simp only [LN] <;> omega) | (simp (disch := first | assumption | omega | (simp only [LN] <;> omega)) only [row_alloc, row_set]; assumption)) only [f6, cpre, cpost, W_block, P3, ↓reduceIte, reduceAdd, reduceEqDiff, reduceCtorEq, initFr, reduceLT, clsA, reduceLeDiff, reduceMul, reduceSub, reduceIte, k.at_ g0, k.at_ g4]
      refine callP (t43 i l (hC.keeps (kb.trans k)) (hB.keeps (kb.trans k))) ?_
      simp only [hf1, hf2, and_self, decide_true]
      simp (disch := first | assumption | omega | (simp only [LN] <;> omega) | (simp (disch := first | assumption | omega | (simp only [LN] <;> omega)) only [row_alloc, row_set]; assumption)) only [W_block, P3, ↓reduceIte, reduceAdd, reduceEqDiff, reduceCtorEq, initFr, reduceLT, clsA, reduceLeDiff, reduceMul, reduceSub, reduceIte, hlen]
      exact h1 _ _ ⟨_, _, _, _, _, _, _, _, _, _, _, _, _, rfl, k⟩
    clear hM
    rintro fr K hM
    refine W_part 3 (M6 (.agg (cI6 vc i).toArray) (.agg (cOu o).toArray) (.agg (cSt s).toArray) (.agg (cLo g).toArray) (.agg (cLi vb l).toArray) v H.n Hb) (by kernel_rfl) (fun Q' h1 _ _ => b6In hM g0 hi (hC.keeps kb) hf1 h1) ?_
    clear hM; rintro fr K hM
    refine W_part 3 (M6 (.agg (cI6 vc i).toArray) (.agg (cOu o).toArray) (.agg (cSt s).toArray) (.agg (cLo g).toArray) (.agg (cLi vb l).toArray) v H.n Hb) (by kernel_rfl) (fun Q' h1 _ _ => b6Ou hM g1 ho h1) ?_
    clear hM; rintro fr K hM
    refine W_part 3 (M6 (.agg (cI6 vc i).toArray) (.agg (cOu o).toArray) (.agg (cSt s).toArray) (.agg (cLo g).toArray) (.agg (cLi vb l).toArray) v H.n Hb) (by kernel_rfl) (fun Q' h1 _ _ => b6St hM g2 hs h1) ?_
    clear hM; rintro fr K hM
    refine W_part 3 (M6 (.agg (cI6 vc i).toArray) (.agg (cOu o).toArray) (.agg (cSt s).toArray) (.agg (cLo g).toArray) (.agg (cLi vb l).toArray) v H.n Hb) (by kernel_rfl) (fun Q' h1 _ _ => b6Lo hM g3 hg h1) ?_
    clear hM; rintro fr K hM
    refine W_part 3 (M6 (.agg (cI6 vc i).toArray) (.agg (cOu o).toArray) (.agg (cSt s).toArray) (.agg (cLo g).toArray) (.agg (cLi vb l).toArray) v H.n Hb) (by kernel_rfl) (fun Q' h1 _ _ => b6Li hM g4 hli (hB.keeps kb) hf2 h1) ?_
    clear hM; rintro fr K hM
    obtain ⟨x12, x13, x14, x15, x16, x17, x18, x19, x20, x21, x22, x23, x24, rfl, k⟩ := hM
    simp (disch := first | assumption | omega | (simp only [LN] <;> omega) | (simp (disch := first | assumption | omega | (simp only [LN] <;> omega)) only [row_alloc, row_set]; assumption)) only [f6, cpre, cpost, W_block, P3, ↓reduceIte, reduceAdd, reduceEqDiff, reduceCtorEq, initFr, reduceLT, clsA, reduceLeDiff, reduceMul, reduceSub, reduceIte]
    refine callP (t53 (hb.keeps (kb.trans k)) (by omega)) ?_
    simp (disch := first | assumption | omega | (simp only [LN] <;> omega) | (simp (disch := first | assumption | omega | (simp only [LN] <;> omega)) only [row_alloc, row_set]; assumption)) only [W_block, P3, ↓reduceIte, reduceAdd, reduceEqDiff, reduceCtorEq, initFr, reduceLT, clsA, reduceLeDiff, reduceMul, reduceSub, reduceIte]
    refine callP (t11 _) ?_
    simp (disch := first | assumption | omega | (simp only [LN] <;> omega) | (simp (disch := first | assumption | omega | (simp only [LN] <;> omega)) only [row_alloc, row_set]; assumption)) only [W_block, P3, ↓reduceIte, reduceAdd, reduceEqDiff, reduceCtorEq, initFr, reduceLT, clsA, reduceLeDiff, reduceMul, reduceSub, reduceIte]
    exact hq2 _ _ ⟨_, rfl, rfl, kb.trans k⟩
  exact ⟨_, _, a.gc0 k (.inr (.bool _)), rfl, rfl⟩
end Go.AM.Fd

set_option linter.unusedSimpArgs false
set_option linter.unusedVariables false
namespace Go.AM.Fd
open Go.Proofs Go.AM.F
theorem agg_of {v : Value} (h : ∃ cs, v = .agg cs) : ∃ l : List Value, v = .agg l.toArray := by
  obtain ⟨cs, rfl⟩ := h
  exact ⟨cs.toList, by simp⟩
end Go.AM.Fd

set_option linter.unusedSimpArgs false
set_option linter.unusedVariables false
namespace Go.AM.Fd
open Nat (reduceAdd reduceEqDiff reduceLT reduceLeDiff reduceMul reduceSub)
open Go.Proofs Go.AM.F
theorem PutR.lt {H H' : AHeap} {v : Value} {l : List UInt8} (h : PutR H H' v l) {b : Nat} (hb : blk v = some b) : H.n ≤ b ∧ b < H'.n := ⟨h.2.2 b hb, h.1.lt hb⟩
theorem PutR.isS {H H' : AHeap} {v : Value} {l : List UInt8} (h : PutR H H' v l) : isS v = true := by obtain ⟨a, rfl⟩ := h.1.shape; rfl
theorem fillS5 {a b c d e : Value} (ha : isS a = true) (hb : isS b = true) (hc : isS c = true) (hd : isS d = true) (he : isS e = true) : fillA [.slice none 0 0, .slice none 0 0, .slice none 0 0, .slice none 0 0, .slice none 0 0] [(0, 1, a), (1, 1, b), (2, 1, c), (3, 1, d), (4, 1, e)] = some [a, b, c, d, e] := by
  obtain ⟨_, _, _, rfl⟩ := isS_inv ha
  obtain ⟨_, _, _, rfl⟩ := isS_inv hb
  obtain ⟨_, _, _, rfl⟩ := isS_inv hc
  obtain ⟨_, _, _, rfl⟩ := isS_inv hd
  obtain ⟨_, _, _, rfl⟩ := isS_inv he
  rfl
set_option maxHeartbeats 2000000 in
theorem t5 {H : AHeap} {i : I6} {o : Ou} {s : St} {g : Lo} {l : Li} {vc vb : Value} (hi : rgI6 i) (hC : Sl H 2 vc (CC i.cs)) (ho : rgOu o) (hs : rgSt s) (hg : rgSt g.s) (hli : rgLi l) (hB : BS H vb l.B) :
    ∃ w H', ARun Go.Proofs.Try.prog 0 5 [.agg (cI6 vc i).toArray, .agg (cOu o).toArray, .agg (cSt s).toArray, .agg (cLo g).toArray, .agg (cLi vb l).toArray] H w H' ∧ w = .bool true ∧ H' = H := by
  obtain ⟨w, H', a, rfl, k⟩ : ∃ w H', ARun Go.Proofs.Try.prog 0 5 [.agg (cI6 vc i).toArray, .agg (cOu o).toArray, .agg (cSt s).toArray, .agg (cLo g).toArray, .agg (cLi vb l).toArray] H w H' ∧ w = .bool true ∧ Keeps H H' := by
    refine walk2 f5_ok f5_n ?_
    intro Q hq1 hq2
    have hcs := hC.one
    have hbs := hB.sl.one
    have o6 : (cI6 vc i).all Value.oneCell' = true := by simp only [cI6, List.all_cons, List.all_nil, hcs]; rfl
    have om : (cLi vb l).all Value.oneCell' = true := by simp only [cLi, List.all_cons, List.all_nil, hbs]; rfl
    have os := cSt_one s
    have og := cLo_one g
    have lI : (cI6 vc i).length = 6 := rfl
    have lO : (cOu o).length = 5 := rfl
    have lS := cSt_len hs.ht
    have lG := cLo_len hg.ht
    have lL : (cLi vb l).length = 5 := rfl
    obtain ⟨Hb, hHb⟩ : ∃ X, X = ((((H.alloc (.cells true false 6 (cI6 vc i) 30)).alloc (.cells true false 5 (cOu o) 42)).alloc (.cells true false 68 (cSt s) 51)).alloc (.cells true false 70 (cLo g) 57)).alloc (.cells true false 5 (cLi vb l) 65) := ⟨_, rfl⟩
    have kb : Keeps H Hb := by rw [hHb]; exact (((((Keeps.refl H).alloc _).alloc _).alloc _).alloc _).alloc _
    have g0 : Hb.get H.n = some (.cells true false 6 (cI6 vc i) 30) := by rw [hHb]; simp (disch := first | assumption | omega | (simp only [LN] <;> omega) | (simp (disch := first | assumption | omega | (simp only [LN] <;> omega)) only [row_alloc, row_set]; assumption)) only [W_block, P3, ↓reduceIte, reduceAdd, reduceEqDiff, reduceCtorEq, initFr, reduceLT, clsA, reduceLeDiff, reduceMul, reduceSub, reduceIte]
    have g1 : Hb.get (H.n + 1) = some (.cells true false 5 (cOu o) 42) := by rw [hHb]; simp (disch := first | assumption | omega | (simp only [LN] <;> omega) | (simp (disch := first | assumption | omega | (simp only [LN] <;> omega)) only [row_alloc, row_set]; assumption)) only [W_block, P3, ↓reduceIte, reduceAdd, reduceEqDiff, reduceCtorEq, initFr, reduceLT, clsA, reduceLeDiff, reduceMul, reduceSub, reduceIte]
    have g2 : Hb.get (H.n + 1 + 1) = some (.cells true false 68 (cSt s) 51) := by rw [hHb]; simp (disch := first | assumption | omega | (simp only [LN] <;> omega) | (simp (disch := first | assumption | omega | (simp only [LN] <;> omega)) only [row_alloc, row_set]; assumption)) only [W_block, P3, ↓reduceIte, reduceAdd, reduceEqDiff, reduceCtorEq, initFr, reduceLT, clsA, reduceLeDiff, reduceMul, reduceSub, reduceIte]
    have g3 : Hb.get (H.n + 1 + 1 + 1) = some (.cells true false 70 (cLo g) 57) := by rw [hHb]; simp (disch := first | assumption | omega | (simp only [LN] <;> omega) | (simp (disch := first | assumption | omega | (simp only [LN] <;> omega)) only [row_alloc, row_set]; assumption)) only [W_block, P3, ↓reduceIte, reduceAdd, reduceEqDiff, reduceCtorEq, initFr, reduceLT, clsA, reduceLeDiff, reduceMul, reduceSub, reduceIte]
    have g4 : Hb.get (H.n + 1 + 1 + 1 + 1) = some (.cells true false 5 (cLi vb l) 65) := by rw [hHb]; simp (disch := first | assumption | omega | (simp only [LN] <;> omega) | (simp (disch := first | assumption | omega | (simp only [LN] <;> omega)) only [row_alloc, row_set]; assumption)) only [W_block, P3, ↓reduceIte, reduceAdd, reduceEqDiff, reduceCtorEq, initFr, reduceLT, clsA, reduceLeDiff, reduceMul, reduceSub, reduceIte]
    simp (disch := first | assumption | omega | (simp only [LN] <;> omega) | (simp (disch := first | assumption | omega | (simp only [LN] <;> omega)) only [row_alloc, row_set]; assumption)) only [f5, W_block, P3, ↓reduceIte, reduceAdd, reduceEqDiff, reduceCtorEq, initFr, reduceLT, clsA, reduceLeDiff, reduceMul, reduceSub, reduceIte, o6, om, os, og, cOuO]
    rw [← hHb]
    refine callP (t43 i l (hC.keeps kb) (hB.keeps kb)) ?_
    by_cases hf : i.cs.length ≤ 1000 ∧ l.B.length ≤ 5000
    case neg =>
      simp only [hf, decide_false]
      simp (disch := first | assumption | omega | (simp only [LN] <;> omega) | (simp (disch := first | assumption | omega | (simp only [LN] <;> omega)) only [row_alloc, row_set]; assumption)) only [W_block, P3, ↓reduceIte, reduceAdd, reduceEqDiff, reduceCtorEq, initFr, reduceLT, clsA, reduceLeDiff, reduceMul, reduceSub, reduceIte]
      refine callP (t11 _) ?_
      simp (disch := first | assumption | omega | (simp only [LN] <;> omega) | (simp (disch := first | assumption | omega | (simp only [LN] <;> omega)) only [row_alloc, row_set]; assumption)) only [W_block, P3, ↓reduceIte, reduceAdd, reduceEqDiff, reduceCtorEq, initFr, reduceLT, clsA, reduceLeDiff, reduceMul, reduceSub, reduceIte]
      exact hq2 _ _ ⟨_, rfl, rfl, kb⟩
    simp only [hf, and_self, decide_true]
    obtain ⟨hf1, hf2⟩ := hf
    simp (disch := first | assumption | omega | (simp only [LN] <;> omega) | (simp (disch := first | assumption | omega | (simp only [LN] <;> omega)) only [row_alloc, row_set]; assumption)) only [W_block, P3, ↓reduceIte, reduceAdd, reduceEqDiff, reduceCtorEq, initFr, reduceLT, clsA, reduceLeDiff, reduceMul, reduceSub, reduceIte]
    refine W_loop2 (fun q fr K => ∃ (t : Nat) (x12 x13 x14 x15 x16 x18 x19 x20 x21 : Value), t ≤ 2 ∧ q = 2 - t ∧ Keeps Hb K ∧ fr = [.agg (cI6 vc i).toArray, .agg (cOu o).toArray, .agg (cSt s).toArray, .agg (cLo g).toArray, .agg (cLi vb l).toArray, ptr H.n 0, ptr (H.n + 1) 0, ptr (H.n + 1 + 1) 0, ptr (H.n + 1 + 1 + 1) 0, ptr (H.n + 1 + 1 + 1 + 1) 0, .bool false, .int .i64 (t : Nat), x12, x13, x14, x15, x16, .bool false, x18, x19, x20, x21]) 2 ⟨0, _, _, _, _, _, _, _, _, _, by omega, rfl, Keeps.refl _, rfl⟩ ?_
    rintro Q' q fr K ⟨t, x12, x13, x14, x15, x16, x18, x19, x20, x21, ht, rfl, kK, rfl⟩ hnx hex hrt
    by_cases hc : t < 2
    case neg =>
      simp (disch := first | assumption | omega | (simp only [LN] <;> omega) | (simp (disch := first | assumption | omega | (simp only [LN] <;> omega)) only [row_alloc, row_set]; assumption)) only [W_block, P3, ↓reduceIte, reduceAdd, reduceEqDiff, reduceCtorEq, initFr, reduceLT, clsA, reduceLeDiff, reduceMul, reduceSub, reduceIte]
      refine hex _ _ _ ?_
      simp (disch := first | assumption | omega | (simp only [LN] <;> omega) | (simp (disch := first | assumption | omega | (simp only [LN] <;> omega)) only [row_alloc, row_set]; assumption)) only [W_block, P3, ↓reduceIte, reduceAdd, reduceEqDiff, reduceCtorEq, initFr, reduceLT, clsA, reduceLeDiff, reduceMul, reduceSub, reduceIte]
      refine callP (t11 _) ?_
      simp (disch := first | assumption | omega | (simp only [LN] <;> omega) | (simp (disch := first | assumption | omega | (simp only [LN] <;> omega)) only [row_alloc, row_set]; assumption)) only [W_block, P3, ↓reduceIte, reduceAdd, reduceEqDiff, reduceCtorEq, initFr, reduceLT, clsA, reduceLeDiff, reduceMul, reduceSub, reduceIte]
      exact hq2 _ _ ⟨_, rfl, rfl, kb.trans kK⟩
    have p0 := kK.at_ g0
    have p1 := kK.at_ g1
    have p2 := kK.at_ g2
    have p3 := kK.at_ g3
    have p4 := kK.at_ g4
    simp (disch := first | assumption | omega | (simp only [LN] <;> omega) | (simp (disch := first | assumption | omega | (simp only [LN] <;> omega)) only [row_alloc, row_set]; assumption)) only [W_block, P3, ↓reduceIte, reduceAdd, reduceEqDiff, reduceCtorEq, initFr, reduceLT, clsA, reduceLeDiff, reduceMul, reduceSub, reduceIte, p0]
    refine callK (t44 i hi (hC.keeps (kb.trans kK)) (by omega)) ?_
    rintro w1 K1 r1
    have m1 := r1.2.1
    simp (disch := first | assumption | omega | (simp only [LN] <;> omega) | (simp (disch := first | assumption | omega | (simp only [LN] <;> omega)) only [row_alloc, row_set]; assumption)) only [W_block, P3, ↓reduceIte, reduceAdd, reduceEqDiff, reduceCtorEq, initFr, reduceLT, clsA, reduceLeDiff, reduceMul, reduceSub, reduceIte, m1.at_ p1, p1, AHeap.get_lt p1]
    refine callK (t45 o ho _) ?_
    rintro w2 K2 r2
    have m2 := m1.trans r2.2.1
    simp (disch := first | assumption | omega | (simp only [LN] <;> omega) | (simp (disch := first | assumption | omega | (simp only [LN] <;> omega)) only [row_alloc, row_set]; assumption)) only [W_block, P3, ↓reduceIte, reduceAdd, reduceEqDiff, reduceCtorEq, initFr, reduceLT, clsA, reduceLeDiff, reduceMul, reduceSub, reduceIte, m2.at_ p2, m1.at_ p2, p2, AHeap.get_lt p2, AHeap.get_lt (m1.at_ p2)]
    refine callK (t46 s hs _) ?_
    rintro w3 K3 r3
    have m3 := m2.trans r3.2.1
    simp (disch := first | assumption | omega | (simp only [LN] <;> omega) | (simp (disch := first | assumption | omega | (simp only [LN] <;> omega)) only [row_alloc, row_set]; assumption)) only [W_block, P3, ↓reduceIte, reduceAdd, reduceEqDiff, reduceCtorEq, initFr, reduceLT, clsA, reduceLeDiff, reduceMul, reduceSub, reduceIte, m3.at_ p3, m2.at_ p3, m1.at_ p3, p3, AHeap.get_lt p3, AHeap.get_lt (m1.at_ p3), AHeap.get_lt (m2.at_ p3)]
    refine callK (t47 g hg _) ?_
    rintro w4 K4 r4
    have m4 := m3.trans r4.2.1
    simp (disch := first | assumption | omega | (simp only [LN] <;> omega) | (simp (disch := first | assumption | omega | (simp only [LN] <;> omega)) only [row_alloc, row_set]; assumption)) only [W_block, P3, ↓reduceIte, reduceAdd, reduceEqDiff, reduceCtorEq, initFr, reduceLT, clsA, reduceLeDiff, reduceMul, reduceSub, reduceIte, m4.at_ p4, m3.at_ p4, m2.at_ p4, m1.at_ p4, p4, AHeap.get_lt p4, AHeap.get_lt (m1.at_ p4), AHeap.get_lt (m2.at_ p4), AHeap.get_lt (m3.at_ p4)]
    refine callK (t36 l hli (hB.keeps ((kb.trans kK).trans m4)) (by omega)) ?_
    rintro w5 K5 r5
    have m5 := m4.trans r5.2.1
    simp (disch := first | assumption | omega | (simp only [LN] <;> omega) | (simp (disch := first | assumption | omega | (simp only [LN] <;> omega)) only [row_alloc, row_set]; assumption)) only [W_block, P3, ↓reduceIte, reduceAdd, reduceEqDiff, reduceCtorEq, initFr, reduceLT, clsA, reduceLeDiff, reduceMul, reduceSub, reduceIte, fillS5 r1.isS r2.isS r3.isS r4.isS r5.isS, one_isS r1.isS, one_isS r2.isS, one_isS r3.isS, one_isS r4.isS, one_isS r5.isS]
    have m6 := m5.alloc (.cells true false 1 [w1, w2, w3, w4, w5] 22)
    have gA := AHeap.get_alloc_new K5 (.cells true false 1 [w1, w2, w3, w4, w5] 22)
    obtain ⟨K6, hK6⟩ : ∃ X, X = K5.alloc (.cells true false 1 [w1, w2, w3, w4, w5] 22) := ⟨_, rfl⟩
    have m56 : Keeps K5 K6 := by rw [hK6]; exact (Keeps.refl _).alloc _
    rw [← hK6] at m6 gA ⊢
    have lt5 := AHeap.get_lt gA
    simp (disch := first | assumption | omega | (simp only [LN] <;> omega) | (simp (disch := first | assumption | omega | (simp only [LN] <;> omega)) only [row_alloc, row_set]; assumption)) only [W_block, P3, ↓reduceIte, reduceAdd, reduceEqDiff, reduceCtorEq, initFr, reduceLT, clsA, reduceLeDiff, reduceMul, reduceSub, reduceIte, m6.at_ p0]
    refine callP (t15 i hcs) ?_
    simp (disch := first | assumption | omega | (simp only [LN] <;> omega) | (simp (disch := first | assumption | omega | (simp only [LN] <;> omega)) only [row_alloc, row_set]; assumption)) only [W_block, P3, ↓reduceIte, reduceAdd, reduceEqDiff, reduceCtorEq, initFr, reduceLT, clsA, reduceLeDiff, reduceMul, reduceSub, reduceIte]
    refine callK (t48 i hi (hC.keeps ((kb.trans kK).trans m6)) (by omega)) ?_
    rintro v1 L1 q1
    have n1 := q1.k
    simp (disch := first | assumption | omega | (simp only [LN] <;> omega) | (simp (disch := first | assumption | omega | (simp only [LN] <;> omega)) only [row_alloc, row_set]; assumption)) only [W_block, P3, ↓reduceIte, reduceAdd, reduceEqDiff, reduceCtorEq, initFr, reduceLT, clsA, reduceLeDiff, reduceMul, reduceSub, reduceIte, m6.at_ p1, (m6.trans n1).at_ p1, AHeap.get_lt (m6.at_ p1)]
    refine callP (t18 o _) ?_
    simp (disch := first | assumption | omega | (simp only [LN] <;> omega) | (simp (disch := first | assumption | omega | (simp only [LN] <;> omega)) only [row_alloc, row_set]; assumption)) only [W_block, P3, ↓reduceIte, reduceAdd, reduceEqDiff, reduceCtorEq, initFr, reduceLT, clsA, reduceLeDiff, reduceMul, reduceSub, reduceIte]
    refine callK (t49 o ho _) ?_
    rintro v2 L2 q2
    have n2 := n1.trans q2.k
    simp (disch := first | assumption | omega | (simp only [LN] <;> omega) | (simp (disch := first | assumption | omega | (simp only [LN] <;> omega)) only [row_alloc, row_set]; assumption)) only [W_block, P3, ↓reduceIte, reduceAdd, reduceEqDiff, reduceCtorEq, initFr, reduceLT, clsA, reduceLeDiff, reduceMul, reduceSub, reduceIte, m6.at_ p2, (m6.trans n1).at_ p2, (m6.trans n2).at_ p2, AHeap.get_lt (m6.at_ p2), AHeap.get_lt ((m6.trans n1).at_ p2)]
    refine callK (t50 s hs _) ?_
    rintro v3 L3 q3
    have n3 := n2.trans q3.k
    simp (disch := first | assumption | omega | (simp only [LN] <;> omega) | (simp (disch := first | assumption | omega | (simp only [LN] <;> omega)) only [row_alloc, row_set]; assumption)) only [W_block, P3, ↓reduceIte, reduceAdd, reduceEqDiff, reduceCtorEq, initFr, reduceLT, clsA, reduceLeDiff, reduceMul, reduceSub, reduceIte, m6.at_ p3, (m6.trans n1).at_ p3, (m6.trans n2).at_ p3, (m6.trans n3).at_ p3, AHeap.get_lt (m6.at_ p3), AHeap.get_lt ((m6.trans n1).at_ p3), AHeap.get_lt ((m6.trans n2).at_ p3)]
    refine callP (t23 g hg.ht _) ?_
    simp (disch := first | assumption | omega | (simp only [LN] <;> omega) | (simp (disch := first | assumption | omega | (simp only [LN] <;> omega)) only [row_alloc, row_set]; assumption)) only [W_block, P3, ↓reduceIte, reduceAdd, reduceEqDiff, reduceCtorEq, initFr, reduceLT, clsA, reduceLeDiff, reduceMul, reduceSub, reduceIte]
    refine callK (t51 g hg _) ?_
    rintro v4 L4 q4
    have n4 := n3.trans q4.k
    simp (disch := first | assumption | omega | (simp only [LN] <;> omega) | (simp (disch := first | assumption | omega | (simp only [LN] <;> omega)) only [row_alloc, row_set]; assumption)) only [W_block, P3, ↓reduceIte, reduceAdd, reduceEqDiff, reduceCtorEq, initFr, reduceLT, clsA, reduceLeDiff, reduceMul, reduceSub, reduceIte, m6.at_ p4, (m6.trans n1).at_ p4, (m6.trans n2).at_ p4, (m6.trans n3).at_ p4, (m6.trans n4).at_ p4, AHeap.get_lt (m6.at_ p4), AHeap.get_lt ((m6.trans n1).at_ p4), AHeap.get_lt ((m6.trans n2).at_ p4), AHeap.get_lt ((m6.trans n3).at_ p4)]
    refine callP (t26 l (hB.keeps ((kb.trans kK).trans (m6.trans n4)))) ?_
    simp (disch := first | assumption | omega | (simp only [LN] <;> omega) | (simp (disch := first | assumption | omega | (simp only [LN] <;> omega)) only [row_alloc, row_set]; assumption)) only [W_block, P3, ↓reduceIte, reduceAdd, reduceEqDiff, reduceCtorEq, initFr, reduceLT, clsA, reduceLeDiff, reduceMul, reduceSub, reduceIte]
    refine callK (t52 l hli _ (by omega)) ?_
    rintro v5 L5 q5
    have n5 := n4.trans q5.k
    simp (disch := first | assumption | omega | (simp only [LN] <;> omega) | (simp (disch := first | assumption | omega | (simp only [LN] <;> omega)) only [row_alloc, row_set]; assumption)) only [W_block, P3, ↓reduceIte, reduceAdd, reduceEqDiff, reduceCtorEq, initFr, reduceLT, clsA, reduceLeDiff, reduceMul, reduceSub, reduceIte, fillS5 q1.is q2.is q3.is q4.is q5.is, q1.one, q2.one, q3.one, q4.one, q5.one]
    have n7 := n5.alloc (.cells true false 1 [v1, v2, v3, v4, v5] 22)
    have gB := AHeap.get_alloc_new L5 (.cells true false 1 [v1, v2, v3, v4, v5] 22)
    obtain ⟨K7, hK7⟩ : ∃ X, X = L5.alloc (.cells true false 1 [v1, v2, v3, v4, v5] 22) := ⟨_, rfl⟩
    have n57 : Keeps L5 K7 := by rw [hK7]; exact (Keeps.refl _).alloc _
    rw [← hK7] at n7 gB ⊢
    have gA := n7.at_ gA
    have j5 := m56.trans n7
    have j4 := r5.2.1.trans j5
    have j3 := r4.2.1.trans j4
    have j2 := r3.2.1.trans j3
    have j1 := r2.2.1.trans j2
    have hI : ∀ i', i' < 5 → ∃ w v f, [w1, w2, w3, w4, w5][i']? = some w ∧ [v1, v2, v3, v4, v5][i']? = some v ∧ f.length ≤ 100000 ∧ AP K7 5 1 w f.length (cellsOf f) ∧ BS K7 v f ∧ (∀ b, blk w = some b → [K.n, K1.n, K2.n, K3.n, K4.n, K5.n].getD i' 0 ≤ b ∧ b < [K.n, K1.n, K2.n, K3.n, K4.n, K5.n].getD (i' + 1) 0) ∧ (∀ b, blk v = some b → K5.n ≤ b) := by
      intro i' hi'
      have f1 := fI6_len (x := i)
      have f2 := fOu_len (x := o)
      have f3 := fSt_len hs.ht
      have f4 := fLo_len hg.ht
      have f5 := fLi_len (x := l)
      have e5 := m56.n
      have e1 := n1.n
      have e2 := n2.n
      have e3 := n3.n
      have e4 := n4.n
      match i', hi' with
      | 0, _ => exact ⟨w1, v1, fI6 i, rfl, rfl, by omega, r1.1.keeps j1, (q1.bs.keeps ((q2.k.trans q3.k).trans (q4.k.trans (q5.k.trans n57)))), fun b hb => r1.lt hb, fun b hb => by have := q1.f b hb; omega⟩
      | 1, _ => exact ⟨w2, v2, fOu o, rfl, rfl, by omega, r2.1.keeps j2, (q2.bs.keeps (q3.k.trans (q4.k.trans (q5.k.trans n57)))), fun b hb => r2.lt hb, fun b hb => by have := q2.f b hb; omega⟩
      | 2, _ => exact ⟨w3, v3, fSt s, rfl, rfl, by omega, r3.1.keeps j3, (q3.bs.keeps (q4.k.trans (q5.k.trans n57))), fun b hb => r3.lt hb, fun b hb => by have := q3.f b hb; omega⟩
      | 3, _ => exact ⟨w4, v4, fLo g, rfl, rfl, by omega, r4.1.keeps j4, (q4.bs.keeps (q5.k.trans n57)), fun b hb => r4.lt hb, fun b hb => by have := q4.f b hb; omega⟩
      | 4, _ => exact ⟨w5, v5, fLi l, rfl, rfl, by omega, r5.1.keeps j5, (q5.bs.keeps n57), fun b hb => r5.lt hb, fun b hb => by have := q5.f b hb; omega⟩
    have hlo : ∀ i' j', i' < j' → j' ≤ 5 → [K.n, K1.n, K2.n, K3.n, K4.n, K5.n].getD (i' + 1) 0 ≤ [K.n, K1.n, K2.n, K3.n, K4.n, K5.n].getD j' 0 := by
      have e1 := r1.2.1.n
      have e2 := r2.2.1.n
      have e3 := r3.2.1.n
      have e4 := r4.2.1.n
      have e5 := r5.2.1.n
      intro i' j' h1 h2
      have hj : j' = 1 ∨ j' = 2 ∨ j' = 3 ∨ j' = 4 ∨ j' = 5 := by omega
      have hi1 : i' = 0 ∨ i' = 1 ∨ i' = 2 ∨ i' = 3 ∨ i' = 4 := by omega
      rcases hj with rfl | rfl | rfl | rfl | rfl <;> rcases hi1 with rfl | rfl | rfl | rfl | rfl <;> first | omega | (simp; omega) | simp
    have hl0 : K.n ≤ [K.n, K1.n, K2.n, K3.n, K4.n, K5.n].getD 0 0 := Nat.le_refl _
    have hl1 : ∀ i', i' < 5 → K.n ≤ [K.n, K1.n, K2.n, K3.n, K4.n, K5.n].getD i' 0 := by
      have e1 := r1.2.1.n
      have e2 := r2.2.1.n
      have e3 := r3.2.1.n
      have e4 := r4.2.1.n
      intro i' hi'
      match i', hi' with
      | 0, _ => exact Nat.le_refl _
      | 1, _ => simp; omega
      | 2, _ => simp; omega
      | 3, _ => simp; omega
      | 4, _ => simp; omega
    have hl5 : [K.n, K1.n, K2.n, K3.n, K4.n, K5.n].getD 5 0 = K5.n := rfl
    obtain ⟨lo, hlo0⟩ : ∃ f : Nat → Nat, f = fun i' => [K.n, K1.n, K2.n, K3.n, K4.n, K5.n].getD i' 0 := ⟨_, rfl⟩
    have hI : ∀ i', i' < 5 → ∃ w v f, [w1, w2, w3, w4, w5][i']? = some w ∧ [v1, v2, v3, v4, v5][i']? = some v ∧ f.length ≤ 100000 ∧ AP K7 5 1 w f.length (cellsOf f) ∧ BS K7 v f ∧ (∀ b, blk w = some b → lo i' ≤ b ∧ b < lo (i' + 1)) ∧ (∀ b, blk v = some b → K5.n ≤ b) := by rw [hlo0]; exact hI
    have hlo : ∀ i' j', i' < j' → j' ≤ 5 → lo (i' + 1) ≤ lo j' := by rw [hlo0]; exact hlo
    have hl1 : ∀ i', i' < 5 → K.n ≤ lo i' := by rw [hlo0]; exact hl1
    have hl5 : lo 5 = K5.n := by rw [hlo0]; rfl
    have kK7 : Keeps K K7 := m6.trans n7
    have hL5 : K5.n ≤ L5.n := by have := m56.n; have := n5.n; omega
    obtain ⟨ws, hws⟩ : ∃ X, X = [w1, w2, w3, w4, w5] := ⟨_, rfl⟩
    obtain ⟨vs, hvs⟩ : ∃ X, X = [v1, v2, v3, v4, v5] := ⟨_, rfl⟩
    rw [← hws, ← hvs] at hI
    rw [← hws] at gA
    rw [← hvs] at gB
    have kK0 := kK
    clear r1 r2 r3 r4 r5 q1 q2 q3 q4 q5 m1 m2 m3 m4 m5 m6 n1 n2 n3 n4 n5 j1 j2 j3 j4 j5 n7 hl0 hlo0
    refine W_loop2 (fun q fr X => ∃ (kk : Nat) (x15 x16 x19 x20 x21 : Value), kk ≤ 5 ∧ q = 5 - kk ∧ Keeps K X ∧ X.get K5.n = some (.cells true false 1 ws 22) ∧ X.get L5.n = some (.cells true false 1 vs 22) ∧
      (∀ i', kk ≤ i' → i' < 5 → ∃ w v f, ws[i']? = some w ∧ vs[i']? = some v ∧ f.length ≤ 100000 ∧ AP X 5 1 w f.length (cellsOf f) ∧ BS X v f ∧ (∀ b, blk w = some b → lo i' ≤ b ∧ b < lo (i' + 1)) ∧ (∀ b, blk v = some b → K5.n ≤ b)) ∧
      fr = [.agg (cI6 vc i).toArray, .agg (cOu o).toArray, .agg (cSt s).toArray, .agg (cLo g).toArray, .agg (cLi vb l).toArray, ptr H.n 0, ptr (H.n + 1) 0, ptr (H.n + 1 + 1) 0, ptr (H.n + 1 + 1 + 1) 0, ptr (H.n + 1 + 1 + 1 + 1) 0, .bool false, .int .i64 (t : Nat), slc K5.n 0 5 5, slc L5.n 0 5 5, .int .i64 (kk : Nat), x15, x16, .bool false, .bool true, x19, x20, x21]) 5 ⟨0, _, _, _, _, _, by omega, rfl, kK7, gA, gB, fun i' _ => hI i', rfl⟩ ?_
    rintro Q2 q fr X ⟨kk, y15, y16, y19, y20, y21, hkk, rfl, kX, gA, gB, hI, rfl⟩ hnx2 hex2 hrt2
    by_cases hc2 : kk < 5
    case neg =>
      simp (disch := first | assumption | omega | (simp only [LN] <;> omega) | (simp (disch := first | assumption | omega | (simp only [LN] <;> omega)) only [row_alloc, row_set]; assumption)) only [W_block, P3, ↓reduceIte, reduceAdd, reduceEqDiff, reduceCtorEq, initFr, reduceLT, clsA, reduceLeDiff, reduceMul, reduceSub, reduceIte]
      refine hex2 _ _ _ ?_
      simp (disch := first | assumption | omega | (simp only [LN] <;> omega) | (simp (disch := first | assumption | omega | (simp only [LN] <;> omega)) only [row_alloc, row_set]; assumption)) only [W_block, P3, ↓reduceIte, reduceAdd, reduceEqDiff, reduceCtorEq, initFr, reduceLT, clsA, reduceLeDiff, reduceMul, reduceSub, reduceIte, wrap_succ (n := t) (by omega)]
      exact hnx _ _ _ ⟨t + 1, _, _, _, _, _, _, _, _, _, by omega, rfl, kK0.trans kX, rfl⟩ (by omega)
    obtain ⟨w, v, f, hw, hv, hfl, hap, hbsv, hbw, hbv⟩ := hI kk (Nat.le_refl _) hc2
    simp (disch := first | assumption | omega | (simp only [LN] <;> omega) | (simp (disch := first | assumption | omega | (simp only [LN] <;> omega)) only [row_alloc, row_set]; assumption)) only [W_block, P3, ↓reduceIte, reduceAdd, reduceEqDiff, reduceCtorEq, initFr, reduceLT, clsA, reduceLeDiff, reduceMul, reduceSub, reduceIte, gA, gB, hw, hv, a_b2sB hap.bs, a_b2sB hbsv, bytes_eq]
    have his := hap.bs.sl.is
    have hlen := hap.bs.sl.len
    rw [List.length_map] at hlen
    have hwl : lo (kk + 1) ≤ K5.n := by rw [← hl5]; exact hlo kk 5 hc2 (Nat.le_refl _)
    have hkl := hl1 kk hc2
    have lA := AHeap.get_lt gA
    have lB := AHeap.get_lt gB
    refine W_loop2 (fun q fr Y => ∃ (j : Nat) (l' : List UInt8) (z20 z21 : Value), j ≤ f.length ∧ q = f.length - j ∧ l'.length = f.length ∧ AP Y 5 1 w f.length (cellsOf l') ∧ Chg (blkL w) X Y ∧
      fr = [.agg (cI6 vc i).toArray, .agg (cOu o).toArray, .agg (cSt s).toArray, .agg (cLo g).toArray, .agg (cLi vb l).toArray, ptr H.n 0, ptr (H.n + 1) 0, ptr (H.n + 1 + 1) 0, ptr (H.n + 1 + 1 + 1) 0, ptr (H.n + 1 + 1 + 1 + 1) 0, .bool false, .int .i64 (t : Nat), slc K5.n 0 5 5, slc L5.n 0 5 5, .int .i64 (kk : Nat), w, .int .i64 (j : Nat), .bool false, .bool true, .bool true, z20, z21]) f.length ⟨0, f, _, _, by omega, rfl, rfl, hap, Chg.refl _ _, rfl⟩ ?_
    rintro Q3 q fr Y ⟨j, l', z20, z21, hj, rfl, hl', aY, cY, rfl⟩ hnx3 hex3 hrt3
    by_cases hc3 : j < f.length
    · rcases aY with ⟨_, h0', _⟩ | ⟨bb, room, rfl, h1', gy⟩
      · omega
      have hj' : j < l'.length := by omega
      have py := AHeap.get_lt gy
      simp (disch := first | assumption | omega | (simp only [LN] <;> omega) | (simp (disch := first | assumption | omega | (simp only [LN] <;> omega)) only [row_alloc, row_set]; assumption)) only [W_block, P3, ↓reduceIte, reduceAdd, reduceEqDiff, reduceCtorEq, initFr, reduceLT, clsA, reduceLeDiff, reduceMul, reduceSub, reduceIte, gy, cells_get hj', inc_byte, cellsOf_length, cells_set, wrap_succ (n := j) (by omega)]
      refine hnx3 _ _ _ ⟨j + 1, l'.set j (UInt8.ofNat (l'[j].toNat + 1)), _, _, by omega, rfl, by rw [List.length_set]; exact hl', .inr ⟨bb, room, rfl, by rw [cellsOf_length, List.length_set]; omega, AHeap.get_set_same gy _⟩, ?_, rfl⟩ (by omega)
      exact cY.trans (Chg.set Y py _) (fun x hx => .inl (by simp at hx; subst hx; exact mem_blkL.2 rfl))
    · simp (disch := first | assumption | omega | (simp only [LN] <;> omega) | (simp (disch := first | assumption | omega | (simp only [LN] <;> omega)) only [row_alloc, row_set]; assumption)) only [W_block, P3, ↓reduceIte, reduceAdd, reduceEqDiff, reduceCtorEq, initFr, reduceLT, clsA, reduceLeDiff, reduceMul, reduceSub, reduceIte]
      refine hex3 _ _ _ ?_
      simp (disch := first | assumption | omega | (simp only [LN] <;> omega) | (simp (disch := first | assumption | omega | (simp only [LN] <;> omega)) only [row_alloc, row_set]; assumption)) only [W_block, P3, ↓reduceIte, reduceAdd, reduceEqDiff, reduceCtorEq, initFr, reduceLT, clsA, reduceLeDiff, reduceMul, reduceSub, reduceIte, wrap_succ (n := kk) (by omega)]
      have hns : ∀ x, x ∈ blkL w → lo kk ≤ x ∧ x < lo (kk + 1) := fun x hx => hbw x (mem_blkL.1 hx)
      refine hnx2 _ _ _ ⟨kk + 1, _, _, _, _, _, by omega, rfl, kX.chg_trans cY (fun x hx => by have := hns x hx; omega), ?_, ?_, ?_, rfl⟩ (by omega)
      · exact cY.at_ gA (fun hx => by have := hns _ hx; omega)
      · exact cY.at_ gB (fun hx => by have := hns _ hx; omega)
      · intro i' h1 h2
        obtain ⟨w', v', f', e1, e2, e3, e4, e5, e6, e7⟩ := hI i' (by omega) h2
        have := hlo kk i' (by omega) (by omega)
        exact ⟨w', v', f', e1, e2, e3, e4.chg cY (fun x hx hx2 => by have := hns x hx2; have := e6 x (mem_blkL.1 hx); omega), e5.chg cY (fun x hx hx2 => by have := hns x hx2; have := e7 x (mem_blkL.1 hx); omega), e6, e7⟩
  exact ⟨_, _, a.gc0 k (.inr (.bool _)), rfl, rfl⟩
end Go.AM.Fd

set_option linter.unusedSimpArgs false
set_option linter.unusedVariables false
namespace Go.AM.Hk
open Go.Proofs Go.AM.F Go.AM.Fd
noncomputable def eiK (n : Nat) : Nat → (Nat → Bool) → Bool := Nat.rec (motive := fun _ => Nat → (Nat → Bool) → Bool) (fun r K => K r) (fun _ ih r K => forceN (ah r) fun r' => ih r' K) n
theorem eiK_eq : ∀ (n r : Nat) (K : Nat → Bool), eiK n r K = K (ei n r)
  | 0, r, K => rfl
  | n + 1, r, K => by
    show forceN (ah r) (fun r' => eiK n r' K) = _
    rw [forceN_eq, eiK_eq n]; rfl
noncomputable def crcK (l : List UInt8) : Nat → (Nat → Bool) → Bool := List.rec (motive := fun _ => Nat → (Nat → Bool) → Bool) (fun r K => K r) (fun c _ ih r K => forceN (Nat.xor r c.toNat) fun r1 => eiK 8 r1 fun r2 => ih r2 K) l
theorem crcK_eq : ∀ (l : List UInt8) (r : Nat) (K : Nat → Bool), crcK l r K = K (l.foldl crcS r)
  | [], r, K => rfl
  | c :: l, r, K => by
    show forceN (Nat.xor r c.toNat) (fun r1 => eiK 8 r1 fun r2 => crcK l r2 K) = _
    rw [forceN_eq, eiK_eq, crcK_eq l]; rfl
noncomputable def sumH : HF := fun xs n t K => match xs with
  | [v] => bqK v t fun l => asT (Nat.ble l.length 1000000) (crcK l 4294967295 fun r => forceN (Nat.xor 4294967295 r) fun r => K (.int .u32 (.ofNat r)) n t)
  | _ => false
theorem sumH_true {xs : List Value} {n : Nat} {t : HT} {K : CK} (h : sumH xs n t K = true) {H : AHeap} (r : Rp n t H) : ∃ v l, xs = [v] ∧ BQ H v l ∧ l.length ≤ 1000000 ∧ K (.int .u32 (crc l : Nat)) n t = true := by
  unfold sumH at h
  split at h
  · rename_i v
    obtain ⟨l, h1, h2⟩ := bqK_true r h
    obtain ⟨h3, h4⟩ := asT_true h2
    rw [crcK_eq, forceN_eq] at h4
    exact ⟨v, l, rfl, h1, Nat.le_of_ble_eq_true h3, h4⟩
  · cases h
theorem sum97 : HFok Go.Proofs.Try.prog 0 97 sumH := HFok.of fun xs n t K h H r => by
  obtain ⟨v, l, rfl, h1, h2, h3⟩ := sumH_true h r
  obtain ⟨w, H', a, rfl, rfl⟩ := t97 h1.bs (by omega)
  exact ⟨_, a, h3⟩
noncomputable def uK (k : IntKind) (v : Value) (K : Nat → Bool) : Bool := match v with
  | .int k' (.ofNat n) => asT (Nat.beq (kNum k') (kNum k)) (asT (Nat.ble (Nat.succ n) (kMax k)) (K n))
  | _ => false
theorem uK_true {k : IntKind} {v : Value} {K : Nat → Bool} (h : uK k v K = true) : ∃ n : Nat, v = .int k n ∧ n < kMax k ∧ K n = true := by
  unfold uK at h
  split at h
  · rename_i k' n
    obtain ⟨h1, h2⟩ := asT_true h
    obtain ⟨h3, h4⟩ := asT_true h2
    have := kNum_inj h1
    subst this
    exact ⟨n, rfl, Nat.le_of_ble_eq_true h3, h4⟩
  · cases h
noncomputable def iK (v : Value) (K : Int → Bool) : Bool := match v with
  | .int .i64 n => K n
  | _ => false
theorem iK_true {v : Value} {K : Int → Bool} (h : iK v K = true) : ∃ n : Int, v = .int .i64 n ∧ K n = true := by
  unfold iK at h
  split at h
  · exact ⟨_, rfl, h⟩
  · cases h
noncomputable def ccK (n : Nat) : List Value → (List (Nat × Int) → Bool) → Bool :=
  Nat.rec (motive := fun _ => List Value → (List (Nat × Int) → Bool) → Bool) (fun c K => match c with | [] => K [] | _ => false) (fun _ ih c K => match c with
    | a :: b :: c => uK .u8 a fun x => iK b fun y => ih c fun l => K ((x, y) :: l)
    | _ => false) n
theorem ccK_s (n : Nat) (c : List Value) (K : List (Nat × Int) → Bool) : ccK (n + 1) c K = match c with
    | a :: b :: c => uK .u8 a fun x => iK b fun y => ccK n c fun l => K ((x, y) :: l)
    | _ => false := rfl
theorem ccK_0 (c : List Value) (K : List (Nat × Int) → Bool) : ccK 0 c K = match c with | [] => K [] | _ => false := rfl
theorem ccK_true : ∀ {n : Nat} {c : List Value} {K : List (Nat × Int) → Bool}, ccK n c K = true → ∃ l, c = (CC l).flatten ∧ l.length = n ∧ K l = true
  | 0, c, K, h => by
    rw [ccK_0] at h
    split at h
    · exact ⟨[], rfl, rfl, h⟩
    · cases h
  | n + 1, c, K, h => by
    rw [ccK_s] at h
    split at h
    · rename_i a b c
      obtain ⟨x, rfl, _, h2⟩ := uK_true h
      obtain ⟨y, rfl, h3⟩ := iK_true h2
      obtain ⟨l, rfl, hl, h4⟩ := ccK_true h3
      exact ⟨(x, y) :: l, rfl, by simp [hl], h4⟩
    · cases h
noncomputable def slCK (v : Value) (t : HT) (K : List (Nat × Int) → Bool) : Bool := match v with
  | .slice none n k => asT (Nat.beq n 0) (asT (Nat.beq k 0) (K []))
  | .slice (some ⟨b, o, none⟩) n _ => t.getK b fun x => match x with
    | .cells _ _ _ c _ => asT (Nat.ble (Nat.add o (Nat.mul n 2)) c.length) (dropK c o fun c => takeK c (Nat.mul n 2) fun c => ccK n c K)
    | _ => false
  | _ => false
theorem CC_row (l : List (Nat × Int)) : ∀ r ∈ CC l, r.length = 2 := fun r hr => by
  simp only [CC, List.mem_map] at hr
  obtain ⟨_, _, rfl⟩ := hr
  rfl
theorem slCK_true {n : Nat} {t : HT} {H : AHeap} (r : Rp n t H) {v : Value} {K : List (Nat × Int) → Bool} (h : slCK v t K = true) : ∃ l, Sl H 2 v (CC l) ∧ K l = true := by
  unfold slCK at h
  split at h
  · obtain ⟨h1, h2⟩ := asT_true h
    obtain ⟨h3, h4⟩ := asT_true h2
    have := Nat.eq_of_beq_eq_true h1
    have := Nat.eq_of_beq_eq_true h3
    subst_vars
    exact ⟨[], Sl.nil _ _, h4⟩
  · rename_i b o n k
    obtain ⟨ob, h1, h2⟩ := r.getK h
    split at h2
    · rename_i own room esz c e
      obtain ⟨h3, h4⟩ := asT_true h2
      rw [dropK_eq, takeK_eq] at h4
      obtain ⟨l, h5, h6, h7⟩ := ccK_true h4
      have h3 : o + n * 2 ≤ c.length := Nat.le_of_ble_eq_true h3
      refine ⟨l, ⟨⟨some ⟨b, o, none⟩, k, by simp [CC, h6]⟩, CC_row l, ?_⟩, h7⟩
      simp only [elemsA, h1]
      rw [if_pos h3]
      exact congrArg some h5
    · cases h2
  · cases h
noncomputable def i6K (v : Value) (t : HT) (K : I6 → Bool) : Bool := match v with
  | .agg ⟨[a, b, c, d, e, f]⟩ => uK .u8 a fun n0 => iK b fun n1 => uK .u64 c fun n2 => uK .u32 d fun n3 => uK .u32 e fun n4 => slCK f t fun l => K ⟨n0, n1, n2, n3, n4, l⟩
  | _ => false
theorem i6K_true {n : Nat} {t : HT} {H : AHeap} (r : Rp n t H) {v : Value} {K : I6 → Bool} (h : i6K v t K = true) : ∃ x vc, v = .agg (cI6 vc x).toArray ∧ rgI6 x ∧ Sl H 2 vc (CC x.cs) ∧ K x = true := by
  unfold i6K at h
  split at h
  · rename_i a b c d e f
    obtain ⟨n0, rfl, w0, q1⟩ := uK_true h
    obtain ⟨n1, rfl, q2⟩ := iK_true q1
    obtain ⟨n2, rfl, w2, q3⟩ := uK_true q2
    obtain ⟨n3, rfl, w3, q4⟩ := uK_true q3
    obtain ⟨n4, rfl, w4, q5⟩ := uK_true q4
    obtain ⟨l, hl, q6⟩ := slCK_true r q5
    exact ⟨⟨n0, n1, n2, n3, n4, l⟩, f, rfl, ⟨w0, w2, w3, w4⟩, hl, q6⟩
  · cases h
noncomputable def ouK (v : Value) (K : Ou → Bool) : Bool := match v with
  | .agg ⟨[a, b, c, d, e]⟩ => uK .u8 a fun n0 => iK b fun n1 => iK c fun n2 => uK .u64 d fun n3 => uK .u32 e fun n4 => K ⟨n0, n1, n2, n3, n4⟩
  | _ => false
theorem ouK_true {v : Value} {K : Ou → Bool} (h : ouK v K = true) : ∃ x, v = .agg (cOu x).toArray ∧ rgOu x ∧ K x = true := by
  unfold ouK at h
  split at h
  · rename_i a b c d e
    obtain ⟨n0, rfl, w0, q1⟩ := uK_true h
    obtain ⟨n1, rfl, q2⟩ := iK_true q1
    obtain ⟨n2, rfl, q3⟩ := iK_true q2
    obtain ⟨n3, rfl, w3, q4⟩ := uK_true q3
    obtain ⟨n4, rfl, w4, q5⟩ := uK_true q4
    exact ⟨⟨n0, n1, n2, n3, n4⟩, rfl, ⟨w0, w3, w4⟩, q5⟩
  · cases h
noncomputable def stLK (l : List Value) (K : St → Bool) : Bool := match l with
  | a :: b :: c :: l => uK .u64 a fun n0 => uK .u64 b fun n1 => uK .u64 c fun n2 => takeK l 64 fun p => dropK l 64 fun q => match q with
    | [d] => uK .u32 d fun n3 => byK p fun s => asT (Nat.beq s.length 64) (K ⟨n0, n1, n2, s, n3⟩)
    | _ => false
  | _ => false
theorem stLK_true {l : List Value} {K : St → Bool} (h : stLK l K = true) : ∃ x, l = cSt x ∧ rgSt x ∧ K x = true := by
  unfold stLK at h
  split at h
  · rename_i a b c l
    obtain ⟨n0, rfl, w0, q1⟩ := uK_true h
    obtain ⟨n1, rfl, w1, q2⟩ := uK_true q1
    obtain ⟨n2, rfl, w2, q3⟩ := uK_true q2
    rw [takeK_eq, dropK_eq] at q3
    split at q3
    · rename_i d hd
      obtain ⟨n3, rfl, w3, q4⟩ := uK_true q3
      obtain ⟨s, hs, q5⟩ := byK_true q4
      obtain ⟨h1, q6⟩ := asT_true q5
      have e : l = l.take 64 ++ l.drop 64 := (List.take_append_drop 64 l).symm
      exact ⟨⟨n0, n1, n2, s, n3⟩, by rw [e, hs, hd]; rfl, ⟨Nat.eq_of_beq_eq_true h1, w0, w1, w2, w3⟩, q6⟩
    · cases q3
  · cases h
noncomputable def stK (v : Value) (K : St → Bool) : Bool := match v with
  | .agg ⟨l⟩ => stLK l K
  | _ => false
theorem stK_true {v : Value} {K : St → Bool} (h : stK v K = true) : ∃ x, v = .agg (cSt x).toArray ∧ rgSt x ∧ K x = true := by
  unfold stK at h
  split at h
  · obtain ⟨x, rfl, h1, h2⟩ := stLK_true h
    exact ⟨x, rfl, h1, h2⟩
  · cases h
noncomputable def loK (v : Value) (K : Lo → Bool) : Bool := match v with
  | .agg ⟨a :: b :: l⟩ => iK a fun n0 => iK b fun n1 => stLK l fun s => K ⟨n0, n1, s⟩
  | _ => false
theorem loK_true {v : Value} {K : Lo → Bool} (h : loK v K = true) : ∃ x, v = .agg (cLo x).toArray ∧ rgSt x.s ∧ K x = true := by
  unfold loK at h
  split at h
  · rename_i a b l
    obtain ⟨n0, rfl, q1⟩ := iK_true h
    obtain ⟨n1, rfl, q2⟩ := iK_true q1
    obtain ⟨x, rfl, h1, h2⟩ := stLK_true q2
    exact ⟨⟨n0, n1, x⟩, rfl, h1, h2⟩
  · cases h
noncomputable def liK (v : Value) (t : HT) (K : Li → Bool) : Bool := match v with
  | .agg ⟨[a, b, c, d, e]⟩ => uK .u8 a fun n0 => uK .u8 b fun n1 => iK c fun n2 => iK d fun n3 => bqK e t fun B => K ⟨n0, n1, n2, n3, B⟩
  | _ => false
theorem liK_true {n : Nat} {t : HT} {H : AHeap} (r : Rp n t H) {v : Value} {K : Li → Bool} (h : liK v t K = true) : ∃ x vb, v = .agg (cLi vb x).toArray ∧ rgLi x ∧ BQ H vb x.B ∧ K x = true := by
  unfold liK at h
  split at h
  · rename_i a b c d e
    obtain ⟨n0, rfl, w0, q1⟩ := uK_true h
    obtain ⟨n1, rfl, w1, q2⟩ := uK_true q1
    obtain ⟨n2, rfl, q3⟩ := iK_true q2
    obtain ⟨n3, rfl, q4⟩ := iK_true q3
    obtain ⟨B, hB, q5⟩ := bqK_true r q4
    exact ⟨⟨n0, n1, n2, n3, B⟩, e, rfl, ⟨w0, w1⟩, hB, q5⟩
  · cases h
noncomputable def getsH : HF := fun xs n t K => match xs with
  | [v] => bqK v t fun _ => K (.bool true) n t
  | _ => false
theorem gets3 : HFok Go.Proofs.Try.prog 0 3 getsH := HFok.of fun xs n t K h H r => by
  unfold getsH at h
  split at h
  · obtain ⟨l, h1, h2⟩ := bqK_true r h
    obtain ⟨w, H', a, rfl⟩ := t3 h1.unown
    exact ⟨_, a.pure rfl, h2⟩
  · cases h
noncomputable def putsH : HF := fun xs n t K => match xs with
  | [v0, v1, v2, v3, v4] => i6K v0 t fun _ => ouK v1 fun _ => stK v2 fun _ => loK v3 fun _ => liK v4 t fun _ => K (.bool true) n t
  | _ => false
theorem puts5 : HFok Go.Proofs.Try.prog 0 5 putsH := HFok.of fun xs n t K h H r => by
  unfold putsH at h
  split at h
  · obtain ⟨i, vc, rfl, hi, hC, h⟩ := i6K_true r h
    obtain ⟨o, rfl, ho, q1⟩ := ouK_true h
    obtain ⟨s, rfl, hs, q2⟩ := stK_true q1
    obtain ⟨g, rfl, hg, q3⟩ := loK_true q2
    obtain ⟨l, vb, rfl, hl, hB, q4⟩ := liK_true r q3
    obtain ⟨w, H', a, rfl, rfl⟩ := t5 (H := H) hi hC ho hs hg hl hB.bs
    exact ⟨_, a, q4⟩
  · cases h
noncomputable def backH : HF := fun xs n t K => match xs with
  | [v0, v1, v2, v3, v4, v5] => i6K v0 t fun _ => ouK v1 fun _ => stK v2 fun _ => loK v3 fun _ => liK v4 t fun _ => bqK v5 t fun _ => K (.bool true) n t
  | _ => false
theorem back6 : HFok Go.Proofs.Try.prog 0 6 backH := HFok.of fun xs n t K h H r => by
  unfold backH at h
  split at h
  · obtain ⟨i, vc, rfl, hi, hC, h⟩ := i6K_true r h
    obtain ⟨o, rfl, ho, q1⟩ := ouK_true h
    obtain ⟨s, rfl, hs, q2⟩ := stK_true q1
    obtain ⟨g, rfl, hg, q3⟩ := loK_true q2
    obtain ⟨l, vb, rfl, hl, hB, q4⟩ := liK_true r q3
    obtain ⟨b, hb, q5⟩ := bqK_true r q4
    obtain ⟨w, H', a, rfl, rfl⟩ := t6 (H := H) hi hC ho hs hg hl hB.bs hb
    exact ⟨_, a, q5⟩
  · cases h
noncomputable def trueH : HF := fun xs n t K => match xs with
  | [] => K (.bool true) n t
  | _ => false
theorem works11 : HFok Go.Proofs.Try.prog 0 11 trueH := HFok.of fun xs n t K h H r => by
  unfold trueH at h
  split at h
  · obtain ⟨w, H', a, rfl, rfl⟩ := t11 H
    exact ⟨_, a, h⟩
  · cases h
end Go.AM.Hk

set_option maxRecDepth 100000
namespace Go.AM.TFk
open Go.Proofs
def EFok (P : Program) (ng k : Nat) (f : EF) : Prop := ((compF P ng f.sl k).map fun af => (af.sl, af.res, simpC af.body)) = some (f.sl, f.res, f.body)
theorem ok_of {P : Program} {ng k : Nat} {f : EF} (h : EFok P ng k f) (ha : argsOK P k f.na = true) : f.ok P ng k := by
  unfold EFok at h
  simp only [Option.map_eq_some_iff, Prod.mk.injEq] at h
  obtain ⟨af, h1, h2, h3, h4⟩ := h
  exact ⟨af, h1, h2, h3, h4, ha⟩
def e7 : EF := ⟨0, [0, 1, 2, 3, 4, 5, 6, 7, 8, 9, 10, 11, 12, 13, 14, 15, 16, 46, 69, 76, 115, 117, 124, 125, 128, 131, 136, 142, 148, 154, 157, 160, 163, 166, 169, 172, 176, 195], [.t 0],
 .seq (.reg [
 ⟨.mov (.c (.bool false)), .fr 0, none⟩]) <|
 .seq (.reg [
 ⟨.build [(.int .u8 0), (.int .i64 0)] [(0, 1, (.c (.int .u8 1))), (1, 1, (.c (.int .i64 63)))], .tm, none⟩,
 ⟨.build [(.int .u8 0), (.int .i64 0)] [(0, 1, (.c (.int .u8 3))), (1, 1, (.c (.int .i64 0)))], .tm, none⟩,
 ⟨.bslice 108 2 2 [(.int .u8 0), (.int .i64 0), (.int .u8 0), (.int .i64 0)] [(0, 2, (.tm 1)), (2, 2, (.tm 0))], .tm, none⟩,
 ⟨.build [(.int .u64 0), (.int .u32 0), (.int .u32 0), (.slice none 0 0)] [(0, 1, (.c (.int .u64 3))), (1, 1, (.c (.int .u32 4))), (2, 1, (.c (.int .u32 5))), (3, 1, (.tm 0))], .tm, none⟩,
 ⟨.build [(.int .u8 0), (.int .i64 0), (.int .u64 0), (.int .u32 0), (.int .u32 0), (.slice none 0 0)] [(0, 1, (.c (.int .u8 1))), (1, 1, (.c (.int .i64 5))), (2, 4, (.tm 0))], .tm, none⟩,
 ⟨.new 30 6 [(.int .u8 0), (.int .i64 0), (.int .u64 0), (.int .u32 0), (.int .u32 0), (.slice none 0 0)], .fr 1, none⟩,
 ⟨.storen 6 (.fr 1) (.tm 0), .no, none⟩]) <|
 .seq (.reg [
 ⟨.build [(.int .u8 0), (.int .i64 0), (.int .i64 0), (.int .u64 0), (.int .u32 0)] [(0, 1, (.c (.int .u8 2))), (1, 1, (.c (.int .i64 1099511627776))), (2, 1, (.c (.int .i64 1)))], .tm, none⟩,
 ⟨.new 42 5 [(.int .u8 0), (.int .i64 0), (.int .i64 0), (.int .u64 0), (.int .u32 0)], .fr 2, none⟩,
 ⟨.storen 5 (.fr 2) (.tm 0), .no, none⟩]) <|
 .seq (.reg [
 ⟨.build [(.int .u64 0), (.int .u64 0), (.int .u64 0), (.int .u8 0), (.int .u8 0), (.int .u8 0), (.int .u8 0), (.int .u8 0), (.int .u8 0), (.int .u8 0), (.int .u8 0), (.int .u8 0), (.int .u8 0), (.int .u8 0), (.int .u8 0), (.int .u8 0), (.int .u8 0), (.int .u8 0), (.int .u8 0), (.int .u8 0), (.int .u8 0), (.int .u8 0), (.int .u8 0), (.int .u8 0), (.int .u8 0), (.int .u8 0), (.int .u8 0), (.int .u8 0), (.int .u8 0), (.int .u8 0), (.int .u8 0), (.int .u8 0), (.int .u8 0), (.int .u8 0), (.int .u8 0), (.int .u8 0), (.int .u8 0), (.int .u8 0), (.int .u8 0), (.int .u8 0), (.int .u8 0), (.int .u8 0), (.int .u8 0), (.int .u8 0), (.int .u8 0), (.int .u8 0), (.int .u8 0), (.int .u8 0), (.int .u8 0), (.int .u8 0), (.int .u8 0), (.int .u8 0), (.int .u8 0), (.int .u8 0), (.int .u8 0), (.int .u8 0), (.int .u8 0), (.int .u8 0), (.int .u8 0), (.int .u8 0), (.int .u8 0), (.int .u8 0), (.int .u8 0), (.int .u8 0), (.int .u8 0), (.int .u8 0), (.int .u8 0), (.int .u32 0)] [(0, 1, (.c (.int .u64 1))), (1, 1, (.c (.int .u64 2))), (2, 1, (.c (.int .u64 3))), (67, 1, (.c (.int .u32 4)))], .tm, none⟩,
 ⟨.new 51 68 [(.int .u64 0), (.int .u64 0), (.int .u64 0), (.int .u8 0), (.int .u8 0), (.int .u8 0), (.int .u8 0), (.int .u8 0), (.int .u8 0), (.int .u8 0), (.int .u8 0), (.int .u8 0), (.int .u8 0), (.int .u8 0), (.int .u8 0), (.int .u8 0), (.int .u8 0), (.int .u8 0), (.int .u8 0), (.int .u8 0), (.int .u8 0), (.int .u8 0), (.int .u8 0), (.int .u8 0), (.int .u8 0), (.int .u8 0), (.int .u8 0), (.int .u8 0), (.int .u8 0), (.int .u8 0), (.int .u8 0), (.int .u8 0), (.int .u8 0), (.int .u8 0), (.int .u8 0), (.int .u8 0), (.int .u8 0), (.int .u8 0), (.int .u8 0), (.int .u8 0), (.int .u8 0), (.int .u8 0), (.int .u8 0), (.int .u8 0), (.int .u8 0), (.int .u8 0), (.int .u8 0), (.int .u8 0), (.int .u8 0), (.int .u8 0), (.int .u8 0), (.int .u8 0), (.int .u8 0), (.int .u8 0), (.int .u8 0), (.int .u8 0), (.int .u8 0), (.int .u8 0), (.int .u8 0), (.int .u8 0), (.int .u8 0), (.int .u8 0), (.int .u8 0), (.int .u8 0), (.int .u8 0), (.int .u8 0), (.int .u8 0), (.int .u32 0)], .fr 3, none⟩,
 ⟨.storen 68 (.fr 3) (.tm 0), .no, none⟩]) <|
 .seq (.reg [
 ⟨.faddr 3 (.fr 3), .tm, none⟩,
 ⟨.iaddrp 1 64 (.tm 0) (.c (.int .i64 63)), .tm, none⟩,
 ⟨.store1 (.tm 0) (.c (.int .u8 9)), .no, none⟩]) <|
 .seq (.reg [
 ⟨.loadn 68 (.fr 3), .tm, none⟩,
 ⟨.build [(.int .i64 0), (.int .i64 0), (.int .u64 0), (.int .u64 0), (.int .u64 0), (.int .u8 0), (.int .u8 0), (.int .u8 0), (.int .u8 0), (.int .u8 0), (.int .u8 0), (.int .u8 0), (.int .u8 0), (.int .u8 0), (.int .u8 0), (.int .u8 0), (.int .u8 0), (.int .u8 0), (.int .u8 0), (.int .u8 0), (.int .u8 0), (.int .u8 0), (.int .u8 0), (.int .u8 0), (.int .u8 0), (.int .u8 0), (.int .u8 0), (.int .u8 0), (.int .u8 0), (.int .u8 0), (.int .u8 0), (.int .u8 0), (.int .u8 0), (.int .u8 0), (.int .u8 0), (.int .u8 0), (.int .u8 0), (.int .u8 0), (.int .u8 0), (.int .u8 0), (.int .u8 0), (.int .u8 0), (.int .u8 0), (.int .u8 0), (.int .u8 0), (.int .u8 0), (.int .u8 0), (.int .u8 0), (.int .u8 0), (.int .u8 0), (.int .u8 0), (.int .u8 0), (.int .u8 0), (.int .u8 0), (.int .u8 0), (.int .u8 0), (.int .u8 0), (.int .u8 0), (.int .u8 0), (.int .u8 0), (.int .u8 0), (.int .u8 0), (.int .u8 0), (.int .u8 0), (.int .u8 0), (.int .u8 0), (.int .u8 0), (.int .u8 0), (.int .u8 0), (.int .u32 0)] [(0, 1, (.c (.int .i64 3))), (1, 1, (.c (.int .i64 4))), (2, 68, (.tm 0))], .tm, none⟩,
 ⟨.new 57 70 [(.int .i64 0), (.int .i64 0), (.int .u64 0), (.int .u64 0), (.int .u64 0), (.int .u8 0), (.int .u8 0), (.int .u8 0), (.int .u8 0), (.int .u8 0), (.int .u8 0), (.int .u8 0), (.int .u8 0), (.int .u8 0), (.int .u8 0), (.int .u8 0), (.int .u8 0), (.int .u8 0), (.int .u8 0), (.int .u8 0), (.int .u8 0), (.int .u8 0), (.int .u8 0), (.int .u8 0), (.int .u8 0), (.int .u8 0), (.int .u8 0), (.int .u8 0), (.int .u8 0), (.int .u8 0), (.int .u8 0), (.int .u8 0), (.int .u8 0), (.int .u8 0), (.int .u8 0), (.int .u8 0), (.int .u8 0), (.int .u8 0), (.int .u8 0), (.int .u8 0), (.int .u8 0), (.int .u8 0), (.int .u8 0), (.int .u8 0), (.int .u8 0), (.int .u8 0), (.int .u8 0), (.int .u8 0), (.int .u8 0), (.int .u8 0), (.int .u8 0), (.int .u8 0), (.int .u8 0), (.int .u8 0), (.int .u8 0), (.int .u8 0), (.int .u8 0), (.int .u8 0), (.int .u8 0), (.int .u8 0), (.int .u8 0), (.int .u8 0), (.int .u8 0), (.int .u8 0), (.int .u8 0), (.int .u8 0), (.int .u8 0), (.int .u8 0), (.int .u8 0), (.int .u32 0)], .fr 4, none⟩,
 ⟨.storen 70 (.fr 4) (.tm 0), .no, none⟩]) <|
 .seq (.reg [
 ⟨.bslice 5 1 2 [(.int .u8 0), (.int .u8 0)] [(0, 1, (.c (.int .u8 97))), (1, 1, (.c (.int .u8 98)))], .tm, none⟩,
 ⟨.mark (.tm 0), .tm, none⟩,
 ⟨.build [(.int .u8 0), (.int .u8 0), (.int .i64 0), (.int .i64 0), (.slice none 0 0)] [(0, 1, (.c (.int .u8 1))), (1, 1, (.c (.int .u8 2))), (2, 1, (.c (.int .i64 3))), (3, 1, (.c (.int .i64 4611686018427387904))), (4, 1, (.tm 0))], .tm, none⟩,
 ⟨.new 65 5 [(.int .u8 0), (.int .u8 0), (.int .i64 0), (.int .i64 0), (.slice none 0 0)], .fr 5, none⟩,
 ⟨.storen 5 (.fr 5) (.tm 0), .no, none⟩]) <|
 .seq (.dreg [
 (⟨.loadn 6 (.fr 1), .tm, none⟩, []),
 (⟨.callf 44 [(.tm 0)], .tm, none⟩, []),
 (⟨.loadn 5 (.fr 2), .tm, none⟩, [1]),
 (⟨.callf 45 [(.tm 0)], .tm, none⟩, []),
 (⟨.loadn 68 (.fr 3), .tm, none⟩, [1, 3]),
 (⟨.callf 46 [(.tm 0)], .tm, none⟩, []),
 (⟨.loadn 70 (.fr 4), .tm, none⟩, [1, 3, 5]),
 (⟨.callf 47 [(.tm 0)], .tm, none⟩, []),
 (⟨.loadn 5 (.fr 5), .tm, none⟩, [1, 3, 5, 7]),
 (⟨.callf 36 [(.tm 0)], .tm, none⟩, []),
 (⟨.bslice 22 1 5 [(.slice none 0 0), (.slice none 0 0), (.slice none 0 0), (.slice none 0 0), (.slice none 0 0)] [(0, 1, (.tm 8)), (1, 1, (.tm 6)), (2, 1, (.tm 4)), (3, 1, (.tm 2)), (4, 1, (.tm 0))], .tm, none⟩, []),
 (⟨.mov (.tm 0), .fr 6, none⟩, [])]) <|
 .seq (.reg [
 ⟨.bslice 3 1 5 [(.int .i64 0), (.int .i64 0), (.int .i64 0), (.int .i64 0), (.int .i64 0)] [(0, 1, (.c (.int .i64 35))), (1, 1, (.c (.int .i64 34))), (2, 1, (.c (.int .i64 97))), (3, 1, (.c (.int .i64 113))), (4, 1, (.c (.int .i64 27)))], .tm, none⟩,
 ⟨.mov (.tm 0), .fr 7, none⟩]) <|
 .seq (.seq (.reg [
 ⟨.mov (.c (.int .i64 0)), .fr 8, none⟩]) <|
 .block 0 (.loop (.seq (.seq (.reg [
 ⟨.mov (.fr 8), .tm, none⟩,
 ⟨.mov (.fr 6), .tm, none⟩,
 ⟨.len false (.tm 0), .tm, none⟩,
 ⟨.bin .lss (.tm 2) (.tm 0), .fr 17, none⟩]) <|
 .cond (.fr 17)
 (.skip)
 (.exit 0)) <|
 .seq (.block 1 (.seq (.seq (.reg [
 ⟨.mov (.fr 6), .tm, none⟩,
 ⟨.mov (.fr 8), .tm, none⟩,
 ⟨.iaddr 1 (.tm 1) (.tm 0), .tm, none⟩,
 ⟨.load1 (.tm 0), .tm, none⟩,
 ⟨.len false (.tm 0), .tm, none⟩,
 ⟨.mov (.fr 7), .tm, none⟩,
 ⟨.mov (.fr 8), .tm, none⟩,
 ⟨.iaddr 1 (.tm 1) (.tm 0), .tm, none⟩,
 ⟨.load1 (.tm 0), .tm, none⟩,
 ⟨.bin .neq (.tm 4) (.tm 0), .tm, none⟩,
 ⟨.mov (.tm 0), .tm, none⟩,
 ⟨.mov (.fr 6), .tm, some ((.tm 0), false)⟩,
 ⟨.mov (.fr 8), .tm, some ((.tm 1), false)⟩,
 ⟨.iaddr 1 (.tm 1) (.tm 0), .tm, some ((.tm 2), false)⟩,
 ⟨.load1 (.tm 0), .tm, some ((.tm 3), false)⟩,
 ⟨.callf 28 [(.tm 0)], .tm, some ((.tm 4), false)⟩,
 ⟨.mov (.fr 8), .tm, some ((.tm 5), false)⟩,
 ⟨.bin .add (.tm 0) (.c (.int .i64 1)), .tm, some ((.tm 6), false)⟩,
 ⟨.i2i .u8 (.tm 0), .tm, some ((.tm 7), false)⟩,
 ⟨.bin .neq (.tm 3) (.tm 0), .tm, some ((.tm 8), false)⟩,
 ⟨.pick (.tm 9) (.c (.bool true)) (.tm 0), .fr 18, none⟩]) <|
 .cond (.fr 18)
 (.seq (.reg [
 ⟨.mov (.c (.bool false)), .fr 0, none⟩]) <|
 .ret)
 (.skip)) <|
 .seq (.reg [
 ⟨.mov (.c (.int .i64 0)), .fr 9, none⟩]) <|
 .block 2 (.loop (.seq (.seq (.reg [
 ⟨.mov (.fr 9), .tm, none⟩,
 ⟨.mov (.fr 6), .tm, none⟩,
 ⟨.mov (.fr 8), .tm, none⟩,
 ⟨.iaddr 1 (.tm 1) (.tm 0), .tm, none⟩,
 ⟨.load1 (.tm 0), .tm, none⟩,
 ⟨.len false (.tm 0), .tm, none⟩,
 ⟨.bin .lss (.tm 5) (.tm 0), .fr 19, none⟩]) <|
 .cond (.fr 19)
 (.skip)
 (.exit 2)) <|
 .seq (.block 3 (.seq (.reg [
 ⟨.mov (.fr 6), .tm, none⟩,
 ⟨.mov (.fr 8), .tm, none⟩,
 ⟨.iaddr 1 (.tm 1) (.tm 0), .tm, none⟩,
 ⟨.load1 (.tm 0), .tm, none⟩,
 ⟨.b2s (.tm 0), .tm, none⟩,
 ⟨.s2b 5 (.tm 0), .tm, none⟩,
 ⟨.mov (.tm 0), .fr 10, none⟩]) <|
 .seq (.reg [
 ⟨.mov (.fr 10), .tm, none⟩,
 ⟨.mov (.fr 9), .tm, none⟩,
 ⟨.mov (.fr 10), .tm, none⟩,
 ⟨.mov (.fr 9), .tm, none⟩,
 ⟨.iaddr 1 (.tm 1) (.tm 0), .tm, none⟩,
 ⟨.load1 (.tm 0), .tm, none⟩,
 ⟨.bin .xor (.tm 0) (.c (.int .u8 64)), .tm, none⟩,
 ⟨.iaddr 1 (.tm 6) (.tm 5), .tm, none⟩,
 ⟨.store1 (.tm 0) (.tm 1), .no, none⟩]) <|
 .seq (.reg [
 ⟨.mov (.fr 10), .tm, none⟩,
 ⟨.callf 3 [(.tm 0)], .tm, none⟩,
 ⟨.un .not (.tm 0), .tm, none⟩,
 ⟨.mov (.tm 0), .tm, none⟩,
 ⟨.mov (.fr 6), .tm, some ((.tm 0), false)⟩,
 ⟨.mov (.fr 8), .tm, some ((.tm 1), false)⟩,
 ⟨.iaddr 1 (.tm 1) (.tm 0), .tm, some ((.tm 2), false)⟩,
 ⟨.load1 (.tm 0), .tm, some ((.tm 3), false)⟩,
 ⟨.mov (.fr 9), .tm, some ((.tm 4), false)⟩,
 ⟨.slsl 1 (.tm 1) none (some (.tm 0)) none, .tm, some ((.tm 5), false)⟩,
 ⟨.callf 3 [(.tm 0)], .tm, some ((.tm 6), false)⟩,
 ⟨.un .not (.tm 0), .tm, some ((.tm 7), false)⟩,
 ⟨.pick (.tm 8) (.c (.bool true)) (.tm 0), .tm, none⟩,
 ⟨.mov (.tm 0), .tm, none⟩,
 ⟨.loadn 6 (.fr 1), .tm, some ((.tm 0), false)⟩,
 ⟨.loadn 5 (.fr 2), .tm, some ((.tm 1), false)⟩,
 ⟨.loadn 68 (.fr 3), .tm, some ((.tm 2), false)⟩,
 ⟨.loadn 70 (.fr 4), .tm, some ((.tm 3), false)⟩,
 ⟨.loadn 5 (.fr 5), .tm, some ((.tm 4), false)⟩,
 ⟨.mov (.fr 10), .tm, some ((.tm 5), false)⟩,
 ⟨.callf 6 [(.tm 5), (.tm 4), (.tm 3), (.tm 2), (.tm 1), (.tm 0)], .tm, some ((.tm 6), false)⟩,
 ⟨.un .not (.tm 0), .tm, some ((.tm 7), false)⟩,
 ⟨.pick (.tm 8) (.c (.bool true)) (.tm 0), .fr 20, none⟩]) <|
 .cond (.fr 20)
 (.seq (.reg [
 ⟨.mov (.c (.bool false)), .fr 0, none⟩]) <|
 .ret)
 (.skip))) <|
 .reg [
 ⟨.mov (.fr 9), .tm, none⟩,
 ⟨.bin .add (.tm 0) (.c (.int .i64 1)), .tm, none⟩,
 ⟨.mov (.tm 0), .fr 9, none⟩])))) <|
 .reg [
 ⟨.mov (.fr 8), .tm, none⟩,
 ⟨.bin .add (.tm 0) (.c (.int .i64 1)), .tm, none⟩,
 ⟨.mov (.tm 0), .fr 8, none⟩]))) <|
 .seq (.seq (.reg [
 ⟨.mov (.c (.int .i64 0)), .fr 11, none⟩]) <|
 .block 4 (.loop (.seq (.seq (.reg [
 ⟨.mov (.fr 11), .tm, none⟩,
 ⟨.bin .lss (.tm 0) (.c (.int .i64 14)), .fr 21, none⟩]) <|
 .cond (.fr 21)
 (.skip)
 (.exit 4)) <|
 .seq (.block 5 (.seq (.dreg [
 (⟨.loadn 6 (.fr 1), .tm, none⟩, []),
 (⟨.loadn 5 (.fr 2), .tm, none⟩, []),
 (⟨.loadn 70 (.fr 4), .tm, none⟩, []),
 (⟨.loadn 5 (.fr 5), .tm, none⟩, []),
 (⟨.new 30 6 [(.int .u8 0), (.int .i64 0), (.int .u64 0), (.int .u32 0), (.int .u32 0), (.slice none 0 0)], .fr 12, none⟩, []),
 (⟨.new 42 5 [(.int .u8 0), (.int .i64 0), (.int .i64 0), (.int .u64 0), (.int .u32 0)], .fr 13, none⟩, []),
 (⟨.new 57 70 [(.int .i64 0), (.int .i64 0), (.int .u64 0), (.int .u64 0), (.int .u64 0), (.int .u8 0), (.int .u8 0), (.int .u8 0), (.int .u8 0), (.int .u8 0), (.int .u8 0), (.int .u8 0), (.int .u8 0), (.int .u8 0), (.int .u8 0), (.int .u8 0), (.int .u8 0), (.int .u8 0), (.int .u8 0), (.int .u8 0), (.int .u8 0), (.int .u8 0), (.int .u8 0), (.int .u8 0), (.int .u8 0), (.int .u8 0), (.int .u8 0), (.int .u8 0), (.int .u8 0), (.int .u8 0), (.int .u8 0), (.int .u8 0), (.int .u8 0), (.int .u8 0), (.int .u8 0), (.int .u8 0), (.int .u8 0), (.int .u8 0), (.int .u8 0), (.int .u8 0), (.int .u8 0), (.int .u8 0), (.int .u8 0), (.int .u8 0), (.int .u8 0), (.int .u8 0), (.int .u8 0), (.int .u8 0), (.int .u8 0), (.int .u8 0), (.int .u8 0), (.int .u8 0), (.int .u8 0), (.int .u8 0), (.int .u8 0), (.int .u8 0), (.int .u8 0), (.int .u8 0), (.int .u8 0), (.int .u8 0), (.int .u8 0), (.int .u8 0), (.int .u8 0), (.int .u8 0), (.int .u8 0), (.int .u8 0), (.int .u8 0), (.int .u8 0), (.int .u8 0), (.int .u32 0)], .fr 14, none⟩, []),
 (⟨.new 65 5 [(.int .u8 0), (.int .u8 0), (.int .i64 0), (.int .i64 0), (.slice none 0 0)], .fr 15, none⟩, []),
 (⟨.storen 6 (.fr 12) (.tm 3), .no, none⟩, [1, 2, 3]),
 (⟨.storen 5 (.fr 13) (.tm 2), .no, none⟩, [2, 3]),
 (⟨.storen 70 (.fr 14) (.tm 1), .no, none⟩, [3]),
 (⟨.storen 5 (.fr 15) (.tm 0), .no, none⟩, [])]) <|
 .seq (.seq (.reg [
 ⟨.mov (.fr 11), .fr 22, none⟩]) <|
 .block 6 (.seq (.reg [
 ⟨.bin .eql (.fr 22) (.c (.int .i64 0)), .tm, none⟩,
 ⟨.mov (.tm 0), .fr 23, none⟩]) <|
 .cond (.fr 23)
 (.reg [
 ⟨.faddr 1 (.fr 12), .tm, none⟩,
 ⟨.store1 (.tm 0) (.c (.int .i64 (-1))), .no, none⟩])
 (.seq (.reg [
 ⟨.bin .eql (.fr 22) (.c (.int .i64 1)), .tm, none⟩,
 ⟨.mov (.tm 0), .fr 24, none⟩]) <|
 .cond (.fr 24)
 (.reg [
 ⟨.faddr 1 (.fr 12), .tm, none⟩,
 ⟨.store1 (.tm 0) (.c (.int .i64 1099511627777)), .no, none⟩])
 (.seq (.reg [
 ⟨.bin .eql (.fr 22) (.c (.int .i64 2)), .tm, none⟩,
 ⟨.mov (.tm 0), .fr 25, none⟩]) <|
 .cond (.fr 25)
 (.reg [
 ⟨.mksl 108 2 16 [(.int .u8 0), (.int .i64 0)] (.c (.int .i64 9)) (.c (.int .i64 9)), .tm, none⟩,
 ⟨.faddr 2 (.fr 12), .tm, none⟩,
 ⟨.faddr 3 (.tm 0), .tm, none⟩,
 ⟨.store1 (.tm 0) (.tm 2), .no, none⟩])
 (.seq (.reg [
 ⟨.bin .eql (.fr 22) (.c (.int .i64 3)), .tm, none⟩,
 ⟨.mov (.tm 0), .fr 26, none⟩]) <|
 .cond (.fr 26)
 (.reg [
 ⟨.build [(.int .u8 0), (.int .i64 0)] [(0, 1, (.c (.int .u8 4)))], .tm, none⟩,
 ⟨.bslice 108 2 1 [(.int .u8 0), (.int .i64 0)] [(0, 2, (.tm 0))], .tm, none⟩,
 ⟨.faddr 2 (.fr 12), .tm, none⟩,
 ⟨.faddr 3 (.tm 0), .tm, none⟩,
 ⟨.store1 (.tm 0) (.tm 2), .no, none⟩])
 (.seq (.reg [
 ⟨.bin .eql (.fr 22) (.c (.int .i64 4)), .tm, none⟩,
 ⟨.mov (.tm 0), .fr 27, none⟩]) <|
 .cond (.fr 27)
 (.reg [
 ⟨.build [(.int .u8 0), (.int .i64 0)] [(0, 1, (.c (.int .u8 1))), (1, 1, (.c (.int .i64 64)))], .tm, none⟩,
 ⟨.bslice 108 2 1 [(.int .u8 0), (.int .i64 0)] [(0, 2, (.tm 0))], .tm, none⟩,
 ⟨.faddr 2 (.fr 12), .tm, none⟩,
 ⟨.faddr 3 (.tm 0), .tm, none⟩,
 ⟨.store1 (.tm 0) (.tm 2), .no, none⟩])
 (.seq (.reg [
 ⟨.bin .eql (.fr 22) (.c (.int .i64 5)), .tm, none⟩,
 ⟨.mov (.tm 0), .fr 28, none⟩]) <|
 .cond (.fr 28)
 (.reg [
 ⟨.build [(.int .u8 0), (.int .i64 0)] [(0, 1, (.c (.int .u8 1))), (1, 1, (.c (.int .i64 (-1))))], .tm, none⟩,
 ⟨.bslice 108 2 1 [(.int .u8 0), (.int .i64 0)] [(0, 2, (.tm 0))], .tm, none⟩,
 ⟨.faddr 2 (.fr 12), .tm, none⟩,
 ⟨.faddr 3 (.tm 0), .tm, none⟩,
 ⟨.store1 (.tm 0) (.tm 2), .no, none⟩])
 (.seq (.reg [
 ⟨.bin .eql (.fr 22) (.c (.int .i64 6)), .tm, none⟩,
 ⟨.mov (.tm 0), .fr 29, none⟩]) <|
 .cond (.fr 29)
 (.reg [
 ⟨.faddr 2 (.fr 13), .tm, none⟩,
 ⟨.store1 (.tm 0) (.c (.int .i64 (-1))), .no, none⟩])
 (.seq (.reg [
 ⟨.bin .eql (.fr 22) (.c (.int .i64 7)), .tm, none⟩,
 ⟨.mov (.tm 0), .fr 30, none⟩]) <|
 .cond (.fr 30)
 (.reg [
 ⟨.faddr 1 (.fr 13), .tm, none⟩,
 ⟨.store1 (.tm 0) (.c (.int .i64 (-1))), .no, none⟩])
 (.seq (.reg [
 ⟨.bin .eql (.fr 22) (.c (.int .i64 8)), .tm, none⟩,
 ⟨.mov (.tm 0), .fr 31, none⟩]) <|
 .cond (.fr 31)
 (.reg [
 ⟨.faddr 0 (.fr 14), .tm, none⟩,
 ⟨.store1 (.tm 0) (.c (.int .i64 1099511627777)), .no, none⟩])
 (.seq (.reg [
 ⟨.bin .eql (.fr 22) (.c (.int .i64 9)), .tm, none⟩,
 ⟨.mov (.tm 0), .fr 32, none⟩]) <|
 .cond (.fr 32)
 (.reg [
 ⟨.faddr 1 (.fr 14), .tm, none⟩,
 ⟨.store1 (.tm 0) (.c (.int .i64 (-1))), .no, none⟩])
 (.seq (.reg [
 ⟨.bin .eql (.fr 22) (.c (.int .i64 10)), .tm, none⟩,
 ⟨.mov (.tm 0), .fr 33, none⟩]) <|
 .cond (.fr 33)
 (.reg [
 ⟨.faddr 2 (.fr 15), .tm, none⟩,
 ⟨.store1 (.tm 0) (.c (.int .i64 (-1))), .no, none⟩])
 (.seq (.reg [
 ⟨.bin .eql (.fr 22) (.c (.int .i64 11)), .tm, none⟩,
 ⟨.mov (.tm 0), .fr 34, none⟩]) <|
 .cond (.fr 34)
 (.reg [
 ⟨.faddr 3 (.fr 15), .tm, none⟩,
 ⟨.store1 (.tm 0) (.c (.int .i64 4611686018427387905)), .no, none⟩])
 (.seq (.reg [
 ⟨.bin .eql (.fr 22) (.c (.int .i64 12)), .tm, none⟩,
 ⟨.mov (.tm 0), .fr 35, none⟩]) <|
 .cond (.fr 35)
 (.reg [
 ⟨.mksl 5 1 1 [(.int .u8 0)] (.c (.int .i64 2049)) (.c (.int .i64 2049)), .tm, none⟩,
 ⟨.faddr 4 (.fr 15), .tm, none⟩,
 ⟨.store1 (.tm 0) (.tm 1), .no, none⟩])
 (.seq (.reg [
 ⟨.bin .eql (.fr 22) (.c (.int .i64 13)), .tm, none⟩,
 ⟨.mov (.tm 0), .fr 36, none⟩]) <|
 .cond (.fr 36)
 (.reg [
 ⟨.mksl 5 1 1 [(.int .u8 0)] (.c (.int .i64 2048)) (.c (.int .i64 2048)), .tm, none⟩,
 ⟨.faddr 4 (.fr 15), .tm, none⟩,
 ⟨.store1 (.tm 0) (.tm 1), .no, none⟩])
 (.skip)))))))))))))))) <|
 .seq (.reg [
 ⟨.loadn 6 (.fr 12), .tm, none⟩,
 ⟨.loadn 5 (.fr 13), .tm, none⟩,
 ⟨.loadn 68 (.fr 3), .tm, none⟩,
 ⟨.loadn 70 (.fr 14), .tm, none⟩,
 ⟨.loadn 5 (.fr 15), .tm, none⟩,
 ⟨.callf 5 [(.tm 4), (.tm 3), (.tm 2), (.tm 1), (.tm 0)], .tm, none⟩,
 ⟨.un .not (.tm 0), .tm, none⟩,
 ⟨.mov (.tm 0), .tm, none⟩,
 ⟨.loadn 6 (.fr 12), .tm, some ((.tm 0), false)⟩,
 ⟨.loadn 5 (.fr 13), .tm, some ((.tm 1), false)⟩,
 ⟨.loadn 68 (.fr 3), .tm, some ((.tm 2), false)⟩,
 ⟨.loadn 70 (.fr 14), .tm, some ((.tm 3), false)⟩,
 ⟨.loadn 5 (.fr 15), .tm, some ((.tm 4), false)⟩,
 ⟨.callf 6 [(.tm 4), (.tm 3), (.tm 2), (.tm 1), (.tm 0), (.c (.slice none 0 0))], .tm, some ((.tm 5), false)⟩,
 ⟨.un .not (.tm 0), .tm, some ((.tm 6), false)⟩,
 ⟨.pick (.tm 7) (.c (.bool true)) (.tm 0), .fr 37, none⟩]) <|
 .cond (.fr 37)
 (.seq (.reg [
 ⟨.mov (.c (.bool false)), .fr 0, none⟩]) <|
 .ret)
 (.skip))) <|
 .reg [
 ⟨.mov (.fr 11), .tm, none⟩,
 ⟨.bin .add (.tm 0) (.c (.int .i64 1)), .tm, none⟩,
 ⟨.mov (.tm 0), .fr 11, none⟩]))) <|
 .seq (.reg [
 ⟨.build [(.int .i64 0), (.int .i64 0), (.int .u64 0), (.int .u64 0), (.int .u64 0), (.int .u8 0), (.int .u8 0), (.int .u8 0), (.int .u8 0), (.int .u8 0), (.int .u8 0), (.int .u8 0), (.int .u8 0), (.int .u8 0), (.int .u8 0), (.int .u8 0), (.int .u8 0), (.int .u8 0), (.int .u8 0), (.int .u8 0), (.int .u8 0), (.int .u8 0), (.int .u8 0), (.int .u8 0), (.int .u8 0), (.int .u8 0), (.int .u8 0), (.int .u8 0), (.int .u8 0), (.int .u8 0), (.int .u8 0), (.int .u8 0), (.int .u8 0), (.int .u8 0), (.int .u8 0), (.int .u8 0), (.int .u8 0), (.int .u8 0), (.int .u8 0), (.int .u8 0), (.int .u8 0), (.int .u8 0), (.int .u8 0), (.int .u8 0), (.int .u8 0), (.int .u8 0), (.int .u8 0), (.int .u8 0), (.int .u8 0), (.int .u8 0), (.int .u8 0), (.int .u8 0), (.int .u8 0), (.int .u8 0), (.int .u8 0), (.int .u8 0), (.int .u8 0), (.int .u8 0), (.int .u8 0), (.int .u8 0), (.int .u8 0), (.int .u8 0), (.int .u8 0), (.int .u8 0), (.int .u8 0), (.int .u8 0), (.int .u8 0), (.int .u8 0), (.int .u8 0), (.int .u32 0)] [], .tm, none⟩,
 ⟨.bslice 5 1 1 [(.int .u8 0)] [(0, 1, (.c (.int .u8 7)))], .tm, none⟩,
 ⟨.build [(.int .u8 0), (.int .u8 0), (.int .i64 0), (.int .i64 0), (.slice none 0 0)] [(4, 1, (.tm 0))], .tm, none⟩,
 ⟨.callf 54 [(.tm 2), (.tm 0), (.c (.slice none 0 0)), (.c (.int .u16 0)), (.c (.int .u16 175)), (.c (.int .u32 1091006939))], .tm, none⟩,
 ⟨.mov (.tm 0), .tm, none⟩,
 ⟨.build [(.int .i64 0), (.int .i64 0), (.int .u64 0), (.int .u64 0), (.int .u64 0), (.int .u8 0), (.int .u8 0), (.int .u8 0), (.int .u8 0), (.int .u8 0), (.int .u8 0), (.int .u8 0), (.int .u8 0), (.int .u8 0), (.int .u8 0), (.int .u8 0), (.int .u8 0), (.int .u8 0), (.int .u8 0), (.int .u8 0), (.int .u8 0), (.int .u8 0), (.int .u8 0), (.int .u8 0), (.int .u8 0), (.int .u8 0), (.int .u8 0), (.int .u8 0), (.int .u8 0), (.int .u8 0), (.int .u8 0), (.int .u8 0), (.int .u8 0), (.int .u8 0), (.int .u8 0), (.int .u8 0), (.int .u8 0), (.int .u8 0), (.int .u8 0), (.int .u8 0), (.int .u8 0), (.int .u8 0), (.int .u8 0), (.int .u8 0), (.int .u8 0), (.int .u8 0), (.int .u8 0), (.int .u8 0), (.int .u8 0), (.int .u8 0), (.int .u8 0), (.int .u8 0), (.int .u8 0), (.int .u8 0), (.int .u8 0), (.int .u8 0), (.int .u8 0), (.int .u8 0), (.int .u8 0), (.int .u8 0), (.int .u8 0), (.int .u8 0), (.int .u8 0), (.int .u8 0), (.int .u8 0), (.int .u8 0), (.int .u8 0), (.int .u8 0), (.int .u8 0), (.int .u32 0)] [], .tm, some ((.tm 0), true)⟩,
 ⟨.build [(.int .u8 0), (.int .u8 0), (.int .i64 0), (.int .i64 0), (.slice none 0 0)] [(2, 1, (.c (.int .i64 (-1))))], .tm, some ((.tm 1), true)⟩,
 ⟨.callf 54 [(.tm 1), (.tm 0), (.c (.slice none 0 0)), (.c (.int .u16 0)), (.c (.int .u16 871)), (.c (.int .u32 1091006939))], .tm, some ((.tm 2), true)⟩,
 ⟨.pick (.tm 3) (.tm 0) (.c (.bool false)), .tm, none⟩,
 ⟨.mov (.tm 0), .tm, none⟩,
 ⟨.loadn 70 (.fr 4), .tm, some ((.tm 0), true)⟩,
 ⟨.loadn 5 (.fr 5), .tm, some ((.tm 1), true)⟩,
 ⟨.bslice 5 1 1 [(.int .u8 0)] [(0, 1, (.c (.int .u8 0)))], .tm, some ((.tm 2), true)⟩,
 ⟨.callf 54 [(.tm 2), (.tm 1), (.tm 0), (.c (.int .u16 3)), (.c (.int .u16 872)), (.c (.int .u32 4294967295))], .tm, some ((.tm 3), true)⟩,
 ⟨.pick (.tm 4) (.tm 0) (.c (.bool false)), .tm, none⟩,
 ⟨.mov (.tm 0), .fr 16, none⟩]) <|
 .seq (.reg [
 ⟨.mov (.fr 16), .tm, none⟩,
 ⟨.mov (.tm 0), .tm, none⟩,
 ⟨.callf 28 [(.c (.slice none 0 0))], .tm, some ((.tm 0), true)⟩,
 ⟨.bin .eql (.tm 0) (.c (.int .u8 0)), .tm, some ((.tm 1), true)⟩,
 ⟨.pick (.tm 2) (.tm 0) (.c (.bool false)), .tm, none⟩,
 ⟨.mov (.tm 0), .tm, none⟩,
 ⟨.callf 11 [], .tm, some ((.tm 0), true)⟩,
 ⟨.pick (.tm 1) (.tm 0) (.c (.bool false)), .tm, none⟩,
 ⟨.mov (.tm 0), .fr 0, none⟩]) <|
 .ret⟩
def e54 : EF := ⟨6, [0, 1, 2, 3, 4, 5, 6, 7, 12, 13, 14, 15, 16, 17, 18, 19, 20, 22, 24, 33, 41, 50, 59, 75, 94, 119, 143], [.t 8],
 .seq (.reg [
 ⟨.box 57 70 (.fr 0), .fr 6, none⟩,
 ⟨.box 65 5 (.fr 1), .fr 7, none⟩,
 ⟨.mov (.c (.bool false)), .fr 8, none⟩]) <|
 .seq (.seq (.reg [
 ⟨.faddr 4 (.fr 7), .tm, none⟩,
 ⟨.load1 (.tm 0), .tm, none⟩,
 ⟨.len false (.tm 0), .tm, none⟩,
 ⟨.bin .gtr (.tm 0) (.c (.int .i64 500)), .tm, none⟩,
 ⟨.mov (.tm 0), .tm, none⟩,
 ⟨.mov (.fr 2), .tm, some ((.tm 0), false)⟩,
 ⟨.len false (.tm 0), .tm, some ((.tm 1), false)⟩,
 ⟨.bin .gtr (.tm 0) (.c (.int .i64 500)), .tm, some ((.tm 2), false)⟩,
 ⟨.pick (.tm 3) (.c (.bool true)) (.tm 0), .fr 19, none⟩]) <|
 .cond (.fr 19)
 (.seq (.reg [
 ⟨.callf 11 [], .tm, none⟩,
 ⟨.mov (.tm 0), .fr 8, none⟩]) <|
 .ret)
 (.skip)) <|
 .seq (.dreg [
 (⟨.loadn 70 (.fr 6), .tm, none⟩, []),
 (⟨.callf 47 [(.tm 0)], .tm, none⟩, []),
 (⟨.loadn 5 (.fr 7), .tm, none⟩, [1]),
 (⟨.callf 36 [(.tm 0)], .tm, none⟩, []),
 (⟨.bslice 22 1 2 [(.slice none 0 0), (.slice none 0 0)] [(0, 1, (.tm 2)), (1, 1, (.tm 0))], .tm, none⟩, []),
 (⟨.mov (.tm 0), .fr 9, none⟩, [])]) <|
 .seq (.seq (.reg [
 ⟨.mov (.c (.int .i64 0)), .fr 10, none⟩]) <|
 .block 0 (.loop (.seq (.seq (.reg [
 ⟨.mov (.fr 10), .tm, none⟩,
 ⟨.bin .lss (.tm 0) (.c (.int .i64 2)), .fr 20, none⟩]) <|
 .cond (.fr 20)
 (.skip)
 (.exit 0)) <|
 .seq (.block 1 (.seq (.reg [
 ⟨.mov (.fr 9), .tm, none⟩,
 ⟨.mov (.fr 10), .tm, none⟩,
 ⟨.iaddr 1 (.tm 1) (.tm 0), .tm, none⟩,
 ⟨.load1 (.tm 0), .tm, none⟩,
 ⟨.mov (.tm 0), .fr 11, none⟩]) <|
 .seq (.seq (.reg [
 ⟨.mov (.fr 11), .tm, none⟩,
 ⟨.len false (.tm 0), .tm, none⟩,
 ⟨.bin .eql (.tm 0) (.c (.int .i64 0)), .fr 21, none⟩]) <|
 .cond (.fr 21)
 (.exit 1)
 (.skip)) <|
 .seq (.seq (.reg [
 ⟨.mov (.fr 11), .tm, none⟩,
 ⟨.mov (.fr 3), .tm, none⟩,
 ⟨.i2i .i64 (.tm 0), .tm, none⟩,
 ⟨.mov (.fr 11), .tm, none⟩,
 ⟨.len false (.tm 0), .tm, none⟩,
 ⟨.bin .rem (.tm 2) (.tm 0), .tm, none⟩,
 ⟨.slsl 1 (.tm 5) none (some (.tm 0)) none, .tm, none⟩,
 ⟨.callf 28 [(.tm 0)], .tm, none⟩,
 ⟨.bin .neq (.tm 0) (.c (.int .u8 0)), .fr 22, none⟩]) <|
 .cond (.fr 22)
 (.seq (.reg [
 ⟨.mov (.c (.bool false)), .fr 8, none⟩]) <|
 .ret)
 (.skip)) <|
 .seq (.reg [
 ⟨.mov (.fr 4), .tm, none⟩,
 ⟨.i2i .i64 (.tm 0), .tm, none⟩,
 ⟨.mov (.fr 11), .tm, none⟩,
 ⟨.len false (.tm 0), .tm, none⟩,
 ⟨.bin .mul (.tm 0) (.c (.int .i64 8)), .tm, none⟩,
 ⟨.bin .sub (.tm 0) (.c (.int .i64 31)), .tm, none⟩,
 ⟨.bin .rem (.tm 4) (.tm 0), .tm, none⟩,
 ⟨.mov (.tm 0), .fr 12, none⟩]) <|
 .seq (.reg [
 ⟨.mov (.fr 11), .tm, none⟩,
 ⟨.b2s (.tm 0), .tm, none⟩,
 ⟨.s2b 5 (.tm 0), .tm, none⟩,
 ⟨.mov (.tm 0), .fr 13, none⟩]) <|
 .seq (.reg [
 ⟨.mov (.fr 11), .tm, none⟩,
 ⟨.len false (.tm 0), .tm, none⟩,
 ⟨.bin .mul (.tm 0) (.c (.int .i64 8)), .tm, none⟩,
 ⟨.bin .sub (.tm 0) (.c (.int .i64 32)), .tm, none⟩,
 ⟨.mov (.tm 0), .fr 14, none⟩]) <|
 .seq (.reg [
 ⟨.mov (.c (.bool false)), .fr 15, none⟩]) <|
 .seq (.seq (.reg [
 ⟨.mov (.c (.int .i64 0)), .fr 16, none⟩]) <|
 .block 2 (.loop (.seq (.seq (.reg [
 ⟨.mov (.fr 16), .tm, none⟩,
 ⟨.bin .lss (.tm 0) (.c (.int .i64 32)), .fr 23, none⟩]) <|
 .cond (.fr 23)
 (.skip)
 (.exit 2)) <|
 .seq (.block 3 (.seq (.reg [
 ⟨.mov (.fr 5), .tm, none⟩,
 ⟨.mov (.fr 16), .tm, none⟩,
 ⟨.bin .shr (.tm 1) (.tm 0), .tm, none⟩,
 ⟨.bin .and (.tm 0) (.c (.int .u32 1)), .tm, none⟩,
 ⟨.bin .eql (.tm 0) (.c (.int .u32 1)), .tm, none⟩,
 ⟨.mov (.tm 0), .tm, none⟩,
 ⟨.mov (.fr 12), .tm, some ((.tm 0), true)⟩,
 ⟨.mov (.fr 14), .tm, some ((.tm 1), true)⟩,
 ⟨.bin .geq (.tm 1) (.tm 0), .tm, some ((.tm 2), true)⟩,
 ⟨.mov (.tm 0), .tm, some ((.tm 3), true)⟩,
 ⟨.mov (.fr 12), .tm, some ((.tm 0), false)⟩,
 ⟨.mov (.fr 16), .tm, some ((.tm 1), false)⟩,
 ⟨.bin .add (.tm 1) (.tm 0), .tm, some ((.tm 2), false)⟩,
 ⟨.mov (.fr 14), .tm, some ((.tm 3), false)⟩,
 ⟨.bin .lss (.tm 1) (.tm 0), .tm, some ((.tm 4), false)⟩,
 ⟨.pick (.tm 5) (.c (.bool true)) (.tm 0), .tm, some ((.tm 9), true)⟩,
 ⟨.pick (.tm 10) (.tm 0) (.c (.bool false)), .fr 24, none⟩]) <|
 .cond (.fr 24)
 (.seq (.reg [
 ⟨.mov (.fr 13), .tm, none⟩,
 ⟨.mov (.fr 12), .tm, none⟩,
 ⟨.mov (.fr 16), .tm, none⟩,
 ⟨.bin .add (.tm 1) (.tm 0), .tm, none⟩,
 ⟨.bin .quo (.tm 0) (.c (.int .i64 8)), .tm, none⟩,
 ⟨.mov (.fr 13), .tm, none⟩,
 ⟨.mov (.fr 12), .tm, none⟩,
 ⟨.mov (.fr 16), .tm, none⟩,
 ⟨.bin .add (.tm 1) (.tm 0), .tm, none⟩,
 ⟨.bin .quo (.tm 0) (.c (.int .i64 8)), .tm, none⟩,
 ⟨.iaddr 1 (.tm 4) (.tm 0), .tm, none⟩,
 ⟨.load1 (.tm 0), .tm, none⟩,
 ⟨.mov (.fr 12), .tm, none⟩,
 ⟨.mov (.fr 16), .tm, none⟩,
 ⟨.bin .add (.tm 1) (.tm 0), .tm, none⟩,
 ⟨.bin .rem (.tm 0) (.c (.int .i64 8)), .tm, none⟩,
 ⟨.bin .shl (.c (.int .u8 1)) (.tm 0), .tm, none⟩,
 ⟨.bin .xor (.tm 5) (.tm 0), .tm, none⟩,
 ⟨.iaddr 1 (.tm 17) (.tm 13), .tm, none⟩,
 ⟨.store1 (.tm 0) (.tm 1), .no, none⟩]) <|
 .reg [
 ⟨.mov (.c (.bool true)), .fr 15, none⟩])
 (.skip))) <|
 .reg [
 ⟨.mov (.fr 16), .tm, none⟩,
 ⟨.bin .add (.tm 0) (.c (.int .i64 1)), .tm, none⟩,
 ⟨.mov (.tm 0), .fr 16, none⟩]))) <|
 .seq (.seq (.reg [
 ⟨.mov (.fr 15), .tm, none⟩,
 ⟨.mov (.tm 0), .tm, none⟩,
 ⟨.mov (.fr 13), .tm, some ((.tm 0), true)⟩,
 ⟨.callf 28 [(.tm 0)], .tm, some ((.tm 1), true)⟩,
 ⟨.bin .neq (.tm 0) (.c (.int .u8 0)), .tm, some ((.tm 2), true)⟩,
 ⟨.pick (.tm 3) (.tm 0) (.c (.bool false)), .fr 25, none⟩]) <|
 .cond (.fr 25)
 (.seq (.reg [
 ⟨.mov (.c (.bool false)), .fr 8, none⟩]) <|
 .ret)
 (.skip)) <|
 .seq (.reg [
 ⟨.mov (.fr 11), .tm, none⟩,
 ⟨.mov (.fr 2), .tm, none⟩,
 ⟨.app 5 1 1 (.tm 1) (.tm 0), .tm, none⟩,
 ⟨.mov (.tm 0), .fr 11, none⟩]) <|
 .seq (.reg [
 ⟨.mov (.fr 11), .tm, none⟩,
 ⟨.callf 21 [(.tm 0)], .tm, none⟩,
 ⟨.mov (.tm 0), .tm, none⟩,
 ⟨.extract (.tm 0) 0, .tm, none⟩,
 ⟨.extract (.tm 1) 1, .tm, none⟩,
 ⟨.new 57 70 [(.int .i64 0), (.int .i64 0), (.int .u64 0), (.int .u64 0), (.int .u64 0), (.int .u8 0), (.int .u8 0), (.int .u8 0), (.int .u8 0), (.int .u8 0), (.int .u8 0), (.int .u8 0), (.int .u8 0), (.int .u8 0), (.int .u8 0), (.int .u8 0), (.int .u8 0), (.int .u8 0), (.int .u8 0), (.int .u8 0), (.int .u8 0), (.int .u8 0), (.int .u8 0), (.int .u8 0), (.int .u8 0), (.int .u8 0), (.int .u8 0), (.int .u8 0), (.int .u8 0), (.int .u8 0), (.int .u8 0), (.int .u8 0), (.int .u8 0), (.int .u8 0), (.int .u8 0), (.int .u8 0), (.int .u8 0), (.int .u8 0), (.int .u8 0), (.int .u8 0), (.int .u8 0), (.int .u8 0), (.int .u8 0), (.int .u8 0), (.int .u8 0), (.int .u8 0), (.int .u8 0), (.int .u8 0), (.int .u8 0), (.int .u8 0), (.int .u8 0), (.int .u8 0), (.int .u8 0), (.int .u8 0), (.int .u8 0), (.int .u8 0), (.int .u8 0), (.int .u8 0), (.int .u8 0), (.int .u8 0), (.int .u8 0), (.int .u8 0), (.int .u8 0), (.int .u8 0), (.int .u8 0), (.int .u8 0), (.int .u8 0), (.int .u8 0), (.int .u8 0), (.int .u32 0)], .tm, none⟩,
 ⟨.storen 70 (.tm 0) (.tm 2), .no, none⟩,
 ⟨.mov (.tm 1), .fr 17, none⟩]) <|
 .seq (.reg [
 ⟨.mov (.fr 11), .tm, none⟩,
 ⟨.callf 24 [(.tm 0)], .tm, none⟩,
 ⟨.mov (.tm 0), .tm, none⟩,
 ⟨.extract (.tm 0) 0, .tm, none⟩,
 ⟨.extract (.tm 1) 1, .tm, none⟩,
 ⟨.new 65 5 [(.int .u8 0), (.int .u8 0), (.int .i64 0), (.int .i64 0), (.slice none 0 0)], .tm, none⟩,
 ⟨.storen 5 (.tm 0) (.tm 2), .no, none⟩,
 ⟨.mov (.tm 1), .fr 18, none⟩]) <|
 .seq (.reg [
 ⟨.mov (.fr 2), .tm, none⟩,
 ⟨.len false (.tm 0), .tm, none⟩,
 ⟨.bin .gtr (.tm 0) (.c (.int .i64 0)), .tm, none⟩,
 ⟨.mov (.tm 0), .tm, none⟩,
 ⟨.mov (.fr 17), .tm, some ((.tm 0), true)⟩,
 ⟨.bin .eql (.tm 0) (.c (.int .i64 0)), .tm, some ((.tm 1), true)⟩,
 ⟨.mov (.tm 0), .tm, some ((.tm 2), true)⟩,
 ⟨.mov (.fr 18), .tm, some ((.tm 0), false)⟩,
 ⟨.bin .eql (.tm 0) (.c (.int .i64 0)), .tm, some ((.tm 1), false)⟩,
 ⟨.pick (.tm 2) (.c (.bool true)) (.tm 0), .tm, some ((.tm 5), true)⟩,
 ⟨.pick (.tm 6) (.tm 0) (.c (.bool false)), .fr 26, none⟩]) <|
 .cond (.fr 26)
 (.seq (.reg [
 ⟨.mov (.c (.bool false)), .fr 8, none⟩]) <|
 .ret)
 (.skip))) <|
 .reg [
 ⟨.mov (.fr 10), .tm, none⟩,
 ⟨.bin .add (.tm 0) (.c (.int .i64 1)), .tm, none⟩,
 ⟨.mov (.tm 0), .fr 10, none⟩]))) <|
 .seq (.reg [
 ⟨.callf 11 [], .tm, none⟩,
 ⟨.mov (.tm 0), .fr 8, none⟩]) <|
 .ret⟩
theorem e7_ok : Hk.EFok Go.Proofs.Try.prog 0 7 e7 := Hk.ok_of (ok_of (by unfold EFok; kernel_rfl) (by kernel_rfl))
def e12 : EF := Hk.EFof 1 F.f12
theorem e12_ok : Hk.EFok Go.Proofs.Try.prog 0 12 e12 := Hk.ok_af F.f12_ok rfl F.f12_n
def e16 : EF := Hk.EFof 1 F.f16
theorem e16_ok : Hk.EFok Go.Proofs.Try.prog 0 16 e16 := Hk.ok_af F.f16_ok rfl F.f16_n
def e19 : EF := Hk.EFof 1 F.f19
theorem e19_ok : Hk.EFok Go.Proofs.Try.prog 0 19 e19 := Hk.ok_af F.f19_ok rfl F.f19_n
def e21 : EF := Hk.EFof 1 F.f21
theorem e21_ok : Hk.EFok Go.Proofs.Try.prog 0 21 e21 := Hk.ok_af F.f21_ok rfl F.f21_n
def e24 : EF := Hk.EFof 1 F.f24
theorem e24_ok : Hk.EFok Go.Proofs.Try.prog 0 24 e24 := Hk.ok_af F.f24_ok rfl F.f24_n
def e28 : EF := Hk.EFof 1 F.f28
theorem e28_ok : Hk.EFok Go.Proofs.Try.prog 0 28 e28 := Hk.ok_af F.f28_ok rfl F.f28_n
def e36 : EF := Hk.EFof 1 F.f36
theorem e36_ok : Hk.EFok Go.Proofs.Try.prog 0 36 e36 := Hk.ok_af F.f36_ok rfl F.f36_n
def e44 : EF := Hk.EFof 1 F.f44
theorem e44_ok : Hk.EFok Go.Proofs.Try.prog 0 44 e44 := Hk.ok_af F.f44_ok rfl F.f44_n
def e45 : EF := Hk.EFof 1 F.f45
theorem e45_ok : Hk.EFok Go.Proofs.Try.prog 0 45 e45 := Hk.ok_af F.f45_ok rfl F.f45_n
def e46 : EF := Hk.EFof 1 F.f46
theorem e46_ok : Hk.EFok Go.Proofs.Try.prog 0 46 e46 := Hk.ok_af F.f46_ok rfl F.f46_n
def e47 : EF := Hk.EFof 1 F.f47
theorem e47_ok : Hk.EFok Go.Proofs.Try.prog 0 47 e47 := Hk.ok_af F.f47_ok rfl F.f47_n
theorem e54_ok : Hk.EFok Go.Proofs.Try.prog 0 54 e54 := Hk.ok_of (ok_of (by unfold EFok; kernel_rfl) (by kernel_rfl))
def e62 : EF := Hk.EFof 2 F.f62
theorem e62_ok : Hk.EFok Go.Proofs.Try.prog 0 62 e62 := Hk.ok_af F.f62_ok rfl F.f62_n
def e63 : EF := Hk.EFof 1 F.f63
theorem e63_ok : Hk.EFok Go.Proofs.Try.prog 0 63 e63 := Hk.ok_af F.f63_ok rfl F.f63_n
def e64 : EF := Hk.EFof 1 F.f64
theorem e64_ok : Hk.EFok Go.Proofs.Try.prog 0 64 e64 := Hk.ok_af F.f64_ok rfl F.f64_n
def e65 : EF := Hk.EFof 1 F.f65
theorem e65_ok : Hk.EFok Go.Proofs.Try.prog 0 65 e65 := Hk.ok_af F.f65_ok rfl F.f65_n
def e66 : EF := Hk.EFof 3 F.f66
theorem e66_ok : Hk.EFok Go.Proofs.Try.prog 0 66 e66 := Hk.ok_af F.f66_ok rfl F.f66_n
def e68 : EF := Hk.EFof 3 F.f68
theorem e68_ok : Hk.EFok Go.Proofs.Try.prog 0 68 e68 := Hk.ok_af F.f68_ok rfl F.f68_n
def e69 : EF := Hk.EFof 3 F.f69
theorem e69_ok : Hk.EFok Go.Proofs.Try.prog 0 69 e69 := Hk.ok_af F.f69_ok rfl F.f69_n
def e70 : EF := Hk.EFof 1 F.f70
theorem e70_ok : Hk.EFok Go.Proofs.Try.prog 0 70 e70 := Hk.ok_af F.f70_ok rfl F.f70_n
def e72 : EF := Hk.EFof 3 F.f72
theorem e72_ok : Hk.EFok Go.Proofs.Try.prog 0 72 e72 := Hk.ok_af F.f72_ok rfl F.f72_n
def e73 : EF := Hk.EFof 1 F.f73
theorem e73_ok : Hk.EFok Go.Proofs.Try.prog 0 73 e73 := Hk.ok_af F.f73_ok rfl F.f73_n
def e74 : EF := Hk.EFof 2 F.f74
theorem e74_ok : Hk.EFok Go.Proofs.Try.prog 0 74 e74 := Hk.ok_af F.f74_ok rfl F.f74_n
def e75 : EF := Hk.EFof 1 F.f75
theorem e75_ok : Hk.EFok Go.Proofs.Try.prog 0 75 e75 := Hk.ok_af F.f75_ok rfl F.f75_n
def e76 : EF := Hk.EFof 3 F.f76
theorem e76_ok : Hk.EFok Go.Proofs.Try.prog 0 76 e76 := Hk.ok_af F.f76_ok rfl F.f76_n
def e77 : EF := Hk.EFof 3 F.f77
theorem e77_ok : Hk.EFok Go.Proofs.Try.prog 0 77 e77 := Hk.ok_af F.f77_ok rfl F.f77_n
def e78 : EF := Hk.EFof 2 F.f78
theorem e78_ok : Hk.EFok Go.Proofs.Try.prog 0 78 e78 := Hk.ok_af F.f78_ok rfl F.f78_n
def e79 : EF := Hk.EFof 2 F.f79
theorem e79_ok : Hk.EFok Go.Proofs.Try.prog 0 79 e79 := Hk.ok_af F.f79_ok rfl F.f79_n
def e80 : EF := Hk.EFof 2 F.f80
theorem e80_ok : Hk.EFok Go.Proofs.Try.prog 0 80 e80 := Hk.ok_af F.f80_ok rfl F.f80_n
def e81 : EF := Hk.EFof 2 F.f81
theorem e81_ok : Hk.EFok Go.Proofs.Try.prog 0 81 e81 := Hk.ok_af F.f81_ok rfl F.f81_n
def e82 : EF := Hk.EFof 2 F.f82
theorem e82_ok : Hk.EFok Go.Proofs.Try.prog 0 82 e82 := Hk.ok_af F.f82_ok rfl F.f82_n
def e83 : EF := Hk.EFof 2 F.f83
theorem e83_ok : Hk.EFok Go.Proofs.Try.prog 0 83 e83 := Hk.ok_af F.f83_ok rfl F.f83_n
def e84 : EF := Hk.EFof 2 F.f84
theorem e84_ok : Hk.EFok Go.Proofs.Try.prog 0 84 e84 := Hk.ok_af F.f84_ok rfl F.f84_n
def e85 : EF := Hk.EFof 2 F.f85
theorem e85_ok : Hk.EFok Go.Proofs.Try.prog 0 85 e85 := Hk.ok_af F.f85_ok rfl F.f85_n
def e86 : EF := Hk.EFof 2 F.f86
theorem e86_ok : Hk.EFok Go.Proofs.Try.prog 0 86 e86 := Hk.ok_af F.f86_ok rfl F.f86_n
def e87 : EF := Hk.EFof 2 F.f87
theorem e87_ok : Hk.EFok Go.Proofs.Try.prog 0 87 e87 := Hk.ok_af F.f87_ok rfl F.f87_n
def e88 : EF := Hk.EFof 2 F.f88
theorem e88_ok : Hk.EFok Go.Proofs.Try.prog 0 88 e88 := Hk.ok_af F.f88_ok rfl F.f88_n
def e89 : EF := Hk.EFof 2 F.f89
theorem e89_ok : Hk.EFok Go.Proofs.Try.prog 0 89 e89 := Hk.ok_af F.f89_ok rfl F.f89_n
def e96 : EF := Hk.EFof 1 F.f96
theorem e96_ok : Hk.EFok Go.Proofs.Try.prog 0 96 e96 := Hk.ok_af F.f96_ok rfl F.f96_n
def e98 : EF := Hk.EFof 2 F.f98
theorem e98_ok : Hk.EFok Go.Proofs.Try.prog 0 98 e98 := Hk.ok_af F.f98_ok rfl F.f98_n
def e99 : EF := Hk.EFof 1 F.f99
theorem e99_ok : Hk.EFok Go.Proofs.Try.prog 0 99 e99 := Hk.ok_af F.f99_ok rfl F.f99_n
def e100 : EF := Hk.EFof 1 F.f100
theorem e100_ok : Hk.EFok Go.Proofs.Try.prog 0 100 e100 := Hk.ok_af F.f100_ok rfl F.f100_n
def e101 : EF := Hk.EFof 1 F.f101
theorem e101_ok : Hk.EFok Go.Proofs.Try.prog 0 101 e101 := Hk.ok_af F.f101_ok rfl F.f101_n
def e103 : EF := Hk.EFof 2 F.f103
theorem e103_ok : Hk.EFok Go.Proofs.Try.prog 0 103 e103 := Hk.ok_af F.f103_ok rfl F.f103_n
def e104 : EF := Hk.EFof 1 F.f104
theorem e104_ok : Hk.EFok Go.Proofs.Try.prog 0 104 e104 := Hk.ok_af F.f104_ok rfl F.f104_n
def e105 : EF := Hk.EFof 2 F.f105
theorem e105_ok : Hk.EFok Go.Proofs.Try.prog 0 105 e105 := Hk.ok_af F.f105_ok rfl F.f105_n
def e110 : EF := Hk.EFof 2 F.f110
theorem e110_ok : Hk.EFok Go.Proofs.Try.prog 0 110 e110 := Hk.ok_af F.f110_ok rfl F.f110_n
def e111 : EF := Hk.EFof 1 F.f111
theorem e111_ok : Hk.EFok Go.Proofs.Try.prog 0 111 e111 := Hk.ok_af F.f111_ok rfl F.f111_n
def e112 : EF := Hk.EFof 2 F.f112
theorem e112_ok : Hk.EFok Go.Proofs.Try.prog 0 112 e112 := Hk.ok_af F.f112_ok rfl F.f112_n
def e113 : EF := Hk.EFof 1 F.f113
theorem e113_ok : Hk.EFok Go.Proofs.Try.prog 0 113 e113 := Hk.ok_af F.f113_ok rfl F.f113_n
def e114 : EF := Hk.EFof 1 F.f114
theorem e114_ok : Hk.EFok Go.Proofs.Try.prog 0 114 e114 := Hk.ok_af F.f114_ok rfl F.f114_n
def e116 : EF := Hk.EFof 2 F.f116
theorem e116_ok : Hk.EFok Go.Proofs.Try.prog 0 116 e116 := Hk.ok_af F.f116_ok rfl F.f116_n
def e117 : EF := Hk.EFof 1 F.f117
theorem e117_ok : Hk.EFok Go.Proofs.Try.prog 0 117 e117 := Hk.ok_af F.f117_ok rfl F.f117_n
def e118 : EF := Hk.EFof 2 F.f118
theorem e118_ok : Hk.EFok Go.Proofs.Try.prog 0 118 e118 := Hk.ok_af F.f118_ok rfl F.f118_n
def e119 : EF := Hk.EFof 2 F.f119
theorem e119_ok : Hk.EFok Go.Proofs.Try.prog 0 119 e119 := Hk.ok_af F.f119_ok rfl F.f119_n
noncomputable def tab : Hk.FT := (.node 77 e77 (.node 47 e47 (.node 19 e19 (.node 7 e7 (.hook 5 Hk.putsH (.hook 3 Hk.getsH .leaf .leaf) (.hook 6 Hk.backH .leaf .leaf)) (.node 12 e12 (.hook 11 Hk.trueH .leaf .leaf) (.node 16 e16 .leaf .leaf))) (.node 36 e36 (.node 24 e24 (.node 21 e21 .leaf .leaf) (.node 28 e28 .leaf .leaf)) (.node 45 e45 (.node 44 e44 .leaf .leaf) (.node 46 e46 .leaf .leaf)))) (.node 69 e69 (.node 64 e64 (.node 62 e62 (.node 54 e54 .leaf .leaf) (.node 63 e63 .leaf .leaf)) (.node 66 e66 (.node 65 e65 .leaf .leaf) (.node 68 e68 .leaf .leaf))) (.node 74 e74 (.node 72 e72 (.node 70 e70 .leaf .leaf) (.node 73 e73 .leaf .leaf)) (.node 76 e76 (.node 75 e75 .leaf .leaf) .leaf)))) (.node 99 e99 (.node 85 e85 (.node 81 e81 (.node 79 e79 (.node 78 e78 .leaf .leaf) (.node 80 e80 .leaf .leaf)) (.node 83 e83 (.node 82 e82 .leaf .leaf) (.node 84 e84 .leaf .leaf))) (.node 89 e89 (.node 87 e87 (.node 86 e86 .leaf .leaf) (.node 88 e88 .leaf .leaf)) (.hook 97 Hk.sumH (.node 96 e96 .leaf .leaf) (.node 98 e98 .leaf .leaf)))) (.node 112 e112 (.node 104 e104 (.node 101 e101 (.node 100 e100 .leaf .leaf) (.node 103 e103 .leaf .leaf)) (.node 110 e110 (.node 105 e105 .leaf .leaf) (.node 111 e111 .leaf .leaf))) (.node 117 e117 (.node 114 e114 (.node 113 e113 .leaf .leaf) (.node 116 e116 .leaf .leaf)) (.node 119 e119 (.node 118 e118 .leaf .leaf) .leaf)))))
theorem tab_ok : tab.ok Go.Proofs.Try.prog 0 := ⟨e77_ok, ⟨e47_ok, ⟨e19_ok, ⟨e7_ok, ⟨Hk.puts5, ⟨Hk.gets3, trivial, trivial⟩, ⟨Hk.back6, trivial, trivial⟩⟩, ⟨e12_ok, ⟨Hk.works11, trivial, trivial⟩, ⟨e16_ok, trivial, trivial⟩⟩⟩, ⟨e36_ok, ⟨e24_ok, ⟨e21_ok, trivial, trivial⟩, ⟨e28_ok, trivial, trivial⟩⟩, ⟨e45_ok, ⟨e44_ok, trivial, trivial⟩, ⟨e46_ok, trivial, trivial⟩⟩⟩⟩, ⟨e69_ok, ⟨e64_ok, ⟨e62_ok, ⟨e54_ok, trivial, trivial⟩, ⟨e63_ok, trivial, trivial⟩⟩, ⟨e66_ok, ⟨e65_ok, trivial, trivial⟩, ⟨e68_ok, trivial, trivial⟩⟩⟩, ⟨e74_ok, ⟨e72_ok, ⟨e70_ok, trivial, trivial⟩, ⟨e73_ok, trivial, trivial⟩⟩, ⟨e76_ok, ⟨e75_ok, trivial, trivial⟩, trivial⟩⟩⟩⟩, ⟨e99_ok, ⟨e85_ok, ⟨e81_ok, ⟨e79_ok, ⟨e78_ok, trivial, trivial⟩, ⟨e80_ok, trivial, trivial⟩⟩, ⟨e83_ok, ⟨e82_ok, trivial, trivial⟩, ⟨e84_ok, trivial, trivial⟩⟩⟩, ⟨e89_ok, ⟨e87_ok, ⟨e86_ok, trivial, trivial⟩, ⟨e88_ok, trivial, trivial⟩⟩, ⟨Hk.sum97, ⟨e96_ok, trivial, trivial⟩, ⟨e98_ok, trivial, trivial⟩⟩⟩⟩, ⟨e112_ok, ⟨e104_ok, ⟨e101_ok, ⟨e100_ok, trivial, trivial⟩, ⟨e103_ok, trivial, trivial⟩⟩, ⟨e110_ok, ⟨e105_ok, trivial, trivial⟩, ⟨e111_ok, trivial, trivial⟩⟩⟩, ⟨e117_ok, ⟨e114_ok, ⟨e113_ok, trivial, trivial⟩, ⟨e116_ok, trivial, trivial⟩⟩, ⟨e119_ok, ⟨e118_ok, trivial, trivial⟩, trivial⟩⟩⟩⟩⟩
end Go.AM.TFk

set_option maxRecDepth 100000
namespace Go.AM.TFk
open Go.Proofs
theorem known_ev : Hk.runF tab 100000 7 [] 0 .leaf isTrue = true := by kernel_rfl
end Go.AM.TFk
