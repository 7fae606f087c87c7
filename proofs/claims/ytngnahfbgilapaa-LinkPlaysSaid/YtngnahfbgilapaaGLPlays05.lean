/- Part of the proof. -/
import Derived.Test.YtngnahfbgilapaaGLPlays04
set_option linter.unusedSimpArgs false
set_option linter.unusedVariables false
set_option linter.unusedSimpArgs false
set_option linter.unusedVariables false
namespace Go.AM.Fd
open Nat (reduceAdd reduceEqDiff reduceLT reduceLeDiff reduceMul reduceSub)
open Go.Proofs Go.AM.F
structure En where
  f : Nat
  t : Nat
  q : Int
  k : Int
  a : Int
  l : Int
def cE (x : En) : List Value := [.int .u8 (x.f : Nat), .int .u8 (x.t : Nat), .int .i64 x.q, .int .i64 x.k, .slice none 0 0, .int .i64 x.a, .int .i64 x.l]
def cR (x : En) : List Value := [.int .u8 (x.f : Nat), .int .u8 (x.t : Nat), .int .i64 x.q, .int .i64 x.k, .int .i64 x.a, .int .i64 x.l]
structure WfE (x : En) : Prop where
  hf : x.f < 256
  ht : x.t < 256
  hq : 0 ≤ x.q ∧ x.q ≤ 4611686018427387904
  hk : 0 ≤ x.k ∧ x.k ≤ 4611686018427387904
  ha : 0 ≤ x.a ∧ x.a ≤ 4611686018427387904
  hl : 0 ≤ x.l ∧ x.l ≤ x.k
def hE (x : En) (o : Option Li) : Int := match o with
  | none => 130
  | some m => if m.f ≠ x.t ∨ m.t ≠ x.f then 2 else if m.q ≤ x.k then 180 else 0
def hX (x : En) (m : Li) : En := { x with k := m.q, l := if 0 < x.k then x.l + (m.q - x.k - 1) else x.l, a := if m.k ≤ x.q then max x.a m.k else x.a }
theorem geLi_ok {b : List UInt8} {y : Li} (h : geLi b = some y) : okLi y = true := by
  obtain ⟨e1, e2, e3, e4⟩ := geLi_some h
  cases hk : okLi y with
  | true => rfl
  | false =>
    simp only [fLi, hk, Bool.false_eq_true, if_false] at e1
    rw [← e1] at e4; simp at e4; omega
theorem hX_wf {x : En} (h : WfE x) {m : Li} (ho : okLi m = true) (hh : x.k < m.q) : WfE (hX x m) := by
  obtain ⟨h1, h2, h3⟩ := okLi_iff.1 ho
  obtain ⟨a1, a2, a3, a4, a5, a6⟩ := h
  refine ⟨a1, a2, a3, h1, ?_, ?_⟩
  · simp only [hX]; split
    · rw [Int.max_def]; split <;> omega
    · exact a5
  · simp only [hX]; split <;> omega
def sX (x : En) : En := { x with q := x.q + 1 }
theorem t32 (f t : Nat) (n : Int) (H : AHeap) (hn : -9223372036854775808 ≤ n ∧ n ≤ 9223372036854775807) : ∃ w H', ARun Go.Proofs.Try.prog 0 32 [.int .u8 (f : Nat), .int .u8 (t : Nat), .int .i64 n] H w H' ∧
    w = (if f = t ∨ n < 1 ∨ 2305843009213693952 < n then .tuple #[.pointer none, .int .i64 2] else .tuple #[ptr H.n 0, .int .i64 0]) ∧ H' = (if f = t ∨ n < 1 ∨ 2305843009213693952 < n then H else H.alloc (.cells true false 7 (cE ⟨f, t, n - 1, 0, 0, 0⟩) 145)) := by
  refine walk2 f32_ok f32_n ?_
  intro Q hq1 hq2
  by_cases h1 : f = t
  · subst h1
    simp (disch := first | assumption | omega | (simp only [LN] <;> omega) | (simp (disch := first | assumption | omega | (simp only [LN] <;> omega)) only [row_alloc, row_set]; assumption)) only [f32, W_block, P3, ↓reduceIte, reduceAdd, reduceEqDiff, reduceCtorEq, initFr, reduceLT, clsA, reduceLeDiff, reduceMul, reduceSub, reduceIte]
    exact hq2 _ _ ⟨_, rfl, by simp; rfl, by simp⟩
  have h1' : ¬ (f : Int) = (t : Int) := by omega
  by_cases h2 : n < 1
  · simp (disch := first | assumption | omega | (simp only [LN] <;> omega) | (simp (disch := first | assumption | omega | (simp only [LN] <;> omega)) only [row_alloc, row_set]; assumption)) only [f32, W_block, P3, ↓reduceIte, reduceAdd, reduceEqDiff, reduceCtorEq, initFr, reduceLT, clsA, reduceLeDiff, reduceMul, reduceSub, reduceIte]
    exact hq2 _ _ ⟨_, rfl, by rw [if_pos (.inr (.inl h2))]; rfl, by rw [if_pos (.inr (.inl h2))]⟩
  by_cases h3 : 2305843009213693952 < n
  · simp (disch := first | assumption | omega | (simp only [LN] <;> omega) | (simp (disch := first | assumption | omega | (simp only [LN] <;> omega)) only [row_alloc, row_set]; assumption)) only [f32, W_block, P3, ↓reduceIte, reduceAdd, reduceEqDiff, reduceCtorEq, initFr, reduceLT, clsA, reduceLeDiff, reduceMul, reduceSub, reduceIte]
    exact hq2 _ _ ⟨_, rfl, by rw [if_pos (.inr (.inr h3))]; rfl, by rw [if_pos (.inr (.inr h3))]⟩
  have hw : IntKind.i64.wrap (n - 1) = n - 1 := wrap_i64 (by omega) (by omega)
  have hfl : fillA [.int .u8 0, .int .u8 0, .int .i64 0, .int .i64 0, .slice none 0 0] [(0, 1, .int .u8 (f : Nat)), (1, 1, .int .u8 (t : Nat)), (2, 1, .int .i64 (n - 1))] = some [.int .u8 (f : Nat), .int .u8 (t : Nat), .int .i64 (n - 1), .int .i64 0, .slice none 0 0] := rfl
  have hfl2 : fillA [.int .u8 0, .int .u8 0, .int .i64 0, .int .i64 0, .slice none 0 0, .int .i64 0, .int .i64 0] [(0, 5, .agg #[.int .u8 (f : Nat), .int .u8 (t : Nat), .int .i64 (n - 1), .int .i64 0, .slice none 0 0])] = some (cE ⟨f, t, n - 1, 0, 0, 0⟩) := rfl
  have ho : (cE ⟨f, t, n - 1, 0, 0, 0⟩).all Value.oneCell' = true := rfl
  have hne : ¬ (f = t ∨ n < 1 ∨ 2305843009213693952 < n) := by omega
  simp (disch := first | assumption | omega | (simp only [LN] <;> omega) | (simp (disch := first | assumption | omega | (simp only [LN] <;> omega)) only [row_alloc, row_set]; assumption)) only [f32, W_block, P3, ↓reduceIte, reduceAdd, reduceEqDiff, reduceCtorEq, initFr, reduceLT, clsA, reduceLeDiff, reduceMul, reduceSub, reduceIte, hw, hfl, hfl2, ho]
  exact hq2 _ _ ⟨_, rfl, by rw [if_neg hne]; rfl, by rw [if_neg hne]⟩
theorem t33 (f t : Nat) (n : Int) (H : AHeap) (hn : -9223372036854775808 ≤ n ∧ n ≤ 9223372036854775807) : ∃ w H', ARun Go.Proofs.Try.prog 0 33 [.int .u8 (f : Nat), .int .u8 (t : Nat), .int .i64 n] H w H' ∧
    w = (if f = t ∨ n < 1 ∨ 2305843009213693952 < n then .pointer none else ptr H.n 0) ∧ H' = (if f = t ∨ n < 1 ∨ 2305843009213693952 < n then H else H.alloc (.cells true false 6 (cR ⟨f, t, n - 1, 0, 0, 0⟩) 93)) := by
  refine walk2 f33_ok f33_n ?_
  intro Q hq1 hq2
  by_cases h1 : f = t
  · subst h1
    simp (disch := first | assumption | omega | (simp only [LN] <;> omega) | (simp (disch := first | assumption | omega | (simp only [LN] <;> omega)) only [row_alloc, row_set]; assumption)) only [f33, W_block, P3, ↓reduceIte, reduceAdd, reduceEqDiff, reduceCtorEq, initFr, reduceLT, clsA, reduceLeDiff, reduceMul, reduceSub, reduceIte]
    exact hq2 _ _ ⟨_, rfl, by simp; rfl, by simp⟩
  have h1' : ¬ (f : Int) = (t : Int) := by omega
  by_cases h2 : n < 1
  · simp (disch := first | assumption | omega | (simp only [LN] <;> omega) | (simp (disch := first | assumption | omega | (simp only [LN] <;> omega)) only [row_alloc, row_set]; assumption)) only [f33, W_block, P3, ↓reduceIte, reduceAdd, reduceEqDiff, reduceCtorEq, initFr, reduceLT, clsA, reduceLeDiff, reduceMul, reduceSub, reduceIte]
    exact hq2 _ _ ⟨_, rfl, by rw [if_pos (.inr (.inl h2))]; rfl, by rw [if_pos (.inr (.inl h2))]⟩
  by_cases h3 : 2305843009213693952 < n
  · simp (disch := first | assumption | omega | (simp only [LN] <;> omega) | (simp (disch := first | assumption | omega | (simp only [LN] <;> omega)) only [row_alloc, row_set]; assumption)) only [f33, W_block, P3, ↓reduceIte, reduceAdd, reduceEqDiff, reduceCtorEq, initFr, reduceLT, clsA, reduceLeDiff, reduceMul, reduceSub, reduceIte]
    exact hq2 _ _ ⟨_, rfl, by rw [if_pos (.inr (.inr h3))]; rfl, by rw [if_pos (.inr (.inr h3))]⟩
  have hw : IntKind.i64.wrap (n - 1) = n - 1 := wrap_i64 (by omega) (by omega)
  have hfl : fillA [.int .u8 0, .int .u8 0, .int .i64 0, .int .i64 0, .int .i64 0, .int .i64 0] [(0, 1, .int .u8 (f : Nat)), (1, 1, .int .u8 (t : Nat)), (2, 1, .int .i64 (n - 1))] = some (cR ⟨f, t, n - 1, 0, 0, 0⟩) := rfl
  have ho : (cR ⟨f, t, n - 1, 0, 0, 0⟩).all Value.oneCell' = true := rfl
  have hne : ¬ (f = t ∨ n < 1 ∨ 2305843009213693952 < n) := by omega
  simp (disch := first | assumption | omega | (simp only [LN] <;> omega) | (simp (disch := first | assumption | omega | (simp only [LN] <;> omega)) only [row_alloc, row_set]; assumption)) only [f33, W_block, P3, ↓reduceIte, reduceAdd, reduceEqDiff, reduceCtorEq, initFr, reduceLT, clsA, reduceLeDiff, reduceMul, reduceSub, reduceIte, hw, hfl, ho]
  exact hq2 _ _ ⟨_, rfl, by rw [if_neg hne]; rfl, by rw [if_neg hne]⟩
theorem cEg (x : En) : (cE x)[0]? = some (.int .u8 (x.f : Nat)) ∧ (cE x)[1]? = some (.int .u8 (x.t : Nat)) ∧ (cE x)[2]? = some (.int .i64 x.q) ∧ (cE x)[3]? = some (.int .i64 x.k) ∧ (cE x)[5]? = some (.int .i64 x.a) ∧ (cE x)[6]? = some (.int .i64 x.l) := ⟨rfl, rfl, rfl, rfl, rfl, rfl⟩
theorem cRg (x : En) : (cR x)[0]? = some (.int .u8 (x.f : Nat)) ∧ (cR x)[1]? = some (.int .u8 (x.t : Nat)) ∧ (cR x)[2]? = some (.int .i64 x.q) ∧ (cR x)[3]? = some (.int .i64 x.k) ∧ (cR x)[4]? = some (.int .i64 x.a) ∧ (cR x)[5]? = some (.int .i64 x.l) := ⟨rfl, rfl, rfl, rfl, rfl, rfl⟩
section
variable {H : AHeap} {b : Nat} {x : En}
theorem t39 (g : H.get b = some (.cells true false 7 (cE x) 145)) : ∃ w H', ARun Go.Proofs.Try.prog 0 39 [ptr b 0] H w H' ∧ w = .int .i64 x.q ∧ H' = H := by
  refine walk2 f39_ok f39_n ?_
  intro Q hq1 hq2
  simp (disch := first | assumption | omega | (simp only [LN] <;> omega) | (simp (disch := first | assumption | omega | (simp only [LN] <;> omega)) only [row_alloc, row_set]; assumption)) only [f39, W_block, P3, ↓reduceIte, reduceAdd, reduceEqDiff, reduceCtorEq, initFr, reduceLT, clsA, reduceLeDiff, reduceMul, reduceSub, reduceIte, g, cEg x]
  exact hq2 _ _ ⟨_, rfl, rfl, rfl⟩
theorem t40 (g : H.get b = some (.cells true false 7 (cE x) 145)) : ∃ w H', ARun Go.Proofs.Try.prog 0 40 [ptr b 0] H w H' ∧ w = .int .i64 x.k ∧ H' = H := by
  refine walk2 f40_ok f40_n ?_
  intro Q hq1 hq2
  simp (disch := first | assumption | omega | (simp only [LN] <;> omega) | (simp (disch := first | assumption | omega | (simp only [LN] <;> omega)) only [row_alloc, row_set]; assumption)) only [f40, W_block, P3, ↓reduceIte, reduceAdd, reduceEqDiff, reduceCtorEq, initFr, reduceLT, clsA, reduceLeDiff, reduceMul, reduceSub, reduceIte, g, cEg x]
  exact hq2 _ _ ⟨_, rfl, rfl, rfl⟩
theorem t41 (g : H.get b = some (.cells true false 7 (cE x) 145)) : ∃ w H', ARun Go.Proofs.Try.prog 0 41 [ptr b 0] H w H' ∧ w = .int .i64 x.a ∧ H' = H := by
  refine walk2 f41_ok f41_n ?_
  intro Q hq1 hq2
  simp (disch := first | assumption | omega | (simp only [LN] <;> omega) | (simp (disch := first | assumption | omega | (simp only [LN] <;> omega)) only [row_alloc, row_set]; assumption)) only [f41, W_block, P3, ↓reduceIte, reduceAdd, reduceEqDiff, reduceCtorEq, initFr, reduceLT, clsA, reduceLeDiff, reduceMul, reduceSub, reduceIte, g, cEg x]
  exact hq2 _ _ ⟨_, rfl, rfl, rfl⟩
theorem t42 (g : H.get b = some (.cells true false 7 (cE x) 145)) : ∃ w H', ARun Go.Proofs.Try.prog 0 42 [ptr b 0] H w H' ∧ w = .int .i64 x.l ∧ H' = H := by
  refine walk2 f42_ok f42_n ?_
  intro Q hq1 hq2
  simp (disch := first | assumption | omega | (simp only [LN] <;> omega) | (simp (disch := first | assumption | omega | (simp only [LN] <;> omega)) only [row_alloc, row_set]; assumption)) only [f42, W_block, P3, ↓reduceIte, reduceAdd, reduceEqDiff, reduceCtorEq, initFr, reduceLT, clsA, reduceLeDiff, reduceMul, reduceSub, reduceIte, g, cEg x]
  exact hq2 _ _ ⟨_, rfl, rfl, rfl⟩
end
end Go.AM.Fd

set_option linter.unusedSimpArgs false
set_option linter.unusedVariables false
namespace Go.AM.Fd
open Nat (reduceAdd reduceEqDiff reduceLT reduceLeDiff reduceMul reduceSub)
open Go.Proofs Go.AM.F
section
variable {H : AHeap} {b : Nat} {x : En}
theorem t34no (g : H.get b = some (.cells true false 7 (cE x) 145)) {v : Value} {B : List UInt8} (hB : BS H v B) (hn : 2048 < B.length ∨ 4611686018427387904 ≤ x.q) :
    ∃ w H', ARun Go.Proofs.Try.prog 0 34 [ptr b 0, v] H w H' ∧ w = .tuple #[.slice none 0 0, .int .i64 3] ∧ H' = H := by
  refine walk2 f34_ok f34_n ?_
  intro Q hq1 hq2
  have his := hB.sl.is
  have hlen := hB.sl.len
  rw [List.length_map] at hlen
  by_cases h1 : 2048 < B.length
  · simp (disch := first | assumption | omega | (simp only [LN] <;> omega) | (simp (disch := first | assumption | omega | (simp only [LN] <;> omega)) only [row_alloc, row_set]; assumption)) only [f34, W_block, P3, ↓reduceIte, reduceAdd, reduceEqDiff, reduceCtorEq, initFr, reduceLT, clsA, reduceLeDiff, reduceMul, reduceSub, reduceIte, hlen]
    exact hq2 _ _ ⟨_, rfl, rfl, rfl⟩
  · have h2 : 4611686018427387904 ≤ x.q := by omega
    simp (disch := first | assumption | omega | (simp only [LN] <;> omega) | (simp (disch := first | assumption | omega | (simp only [LN] <;> omega)) only [row_alloc, row_set]; assumption)) only [f34, W_block, P3, ↓reduceIte, reduceAdd, reduceEqDiff, reduceCtorEq, initFr, reduceLT, clsA, reduceLeDiff, reduceMul, reduceSub, reduceIte, hlen, g, cEg x]
    exact hq2 _ _ ⟨_, rfl, rfl, rfl⟩
theorem t34 (hw : WfE x) (g : H.get b = some (.cells true false 7 (cE x) 145)) {v : Value} {B : List UInt8} (hB : BQ H v B) (hv : ∀ y ∈ tb v, y ≠ b) (h1 : B.length ≤ 2048) (h2 : x.q < 4611686018427387904) :
    ∃ w H', ARun Go.Proofs.Try.prog 0 34 [ptr b 0, v] H w H' ∧ ∃ r, w = .tuple #[r, .int .i64 0] ∧ PutR (H.set b (.cells true false 7 (cE (sX x)) 145)) H' r (fLi ⟨x.f, x.t, x.q + 1, x.k, B⟩) := by
  refine walk2 f34_ok f34_n ?_
  intro Q hq1 hq2
  have his := hB.bs.sl.is
  have hlen := hB.bs.sl.len
  have hone := hB.bs.sl.one
  rw [List.length_map] at hlen
  have hwr : IntKind.i64.wrap (x.q + 1) = x.q + 1 := by have := hw.hq; exact wrap_i64 (by omega) (by omega)
  have lb := AHeap.get_lt g
  have hc7 : (cE (sX x)).length = 7 := rfl
  have hd5 : (cE (sX x)).take 5 = cLi (.slice none 0 0) ⟨x.f, x.t, x.q + 1, x.k, []⟩ := rfl
  have hl5 : (cLi (.slice none 0 0) ⟨x.f, x.t, x.q + 1, x.k, []⟩).length = 5 := rfl
  have ho5 : (cLi (.slice none 0 0) ⟨x.f, x.t, x.q + 1, x.k, []⟩).all Value.oneCell' = true := rfl
  have hs4 : (cLi (.slice none 0 0) ⟨x.f, x.t, x.q + 1, x.k, []⟩).set 4 v = cLi v ⟨x.f, x.t, x.q + 1, x.k, B⟩ := rfl
  have hl6 : (cLi v ⟨x.f, x.t, x.q + 1, x.k, B⟩).length = 5 := rfl
  have lE : (cE x).length = 7 := rfl
  have hs2 : (cE x).set 2 (.int .i64 (x.q + 1)) = cE (sX x) := rfl
  have g1 : (H.set b (.cells true false 7 (cE (sX x)) 145)).get b = some (.cells true false 7 (cE (sX x)) 145) := AHeap.get_set_same g _
  simp (disch := first | assumption | omega | (simp only [LN] <;> omega) | (simp (disch := first | assumption | omega | (simp only [LN] <;> omega)) only [row_alloc, row_set]; assumption)) only [f34, W_block, P3, ↓reduceIte, reduceAdd, reduceEqDiff, reduceCtorEq, initFr, reduceLT, clsA, reduceLeDiff, reduceMul, reduceSub, reduceIte, hlen, g, cEg x, hwr, lE, hs2, g1, hd5, hl5, ho5, hs4, hl6, hone]
  have cg := Chg.set H lb (.cells true false 7 (cE (sX x)) 145)
  have hB1 := (hB.chg cg (fun y hy => by simpa using hv y hy)).keeps ((Keeps.refl _).alloc (.cells true false 5 (cLi v ⟨x.f, x.t, x.q + 1, x.k, B⟩) 65))
  refine callK (t36 ⟨x.f, x.t, x.q + 1, x.k, B⟩ ⟨hw.hf, hw.ht⟩ hB1.bs (by show B.length ≤ 50000; omega)) ?_
  rintro r K p
  simp (disch := first | assumption | omega | (simp only [LN] <;> omega) | (simp (disch := first | assumption | omega | (simp only [LN] <;> omega)) only [row_alloc, row_set]; assumption)) only [W_block, P3, ↓reduceIte, reduceAdd, reduceEqDiff, reduceCtorEq, initFr, reduceLT, clsA, reduceLeDiff, reduceMul, reduceSub, reduceIte]
  exact hq2 _ _ ⟨_, rfl, r, rfl, p.from_ ((Keeps.refl _).alloc _)⟩
theorem t35no (g : H.get b = some (.cells true false 6 (cR x) 93)) {B : List UInt8} (hn : 2048 < B.length ∨ 4611686018427387904 ≤ x.q) :
    ∃ w H', ARun Go.Proofs.Try.prog 0 35 [ptr b 0, strB B] H w H' ∧ w = .tuple #[.slice none 0 0, .int .i64 3] ∧ H' = H := by
  refine walk2 f35_ok f35_n ?_
  intro Q hq1 hq2
  by_cases h1 : 2048 < B.length
  · simp (disch := first | assumption | omega | (simp only [LN] <;> omega) | (simp (disch := first | assumption | omega | (simp only [LN] <;> omega)) only [row_alloc, row_set]; assumption)) only [f35, W_block, P3, ↓reduceIte, reduceAdd, reduceEqDiff, reduceCtorEq, initFr, reduceLT, clsA, reduceLeDiff, reduceMul, reduceSub, reduceIte, a_lenB]
    exact hq2 _ _ ⟨_, rfl, rfl, rfl⟩
  · have h2 : 4611686018427387904 ≤ x.q := by omega
    simp (disch := first | assumption | omega | (simp only [LN] <;> omega) | (simp (disch := first | assumption | omega | (simp only [LN] <;> omega)) only [row_alloc, row_set]; assumption)) only [f35, W_block, P3, ↓reduceIte, reduceAdd, reduceEqDiff, reduceCtorEq, initFr, reduceLT, clsA, reduceLeDiff, reduceMul, reduceSub, reduceIte, a_lenB, g, cRg x]
    exact hq2 _ _ ⟨_, rfl, rfl, rfl⟩
theorem t35 (hw : WfE x) (g : H.get b = some (.cells true false 6 (cR x) 93)) {B : List UInt8} (h1 : B.length ≤ 2048) (h2 : x.q < 4611686018427387904) :
    ∃ w H', ARun Go.Proofs.Try.prog 0 35 [ptr b 0, strB B] H w H' ∧ ∃ r, w = .tuple #[r, .int .i64 0] ∧ OB 5 (H.set b (.cells true false 6 (cR (sX x)) 93)) H' r (fLi ⟨x.f, x.t, x.q + 1, x.k, B⟩) := by
  refine walk2 f35_ok f35_n ?_
  intro Q hq1 hq2
  have hwr : IntKind.i64.wrap (x.q + 1) = x.q + 1 := by have := hw.hq; exact wrap_i64 (by omega) (by omega)
  have lb := AHeap.get_lt g
  have lE : (cR x).length = 6 := rfl
  have hs2 : (cR x).set 2 (.int .i64 (x.q + 1)) = cR (sX x) := rfl
  have g1 : (H.set b (.cells true false 6 (cR (sX x)) 93)).get b = some (.cells true false 6 (cR (sX x)) 93) := AHeap.get_set_same g _
  have hfl : fillA [.int .u8 0, .int .u8 0, .int .i64 0, .int .i64 0, .string ByteArray.empty] [(0, 1, .int .u8 (x.f : Nat)), (1, 1, .int .u8 (x.t : Nat)), (2, 1, .int .i64 (x.q + 1)), (3, 1, .int .i64 x.k), (4, 1, strB B)] = some (cLs ⟨x.f, x.t, x.q + 1, x.k, B⟩) := rfl
  have hsx : (sX x).f = x.f ∧ (sX x).t = x.t ∧ (sX x).q = x.q + 1 ∧ (sX x).k = x.k := ⟨rfl, rfl, rfl, rfl⟩
  simp (disch := first | assumption | omega | (simp only [LN] <;> omega) | (simp (disch := first | assumption | omega | (simp only [LN] <;> omega)) only [row_alloc, row_set]; assumption)) only [f35, W_block, P3, ↓reduceIte, reduceAdd, reduceEqDiff, reduceCtorEq, initFr, reduceLT, clsA, reduceLeDiff, reduceMul, reduceSub, reduceIte, a_lenB, g, cRg x, cRg (sX x), hwr, lE, hs2, g1, hsx, hfl]
  refine callK (t52 ⟨x.f, x.t, x.q + 1, x.k, B⟩ ⟨hw.hf, hw.ht⟩ _ (by show B.length ≤ 1000000; omega)) ?_
  rintro r K p
  simp (disch := first | assumption | omega | (simp only [LN] <;> omega) | (simp (disch := first | assumption | omega | (simp only [LN] <;> omega)) only [row_alloc, row_set]; assumption)) only [W_block, P3, ↓reduceIte, reduceAdd, reduceEqDiff, reduceCtorEq, initFr, reduceLT, clsA, reduceLeDiff, reduceMul, reduceSub, reduceIte]
  exact hq2 _ _ ⟨_, rfl, r, rfl, p⟩
end
end Go.AM.Fd

set_option linter.unusedSimpArgs false
set_option linter.unusedVariables false
namespace Go.AM.Fd
open Nat (reduceAdd reduceEqDiff reduceLT reduceLeDiff reduceMul reduceSub)
open Go.Proofs Go.AM.F
section
variable {H : AHeap} {b : Nat} {x : En}
theorem errNV {ρ : Nat → Option Nat} (e : Int) : NV ρ (.tuple #[.slice none 0 0, .int .i64 e]) (.tuple #[.slice none 0 0, .int .i64 e]) :=
  NV.tuple_of (l := [.slice none 0 0, .int .i64 e]) (l' := [.slice none 0 0, .int .i64 e]) (.cons .nilSl (.cons (.int _ e) .nil))
theorem err2NV {ρ : Nat → Option Nat} (s : ByteArray) (e : Int) : NV ρ (.tuple #[.string s, .int .i64 e]) (.tuple #[.string s, .int .i64 e]) :=
  NV.tuple_of (l := [.string s, .int .i64 e]) (l' := [.string s, .int .i64 e]) (.cons (.string s) (.cons (.int _ e) .nil))
theorem t37no (g : H.get b = some (.cells true false 7 (cE x) 145)) {v : Value} {B : List UInt8} (hB : BQ H v B) (hl : B.length ≤ 1000000) (hh : hE x (geLi B) ≠ 0) :
    ∃ w H', ARun Go.Proofs.Try.prog 0 37 [ptr b 0, v] H w H' ∧ w = .tuple #[.slice none 0 0, .int .i64 (hE x (geLi B))] ∧ H' = H := by
  obtain ⟨o, ho⟩ : ∃ o, geLi B = o := ⟨_, rfl⟩
  rw [ho] at hh ⊢
  obtain ⟨w, H', a, rfl, k⟩ : ∃ w H', ARun Go.Proofs.Try.prog 0 37 [ptr b 0, v] H w H' ∧ w = .tuple #[.slice none 0 0, .int .i64 (hE x o)] ∧ Keeps H H' := by
    refine walk2 f37_ok f37_n ?_
    intro Q hq1 hq2
    simp (disch := first | assumption | omega | (simp only [LN] <;> omega) | (simp (disch := first | assumption | omega | (simp only [LN] <;> omega)) only [row_alloc, row_set]; assumption)) only [f37, W_block, P3, ↓reduceIte, reduceAdd, reduceEqDiff, reduceCtorEq, initFr, reduceLT, clsA, reduceLeDiff, reduceMul, reduceSub, reduceIte]
    refine callK (e24 hB hl) ?_
    rintro _ K ⟨vb, rfl, k, fb, ab⟩
    simp only [ho] at *
    obtain ⟨y, hy⟩ : ∃ y, y = o.getD Li0 := ⟨_, rfl⟩
    rw [← hy] at ab ⊢
    have h1b := ab.bs.sl.one
    have om : (cLi vb y).all Value.oneCell' = true := by simp only [cLi, List.all_cons, List.all_nil, h1b]; rfl
    have lm : (cLi vb y).length = 5 := rfl
    have kk := k.alloc (.cells true false 5 (cLi vb y) 65)
    have g2 := k.at_ g
    have lb := AHeap.get_lt g2
    cases o with
    | none =>
      rw [show er (none : Option Li).isSome = 130 from rfl]
      simp (disch := first | assumption | omega | (simp only [LN] <;> omega) | (simp (disch := first | assumption | omega | (simp only [LN] <;> omega)) only [row_alloc, row_set]; assumption)) only [W_block, P3, ↓reduceIte, reduceAdd, reduceEqDiff, reduceCtorEq, initFr, reduceLT, clsA, reduceLeDiff, reduceMul, reduceSub, reduceIte, GotV, lm, om]
      exact hq2 _ _ ⟨_, rfl, rfl, kk⟩
    | some m =>
      obtain rfl : y = m := hy
      rw [show er (some y).isSome = 0 from rfl]
      by_cases h1 : y.f = x.t
      · have h1' : (y.f : Int) = (x.t : Int) := by omega
        by_cases h2 : y.t = x.f
        · have h2' : (y.t : Int) = (x.f : Int) := by omega
          have h12 : ¬ (y.f ≠ x.t ∨ y.t ≠ x.f) := by omega
          have h3 : y.q ≤ x.k := by
            by_cases h3 : y.q ≤ x.k
            · exact h3
            · simp only [hE] at hh; rw [if_neg h12, if_neg h3] at hh; exact absurd rfl hh
          have hv : hE x (some y) = 180 := by simp only [hE]; rw [if_neg h12, if_pos h3]
          rw [hv] at hq2
          simp (disch := first | assumption | omega | (simp only [LN] <;> omega) | (simp (disch := first | assumption | omega | (simp only [LN] <;> omega)) only [row_alloc, row_set]; assumption)) only [W_block, P3, ↓reduceIte, reduceAdd, reduceEqDiff, reduceCtorEq, initFr, reduceLT, clsA, reduceLeDiff, reduceMul, reduceSub, reduceIte, GotV, lm, om, cLiG vb y, g2, cEg x, h1', h2']
          exact hq2 _ _ ⟨_, rfl, rfl, kk⟩
        · have h2' : ¬ (y.t : Int) = (x.f : Int) := by omega
          have hv : hE x (some y) = 2 := by simp only [hE]; rw [if_pos (.inr h2)]
          rw [hv] at hq2
          simp (disch := first | assumption | omega | (simp only [LN] <;> omega) | (simp (disch := first | assumption | omega | (simp only [LN] <;> omega)) only [row_alloc, row_set]; assumption)) only [W_block, P3, ↓reduceIte, reduceAdd, reduceEqDiff, reduceCtorEq, initFr, reduceLT, clsA, reduceLeDiff, reduceMul, reduceSub, reduceIte, GotV, lm, om, cLiG vb y, g2, cEg x, h1', h2']
          exact hq2 _ _ ⟨_, rfl, rfl, kk⟩
      · have h1' : ¬ (y.f : Int) = (x.t : Int) := by omega
        have hv : hE x (some y) = 2 := by simp only [hE]; rw [if_pos (.inl h1)]
        rw [hv] at hq2
        simp (disch := first | assumption | omega | (simp only [LN] <;> omega) | (simp (disch := first | assumption | omega | (simp only [LN] <;> omega)) only [row_alloc, row_set]; assumption)) only [W_block, P3, ↓reduceIte, reduceAdd, reduceEqDiff, reduceCtorEq, initFr, reduceLT, clsA, reduceLeDiff, reduceMul, reduceSub, reduceIte, GotV, lm, om, cLiG vb y, g2, cEg x, h1']
        exact hq2 _ _ ⟨_, rfl, rfl, kk⟩
  exact ⟨_, _, a.gc0 k (.inr (errNV _)), rfl, rfl⟩
theorem t38no (g : H.get b = some (.cells true false 6 (cR x) 93)) {v : Value} {B : List UInt8} (hB : BQ H v B) (hl : B.length ≤ 1000000) (hh : hE x (geLi B) ≠ 0) :
    ∃ w H', ARun Go.Proofs.Try.prog 0 38 [ptr b 0, v] H w H' ∧ w = .tuple #[strB [], .int .i64 (hE x (geLi B))] ∧ H' = H := by
  obtain ⟨o, ho⟩ : ∃ o, geLi B = o := ⟨_, rfl⟩
  rw [ho] at hh ⊢
  obtain ⟨w, H', a, rfl, k⟩ : ∃ w H', ARun Go.Proofs.Try.prog 0 38 [ptr b 0, v] H w H' ∧ w = .tuple #[strB [], .int .i64 (hE x o)] ∧ Keeps H H' := by
    refine walk2 f38_ok f38_n ?_
    intro Q hq1 hq2
    simp (disch := first | assumption | omega | (simp only [LN] <;> omega) | (simp (disch := first | assumption | omega | (simp only [LN] <;> omega)) only [row_alloc, row_set]; assumption)) only [f38, W_block, P3, ↓reduceIte, reduceAdd, reduceEqDiff, reduceCtorEq, initFr, reduceLT, clsA, reduceLeDiff, reduceMul, reduceSub, reduceIte]
    refine callP (d25 hB hl) ?_
    simp only [ho] at *
    obtain ⟨y, hy⟩ : ∃ y, y = o.getD Li0 := ⟨_, rfl⟩
    rw [← hy]
    have lm := cLsL y
    have kk := (Keeps.refl H).alloc (.cells true false 5 (cLs y) 69)
    have lb := AHeap.get_lt g
    have cg : (cLs y)[0]? = some (.int .u8 (y.f : Nat)) ∧ (cLs y)[1]? = some (.int .u8 (y.t : Nat)) ∧ (cLs y)[2]? = some (.int .i64 y.q) := ⟨rfl, rfl, rfl⟩
    cases o with
    | none =>
      simp (disch := first | assumption | omega | (simp only [LN] <;> omega) | (simp (disch := first | assumption | omega | (simp only [LN] <;> omega)) only [row_alloc, row_set]; assumption)) only [W_block, P3, ↓reduceIte, reduceAdd, reduceEqDiff, reduceCtorEq, initFr, reduceLT, clsA, reduceLeDiff, reduceMul, reduceSub, reduceIte, GotB, cLsL, cLsO, Option.isSome_none]
      exact hq2 _ _ ⟨_, rfl, rfl, kk⟩
    | some m =>
      obtain rfl : y = m := hy
      by_cases h1 : y.f = x.t
      · have h1' : (y.f : Int) = (x.t : Int) := by omega
        by_cases h2 : y.t = x.f
        · have h2' : (y.t : Int) = (x.f : Int) := by omega
          have h12 : ¬ (y.f ≠ x.t ∨ y.t ≠ x.f) := by omega
          have h3 : y.q ≤ x.k := by
            by_cases h3 : y.q ≤ x.k
            · exact h3
            · simp only [hE] at hh; rw [if_neg h12, if_neg h3] at hh; exact absurd rfl hh
          have hv : hE x (some y) = 180 := by simp only [hE]; rw [if_neg h12, if_pos h3]
          rw [hv] at hq2
          simp (disch := first | assumption | omega | (simp only [LN] <;> omega) | (simp (disch := first | assumption | omega | (simp only [LN] <;> omega)) only [row_alloc, row_set]; assumption)) only [W_block, P3, ↓reduceIte, reduceAdd, reduceEqDiff, reduceCtorEq, initFr, reduceLT, clsA, reduceLeDiff, reduceMul, reduceSub, reduceIte, GotB, cLsL, cLsO, cg, g, cRg x, h1', h2', Option.isSome_some]
          exact hq2 _ _ ⟨_, rfl, rfl, kk⟩
        · have h2' : ¬ (y.t : Int) = (x.f : Int) := by omega
          have hv : hE x (some y) = 2 := by simp only [hE]; rw [if_pos (.inr h2)]
          rw [hv] at hq2
          simp (disch := first | assumption | omega | (simp only [LN] <;> omega) | (simp (disch := first | assumption | omega | (simp only [LN] <;> omega)) only [row_alloc, row_set]; assumption)) only [W_block, P3, ↓reduceIte, reduceAdd, reduceEqDiff, reduceCtorEq, initFr, reduceLT, clsA, reduceLeDiff, reduceMul, reduceSub, reduceIte, GotB, cLsL, cLsO, cg, g, cRg x, h1', h2', Option.isSome_some]
          exact hq2 _ _ ⟨_, rfl, rfl, kk⟩
      · have h1' : ¬ (y.f : Int) = (x.t : Int) := by omega
        have hv : hE x (some y) = 2 := by simp only [hE]; rw [if_pos (.inl h1)]
        rw [hv] at hq2
        simp (disch := first | assumption | omega | (simp only [LN] <;> omega) | (simp (disch := first | assumption | omega | (simp only [LN] <;> omega)) only [row_alloc, row_set]; assumption)) only [W_block, P3, ↓reduceIte, reduceAdd, reduceEqDiff, reduceCtorEq, initFr, reduceLT, clsA, reduceLeDiff, reduceMul, reduceSub, reduceIte, GotB, cLsL, cLsO, cg, g, cRg x, h1', Option.isSome_some]
        exact hq2 _ _ ⟨_, rfl, rfl, kk⟩
  exact ⟨_, _, a.gc0 k (.inr (err2NV _ _)), rfl, rfl⟩
theorem hE0 {m : Li} (h : hE x (some m) = 0) : m.f = x.t ∧ m.t = x.f ∧ x.k < m.q := by
  simp only [hE] at h
  split at h
  · exact absurd h (by decide)
  · rename_i h1
    split at h
    · exact absurd h (by decide)
    · exact ⟨by omega, by omega, by omega⟩
theorem t37 (hw : WfE x) (g : H.get b = some (.cells true false 7 (cE x) 145)) {v : Value} {B : List UInt8} (hB : BQ H v B) (hl : B.length ≤ 1000000) {m : Li} (hm : geLi B = some m) (hh : hE x (some m) = 0) :
    ∃ w H', ARun Go.Proofs.Try.prog 0 37 [ptr b 0, v] H w H' ∧ ∃ vb, w = .tuple #[vb, .int .i64 0] ∧ H'.get b = some (.cells true false 7 (cE (hX x m)) 145) ∧ Chg [b] H H' ∧ Fresh H.n vb ∧ AP H' 5 1 vb m.B.length (cellsOf m.B) := by
  obtain ⟨h1, h2, h3⟩ := hE0 hh
  have ho := okLi_iff.1 (geLi_ok hm)
  refine walk2 f37_ok f37_n ?_
  intro Q hq1 hq2
  simp (disch := first | assumption | omega | (simp only [LN] <;> omega) | (simp (disch := first | assumption | omega | (simp only [LN] <;> omega)) only [row_alloc, row_set]; assumption)) only [f37, W_block, P3, ↓reduceIte, reduceAdd, reduceEqDiff, reduceCtorEq, initFr, reduceLT, clsA, reduceLeDiff, reduceMul, reduceSub, reduceIte]
  refine callK (e24 hB hl) ?_
  rintro _ K ⟨vb, rfl, k, fb, ab⟩
  simp only [hm, Option.getD_some, Option.isSome_some] at ab ⊢
  rw [show er true = 0 from rfl]
  have h1b := ab.bs.sl.one
  have om : (cLi vb m).all Value.oneCell' = true := by simp only [cLi, List.all_cons, List.all_nil, h1b]; rfl
  have lm : (cLi vb m).length = 5 := rfl
  have g2 := k.at_ g
  have lb := AHeap.get_lt g
  have lk := k.n
  have h1' : (m.f : Int) = (x.t : Int) := by omega
  have h2' : (m.t : Int) = (x.f : Int) := by omega
  have hkl := hw.hk
  have hll := hw.hl
  have lE : ∀ y : En, (cE y).length = 7 := fun _ => rfl
  have g65 := AHeap.get_alloc_new K (.cells true false 5 (cLi vb m) 65)
  have ab2 := ab.keeps ((Keeps.refl K).alloc (.cells true false 5 (cLi vb m) 65))
  have g3 := (k.alloc (.cells true false 5 (cLi vb m) 65)).at_ g
  have kk := k.alloc (.cells true false 5 (cLi vb m) 65)
  have hns : ∀ z ∈ blkL vb, z ≠ b := fun z hz => by have := fb z (mem_blkL.1 hz); omega
  simp (disch := first | assumption | omega | (simp only [LN] <;> omega) | (simp (disch := first | assumption | omega | (simp only [LN] <;> omega)) only [row_alloc, row_set]; assumption)) only [W_block, P3, ↓reduceIte, reduceAdd, reduceEqDiff, reduceCtorEq, initFr, reduceLT, clsA, reduceLeDiff, reduceMul, reduceSub, reduceIte, GotV, lm, om]
  obtain ⟨K2, hK2⟩ : ∃ X, X = K.alloc (.cells true false 5 (cLi vb m) 65) := ⟨_, rfl⟩
  rw [← hK2] at g65 ab2 g3 kk ⊢
  have hbK : b ≠ K.n := by omega
  have lb2 := AHeap.get_lt g3
  have l65 := AHeap.get_lt g65
  simp (disch := first | assumption | omega | (simp only [LN] <;> omega) | (simp (disch := first | assumption | omega | (simp only [LN] <;> omega)) only [row_alloc, row_set]; assumption)) only [W_block, P3, ↓reduceIte, reduceAdd, reduceEqDiff, reduceCtorEq, initFr, reduceLT, clsA, reduceLeDiff, reduceMul, reduceSub, reduceIte, cLiG vb m, g65, g3, cEg x, h1', h2']
  have fin : ∀ y : En, cE y = cE (hX x m) → (∃ w, (some (Value.tuple #[vb, .int .i64 0]) : Option Value) = some w ∧ ∃ vb', w = .tuple #[vb', .int .i64 0] ∧ (K2.set b (.cells true false 7 (cE y) 145)).get b = some (.cells true false 7 (cE (hX x m)) 145) ∧ Chg [b] H (K2.set b (.cells true false 7 (cE y) 145)) ∧ Fresh H.n vb' ∧ AP (K2.set b (.cells true false 7 (cE y) 145)) 5 1 vb' m.B.length (cellsOf m.B)) := by
    intro y hy
    rw [hy]
    exact ⟨_, rfl, vb, rfl, AHeap.get_set_same g3 _, (kk.chg _).trans (Chg.set K2 lb2 _) (fun z hz => .inl hz), fb, ab2.chg (Chg.set K2 lb2 _) (fun z hz => by simpa using hns z hz)⟩
  have aX : (hX x m).k = m.q := rfl
  by_cases c1 : 0 < x.k
  · have w1 : IntKind.i64.wrap (m.q - x.k) = m.q - x.k := wrap_i64 (by omega) (by omega)
    have w2 : IntKind.i64.wrap (m.q - x.k - 1) = m.q - x.k - 1 := wrap_i64 (by omega) (by omega)
    have w3 : IntKind.i64.wrap (x.l + (m.q - x.k - 1)) = x.l + (m.q - x.k - 1) := wrap_i64 (by omega) (by omega)
    obtain ⟨x1, hx1⟩ : ∃ y : En, y = { x with l := x.l + (m.q - x.k - 1) } := ⟨_, rfl⟩
    have s1 : (cE x).set 6 (.int .i64 (x.l + (m.q - x.k - 1))) = cE x1 := by rw [hx1]; rfl
    obtain ⟨x2, hx2⟩ : ∃ y : En, y = { x1 with k := m.q } := ⟨_, rfl⟩
    have s2 : (cE x1).set 3 (.int .i64 m.q) = cE x2 := by rw [hx2]; rfl
    have q2 : x2.q = x.q ∧ x2.a = x.a := by rw [hx2, hx1]; exact ⟨rfl, rfl⟩
    by_cases c2 : m.k ≤ x.q
    · obtain ⟨x3, hx3⟩ : ∃ y : En, y = { x2 with a := max x.a m.k } := ⟨_, rfl⟩
      have s3 : (cE x2).set 5 (.int .i64 (max x.a m.k)) = cE x3 := by rw [hx3]; rfl
      have e3 : cE x3 = cE (hX x m) := by rw [hx3, hx2, hx1]; simp only [hX, if_pos c1, if_pos c2]
      simp (disch := first | assumption | omega | (simp only [LN] <;> omega) | (simp (disch := first | assumption | omega | (simp only [LN] <;> omega)) only [row_alloc, row_set]; assumption)) only [W_block, P3, ↓reduceIte, reduceAdd, reduceEqDiff, reduceCtorEq, initFr, reduceLT, clsA, reduceLeDiff, reduceMul, reduceSub, reduceIte, cLiG vb m, g65, g3, cEg x, w1, w2, w3, lE, s1, s2, cEg x2, q2, a_mmx, s3]
      exact hq2 _ _ (fin _ e3)
    · have e2 : cE x2 = cE (hX x m) := by rw [hx2, hx1]; simp only [hX, if_pos c1, if_neg c2]
      simp (disch := first | assumption | omega | (simp only [LN] <;> omega) | (simp (disch := first | assumption | omega | (simp only [LN] <;> omega)) only [row_alloc, row_set]; assumption)) only [W_block, P3, ↓reduceIte, reduceAdd, reduceEqDiff, reduceCtorEq, initFr, reduceLT, clsA, reduceLeDiff, reduceMul, reduceSub, reduceIte, cLiG vb m, g65, g3, cEg x, w1, w2, w3, lE, s1, s2, cEg x2, q2]
      exact hq2 _ _ (fin _ e2)
  · obtain ⟨x2, hx2⟩ : ∃ y : En, y = { x with k := m.q } := ⟨_, rfl⟩
    have s2 : (cE x).set 3 (.int .i64 m.q) = cE x2 := by rw [hx2]; rfl
    have q2 : x2.q = x.q ∧ x2.a = x.a := by rw [hx2]; exact ⟨rfl, rfl⟩
    by_cases c2 : m.k ≤ x.q
    · obtain ⟨x3, hx3⟩ : ∃ y : En, y = { x2 with a := max x.a m.k } := ⟨_, rfl⟩
      have s3 : (cE x2).set 5 (.int .i64 (max x.a m.k)) = cE x3 := by rw [hx3]; rfl
      have e3 : cE x3 = cE (hX x m) := by rw [hx3, hx2]; simp only [hX, if_neg c1, if_pos c2]
      simp (disch := first | assumption | omega | (simp only [LN] <;> omega) | (simp (disch := first | assumption | omega | (simp only [LN] <;> omega)) only [row_alloc, row_set]; assumption)) only [W_block, P3, ↓reduceIte, reduceAdd, reduceEqDiff, reduceCtorEq, initFr, reduceLT, clsA, reduceLeDiff, reduceMul, reduceSub, reduceIte, cLiG vb m, g65, g3, cEg x, lE, s2, cEg x2, q2, a_mmx, s3]
      exact hq2 _ _ (fin _ e3)
    · have e2 : cE x2 = cE (hX x m) := by rw [hx2]; simp only [hX, if_neg c1, if_neg c2]
      simp (disch := first | assumption | omega | (simp only [LN] <;> omega) | (simp (disch := first | assumption | omega | (simp only [LN] <;> omega)) only [row_alloc, row_set]; assumption)) only [W_block, P3, ↓reduceIte, reduceAdd, reduceEqDiff, reduceCtorEq, initFr, reduceLT, clsA, reduceLeDiff, reduceMul, reduceSub, reduceIte, cLiG vb m, g65, g3, cEg x, lE, s2, cEg x2, q2]
      exact hq2 _ _ (fin _ e2)
theorem AOr.plain {ρ : Nat → Option Nat} {own room : Bool} {esz e : Nat} {c : List Value} (h : c.all plain1 = true) : AOr ρ (.cells own room esz c e) (.cells own room esz c e) := ⟨own, c, rfl, fun h => h, NL.plain h⟩
theorem ARun.gc1 {P : Program} {ng : Nat} {f : FuncId} {args : List Value} {H H' : AHeap} {v : Value} {b : Nat} {own room : Bool} {esz e : Nat} {c : List Value} (a : ARun P ng f args H v H') (hb : b < H.n) (hs : (H.get b).isSome = true) (k : Chg [b] H H') (g : H'.get b = some (.cells own room esz c e)) (hc : c.all plain1 = true)
    (hv : NV (rho H.n []) v v) : ARun P ng f args H v (H.set b (.cells own room esz c e)) := by
  refine a.gcs [] rfl (by simp) (by simp) (fun y o' hy ho => ?_) (by simp) (.inr hv)
  by_cases hyb : y = b
  · subst hyb
    rw [g] at ho; cases ho
    refine .inr ⟨_, ?_, AOr.plain hc⟩
    obtain ⟨o0, h0⟩ := Option.isSome_iff_exists.1 hs
    exact AHeap.get_set_same h0 _
  · rw [k.get y hy (by simpa using hyb)] at ho
    exact .inl ⟨ho, by rw [AHeap.get_set_other _ hyb hb]; exact ho⟩
theorem t38 (hw : WfE x) (g : H.get b = some (.cells true false 6 (cR x) 93)) {v : Value} {B : List UInt8} (hB : BQ H v B) (hl : B.length ≤ 1000000) {m : Li} (hm : geLi B = some m) (hh : hE x (some m) = 0) :
    ∃ w H', ARun Go.Proofs.Try.prog 0 38 [ptr b 0, v] H w H' ∧ w = .tuple #[strB m.B, .int .i64 0] ∧ H' = H.set b (.cells true false 6 (cR (hX x m)) 93) := by
  obtain ⟨w, H', a, rfl, k, gb⟩ : ∃ w H', ARun Go.Proofs.Try.prog 0 38 [ptr b 0, v] H w H' ∧ w = .tuple #[strB m.B, .int .i64 0] ∧ Chg [b] H H' ∧ H'.get b = some (.cells true false 6 (cR (hX x m)) 93) := by
    obtain ⟨h1, h2, h3⟩ := hE0 hh
    have ho := okLi_iff.1 (geLi_ok hm)
    refine walk2 f38_ok f38_n ?_
    intro Q hq1 hq2
    simp (disch := first | assumption | omega | (simp only [LN] <;> omega) | (simp (disch := first | assumption | omega | (simp only [LN] <;> omega)) only [row_alloc, row_set]; assumption)) only [f38, W_block, P3, ↓reduceIte, reduceAdd, reduceEqDiff, reduceCtorEq, initFr, reduceLT, clsA, reduceLeDiff, reduceMul, reduceSub, reduceIte]
    refine callP (d25 hB hl) ?_
    simp only [hm, Option.getD_some, Option.isSome_some]
    have lm := cLsL m
    have lb := AHeap.get_lt g
    have h1' : (m.f : Int) = (x.t : Int) := by omega
    have h2' : (m.t : Int) = (x.f : Int) := by omega
    have hkl := hw.hk
    have hll := hw.hl
    have lE : ∀ y : En, (cR y).length = 6 := fun _ => rfl
    have cg : (cLs m)[0]? = some (.int .u8 (m.f : Nat)) ∧ (cLs m)[1]? = some (.int .u8 (m.t : Nat)) ∧ (cLs m)[2]? = some (.int .i64 m.q) ∧ (cLs m)[3]? = some (.int .i64 m.k) ∧ (cLs m)[4]? = some (strB m.B) := ⟨rfl, rfl, rfl, rfl, rfl⟩
    have g65 := AHeap.get_alloc_new H (.cells true false 5 (cLs m) 69)
    have kk := (Keeps.refl H).alloc (.cells true false 5 (cLs m) 69)
    have g3 := kk.at_ g
    simp (disch := first | assumption | omega | (simp only [LN] <;> omega) | (simp (disch := first | assumption | omega | (simp only [LN] <;> omega)) only [row_alloc, row_set]; assumption)) only [W_block, P3, ↓reduceIte, reduceAdd, reduceEqDiff, reduceCtorEq, initFr, reduceLT, clsA, reduceLeDiff, reduceMul, reduceSub, reduceIte, GotB, cLsL, cLsO]
    obtain ⟨K2, hK2⟩ : ∃ X, X = H.alloc (.cells true false 5 (cLs m) 69) := ⟨_, rfl⟩
    rw [← hK2] at g65 g3 kk ⊢
    have hbK : b ≠ H.n := by omega
    have lb2 := AHeap.get_lt g3
    have l65 := AHeap.get_lt g65
    simp (disch := first | assumption | omega | (simp only [LN] <;> omega) | (simp (disch := first | assumption | omega | (simp only [LN] <;> omega)) only [row_alloc, row_set]; assumption)) only [W_block, P3, ↓reduceIte, reduceAdd, reduceEqDiff, reduceCtorEq, initFr, reduceLT, clsA, reduceLeDiff, reduceMul, reduceSub, reduceIte, cg, g65, g3, cRg x, h1', h2']
    have fin : ∀ y : En, cR y = cR (hX x m) → (∃ w, (some (Value.tuple #[strB m.B, .int .i64 0]) : Option Value) = some w ∧ w = .tuple #[strB m.B, .int .i64 0] ∧ Chg [b] H (K2.set b (.cells true false 6 (cR y) 93)) ∧ (K2.set b (.cells true false 6 (cR y) 93)).get b = some (.cells true false 6 (cR (hX x m)) 93)) := by
      intro y hy
      rw [hy]
      exact ⟨_, rfl, rfl, (kk.chg _).trans (Chg.set K2 lb2 _) (fun z hz => .inl hz), AHeap.get_set_same g3 _⟩
    by_cases c1 : 0 < x.k
    · have w1 : IntKind.i64.wrap (x.l + m.q) = x.l + m.q := wrap_i64 (by omega) (by omega)
      have w2 : IntKind.i64.wrap (x.l + m.q - x.k) = x.l + m.q - x.k := wrap_i64 (by omega) (by omega)
      have w3 : IntKind.i64.wrap (x.l + m.q - x.k - 1) = x.l + m.q - x.k - 1 := wrap_i64 (by omega) (by omega)
      obtain ⟨x1, hx1⟩ : ∃ y : En, y = { x with l := x.l + m.q - x.k - 1 } := ⟨_, rfl⟩
      have s1 : (cR x).set 5 (.int .i64 (x.l + m.q - x.k - 1)) = cR x1 := by rw [hx1]; rfl
      obtain ⟨x2, hx2⟩ : ∃ y : En, y = { x1 with k := m.q } := ⟨_, rfl⟩
      have s2 : (cR x1).set 3 (.int .i64 m.q) = cR x2 := by rw [hx2]; rfl
      have q2 : x2.q = x.q ∧ x2.a = x.a := by rw [hx2, hx1]; exact ⟨rfl, rfl⟩
      have el : x.l + m.q - x.k - 1 = x.l + (m.q - x.k - 1) := by omega
      by_cases c0 : x.a < m.k
      · by_cases c2 : m.k ≤ x.q
        · obtain ⟨x3, hx3⟩ : ∃ y : En, y = { x2 with a := m.k } := ⟨_, rfl⟩
          have s3 : (cR x2).set 4 (.int .i64 m.k) = cR x3 := by rw [hx3]; rfl
          have e3 : cR x3 = cR (hX x m) := by
            have : max x.a m.k = m.k := by rw [Int.max_def]; split <;> omega
            rw [hx3, hx2, hx1]; simp only [hX, if_pos c1, if_pos c2, el, this]
          simp (disch := first | assumption | omega | (simp only [LN] <;> omega) | (simp (disch := first | assumption | omega | (simp only [LN] <;> omega)) only [row_alloc, row_set]; assumption)) only [W_block, P3, ↓reduceIte, reduceAdd, reduceEqDiff, reduceCtorEq, initFr, reduceLT, clsA, reduceLeDiff, reduceMul, reduceSub, reduceIte, cg, g65, g3, cRg x, w1, w2, w3, lE, s1, s2, cRg x2, q2, s3]
          exact hq2 _ _ (fin _ e3)
        · have e2 : cR x2 = cR (hX x m) := by rw [hx2, hx1]; simp only [hX, if_pos c1, if_neg c2, el]
          simp (disch := first | assumption | omega | (simp only [LN] <;> omega) | (simp (disch := first | assumption | omega | (simp only [LN] <;> omega)) only [row_alloc, row_set]; assumption)) only [W_block, P3, ↓reduceIte, reduceAdd, reduceEqDiff, reduceCtorEq, initFr, reduceLT, clsA, reduceLeDiff, reduceMul, reduceSub, reduceIte, cg, g65, g3, cRg x, w1, w2, w3, lE, s1, s2, cRg x2, q2]
          exact hq2 _ _ (fin _ e2)
      · have e2 : cR x2 = cR (hX x m) := by
          have : max x.a m.k = x.a := by rw [Int.max_def]; split <;> omega
          rw [hx2, hx1]; simp only [hX, if_pos c1, el, this, ite_self]
        simp (disch := first | assumption | omega | (simp only [LN] <;> omega) | (simp (disch := first | assumption | omega | (simp only [LN] <;> omega)) only [row_alloc, row_set]; assumption)) only [W_block, P3, ↓reduceIte, reduceAdd, reduceEqDiff, reduceCtorEq, initFr, reduceLT, clsA, reduceLeDiff, reduceMul, reduceSub, reduceIte, cg, g65, g3, cRg x, w1, w2, w3, lE, s1, s2, cRg x2, q2]
        exact hq2 _ _ (fin _ e2)
    · obtain ⟨x2, hx2⟩ : ∃ y : En, y = { x with k := m.q } := ⟨_, rfl⟩
      have s2 : (cR x).set 3 (.int .i64 m.q) = cR x2 := by rw [hx2]; rfl
      have q2 : x2.q = x.q ∧ x2.a = x.a := by rw [hx2]; exact ⟨rfl, rfl⟩
      by_cases c0 : x.a < m.k
      · by_cases c2 : m.k ≤ x.q
        · obtain ⟨x3, hx3⟩ : ∃ y : En, y = { x2 with a := m.k } := ⟨_, rfl⟩
          have s3 : (cR x2).set 4 (.int .i64 m.k) = cR x3 := by rw [hx3]; rfl
          have e3 : cR x3 = cR (hX x m) := by
            have : max x.a m.k = m.k := by rw [Int.max_def]; split <;> omega
            rw [hx3, hx2]; simp only [hX, if_neg c1, if_pos c2, this]
          simp (disch := first | assumption | omega | (simp only [LN] <;> omega) | (simp (disch := first | assumption | omega | (simp only [LN] <;> omega)) only [row_alloc, row_set]; assumption)) only [W_block, P3, ↓reduceIte, reduceAdd, reduceEqDiff, reduceCtorEq, initFr, reduceLT, clsA, reduceLeDiff, reduceMul, reduceSub, reduceIte, cg, g65, g3, cRg x, lE, s2, cRg x2, q2, s3]
          exact hq2 _ _ (fin _ e3)
        · have e2 : cR x2 = cR (hX x m) := by rw [hx2]; simp only [hX, if_neg c1, if_neg c2]
          simp (disch := first | assumption | omega | (simp only [LN] <;> omega) | (simp (disch := first | assumption | omega | (simp only [LN] <;> omega)) only [row_alloc, row_set]; assumption)) only [W_block, P3, ↓reduceIte, reduceAdd, reduceEqDiff, reduceCtorEq, initFr, reduceLT, clsA, reduceLeDiff, reduceMul, reduceSub, reduceIte, cg, g65, g3, cRg x, lE, s2, cRg x2, q2]
          exact hq2 _ _ (fin _ e2)
      · have e2 : cR x2 = cR (hX x m) := by
          have : max x.a m.k = x.a := by rw [Int.max_def]; split <;> omega
          rw [hx2]; simp only [hX, if_neg c1, this, ite_self]
        simp (disch := first | assumption | omega | (simp only [LN] <;> omega) | (simp (disch := first | assumption | omega | (simp only [LN] <;> omega)) only [row_alloc, row_set]; assumption)) only [W_block, P3, ↓reduceIte, reduceAdd, reduceEqDiff, reduceCtorEq, initFr, reduceLT, clsA, reduceLeDiff, reduceMul, reduceSub, reduceIte, cg, g65, g3, cRg x, lE, s2, cRg x2, q2]
        exact hq2 _ _ (fin _ e2)
  exact ⟨_, _, ARun.gc1 a (AHeap.get_lt g) (by rw [g]; rfl) k gb rfl (err2NV _ _), rfl, rfl⟩
end
end Go.AM.Fd

set_option maxRecDepth 100000
namespace Go.AM.TFw
open Go.Proofs
def EFok (P : Program) (ng k : Nat) (f : EF) : Prop := ((compF P ng f.sl k).map fun af => (af.sl, af.res, simpC af.body)) = some (f.sl, f.res, f.body)
def e24 : EF := Hk.EFof 1 F.f24
theorem e24_ok : Hk.EFok Go.Proofs.Try.prog 0 24 e24 := Hk.ok_af F.f24_ok rfl F.f24_n
def e31 : EF := Hk.EFof 0 F.f31
theorem e31_ok : Hk.EFok Go.Proofs.Try.prog 0 31 e31 := Hk.ok_af F.f31_ok rfl F.f31_n
def e32 : EF := Hk.EFof 3 F.f32
theorem e32_ok : Hk.EFok Go.Proofs.Try.prog 0 32 e32 := Hk.ok_af F.f32_ok rfl F.f32_n
def e34 : EF := Hk.EFof 2 F.f34
theorem e34_ok : Hk.EFok Go.Proofs.Try.prog 0 34 e34 := Hk.ok_af F.f34_ok rfl F.f34_n
def e36 : EF := Hk.EFof 1 F.f36
theorem e36_ok : Hk.EFok Go.Proofs.Try.prog 0 36 e36 := Hk.ok_af F.f36_ok rfl F.f36_n
def e37 : EF := Hk.EFof 2 F.f37
theorem e37_ok : Hk.EFok Go.Proofs.Try.prog 0 37 e37 := Hk.ok_af F.f37_ok rfl F.f37_n
def e39 : EF := Hk.EFof 1 F.f39
theorem e39_ok : Hk.EFok Go.Proofs.Try.prog 0 39 e39 := Hk.ok_af F.f39_ok rfl F.f39_n
def e40 : EF := Hk.EFof 1 F.f40
theorem e40_ok : Hk.EFok Go.Proofs.Try.prog 0 40 e40 := Hk.ok_af F.f40_ok rfl F.f40_n
def e41 : EF := Hk.EFof 1 F.f41
theorem e41_ok : Hk.EFok Go.Proofs.Try.prog 0 41 e41 := Hk.ok_af F.f41_ok rfl F.f41_n
def e62 : EF := Hk.EFof 2 F.f62
theorem e62_ok : Hk.EFok Go.Proofs.Try.prog 0 62 e62 := Hk.ok_af F.f62_ok rfl F.f62_n
def e63 : EF := Hk.EFof 1 F.f63
theorem e63_ok : Hk.EFok Go.Proofs.Try.prog 0 63 e63 := Hk.ok_af F.f63_ok rfl F.f63_n
def e64 : EF := Hk.EFof 1 F.f64
theorem e64_ok : Hk.EFok Go.Proofs.Try.prog 0 64 e64 := Hk.ok_af F.f64_ok rfl F.f64_n
def e65 : EF := Hk.EFof 1 F.f65
theorem e65_ok : Hk.EFok Go.Proofs.Try.prog 0 65 e65 := Hk.ok_af F.f65_ok rfl F.f65_n
def e73 : EF := Hk.EFof 1 F.f73
theorem e73_ok : Hk.EFok Go.Proofs.Try.prog 0 73 e73 := Hk.ok_af F.f73_ok rfl F.f73_n
def e74 : EF := Hk.EFof 2 F.f74
theorem e74_ok : Hk.EFok Go.Proofs.Try.prog 0 74 e74 := Hk.ok_af F.f74_ok rfl F.f74_n
def e75 : EF := Hk.EFof 1 F.f75
theorem e75_ok : Hk.EFok Go.Proofs.Try.prog 0 75 e75 := Hk.ok_af F.f75_ok rfl F.f75_n
def e76 : EF := Hk.EFof 3 F.f76
theorem e76_ok : Hk.EFok Go.Proofs.Try.prog 0 76 e76 := Hk.ok_af F.f76_ok rfl F.f76_n
def e77 : EF := Hk.EFof 3 F.f77
theorem e77_ok : Hk.EFok Go.Proofs.Try.prog 0 77 e77 := Hk.ok_af F.f77_ok rfl F.f77_n
def e78 : EF := Hk.EFof 2 F.f78
theorem e78_ok : Hk.EFok Go.Proofs.Try.prog 0 78 e78 := Hk.ok_af F.f78_ok rfl F.f78_n
def e79 : EF := Hk.EFof 2 F.f79
theorem e79_ok : Hk.EFok Go.Proofs.Try.prog 0 79 e79 := Hk.ok_af F.f79_ok rfl F.f79_n
def e80 : EF := Hk.EFof 2 F.f80
theorem e80_ok : Hk.EFok Go.Proofs.Try.prog 0 80 e80 := Hk.ok_af F.f80_ok rfl F.f80_n
def e81 : EF := Hk.EFof 2 F.f81
theorem e81_ok : Hk.EFok Go.Proofs.Try.prog 0 81 e81 := Hk.ok_af F.f81_ok rfl F.f81_n
def e82 : EF := Hk.EFof 2 F.f82
theorem e82_ok : Hk.EFok Go.Proofs.Try.prog 0 82 e82 := Hk.ok_af F.f82_ok rfl F.f82_n
def e84 : EF := Hk.EFof 2 F.f84
theorem e84_ok : Hk.EFok Go.Proofs.Try.prog 0 84 e84 := Hk.ok_af F.f84_ok rfl F.f84_n
def e85 : EF := Hk.EFof 2 F.f85
theorem e85_ok : Hk.EFok Go.Proofs.Try.prog 0 85 e85 := Hk.ok_af F.f85_ok rfl F.f85_n
def e96 : EF := Hk.EFof 1 F.f96
theorem e96_ok : Hk.EFok Go.Proofs.Try.prog 0 96 e96 := Hk.ok_af F.f96_ok rfl F.f96_n
def e98 : EF := Hk.EFof 2 F.f98
theorem e98_ok : Hk.EFok Go.Proofs.Try.prog 0 98 e98 := Hk.ok_af F.f98_ok rfl F.f98_n
def e99 : EF := Hk.EFof 1 F.f99
theorem e99_ok : Hk.EFok Go.Proofs.Try.prog 0 99 e99 := Hk.ok_af F.f99_ok rfl F.f99_n
def e100 : EF := Hk.EFof 1 F.f100
theorem e100_ok : Hk.EFok Go.Proofs.Try.prog 0 100 e100 := Hk.ok_af F.f100_ok rfl F.f100_n
def e101 : EF := Hk.EFof 1 F.f101
theorem e101_ok : Hk.EFok Go.Proofs.Try.prog 0 101 e101 := Hk.ok_af F.f101_ok rfl F.f101_n
def e103 : EF := Hk.EFof 2 F.f103
theorem e103_ok : Hk.EFok Go.Proofs.Try.prog 0 103 e103 := Hk.ok_af F.f103_ok rfl F.f103_n
def e104 : EF := Hk.EFof 1 F.f104
theorem e104_ok : Hk.EFok Go.Proofs.Try.prog 0 104 e104 := Hk.ok_af F.f104_ok rfl F.f104_n
def e105 : EF := Hk.EFof 2 F.f105
theorem e105_ok : Hk.EFok Go.Proofs.Try.prog 0 105 e105 := Hk.ok_af F.f105_ok rfl F.f105_n
def e110 : EF := Hk.EFof 2 F.f110
theorem e110_ok : Hk.EFok Go.Proofs.Try.prog 0 110 e110 := Hk.ok_af F.f110_ok rfl F.f110_n
def e111 : EF := Hk.EFof 1 F.f111
theorem e111_ok : Hk.EFok Go.Proofs.Try.prog 0 111 e111 := Hk.ok_af F.f111_ok rfl F.f111_n
def e112 : EF := Hk.EFof 2 F.f112
theorem e112_ok : Hk.EFok Go.Proofs.Try.prog 0 112 e112 := Hk.ok_af F.f112_ok rfl F.f112_n
def e113 : EF := Hk.EFof 1 F.f113
theorem e113_ok : Hk.EFok Go.Proofs.Try.prog 0 113 e113 := Hk.ok_af F.f113_ok rfl F.f113_n
def e114 : EF := Hk.EFof 1 F.f114
theorem e114_ok : Hk.EFok Go.Proofs.Try.prog 0 114 e114 := Hk.ok_af F.f114_ok rfl F.f114_n
def e116 : EF := Hk.EFof 2 F.f116
theorem e116_ok : Hk.EFok Go.Proofs.Try.prog 0 116 e116 := Hk.ok_af F.f116_ok rfl F.f116_n
def e117 : EF := Hk.EFof 1 F.f117
theorem e117_ok : Hk.EFok Go.Proofs.Try.prog 0 117 e117 := Hk.ok_af F.f117_ok rfl F.f117_n
def e118 : EF := Hk.EFof 2 F.f118
theorem e118_ok : Hk.EFok Go.Proofs.Try.prog 0 118 e118 := Hk.ok_af F.f118_ok rfl F.f118_n
def e119 : EF := Hk.EFof 2 F.f119
theorem e119_ok : Hk.EFok Go.Proofs.Try.prog 0 119 e119 := Hk.ok_af F.f119_ok rfl F.f119_n
noncomputable def tab : Hk.FT := (.node 81 e81 (.node 63 e63 (.node 37 e37 (.node 32 e32 (.node 31 e31 (.node 24 e24 .leaf .leaf) .leaf) (.node 36 e36 (.node 34 e34 .leaf .leaf) .leaf)) (.node 41 e41 (.node 40 e40 (.node 39 e39 .leaf .leaf) .leaf) (.node 62 e62 .leaf .leaf))) (.node 76 e76 (.node 73 e73 (.node 65 e65 (.node 64 e64 .leaf .leaf) .leaf) (.node 75 e75 (.node 74 e74 .leaf .leaf) .leaf)) (.node 79 e79 (.node 78 e78 (.node 77 e77 .leaf .leaf) .leaf) (.node 80 e80 .leaf .leaf)))) (.node 104 e104 (.node 98 e98 (.node 85 e85 (.node 84 e84 (.node 82 e82 .leaf .leaf) .leaf) (.hook 97 Hk.sumH (.node 96 e96 .leaf .leaf) .leaf)) (.node 101 e101 (.node 100 e100 (.node 99 e99 .leaf .leaf) .leaf) (.node 103 e103 .leaf .leaf))) (.node 114 e114 (.node 111 e111 (.node 110 e110 (.node 105 e105 .leaf .leaf) .leaf) (.node 113 e113 (.node 112 e112 .leaf .leaf) .leaf)) (.node 118 e118 (.node 117 e117 (.node 116 e116 .leaf .leaf) .leaf) (.node 119 e119 .leaf .leaf)))))
theorem tab_ok : tab.ok Go.Proofs.Try.prog 0 := ⟨e81_ok, ⟨e63_ok, ⟨e37_ok, ⟨e32_ok, ⟨e31_ok, ⟨e24_ok, trivial, trivial⟩, trivial⟩, ⟨e36_ok, ⟨e34_ok, trivial, trivial⟩, trivial⟩⟩, ⟨e41_ok, ⟨e40_ok, ⟨e39_ok, trivial, trivial⟩, trivial⟩, ⟨e62_ok, trivial, trivial⟩⟩⟩, ⟨e76_ok, ⟨e73_ok, ⟨e65_ok, ⟨e64_ok, trivial, trivial⟩, trivial⟩, ⟨e75_ok, ⟨e74_ok, trivial, trivial⟩, trivial⟩⟩, ⟨e79_ok, ⟨e78_ok, ⟨e77_ok, trivial, trivial⟩, trivial⟩, ⟨e80_ok, trivial, trivial⟩⟩⟩⟩, ⟨e104_ok, ⟨e98_ok, ⟨e85_ok, ⟨e84_ok, ⟨e82_ok, trivial, trivial⟩, trivial⟩, ⟨Hk.sum97, ⟨e96_ok, trivial, trivial⟩, trivial⟩⟩, ⟨e101_ok, ⟨e100_ok, ⟨e99_ok, trivial, trivial⟩, trivial⟩, ⟨e103_ok, trivial, trivial⟩⟩⟩, ⟨e114_ok, ⟨e111_ok, ⟨e110_ok, ⟨e105_ok, trivial, trivial⟩, trivial⟩, ⟨e113_ok, ⟨e112_ok, trivial, trivial⟩, trivial⟩⟩, ⟨e118_ok, ⟨e117_ok, ⟨e116_ok, trivial, trivial⟩, trivial⟩, ⟨e119_ok, trivial, trivial⟩⟩⟩⟩⟩
end Go.AM.TFw

set_option linter.unusedSimpArgs false
set_option linter.unusedVariables false
namespace Go.AM.TFw
open Nat (reduceAdd reduceEqDiff reduceLT reduceLeDiff reduceMul reduceSub)
theorem works_ev : Hk.runF tab 100000 31 [] 0 .leaf isTrue = true := by kernel_rfl
end Go.AM.TFw
namespace Go.AM.Fd
open Nat (reduceAdd reduceEqDiff reduceLT reduceLeDiff reduceMul reduceSub)
open Go.Proofs Go.AM.F
theorem t31 (H : AHeap) : ∃ w H', ARun Go.Proofs.Try.prog 0 31 [] H w H' ∧ w = .bool true ∧ H' = H := ⟨_, _, Hk.closed_any TFw.tab_ok TFw.works_ev H, rfl, rfl⟩
structure Cl where
  n : Nat
  B : List UInt8
  vB : Value
  F : Li
  vF : Value
  I : Int
def cC (c : Cl) : List Value := [.int .u8 (c.n : Nat), c.vB, .int .u8 (c.F.f : Nat), .int .u8 (c.F.t : Nat), .int .i64 c.F.q, .int .i64 c.F.k, c.vF, .int .i64 c.I]
structure okC (H : AHeap) (c : Cl) : Prop where
  hn : c.n < 256
  hB : BQ H c.vB c.B
  hF : BQ H c.vF c.F.B
  hr : rgLi c.F
  hI : -9223372036854775808 ≤ c.I ∧ c.I ≤ 9223372036854775807
theorem okC.keeps {H H' : AHeap} {c : Cl} (h : okC H c) (k : Keeps H H') : okC H' c := ⟨h.hn, h.hB.keeps k, h.hF.keeps k, h.hr, h.hI⟩
def few18 (cs : List Cl) : Prop := cs.length ≤ 200 ∧ ∀ c ∈ cs, c.B.length ≤ 6000 ∧ c.F.B.length ≤ 6000
theorem cCg (c : Cl) : (cC c)[0]? = some (.int .u8 (c.n : Nat)) ∧ (cC c)[1]? = some c.vB ∧ (cC c)[6]? = some c.vF ∧ (cC c)[7]? = some (.int .i64 c.I) := ⟨rfl, rfl, rfl, rfl⟩
theorem t30 {H : AHeap} {v : Value} {cs : List Cl} (hs : Sl H 8 v (cs.map cC)) (hc : ∀ c ∈ cs, okC H c) : ∃ w H', ARun Go.Proofs.Try.prog 0 30 [v] H w H' ∧ ∃ b, w = .bool b ∧ H' = H ∧ (b = false → few18 cs) := by
  refine walk2 f30_ok f30_n ?_
  intro Q hq1 hq2
  have his := hs.is
  have hlen := hs.len
  rw [List.length_map] at hlen
  by_cases h0 : 200 < cs.length
  · simp (disch := first | assumption | omega | (simp only [LN] <;> omega) | (simp (disch := first | assumption | omega | (simp only [LN] <;> omega)) only [row_alloc, row_set]; assumption)) only [f30, W_block, P3, ↓reduceIte, reduceAdd, reduceEqDiff, reduceCtorEq, initFr, reduceLT, clsA, reduceLeDiff, reduceMul, reduceSub, reduceIte, hlen]
    exact hq2 _ _ ⟨_, rfl, true, rfl, rfl, by simp⟩
  simp (disch := first | assumption | omega | (simp only [LN] <;> omega) | (simp (disch := first | assumption | omega | (simp only [LN] <;> omega)) only [row_alloc, row_set]; assumption)) only [f30, W_block, P3, ↓reduceIte, reduceAdd, reduceEqDiff, reduceCtorEq, initFr, reduceLT, clsA, reduceLeDiff, reduceMul, reduceSub, reduceIte, hlen]
  refine W_loop2 (fun q fr K => ∃ (i n : Nat) (a b : Value), i ≤ cs.length ∧ q = cs.length - i ∧ n ≤ 12000 ∧ (∀ j (h : j < i) (h2 : j < cs.length), cs[j].B.length ≤ 6000 ∧ cs[j].F.B.length ≤ 6000) ∧ K = H ∧ fr = [v, .bool false, .int .i64 (n : Nat), .int .i64 (i : Nat), .bool false, a, b]) cs.length ⟨0, 0, _, _, by omega, rfl, by omega, by intro j h; omega, rfl, rfl⟩ ?_
  rintro Q' q fr K ⟨i, n, a, b, hi, rfl, hn, hall, rfl, rfl⟩ hnx hex hrt
  by_cases hci : i < cs.length
  case neg =>
    simp (disch := first | assumption | omega | (simp only [LN] <;> omega) | (simp (disch := first | assumption | omega | (simp only [LN] <;> omega)) only [row_alloc, row_set]; assumption)) only [W_block, P3, ↓reduceIte, reduceAdd, reduceEqDiff, reduceCtorEq, initFr, reduceLT, clsA, reduceLeDiff, reduceMul, reduceSub, reduceIte]
    refine hex _ _ _ ?_
    by_cases h1 : 6000 < n
    · simp (disch := first | assumption | omega | (simp only [LN] <;> omega) | (simp (disch := first | assumption | omega | (simp only [LN] <;> omega)) only [row_alloc, row_set]; assumption)) only [W_block, P3, ↓reduceIte, reduceAdd, reduceEqDiff, reduceCtorEq, initFr, reduceLT, clsA, reduceLeDiff, reduceMul, reduceSub, reduceIte]
      exact hq2 _ _ ⟨_, rfl, true, rfl, rfl, by simp⟩
    · simp (disch := first | assumption | omega | (simp only [LN] <;> omega) | (simp (disch := first | assumption | omega | (simp only [LN] <;> omega)) only [row_alloc, row_set]; assumption)) only [W_block, P3, ↓reduceIte, reduceAdd, reduceEqDiff, reduceCtorEq, initFr, reduceLT, clsA, reduceLeDiff, reduceMul, reduceSub, reduceIte]
      exact hq2 _ _ ⟨_, rfl, false, rfl, rfl, fun _ => ⟨by omega, fun c hcm => by
        obtain ⟨j, hj, rfl⟩ := List.mem_iff_getElem.1 hcm
        exact hall j (by omega) hj⟩⟩
  obtain ⟨hnn, hrow⟩ := hs.at_ (by omega) (i := i) (by simpa using hci)
  rw [List.getElem_map] at hrow
  have hok := hc _ (List.getElem_mem hci)
  obtain ⟨c, hce⟩ : ∃ c, c = cs[i] := ⟨_, rfl⟩
  rw [← hce] at hrow hok
  have e1 := hok.hB.bs.sl.len
  have e2 := hok.hB.bs.sl.is
  have e3 := hok.hF.bs.sl.len
  have e4 := hok.hF.bs.sl.is
  rw [List.length_map] at e1 e3
  have hw : IntKind.i64.wrap (6000 - (n : Int)) = 6000 - (n : Int) := wrap_i64 (by omega) (by omega)
  by_cases h1 : (6000 - (n : Int)) < (c.B.length : Int)
  · simp (disch := first | assumption | omega | (simp only [LN] <;> omega) | (simp (disch := first | assumption | omega | (simp only [LN] <;> omega)) only [row_alloc, row_set]; assumption)) only [W_block, P3, ↓reduceIte, reduceAdd, reduceEqDiff, reduceCtorEq, initFr, reduceLT, clsA, reduceLeDiff, reduceMul, reduceSub, reduceIte, hlen, hrow, cCg c, e1, hw]
    refine hrt _ _ ?_
    exact hq2 _ _ ⟨_, rfl, true, rfl, rfl, by simp⟩
  by_cases h2 : (6000 - (n : Int)) < (c.F.B.length : Int)
  · simp (disch := first | assumption | omega | (simp only [LN] <;> omega) | (simp (disch := first | assumption | omega | (simp only [LN] <;> omega)) only [row_alloc, row_set]; assumption)) only [W_block, P3, ↓reduceIte, reduceAdd, reduceEqDiff, reduceCtorEq, initFr, reduceLT, clsA, reduceLeDiff, reduceMul, reduceSub, reduceIte, hlen, hrow, cCg c, e1, e3, hw]
    refine hrt _ _ ?_
    exact hq2 _ _ ⟨_, rfl, true, rfl, rfl, by simp⟩
  have w1 : IntKind.i64.wrap ((n : Int) + (c.B.length : Int)) = ((n + c.B.length : Nat) : Int) := by rw [wrap_i64 (by omega) (by omega)]; push_cast; rfl
  have w2 : IntKind.i64.wrap (((n + c.B.length : Nat) : Int) + (c.F.B.length : Int)) = ((n + c.B.length + c.F.B.length : Nat) : Int) := by rw [wrap_i64 (by omega) (by omega)]; push_cast; rfl
  simp (disch := first | assumption | omega | (simp only [LN] <;> omega) | (simp (disch := first | assumption | omega | (simp only [LN] <;> omega)) only [row_alloc, row_set]; assumption)) only [W_block, P3, ↓reduceIte, reduceAdd, reduceEqDiff, reduceCtorEq, initFr, reduceLT, clsA, reduceLeDiff, reduceMul, reduceSub, reduceIte, hlen, hrow, cCg c, e1, e3, hw, w1, w2, wrap_succ (n := i) (by omega)]
  refine hnx _ _ _ ⟨i + 1, n + c.B.length + c.F.B.length, _, _, by omega, rfl, by omega, ?_, rfl, rfl⟩ (by omega)
  intro j hj hj2
  by_cases hji : j < i
  · exact hall j hji hj2
  · have : j = i := by omega
    subst this
    rw [← hce]
    omega
end Go.AM.Fd

set_option linter.unusedSimpArgs false
set_option linter.unusedVariables false
namespace Go.AM.Fd
open Nat (reduceAdd reduceEqDiff reduceLT reduceLeDiff reduceMul reduceSub)
open Go.Proofs Go.AM.F
def M4 (f t : Nat) (n : Int) (v : Value) (bE bM i : Nat) (H : AHeap) (fr : List Value) (K : AHeap) : Prop :=
  ∃ (x : En) (y9 y10 y11 y12 y13 y14 y15 y16 y17 y18 y19 y20 y21 y22 y23 y24 y25 y26 y27 y28 y29 y30 y31 y32 : Value), WfE x ∧ K.get bE = some (.cells true false 7 (cE x) 145) ∧ K.get bM = some (.cells true false 6 (cR x) 93) ∧ Keeps H K ∧
    fr = [.int .u8 (f : Nat), .int .u8 (t : Nat), .int .i64 n, v, .bool false, ptr bE 0, .int .i64 0, ptr bM 0, .int .i64 (i : Nat), y9, y10, y11, y12, y13, y14, y15, y16, y17, y18, y19, y20, y21, y22, y23, y24, y25, y26, y27, y28, y29, y30, y31, y32]
theorem modu8 {n : Nat} (h : n < 256) : binA .rem (.int .u8 (n : Int)) (.int .u8 8) = some (.int .u8 ((n % 8 : Nat) : Int)) := b_rem8 n
set_option maxHeartbeats 4000000 in
theorem t4 {H : AHeap} (f t : Nat) (n : Int) {v : Value} {cs : List Cl} (hf : f < 256) (ht : t < 256) (hn : -9223372036854775808 ≤ n ∧ n ≤ 9223372036854775807) (hs : Sl H 8 v (cs.map cC)) (hc : ∀ c ∈ cs, okC H c) :
    ∃ w H', ARun Go.Proofs.Try.prog 0 4 [.int .u8 (f : Nat), .int .u8 (t : Nat), .int .i64 n, v] H w H' ∧ w = .bool true ∧ H' = H := by
  obtain ⟨w, H', a, rfl, k⟩ : ∃ w H', ARun Go.Proofs.Try.prog 0 4 [.int .u8 (f : Nat), .int .u8 (t : Nat), .int .i64 n, v] H w H' ∧ w = .bool true ∧ Keeps H H' := by
    refine walk2 f4_ok f4_n ?_
    intro Q hq1 hq2
    simp (disch := first | assumption | omega | (simp only [LN] <;> omega) | (simp (disch := first | assumption | omega | (simp only [LN] <;> omega)) only [row_alloc, row_set]; assumption)) only [f4, W_block, P3, ↓reduceIte, reduceAdd, reduceEqDiff, reduceCtorEq, initFr, reduceLT, clsA, reduceLeDiff, reduceMul, reduceSub, reduceIte]
    refine callK (t30 hs hc) ?_
    rintro _ X ⟨bl, rfl, hXX, hfew⟩
    obtain rfl := hXX.symm
    clear hXX
    cases bl with
    | true =>
      simp (disch := first | assumption | omega | (simp only [LN] <;> omega) | (simp (disch := first | assumption | omega | (simp only [LN] <;> omega)) only [row_alloc, row_set]; assumption)) only [W_block, P3, ↓reduceIte, reduceAdd, reduceEqDiff, reduceCtorEq, initFr, reduceLT, clsA, reduceLeDiff, reduceMul, reduceSub, reduceIte]
      refine callP (t31 _) ?_
      simp (disch := first | assumption | omega | (simp only [LN] <;> omega) | (simp (disch := first | assumption | omega | (simp only [LN] <;> omega)) only [row_alloc, row_set]; assumption)) only [W_block, P3, ↓reduceIte, reduceAdd, reduceEqDiff, reduceCtorEq, initFr, reduceLT, clsA, reduceLeDiff, reduceMul, reduceSub, reduceIte]
      exact hq2 _ _ ⟨_, rfl, rfl, Keeps.refl _⟩
    | false =>
    obtain ⟨hc1, hc2⟩ := hfew rfl
    simp (disch := first | assumption | omega | (simp only [LN] <;> omega) | (simp (disch := first | assumption | omega | (simp only [LN] <;> omega)) only [row_alloc, row_set]; assumption)) only [W_block, P3, ↓reduceIte, reduceAdd, reduceEqDiff, reduceCtorEq, initFr, reduceLT, clsA, reduceLeDiff, reduceMul, reduceSub, reduceIte]
    refine callK (t32 f t n _ hn) ?_
    rintro _ _ ⟨rfl, rfl⟩
    by_cases hne : f = t ∨ n < 1 ∨ 2305843009213693952 < n
    · simp only [if_pos hne]
      simp (disch := first | assumption | omega | (simp only [LN] <;> omega) | (simp (disch := first | assumption | omega | (simp only [LN] <;> omega)) only [row_alloc, row_set]; assumption)) only [W_block, P3, ↓reduceIte, reduceAdd, reduceEqDiff, reduceCtorEq, initFr, reduceLT, clsA, reduceLeDiff, reduceMul, reduceSub, reduceIte]
      refine callK (t33 f t n _ hn) ?_
      rintro _ _ ⟨rfl, rfl⟩
      simp only [if_pos hne]
      simp (disch := first | assumption | omega | (simp only [LN] <;> omega) | (simp (disch := first | assumption | omega | (simp only [LN] <;> omega)) only [row_alloc, row_set]; assumption)) only [W_block, P3, ↓reduceIte, reduceAdd, reduceEqDiff, reduceCtorEq, initFr, reduceLT, clsA, reduceLeDiff, reduceMul, reduceSub, reduceIte]
      refine callP (t31 _) ?_
      simp (disch := first | assumption | omega | (simp only [LN] <;> omega) | (simp (disch := first | assumption | omega | (simp only [LN] <;> omega)) only [row_alloc, row_set]; assumption)) only [W_block, P3, ↓reduceIte, reduceAdd, reduceEqDiff, reduceCtorEq, initFr, reduceLT, clsA, reduceLeDiff, reduceMul, reduceSub, reduceIte]
      exact hq2 _ _ ⟨_, rfl, rfl, Keeps.refl _⟩
    simp only [if_neg hne]
    simp (disch := first | assumption | omega | (simp only [LN] <;> omega) | (simp (disch := first | assumption | omega | (simp only [LN] <;> omega)) only [row_alloc, row_set]; assumption)) only [W_block, P3, ↓reduceIte, reduceAdd, reduceEqDiff, reduceCtorEq, initFr, reduceLT, clsA, reduceLeDiff, reduceMul, reduceSub, reduceIte]
    refine callK (t33 f t n _ hn) ?_
    rintro _ _ ⟨rfl, rfl⟩
    simp only [if_neg hne]
    have his := hs.is
    have hlen := hs.len
    rw [List.length_map] at hlen
    obtain ⟨bE, hbE⟩ : ∃ y, y = H.n := ⟨_, rfl⟩
    obtain ⟨bM, hbM⟩ : ∃ y, y = H.n + 1 := ⟨_, rfl⟩
    have hEM : bE ≠ bM := by omega
    have hw0 : WfE ⟨f, t, n - 1, 0, 0, 0⟩ := ⟨hf, ht, by simp only; omega, by simp only; omega, by simp only; omega, by simp only; omega⟩
    have gE0 : ((H.alloc (.cells true false 7 (cE ⟨f, t, n - 1, 0, 0, 0⟩) 145)).alloc (.cells true false 6 (cR ⟨f, t, n - 1, 0, 0, 0⟩) 93)).get bE = some (.cells true false 7 (cE ⟨f, t, n - 1, 0, 0, 0⟩) 145) := by subst hbE; simp (disch := first | assumption | omega | (simp only [LN] <;> omega) | (simp (disch := first | assumption | omega | (simp only [LN] <;> omega)) only [row_alloc, row_set]; assumption)) only [W_block, P3, ↓reduceIte, reduceAdd, reduceEqDiff, reduceCtorEq, initFr, reduceLT, clsA, reduceLeDiff, reduceMul, reduceSub, reduceIte]
    have gM0 : ((H.alloc (.cells true false 7 (cE ⟨f, t, n - 1, 0, 0, 0⟩) 145)).alloc (.cells true false 6 (cR ⟨f, t, n - 1, 0, 0, 0⟩) 93)).get bM = some (.cells true false 6 (cR ⟨f, t, n - 1, 0, 0, 0⟩) 93) := by subst hbM; simp (disch := first | assumption | omega | (simp only [LN] <;> omega) | (simp (disch := first | assumption | omega | (simp only [LN] <;> omega)) only [row_alloc, row_set]; assumption)) only [W_block, P3, ↓reduceIte, reduceAdd, reduceEqDiff, reduceCtorEq, initFr, reduceLT, clsA, reduceLeDiff, reduceMul, reduceSub, reduceIte]
    simp (disch := first | assumption | omega | (simp only [LN] <;> omega) | (simp (disch := first | assumption | omega | (simp only [LN] <;> omega)) only [row_alloc, row_set]; assumption)) only [W_block, P3, ↓reduceIte, reduceAdd, reduceEqDiff, reduceCtorEq, initFr, reduceLT, clsA, reduceLeDiff, reduceMul, reduceSub, reduceIte]
    rw [← hbM, ← hbE]
    refine W_loop2 (fun q fr K => ∃ i, i ≤ cs.length ∧ q = cs.length - i ∧ M4 f t n v bE bM i H fr K) cs.length ⟨0, by omega, rfl, _, _, _, _, _, _, _, _, _, _, _, _, _, _, _, _, _, _, _, _, _, _, _, _, _, hw0, gE0, gM0, ((Keeps.refl H).alloc _).alloc _, rfl⟩ ?_
    clear gE0 gM0 hw0
    rintro Q' q fr K ⟨i, hi, rfl, x, y9, y10, y11, y12, y13, y14, y15, y16, y17, y18, y19, y20, y21, y22, y23, y24, y25, y26, y27, y28, y29, y30, y31, y32, hw, gE, gM, kK, rfl⟩ hnx hex hrt
    by_cases hci : i < cs.length
    case neg =>
      simp (disch := first | assumption | omega | (simp only [LN] <;> omega) | (simp (disch := first | assumption | omega | (simp only [LN] <;> omega)) only [row_alloc, row_set]; assumption)) only [W_block, P3, ↓reduceIte, reduceAdd, reduceEqDiff, reduceCtorEq, initFr, reduceLT, clsA, reduceLeDiff, reduceMul, reduceSub, reduceIte]
      refine hex _ _ _ ?_
      simp (disch := first | assumption | omega | (simp only [LN] <;> omega) | (simp (disch := first | assumption | omega | (simp only [LN] <;> omega)) only [row_alloc, row_set]; assumption)) only [W_block, P3, ↓reduceIte, reduceAdd, reduceEqDiff, reduceCtorEq, initFr, reduceLT, clsA, reduceLeDiff, reduceMul, reduceSub, reduceIte]
      refine callP (t31 _) ?_
      simp (disch := first | assumption | omega | (simp only [LN] <;> omega) | (simp (disch := first | assumption | omega | (simp only [LN] <;> omega)) only [row_alloc, row_set]; assumption)) only [W_block, P3, ↓reduceIte, reduceAdd, reduceEqDiff, reduceCtorEq, initFr, reduceLT, clsA, reduceLeDiff, reduceMul, reduceSub, reduceIte]
      exact hq2 _ _ ⟨_, rfl, rfl, kK⟩
    obtain ⟨hnn, hrow⟩ := (hs.keeps kK).at_ (by omega) (i := i) (by simpa using hci)
    rw [List.getElem_map] at hrow
    have hokH := hc _ (List.getElem_mem hci)
    have hok := hokH.keeps kK
    have hcl := hc2 _ (List.getElem_mem hci)
    obtain ⟨c, hce⟩ : ∃ c, c = cs[i] := ⟨_, rfl⟩
    rw [← hce] at hrow hok hcl hokH
    have tB : ∀ y ∈ tb c.vB, y < H.n := hokH.hB.tbl
    have tF : ∀ y ∈ tb c.vF, y < H.n := hokH.hF.tbl
    simp (disch := first | assumption | omega | (simp only [LN] <;> omega) | (simp (disch := first | assumption | omega | (simp only [LN] <;> omega)) only [row_alloc, row_set]; assumption)) only [ P3, ↓reduceIte, reduceAdd, reduceEqDiff, reduceCtorEq, initFr, reduceLT, clsA, reduceLeDiff, reduceMul, reduceSub, reduceIte]
    rw [W_block]
    refine W_part 3 (M4 f t n v bE bM i H) rfl ?_ ?_
    rotate_left
    · rintro fr K2 ⟨x2, z9, z10, z11, z12, z13, z14, z15, z16, z17, z18, z19, z20, z21, z22, z23, z24, z25, z26, z27, z28, z29, z30, z31, z32, hw2, gE2, gM2, kK2, rfl⟩
      simp (disch := first | assumption | omega | (simp only [LN] <;> omega) | (simp (disch := first | assumption | omega | (simp only [LN] <;> omega)) only [row_alloc, row_set]; assumption)) only [cpost, W_block, P3, ↓reduceIte, reduceAdd, reduceEqDiff, reduceCtorEq, initFr, reduceLT, clsA, reduceLeDiff, reduceMul, reduceSub, reduceIte]
      refine callP (t39 gE2) ?_
      have lM2 := AHeap.get_lt gM2
      simp (disch := first | assumption | omega | (simp only [LN] <;> omega) | (simp (disch := first | assumption | omega | (simp only [LN] <;> omega)) only [row_alloc, row_set]; assumption)) only [W_block, P3, ↓reduceIte, reduceAdd, reduceEqDiff, reduceCtorEq, initFr, reduceLT, clsA, reduceLeDiff, reduceMul, reduceSub, reduceIte, gM2, cRg x2, lM2]
      refine callP (t40 gE2) ?_
      simp (disch := first | assumption | omega | (simp only [LN] <;> omega) | (simp (disch := first | assumption | omega | (simp only [LN] <;> omega)) only [row_alloc, row_set]; assumption)) only [W_block, P3, ↓reduceIte, reduceAdd, reduceEqDiff, reduceCtorEq, initFr, reduceLT, clsA, reduceLeDiff, reduceMul, reduceSub, reduceIte, gM2, cRg x2, lM2]
      refine callP (t41 gE2) ?_
      simp (disch := first | assumption | omega | (simp only [LN] <;> omega) | (simp (disch := first | assumption | omega | (simp only [LN] <;> omega)) only [row_alloc, row_set]; assumption)) only [W_block, P3, ↓reduceIte, reduceAdd, reduceEqDiff, reduceCtorEq, initFr, reduceLT, clsA, reduceLeDiff, reduceMul, reduceSub, reduceIte, gM2, cRg x2, lM2]
      refine callP (t42 gE2) ?_
      simp (disch := first | assumption | omega | (simp only [LN] <;> omega) | (simp (disch := first | assumption | omega | (simp only [LN] <;> omega)) only [row_alloc, row_set]; assumption)) only [W_block, P3, ↓reduceIte, reduceAdd, reduceEqDiff, reduceCtorEq, initFr, reduceLT, clsA, reduceLeDiff, reduceMul, reduceSub, reduceIte, gM2, cRg x2, lM2, wrap_succ (n := i) (by omega)]
      exact hnx _ _ _ ⟨i + 1, by omega, rfl, x2, _, _, _, _, _, _, _, _, _, _, _, _, _, _, _, _, _, _, _, _, _, _, _, _, hw2, gE2, gM2, kK2, rfl⟩ (by omega)
    intro Q2 hM2 hex2 hrt2
    have lE := AHeap.get_lt gE
    have lM := AHeap.get_lt gM
    have lc8 : (cC c).length = 8 := rfl
    have ob := hok.hB.bs.sl.one
    have of' := hok.hF.bs.sl.one
    have oc8 : (cC c).all Value.oneCell' = true := by simp only [cC, List.all_cons, List.all_nil, ob, of']; rfl
    have hbB := hok.hB.keeps ((Keeps.refl K).alloc (.cells true false 8 (cC c) 84))
    simp (disch := first | assumption | omega | (simp only [LN] <;> omega) | (simp (disch := first | assumption | omega | (simp only [LN] <;> omega)) only [row_alloc, row_set]; assumption)) only [ cpre, P3, ↓reduceIte, reduceAdd, reduceEqDiff, reduceCtorEq, initFr, reduceLT, clsA, reduceLeDiff, reduceMul, reduceSub, reduceIte, hrow, lc8, oc8, cCg c, a_b2sB hbB.bs, a_s2bl, modu8 hok.hn]
    rw [W_block]
    have kc := ((Keeps.refl K).alloc (.cells true false 8 (cC c) 84)).alloc (.cells true true 1 (cellsOf c.B) 5)
    have g9 := ((Keeps.refl (K.alloc (.cells true false 8 (cC c) 84))).alloc (.cells true true 1 (cellsOf c.B) 5)).at_ (AHeap.get_alloc_new K (.cells true false 8 (cC c) 84))
    have hin := bq_new (K.alloc (.cells true false 8 (cC c) 84)) true c.B c.B.length rfl
    have hn2 : (K.alloc (.cells true false 8 (cC c) 84)).n = K.n + 1 := rfl
    rw [hn2] at hin
    obtain ⟨K2, hK2⟩ : ∃ X, X = (K.alloc (.cells true false 8 (cC c) 84)).alloc (.cells true true 1 (cellsOf c.B) 5) := ⟨_, rfl⟩
    rw [← hK2] at kc g9 hin ⊢
    have hok2 := hok.keeps kc
    have gE2 := kc.at_ gE
    have gM2 := kc.at_ gM
    have kK2 := kK.trans kc
    have lE2 := AHeap.get_lt gE2
    have lM2 := AHeap.get_lt gM2
    have l92 := AHeap.get_lt g9
    clear hK2 hbB hrow
    refine W_part 1 (fun fr X => X = K2 ∧ ∃ (y31 y32 : Value), fr = [.int .u8 (f : Nat), .int .u8 (t : Nat), .int .i64 n, v, .bool false, ptr bE 0, .int .i64 0, ptr bM 0, .int .i64 (i : Nat), ptr K.n 0, slc (K.n + 1) 0 c.B.length c.B.length, y11, y12, y13, y14, y15, y16, y17, y18, y19, y20, y21, y22, y23, .bool true, .int .u8 ((c.n % 8 : Nat) : Int), y26, y27, y28, y29, .bool (decide (c.n % 8 ≠ 2 ∧ c.n % 8 ≠ 3 ∧ c.n % 8 ≠ 4)), y31, y32]) rfl ?_ ?_
    · intro Q3 h3 _ _
      have : c.n % 8 = 0 ∨ c.n % 8 = 1 ∨ c.n % 8 = 2 ∨ c.n % 8 = 3 ∨ c.n % 8 = 4 ∨ c.n % 8 = 5 ∨ c.n % 8 = 6 ∨ c.n % 8 = 7 := by omega
      rcases this with e | e | e | e | e | e | e | e <;> rw [e] at h3 ⊢ <;> simp (disch := first | assumption | omega | (simp only [LN] <;> omega) | (simp (disch := first | assumption | omega | (simp only [LN] <;> omega)) only [row_alloc, row_set]; assumption)) only [cpre, W_block, P3, ↓reduceIte, reduceAdd, reduceEqDiff, reduceCtorEq, initFr, reduceLT, clsA, reduceLeDiff, reduceMul, reduceSub, reduceIte] <;> exact h3 _ _ ⟨rfl, _, _, rfl⟩
    rintro fr X ⟨hXX, y31', y32', rfl⟩
    obtain rfl := hXX.symm
    clear hXX
    by_cases hsend : c.n % 8 ≠ 2 ∧ c.n % 8 ≠ 3 ∧ c.n % 8 ≠ 4
    · rw [decide_eq_true hsend]
      simp (disch := first | assumption | omega | (simp only [LN] <;> omega) | (simp (disch := first | assumption | omega | (simp only [LN] <;> omega)) only [row_alloc, row_set]; assumption)) only [cpost, W_block, P3, ↓reduceIte, reduceAdd, reduceEqDiff, reduceCtorEq, initFr, reduceLT, clsA, reduceLeDiff, reduceMul, reduceSub, reduceIte]
      have htb : ∀ y ∈ tb (slc (K.n + 1) 0 c.B.length c.B.length), y ≠ bE := fun y hy => by
        simp [tb, slc] at hy; omega
      by_cases hno : 2048 < c.B.length ∨ 4611686018427387904 ≤ x.q
      · refine callP (t34no gE2 hin.bs hno) ?_
        simp (disch := first | assumption | omega | (simp only [LN] <;> omega) | (simp (disch := first | assumption | omega | (simp only [LN] <;> omega)) only [row_alloc, row_set]; assumption)) only [W_block, P3, ↓reduceIte, reduceAdd, reduceEqDiff, reduceCtorEq, initFr, reduceLT, clsA, reduceLeDiff, reduceMul, reduceSub, reduceIte, g9, cCg c, a_b2sB hok2.hB.bs]
        refine callP (t35no gM2 hno) ?_
        simp (disch := first | assumption | omega | (simp only [LN] <;> omega) | (simp (disch := first | assumption | omega | (simp only [LN] <;> omega)) only [row_alloc, row_set]; assumption)) only [W_block, P3, ↓reduceIte, reduceAdd, reduceEqDiff, reduceCtorEq, initFr, reduceLT, clsA, reduceLeDiff, reduceMul, reduceSub, reduceIte, a_b2sB (BS.nil K2), bytes_eq]
        exact hM2 _ _ ⟨x, _, _, _, _, _, _, _, _, _, _, _, _, _, _, _, _, _, _, _, _, _, _, _, _, hw, gE2, gM2, kK2, rfl⟩
      · refine callK (t34 hw gE2 hin htb (by omega) (by omega)) ?_
        rintro _ K3 ⟨r, rfl, p3⟩
        have k3 := p3.2.1
        have gE3 := k3.at_ (AHeap.get_set_same gE2 (.cells true false 7 (cE (sX x)) 145))
        have gM3 : K3.get bM = some (.cells true false 6 (cR x) 93) := k3.at_ (by rw [AHeap.get_set_other _ (Ne.symm hEM) lE2]; exact gM2)
        have g93 : K3.get K.n = some (.cells true false 8 (cC c) 84) := k3.at_ (by rw [AHeap.get_set_other _ (by omega) lE2]; exact g9)
        have lM3 := AHeap.get_lt gM3
        have c3 : Chg [bE] K2 K3 := (Chg.set K2 lE2 _).trans (k3.chg []) (by simp)
        have hB3 : BS K3 c.vB c.B := hok2.hB.bs.chgT c3 (fun y hy => by have := tB y hy; simp; omega)
        simp (disch := first | assumption | omega | (simp only [LN] <;> omega) | (simp (disch := first | assumption | omega | (simp only [LN] <;> omega)) only [row_alloc, row_set]; assumption)) only [W_block, P3, ↓reduceIte, reduceAdd, reduceEqDiff, reduceCtorEq, initFr, reduceLT, clsA, reduceLeDiff, reduceMul, reduceSub, reduceIte, g93, cCg c, a_b2sB hB3]
        refine callK (t35 hw gM3 (by omega) (by omega)) ?_
        rintro _ K4 ⟨r', rfl, p4⟩
        have k4 := p4.k
        have gE4 : K4.get bE = some (.cells true false 7 (cE (sX x)) 145) := k4.at_ (by rw [AHeap.get_set_other _ hEM lM3]; exact gE3)
        have gM4 := k4.at_ (AHeap.get_set_same gM3 (.cells true false 6 (cR (sX x)) 93))
        have c4 : Chg [bM] K3 K4 := (Chg.set K3 lM3 _).trans (k4.chg []) (by simp)
        have p34 : BS K4 r (fLi ⟨x.f, x.t, x.q + 1, x.k, c.B⟩) := (p3.1.chg c4 (fun y hy => by have := p3.2.2 y (mem_blkL.1 hy); rw [set_n] at this; simp; omega)).bs
        simp (disch := first | assumption | omega | (simp only [LN] <;> omega) | (simp (disch := first | assumption | omega | (simp only [LN] <;> omega)) only [row_alloc, row_set]; assumption)) only [W_block, P3, ↓reduceIte, reduceAdd, reduceEqDiff, reduceCtorEq, initFr, reduceLT, clsA, reduceLeDiff, reduceMul, reduceSub, reduceIte, a_b2sB p34, a_b2sB p4.bs, bytes_eq]
        refine hM2 _ _ ⟨sX x, _, _, _, _, _, _, _, _, _, _, _, _, _, _, _, _, _, _, _, _, _, _, _, _, ?_, gE4, gM4, ?_, rfl⟩
        · obtain ⟨a1, a2, a3, a4, a5, a6⟩ := hw
          exact ⟨a1, a2, by simp only [sX]; omega, a4, a5, a6⟩
        · exact (kK2.chg_trans c3 (by simp; omega)).chg_trans c4 (by simp; omega)
    · rw [decide_eq_false hsend]
      simp only [cpost, w_cond, AX_fr, List.getD_cons_succ, List.getD_cons_zero, cond_false]
      refine W_part 1 (fun fr X => ∃ (vin : Value) (Bi : List UInt8) (y11 y12 y13 y14 y15 y16 y17 y18 y19 y20 y21 y22 y23 y24 y25 y26 y27 y28 y29 y30 y31 y32 : Value), BQ X vin Bi ∧ Bi.length ≤ 100000 ∧ (∀ y ∈ tb vin, K.n ≤ y) ∧ Keeps K2 X ∧ fr = [.int .u8 (f : Nat), .int .u8 (t : Nat), .int .i64 n, v, .bool false, ptr bE 0, .int .i64 0, ptr bM 0, .int .i64 (i : Nat), ptr K.n 0, vin, y11, y12, y13, y14, y15, y16, y17, y18, y19, y20, y21, y22, y23, y24, y25, y26, y27, y28, y29, y30, y31, y32]) rfl ?_ ?_
      · intro Q3 h3 _ _
        have hB5 : rangeO (some (.cells true false 8 (cC c) 84)) 2 5 = some (cLi c.vF c.F) := rfl
        by_cases h2 : c.n % 8 = 2
        · have h2' : ((c.n % 8 : Nat) : Int) = 2 := by omega
          simp (disch := first | assumption | omega | (simp only [LN] <;> omega) | (simp (disch := first | assumption | omega | (simp only [LN] <;> omega)) only [row_alloc, row_set]; assumption)) only [cpre, W_block, P3, ↓reduceIte, reduceAdd, reduceEqDiff, reduceCtorEq, initFr, reduceLT, clsA, reduceLeDiff, reduceMul, reduceSub, reduceIte, g9, cCg c, modu8 hok.hn, h2', hB5]
          refine callK (t36 c.F hok.hr hok2.hF.bs (by omega)) ?_
          rintro r K3 p3
          simp (disch := first | assumption | omega | (simp only [LN] <;> omega) | (simp (disch := first | assumption | omega | (simp only [LN] <;> omega)) only [row_alloc, row_set]; assumption)) only [W_block, P3, ↓reduceIte, reduceAdd, reduceEqDiff, reduceCtorEq, initFr, reduceLT, clsA, reduceLeDiff, reduceMul, reduceSub, reduceIte]
          have := fLi_len (x := c.F)
          exact h3 _ _ ⟨r, fLi c.F, _, _, _, _, _, _, _, _, _, _, _, _, _, _, _, _, _, _, _, _, _, _, p3.bq, by omega, fun y hy => by have := p3.2.2 y (tb_blk hy); have := kc.n; omega, p3.2.1, rfl⟩
        · have h2' : ¬ ((c.n % 8 : Nat) : Int) = 2 := by omega
          simp (disch := first | assumption | omega | (simp only [LN] <;> omega) | (simp (disch := first | assumption | omega | (simp only [LN] <;> omega)) only [row_alloc, row_set]; assumption)) only [cpre, W_block, P3, ↓reduceIte, reduceAdd, reduceEqDiff, reduceCtorEq, initFr, reduceLT, clsA, reduceLeDiff, reduceMul, reduceSub, reduceIte, g9, cCg c, modu8 hok.hn, h2']
          exact h3 _ _ ⟨_, c.B, _, _, _, _, _, _, _, _, _, _, _, _, _, _, _, _, _, _, _, _, _, _, hin, by omega, fun y hy => by simp [tb, slc] at hy; omega, Keeps.refl _, rfl⟩
      rintro fr K3 ⟨vin, Bi, z11, z12, z13, z14, z15, z16, z17, z18, z19, z20, z21, z22, z23, z24, z25, z26, z27, z28, z29, z30, z31, z32, hvi, hBi, htv, k3, rfl⟩
      have gE3 := k3.at_ gE2
      have gM3 := k3.at_ gM2
      have kK3 := kK2.trans k3
      have lE3 := AHeap.get_lt gE3
      have lM3 := AHeap.get_lt gM3
      have hvn : ∀ y ∈ tb vin, y ≠ bE ∧ y ≠ bM := fun y hy => by have := htv y hy; omega
      refine W_part 3 (fun fr X => ∃ (x' : En) (va : Value) (Ba : List UInt8) (e : Int) (y11 y12 y13 y14 y20 y21 y22 y23 y24 y25 y26 y27 y28 y29 y30 y31 y32 : Value), WfE x' ∧ X.get bE = some (.cells true false 7 (cE x') 145) ∧ X.get bM = some (.cells true false 6 (cR x') 93) ∧ Keeps H X ∧ BQ X vin Bi ∧ AP X 5 1 va Ba.length (cellsOf Ba) ∧ (∀ y ∈ blkL va, K3.n ≤ y) ∧ Ba.length ≤ 100000 ∧
        fr = [.int .u8 (f : Nat), .int .u8 (t : Nat), .int .i64 n, v, .bool false, ptr bE 0, .int .i64 0, ptr bM 0, .int .i64 (i : Nat), ptr K.n 0, vin, y11, y12, y13, y14, strB Bi, va, .int .i64 e, strB Ba, .int .i64 e, y20, y21, y22, y23, y24, y25, y26, y27, y28, y29, y30, y31, y32]) rfl ?_ ?_
      · intro Q3 h3 _ _
        simp (disch := first | assumption | omega | (simp only [LN] <;> omega) | (simp (disch := first | assumption | omega | (simp only [LN] <;> omega)) only [row_alloc, row_set]; assumption)) only [cpost, cpre, W_block, P3, ↓reduceIte, reduceAdd, reduceEqDiff, reduceCtorEq, initFr, reduceLT, clsA, reduceLeDiff, reduceMul, reduceSub, reduceIte, a_b2sB hvi.bs]
        by_cases hh : hE x (geLi Bi) = 0
        · cases hm : geLi Bi with
          | none => rw [hm] at hh; exact absurd hh (by simp [hE])
          | some m =>
          rw [hm] at hh
          refine callK (t37 hw gE3 hvi (by omega) hm hh) ?_
          rintro _ K4 ⟨vb, rfl, gE4, c4, f4, a4⟩
          have gM4 : K4.get bM = some (.cells true false 6 (cR x) 93) := c4.at_ gM3 (by simp; omega)
          simp (disch := first | assumption | omega | (simp only [LN] <;> omega) | (simp (disch := first | assumption | omega | (simp only [LN] <;> omega)) only [row_alloc, row_set]; assumption)) only [W_block, P3, ↓reduceIte, reduceAdd, reduceEqDiff, reduceCtorEq, initFr, reduceLT, clsA, reduceLeDiff, reduceMul, reduceSub, reduceIte, a_s2bl, strB]
          have hq := bq_new K4 true Bi Bi.length rfl
          have kq := (Keeps.refl K4).alloc (.cells true true 1 (cellsOf Bi) 5)
          have gM5 := kq.at_ gM4
          have gE5 := kq.at_ gE4
          have lM5 := AHeap.get_lt gM5
          refine callK (t38 hw gM5 hq (by omega) hm hh) ?_
          rintro _ _ ⟨rfl, rfl⟩
          simp (disch := first | assumption | omega | (simp only [LN] <;> omega) | (simp (disch := first | assumption | omega | (simp only [LN] <;> omega)) only [row_alloc, row_set]; assumption)) only [W_block, P3, ↓reduceIte, reduceAdd, reduceEqDiff, reduceCtorEq, initFr, reduceLT, clsA, reduceLeDiff, reduceMul, reduceSub, reduceIte]
          have cM := Chg.set (K4.alloc (.cells true true 1 (cellsOf Bi) 5)) lM5 (.cells true false 6 (cR (hX x m)) 93)
          have hmB := (geLi_some hm).2.2.2
          have hx := hX_wf hw (geLi_ok hm) (hE0 hh).2.2
          have n4 := c4.n
          refine h3 _ _ ⟨hX x m, vb, m.B, 0, _, _, _, _, _, _, _, _, _, _, _, _, _, _, _, _, _, hx, ?_, AHeap.get_set_same gM5 _, ?_, ?_, ?_, fun y hy => f4 y (mem_blkL.1 hy), by omega, rfl⟩
          · rw [AHeap.get_set_other _ hEM lM5]; exact gE5
          · exact ((kK3.chg_trans c4 (by simp; omega)).trans kq).chg_trans cM (by simp; omega)
          · exact ((hvi.chg c4 (fun y hy => by simpa using (hvn y hy).1)).keeps kq).chg cM (fun y hy => by simpa using (hvn y hy).2)
          · exact (a4.keeps kq).chg cM (fun y hy => by have := f4 y (mem_blkL.1 hy); simp; omega)
        · refine callP (t37no gE3 hvi (by omega) hh) ?_
          simp (disch := first | assumption | omega | (simp only [LN] <;> omega) | (simp (disch := first | assumption | omega | (simp only [LN] <;> omega)) only [row_alloc, row_set]; assumption)) only [W_block, P3, ↓reduceIte, reduceAdd, reduceEqDiff, reduceCtorEq, initFr, reduceLT, clsA, reduceLeDiff, reduceMul, reduceSub, reduceIte, a_s2bl, strB]
          have hq := bq_new K3 true Bi Bi.length rfl
          have kq := (Keeps.refl K3).alloc (.cells true true 1 (cellsOf Bi) 5)
          refine callP (t38no (kq.at_ gM3) hq (by omega) hh) ?_
          simp (disch := first | assumption | omega | (simp only [LN] <;> omega) | (simp (disch := first | assumption | omega | (simp only [LN] <;> omega)) only [row_alloc, row_set]; assumption)) only [W_block, P3, ↓reduceIte, reduceAdd, reduceEqDiff, reduceCtorEq, initFr, reduceLT, clsA, reduceLeDiff, reduceMul, reduceSub, reduceIte]
          exact h3 _ _ ⟨x, .slice none 0 0, [], hE x (geLi Bi), _, _, _, _, _, _, _, _, _, _, _, _, _, _, _, _, _, hw, kq.at_ gE3, kq.at_ gM3, kK3.trans kq, hvi.keeps kq, .inl ⟨rfl, rfl, rfl⟩, by simp [blkL, blk], by simp, rfl⟩
      rintro fr K4 ⟨x', va, Ba, e, w11, w12, w13, w14, w20, w21, w22, w23, w24, w25, w26, w27, w28, w29, w30, w31, w32, hw', gE4, gM4, kK4, hvi4, ha4, hfr4, hBa, rfl⟩
      simp (disch := first | assumption | omega | (simp only [LN] <;> omega) | (simp (disch := first | assumption | omega | (simp only [LN] <;> omega)) only [row_alloc, row_set]; assumption)) only [cpost, W_block, P3, ↓reduceIte, reduceAdd, reduceEqDiff, reduceCtorEq, initFr, reduceLT, clsA, reduceLeDiff, reduceMul, reduceSub, reduceIte, a_b2sB ha4.bs, a_b2sB hvi4.bs, strB, bytes_eq]
      have hisa := ha4.bs.sl.is
      have hlena := ha4.bs.sl.len
      rw [List.length_map] at hlena
      refine W_loop2 (fun q fr X => ∃ (j : Nat) (l' : List UInt8) (z28 : Value), j ≤ Ba.length ∧ q = Ba.length - j ∧ l'.length = Ba.length ∧ AP X 5 1 va Ba.length (cellsOf l') ∧ Chg (blkL va) K4 X ∧
        fr = [.int .u8 (f : Nat), .int .u8 (t : Nat), .int .i64 n, v, .bool false, ptr bE 0, .int .i64 0, ptr bM 0, .int .i64 (i : Nat), ptr K.n 0, vin, w11, w12, w13, w14, strB Bi, va, .int .i64 e, strB Ba, .int .i64 e, .int .i64 (j : Nat), w21, w22, w23, w24, w25, w26, .bool false, z28, w29, w30, w31, w32]) Ba.length ⟨0, Ba, _, by omega, rfl, rfl, ha4, Chg.refl _ _, rfl⟩ ?_
      rintro Q5 q fr X ⟨j, l', z28, hj, rfl, hl', aX, cX, rfl⟩ hnx5 hex5 hrt5
      by_cases hcj : j < Ba.length
      · rcases aX with ⟨_, h0', _⟩ | ⟨bb, room, rfl, h1', gy⟩
        · omega
        have hj' : j < l'.length := by omega
        have py := AHeap.get_lt gy
        simp (disch := first | assumption | omega | (simp only [LN] <;> omega) | (simp (disch := first | assumption | omega | (simp only [LN] <;> omega)) only [row_alloc, row_set]; assumption)) only [W_block, P3, ↓reduceIte, reduceAdd, reduceEqDiff, reduceCtorEq, initFr, reduceLT, clsA, reduceLeDiff, reduceMul, reduceSub, reduceIte, gy, cells_get hj', inc_byte, cellsOf_length, cells_set, wrap_succ (n := j) (by omega)]
        refine hnx5 _ _ _ ⟨j + 1, l'.set j (UInt8.ofNat (l'[j].toNat + 1)), _, by omega, rfl, by rw [List.length_set]; exact hl', .inr ⟨bb, room, rfl, by rw [cellsOf_length, List.length_set]; omega, AHeap.get_set_same gy _⟩, ?_, rfl⟩ (by omega)
        exact cX.trans (Chg.set X py _) (fun x hx => .inl (by simp at hx; subst hx; exact mem_blkL.2 rfl))
      · simp (disch := first | assumption | omega | (simp only [LN] <;> omega) | (simp (disch := first | assumption | omega | (simp only [LN] <;> omega)) only [row_alloc, row_set]; assumption)) only [W_block, P3, ↓reduceIte, reduceAdd, reduceEqDiff, reduceCtorEq, initFr, reduceLT, clsA, reduceLeDiff, reduceMul, reduceSub, reduceIte]
        refine hex5 _ _ _ ?_
        have hva : ∀ y ∈ blkL va, H.n + 2 ≤ y ∧ K3.n ≤ y := fun y hy => ⟨by have := hfr4 y hy; have := kc.n; have := k3.n; omega, hfr4 y hy⟩
        have hvi5 := hvi4.chg cX (fun y hy hy2 => by have := hfr4 y hy2; have := hvi.tbl y hy; omega)
        simp (disch := first | assumption | omega | (simp only [LN] <;> omega) | (simp (disch := first | assumption | omega | (simp only [LN] <;> omega)) only [row_alloc, row_set]; assumption)) only [W_block, P3, ↓reduceIte, reduceAdd, reduceEqDiff, reduceCtorEq, initFr, reduceLT, clsA, reduceLeDiff, reduceMul, reduceSub, reduceIte, strB, a_b2sB hvi5.bs, bytes_eq]
        exact hM2 _ _ ⟨x', _, _, _, _, _, _, _, _, _, _, _, _, _, _, _, _, _, _, _, _, _, _, _, _, hw', cX.at_ gE4 (fun hy => by have := hva _ hy; omega), cX.at_ gM4 (fun hy => by have := hva _ hy; omega), kK4.chg_trans cX (fun y hy => by have := hva y hy; omega), rfl⟩
  exact ⟨_, _, a.gc0 k (.inr (.bool _)), rfl, rfl⟩
theorem fitC {H : AHeap} {r : List Value} (h : AR Go.Proofs.Try.prog H.get 84 r) : ∃ c, r = cC c ∧ okC H c := by
  have hf : fitsL Go.Proofs.Try.prog H.get ([.int .u8, .sl 22] ++ ([.int .u8, .int .u8, .int .i64, .int .i64, .sl 22] ++ [.int .i64])) r := AR.flat (d := 20) (by kernel_rfl) h
  obtain ⟨h1, h2⟩ := hf.split
  obtain ⟨h3, h4⟩ := h2.split
  obtain ⟨a, r1, e1, a1, g1⟩ := h1.inv
  obtain ⟨b, r2, rfl, a2, g2⟩ := g1.inv
  obtain rfl := g2.end_
  obtain ⟨n, rfl, hn⟩ := fits_u8 a1
  have a2 : AR Go.Proofs.Try.prog H.get 22 [b] := a2
  obtain ⟨B, hB⟩ := a2.bq Go.Proofs.Try.underlying22 Go.Proofs.Try.underlying5 (by kernel_rfl)
  obtain ⟨F, vF, e3, hr, hF⟩ := fitLi h3
  obtain ⟨d, r3, e4, a4, g4⟩ := h4.inv
  obtain rfl := g4.end_
  obtain ⟨I, rfl, hI⟩ := fits_i64 a4
  refine ⟨⟨n, B, b, F, vF, I⟩, ?_, ⟨hn, hB, hF, hr, hI⟩⟩
  have e : r = r.take 2 ++ ((r.drop 2).take 5 ++ (r.drop 2).drop 5) := by rw [List.take_append_drop, List.take_append_drop]
  rw [e]
  simp only [List.length_cons, List.length_nil] at e1 e3 e4
  rw [e1, e3, e4]
  rfl
theorem AVcalls {H : AHeap} {v : Value} (h : AV Go.Proofs.Try.prog H.get 76 v) : ∃ cs : List Cl, Sl H 8 v (cs.map cC) ∧ ∀ c ∈ cs, okC H c := by
  obtain ⟨rows, hs, hr⟩ := h.rows (e := 84) (esz := 8) Go.Proofs.Try.underlying76 (by kernel_rfl)
  obtain ⟨m, rfl, hm⟩ := list_choose (f := cC) (Q := okC H) (l := rows) (fun r hrm => fitC (hr r hrm))
  exact ⟨m, hs, hm⟩
theorem lawPlays : ∀ H args, NoOwn H → AVs Go.Proofs.Try.prog H.get [5, 5, 2, 76] args → ∃ H', ARun Go.Proofs.Try.prog 0 4 args H (.bool true) H' := by
  intro H args _ h
  match args, h with
  | [v0, v1, v2, v3], ⟨h0, h1, h2, h3, _⟩ =>
    obtain ⟨f, rfl, hf⟩ := h0.int_inv Go.Proofs.Try.underlying5
    obtain ⟨t, rfl, ht⟩ := h1.int_inv Go.Proofs.Try.underlying5
    obtain ⟨n, rfl, hn⟩ := h2.int_inv Go.Proofs.Try.underlying2
    simp only [Lit.wf, Bool.and_eq_true, decide_eq_true_eq, IntKind.min, IntKind.max, IntKind.signed, IntKind.bits] at hf ht hn
    obtain ⟨f, rfl⟩ : ∃ k : Nat, f = k := ⟨f.toNat, by simp at hf; omega⟩
    obtain ⟨t, rfl⟩ : ∃ k : Nat, t = k := ⟨t.toNat, by simp at ht; omega⟩
    obtain ⟨cs, hs, hc⟩ := AVcalls h3
    obtain ⟨w, H', a, rfl, rfl⟩ := t4 (H := H) f t n (by simp at hf; omega) (by simp at ht; omega) (by simp at hn; omega) hs hc
    exact ⟨_, a⟩
end Go.AM.Fd
