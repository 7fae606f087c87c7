/- Part of the proof. -/
import Derived.Test.YtngnahfbgilapaaGLKnown03
set_option linter.unusedSimpArgs false
set_option linter.unusedVariables false
set_option linter.unusedSimpArgs false
set_option linter.unusedVariables false
namespace Go.AM.Fd
open Nat (reduceAdd reduceEqDiff reduceLT reduceLeDiff reduceMul reduceSub)
open Go.Proofs Go.AM.F
def GotV (c : List Value) (e : Int) : Value := .tuple #[.agg c.toArray, .int .i64 e]
-- got{
theorem t76 {H : AHeap} {lo hi r s : Nat} {l : List UInt8} (h : RR H lo hi r l s) (ok : Bool) (x : Li) {vb : Value} (hB : BS H vb x.B) : ∃ v H', ARun Go.Proofs.Try.prog 0 76 [ptr r 0, .bool ok, .agg (cLi vb x).toArray] H v H' ∧ Keeps H H' ∧
    v = if ok = true ∧ l.length = s ∧ okLi x = true then GotV (cLi vb x) 0 else GotV (cLi (.slice none 0 0) Li0) 130 := by
  refine walk2 f76_ok f76_n ?_
  intro Q hq1 hq2
  have hr : ∀ fr H', resO f76.res fr H' = (celln 5 (fr.getD 4 undef) H').map fun c => .tuple #[c, fr.getD 5 undef] := fun fr H' => resCT 5 4 5 fr
  have hone := hB.sl.one
  have lx : (cLi vb x).length = 5 := rfl
  have ox : (cLi vb x).all Value.oneCell' = true := by simp only [cLi, List.all_cons, List.all_nil, hone]; rfl
  cases ok with
  | false =>
    simp (disch := first | assumption | omega | (simp only [LN] <;> omega) | (simp (disch := first | assumption | omega | (simp only [LN] <;> omega)) only [row_alloc, row_set]; assumption)) only [f76, W_block, P3, ↓reduceIte, reduceAdd, reduceEqDiff, reduceCtorEq, initFr, reduceLT, clsA, reduceLeDiff, reduceMul, reduceSub, reduceIte, ox]
    refine hq2 _ _ ⟨_, by rw [hr]; simp (disch := first | assumption | omega | (simp only [LN] <;> omega) | (simp (disch := first | assumption | omega | (simp only [LN] <;> omega)) only [row_alloc, row_set]; assumption)) only [W_block, P3, ↓reduceIte, reduceAdd, reduceEqDiff, reduceCtorEq, initFr, reduceLT, clsA, reduceLeDiff, reduceMul, reduceSub, reduceIte]; rfl, by ((repeat (first | exact Keeps.refl _ | assumption | refine Keeps.alloc ?_ _ | (refine Keeps.set ?_ (by first | omega | (simp only [alloc_n, set_n] <;> omega)) (by first | omega | (simp only [alloc_n, set_n] <;> omega)) _) | (refine Keeps.trans' (by assumption) ?_)))), by rw [if_neg (by simp)]; rfl⟩
  | true =>
    simp (disch := first | assumption | omega | (simp only [LN] <;> omega) | (simp (disch := first | assumption | omega | (simp only [LN] <;> omega)) only [row_alloc, row_set]; assumption)) only [f76, W_block, P3, ↓reduceIte, reduceAdd, reduceEqDiff, reduceCtorEq, initFr, reduceLT, clsA, reduceLeDiff, reduceMul, reduceSub, reduceIte, ox]
    refine callK (q99 (h.keeps (by ((repeat (first | exact Keeps.refl _ | assumption | refine Keeps.alloc ?_ _ | (refine Keeps.set ?_ (by first | omega | (simp only [alloc_n, set_n] <;> omega)) (by first | omega | (simp only [alloc_n, set_n] <;> omega)) _) | (refine Keeps.trans' (by assumption) ?_))))))) ?_
    rintro _ _ ⟨rfl, rfl⟩
    by_cases h1 : l.length < s
    · have e1 : decide (l.length < s) = true := by simp [h1]
      simp (disch := first | assumption | omega | (simp only [LN] <;> omega) | (simp (disch := first | assumption | omega | (simp only [LN] <;> omega)) only [row_alloc, row_set]; assumption)) only [W_block, P3, ↓reduceIte, reduceAdd, reduceEqDiff, reduceCtorEq, initFr, reduceLT, clsA, reduceLeDiff, reduceMul, reduceSub, reduceIte, ox, e1]
      refine hq2 _ _ ⟨_, by rw [hr]; simp (disch := first | assumption | omega | (simp only [LN] <;> omega) | (simp (disch := first | assumption | omega | (simp only [LN] <;> omega)) only [row_alloc, row_set]; assumption)) only [W_block, P3, ↓reduceIte, reduceAdd, reduceEqDiff, reduceCtorEq, initFr, reduceLT, clsA, reduceLeDiff, reduceMul, reduceSub, reduceIte]; rfl, by ((repeat (first | exact Keeps.refl _ | assumption | refine Keeps.alloc ?_ _ | (refine Keeps.set ?_ (by first | omega | (simp only [alloc_n, set_n] <;> omega)) (by first | omega | (simp only [alloc_n, set_n] <;> omega)) _) | (refine Keeps.trans' (by assumption) ?_)))), by rw [if_neg (by omega)]; rfl⟩
    · have e1 : decide (l.length < s) = false := by simp [h1]
      simp (disch := first | assumption | omega | (simp only [LN] <;> omega) | (simp (disch := first | assumption | omega | (simp only [LN] <;> omega)) only [row_alloc, row_set]; assumption)) only [W_block, P3, ↓reduceIte, reduceAdd, reduceEqDiff, reduceCtorEq, initFr, reduceLT, clsA, reduceLeDiff, reduceMul, reduceSub, reduceIte, ox, e1]
      refine callK (q100 (h.keeps (by ((repeat (first | exact Keeps.refl _ | assumption | refine Keeps.alloc ?_ _ | (refine Keeps.set ?_ (by first | omega | (simp only [alloc_n, set_n] <;> omega)) (by first | omega | (simp only [alloc_n, set_n] <;> omega)) _) | (refine Keeps.trans' (by assumption) ?_))))))) ?_
      rintro _ _ ⟨rfl, rfl⟩
      by_cases h2 : l.length = s
      · have e2 : ¬ (0 : Int) < ((l.length - s : Nat) : Int) := by omega
        simp (disch := first | assumption | omega | (simp only [LN] <;> omega) | (simp (disch := first | assumption | omega | (simp only [LN] <;> omega)) only [row_alloc, row_set]; assumption)) only [W_block, P3, ↓reduceIte, reduceAdd, reduceEqDiff, reduceCtorEq, initFr, reduceLT, clsA, reduceLeDiff, reduceMul, reduceSub, reduceIte, ox, e2]
        refine callK (mayLi x (hB.keeps (by ((repeat (first | exact Keeps.refl _ | assumption | refine Keeps.alloc ?_ _ | (refine Keeps.set ?_ (by first | omega | (simp only [alloc_n, set_n] <;> omega)) (by first | omega | (simp only [alloc_n, set_n] <;> omega)) _) | (refine Keeps.trans' (by assumption) ?_))))))) ?_
        rintro _ K ⟨rfl, k⟩
        have nk := k.n
        simp only [alloc_n, set_n] at nk
        cases h3 : okLi x with
        | false =>
          simp (disch := first | assumption | omega | (simp only [LN] <;> omega) | (simp (disch := first | assumption | omega | (simp only [LN] <;> omega)) only [row_alloc, row_set, Keeps.row k]; assumption)) only [Keeps.get k, Keeps.row k, W_block, P3, ↓reduceIte, reduceAdd, reduceEqDiff, reduceCtorEq, initFr, reduceLT, clsA, reduceLeDiff, reduceMul, reduceSub, reduceIte, ox, h3]
          refine hq2 _ _ ⟨_, by rw [hr]; simp (disch := first | assumption | omega | (simp only [LN] <;> omega) | (simp (disch := first | assumption | omega | (simp only [LN] <;> omega)) only [row_alloc, row_set, Keeps.row k]; assumption)) only [Keeps.get k, Keeps.row k, W_block, P3, ↓reduceIte, reduceAdd, reduceEqDiff, reduceCtorEq, initFr, reduceLT, clsA, reduceLeDiff, reduceMul, reduceSub, reduceIte]; rfl, by ((repeat (first | exact Keeps.refl _ | assumption | refine Keeps.alloc ?_ _ | (refine Keeps.set ?_ (by first | omega | (simp only [alloc_n, set_n] <;> omega)) (by first | omega | (simp only [alloc_n, set_n] <;> omega)) _) | (refine Keeps.trans' (by assumption) ?_)))), by rw [if_neg (by simp [h3])]; rfl⟩
        | true =>
          simp (disch := first | assumption | omega | (simp only [LN] <;> omega) | (simp (disch := first | assumption | omega | (simp only [LN] <;> omega)) only [row_alloc, row_set, Keeps.row k]; assumption)) only [Keeps.get k, Keeps.row k, W_block, P3, ↓reduceIte, reduceAdd, reduceEqDiff, reduceCtorEq, initFr, reduceLT, clsA, reduceLeDiff, reduceMul, reduceSub, reduceIte, ox, h3]
          refine hq2 _ _ ⟨_, by rw [hr]; simp (disch := first | assumption | omega | (simp only [LN] <;> omega) | (simp (disch := first | assumption | omega | (simp only [LN] <;> omega)) only [row_alloc, row_set, Keeps.row k]; assumption)) only [Keeps.get k, Keeps.row k, W_block, P3, ↓reduceIte, reduceAdd, reduceEqDiff, reduceCtorEq, initFr, reduceLT, clsA, reduceLeDiff, reduceMul, reduceSub, reduceIte]; rfl, by ((repeat (first | exact Keeps.refl _ | assumption | refine Keeps.alloc ?_ _ | (refine Keeps.set ?_ (by first | omega | (simp only [alloc_n, set_n] <;> omega)) (by first | omega | (simp only [alloc_n, set_n] <;> omega)) _) | (refine Keeps.trans' (by assumption) ?_)))), by rw [if_pos ⟨rfl, h2, h3⟩]; rfl⟩
      · have e2 : (0 : Int) < ((l.length - s : Nat) : Int) := by omega
        simp (disch := first | assumption | omega | (simp only [LN] <;> omega) | (simp (disch := first | assumption | omega | (simp only [LN] <;> omega)) only [row_alloc, row_set]; assumption)) only [W_block, P3, ↓reduceIte, reduceAdd, reduceEqDiff, reduceCtorEq, initFr, reduceLT, clsA, reduceLeDiff, reduceMul, reduceSub, reduceIte, ox, e2]
        refine hq2 _ _ ⟨_, by rw [hr]; simp (disch := first | assumption | omega | (simp only [LN] <;> omega) | (simp (disch := first | assumption | omega | (simp only [LN] <;> omega)) only [row_alloc, row_set]; assumption)) only [W_block, P3, ↓reduceIte, reduceAdd, reduceEqDiff, reduceCtorEq, initFr, reduceLT, clsA, reduceLeDiff, reduceMul, reduceSub, reduceIte]; rfl, by ((repeat (first | exact Keeps.refl _ | assumption | refine Keeps.alloc ?_ _ | (refine Keeps.set ?_ (by first | omega | (simp only [alloc_n, set_n] <;> omega)) (by first | omega | (simp only [alloc_n, set_n] <;> omega)) _) | (refine Keeps.trans' (by assumption) ?_)))), by rw [if_neg (by omega)]; rfl⟩
theorem n76 {H : AHeap} (x : Li) {vb : Value} (hB : BS H vb x.B) : ∃ v H', ARun Go.Proofs.Try.prog 0 76 [.pointer none, .bool false, .agg (cLi vb x).toArray] H v H' ∧ Keeps H H' ∧ v = GotV (cLi (.slice none 0 0) Li0) 130 := by
  refine walk2 f76_ok f76_n ?_
  intro Q hq1 hq2
  have hr : ∀ fr H', resO f76.res fr H' = (celln 5 (fr.getD 4 undef) H').map fun c => .tuple #[c, fr.getD 5 undef] := fun fr H' => resCT 5 4 5 fr
  have hone := hB.sl.one
  have lx : (cLi vb x).length = 5 := rfl
  have ox : (cLi vb x).all Value.oneCell' = true := by simp only [cLi, List.all_cons, List.all_nil, hone]; rfl
  simp (disch := first | assumption | omega | (simp only [LN] <;> omega) | (simp (disch := first | assumption | omega | (simp only [LN] <;> omega)) only [row_alloc, row_set]; assumption)) only [f76, W_block, P3, ↓reduceIte, reduceAdd, reduceEqDiff, reduceCtorEq, initFr, reduceLT, clsA, reduceLeDiff, reduceMul, reduceSub, reduceIte, ox]
  refine hq2 _ _ ⟨_, by rw [hr]; simp (disch := first | assumption | omega | (simp only [LN] <;> omega) | (simp (disch := first | assumption | omega | (simp only [LN] <;> omega)) only [row_alloc, row_set]; assumption)) only [W_block, P3, ↓reduceIte, reduceAdd, reduceEqDiff, reduceCtorEq, initFr, reduceLT, clsA, reduceLeDiff, reduceMul, reduceSub, reduceIte]; rfl, by ((repeat (first | exact Keeps.refl _ | assumption | refine Keeps.alloc ?_ _ | (refine Keeps.set ?_ (by first | omega | (simp only [alloc_n, set_n] <;> omega)) (by first | omega | (simp only [alloc_n, set_n] <;> omega)) _) | (refine Keeps.trans' (by assumption) ?_)))), rfl⟩
-- }got
end Go.AM.Fd

set_option linter.unusedSimpArgs false
set_option linter.unusedVariables false
namespace Go.AM.Fd
open Nat (reduceAdd reduceEqDiff reduceLT reduceLeDiff reduceMul reduceSub)
open Go.Proofs Go.AM.F
def geLi (b : List UInt8) : Option Li := if frm 5 b = true then pdLi (bd b) else none
theorem bd_le {b : List UInt8} (h : b.length ≤ 1000000000) : (bd b).length ≤ 1000000000 := by rw [bd_len]; omega
end Go.AM.Fd

set_option linter.unusedSimpArgs false
set_option linter.unusedVariables false
namespace Go.AM.Fd
open Nat (reduceAdd reduceEqDiff reduceLT reduceLeDiff reduceMul reduceSub)
open Go.Proofs Go.AM.F
theorem fillLi (f t : Nat) (q k : Int) : fillA [.int .u8 0, .int .u8 0, .int .i64 0, .int .i64 0, .slice none 0 0] [(0, 1, .int .u8 (f : Nat)), (1, 1, .int .u8 (t : Nat)), (2, 1, .int .i64 q), (3, 1, .int .i64 k)] = some (cLi (.slice none 0 0) ⟨f, t, q, k, []⟩) := rfl
def LiR (H H' : AHeap) (w : Value) (o : Option Li) : Prop := ∃ vb, Fresh H.n vb ∧ match o with
  | some x => w = GotV (cLi vb x) 0 ∧ AP H' 5 1 vb x.B.length (cellsOf x.B)
  | none => w = GotV (cLi (.slice none 0 0) Li0) 130
theorem t24 {H : AHeap} {v : Value} {b : List UInt8} (hb : BQ H v b) (hl : b.length ≤ 1000000000) : ∃ w H', ARun Go.Proofs.Try.prog 0 24 [v] H w H' ∧ Keeps H H' ∧ LiR H H' w (geLi b) := by
  refine walk2 f24_ok f24_n ?_
  intro Q hq1 hq2
  have hr : ∀ fr H', resO f24.res fr H' = (celln 5 (fr.getD 1 undef) H').map fun c => .tuple #[c, fr.getD 2 undef] := fun fr H' => resCT 5 1 2 fr
  have k0 := (Keeps.refl H).alloc (.cells true false 5 (cLi (.slice none 0 0) Li0) 65)
  have g0 := AHeap.get_alloc_new H (.cells true false 5 (cLi (.slice none 0 0) Li0) 65)
  have lz : (cLi (.slice none 0 0) Li0).length = 5 := rfl
  have ozz : (cLi (.slice none 0 0) Li0).all Value.oneCell' = true := rfl
  simp (disch := first | assumption | omega | (simp only [LN] <;> omega) | (simp (disch := first | assumption | omega | (simp only [LN] <;> omega)) only [row_alloc, row_set]; assumption)) only [f24, W_block, P3, ↓reduceIte, reduceAdd, reduceEqDiff, reduceCtorEq, initFr, reduceLT, clsA, reduceLeDiff, reduceMul, reduceSub, reduceIte, ozz]
  refine callK (t62 (hb.keeps (by ((repeat (first | exact Keeps.refl _ | assumption | refine Keeps.alloc ?_ _ | (refine Keeps.set ?_ (by first | omega | (simp only [alloc_n, set_n] <;> omega)) (by first | omega | (simp only [alloc_n, set_n] <;> omega)) _) | (refine Keeps.trans' (by assumption) ?_)))))) 5 (by omega) hl) ?_
  rintro _ K0 ⟨k, ⟨rfl, rfl, hf⟩ | ⟨r, rfl, r0⟩⟩
  · simp (disch := first | assumption | omega | (simp only [LN] <;> omega) | (simp (disch := first | assumption | omega | (simp only [LN] <;> omega)) only [row_alloc, row_set]; assumption)) only [W_block, P3, ↓reduceIte, reduceAdd, reduceEqDiff, reduceCtorEq, initFr, reduceLT, clsA, reduceLeDiff, reduceMul, reduceSub, reduceIte]
    refine callK (n63 _) ?_
    rintro _ _ ⟨rfl, rfl⟩
    simp (disch := first | assumption | omega | (simp only [LN] <;> omega) | (simp (disch := first | assumption | omega | (simp only [LN] <;> omega)) only [row_alloc, row_set]; assumption)) only [W_block, P3, ↓reduceIte, reduceAdd, reduceEqDiff, reduceCtorEq, initFr, reduceLT, clsA, reduceLeDiff, reduceMul, reduceSub, reduceIte]
    refine callK (n63 _) ?_
    rintro _ _ ⟨rfl, rfl⟩
    simp (disch := first | assumption | omega | (simp only [LN] <;> omega) | (simp (disch := first | assumption | omega | (simp only [LN] <;> omega)) only [row_alloc, row_set]; assumption)) only [W_block, P3, ↓reduceIte, reduceAdd, reduceEqDiff, reduceCtorEq, initFr, reduceLT, clsA, reduceLeDiff, reduceMul, reduceSub, reduceIte]
    refine callK (n64 _) ?_
    rintro _ _ ⟨rfl, rfl⟩
    simp (disch := first | assumption | omega | (simp only [LN] <;> omega) | (simp (disch := first | assumption | omega | (simp only [LN] <;> omega)) only [row_alloc, row_set]; assumption)) only [W_block, P3, ↓reduceIte, reduceAdd, reduceEqDiff, reduceCtorEq, initFr, reduceLT, clsA, reduceLeDiff, reduceMul, reduceSub, reduceIte]
    refine callK (n64 _) ?_
    rintro _ _ ⟨rfl, rfl⟩
    have f2 := fillLi 0 0 (IntKind.i64.wrap 0) (IntKind.i64.wrap 0)
    simp only [Int.natCast_zero] at f2
    simp (disch := first | assumption | omega | (simp only [LN] <;> omega) | (simp (disch := first | assumption | omega | (simp only [LN] <;> omega)) only [row_alloc, row_set]; assumption)) only [W_block, P3, ↓reduceIte, reduceAdd, reduceEqDiff, reduceCtorEq, initFr, reduceLT, clsA, reduceLeDiff, reduceMul, reduceSub, reduceIte, f2, cLi]
    refine callK (n75 _) ?_
    rintro _ _ ⟨rfl, rfl⟩
    simp (disch := first | assumption | omega | (simp only [LN] <;> omega) | (simp (disch := first | assumption | omega | (simp only [LN] <;> omega)) only [row_alloc, row_set]; assumption)) only [W_block, P3, ↓reduceIte, reduceAdd, reduceEqDiff, reduceCtorEq, initFr, reduceLT, clsA, reduceLeDiff, reduceMul, reduceSub, reduceIte]
    refine callK (n74 _ _) ?_
    rintro _ _ ⟨rfl, rfl⟩
    simp (disch := first | assumption | omega | (simp only [LN] <;> omega) | (simp (disch := first | assumption | omega | (simp only [LN] <;> omega)) only [row_alloc, row_set]; assumption)) only [W_block, P3, ↓reduceIte, reduceAdd, reduceEqDiff, reduceCtorEq, initFr, reduceLT, clsA, reduceLeDiff, reduceMul, reduceSub, reduceIte]
    refine callK (t73 (BS.nil _) (by simp)) ?_
    rintro v2 K2 ⟨a2, k2, fr2⟩
    have n2 := k2.n
    simp only [alloc_n] at n2
    have ho2 : v2.oneCell' = true := by obtain ⟨a, rfl⟩ := a2.shape; rfl
    have fb2 := Fresh.tb fr2
    simp only [alloc_n] at fb2
    simp (disch := first | assumption | omega | (simp only [LN] <;> omega) | (simp (disch := first | assumption | omega | (simp only [LN] <;> omega)) only [row_alloc, row_set, Keeps.row k2]; assumption)) only [Keeps.get k2, Keeps.row k2, W_block, P3, ↓reduceIte, reduceAdd, reduceEqDiff, reduceCtorEq, initFr, reduceLT, clsA, reduceLeDiff, reduceMul, reduceSub, reduceIte, cLi, ho2]
    refine callK (n76 ⟨0, 0, IntKind.i64.wrap 0, IntKind.i64.wrap 0, []⟩ (a2.bs.chgT (Chg.set K2 (show H.n + 1 < K2.n by omega) _) (fun y hy => by have := fb2 y hy; simp; omega))) ?_
    rintro _ K3 ⟨k3, rfl⟩
    have n3 := k3.n
    simp only [set_n] at n3
    have p3 : H.n + 1 < K2.n := by omega
    have kq : ∀ o, Keeps H (K3.set H.n o) := fun o => ⟨by rw [set_n]; omega, fun y hy => by
      rw [AHeap.get_set_other _ (by omega) (by omega), k3.get _ (by rw [set_n]; omega), AHeap.get_set_other _ (by omega) p3, k2.get _ (by simp only [alloc_n]; omega), AHeap.get_alloc_old _ _ (by rw [alloc_n]; omega), AHeap.get_alloc_old _ _ hy]⟩
    simp (disch := first | assumption | omega | (simp only [LN] <;> omega) | (simp (disch := first | assumption | omega | (simp only [LN] <;> omega)) only [row_alloc, row_set, Keeps.row k3, Keeps.row k2]; assumption)) only [Keeps.get k3, Keeps.get k2, Keeps.row k3, Keeps.row k2, W_block, P3, ↓reduceIte, reduceAdd, reduceEqDiff, reduceCtorEq, initFr, reduceLT, clsA, reduceLeDiff, reduceMul, reduceSub, reduceIte, GotV, cLi]
    refine hq2 _ _ ⟨_, by rw [hr]; simp (disch := first | assumption | omega | (simp only [LN] <;> omega) | (simp (disch := first | assumption | omega | (simp only [LN] <;> omega)) only [row_alloc, row_set, Keeps.row k3, Keeps.row k2]; assumption)) only [Keeps.get k3, Keeps.get k2, Keeps.row k3, Keeps.row k2, W_block, P3, ↓reduceIte, reduceAdd, reduceEqDiff, reduceCtorEq, initFr, reduceLT, clsA, reduceLeDiff, reduceMul, reduceSub, reduceIte, cLi]; rfl, kq _, ?_⟩
    refine ⟨.slice none 0 0, fun b hb => (by cases hb), ?_⟩
    have ge : geLi b = none := by unfold geLi; rw [hf]; rfl
    rw [ge]
    rfl
  · have hn0 := k.n
    simp only [alloc_n] at hn0
    have hlb := bd_le hl
    have hrl : H.n + 1 ≤ r := r0.1
    have hrk : r < K0.n := r0.2.1
    have c0 := Chg.refl [r] K0
    simp (disch := first | assumption | omega | (simp only [LN] <;> omega) | (simp (disch := first | assumption | omega | (simp only [LN] <;> omega)) only [row_alloc, row_set]; assumption)) only [W_block, P3, ↓reduceIte, reduceAdd, reduceEqDiff, reduceCtorEq, initFr, reduceLT, clsA, reduceLeDiff, reduceMul, reduceSub, reduceIte]
    refine callK (q63 r0 hlb) ?_
    rintro _ K1 ⟨rfl, r1, e1⟩
    have c1 := Chg1.tr c0 e1
    simp (disch := first | assumption | omega | (simp only [LN] <;> omega) | (simp (disch := first | assumption | omega | (simp only [LN] <;> omega)) only [row_alloc, row_set]; assumption)) only [W_block, P3, ↓reduceIte, reduceAdd, reduceEqDiff, reduceCtorEq, initFr, reduceLT, clsA, reduceLeDiff, reduceMul, reduceSub, reduceIte]
    refine callK (q63 r1 hlb) ?_
    rintro _ K2 ⟨rfl, r2, e2⟩
    have c2 := Chg1.tr c1 e2
    simp (disch := first | assumption | omega | (simp only [LN] <;> omega) | (simp (disch := first | assumption | omega | (simp only [LN] <;> omega)) only [row_alloc, row_set]; assumption)) only [W_block, P3, ↓reduceIte, reduceAdd, reduceEqDiff, reduceCtorEq, initFr, reduceLT, clsA, reduceLeDiff, reduceMul, reduceSub, reduceIte]
    refine callK (q64 r2 hlb) ?_
    rintro _ K3 ⟨rfl, r3, e3⟩
    have c3 := Chg1.tr c2 e3
    simp (disch := first | assumption | omega | (simp only [LN] <;> omega) | (simp (disch := first | assumption | omega | (simp only [LN] <;> omega)) only [row_alloc, row_set]; assumption)) only [W_block, P3, ↓reduceIte, reduceAdd, reduceEqDiff, reduceCtorEq, initFr, reduceLT, clsA, reduceLeDiff, reduceMul, reduceSub, reduceIte]
    refine callK (q64 r3 hlb) ?_
    rintro _ K4 ⟨rfl, r4, e4⟩
    have c4 := Chg1.tr c3 e4
    have n4 := c4.n
    simp (disch := first | assumption | omega | (simp only [LN] <;> omega) | (simp (disch := first | assumption | omega | (simp only [LN] <;> omega)) only [row_alloc, row_set]; assumption)) only [W_block, P3, ↓reduceIte, reduceAdd, reduceEqDiff, reduceCtorEq, initFr, reduceLT, clsA, reduceLeDiff, reduceMul, reduceSub, reduceIte, fillLi]
    have o4 : (cLi (.slice none 0 0) ⟨na (bd b) 0 1, na (bd b) (0 + 1) 1, IntKind.i64.wrap (na (bd b) (0 + 1 + 1) 8), IntKind.i64.wrap (na (bd b) (0 + 1 + 1 + 8) 8), []⟩).all Value.oneCell' = true := rfl
    have l4 : (cLi (.slice none 0 0) ⟨na (bd b) 0 1, na (bd b) (0 + 1) 1, IntKind.i64.wrap (na (bd b) (0 + 1 + 1) 8), IntKind.i64.wrap (na (bd b) (0 + 1 + 1 + 8) 8), []⟩).length = 5 := rfl
    simp (disch := first | assumption | omega | (simp only [LN] <;> omega) | (simp (disch := first | assumption | omega | (simp only [LN] <;> omega)) only [row_alloc, row_set]; assumption)) only [W_block, P3, ↓reduceIte, reduceAdd, reduceEqDiff, reduceCtorEq, initFr, reduceLT, clsA, reduceLeDiff, reduceMul, reduceSub, reduceIte, o4]
    obtain ⟨Kb, hKb⟩ : ∃ X, X = K4.alloc (.cells true false 5 (cLi (.slice none 0 0) ⟨na (bd b) 0 1, na (bd b) (0 + 1) 1, IntKind.i64.wrap (na (bd b) (0 + 1 + 1) 8), IntKind.i64.wrap (na (bd b) (0 + 1 + 1 + 8) 8), []⟩) 65) := ⟨_, rfl⟩
    have kb := (Keeps.refl K4).alloc (.cells true false 5 (cLi (.slice none 0 0) ⟨na (bd b) 0 1, na (bd b) (0 + 1) 1, IntKind.i64.wrap (na (bd b) (0 + 1 + 1) 8), IntKind.i64.wrap (na (bd b) (0 + 1 + 1 + 8) 8), []⟩) 65)
    have gb := AHeap.get_alloc_new K4 (.cells true false 5 (cLi (.slice none 0 0) ⟨na (bd b) 0 1, na (bd b) (0 + 1) 1, IntKind.i64.wrap (na (bd b) (0 + 1 + 1) 8), IntKind.i64.wrap (na (bd b) (0 + 1 + 1 + 8) 8), []⟩) 65)
    rw [← hKb] at kb gb ⊢
    have nb := kb.n
    have lb := AHeap.get_lt gb
    refine callK (q75 (r4.keeps kb) hlb) ?_
    rintro _ K5 ⟨rfl, r5, c5⟩
    have n5 := c5.n
    have hs2 := na2 (bd b) (0 + 1 + 1 + 8 + 8)
    have hw : IntKind.i64.wrap (na (bd b) (0 + 1 + 1 + 8 + 8) 2 : Nat) = (na (bd b) (0 + 1 + 1 + 8 + 8) 2 : Nat) := wrap_i64 (by omega) (by omega)
    simp (disch := first | assumption | omega | (simp only [LN] <;> omega) | (simp (disch := first | assumption | omega | (simp only [LN] <;> omega)) only [row_alloc, row_set]; assumption)) only [W_block, P3, ↓reduceIte, reduceAdd, reduceEqDiff, reduceCtorEq, initFr, reduceLT, clsA, reduceLeDiff, reduceMul, reduceSub, reduceIte, hw]
    refine callK (q74 r5 (na (bd b) (0 + 1 + 1 + 8 + 8) 2) hlb) ?_
    rintro v6 K6 ⟨B6, r6, c6, h6⟩
    have n6 := c6.n
    have hsl : (seg (bd b) (0 + 1 + 1 + 8 + 8 + 2) (na (bd b) (0 + 1 + 1 + 8 + 8) 2)).length ≤ 65536 := by
      unfold seg
      split
      · simp
      · rw [List.length_take]; omega
    simp (disch := first | assumption | omega | (simp only [LN] <;> omega) | (simp (disch := first | assumption | omega | (simp only [LN] <;> omega)) only [row_alloc, row_set]; assumption)) only [W_block, P3, ↓reduceIte, reduceAdd, reduceEqDiff, reduceCtorEq, initFr, reduceLT, clsA, reduceLeDiff, reduceMul, reduceSub, reduceIte]
    refine callK (t73 B6 (by omega)) ?_
    rintro v7 K7 ⟨a7, k7, f7⟩
    have n7 := k7.n
    have fb7 := Fresh.tb f7
    have ho7 : v7.oneCell' = true := by obtain ⟨a, rfl⟩ := a7.shape; rfl
    have g7 : K7.get K4.n = some (.cells true false 5 (cLi (.slice none 0 0) ⟨na (bd b) 0 1, na (bd b) (0 + 1) 1, IntKind.i64.wrap (na (bd b) (0 + 1 + 1) 8), IntKind.i64.wrap (na (bd b) (0 + 1 + 1 + 8) 8), []⟩) 65) := by
      rw [k7.get _ (by omega), Chg1.get c6 (by omega) (by omega), Chg1.get c5 (by omega) (by omega)]; exact gb
    have p7 := AHeap.get_lt g7
    simp (disch := first | assumption | omega | (simp only [LN] <;> omega) | (simp (disch := first | assumption | omega | (simp only [LN] <;> omega)) only [row_alloc, row_set]; assumption)) only [W_block, P3, ↓reduceIte, reduceAdd, reduceEqDiff, reduceCtorEq, initFr, reduceLT, clsA, reduceLeDiff, reduceMul, reduceSub, reduceIte, g7, cLi, ho7]
    have q7 : ∀ o, Chg [K4.n] K7 (K7.set K4.n o) := fun o => Chg.set K7 p7 o
    have R8 := fun o => (r6.keeps k7).chg (q7 o) (.inr (by omega))
    have B8 := fun o => a7.bs.chgT (q7 o) (fun y hy => by have := fb7 y hy; simp; omega)
    refine callK (t76 (R8 _) (frm 5 b) (deLi (bd b)) (B8 _)) ?_
    rintro _ K ⟨k8, rfl⟩
    have n8 := k8.n
    simp only [set_n] at n8
    have hget : ∀ y, y < K0.n → y ≠ r → K.get y = K0.get y := fun y hy hr' => by
      rw [k8.get _ (by rw [set_n]; omega), AHeap.get_set_other _ (by omega) p7, k7.get _ (by omega), Chg1.get c6 (by omega) hr', Chg1.get c5 (by omega) hr', kb.get _ (by omega), Chg1.get c4 hy hr']
    have g8 : K.get H.n = some (.cells true false 5 (cLi (.slice none 0 0) Li0) 65) := by
      rw [hget _ (by omega) (by omega), k.get _ (by rw [alloc_n]; omega)]; exact g0
    have p8 := AHeap.get_lt g8
    have a8 : AP K 5 1 v7 (deLi (bd b)).B.length (cellsOf (deLi (bd b)).B) := a7.chg ((q7 _).trans (k8.chg [K4.n]) (fun x hx => .inl hx)) (fun y hy => by have := f7 y (mem_blkL.1 hy); simp; omega)
    have kk : ∀ o, Keeps H (K.set H.n o) := fun o => ⟨by rw [set_n]; omega, fun y hy => by
      rw [AHeap.get_set_other _ (by omega) p8, hget _ (by omega) (by omega), k.get _ (by rw [alloc_n]; omega)]; exact k0.get _ hy⟩
    have f8 : Fresh H.n v7 := fun y hy => by have := f7 y hy; omega
    by_cases hc : frm 5 b = true ∧ (bd b).length = 0 + 1 + 1 + 8 + 8 + 2 + na (bd b) (0 + 1 + 1 + 8 + 8) 2 ∧ okLi (deLi (bd b)) = true
    · rw [if_pos hc]
      have ge : geLi b = some (deLi (bd b)) := by
        unfold geLi pdLi
        rw [if_pos hc.1, if_pos ⟨by have := hc.2.1; simp only [Nat.zero_add] at this; exact this, hc.2.2⟩]
      have lx : (cLi v7 (deLi (bd b))).length = 5 := rfl
      have ox : (cLi v7 (deLi (bd b))).all Value.oneCell' = true := by simp only [cLi, List.all_cons, List.all_nil, ho7]; rfl
      simp (disch := first | assumption | omega | (simp only [LN] <;> omega) | (simp (disch := first | assumption | omega | (simp only [LN] <;> omega)) only [row_alloc, row_set]; assumption)) only [W_block, P3, ↓reduceIte, reduceAdd, reduceEqDiff, reduceCtorEq, initFr, reduceLT, clsA, reduceLeDiff, reduceMul, reduceSub, reduceIte, GotV, g8, ox, lx]
      refine hq2 _ _ ⟨_, by rw [hr]; simp (disch := first | assumption | omega | (simp only [LN] <;> omega) | (simp (disch := first | assumption | omega | (simp only [LN] <;> omega)) only [row_alloc, row_set]; assumption)) only [W_block, P3, ↓reduceIte, reduceAdd, reduceEqDiff, reduceCtorEq, initFr, reduceLT, clsA, reduceLeDiff, reduceMul, reduceSub, reduceIte, g8, ox, lx]; rfl, kk _, v7, f8, ?_⟩
      rw [ge]
      exact ⟨rfl, a8.chg (Chg.set K p8 _) (fun y hy => by have := f7 y (mem_blkL.1 hy); simp; omega)⟩
    · rw [if_neg hc]
      have ge : geLi b = none := by
        unfold geLi pdLi
        split
        · rename_i hf
          rw [if_neg (fun h => hc ⟨hf, by have := h.1; simp only [Nat.zero_add]; exact this, h.2⟩)]
        · rfl
      simp (disch := first | assumption | omega | (simp only [LN] <;> omega) | (simp (disch := first | assumption | omega | (simp only [LN] <;> omega)) only [row_alloc, row_set]; assumption)) only [W_block, P3, ↓reduceIte, reduceAdd, reduceEqDiff, reduceCtorEq, initFr, reduceLT, clsA, reduceLeDiff, reduceMul, reduceSub, reduceIte, GotV, g8, ozz, lz]
      refine hq2 _ _ ⟨_, by rw [hr]; simp (disch := first | assumption | omega | (simp only [LN] <;> omega) | (simp (disch := first | assumption | omega | (simp only [LN] <;> omega)) only [row_alloc, row_set]; assumption)) only [W_block, P3, ↓reduceIte, reduceAdd, reduceEqDiff, reduceCtorEq, initFr, reduceLT, clsA, reduceLeDiff, reduceMul, reduceSub, reduceIte, g8, ozz, lz]; rfl, kk _, .slice none 0 0, fun b hb => (by cases hb), ?_⟩
      rw [ge]
      rfl
end Go.AM.Fd

set_option linter.unusedSimpArgs false
set_option linter.unusedVariables false
namespace Go.AM
def via (ρ : Nat → Option Nat) (σ : Sg) : Sg := fun b => (ρ b).bind σ
theorem via_of {ρ : Nat → Option Nat} {σ : Sg} {b c : Nat} {i : BI} (h : ρ b = some c) (k : σ c = some i) : via ρ σ b = some i := by
  unfold via; rw [h]; exact k
theorem via_inv {ρ : Nat → Option Nat} {σ : Sg} {b : Nat} {i : BI} (h : via ρ σ b = some i) : ∃ c, ρ b = some c ∧ σ c = some i := by
  unfold via at h
  cases hb : ρ b with
  | none => rw [hb] at h; cases h
  | some c => rw [hb] at h; exact ⟨c, rfl, h⟩
inductive NV (ρ : Nat → Option Nat) : Value → Value → Prop
  | bool (b : Bool) : NV ρ (.bool b) (.bool b)
  | int (k : IntKind) (n : Int) : NV ρ (.int k n) (.int k n)
  | string (s : ByteArray) : NV ρ (.string s) (.string s)
  | nilPtr : NV ρ (.pointer none) (.pointer none)
  | ptr {b c o : Nat} (h : ρ b = some c) : NV ρ (.pointer (some ⟨b, o, none⟩)) (.pointer (some ⟨c, o, none⟩))
  | nilSl : NV ρ (.slice none 0 0) (.slice none 0 0)
  | sl {b c o n k : Nat} (h : ρ b = some c) : NV ρ (.slice (some ⟨b, o, none⟩) n k) (.slice (some ⟨c, o, none⟩) n k)
  | slz {x : Addr} (hx : x.spot.isSome = true) : NV ρ (.slice (some x) 0 0) (.slice (some x) 0 0)
  | nilMap : NV ρ (.map none) (.map none)
  | map {b c : Nat} (h : ρ b = some c) : NV ρ (.map (some b)) (.map (some c))
  | func (fn : Fn) (xs xs' ys ys' : Array Value) (h1 : xs.size = xs'.size) (h2 : ∀ i (a : i < xs.size) (b : i < xs'.size), NV ρ xs[i] xs'[i])
      (h3 : ys.size = ys'.size) (h4 : ∀ i (a : i < ys.size) (b : i < ys'.size), NV ρ ys[i] ys'[i]) : NV ρ (.func fn xs ys) (.func fn xs' ys')
  | nilFunc : NV ρ .nilFunc .nilFunc
  | iface (t : TypeId) {v v' : Value} (h : NV ρ v v') : NV ρ (.iface t v) (.iface t v')
  | nilIface : NV ρ .nilIface .nilIface
  | agg (xs xs' : Array Value) (h1 : xs.size = xs'.size) (h2 : ∀ i (a : i < xs.size) (b : i < xs'.size), NV ρ xs[i] xs'[i]) : NV ρ (.agg xs) (.agg xs')
  | tuple (xs xs' : Array Value) (h1 : xs.size = xs'.size) (h2 : ∀ i (a : i < xs.size) (b : i < xs'.size), NV ρ xs[i] xs'[i]) : NV ρ (.tuple xs) (.tuple xs')
inductive NL (ρ : Nat → Option Nat) : List Value → List Value → Prop
  | nil : NL ρ [] []
  | cons {v v' : Value} {l l' : List Value} (h : NV ρ v v') (t : NL ρ l l') : NL ρ (v :: l) (v' :: l')
theorem NV.via {ρ : Nat → Option Nat} {σ : Sg} {a b : Value} (h : NV ρ a b) : ∀ {c : Value}, VR σ b c → VR (AM.via ρ σ) a c := by
  induction h with
  | bool b => intro c k; cases k; exact .bool _
  | int k n => intro c k; cases k; exact .int _ _
  | string s => intro c k; cases k; exact .string _
  | nilPtr => intro c k; cases k; exact .nilPtr
  | ptr e => intro c k; cases k with | ptr e2 => exact .ptr (via_of e e2)
  | nilSl => intro c k; cases k; exact .nilSl
  | sl e =>
    intro c k
    cases k with
    | sl e2 hn2 hk2 => exact .sl (via_of e e2) hn2 hk2
    | sl0 e2 => exact .sl0 (via_of e e2)
    | slz hx => simp at hx
  | slz hx =>
    intro c k
    cases k with
    | sl e2 hn2 hk2 => simp at hx
    | sl0 e2 => exact .slz hx
    | slz _ => exact .slz hx
  | nilMap => intro c k; cases k; exact .nilMap
  | map e => intro c k; cases k with | map e2 => exact .map (via_of e e2)
  | func fn xs xs' ys ys' h1 _ h3 _ i2 i4 =>
    intro c k
    cases k with
    | func _ _ zs _ us g1 g2 g3 g4 => exact .func fn xs zs ys us (by omega) (fun i a b => i2 i a (by omega) (g2 i (by omega) b)) (by omega) (fun i a b => i4 i a (by omega) (g4 i (by omega) b))
  | nilFunc => intro c k; cases k; exact .nilFunc
  | iface t _ ih => intro c k; cases k with | iface _ k => exact .iface t (ih k)
  | nilIface => intro c k; cases k; exact .nilIface
  | agg xs xs' h1 _ ih =>
    intro c k
    cases k with
    | agg _ zs g1 g2 => exact .agg xs zs (by omega) (fun i a b => ih i a (by omega) (g2 i (by omega) b))
  | tuple xs xs' h1 _ ih =>
    intro c k
    cases k with
    | tuple _ zs g1 g2 => exact .tuple xs zs (by omega) (fun i a b => ih i a (by omega) (g2 i (by omega) b))
theorem NL.via {ρ : Nat → Option Nat} {σ : Sg} {a b : List Value} (h : NL ρ a b) : ∀ {c : List Value}, VL σ b c → VL (AM.via ρ σ) a c := by
  induction h with
  | nil => intro c k; cases k; exact .nil
  | cons h _ ih => intro c k; cases k with | cons k1 k2 => exact .cons (h.via k1) (ih k2)
theorem NL.length {ρ : Nat → Option Nat} {a b : List Value} (h : NL ρ a b) : a.length = b.length := by
  induction h with
  | nil => rfl
  | cons _ _ ih => simp [ih]
theorem NL.one {ρ : Nat → Option Nat} {a b : List Value} (h : NL ρ a b) (hb : ∀ v ∈ b, v.oneCell' = true) : ∀ v ∈ a, v.oneCell' = true := by
  induction h with
  | nil => simp
  | cons h _ ih =>
    intro v hv
    rcases List.mem_cons.1 hv with rfl | hv
    · have := hb _ (List.mem_cons_self ..)
      cases h <;> first | exact this | rfl
    · exact ih (fun v hv => hb v (List.mem_cons_of_mem _ hv)) v hv
def AOr (ρ : Nat → Option Nat) (a b : AO) : Prop := match a with
  | .dead => True
  | .cells own room esz c e => ∃ own' c', b = .cells own' room esz c' e ∧ (own = true → own' = true) ∧ NL ρ c c'
  | .obj own o => ∃ own', b = .obj own' o ∧ (own = true → own' = true)
theorem AOr.own {ρ : Nat → Option Nat} {a b : AO} (h : AOr ρ a b) (ha : a.own = true) : b.own = true := by
  cases a with
  | dead => cases ha
  | cells own room esz c e => obtain ⟨own', c', rfl, h1, _⟩ := h; exact h1 ha
  | obj own o => obtain ⟨own', rfl, h1⟩ := h; exact h1 ha
theorem AOr.live {ρ : Nat → Option Nat} {a b : AO} (h : AOr ρ a b) (ha : a.live = true) : b.live = true := by
  cases a with
  | dead => cases ha
  | cells own room esz c e => obtain ⟨own', c', rfl, h1, _⟩ := h; rfl
  | obj own o => obtain ⟨own', rfl, h1⟩ := h; rfl
theorem AOr.or {ρ : Nat → Option Nat} {a b : AO} (h : AOr ρ a b) {σ : Sg} {w : World} {i : BI} (k : OR σ w i b) : OR (AM.via ρ σ) w i a := by
  cases a with
  | dead => trivial
  | cells own room esz c e =>
    obtain ⟨own', c', rfl, h1, h2⟩ := h
    obtain ⟨a1, a2, a3, a4, a9, d, fr, a5, a6, a7, a8⟩ := k
    have hl := h2.length
    exact ⟨by rw [hl]; exact a1, a2, a3, by rw [hl]; exact a4, h2.one a9, d, fr, a5, a6, by rw [hl]; exact h2.via a7, fun ho => a8 (h1 ho)⟩
  | obj own o => obtain ⟨own', rfl, h1⟩ := h; exact k
variable {P : Program} {ng : Nat} {f : FuncId} {args : List Value} {H H' H'' : AHeap} {v v'' : Value}
def Stood (ng : Nat) (args : List Value) (H : AHeap) (v : Value) : Prop := ∀ (σ : Sg) (w : World) (args' : List Value), HR ng σ H.get w → VL σ args args' → ∃ x, VR σ v x
theorem ARun.gc (h : ARun P ng f args H v H') (ρ : Nat → Option Nat) (hn : H.n ≤ H''.n)
    (r0 : ∀ b, b < H.n → ρ b = some b) (r1 : ∀ b c, ρ b = some c → b < H''.n ∧ (H.n ≤ b → H.n ≤ c)) (ri : ∀ b1 b2 c, ρ b1 = some c → ρ b2 = some c → b1 = b2)
    (ro : ∀ b c o', ρ b = some c → H'.get c = some o' → (b = c ∧ b < H.n ∧ H.get b = some o' ∧ H''.get b = some o') ∨ ∃ o'', H''.get b = some o'' ∧ AOr ρ o'' o')
    (rv : (v'' = v ∧ Stood ng args H v) ∨ NV ρ v'' v) : ARun P ng f args H v'' H'' := by
  obtain ⟨h0, h1, h2⟩ := h
  refine ⟨h0, hn, fun σ w args' hr ha => ?_⟩
  refine (h2 σ w args' hr ha).mono ?_
  rintro e w' ⟨v', σ', rfl, k1, k2, k3⟩
  have old : ∀ b i, σ b = some i → b < H.n := fun b i hb => by
    obtain ⟨o, g, _⟩ := hr.obj b i hb
    exact AHeap.get_lt g
  have sub : σ.le (AM.via ρ σ') := fun b i hb => via_of (r0 b (old b i hb)) (k2.sub b i hb)
  have back : ∀ b i, b < H.n → σ' b = some i → σ b = some i := fun b i hb hs => by
    cases hsb : σ b with
    | none => have := (k2.new b i hsb hs).1.1; omega
    | some j => have := k2.sub b j hsb; rw [hs] at this; exact this.symm
  have meet_le : (meet σ' σ).le (AM.via ρ σ') := fun b i hb => by
    unfold meet at hb
    split at hb
    · rename_i hs
      obtain ⟨j, hj⟩ := Option.isSome_iff_exists.1 hs
      exact via_of (r0 b (old b j hj)) hb
    · cases hb
  have obj : ∀ b i, AM.via ρ σ' b = some i → ∃ c o'' o', ρ b = some c ∧ σ' c = some i ∧ H''.get b = some o'' ∧ H'.get c = some o' ∧ OR (AM.via ρ σ') w' i o'' ∧ (o''.own = true → o'.own = true) ∧ (o''.live = true → o'.live = true) := by
    intro b i hb
    obtain ⟨c, hc, hs⟩ := via_inv hb
    obtain ⟨o', g1, g2⟩ := k1.obj c i hs
    rcases ro b c o' hc g1 with ⟨rfl, hlt, e1, e2⟩ | ⟨o'', e1, e2⟩
    · refine ⟨b, o', o', hc, hs, e2, g1, ?_, fun x => x, fun x => x⟩
      have hsb := back b i hlt hs
      obtain ⟨o2, f1, f2⟩ := hr.obj b i hsb
      rw [e1] at f1; cases f1
      exact (g2.meet f2).mono meet_le
    · exact ⟨c, o'', o', hc, hs, e1, g1, e2.or g2, e2.own, e2.live⟩
  refine ⟨v', AM.via ρ σ', rfl, ⟨?_, ?_, ?_, ?_⟩, ⟨sub, ?_, ?_, ?_, k2.keep, k2.size, hn, k2.os, k2.tape, k2.output⟩, ?_⟩
  · intro b i hb
    obtain ⟨c, o'', o', _, _, e1, _, e2, _⟩ := obj b i hb
    exact ⟨o'', e1, e2⟩
  · intro b1 b2 i1 i2 o1 o2 hne hb1 hb2 ho1 ho2 hw hl
    obtain ⟨c1, p1, q1, a1, a2, a3, a4, _, a5, _⟩ := obj b1 i1 hb1
    obtain ⟨c2, p2, q2, d1, d2, d3, d4, _, _, d6⟩ := obj b2 i2 hb2
    rw [ho1] at a3; cases a3
    rw [ho2] at d3; cases d3
    exact k1.inj c1 c2 i1 i2 q1 q2 (fun hc => by subst hc; exact hne (ri b1 b2 c1 a1 d1)) a2 d2 a4 d4 (a5 hw) (d6 hl)
  · intro b i hb
    obtain ⟨c, _, hs⟩ := via_inv hb
    exact k1.lt c i hs
  · intro g hg
    obtain ⟨i, g1, g2, g3⟩ := hr.glob g hg
    exact ⟨i, sub g i g1, g2, g3⟩
  · intro b i hb hs
    obtain ⟨c, hc, hs'⟩ := via_inv hs
    by_cases hlt : b < H.n
    · have := r0 b hlt
      rw [hc] at this; cases this
      rw [back b i hlt hs'] at hb; cases hb
    · have hcn := (r1 b c hc).2 (by omega)
      have hsc : σ c = none := by
        cases hsc : σ c with
        | none => rfl
        | some j => have := old c j hsc; omega
      exact ⟨⟨by omega, (r1 b c hc).1⟩, (k2.new c i hsc hs').2⟩
  · intro b i o'' hb ho hw
    obtain ⟨c, p1, q1, a1, a2, a3, a4, _, a5, _⟩ := obj b i (sub b i hb)
    rw [r0 b (old b i hb)] at a1; cases a1
    rw [ho] at a3; cases a3
    exact k2.own b i q1 hb a4 (a5 hw)
  · intro b i o'' hb ho hw
    obtain ⟨c, p1, q1, a1, a2, a3, a4, _, _, a6⟩ := obj b i (sub b i hb)
    rw [r0 b (old b i hb)] at a1; cases a1
    rw [ho] at a3; cases a3
    exact k2.live b i q1 hb a4 (a6 hw)
  · rcases rv with ⟨rfl, hst⟩ | hrv
    · obtain ⟨x, hx⟩ := hst σ w args' hr ha
      exact (k3.meet hx).mono meet_le
    · exact hrv.via k3
theorem NV.plain {ρ : Nat → Option Nat} {v : Value} (h : plain1 v = true) : NV ρ v v := by
  unfold plain1 at h
  split at h <;> first | constructor | cases h
theorem NL.plain {ρ : Nat → Option Nat} : ∀ {l : List Value}, l.all plain1 = true → NL ρ l l
  | [], _ => .nil
  | v :: l, h => by
    simp only [List.all_cons, Bool.and_eq_true] at h
    exact .cons (NV.plain h.1) (NL.plain h.2)
theorem NL.get {ρ : Nat → Option Nat} {l l' : List Value} (h : NL ρ l l') : ∀ (i : Nat) (a : i < l.length) (b : i < l'.length), NV ρ l[i] l'[i] := by
  induction h with
  | nil => intro i a; simp at a
  | cons h _ ih =>
    intro i a b
    cases i with
    | zero => exact h
    | succ i => exact ih i (by simpa using a) (by simpa using b)
theorem NV.agg_of {ρ : Nat → Option Nat} {l l' : List Value} (h : NL ρ l l') : NV ρ (.agg l.toArray) (.agg l'.toArray) :=
  .agg _ _ (by simpa using h.length) (fun i a b => by simpa using h.get i (by simpa using a) (by simpa using b))
theorem NV.tuple_of {ρ : Nat → Option Nat} {l l' : List Value} (h : NL ρ l l') : NV ρ (.tuple l.toArray) (.tuple l'.toArray) :=
  .tuple _ _ (by simpa using h.length) (fun i a b => by simpa using h.get i (by simpa using a) (by simpa using b))
def rho (n : Nat) (bs : List Nat) : Nat → Option Nat := fun b => if b < n then some b else bs[b - n]?
theorem rho_old {n : Nat} {bs : List Nat} {b : Nat} (h : b < n) : rho n bs b = some b := by unfold rho; rw [if_pos h]
theorem ARun.gc0 (h : ARun P ng f args H v H') (k : Keeps H H') (hv : Stood ng args H v ∨ NV (rho H.n []) v v) : ARun P ng f args H v H := by
  refine h.gc (rho H.n []) (Nat.le_refl _) (fun b hb => rho_old hb) ?_ ?_ ?_ ?_
  · intro b c hb
    unfold rho at hb
    split at hb
    · cases hb; exact ⟨by assumption, by omega⟩
    · simp at hb
  · intro b1 b2 c h1 h2
    unfold rho at h1 h2
    split at h1 <;> split at h2 <;> simp_all
  · intro b c o' hb ho
    unfold rho at hb
    split at hb
    · rename_i hlt
      cases hb
      have := k.get b hlt
      rw [ho] at this
      exact .inl ⟨rfl, hlt, this.symm, this.symm⟩
    · simp at hb
  · rcases hv with hv | hv
    · exact .inl ⟨rfl, hv⟩
    · exact .inr hv
theorem ARun.gcs (h : ARun P ng f args H v H') (bs : List Nat) (hn : H''.n = H.n + bs.length) (hge : ∀ b ∈ bs, H.n ≤ b) (hnd : bs.Nodup)
    (hold : ∀ b o', b < H.n → H'.get b = some o' → (H.get b = some o' ∧ H''.get b = some o') ∨ ∃ o'', H''.get b = some o'' ∧ AOr (rho H.n bs) o'' o')
    (hnew : ∀ i b o', bs[i]? = some b → H'.get b = some o' → ∃ o'', H''.get (H.n + i) = some o'' ∧ AOr (rho H.n bs) o'' o')
    (hv : (v'' = v ∧ Stood ng args H v) ∨ NV (rho H.n bs) v'' v) : ARun P ng f args H v'' H'' := by
  refine h.gc (rho H.n bs) (by omega) (fun b hb => rho_old hb) ?_ ?_ ?_ hv
  · intro b c hb
    unfold rho at hb
    split at hb
    · cases hb; exact ⟨by omega, by omega⟩
    · obtain ⟨h1, h2⟩ := List.getElem?_eq_some_iff.1 hb
      exact ⟨by omega, fun _ => hge c (List.mem_of_getElem? hb)⟩
  · intro b1 b2 c h1 h2
    unfold rho at h1 h2
    split at h1 <;> split at h2
    · cases h1; cases h2; rfl
    · cases h1; have := hge _ (List.mem_of_getElem? h2); omega
    · cases h2; have := hge _ (List.mem_of_getElem? h1); omega
    · obtain ⟨a1, a2⟩ := List.getElem?_eq_some_iff.1 h1
      obtain ⟨d1, d2⟩ := List.getElem?_eq_some_iff.1 h2
      have := (List.getElem_inj hnd).1 (a2.trans d2.symm)
      omega
  · intro b c o' hb ho
    unfold rho at hb
    split at hb
    · rename_i hlt
      cases hb
      rcases hold b o' hlt ho with h | h
      · exact .inl ⟨rfl, hlt, h⟩
      · exact .inr h
    · obtain ⟨o'', e1, e2⟩ := hnew _ c o' hb ho
      exact .inr ⟨o'', by rw [show H.n + (b - H.n) = b by omega] at e1; exact e1, e2⟩
structure OB (e : Nat) (H K : AHeap) (v : Value) (l : List UInt8) : Prop where
  ap : AP K e 1 v l.length (cellsOf l)
  k : Keeps H K
  f : Fresh H.n v
theorem OB.bs {e : Nat} {H K : AHeap} {v : Value} {l : List UInt8} (h : OB e H K v l) : BS K v l := h.ap.bs
theorem OB.bq {e : Nat} {H K : AHeap} {v : Value} {l : List UInt8} (h : OB e H K v l) : BQ K v l := h.ap.bq
theorem OB.keeps {e : Nat} {H K K' : AHeap} {v : Value} {l : List UInt8} (h : OB e H K v l) (k : Keeps K K') : OB e H K' v l := ⟨h.ap.keeps k, h.k.trans k, h.f⟩
theorem OB.base {e : Nat} {H0 H K : AHeap} {v : Value} {l : List UInt8} (h : OB e H K v l) (k : Keeps H0 H) : OB e H0 K v l := ⟨h.ap, k.trans h.k, fun b hb => Nat.le_trans k.n (h.f b hb)⟩
theorem OB.nil (e : Nat) (H : AHeap) : OB e H H (.slice none 0 0) [] := ⟨.inl ⟨rfl, rfl, rfl⟩, Keeps.refl _, fun b hb => by cases hb⟩
theorem OB.lit {e : Nat} {H K : AHeap} (k : Keeps H K) {l : List UInt8} {c : List Value} {n b : Nat} (hc : c = cellsOf l) (hn : n = l.length) (hb : b = K.n) (room : Bool) : OB e H (K.alloc (.cells true room 1 c e)) (slc b 0 n n) l := by
  subst hc; subst hn; subst hb
  exact ⟨.inr ⟨K.n, room, rfl, by rw [cellsOf_length, Nat.mul_one], AHeap.get_alloc_new K _⟩, k.trans ((Keeps.refl K).alloc _), fun b hb => by cases hb; exact k.n⟩
theorem OB.one {e : Nat} {H K : AHeap} {v : Value} {l : List UInt8} (h : OB e H K v l) : v.oneCell' = true := by obtain ⟨a, rfl⟩ := h.ap.shape; rfl
theorem OB.is {e : Nat} {H K : AHeap} {v : Value} {l : List UInt8} (h : OB e H K v l) : isS v = true := by obtain ⟨a, rfl⟩ := h.ap.shape; rfl
theorem OB.len {e : Nat} {H K : AHeap} {v : Value} {l : List UInt8} (h : OB e H K v l) : lenS v = l.length := by obtain ⟨a, rfl⟩ := h.ap.shape; rfl
theorem OB.grow {e : Nat} {H K K' : AHeap} {v v' : Value} {l m : List UInt8} (h : OB e H K v l) (a : AP K' e 1 v' (l.length + m.length) (cellsOf l ++ cellsOf m)) (c : Chg (blkL v) K K') (hb : blk v' = blk v ∨ blk v' = some K.n) : OB e H K' v' (l ++ m) := by
  refine ⟨by rw [List.length_append, cellsOf_append]; exact a, h.k.chg_trans c (fun x hx => h.f x (mem_blkL.1 hx)), fun b hb' => ?_⟩
  rcases hb with e1 | e1
  · exact h.f b (by rw [← e1]; exact hb')
  · rw [e1] at hb'; cases hb'; exact h.k.n
section
variable {KF : List Value → AHeap → Prop} {fr tm : List Value} {tr : List TE} {K : AHeap}
theorem OB.appR {d : D} {r : List AOper} {e : Nat} {s x : Value} {l m : List UInt8} (h : OB e H K s l) (hx : BS K x m) (hs : l.length + m.length ≤ 1000000000)
    (hk : ∀ v' K', OB e H K' v' (l ++ m) → RW P ng r (d.frame v' fr) (d.temps v' tm) K' KF) : goR P ng (asem (.app e 1 1 s x) K) d r fr tm KF :=
  appG h.ap hx.sh hx.el (by rw [cellsOf_length, Nat.mul_one]) (by omega) (fun v' K' a c hb => hk v' K' (h.grow a c hb))
theorem OB.appD {d : D} {r : List (AOper × List Nat)} {e : Nat} {s x : Value} {l m : List UInt8} (h : OB e H K s l) (hx : BS K x m) (hs : l.length + m.length ≤ 1000000000)
    (hk : ∀ v' K', OB e H K' v' (l ++ m) → RD P ng r (d.frame v' fr) (d.temps v' tm) K' (tr ++ [⟨3, [], K, K'⟩]) KF) : goD P ng (.app e 1 1 s x) (asem (.app e 1 1 s x) K) d [] r fr tm K tr KF :=
  appGD h.ap hx.sh hx.el (by rw [cellsOf_length, Nat.mul_one]) (by omega) (fun v' K' a c hb => hk v' K' (h.grow a c hb))
theorem OB.appsR {d : D} {r : List AOper} {e : Nat} {s : Value} {l m : List UInt8} (h : OB e H K s l) (hs : l.length + m.length ≤ 1000000000)
    (hk : ∀ v' K', OB e H K' v' (l ++ m) → RW P ng r (d.frame v' fr) (d.temps v' tm) K' KF) : goR P ng (asem (.apps e 1 s (.string ⟨m.toArray⟩)) K) d r fr tm KF := by
  obtain ⟨v', K', e1, e2, e3, e4⟩ := h.ap.app (m := m.length) (news := cellsOf m) (bytes := 1) (by rw [cellsOf_length, Nat.mul_one]) (by omega)
  exact ⟨v', K', e1, hk v' K' (h.grow e2 e3 e4)⟩
end
theorem cells3 {a b c : Nat} (ha : a < 256) (hb : b < 256) (hc : c < 256) : [Value.int .u8 (a : Nat), .int .u8 (b : Nat), .int .u8 (c : Nat)] = cellsOf [UInt8.ofNat a, UInt8.ofNat b, UInt8.ofNat c] := by
  simp only [cellsOf, List.map_cons, List.map_nil, UInt8.toNat_ofNat']
  rw [Nat.mod_eq_of_lt (by omega), Nat.mod_eq_of_lt (by omega), Nat.mod_eq_of_lt (by omega)]
theorem callP {xs : List Value} {K : Value → AHeap → Prop} (h : ∃ w H', ARun P ng f xs H w H' ∧ w = v ∧ H' = H) (k : K v H) : ∃ v H', ARun P ng f xs H v H' ∧ K v H' := by
  obtain ⟨w, H', h1, rfl, rfl⟩ := h
  exact ⟨_, _, h1, k⟩
end Go.AM

set_option linter.unusedSimpArgs false
set_option linter.unusedVariables false
namespace Go.AM.Fd
open Nat (reduceAdd reduceEqDiff reduceLT reduceLeDiff reduceMul reduceSub)
open Go.Proofs Go.AM.F
theorem RR.gc {P : Program} {ng : Nat} {f : FuncId} {args : List Value} {H H' : AHeap} {lo hi r s s' : Nat} {l : List UInt8} {k : IntKind} {n : Int} (h : RR H lo hi r l s) (a : ARun P ng f args H (.int k n) H') (h' : RR H' lo hi r l s') (c : Chg [r] H H') :
    ∃ o, ARun P ng f args H (.int k n) (H.set r o) ∧ RR (H.set r o) lo hi r l s' := by
  obtain ⟨h1, h2, h3, bv, h4, h5, v0, g0, _⟩ := h
  obtain ⟨_, _, h3', bv', h4', h5', v', g', hv'⟩ := h'
  have gs : (H.set r (.cells true false 2 [v', .bool (decide (l.length < s'))] 171)).get r = some (.cells true false 2 [v', .bool (decide (l.length < s'))] 171) := AHeap.get_set_same g0 _
  have hrn := AHeap.get_lt g0
  have old : ∀ b, b ≠ r → (H.set r (.cells true false 2 [v', .bool (decide (l.length < s'))] 171)).get b = H.get b := fun b hb => AHeap.get_set_other _ hb hrn _
  refine ⟨.cells true false 2 [v', .bool (decide (l.length < s'))] 171, ?_, h1, h2, h3, bv', h4', h5', v', gs, ?_⟩
  · refine a.gcs [] rfl (by simp) (by simp) ?_ (by simp) (.inr (.int _ _))
    intro b o' hb ho
    by_cases hbr : b = r
    · subst hbr
      rw [g'] at ho; cases ho
      refine .inr ⟨_, gs, true, _, rfl, fun x => x, .cons ?_ (.cons (.bool _) .nil)⟩
      rcases hv' with ⟨rfl, _⟩ | ⟨o, c2, rm, rfl, _⟩
      · exact .nilSl
      · exact .sl (rho_old (by omega))
    · rw [Chg1.get c hb hbr] at ho
      exact .inl ⟨ho, by rw [old b hbr]; exact ho⟩
  · rcases hv' with ⟨rfl, e1, e2⟩ | ⟨o, c2, rm, rfl, e1, e2, e3, e4⟩
    · exact .inl ⟨rfl, e1, e2⟩
    · exact .inr ⟨o, c2, rm, rfl, by rw [old _ e2, ← Chg1.get c (by omega) e2]; exact e1, e2, e3, e4⟩
section
variable {H : AHeap} {lo hi r s : Nat} {l : List UInt8}
theorem e63 (h : RR H lo hi r l s) (hl : l.length ≤ 1000000000) : ∃ v H', ARun Go.Proofs.Try.prog 0 63 [ptr r 0] H v H' ∧ v = .int .u8 (na l s 1 : Nat) ∧ ∃ o, H' = H.set r o ∧ RR (H.set r o) lo hi r l (s + 1) := by
  obtain ⟨_, H', a, rfl, b, c⟩ := q63 h hl
  obtain ⟨o, p, q⟩ := h.gc a b c
  exact ⟨_, _, p, rfl, o, rfl, q⟩
theorem e75 (h : RR H lo hi r l s) (hl : l.length ≤ 1000000000) : ∃ v H', ARun Go.Proofs.Try.prog 0 75 [ptr r 0] H v H' ∧ v = .int .u16 (na l s 2 : Nat) ∧ ∃ o, H' = H.set r o ∧ RR (H.set r o) lo hi r l (s + 2) := by
  obtain ⟨_, H', a, rfl, b, c⟩ := q75 h hl
  obtain ⟨o, p, q⟩ := h.gc a b c
  exact ⟨_, _, p, rfl, o, rfl, q⟩
theorem e65 (h : RR H lo hi r l s) (hl : l.length ≤ 1000000000) : ∃ v H', ARun Go.Proofs.Try.prog 0 65 [ptr r 0] H v H' ∧ v = .int .u32 (na l s 4 : Nat) ∧ ∃ o, H' = H.set r o ∧ RR (H.set r o) lo hi r l (s + 4) := by
  obtain ⟨_, H', a, rfl, b, c⟩ := q65 h hl
  obtain ⟨o, p, q⟩ := h.gc a b c
  exact ⟨_, _, p, rfl, o, rfl, q⟩
theorem e64 (h : RR H lo hi r l s) (hl : l.length ≤ 1000000000) : ∃ v H', ARun Go.Proofs.Try.prog 0 64 [ptr r 0] H v H' ∧ v = .int .u64 (na l s 8 : Nat) ∧ ∃ o, H' = H.set r o ∧ RR (H.set r o) lo hi r l (s + 8) := by
  obtain ⟨_, H', a, rfl, b, c⟩ := q64 h hl
  obtain ⟨o, p, q⟩ := h.gc a b c
  exact ⟨_, _, p, rfl, o, rfl, q⟩
theorem RR.alloc (h : RR H lo hi r l s) (o : AO) : RR (H.alloc o) lo hi r l s := h.keeps ((Keeps.refl H).alloc o)
theorem RR.lt (h : RR H lo hi r l s) : r < H.n := Nat.lt_of_lt_of_le h.2.1 h.2.2.1
theorem RR.set (h : RR H lo hi r l s) {b : Nat} (hb : hi ≤ b) (hn : b < H.n) (o : AO) : RR (H.set b o) lo hi r l s := h.chg (Chg.set H hn o) (.inr hb)
end
end Go.AM.Fd

set_option linter.unusedSimpArgs false
set_option linter.unusedVariables false
namespace Go.AM.Fd
open Nat (reduceAdd reduceEqDiff reduceLT reduceLeDiff reduceMul reduceSub)
open Go.Proofs Go.AM.F
theorem t91 (n w : Nat) (hw : w ≤ 8) (H : AHeap) : ∃ v H', ARun Go.Proofs.Try.prog 0 91 [.int .u64 n, .int .i64 w] H v H' ∧ OB 5 H H' v (be w n) := by
  refine walk2 f91_ok f91_n ?_
  intro Q hq1 hq2
  simp (disch := first | assumption | omega | (simp only [LN] <;> omega) | (simp (disch := first | assumption | omega | (simp only [LN] <;> omega)) only [row_alloc, row_set]; assumption)) only [f91, W_block, P3, ↓reduceIte, reduceAdd, reduceEqDiff, reduceCtorEq, initFr, reduceLT, clsA, reduceLeDiff, reduceMul, reduceSub, reduceIte]
  refine callK (t106 n w hw H) ?_
  rintro v K ⟨a, k, f⟩
  simp (disch := first | assumption | omega | (simp only [LN] <;> omega) | (simp (disch := first | assumption | omega | (simp only [LN] <;> omega)) only [row_alloc, row_set]; assumption)) only [W_block, P3, ↓reduceIte, reduceAdd, reduceEqDiff, reduceCtorEq, initFr, reduceLT, clsA, reduceLeDiff, reduceMul, reduceSub, reduceIte]
  exact hq2 _ _ ⟨_, rfl, ⟨by rw [be_length]; exact a, k, f⟩⟩
theorem t92 {H K : AHeap} {v : Value} {l : List UInt8} (h : OB 5 H K v l) (hl : l.length ≤ 100000000) : ∃ w K', ARun Go.Proofs.Try.prog 0 92 [v] K w K' ∧ OB 5 H K' w (chk l) := by
  refine walk2 f92_ok f92_n ?_
  intro Q hq1 hq2
  simp (disch := first | assumption | omega | (simp only [LN] <;> omega) | (simp (disch := first | assumption | omega | (simp only [LN] <;> omega)) only [row_alloc, row_set]; assumption)) only [f92, W_block, P3, ↓reduceIte, reduceAdd, reduceEqDiff, reduceCtorEq, initFr, reduceLT, clsA, reduceLeDiff, reduceMul, reduceSub, reduceIte]
  refine callK (t107 h.bs (by omega)) ?_
  rintro _ K1 ⟨rfl, k1⟩
  have hc := crc_lt l
  have hw : IntKind.u64.wrap (crc l : Nat) = (crc l : Nat) := by rw [wrap_u64]; omega
  simp (disch := first | assumption | omega | (simp only [LN] <;> omega) | (simp (disch := first | assumption | omega | (simp only [LN] <;> omega)) only [row_alloc, row_set]; assumption)) only [W_block, P3, ↓reduceIte, reduceAdd, reduceEqDiff, reduceCtorEq, initFr, reduceLT, clsA, reduceLeDiff, reduceMul, reduceSub, reduceIte, hw]
  refine callK (t91 (crc l) 4 (by omega) K1) ?_
  rintro v2 K2 o2
  simp (disch := first | assumption | omega | (simp only [LN] <;> omega) | (simp (disch := first | assumption | omega | (simp only [LN] <;> omega)) only [row_alloc, row_set]; assumption)) only [W_block, P3, ↓reduceIte, reduceAdd, reduceEqDiff, reduceCtorEq, initFr, reduceLT, clsA, reduceLeDiff, reduceMul, reduceSub, reduceIte]
  refine (h.keeps (k1.trans o2.k)).appR o2.bs (by rw [be_length]; omega) ?_
  intro v3 K3 o3
  simp (disch := first | assumption | omega | (simp only [LN] <;> omega) | (simp (disch := first | assumption | omega | (simp only [LN] <;> omega)) only [row_alloc, row_set]; assumption)) only [W_block, P3, ↓reduceIte, reduceAdd, reduceEqDiff, reduceCtorEq, initFr, reduceLT, clsA, reduceLeDiff, reduceMul, reduceSub, reduceIte]
  exact hq2 _ _ ⟨_, rfl, o3⟩
theorem t67 {H : AHeap} {v : Value} {b : List UInt8} (hb : BQ H v b) (i w : Nat) (hi : i ≤ 1000000000) (hw : w ≤ 8) (hl : b.length ≤ 1000000000) :
    ∃ u H', ARun Go.Proofs.Try.prog 0 67 [v, .int .i64 (i : Nat), .int .i64 (w : Nat)] H u H' ∧ u = .int .u64 (na b i w : Nat) ∧ H' = H := by
  refine walk2 f67_ok f67_n ?_
  intro Q hq1 hq2
  have hs := hb.bs.sl
  have his := hs.is
  have hlen := hs.len
  rw [List.length_map] at hlen
  have hw1 : IntKind.i64.wrap ((i : Int) + (w : Int)) = ((i + w : Nat) : Int) := by rw [wrap_i64 (by omega) (by omega)]; push_cast; rfl
  by_cases hc : b.length < i + w
  · simp (disch := first | assumption | omega | (simp only [LN] <;> omega) | (simp (disch := first | assumption | omega | (simp only [LN] <;> omega)) only [row_alloc, row_set]; assumption)) only [f67, W_block, P3, ↓reduceIte, reduceAdd, reduceEqDiff, reduceCtorEq, initFr, reduceLT, clsA, reduceLeDiff, reduceMul, reduceSub, reduceIte, hlen, hw1]
    exact hq2 _ _ ⟨_, rfl, by unfold na seg; rw [if_pos hc]; rfl, rfl⟩
  · obtain ⟨u, s1, q1⟩ := hb.mid (k := .i64) (k' := .i64) i (i + w) (by omega) (by omega)
    simp (disch := first | assumption | omega | (simp only [LN] <;> omega) | (simp (disch := first | assumption | omega | (simp only [LN] <;> omega)) only [row_alloc, row_set]; assumption)) only [f67, W_block, P3, ↓reduceIte, reduceAdd, reduceEqDiff, reduceCtorEq, initFr, reduceLT, clsA, reduceLeDiff, reduceMul, reduceSub, reduceIte, hlen, hw1, s1]
    refine ⟨_, _, t102 q1.bs (by rw [List.length_take]; omega), ?_⟩
    simp (disch := first | assumption | omega | (simp only [LN] <;> omega) | (simp (disch := first | assumption | omega | (simp only [LN] <;> omega)) only [row_alloc, row_set]; assumption)) only [W_block, P3, ↓reduceIte, reduceAdd, reduceEqDiff, reduceCtorEq, initFr, reduceLT, clsA, reduceLeDiff, reduceMul, reduceSub, reduceIte]
    exact hq2 _ _ ⟨_, rfl, by unfold na seg; rw [if_neg hc, show i + w - i = w by omega]; rfl, rfl⟩
end Go.AM.Fd

set_option linter.unusedSimpArgs false
set_option linter.unusedVariables false
namespace Go.AM.Fd
open Nat (reduceAdd reduceEqDiff reduceLT reduceLeDiff reduceMul reduceSub)
open Go.Proofs Go.AM.F
theorem fillu3 (a b c : Int) : fillA [.int .u8 0, .int .u8 0, .int .u8 0] [(0, 1, .int .u8 a), (1, 1, .int .u8 b), (2, 1, .int .u8 c)] = some [.int .u8 a, .int .u8 b, .int .u8 c] := rfl
theorem sq_nat {n : Int} (h : sqB n = true) : IntKind.u64.wrap n = ((n.toNat : Nat) : Int) := by
  have := sqB_iff.1 h
  rw [wrap_u64]; omega
theorem u64w {n : Nat} (h : n < 18446744073709551616) : IntKind.u64.wrap (n : Int) = (n : Int) := by rw [wrap_u64]; omega
def strB (l : List UInt8) : Value := .string ⟨l.toArray⟩
theorem a_lenB (l : List UInt8) (H : AHeap) : asem (.len true (strB l)) H = some (.int .i64 (l.length : Nat), H) := by
  have : (⟨l.toArray⟩ : ByteArray).size = l.length := by simp [ByteArray.size]
  show some (Value.int .i64 ((⟨l.toArray⟩ : ByteArray).size : Nat), H) = _
  rw [this]
theorem cLiG (v : Value) (x : Li) : (cLi v x)[0]? = some (.int .u8 (x.f : Nat)) ∧ (cLi v x)[1]? = some (.int .u8 (x.t : Nat)) ∧ (cLi v x)[2]? = some (.int .i64 x.q) ∧ (cLi v x)[3]? = some (.int .i64 x.k) ∧ (cLi v x)[4]? = some v := ⟨rfl, rfl, rfl, rfl, rfl⟩
theorem t52 (x : Li) (hx : rgLi x) (H : AHeap) (hl : x.B.length ≤ 1000000) : ∃ v H', ARun Go.Proofs.Try.prog 0 52 [.agg (cLi (strB x.B) x).toArray] H v H' ∧ OB 5 H H' v (fLi x) := by
  refine walk2 f52_ok f52_n ?_
  intro Q hq1 hq2
  have lx : (cLi (strB x.B) x).length = 5 := rfl
  have ox : (cLi (strB x.B) x).all Value.oneCell' = true := rfl
  have kH := (Keeps.refl H).alloc (.cells true false 5 (cLi (strB x.B) x) 69)
  obtain ⟨H1, hH1⟩ : ∃ X, X = H.alloc (.cells true false 5 (cLi (strB x.B) x) 69) := ⟨_, rfl⟩
  have gx : H1.get H.n = some (.cells true false 5 (cLi (strB x.B) x) 69) := by rw [hH1]; exact AHeap.get_alloc_new _ _
  have px := AHeap.get_lt gx
  by_cases hok : okLi x = true
  rotate_left
  · have e : fLi x = [] := by unfold fLi; rw [if_neg hok]
    have hno : x.q < 0 ∨ 4611686018427387904 < x.q ∨ x.k < 0 ∨ 4611686018427387904 < x.k ∨ (2048 : Int) < (x.B.length : Int) := by
      by_cases h0 : x.q < 0 ∨ 4611686018427387904 < x.q ∨ x.k < 0 ∨ 4611686018427387904 < x.k ∨ (2048 : Int) < (x.B.length : Int)
      · exact h0
      · exact absurd (okLi_iff.2 (by omega)) hok
    by_cases c1 : x.q < 0
    · simp (disch := first | assumption | omega | (simp only [LN] <;> omega) | (simp (disch := first | assumption | omega | (simp only [LN] <;> omega)) only [row_alloc, row_set]; assumption)) only [f52, W_block, P3, ↓reduceIte, reduceAdd, reduceEqDiff, reduceCtorEq, initFr, reduceLT, clsA, reduceLeDiff, reduceMul, reduceSub, reduceIte, ox, (cLiG (strB x.B) x).1, (cLiG (strB x.B) x).2.1, (cLiG (strB x.B) x).2.2.1, (cLiG (strB x.B) x).2.2.2.1, (cLiG (strB x.B) x).2.2.2.2]
      exact hq2 _ _ ⟨_, rfl, by rw [e]; exact (OB.nil _ _).base kH⟩
    by_cases c2 : 4611686018427387904 < x.q
    · simp (disch := first | assumption | omega | (simp only [LN] <;> omega) | (simp (disch := first | assumption | omega | (simp only [LN] <;> omega)) only [row_alloc, row_set]; assumption)) only [f52, W_block, P3, ↓reduceIte, reduceAdd, reduceEqDiff, reduceCtorEq, initFr, reduceLT, clsA, reduceLeDiff, reduceMul, reduceSub, reduceIte, ox, (cLiG (strB x.B) x).1, (cLiG (strB x.B) x).2.1, (cLiG (strB x.B) x).2.2.1, (cLiG (strB x.B) x).2.2.2.1, (cLiG (strB x.B) x).2.2.2.2]
      exact hq2 _ _ ⟨_, rfl, by rw [e]; exact (OB.nil _ _).base kH⟩
    by_cases c3 : x.k < 0
    · simp (disch := first | assumption | omega | (simp only [LN] <;> omega) | (simp (disch := first | assumption | omega | (simp only [LN] <;> omega)) only [row_alloc, row_set]; assumption)) only [f52, W_block, P3, ↓reduceIte, reduceAdd, reduceEqDiff, reduceCtorEq, initFr, reduceLT, clsA, reduceLeDiff, reduceMul, reduceSub, reduceIte, ox, (cLiG (strB x.B) x).1, (cLiG (strB x.B) x).2.1, (cLiG (strB x.B) x).2.2.1, (cLiG (strB x.B) x).2.2.2.1, (cLiG (strB x.B) x).2.2.2.2]
      exact hq2 _ _ ⟨_, rfl, by rw [e]; exact (OB.nil _ _).base kH⟩
    by_cases c4 : 4611686018427387904 < x.k
    · simp (disch := first | assumption | omega | (simp only [LN] <;> omega) | (simp (disch := first | assumption | omega | (simp only [LN] <;> omega)) only [row_alloc, row_set]; assumption)) only [f52, W_block, P3, ↓reduceIte, reduceAdd, reduceEqDiff, reduceCtorEq, initFr, reduceLT, clsA, reduceLeDiff, reduceMul, reduceSub, reduceIte, ox, (cLiG (strB x.B) x).1, (cLiG (strB x.B) x).2.1, (cLiG (strB x.B) x).2.2.1, (cLiG (strB x.B) x).2.2.2.1, (cLiG (strB x.B) x).2.2.2.2]
      exact hq2 _ _ ⟨_, rfl, by rw [e]; exact (OB.nil _ _).base kH⟩
    have c5 : (2048 : Int) < (x.B.length : Int) := by omega
    simp (disch := first | assumption | omega | (simp only [LN] <;> omega) | (simp (disch := first | assumption | omega | (simp only [LN] <;> omega)) only [row_alloc, row_set]; assumption)) only [f52, W_block, P3, ↓reduceIte, reduceAdd, reduceEqDiff, reduceCtorEq, initFr, reduceLT, clsA, reduceLeDiff, reduceMul, reduceSub, reduceIte, ox, (cLiG (strB x.B) x).1, (cLiG (strB x.B) x).2.1, (cLiG (strB x.B) x).2.2.1, (cLiG (strB x.B) x).2.2.2.1, (cLiG (strB x.B) x).2.2.2.2, a_lenB]
    exact hq2 _ _ ⟨_, rfl, by rw [e]; exact (OB.nil _ _).base kH⟩
  obtain ⟨⟨c1, c2⟩, ⟨c3, c4⟩, c5⟩ := okLi_iff.1 hok
  have h1 : sqB x.q = true := sqB_iff.2 ⟨c1, c2⟩
  have h2 : sqB x.k = true := sqB_iff.2 ⟨c3, c4⟩
  have c5' : ¬ (2048 : Int) < (x.B.length : Int) := by omega
  have n1 : ¬ x.q < 0 := by omega
  have n2 : ¬ 4611686018427387904 < x.q := by omega
  have n3 : ¬ x.k < 0 := by omega
  have n4 : ¬ 4611686018427387904 < x.k := by omega
  simp (disch := first | assumption | omega | (simp only [LN] <;> omega) | (simp (disch := first | assumption | omega | (simp only [LN] <;> omega)) only [row_alloc, row_set]; assumption)) only [f52, W_block, P3, ↓reduceIte, reduceAdd, reduceEqDiff, reduceCtorEq, initFr, reduceLT, clsA, reduceLeDiff, reduceMul, reduceSub, reduceIte, ox, (cLiG (strB x.B) x).1, (cLiG (strB x.B) x).2.1, (cLiG (strB x.B) x).2.2.1, (cLiG (strB x.B) x).2.2.2.1, (cLiG (strB x.B) x).2.2.2.2, a_lenB]
  rw [← hH1] at kH ⊢
  simp (disch := first | assumption | omega | (simp only [LN] <;> omega) | (simp (disch := first | assumption | omega | (simp only [LN] <;> omega)) only [row_alloc, row_set]; assumption)) only [W_block, P3, ↓reduceIte, reduceAdd, reduceEqDiff, reduceCtorEq, initFr, reduceLT, clsA, reduceLeDiff, reduceMul, reduceSub, reduceIte, gx, (cLiG (strB x.B) x).1, (cLiG (strB x.B) x).2.1, (cLiG (strB x.B) x).2.2.1, (cLiG (strB x.B) x).2.2.2.1, (cLiG (strB x.B) x).2.2.2.2, fillu3]
  have hn1 : H1.n = H.n + 1 := by rw [hH1]; rfl
  obtain ⟨K1, hK1⟩ : ∃ X, X = H1.alloc (.cells true false 1 [.int .u8 5, .int .u8 (x.f : Nat), .int .u8 (x.t : Nat)] 5) := ⟨_, rfl⟩
  have o1 : OB 5 H1 K1 (slc (H.n + 1) 0 3 3) [UInt8.ofNat 5, UInt8.ofNat x.f, UInt8.ofNat x.t] := by rw [hK1, ← hn1]; exact OB.lit (Keeps.refl H1) (cells3 (show 5 < 256 by omega) hx.1 hx.2) rfl rfl false
  rw [← hK1]
  have k1 := o1.k
  simp (disch := first | assumption | omega | (simp only [LN] <;> omega) | (simp (disch := first | assumption | omega | (simp only [LN] <;> omega)) only [row_alloc, row_set, Keeps.row k1]; assumption)) only [Keeps.get k1, Keeps.row k1, W_block, P3, ↓reduceIte, reduceAdd, reduceEqDiff, reduceCtorEq, initFr, reduceLT, clsA, reduceLeDiff, reduceMul, reduceSub, reduceIte, gx, (cLiG (strB x.B) x).1, (cLiG (strB x.B) x).2.1, (cLiG (strB x.B) x).2.2.1, (cLiG (strB x.B) x).2.2.2.1, (cLiG (strB x.B) x).2.2.2.2, sq_nat h1]
  refine callK (t91 (x.q.toNat) 8 (by omega) _) ?_
  rintro w1 L1 p1
  simp (disch := first | assumption | omega | (simp only [LN] <;> omega) | (simp (disch := first | assumption | omega | (simp only [LN] <;> omega)) only [row_alloc, row_set, Keeps.row k1]; assumption)) only [Keeps.get k1, Keeps.row k1, W_block, P3, ↓reduceIte, reduceAdd, reduceEqDiff, reduceCtorEq, initFr, reduceLT, clsA, reduceLeDiff, reduceMul, reduceSub, reduceIte, gx, (cLiG (strB x.B) x).1, (cLiG (strB x.B) x).2.1, (cLiG (strB x.B) x).2.2.1, (cLiG (strB x.B) x).2.2.2.1, (cLiG (strB x.B) x).2.2.2.2]
  refine (o1.keeps p1.k).appR p1.bs (by simp only [List.length_append, be_length, List.length_cons, List.length_nil]; omega) ?_
  intro v2 K2 o2
  have k2 := o2.k
  simp (disch := first | assumption | omega | (simp only [LN] <;> omega) | (simp (disch := first | assumption | omega | (simp only [LN] <;> omega)) only [row_alloc, row_set, Keeps.row k2]; assumption)) only [Keeps.get k2, Keeps.row k2, W_block, P3, ↓reduceIte, reduceAdd, reduceEqDiff, reduceCtorEq, initFr, reduceLT, clsA, reduceLeDiff, reduceMul, reduceSub, reduceIte, gx, (cLiG (strB x.B) x).1, (cLiG (strB x.B) x).2.1, (cLiG (strB x.B) x).2.2.1, (cLiG (strB x.B) x).2.2.2.1, (cLiG (strB x.B) x).2.2.2.2, sq_nat h2]
  refine callK (t91 (x.k.toNat) 8 (by omega) _) ?_
  rintro w2 L2 p2
  simp (disch := first | assumption | omega | (simp only [LN] <;> omega) | (simp (disch := first | assumption | omega | (simp only [LN] <;> omega)) only [row_alloc, row_set, Keeps.row k2]; assumption)) only [Keeps.get k2, Keeps.row k2, W_block, P3, ↓reduceIte, reduceAdd, reduceEqDiff, reduceCtorEq, initFr, reduceLT, clsA, reduceLeDiff, reduceMul, reduceSub, reduceIte, gx, (cLiG (strB x.B) x).1, (cLiG (strB x.B) x).2.1, (cLiG (strB x.B) x).2.2.1, (cLiG (strB x.B) x).2.2.2.1, (cLiG (strB x.B) x).2.2.2.2]
  refine (o2.keeps p2.k).appR p2.bs (by simp only [List.length_append, be_length, List.length_cons, List.length_nil]; omega) ?_
  intro v3 K3 o3
  have k3 := o3.k
  simp (disch := first | assumption | omega | (simp only [LN] <;> omega) | (simp (disch := first | assumption | omega | (simp only [LN] <;> omega)) only [row_alloc, row_set, Keeps.row k3]; assumption)) only [Keeps.get k3, Keeps.row k3, W_block, P3, ↓reduceIte, reduceAdd, reduceEqDiff, reduceCtorEq, initFr, reduceLT, clsA, reduceLeDiff, reduceMul, reduceSub, reduceIte, gx, (cLiG (strB x.B) x).1, (cLiG (strB x.B) x).2.1, (cLiG (strB x.B) x).2.2.1, (cLiG (strB x.B) x).2.2.2.1, (cLiG (strB x.B) x).2.2.2.2, a_lenB, u64w (show x.B.length < 18446744073709551616 by omega)]
  refine callK (t91 (x.B.length) 2 (by omega) _) ?_
  rintro w3 L3 p3
  simp (disch := first | assumption | omega | (simp only [LN] <;> omega) | (simp (disch := first | assumption | omega | (simp only [LN] <;> omega)) only [row_alloc, row_set, Keeps.row k3]; assumption)) only [Keeps.get k3, Keeps.row k3, W_block, P3, ↓reduceIte, reduceAdd, reduceEqDiff, reduceCtorEq, initFr, reduceLT, clsA, reduceLeDiff, reduceMul, reduceSub, reduceIte, gx, (cLiG (strB x.B) x).1, (cLiG (strB x.B) x).2.1, (cLiG (strB x.B) x).2.2.1, (cLiG (strB x.B) x).2.2.2.1, (cLiG (strB x.B) x).2.2.2.2]
  refine (o3.keeps p3.k).appR p3.bs (by simp only [List.length_append, be_length, List.length_cons, List.length_nil]; omega) ?_
  intro v4 K4 o4
  have k4 := o4.k
  simp (disch := first | assumption | omega | (simp only [LN] <;> omega) | (simp (disch := first | assumption | omega | (simp only [LN] <;> omega)) only [row_alloc, row_set, Keeps.row k4]; assumption)) only [Keeps.get k4, Keeps.row k4, W_block, P3, ↓reduceIte, reduceAdd, reduceEqDiff, reduceCtorEq, initFr, reduceLT, clsA, reduceLeDiff, reduceMul, reduceSub, reduceIte, gx, (cLiG (strB x.B) x).1, (cLiG (strB x.B) x).2.1, (cLiG (strB x.B) x).2.2.1, (cLiG (strB x.B) x).2.2.2.1, (cLiG (strB x.B) x).2.2.2.2]
  refine o4.appsR (m := x.B) (by simp only [List.length_append, be_length, List.length_cons, List.length_nil]; omega) ?_
  intro v5 K5 o5
  simp (disch := first | assumption | omega | (simp only [LN] <;> omega) | (simp (disch := first | assumption | omega | (simp only [LN] <;> omega)) only [row_alloc, row_set]; assumption)) only [W_block, P3, ↓reduceIte, reduceAdd, reduceEqDiff, reduceCtorEq, initFr, reduceLT, clsA, reduceLeDiff, reduceMul, reduceSub, reduceIte]
  refine callK (t92 o5 (by simp only [List.length_append, be_length, List.length_cons, List.length_nil]; omega)) ?_
  rintro v6 K6 o6
  simp (disch := first | assumption | omega | (simp only [LN] <;> omega) | (simp (disch := first | assumption | omega | (simp only [LN] <;> omega)) only [row_alloc, row_set]; assumption)) only [W_block, P3, ↓reduceIte, reduceAdd, reduceEqDiff, reduceCtorEq, initFr, reduceLT, clsA, reduceLeDiff, reduceMul, reduceSub, reduceIte]
  refine hq2 _ _ ⟨_, rfl, ?_⟩
  have e : fLi x = chk ([UInt8.ofNat 5, UInt8.ofNat x.f, UInt8.ofNat x.t] ++ be 8 x.q.toNat ++ be 8 x.k.toNat ++ be 2 x.B.length ++ x.B) := by
    unfold fLi
    rw [if_pos hok]
    unfold enLi
    simp only [be1, List.append_assoc, List.cons_append, List.nil_append]
    rfl
  rw [e]
  exact o6.base kH
end Go.AM.Fd

set_option linter.unusedSimpArgs false
set_option linter.unusedVariables false
namespace Go.AM.Fd
open Nat (reduceAdd reduceEqDiff reduceLT reduceLeDiff reduceMul reduceSub)
open Go.Proofs Go.AM.F
theorem na_one {b : List UInt8} {i : Nat} (h : i < b.length) : na b i 1 = b[i].toNat := by
  unfold na seg
  rw [if_neg (by omega), List.drop_eq_getElem_cons h]
  simp only [List.take_succ_cons, List.take_zero]
  have := b[i].toNat_lt
  simp only [num, List.foldl_cons, List.foldl_nil]
  omega
theorem chk_ne (l : List UInt8) : chk l ≠ [] := by
  intro h
  have := congrArg List.length h
  rw [chk_len] at this; simp at this
theorem geLi_some {b : List UInt8} {y : Li} (h : geLi b = some y) : fLi y = b ∧ rgLi y ∧ y = deLi (bd b) ∧ b.length = 25 + y.B.length := by
  unfold geLi at h
  split at h
  · rename_i hf
    have hd : y = deLi (bd b) := by unfold pdLi at h; split at h; exact (Option.some.inj h).symm; cases h
    obtain ⟨h1, h2, h3⟩ := pdLi_e h
    have h5 := frm_len hf
    have hl := enLi_len y
    rw [h1, bd_len] at hl
    refine ⟨?_, h3, hd, by omega⟩
    unfold fLi
    rw [if_pos h2, h1]
    exact (frm_eq hf).symm
  · cases h
theorem geLi_of {x : Li} (hr : rgLi x) {b : List UInt8} (hb : b ≠ []) (h : fLi x = b) : geLi b = some x := by
  unfold fLi at h
  split at h
  · rename_i hok
    subst h
    unfold geLi
    have e : frm 5 (chk (5 :: enLi x)) = true := frm_chk (k := 5) _
    rw [if_pos e, bd_chk, pdLi_d hok hr]
  · exact absurd h.symm hb
def GotB (c : List Value) (ok : Bool) : Value := .tuple #[.agg c.toArray, .bool ok]
theorem GotB.nv {ρ : Nat → Option Nat} {c : List Value} (h : c.all plain1 = true) (ok : Bool) : NV ρ (GotB c ok) (GotB c ok) :=
  NV.tuple_of (.cons (NV.agg_of (NL.plain h)) (.cons (.bool ok) .nil))
theorem touch_b2s (v : Value) (X : AHeap) : touchA (.b2s v) X = tb v := by
  unfold touchA
  have : clsA (.b2s v) = 1 := rfl
  rw [if_pos this]
  cases v <;> try rfl
  rename_i a n k
  cases a with
  | none => rfl
  | some a =>
    obtain ⟨b, o, z⟩ := a
    cases z <;> rfl
theorem tbk {H K : AHeap} {v : Value} {b : List UInt8} (h : BS H v b) (k : Keeps H K) : olderB (tb v) H ∧ keepsB (tb v) H K := ⟨tb_older h.tbl, tb_keeps (fun y hy => ⟨h.tbl y hy, by simp⟩) (k.chg [])⟩
end Go.AM.Fd

set_option linter.unusedSimpArgs false
set_option linter.unusedVariables false
namespace Go.AM.Fd
open Nat (reduceAdd reduceEqDiff reduceLT reduceLeDiff reduceMul reduceSub)
open Go.Proofs Go.AM.F
def cLs (x : Li) : List Value := cLi (strB x.B) x
def tLi (o : Option Li) : Value := match o with
  | some x => GotB (cLs x) true
  | none => GotB (cLs Li0) false
theorem cLsL (x : Li) : (cLs x).length = 5 := rfl
theorem cLsO (x : Li) : (cLs x).all Value.oneCell' = true := rfl
theorem cLs_plain (x : Li) : (cLs x).all plain1 = true := rfl
theorem fillLs (f t : Nat) (q k : Int) (B : List UInt8) : fillA [.int .u8 0, .int .u8 0, .int .i64 0, .int .i64 0, .string ByteArray.empty] [(0, 1, .int .u8 (f : Nat)), (1, 1, .int .u8 (t : Nat)), (2, 1, .int .i64 q), (3, 1, .int .i64 k), (4, 1, .string ⟨B.toArray⟩)] = some (cLs ⟨f, t, q, k, B⟩) := rfl
theorem t25 {H : AHeap} {v : Value} {b : List UInt8} (hb : BQ H v b) (hl : b.length ≤ 1000000) : ∃ w H', ARun Go.Proofs.Try.prog 0 25 [v] H w H' ∧ w = tLi (geLi b) ∧ H' = H := by
  suffices h : ∃ w H', ARun Go.Proofs.Try.prog 0 25 [v] H w H' ∧ w = tLi (geLi b) ∧ Keeps H H' by
    obtain ⟨_, _, a, rfl, k⟩ := h
    refine ⟨_, _, a.gc0 k (.inr ?_), rfl, rfl⟩
    cases geLi b <;> exact GotB.nv (cLs_plain _) _
  refine walk2 f25_ok f25_n ?_
  intro Q hq1 hq2
  have hr : ∀ fr H', resO f25.res fr H' = (celln 5 (fr.getD 1 undef) H').map fun c => .tuple #[c, fr.getD 2 undef] := fun fr H' => resCT 5 1 2 fr
  have lz : ([.int .u8 0, .int .u8 0, .int .i64 0, .int .i64 0, .string ByteArray.empty] : List Value).length = 5 := rfl
  have ozz : ([.int .u8 0, .int .u8 0, .int .i64 0, .int .i64 0, .string ByteArray.empty] : List Value).all Value.oneCell' = true := rfl
  have k0 := (Keeps.refl H).alloc (.cells true false 5 ([.int .u8 0, .int .u8 0, .int .i64 0, .int .i64 0, .string ByteArray.empty]) 69)
  have hs := hb.bs.sl
  have his := hs.is
  have hlen := hs.len
  rw [List.length_map] at hlen
  by_cases h0 : b.length < 25
  · simp (disch := first | assumption | omega | (simp only [LN] <;> omega) | (simp (disch := first | assumption | omega | (simp only [LN] <;> omega)) only [row_alloc, row_set]; assumption)) only [f25, W_block, P3, ↓reduceIte, reduceAdd, reduceEqDiff, reduceCtorEq, initFr, reduceLT, clsA, reduceLeDiff, reduceMul, reduceSub, reduceIte, hlen, ozz]
    refine hq2 _ _ ⟨_, by rw [hr]; simp (disch := first | assumption | omega | (simp only [LN] <;> omega) | (simp (disch := first | assumption | omega | (simp only [LN] <;> omega)) only [row_alloc, row_set]; assumption)) only [W_block, P3, ↓reduceIte, reduceAdd, reduceEqDiff, reduceCtorEq, initFr, reduceLT, clsA, reduceLeDiff, reduceMul, reduceSub, reduceIte, ozz, lz]; rfl, ?_, k0⟩
    cases hg : geLi b with
    | none => rfl
    | some y => have := (geLi_some hg).2.2.2; omega
  obtain ⟨hnn, hrow⟩ := hs.at_ (by omega) (i := 1) (by rw [List.length_map]; omega)
  obtain ⟨_, hrow2⟩ := hs.at_ (by omega) (i := 2) (by rw [List.length_map]; omega)
  rw [List.getElem_map] at hrow hrow2
  have hbn := hs.bn_le (by intro e; simp at e; subst e; simp at h0) (by omega)
  rw [← na_one (by omega)] at hrow hrow2
  have hw : IntKind.i64.wrap ((b.length : Int) - 4) = ((b.length - 4 : Nat) : Int) := by rw [wrap_i64 (by omega) (by omega)]; omega
  obtain ⟨x, hx⟩ : ∃ x, x = (⟨na b 1 1, na b 2 1, sg (na b 3 8), sg (na b 11 8), (b.drop 21).take (b.length - 4 - 21)⟩ : Li) := ⟨_, rfl⟩
  have hrg : rgLi x := by rw [hx]; exact ⟨na1 _ _, na1 _ _⟩
  have hxl : x.B.length ≤ 1000000 := by rw [hx]; simp only [List.length_take, List.length_drop]; omega
  have lx : (cLs x).length = 5 := rfl
  have ox := cLsO x
  simp (disch := first | assumption | omega | (simp only [LN] <;> omega) | (simp (disch := first | assumption | omega | (simp only [LN] <;> omega)) only [row_alloc, row_set]; assumption)) only [f25, W_block, P3, ↓reduceIte, reduceAdd, reduceEqDiff, reduceCtorEq, initFr, reduceLT, clsA, reduceLeDiff, reduceMul, reduceSub, reduceIte, hlen, ozz, Int.reduceToNat]
  refine callK (t67 (hb.keeps k0) 3 8 (by omega) (by omega) (by omega)) ?_
  rintro _ _ ⟨rfl, rfl⟩
  simp (disch := first | assumption | omega | (simp only [LN] <;> omega) | (simp (disch := first | assumption | omega | (simp only [LN] <;> omega)) only [row_alloc, row_set]; assumption)) only [W_block, P3, ↓reduceIte, reduceAdd, reduceEqDiff, reduceCtorEq, initFr, reduceLT, clsA, reduceLeDiff, reduceMul, reduceSub, reduceIte, hlen, ozz, Int.reduceToNat, ite_self]
  refine callK (t67 (hb.keeps k0) 11 8 (by omega) (by omega) (by omega)) ?_
  rintro _ _ ⟨rfl, rfl⟩
  obtain ⟨u, s1, q1⟩ := (hb.keeps k0).mid (k := .i64) (k' := .i64) 21 (b.length - 4) (by omega) (by omega)
  have s1' : asem (.slsl 1 v (some (.int .i64 21)) (some (.int .i64 (b.length - 4 : Nat))) none) (H.alloc (.cells true false 5 [.int .u8 0, .int .u8 0, .int .i64 0, .int .i64 0, .string ByteArray.empty] 69)) = some (u, H.alloc (.cells true false 5 [.int .u8 0, .int .u8 0, .int .i64 0, .int .i64 0, .string ByteArray.empty] 69)) := s1
  have tv := tbk (hb.bs.keeps k0) (Keeps.refl _)
  have tu := tbk q1.bs (Keeps.refl _)
  simp (disch := first | assumption | omega | (simp only [LN] <;> omega) | (simp (disch := first | assumption | omega | (simp only [LN] <;> omega)) only [row_alloc, row_set]; assumption)) only [W_block, P3, ↓reduceIte, reduceAdd, reduceEqDiff, reduceCtorEq, initFr, reduceLT, clsA, reduceLeDiff, reduceMul, reduceSub, reduceIte, hlen, ozz, Int.reduceToNat, ite_self, hw, s1', a_b2sB q1.bs, touch_b2s, touch_sl, fillLs, cLsL, cLsO, tv.1, tv.2, tu.1, tu.2]
  rw [show (⟨na b 1 1, na b 2 1, IntKind.i64.wrap (na b 3 8), IntKind.i64.wrap (na b 11 8), (b.drop 21).take (b.length - 4 - 21)⟩ : Li) = x from hx.symm]
  simp (disch := first | assumption | omega | (simp only [LN] <;> omega) | (simp (disch := first | assumption | omega | (simp only [LN] <;> omega)) only [row_alloc, row_set]; assumption)) only [W_block, P3, ↓reduceIte, reduceAdd, reduceEqDiff, reduceCtorEq, initFr, reduceLT, clsA, reduceLeDiff, reduceMul, reduceSub, reduceIte]
  refine callK (t52 x hrg _ hxl) ?_
  rintro v2 K2 o2
  have k2 := o2.k
  have kC := k0.trans ((Keeps.refl _).alloc (.cells true false 5 (cLs x) 69))
  have tk := tbk (hb.bs.keeps kC) k2
  have n2 := k2.n
  simp only [alloc_n] at n2
  have kb := kC.trans k2
  have hb2 := hb.bs.keeps kb
  by_cases heq : fLi x = b
  · have e1 : decide (fLi x = b) = true := by simp [heq]
    have hg := geLi_of hrg (by intro e; rw [e] at h0; simp at h0) heq
    simp (disch := first | assumption | omega | (simp only [LN] <;> omega) | (simp (disch := first | assumption | omega | (simp only [LN] <;> omega)) only [row_alloc, row_set, Keeps.row k2]; assumption)) only [Keeps.get k2, Keeps.row k2, W_block, P3, ↓reduceIte, reduceAdd, reduceEqDiff, reduceCtorEq, initFr, reduceLT, clsA, reduceLeDiff, reduceMul, reduceSub, reduceIte, a_b2sB o2.bs, a_b2sB hb2, touch_b2s, ite_self, bytes_eq, e1, ox, lx, ozz, lz]
    refine ⟨tk, ?_⟩
    refine hq2 _ _ ⟨_, by rw [hr]; simp (disch := first | assumption | omega | (simp only [LN] <;> omega) | (simp (disch := first | assumption | omega | (simp only [LN] <;> omega)) only [row_alloc, row_set, Keeps.row k2]; assumption)) only [Keeps.get k2, Keeps.row k2, W_block, P3, ↓reduceIte, reduceAdd, reduceEqDiff, reduceCtorEq, initFr, reduceLT, clsA, reduceLeDiff, reduceMul, reduceSub, reduceIte, lx]; rfl, by rw [hg]; rfl, ?_⟩
    exact kb.set (Nat.le_refl _) (by omega) _
  · have e1 : decide (fLi x = b) = false := by simp [heq]
    have hg : geLi b = none := by
      cases hg : geLi b with
      | none => rfl
      | some y =>
        obtain ⟨h1, h2, h3, h4⟩ := geLi_some hg
        have hxy : x = y := by
          have ef : y.f = na b 1 1 := by rw [h3]; exact (na_bd (s := 0) (by omega)).symm
          have et : y.t = na b 2 1 := by rw [h3]; exact (na_bd (s := 1) (by omega)).symm
          have eq : y.q = sg (na b 3 8) := by rw [h3]; show sg (na (bd b) 2 8) = _; rw [← na_bd (s := 2) (by omega)]
          have ek : y.k = sg (na b 11 8) := by rw [h3]; show sg (na (bd b) 10 8) = _; rw [← na_bd (s := 10) (by omega)]
          have eB : y.B = (b.drop 21).take (b.length - 4 - 21) := by
            have e1 : y.B = seg (bd b) 20 (na (bd b) 18 2) := by rw [h3]; rfl
            rw [e1] at h4 ⊢
            generalize na (bd b) 18 2 = n at h4 ⊢
            unfold seg at h4 ⊢
            split
            · rename_i hc
              rw [if_pos hc, List.length_nil] at h4
              rw [show b.length - 4 - 21 = 0 by omega, List.take_zero]
            · rename_i hc
              rw [if_neg hc, List.length_take, List.length_drop, bd_len] at h4
              rw [bd_len] at hc
              unfold bd
              rw [List.drop_take, List.take_take, List.drop_drop]
              congr 1
              omega
          rw [hx, ← ef, ← et, ← eq, ← ek, ← eB]
        subst hxy
        exact absurd h1 heq
    simp (disch := first | assumption | omega | (simp only [LN] <;> omega) | (simp (disch := first | assumption | omega | (simp only [LN] <;> omega)) only [row_alloc, row_set, Keeps.row k2]; assumption)) only [Keeps.get k2, Keeps.row k2, W_block, P3, ↓reduceIte, reduceAdd, reduceEqDiff, reduceCtorEq, initFr, reduceLT, clsA, reduceLeDiff, reduceMul, reduceSub, reduceIte, a_b2sB o2.bs, a_b2sB hb2, touch_b2s, ite_self, bytes_eq, e1, ox, lx, ozz, lz]
    refine ⟨tk, ?_⟩
    refine hq2 _ _ ⟨_, by rw [hr]; simp (disch := first | assumption | omega | (simp only [LN] <;> omega) | (simp (disch := first | assumption | omega | (simp only [LN] <;> omega)) only [row_alloc, row_set, Keeps.row k2]; assumption)) only [Keeps.get k2, Keeps.row k2, W_block, P3, ↓reduceIte, reduceAdd, reduceEqDiff, reduceCtorEq, initFr, reduceLT, clsA, reduceLeDiff, reduceMul, reduceSub, reduceIte, ozz, lz]; rfl, by rw [hg]; rfl, ?_⟩
    exact kb.set (Nat.le_refl _) (by omega) _
end Go.AM.Fd

set_option maxRecDepth 100000
namespace Go.AM.F
def O68 : List Nat := [1, 1, 1, 1, 1, 1, 1, 1, 1, 1, 1, 1, 1, 1, 1, 1, 1, 1, 1, 1, 1, 1, 1, 1, 1, 1, 1, 1, 1, 1, 1, 1, 1, 1, 1, 1, 1, 1, 1, 1, 1, 1, 1, 1, 1, 1, 1, 1, 1, 1, 1, 1, 1, 1, 1, 1, 1, 1, 1, 1, 1, 1, 1, 1, 1, 1, 1, 1]
def O70 : List Nat := [1, 1, 1, 1, 1, 1, 1, 1, 1, 1, 1, 1, 1, 1, 1, 1, 1, 1, 1, 1, 1, 1, 1, 1, 1, 1, 1, 1, 1, 1, 1, 1, 1, 1, 1, 1, 1, 1, 1, 1, 1, 1, 1, 1, 1, 1, 1, 1, 1, 1, 1, 1, 1, 1, 1, 1, 1, 1, 1, 1, 1, 1, 1, 1, 1, 1, 1, 1, 1, 1]
def f3 : AFunc := ⟨[0, 2, 3, 4, 5, 6, 7, 8, 9, 10, 11, 12, 13, 14, 15, 16, 17, 18, 19, 20, 21, 22, 23, 24, 25, 26, 27, 28, 29, 32, 140],
 .seq (.reg [
 ⟨.mov (.c (.bool false)), .fr 1, none⟩]) <|
 .seq (.seq (.reg [
 ⟨.mov (.fr 0), .tm, none⟩,
 ⟨.len false (.tm 0), .tm, none⟩,
 ⟨.bin .gtr (.tm 0) (.c (.int .i64 3000)), .fr 29, none⟩]) <|
 .cond (.fr 29)
 (.seq (.reg [
 ⟨.callf 11 [], .tm, none⟩,
 ⟨.mov (.tm 0), .fr 1, none⟩]) <|
 .ret)
 (.skip)) <|
 .seq (.reg [
 ⟨.mov (.fr 0), .tm, none⟩,
 ⟨.b2s (.tm 0), .tm, none⟩,
 ⟨.s2b 5 (.tm 0), .tm, none⟩,
 ⟨.mov (.tm 0), .fr 2, none⟩]) <|
 .seq (.reg [
 ⟨.mov (.fr 2), .tm, none⟩,
 ⟨.callf 12 [(.tm 0)], .tm, none⟩,
 ⟨.mov (.tm 0), .tm, none⟩,
 ⟨.extract (.tm 0) 0, .tm, none⟩,
 ⟨.extract (.tm 1) 1, .tm, none⟩,
 ⟨.new 30 6 [(.int .u8 0), (.int .i64 0), (.int .u64 0), (.int .u32 0), (.int .u32 0), (.slice none 0 0)], .fr 3, none⟩,
 ⟨.storen 6 (.fr 3) (.tm 1), .no, none⟩,
 ⟨.mov (.tm 0), .fr 4, none⟩]) <|
 .seq (.reg [
 ⟨.mov (.fr 0), .tm, none⟩,
 ⟨.callf 13 [(.tm 0)], .tm, none⟩,
 ⟨.mov (.tm 0), .tm, none⟩,
 ⟨.extract (.tm 0) 0, .tm, none⟩,
 ⟨.extract (.tm 1) 1, .tm, none⟩,
 ⟨.new 34 6 [(.int .u8 0), (.int .i64 0), (.int .u64 0), (.int .u32 0), (.int .u32 0), (.slice none 0 0)], .fr 5, none⟩,
 ⟨.storen 6 (.fr 5) (.tm 1), .no, none⟩,
 ⟨.mov (.tm 0), .fr 6, none⟩]) <|
 .seq (.dreg [
 (⟨.loadn 6 (.fr 3), .tm, none⟩, []),
 (⟨.callf 15 [(.tm 0)], .tm, none⟩, []),
 (⟨.loadn 6 (.fr 5), .tm, none⟩, [1]),
 (⟨.callf 14 [(.tm 1), (.tm 0)], .tm, none⟩, []),
 (⟨.mov (.tm 0), .tm, none⟩, []),
 (⟨.mov (.fr 4), .tm, some ((.tm 0), true)⟩, []),
 (⟨.bin .eql (.tm 0) (.c (.int .i64 0)), .tm, some ((.tm 1), true)⟩, []),
 (⟨.mov (.fr 6), .tm, some ((.tm 2), true)⟩, []),
 (⟨.eqv 0 false (.tm 1) (.tm 0), .tm, some ((.tm 3), true)⟩, []),
 (⟨.pick (.tm 4) (.tm 0) (.c (.bool false)), .tm, none⟩, []),
 (⟨.mov (.tm 0), .fr 7, none⟩, [])]) <|
 .seq (.reg [
 ⟨.mov (.fr 2), .tm, none⟩,
 ⟨.callf 16 [(.tm 0)], .tm, none⟩,
 ⟨.mov (.tm 0), .tm, none⟩,
 ⟨.extract (.tm 0) 0, .tm, none⟩,
 ⟨.extract (.tm 1) 1, .tm, none⟩,
 ⟨.new 42 5 [(.int .u8 0), (.int .i64 0), (.int .i64 0), (.int .u64 0), (.int .u32 0)], .fr 8, none⟩,
 ⟨.storen 5 (.fr 8) (.tm 1), .no, none⟩,
 ⟨.mov (.tm 0), .fr 9, none⟩]) <|
 .seq (.reg [
 ⟨.mov (.fr 0), .tm, none⟩,
 ⟨.callf 17 [(.tm 0)], .tm, none⟩,
 ⟨.mov (.tm 0), .tm, none⟩,
 ⟨.extract (.tm 0) 0, .tm, none⟩,
 ⟨.extract (.tm 1) 1, .tm, none⟩,
 ⟨.new 45 5 [(.int .u8 0), (.int .i64 0), (.int .i64 0), (.int .u64 0), (.int .u32 0)], .fr 10, none⟩,
 ⟨.storen 5 (.fr 10) (.tm 1), .no, none⟩,
 ⟨.mov (.tm 0), .fr 11, none⟩]) <|
 .seq (.dreg [
 (⟨.loadn 5 (.fr 8), .tm, none⟩, []),
 (⟨.callf 18 [(.tm 0)], .tm, none⟩, []),
 (⟨.loadn 5 (.fr 10), .tm, none⟩, [1]),
 (⟨.eqs [1, 1, 1, 1, 1] false (.tm 1) (.tm 0), .tm, none⟩, []),
 (⟨.mov (.tm 0), .tm, none⟩, []),
 (⟨.mov (.fr 9), .tm, some ((.tm 0), true)⟩, []),
 (⟨.bin .eql (.tm 0) (.c (.int .i64 0)), .tm, some ((.tm 1), true)⟩, []),
 (⟨.mov (.fr 11), .tm, some ((.tm 2), true)⟩, []),
 (⟨.eqv 0 false (.tm 1) (.tm 0), .tm, some ((.tm 3), true)⟩, []),
 (⟨.pick (.tm 4) (.tm 0) (.c (.bool false)), .tm, none⟩, []),
 (⟨.mov (.tm 0), .fr 12, none⟩, [])]) <|
 .seq (.reg [
 ⟨.mov (.fr 2), .tm, none⟩,
 ⟨.callf 19 [(.tm 0)], .tm, none⟩,
 ⟨.mov (.tm 0), .tm, none⟩,
 ⟨.extract (.tm 0) 0, .tm, none⟩,
 ⟨.extract (.tm 1) 1, .tm, none⟩,
 ⟨.new 51 68 Z68, .fr 13, none⟩,
 ⟨.storen 68 (.fr 13) (.tm 1), .no, none⟩,
 ⟨.mov (.tm 0), .fr 14, none⟩]) <|
 .seq (.reg [
 ⟨.mov (.fr 0), .tm, none⟩,
 ⟨.callf 20 [(.tm 0)], .tm, none⟩,
 ⟨.mov (.tm 0), .tm, none⟩,
 ⟨.extract (.tm 0) 0, .tm, none⟩,
 ⟨.extract (.tm 1) 1, .tm, none⟩,
 ⟨.new 51 68 Z68, .fr 15, none⟩,
 ⟨.storen 68 (.fr 15) (.tm 1), .no, none⟩,
 ⟨.mov (.tm 0), .fr 16, none⟩]) <|
 .seq (.reg [
 ⟨.loadn 68 (.fr 13), .tm, none⟩,
 ⟨.loadn 68 (.fr 15), .tm, none⟩,
 ⟨.eqs O68 false (.tm 1) (.tm 0), .tm, none⟩,
 ⟨.mov (.tm 0), .tm, none⟩,
 ⟨.mov (.fr 14), .tm, some ((.tm 0), true)⟩,
 ⟨.bin .eql (.tm 0) (.c (.int .i64 0)), .tm, some ((.tm 1), true)⟩,
 ⟨.mov (.fr 16), .tm, some ((.tm 2), true)⟩,
 ⟨.eqv 0 false (.tm 1) (.tm 0), .tm, some ((.tm 3), true)⟩,
 ⟨.pick (.tm 4) (.tm 0) (.c (.bool false)), .tm, none⟩,
 ⟨.mov (.tm 0), .fr 17, none⟩]) <|
 .seq (.reg [
 ⟨.mov (.fr 2), .tm, none⟩,
 ⟨.callf 21 [(.tm 0)], .tm, none⟩,
 ⟨.mov (.tm 0), .tm, none⟩,
 ⟨.extract (.tm 0) 0, .tm, none⟩,
 ⟨.extract (.tm 1) 1, .tm, none⟩,
 ⟨.new 57 70 Z70, .fr 18, none⟩,
 ⟨.storen 70 (.fr 18) (.tm 1), .no, none⟩,
 ⟨.mov (.tm 0), .fr 19, none⟩]) <|
 .seq (.reg [
 ⟨.mov (.fr 0), .tm, none⟩,
 ⟨.callf 22 [(.tm 0)], .tm, none⟩,
 ⟨.mov (.tm 0), .tm, none⟩,
 ⟨.extract (.tm 0) 0, .tm, none⟩,
 ⟨.extract (.tm 1) 1, .tm, none⟩,
 ⟨.new 60 70 Z70, .fr 20, none⟩,
 ⟨.storen 70 (.fr 20) (.tm 1), .no, none⟩,
 ⟨.mov (.tm 0), .fr 21, none⟩]) <|
 .seq (.dreg [
 (⟨.loadn 70 (.fr 18), .tm, none⟩, []),
 (⟨.callf 23 [(.tm 0)], .tm, none⟩, []),
 (⟨.loadn 70 (.fr 20), .tm, none⟩, [1]),
 (⟨.eqs O70 false (.tm 1) (.tm 0), .tm, none⟩, []),
 (⟨.mov (.tm 0), .tm, none⟩, []),
 (⟨.mov (.fr 19), .tm, some ((.tm 0), true)⟩, []),
 (⟨.bin .eql (.tm 0) (.c (.int .i64 0)), .tm, some ((.tm 1), true)⟩, []),
 (⟨.mov (.fr 21), .tm, some ((.tm 2), true)⟩, []),
 (⟨.eqv 0 false (.tm 1) (.tm 0), .tm, some ((.tm 3), true)⟩, []),
 (⟨.pick (.tm 4) (.tm 0) (.c (.bool false)), .tm, none⟩, []),
 (⟨.mov (.tm 0), .fr 22, none⟩, [])]) <|
 .seq (.reg [
 ⟨.mov (.fr 2), .tm, none⟩,
 ⟨.callf 24 [(.tm 0)], .tm, none⟩,
 ⟨.mov (.tm 0), .tm, none⟩,
 ⟨.extract (.tm 0) 0, .tm, none⟩,
 ⟨.extract (.tm 1) 1, .tm, none⟩,
 ⟨.new 65 5 [(.int .u8 0), (.int .u8 0), (.int .i64 0), (.int .i64 0), (.slice none 0 0)], .fr 23, none⟩,
 ⟨.storen 5 (.fr 23) (.tm 1), .no, none⟩,
 ⟨.mov (.tm 0), .fr 24, none⟩]) <|
 .seq (.reg [
 ⟨.mov (.fr 0), .tm, none⟩,
 ⟨.callf 25 [(.tm 0)], .tm, none⟩,
 ⟨.mov (.tm 0), .tm, none⟩,
 ⟨.extract (.tm 0) 0, .tm, none⟩,
 ⟨.extract (.tm 1) 1, .tm, none⟩,
 ⟨.new 69 5 [(.int .u8 0), (.int .u8 0), (.int .i64 0), (.int .i64 0), (.string ByteArray.empty)], .fr 25, none⟩,
 ⟨.storen 5 (.fr 25) (.tm 1), .no, none⟩,
 ⟨.mov (.tm 0), .fr 26, none⟩]) <|
 .seq (.dreg [
 (⟨.loadn 5 (.fr 23), .tm, none⟩, []),
 (⟨.callf 26 [(.tm 0)], .tm, none⟩, []),
 (⟨.loadn 5 (.fr 25), .tm, none⟩, [1]),
 (⟨.eqs [1, 1, 1, 1, 2] false (.tm 1) (.tm 0), .tm, none⟩, []),
 (⟨.mov (.tm 0), .tm, none⟩, []),
 (⟨.mov (.fr 24), .tm, some ((.tm 0), true)⟩, []),
 (⟨.bin .eql (.tm 0) (.c (.int .i64 0)), .tm, some ((.tm 1), true)⟩, []),
 (⟨.mov (.fr 26), .tm, some ((.tm 2), true)⟩, []),
 (⟨.eqv 0 false (.tm 1) (.tm 0), .tm, some ((.tm 3), true)⟩, []),
 (⟨.pick (.tm 4) (.tm 0) (.c (.bool false)), .tm, none⟩, []),
 (⟨.mov (.tm 0), .fr 27, none⟩, [])]) <|
 .seq (.seq (.reg [
 ⟨.mov (.c (.int .i64 0)), .fr 28, none⟩]) <|
 .block 0 (.loop (.seq (.seq (.reg [
 ⟨.mov (.fr 28), .tm, none⟩,
 ⟨.faddr 4 (.fr 23), .tm, none⟩,
 ⟨.load1 (.tm 0), .tm, none⟩,
 ⟨.len false (.tm 0), .tm, none⟩,
 ⟨.bin .lss (.tm 3) (.tm 0), .fr 30, none⟩]) <|
 .cond (.fr 30)
 (.skip)
 (.exit 0)) <|
 .seq (.block 1 (.dreg [
 (⟨.faddr 4 (.fr 23), .tm, none⟩, []),
 (⟨.load1 (.tm 0), .tm, none⟩, []),
 (⟨.mov (.fr 28), .tm, none⟩, []),
 (⟨.faddr 4 (.fr 23), .tm, none⟩, []),
 (⟨.load1 (.tm 0), .tm, none⟩, []),
 (⟨.mov (.fr 28), .tm, none⟩, []),
 (⟨.iaddr 1 (.tm 1) (.tm 0), .tm, none⟩, []),
 (⟨.load1 (.tm 0), .tm, none⟩, []),
 (⟨.bin .add (.tm 0) (.c (.int .u8 1)), .tm, none⟩, []),
 (⟨.iaddr 1 (.tm 7) (.tm 6), .tm, none⟩, []),
 (⟨.store1 (.tm 0) (.tm 1), .no, none⟩, [])])) <|
 .reg [
 ⟨.mov (.fr 28), .tm, none⟩,
 ⟨.bin .add (.tm 0) (.c (.int .i64 1)), .tm, none⟩,
 ⟨.mov (.tm 0), .fr 28, none⟩]))) <|
 .seq (.reg [
 ⟨.mov (.fr 7), .tm, none⟩,
 ⟨.mov (.tm 0), .tm, none⟩,
 ⟨.mov (.fr 12), .tm, some ((.tm 0), true)⟩,
 ⟨.pick (.tm 1) (.tm 0) (.c (.bool false)), .tm, none⟩,
 ⟨.mov (.tm 0), .tm, none⟩,
 ⟨.mov (.fr 17), .tm, some ((.tm 0), true)⟩,
 ⟨.pick (.tm 1) (.tm 0) (.c (.bool false)), .tm, none⟩,
 ⟨.mov (.tm 0), .tm, none⟩,
 ⟨.mov (.fr 22), .tm, some ((.tm 0), true)⟩,
 ⟨.pick (.tm 1) (.tm 0) (.c (.bool false)), .tm, none⟩,
 ⟨.mov (.tm 0), .tm, none⟩,
 ⟨.mov (.fr 27), .tm, some ((.tm 0), true)⟩,
 ⟨.pick (.tm 1) (.tm 0) (.c (.bool false)), .tm, none⟩,
 ⟨.mov (.tm 0), .tm, none⟩,
 ⟨.mov (.fr 4), .tm, some ((.tm 0), true)⟩,
 ⟨.mov (.fr 9), .tm, some ((.tm 1), true)⟩,
 ⟨.mov (.fr 14), .tm, some ((.tm 2), true)⟩,
 ⟨.mov (.fr 19), .tm, some ((.tm 3), true)⟩,
 ⟨.mov (.fr 24), .tm, some ((.tm 4), true)⟩,
 ⟨.callf 27 [(.tm 4), (.tm 3), (.tm 2), (.tm 1), (.tm 0)], .tm, some ((.tm 5), true)⟩,
 ⟨.pick (.tm 6) (.tm 0) (.c (.bool false)), .tm, none⟩,
 ⟨.mov (.tm 0), .tm, none⟩,
 ⟨.mov (.fr 2), .tm, some ((.tm 0), true)⟩,
 ⟨.callf 28 [(.tm 0)], .tm, some ((.tm 1), true)⟩,
 ⟨.mov (.fr 0), .tm, some ((.tm 2), true)⟩,
 ⟨.callf 29 [(.tm 0)], .tm, some ((.tm 3), true)⟩,
 ⟨.bin .eql (.tm 2) (.tm 0), .tm, some ((.tm 4), true)⟩,
 ⟨.pick (.tm 5) (.tm 0) (.c (.bool false)), .tm, none⟩,
 ⟨.mov (.tm 0), .tm, none⟩,
 ⟨.mov (.fr 2), .tm, some ((.tm 0), true)⟩,
 ⟨.b2s (.tm 0), .tm, some ((.tm 1), true)⟩,
 ⟨.mov (.fr 0), .tm, some ((.tm 2), true)⟩,
 ⟨.b2s (.tm 0), .tm, some ((.tm 3), true)⟩,
 ⟨.bin .eql (.tm 2) (.tm 0), .tm, some ((.tm 4), true)⟩,
 ⟨.pick (.tm 5) (.tm 0) (.c (.bool false)), .tm, none⟩,
 ⟨.mov (.tm 0), .tm, none⟩,
 ⟨.callf 11 [], .tm, some ((.tm 0), true)⟩,
 ⟨.pick (.tm 1) (.tm 0) (.c (.bool false)), .tm, none⟩,
 ⟨.mov (.tm 0), .fr 1, none⟩]) <|
 .ret, [.t 1]⟩
def f5 : AFunc := ⟨[0, 1, 2, 3, 4, 5, 6, 7, 8, 9, 10, 11, 12, 13, 14, 15, 16, 20, 23, 55, 69, 73],
 .seq (.reg [
 ⟨.box 30 6 (.fr 0), .fr 5, none⟩,
 ⟨.box 42 5 (.fr 1), .fr 6, none⟩,
 ⟨.box 51 68 (.fr 2), .fr 7, none⟩,
 ⟨.box 57 70 (.fr 3), .fr 8, none⟩,
 ⟨.box 65 5 (.fr 4), .fr 9, none⟩,
 ⟨.mov (.c (.bool false)), .fr 10, none⟩]) <|
 .seq (.seq (.reg [
 ⟨.loadn 6 (.fr 5), .tm, none⟩,
 ⟨.loadn 5 (.fr 9), .tm, none⟩,
 ⟨.callf 43 [(.tm 1), (.tm 0)], .tm, none⟩,
 ⟨.un .not (.tm 0), .fr 17, none⟩]) <|
 .cond (.fr 17)
 (.seq (.reg [
 ⟨.callf 11 [], .tm, none⟩,
 ⟨.mov (.tm 0), .fr 10, none⟩]) <|
 .ret)
 (.skip)) <|
 .seq (.seq (.reg [
 ⟨.mov (.c (.int .i64 0)), .fr 11, none⟩]) <|
 .block 0 (.loop (.seq (.seq (.reg [
 ⟨.mov (.fr 11), .tm, none⟩,
 ⟨.bin .lss (.tm 0) (.c (.int .i64 2)), .fr 18, none⟩]) <|
 .cond (.fr 18)
 (.skip)
 (.exit 0)) <|
 .seq (.block 1 (.seq (.dreg [
 (⟨.loadn 6 (.fr 5), .tm, none⟩, []),
 (⟨.callf 44 [(.tm 0)], .tm, none⟩, []),
 (⟨.loadn 5 (.fr 6), .tm, none⟩, [1]),
 (⟨.callf 45 [(.tm 0)], .tm, none⟩, []),
 (⟨.loadn 68 (.fr 7), .tm, none⟩, [1, 3]),
 (⟨.callf 46 [(.tm 0)], .tm, none⟩, []),
 (⟨.loadn 70 (.fr 8), .tm, none⟩, [1, 3, 5]),
 (⟨.callf 47 [(.tm 0)], .tm, none⟩, []),
 (⟨.loadn 5 (.fr 9), .tm, none⟩, [1, 3, 5, 7]),
 (⟨.callf 36 [(.tm 0)], .tm, none⟩, []),
 (⟨.bslice 22 1 5 [(.slice none 0 0), (.slice none 0 0), (.slice none 0 0), (.slice none 0 0), (.slice none 0 0)] [(0, 1, (.tm 8)), (1, 1, (.tm 6)), (2, 1, (.tm 4)), (3, 1, (.tm 2)), (4, 1, (.tm 0))], .tm, none⟩, []),
 (⟨.mov (.tm 0), .fr 12, none⟩, [])]) <|
 .seq (.dreg [
 (⟨.loadn 6 (.fr 5), .tm, none⟩, []),
 (⟨.callf 15 [(.tm 0)], .tm, none⟩, []),
 (⟨.callf 48 [(.tm 0)], .tm, none⟩, []),
 (⟨.loadn 5 (.fr 6), .tm, none⟩, [1, 2]),
 (⟨.callf 18 [(.tm 0)], .tm, none⟩, []),
 (⟨.callf 49 [(.tm 0)], .tm, none⟩, []),
 (⟨.loadn 68 (.fr 7), .tm, none⟩, [1, 2, 4, 5]),
 (⟨.callf 50 [(.tm 0)], .tm, none⟩, []),
 (⟨.loadn 70 (.fr 8), .tm, none⟩, [1, 2, 4, 5, 7]),
 (⟨.callf 23 [(.tm 0)], .tm, none⟩, []),
 (⟨.callf 51 [(.tm 0)], .tm, none⟩, []),
 (⟨.loadn 5 (.fr 9), .tm, none⟩, [1, 2, 4, 5, 7, 9, 10]),
 (⟨.callf 26 [(.tm 0)], .tm, none⟩, []),
 (⟨.callf 52 [(.tm 0)], .tm, none⟩, []),
 (⟨.bslice 22 1 5 [(.slice none 0 0), (.slice none 0 0), (.slice none 0 0), (.slice none 0 0), (.slice none 0 0)] [(0, 1, (.tm 11)), (1, 1, (.tm 8)), (2, 1, (.tm 6)), (3, 1, (.tm 3)), (4, 1, (.tm 0))], .tm, none⟩, []),
 (⟨.mov (.tm 0), .fr 13, none⟩, [])]) <|
 .seq (.reg [
 ⟨.mov (.c (.int .i64 0)), .fr 14, none⟩]) <|
 .block 2 (.loop (.seq (.seq (.reg [
 ⟨.mov (.fr 14), .tm, none⟩,
 ⟨.mov (.fr 12), .tm, none⟩,
 ⟨.len false (.tm 0), .tm, none⟩,
 ⟨.bin .lss (.tm 2) (.tm 0), .fr 19, none⟩]) <|
 .cond (.fr 19)
 (.skip)
 (.exit 2)) <|
 .seq (.block 3 (.seq (.reg [
 ⟨.mov (.fr 12), .tm, none⟩,
 ⟨.mov (.fr 14), .tm, none⟩,
 ⟨.iaddr 1 (.tm 1) (.tm 0), .tm, none⟩,
 ⟨.load1 (.tm 0), .tm, none⟩,
 ⟨.mov (.tm 0), .fr 15, none⟩]) <|
 .seq (.seq (.dreg [
 (⟨.mov (.fr 15), .tm, none⟩, []),
 (⟨.b2s (.tm 0), .tm, none⟩, []),
 (⟨.mov (.fr 13), .tm, none⟩, []),
 (⟨.mov (.fr 14), .tm, none⟩, []),
 (⟨.iaddr 1 (.tm 1) (.tm 0), .tm, none⟩, []),
 (⟨.load1 (.tm 0), .tm, none⟩, []),
 (⟨.b2s (.tm 0), .tm, none⟩, []),
 (⟨.bin .neq (.tm 5) (.tm 0), .fr 20, none⟩, [])]) <|
 .cond (.fr 20)
 (.seq (.reg [
 ⟨.mov (.c (.bool false)), .fr 10, none⟩]) <|
 .ret)
 (.skip)) <|
 .seq (.reg [
 ⟨.mov (.c (.int .i64 0)), .fr 16, none⟩]) <|
 .block 4 (.loop (.seq (.seq (.reg [
 ⟨.mov (.fr 16), .tm, none⟩,
 ⟨.mov (.fr 15), .tm, none⟩,
 ⟨.len false (.tm 0), .tm, none⟩,
 ⟨.bin .lss (.tm 2) (.tm 0), .fr 21, none⟩]) <|
 .cond (.fr 21)
 (.skip)
 (.exit 4)) <|
 .seq (.block 5 (.reg [
 ⟨.mov (.fr 15), .tm, none⟩,
 ⟨.mov (.fr 16), .tm, none⟩,
 ⟨.mov (.fr 15), .tm, none⟩,
 ⟨.mov (.fr 16), .tm, none⟩,
 ⟨.iaddr 1 (.tm 1) (.tm 0), .tm, none⟩,
 ⟨.load1 (.tm 0), .tm, none⟩,
 ⟨.bin .add (.tm 0) (.c (.int .u8 1)), .tm, none⟩,
 ⟨.iaddr 1 (.tm 6) (.tm 5), .tm, none⟩,
 ⟨.store1 (.tm 0) (.tm 1), .no, none⟩])) <|
 .reg [
 ⟨.mov (.fr 16), .tm, none⟩,
 ⟨.bin .add (.tm 0) (.c (.int .i64 1)), .tm, none⟩,
 ⟨.mov (.tm 0), .fr 16, none⟩])))) <|
 .reg [
 ⟨.mov (.fr 14), .tm, none⟩,
 ⟨.bin .add (.tm 0) (.c (.int .i64 1)), .tm, none⟩,
 ⟨.mov (.tm 0), .fr 14, none⟩])))) <|
 .reg [
 ⟨.mov (.fr 11), .tm, none⟩,
 ⟨.bin .add (.tm 0) (.c (.int .i64 1)), .tm, none⟩,
 ⟨.mov (.tm 0), .fr 11, none⟩]))) <|
 .seq (.reg [
 ⟨.callf 11 [], .tm, none⟩,
 ⟨.mov (.tm 0), .fr 10, none⟩]) <|
 .ret, [.t 10]⟩
def f6 : AFunc := ⟨[0, 1, 2, 3, 4, 5, 6, 7, 8, 9, 10, 12, 13, 14, 15, 16, 17, 18, 19, 28, 56, 80, 99, 123, 149],
 .seq (.reg [
 ⟨.box 30 6 (.fr 0), .fr 6, none⟩,
 ⟨.box 42 5 (.fr 1), .fr 7, none⟩,
 ⟨.box 51 68 (.fr 2), .fr 8, none⟩,
 ⟨.box 57 70 (.fr 3), .fr 9, none⟩,
 ⟨.box 65 5 (.fr 4), .fr 10, none⟩,
 ⟨.mov (.c (.bool false)), .fr 11, none⟩]) <|
 .seq (.seq (.reg [
 ⟨.loadn 6 (.fr 6), .tm, none⟩,
 ⟨.loadn 5 (.fr 10), .tm, none⟩,
 ⟨.callf 43 [(.tm 1), (.tm 0)], .tm, none⟩,
 ⟨.un .not (.tm 0), .tm, none⟩,
 ⟨.mov (.tm 0), .tm, none⟩,
 ⟨.mov (.fr 5), .tm, some ((.tm 0), false)⟩,
 ⟨.len false (.tm 0), .tm, some ((.tm 1), false)⟩,
 ⟨.bin .gtr (.tm 0) (.c (.int .i64 3000)), .tm, some ((.tm 2), false)⟩,
 ⟨.pick (.tm 3) (.c (.bool true)) (.tm 0), .fr 19, none⟩]) <|
 .cond (.fr 19)
 (.seq (.reg [
 ⟨.callf 11 [], .tm, none⟩,
 ⟨.mov (.tm 0), .fr 11, none⟩]) <|
 .ret)
 (.skip)) <|
 .seq (.reg [
 ⟨.loadn 6 (.fr 6), .tm, none⟩,
 ⟨.callf 44 [(.tm 0)], .tm, none⟩,
 ⟨.mov (.tm 0), .fr 12, none⟩]) <|
 .seq (.reg [
 ⟨.mov (.fr 12), .tm, none⟩,
 ⟨.callf 12 [(.tm 0)], .tm, none⟩,
 ⟨.mov (.tm 0), .tm, none⟩,
 ⟨.extract (.tm 0) 0, .tm, none⟩,
 ⟨.extract (.tm 1) 1, .tm, none⟩,
 ⟨.new 30 6 [(.int .u8 0), (.int .i64 0), (.int .u64 0), (.int .u32 0), (.int .u32 0), (.slice none 0 0)], .fr 13, none⟩,
 ⟨.storen 6 (.fr 13) (.tm 1), .no, none⟩,
 ⟨.mov (.tm 0), .fr 14, none⟩]) <|
 .seq (.seq (.dreg [
 (⟨.mov (.fr 12), .tm, none⟩, []),
 (⟨.len false (.tm 0), .tm, none⟩, []),
 (⟨.bin .gtr (.tm 0) (.c (.int .i64 0)), .tm, none⟩, []),
 (⟨.mov (.tm 0), .tm, none⟩, []),
 (⟨.mov (.fr 14), .tm, some ((.tm 0), true)⟩, []),
 (⟨.bin .neq (.tm 0) (.c (.int .i64 0)), .tm, some ((.tm 1), true)⟩, []),
 (⟨.mov (.tm 0), .tm, some ((.tm 2), true)⟩, []),
 (⟨.loadn 6 (.fr 13), .tm, some ((.tm 0), false)⟩, []),
 (⟨.callf 15 [(.tm 0)], .tm, some ((.tm 1), false)⟩, []),
 (⟨.loadn 6 (.fr 6), .tm, some ((.tm 2), false)⟩, [8]),
 (⟨.callf 15 [(.tm 0)], .tm, some ((.tm 3), false)⟩, []),
 (⟨.callf 14 [(.tm 2), (.tm 0)], .tm, some ((.tm 4), false)⟩, []),
 (⟨.un .not (.tm 0), .tm, some ((.tm 5), false)⟩, []),
 (⟨.pick (.tm 6) (.c (.bool true)) (.tm 0), .tm, some ((.tm 9), true)⟩, []),
 (⟨.mov (.tm 0), .tm, some ((.tm 10), true)⟩, []),
 (⟨.mov (.fr 12), .tm, some ((.tm 0), false)⟩, []),
 (⟨.callf 28 [(.tm 0)], .tm, some ((.tm 1), false)⟩, []),
 (⟨.bin .neq (.tm 0) (.c (.int .u8 1)), .tm, some ((.tm 2), false)⟩, []),
 (⟨.pick (.tm 3) (.c (.bool true)) (.tm 0), .tm, some ((.tm 14), true)⟩, []),
 (⟨.pick (.tm 15) (.tm 0) (.c (.bool false)), .fr 20, none⟩, [])]) <|
 .cond (.fr 20)
 (.seq (.reg [
 ⟨.mov (.c (.bool false)), .fr 11, none⟩]) <|
 .ret)
 (.skip)) <|
 .seq (.reg [
 ⟨.loadn 5 (.fr 7), .tm, none⟩,
 ⟨.callf 45 [(.tm 0)], .tm, none⟩,
 ⟨.mov (.tm 0), .fr 12, none⟩]) <|
 .seq (.reg [
 ⟨.mov (.fr 12), .tm, none⟩,
 ⟨.callf 16 [(.tm 0)], .tm, none⟩,
 ⟨.mov (.tm 0), .tm, none⟩,
 ⟨.extract (.tm 0) 0, .tm, none⟩,
 ⟨.extract (.tm 1) 1, .tm, none⟩,
 ⟨.new 42 5 [(.int .u8 0), (.int .i64 0), (.int .i64 0), (.int .u64 0), (.int .u32 0)], .fr 15, none⟩,
 ⟨.storen 5 (.fr 15) (.tm 1), .no, none⟩,
 ⟨.mov (.tm 0), .fr 14, none⟩]) <|
 .seq (.seq (.reg [
 ⟨.mov (.fr 12), .tm, none⟩,
 ⟨.len false (.tm 0), .tm, none⟩,
 ⟨.bin .gtr (.tm 0) (.c (.int .i64 0)), .tm, none⟩,
 ⟨.mov (.tm 0), .tm, none⟩,
 ⟨.mov (.fr 14), .tm, some ((.tm 0), true)⟩,
 ⟨.bin .neq (.tm 0) (.c (.int .i64 0)), .tm, some ((.tm 1), true)⟩,
 ⟨.mov (.tm 0), .tm, some ((.tm 2), true)⟩,
 ⟨.loadn 5 (.fr 15), .tm, some ((.tm 0), false)⟩,
 ⟨.loadn 5 (.fr 7), .tm, some ((.tm 1), false)⟩,
 ⟨.eqs [1, 1, 1, 1, 1] true (.tm 1) (.tm 0), .tm, some ((.tm 2), false)⟩,
 ⟨.pick (.tm 3) (.c (.bool true)) (.tm 0), .tm, some ((.tm 6), true)⟩,
 ⟨.mov (.tm 0), .tm, some ((.tm 7), true)⟩,
 ⟨.mov (.fr 12), .tm, some ((.tm 0), false)⟩,
 ⟨.callf 28 [(.tm 0)], .tm, some ((.tm 1), false)⟩,
 ⟨.bin .neq (.tm 0) (.c (.int .u8 2)), .tm, some ((.tm 2), false)⟩,
 ⟨.pick (.tm 3) (.c (.bool true)) (.tm 0), .tm, some ((.tm 11), true)⟩,
 ⟨.pick (.tm 12) (.tm 0) (.c (.bool false)), .fr 21, none⟩]) <|
 .cond (.fr 21)
 (.seq (.reg [
 ⟨.mov (.c (.bool false)), .fr 11, none⟩]) <|
 .ret)
 (.skip)) <|
 .seq (.reg [
 ⟨.loadn 68 (.fr 8), .tm, none⟩,
 ⟨.callf 46 [(.tm 0)], .tm, none⟩,
 ⟨.mov (.tm 0), .fr 12, none⟩]) <|
 .seq (.reg [
 ⟨.mov (.fr 12), .tm, none⟩,
 ⟨.callf 19 [(.tm 0)], .tm, none⟩,
 ⟨.mov (.tm 0), .tm, none⟩,
 ⟨.extract (.tm 0) 0, .tm, none⟩,
 ⟨.extract (.tm 1) 1, .tm, none⟩,
 ⟨.new 51 68 Z68, .fr 16, none⟩,
 ⟨.storen 68 (.fr 16) (.tm 1), .no, none⟩,
 ⟨.mov (.tm 0), .fr 14, none⟩]) <|
 .seq (.seq (.reg [
 ⟨.mov (.fr 14), .tm, none⟩,
 ⟨.bin .neq (.tm 0) (.c (.int .i64 0)), .tm, none⟩,
 ⟨.mov (.tm 0), .tm, none⟩,
 ⟨.loadn 68 (.fr 16), .tm, some ((.tm 0), false)⟩,
 ⟨.loadn 68 (.fr 8), .tm, some ((.tm 1), false)⟩,
 ⟨.eqs O68 true (.tm 1) (.tm 0), .tm, some ((.tm 2), false)⟩,
 ⟨.pick (.tm 3) (.c (.bool true)) (.tm 0), .tm, none⟩,
 ⟨.mov (.tm 0), .tm, none⟩,
 ⟨.mov (.fr 12), .tm, some ((.tm 0), false)⟩,
 ⟨.callf 28 [(.tm 0)], .tm, some ((.tm 1), false)⟩,
 ⟨.bin .neq (.tm 0) (.c (.int .u8 3)), .tm, some ((.tm 2), false)⟩,
 ⟨.pick (.tm 3) (.c (.bool true)) (.tm 0), .fr 22, none⟩]) <|
 .cond (.fr 22)
 (.seq (.reg [
 ⟨.mov (.c (.bool false)), .fr 11, none⟩]) <|
 .ret)
 (.skip)) <|
 .seq (.reg [
 ⟨.loadn 70 (.fr 9), .tm, none⟩,
 ⟨.callf 47 [(.tm 0)], .tm, none⟩,
 ⟨.mov (.tm 0), .fr 12, none⟩]) <|
 .seq (.reg [
 ⟨.mov (.fr 12), .tm, none⟩,
 ⟨.callf 21 [(.tm 0)], .tm, none⟩,
 ⟨.mov (.tm 0), .tm, none⟩,
 ⟨.extract (.tm 0) 0, .tm, none⟩,
 ⟨.extract (.tm 1) 1, .tm, none⟩,
 ⟨.new 57 70 Z70, .fr 17, none⟩,
 ⟨.storen 70 (.fr 17) (.tm 1), .no, none⟩,
 ⟨.mov (.tm 0), .fr 14, none⟩]) <|
 .seq (.seq (.reg [
 ⟨.mov (.fr 12), .tm, none⟩,
 ⟨.len false (.tm 0), .tm, none⟩,
 ⟨.bin .gtr (.tm 0) (.c (.int .i64 0)), .tm, none⟩,
 ⟨.mov (.tm 0), .tm, none⟩,
 ⟨.mov (.fr 14), .tm, some ((.tm 0), true)⟩,
 ⟨.bin .neq (.tm 0) (.c (.int .i64 0)), .tm, some ((.tm 1), true)⟩,
 ⟨.mov (.tm 0), .tm, some ((.tm 2), true)⟩,
 ⟨.loadn 70 (.fr 17), .tm, some ((.tm 0), false)⟩,
 ⟨.loadn 70 (.fr 9), .tm, some ((.tm 1), false)⟩,
 ⟨.eqs O70 true (.tm 1) (.tm 0), .tm, some ((.tm 2), false)⟩,
 ⟨.pick (.tm 3) (.c (.bool true)) (.tm 0), .tm, some ((.tm 6), true)⟩,
 ⟨.mov (.tm 0), .tm, some ((.tm 7), true)⟩,
 ⟨.mov (.fr 12), .tm, some ((.tm 0), false)⟩,
 ⟨.callf 28 [(.tm 0)], .tm, some ((.tm 1), false)⟩,
 ⟨.bin .neq (.tm 0) (.c (.int .u8 4)), .tm, some ((.tm 2), false)⟩,
 ⟨.pick (.tm 3) (.c (.bool true)) (.tm 0), .tm, some ((.tm 11), true)⟩,
 ⟨.pick (.tm 12) (.tm 0) (.c (.bool false)), .fr 23, none⟩]) <|
 .cond (.fr 23)
 (.seq (.reg [
 ⟨.mov (.c (.bool false)), .fr 11, none⟩]) <|
 .ret)
 (.skip)) <|
 .seq (.reg [
 ⟨.loadn 5 (.fr 10), .tm, none⟩,
 ⟨.callf 36 [(.tm 0)], .tm, none⟩,
 ⟨.mov (.tm 0), .fr 12, none⟩]) <|
 .seq (.reg [
 ⟨.mov (.fr 12), .tm, none⟩,
 ⟨.callf 24 [(.tm 0)], .tm, none⟩,
 ⟨.mov (.tm 0), .tm, none⟩,
 ⟨.extract (.tm 0) 0, .tm, none⟩,
 ⟨.extract (.tm 1) 1, .tm, none⟩,
 ⟨.new 65 5 [(.int .u8 0), (.int .u8 0), (.int .i64 0), (.int .i64 0), (.slice none 0 0)], .fr 18, none⟩,
 ⟨.storen 5 (.fr 18) (.tm 1), .no, none⟩,
 ⟨.mov (.tm 0), .fr 14, none⟩]) <|
 .seq (.seq (.dreg [
 (⟨.mov (.fr 12), .tm, none⟩, []),
 (⟨.len false (.tm 0), .tm, none⟩, []),
 (⟨.bin .gtr (.tm 0) (.c (.int .i64 0)), .tm, none⟩, []),
 (⟨.mov (.tm 0), .tm, none⟩, []),
 (⟨.mov (.fr 14), .tm, some ((.tm 0), true)⟩, []),
 (⟨.bin .neq (.tm 0) (.c (.int .i64 0)), .tm, some ((.tm 1), true)⟩, []),
 (⟨.mov (.tm 0), .tm, some ((.tm 2), true)⟩, []),
 (⟨.loadn 5 (.fr 18), .tm, some ((.tm 0), false)⟩, []),
 (⟨.callf 26 [(.tm 0)], .tm, some ((.tm 1), false)⟩, []),
 (⟨.loadn 5 (.fr 10), .tm, some ((.tm 2), false)⟩, [8]),
 (⟨.callf 26 [(.tm 0)], .tm, some ((.tm 3), false)⟩, []),
 (⟨.eqs [1, 1, 1, 1, 2] true (.tm 2) (.tm 0), .tm, some ((.tm 4), false)⟩, []),
 (⟨.pick (.tm 5) (.c (.bool true)) (.tm 0), .tm, some ((.tm 8), true)⟩, []),
 (⟨.mov (.tm 0), .tm, some ((.tm 9), true)⟩, []),
 (⟨.mov (.fr 12), .tm, some ((.tm 0), false)⟩, []),
 (⟨.callf 28 [(.tm 0)], .tm, some ((.tm 1), false)⟩, []),
 (⟨.bin .neq (.tm 0) (.c (.int .u8 5)), .tm, some ((.tm 2), false)⟩, []),
 (⟨.pick (.tm 3) (.c (.bool true)) (.tm 0), .tm, some ((.tm 13), true)⟩, []),
 (⟨.pick (.tm 14) (.tm 0) (.c (.bool false)), .fr 24, none⟩, [])]) <|
 .cond (.fr 24)
 (.seq (.reg [
 ⟨.mov (.c (.bool false)), .fr 11, none⟩]) <|
 .ret)
 (.skip)) <|
 .seq (.reg [
 ⟨.mov (.fr 5), .tm, none⟩,
 ⟨.callf 53 [(.tm 0)], .tm, none⟩,
 ⟨.mov (.tm 0), .tm, none⟩,
 ⟨.callf 11 [], .tm, some ((.tm 0), true)⟩,
 ⟨.pick (.tm 1) (.tm 0) (.c (.bool false)), .tm, none⟩,
 ⟨.mov (.tm 0), .fr 11, none⟩]) <|
 .ret, [.t 11]⟩
end Go.AM.F

set_option linter.unusedSimpArgs false
set_option linter.unusedVariables false
namespace Go.AM.Fd
open Nat (reduceAdd reduceEqDiff reduceLT reduceLeDiff reduceMul reduceSub)
open Go.Proofs Go.AM.F
theorem GotV.nv {ρ : Nat → Option Nat} {c : List Value} (h : c.all plain1 = true) (e : Int) : NV ρ (GotV c e) (GotV c e) :=
  NV.tuple_of (.cons (NV.agg_of (NL.plain h)) (.cons (.int _ e) .nil))
def er (ok : Bool) : Int := if ok then 0 else 130
theorem e24 {H : AHeap} {v : Value} {b : List UInt8} (hb : BQ H v b) (hl : b.length ≤ 1000000) : ∃ w H', ARun Go.Proofs.Try.prog 0 24 [v] H w H' ∧ ∃ vb, w = GotV (cLi vb ((geLi b).getD Li0)) (er (geLi b).isSome) ∧ Keeps H H' ∧ Fresh H.n vb ∧ AP H' 5 1 vb ((geLi b).getD Li0).B.length (cellsOf ((geLi b).getD Li0).B) := by
  obtain ⟨w, H', a, k, vc, f, e⟩ := t24 hb (by omega)
  refine ⟨w, H', a, ?_⟩
  cases hg : geLi b with
  | none =>
    rw [hg] at e
    exact ⟨.slice none 0 0, e, k, fun b hb => (by cases hb), .inl ⟨rfl, rfl, rfl⟩⟩
  | some x =>
    rw [hg] at e
    exact ⟨vc, e.1, k, f, e.2⟩
theorem d25 {H : AHeap} {v : Value} {b : List UInt8} (hb : BQ H v b) (hl : b.length ≤ 1000000) : ∃ w H', ARun Go.Proofs.Try.prog 0 25 [v] H w H' ∧ w = GotB (cLs ((geLi b).getD Li0)) (geLi b).isSome ∧ H' = H := by
  obtain ⟨w, H', a, e, k⟩ := t25 hb (by omega)
  exact ⟨w, H', a, by rw [e]; cases geLi b <;> rfl, k⟩
end Go.AM.Fd

set_option linter.unusedSimpArgs false
set_option linter.unusedVariables false
namespace Go.AM.Fd
open Nat (reduceAdd reduceEqDiff reduceLT reduceLeDiff reduceMul reduceSub)
open Go.Proofs Go.AM.F
theorem bq_new (H : AHeap) (room : Bool) (l : List UInt8) (n : Nat) (hn : n = l.length) : BQ (H.alloc (.cells true room 1 (cellsOf l) 5)) (slc H.n 0 n n) l := by
  subst hn
  exact (AP.bq (.inr ⟨H.n, room, rfl, by rw [cellsOf_length, Nat.mul_one], AHeap.get_alloc_new H _⟩) : BQ _ _ l)
end Go.AM.Fd

set_option linter.unusedSimpArgs false
set_option linter.unusedVariables false
namespace Go.AM.Fd
open Nat (reduceAdd reduceEqDiff reduceLT reduceLeDiff reduceMul reduceSub)
open Go.Proofs Go.AM.F
theorem PutR.bs {H H' : AHeap} {v : Value} {l : List UInt8} (h : PutR H H' v l) : BS H' v l := h.1.bs
theorem PutR.bq {H H' : AHeap} {v : Value} {l : List UInt8} (h : PutR H H' v l) : BQ H' v l := h.1.bq
end Go.AM.Fd

set_option linter.unusedSimpArgs false
set_option linter.unusedVariables false
namespace Go.AM
def cpre : Nat → ACode → ACode
  | 0, _ => .skip
  | 1, .seq a _ => a
  | n + 2, .seq a b => .seq a (cpre (n + 1) b)
  | _ + 1, c => c
def cpost : Nat → ACode → ACode
  | 0, c => c
  | n + 1, .seq _ b => cpost n b
  | _ + 1, _ => .skip
def cok : Nat → ACode → Bool
  | 0, _ => false
  | 1, .seq _ _ => true
  | n + 2, .seq _ b => cok (n + 1) b
  | _ + 1, _ => false
variable {P : Program} {ng : Nat} {H : AHeap} {Q : AQ} {fr : List Value}
theorem andThen2 (Q : AQ) (K K' : List Value → AHeap → Prop) : (Q.andThen K).andThen K' = Q.andThen K' := by
  funext e fr H
  cases e <;> rfl
theorem W_pp : ∀ (n : Nat) (c : ACode) (Q : AQ) (fr : List Value) (H : AHeap), cok n c = true → W P ng c Q fr H = W P ng (cpre n c) (Q.andThen (W P ng (cpost n c) Q)) fr H
  | 0, c, Q, fr, H, h => by simp [cok] at h
  | 1, c, Q, fr, H, h => by
    cases c <;> simp [cok] at h
    rfl
  | n + 2, c, Q, fr, H, h => by
    cases c <;> simp [cok] at h
    rename_i a b
    simp only [cpre, cpost, W_seq]
    rw [andThen2]
    congr 1
    funext e fr H
    cases e
    · exact W_pp (n + 1) b Q fr H h
    all_goals rfl
theorem W_part {c : ACode} (n : Nat) (M : List Value → AHeap → Prop) (hok : cok n c = true)
    (h1 : ∀ Q' : AQ, (∀ fr H, M fr H → Q' .normal fr H) → (∀ i fr H, Q (.exit i) fr H → Q' (.exit i) fr H) → (∀ fr H, Q .ret fr H → Q' .ret fr H) → W P ng (cpre n c) Q' fr H)
    (h2 : ∀ fr H, M fr H → W P ng (cpost n c) Q fr H) : W P ng c Q fr H := by
  rw [W_pp n c Q fr H hok]
  exact h1 _ (fun fr H h => h2 fr H h) (fun _ _ _ h => h) (fun _ _ h => h)
end Go.AM

set_option linter.unusedSimpArgs false
set_option linter.unusedVariables false
namespace Go.AM
inductive CKd
  | int (k : IntKind)
  | bool
  | str
  | sl (t : TypeId)
def fits (P : Program) (G : Gf) : CKd → Value → Prop
  | .int k, v => ∃ n, v = .int k n ∧ (Lit.int k n).wf = true
  | .bool, v => ∃ b, v = .bool b
  | .str, v => ∃ s, v = .string s ∧ s.size ≤ maxLen
  | .sl t, v => AR P G t [v]
def fitsL (P : Program) (G : Gf) : List CKd → List Value → Prop
  | [], [] => True
  | k :: ks, v :: vs => fits P G k v ∧ fitsL P G ks vs
  | _, _ => False
section
variable {P : Program} {G : Gf}
theorem fitsL.len : ∀ {ks : List CKd} {cs : List Value}, fitsL P G ks cs → cs.length = ks.length
  | [], [], _ => rfl
  | _ :: ks, _ :: cs, h => by simp [fitsL.len h.2]
theorem fitsL.inv {k : CKd} {ks : List CKd} {cs : List Value} (h : fitsL P G (k :: ks) cs) : ∃ v vs, cs = v :: vs ∧ fits P G k v ∧ fitsL P G ks vs := by
  cases cs with
  | nil => exact h.elim
  | cons v vs => exact ⟨v, vs, rfl, h.1, h.2⟩
theorem fitsL.app : ∀ {a b : List CKd} {c d : List Value}, fitsL P G a c → fitsL P G b d → fitsL P G (a ++ b) (c ++ d)
  | [], _, [], _, _, h => h
  | _ :: _, _, _ :: _, _, h, k => ⟨h.1, fitsL.app h.2 k⟩
theorem fitsL.split : ∀ {a b : List CKd} {cs : List Value}, fitsL P G (a ++ b) cs → fitsL P G a (cs.take a.length) ∧ fitsL P G b (cs.drop a.length)
  | [], b, cs, h => ⟨by simp [fitsL], by simpa using h⟩
  | k :: a, b, v :: cs, h => by
    have := fitsL.split (a := a) (b := b) (cs := cs) h.2
    exact ⟨⟨h.1, this.1⟩, this.2⟩
theorem fitsL.mono {G' : Gf} (hg : ∀ b o, G b = some o → G' b = some o) : ∀ {ks : List CKd} {cs : List Value}, fitsL P G ks cs → fitsL P G' ks cs
  | [], [], _ => trivial
  | .int _ :: _, _ :: _, h => ⟨h.1, h.2.mono hg⟩
  | .bool :: _, _ :: _, h => ⟨h.1, h.2.mono hg⟩
  | .str :: _, _ :: _, h => ⟨h.1, h.2.mono hg⟩
  | .sl t :: _, v :: _, h => ⟨AR.mono hg (show AR P G t [v] from h.1), h.2.mono hg⟩
theorem fitsL.u8 : ∀ {n : Nat} {cs : List Value}, fitsL P G (List.replicate n (.int .u8)) cs → ∃ l : List UInt8, l.length = n ∧ cs = cellsOf l
  | 0, [], _ => ⟨[], rfl, rfl⟩
  | n + 1, v :: cs, h => by
    obtain ⟨⟨m, rfl, hw⟩, h2⟩ := h
    obtain ⟨l, h3, rfl⟩ := fitsL.u8 h2
    simp only [Lit.wf, Bool.and_eq_true, decide_eq_true_eq, IntKind.min, IntKind.max, IntKind.signed, IntKind.bits] at hw
    obtain ⟨m, rfl⟩ : ∃ k : Nat, m = k := ⟨m.toNat, by simp at hw; omega⟩
    have hm : m % 256 = m := by simp at hw; omega
    exact ⟨UInt8.ofNat m :: l, by simp [h3], by simp [cellsOf, hm]⟩
end
end Go.AM

set_option linter.unusedSimpArgs false
set_option linter.unusedVariables false
namespace Go.AM.Fd
open Nat (reduceAdd reduceEqDiff reduceLT reduceLeDiff reduceMul reduceSub)
open Go.Proofs Go.AM.F
theorem fLi_len {x : Li} : (fLi x).length ≤ 25 + x.B.length := by
  unfold fLi
  split
  · rw [chk_len, List.length_cons, enLi_len]; omega
  · simp
section
variable {A0 A1 A2 A3' A4 v : Value} {n : Nat} {Hb K : AHeap} {Q : AQ} {fr : List Value}
--flat{
--}flat
end
end Go.AM.Fd

set_option linter.unusedSimpArgs false
set_option linter.unusedVariables false
namespace Go.AM.Fd
open Go.Proofs Go.AM.F
theorem agg_of {v : Value} (h : ∃ cs, v = .agg cs) : ∃ l : List Value, v = .agg l.toArray := by
  obtain ⟨cs, rfl⟩ := h
  exact ⟨cs.toList, by simp⟩
end Go.AM.Fd

set_option maxRecDepth 100000
namespace Go.AM.F
def f4 : AFunc := ⟨[0, 1, 2, 3, 8, 9, 10, 11, 12, 13, 14, 15, 16, 17, 18, 19, 20, 21, 22, 23, 24, 26, 40, 51, 55, 68, 72, 105, 109, 123, 124, 153, 187],
 .seq (.reg [
 ⟨.mov (.c (.bool false)), .fr 4, none⟩]) <|
 .seq (.seq (.reg [
 ⟨.mov (.fr 3), .tm, none⟩,
 ⟨.callf 30 [(.tm 0)], .fr 21, none⟩]) <|
 .cond (.fr 21)
 (.seq (.reg [
 ⟨.callf 31 [], .tm, none⟩,
 ⟨.mov (.tm 0), .fr 4, none⟩]) <|
 .ret)
 (.skip)) <|
 .seq (.reg [
 ⟨.mov (.fr 0), .tm, none⟩,
 ⟨.mov (.fr 1), .tm, none⟩,
 ⟨.mov (.fr 2), .tm, none⟩,
 ⟨.callf 32 [(.tm 2), (.tm 1), (.tm 0)], .tm, none⟩,
 ⟨.mov (.tm 0), .tm, none⟩,
 ⟨.extract (.tm 0) 0, .tm, none⟩,
 ⟨.extract (.tm 1) 1, .tm, none⟩,
 ⟨.mov (.tm 1), .fr 5, none⟩,
 ⟨.mov (.tm 0), .fr 6, none⟩]) <|
 .seq (.reg [
 ⟨.mov (.fr 0), .tm, none⟩,
 ⟨.mov (.fr 1), .tm, none⟩,
 ⟨.mov (.fr 2), .tm, none⟩,
 ⟨.callf 33 [(.tm 2), (.tm 1), (.tm 0)], .tm, none⟩,
 ⟨.mov (.tm 0), .fr 7, none⟩]) <|
 .seq (.seq (.reg [
 ⟨.mov (.fr 7), .tm, none⟩,
 ⟨.eqv 1 false (.tm 0) (.c (.pointer none)), .fr 22, none⟩]) <|
 .cond (.fr 22)
 (.seq (.reg [
 ⟨.mov (.fr 5), .tm, none⟩,
 ⟨.eqv 1 false (.tm 0) (.c (.pointer none)), .tm, none⟩,
 ⟨.mov (.tm 0), .tm, none⟩,
 ⟨.mov (.fr 6), .tm, some ((.tm 0), true)⟩,
 ⟨.bin .eql (.tm 0) (.c (.int .i64 2)), .tm, some ((.tm 1), true)⟩,
 ⟨.pick (.tm 2) (.tm 0) (.c (.bool false)), .tm, none⟩,
 ⟨.mov (.tm 0), .tm, none⟩,
 ⟨.callf 31 [], .tm, some ((.tm 0), true)⟩,
 ⟨.pick (.tm 1) (.tm 0) (.c (.bool false)), .tm, none⟩,
 ⟨.mov (.tm 0), .fr 4, none⟩]) <|
 .ret)
 (.skip)) <|
 .seq (.seq (.reg [
 ⟨.mov (.fr 6), .tm, none⟩,
 ⟨.bin .neq (.tm 0) (.c (.int .i64 0)), .fr 23, none⟩]) <|
 .cond (.fr 23)
 (.seq (.reg [
 ⟨.mov (.c (.bool false)), .fr 4, none⟩]) <|
 .ret)
 (.skip)) <|
 .seq (.seq (.reg [
 ⟨.mov (.c (.int .i64 0)), .fr 8, none⟩]) <|
 .block 0 (.loop (.seq (.seq (.reg [
 ⟨.mov (.fr 8), .tm, none⟩,
 ⟨.mov (.fr 3), .tm, none⟩,
 ⟨.len false (.tm 0), .tm, none⟩,
 ⟨.bin .lss (.tm 2) (.tm 0), .fr 24, none⟩]) <|
 .cond (.fr 24)
 (.skip)
 (.exit 0)) <|
 .seq (.block 1 (.seq (.reg [
 ⟨.mov (.fr 3), .tm, none⟩,
 ⟨.mov (.fr 8), .tm, none⟩,
 ⟨.iaddr 8 (.tm 1) (.tm 0), .tm, none⟩,
 ⟨.loadn 8 (.tm 0), .tm, none⟩,
 ⟨.new 84 8 [(.int .u8 0), (.slice none 0 0), (.int .u8 0), (.int .u8 0), (.int .i64 0), (.int .i64 0), (.slice none 0 0), (.int .i64 0)], .fr 9, none⟩,
 ⟨.storen 8 (.fr 9) (.tm 0), .no, none⟩]) <|
 .seq (.reg [
 ⟨.faddr 1 (.fr 9), .tm, none⟩,
 ⟨.load1 (.tm 0), .tm, none⟩,
 ⟨.b2s (.tm 0), .tm, none⟩,
 ⟨.s2b 5 (.tm 0), .tm, none⟩,
 ⟨.mov (.tm 0), .fr 10, none⟩]) <|
 .seq (.seq (.reg [
 ⟨.faddr 0 (.fr 9), .tm, none⟩,
 ⟨.load1 (.tm 0), .tm, none⟩,
 ⟨.bin .rem (.tm 0) (.c (.int .u8 8)), .fr 25, none⟩]) <|
 .block 2 (.seq (.seq (.reg [
 ⟨.bin .eql (.fr 25) (.c (.int .u8 0)), .tm, none⟩,
 ⟨.mov (.tm 0), .fr 30, none⟩]) <|
 .cond (.fr 30)
 (.skip)
 (.seq (.reg [
 ⟨.bin .eql (.fr 25) (.c (.int .u8 1)), .tm, none⟩,
 ⟨.mov (.tm 0), .fr 30, none⟩]) <|
 .cond (.fr 30)
 (.skip)
 (.seq (.reg [
 ⟨.bin .eql (.fr 25) (.c (.int .u8 5)), .tm, none⟩,
 ⟨.mov (.tm 0), .fr 30, none⟩]) <|
 .cond (.fr 30)
 (.skip)
 (.seq (.reg [
 ⟨.bin .eql (.fr 25) (.c (.int .u8 6)), .tm, none⟩,
 ⟨.mov (.tm 0), .fr 30, none⟩]) <|
 .cond (.fr 30)
 (.skip)
 (.reg [
 ⟨.bin .eql (.fr 25) (.c (.int .u8 7)), .tm, none⟩,
 ⟨.mov (.tm 0), .fr 30, none⟩]))))) <|
 .cond (.fr 30)
 (.seq (.reg [
 ⟨.mov (.fr 5), .tm, none⟩,
 ⟨.mov (.fr 10), .tm, none⟩,
 ⟨.callf 34 [(.tm 1), (.tm 0)], .tm, none⟩,
 ⟨.mov (.tm 0), .tm, none⟩,
 ⟨.extract (.tm 0) 0, .tm, none⟩,
 ⟨.extract (.tm 1) 1, .tm, none⟩,
 ⟨.mov (.tm 1), .fr 11, none⟩,
 ⟨.mov (.tm 0), .fr 12, none⟩]) <|
 .seq (.reg [
 ⟨.mov (.fr 7), .tm, none⟩,
 ⟨.faddr 1 (.fr 9), .tm, none⟩,
 ⟨.load1 (.tm 0), .tm, none⟩,
 ⟨.b2s (.tm 0), .tm, none⟩,
 ⟨.callf 35 [(.tm 3), (.tm 0)], .tm, none⟩,
 ⟨.mov (.tm 0), .tm, none⟩,
 ⟨.extract (.tm 0) 0, .tm, none⟩,
 ⟨.extract (.tm 1) 1, .tm, none⟩,
 ⟨.mov (.tm 1), .fr 13, none⟩,
 ⟨.mov (.tm 0), .fr 14, none⟩]) <|
 .seq (.reg [
 ⟨.mov (.fr 12), .tm, none⟩,
 ⟨.mov (.fr 14), .tm, none⟩,
 ⟨.bin .neq (.tm 1) (.tm 0), .tm, none⟩,
 ⟨.mov (.tm 0), .tm, none⟩,
 ⟨.mov (.fr 11), .tm, some ((.tm 0), false)⟩,
 ⟨.b2s (.tm 0), .tm, some ((.tm 1), false)⟩,
 ⟨.mov (.fr 13), .tm, some ((.tm 2), false)⟩,
 ⟨.b2s (.tm 0), .tm, some ((.tm 3), false)⟩,
 ⟨.bin .neq (.tm 2) (.tm 0), .tm, some ((.tm 4), false)⟩,
 ⟨.pick (.tm 5) (.c (.bool true)) (.tm 0), .fr 31, none⟩]) <|
 .cond (.fr 31)
 (.seq (.reg [
 ⟨.mov (.c (.bool false)), .fr 4, none⟩]) <|
 .ret)
 (.skip))
 (.seq (.seq (.reg [
 ⟨.faddr 0 (.fr 9), .tm, none⟩,
 ⟨.load1 (.tm 0), .tm, none⟩,
 ⟨.bin .rem (.tm 0) (.c (.int .u8 8)), .tm, none⟩,
 ⟨.bin .eql (.tm 0) (.c (.int .u8 2)), .fr 26, none⟩]) <|
 .cond (.fr 26)
 (.reg [
 ⟨.faddr 2 (.fr 9), .tm, none⟩,
 ⟨.loadn 5 (.tm 0), .tm, none⟩,
 ⟨.callf 36 [(.tm 0)], .tm, none⟩,
 ⟨.mov (.tm 0), .fr 10, none⟩])
 (.skip)) <|
 .seq (.reg [
 ⟨.mov (.fr 10), .tm, none⟩,
 ⟨.b2s (.tm 0), .tm, none⟩,
 ⟨.mov (.tm 0), .fr 15, none⟩]) <|
 .seq (.reg [
 ⟨.mov (.fr 5), .tm, none⟩,
 ⟨.mov (.fr 10), .tm, none⟩,
 ⟨.callf 37 [(.tm 1), (.tm 0)], .tm, none⟩,
 ⟨.mov (.tm 0), .tm, none⟩,
 ⟨.extract (.tm 0) 0, .tm, none⟩,
 ⟨.extract (.tm 1) 1, .tm, none⟩,
 ⟨.mov (.tm 1), .fr 16, none⟩,
 ⟨.mov (.tm 0), .fr 17, none⟩]) <|
 .seq (.reg [
 ⟨.mov (.fr 7), .tm, none⟩,
 ⟨.mov (.fr 15), .tm, none⟩,
 ⟨.s2b 5 (.tm 0), .tm, none⟩,
 ⟨.callf 38 [(.tm 2), (.tm 0)], .tm, none⟩,
 ⟨.mov (.tm 0), .tm, none⟩,
 ⟨.extract (.tm 0) 0, .tm, none⟩,
 ⟨.extract (.tm 1) 1, .tm, none⟩,
 ⟨.mov (.tm 1), .fr 18, none⟩,
 ⟨.mov (.tm 0), .fr 19, none⟩]) <|
 .seq (.seq (.reg [
 ⟨.mov (.fr 17), .tm, none⟩,
 ⟨.mov (.fr 19), .tm, none⟩,
 ⟨.bin .neq (.tm 1) (.tm 0), .tm, none⟩,
 ⟨.mov (.tm 0), .tm, none⟩,
 ⟨.mov (.fr 16), .tm, some ((.tm 0), false)⟩,
 ⟨.b2s (.tm 0), .tm, some ((.tm 1), false)⟩,
 ⟨.mov (.fr 18), .tm, some ((.tm 2), false)⟩,
 ⟨.bin .neq (.tm 1) (.tm 0), .tm, some ((.tm 3), false)⟩,
 ⟨.pick (.tm 4) (.c (.bool true)) (.tm 0), .tm, none⟩,
 ⟨.mov (.tm 0), .tm, none⟩,
 ⟨.mov (.fr 10), .tm, some ((.tm 0), false)⟩,
 ⟨.b2s (.tm 0), .tm, some ((.tm 1), false)⟩,
 ⟨.mov (.fr 15), .tm, some ((.tm 2), false)⟩,
 ⟨.bin .neq (.tm 1) (.tm 0), .tm, some ((.tm 3), false)⟩,
 ⟨.pick (.tm 4) (.c (.bool true)) (.tm 0), .fr 27, none⟩]) <|
 .cond (.fr 27)
 (.seq (.reg [
 ⟨.mov (.c (.bool false)), .fr 4, none⟩]) <|
 .ret)
 (.skip)) <|
 .seq (.seq (.reg [
 ⟨.mov (.c (.int .i64 0)), .fr 20, none⟩]) <|
 .block 3 (.loop (.seq (.seq (.reg [
 ⟨.mov (.fr 20), .tm, none⟩,
 ⟨.mov (.fr 16), .tm, none⟩,
 ⟨.len false (.tm 0), .tm, none⟩,
 ⟨.bin .lss (.tm 2) (.tm 0), .fr 28, none⟩]) <|
 .cond (.fr 28)
 (.skip)
 (.exit 3)) <|
 .seq (.block 4 (.reg [
 ⟨.mov (.fr 16), .tm, none⟩,
 ⟨.mov (.fr 20), .tm, none⟩,
 ⟨.mov (.fr 16), .tm, none⟩,
 ⟨.mov (.fr 20), .tm, none⟩,
 ⟨.iaddr 1 (.tm 1) (.tm 0), .tm, none⟩,
 ⟨.load1 (.tm 0), .tm, none⟩,
 ⟨.bin .add (.tm 0) (.c (.int .u8 1)), .tm, none⟩,
 ⟨.iaddr 1 (.tm 6) (.tm 5), .tm, none⟩,
 ⟨.store1 (.tm 0) (.tm 1), .no, none⟩])) <|
 .reg [
 ⟨.mov (.fr 20), .tm, none⟩,
 ⟨.bin .add (.tm 0) (.c (.int .i64 1)), .tm, none⟩,
 ⟨.mov (.tm 0), .fr 20, none⟩]))) <|
 .seq (.reg [
 ⟨.mov (.fr 10), .tm, none⟩,
 ⟨.b2s (.tm 0), .tm, none⟩,
 ⟨.mov (.fr 15), .tm, none⟩,
 ⟨.bin .neq (.tm 1) (.tm 0), .fr 29, none⟩]) <|
 .cond (.fr 29)
 (.seq (.reg [
 ⟨.mov (.c (.bool false)), .fr 4, none⟩]) <|
 .ret)
 (.skip)))) <|
 .seq (.dreg [
 (⟨.mov (.fr 5), .tm, none⟩, []),
 (⟨.callf 39 [(.tm 0)], .tm, none⟩, []),
 (⟨.mov (.fr 7), .tm, none⟩, []),
 (⟨.nilck (.tm 0), .tm, none⟩, []),
 (⟨.faddr 2 (.tm 0), .tm, none⟩, []),
 (⟨.load1 (.tm 0), .tm, none⟩, [1]),
 (⟨.bin .neq (.tm 4) (.tm 0), .tm, none⟩, []),
 (⟨.mov (.tm 0), .tm, none⟩, []),
 (⟨.mov (.fr 5), .tm, some ((.tm 0), false)⟩, []),
 (⟨.callf 40 [(.tm 0)], .tm, some ((.tm 1), false)⟩, []),
 (⟨.mov (.fr 7), .tm, some ((.tm 2), false)⟩, []),
 (⟨.nilck (.tm 0), .tm, some ((.tm 3), false)⟩, []),
 (⟨.faddr 3 (.tm 0), .tm, some ((.tm 4), false)⟩, []),
 (⟨.load1 (.tm 0), .tm, some ((.tm 5), false)⟩, [9]),
 (⟨.bin .neq (.tm 4) (.tm 0), .tm, some ((.tm 6), false)⟩, []),
 (⟨.pick (.tm 7) (.c (.bool true)) (.tm 0), .tm, none⟩, []),
 (⟨.mov (.tm 0), .tm, none⟩, []),
 (⟨.mov (.fr 5), .tm, some ((.tm 0), false)⟩, []),
 (⟨.callf 41 [(.tm 0)], .tm, some ((.tm 1), false)⟩, []),
 (⟨.mov (.fr 7), .tm, some ((.tm 2), false)⟩, []),
 (⟨.nilck (.tm 0), .tm, some ((.tm 3), false)⟩, []),
 (⟨.faddr 4 (.tm 0), .tm, some ((.tm 4), false)⟩, []),
 (⟨.load1 (.tm 0), .tm, some ((.tm 5), false)⟩, [18]),
 (⟨.bin .neq (.tm 4) (.tm 0), .tm, some ((.tm 6), false)⟩, []),
 (⟨.pick (.tm 7) (.c (.bool true)) (.tm 0), .tm, none⟩, []),
 (⟨.mov (.tm 0), .tm, none⟩, []),
 (⟨.mov (.fr 5), .tm, some ((.tm 0), false)⟩, []),
 (⟨.callf 42 [(.tm 0)], .tm, some ((.tm 1), false)⟩, []),
 (⟨.mov (.fr 7), .tm, some ((.tm 2), false)⟩, []),
 (⟨.nilck (.tm 0), .tm, some ((.tm 3), false)⟩, []),
 (⟨.faddr 5 (.tm 0), .tm, some ((.tm 4), false)⟩, []),
 (⟨.load1 (.tm 0), .tm, some ((.tm 5), false)⟩, [27]),
 (⟨.bin .neq (.tm 4) (.tm 0), .tm, some ((.tm 6), false)⟩, []),
 (⟨.pick (.tm 7) (.c (.bool true)) (.tm 0), .fr 32, none⟩, [])]) <|
 .cond (.fr 32)
 (.seq (.reg [
 ⟨.mov (.c (.bool false)), .fr 4, none⟩]) <|
 .ret)
 (.skip))) <|
 .reg [
 ⟨.mov (.fr 8), .tm, none⟩,
 ⟨.bin .add (.tm 0) (.c (.int .i64 1)), .tm, none⟩,
 ⟨.mov (.tm 0), .fr 8, none⟩]))) <|
 .seq (.reg [
 ⟨.callf 31 [], .tm, none⟩,
 ⟨.mov (.tm 0), .fr 4, none⟩]) <|
 .ret, [.t 4]⟩
def f8 : AFunc := ⟨[0, 2, 3, 4, 5, 6, 7, 8, 9, 10, 11, 12, 13, 15, 22, 31, 51, 55, 66, 89, 93, 104, 113, 120],
 .seq (.reg [
 ⟨.mov (.c (.bool false)), .fr 1, none⟩]) <|
 .seq (.seq (.reg [
 ⟨.mov (.fr 0), .tm, none⟩,
 ⟨.callf 30 [(.tm 0)], .fr 13, none⟩]) <|
 .cond (.fr 13)
 (.seq (.reg [
 ⟨.callf 31 [], .tm, none⟩,
 ⟨.mov (.tm 0), .fr 1, none⟩]) <|
 .ret)
 (.skip)) <|
 .seq (.reg [
 ⟨.new 113 1 [(.slice none 0 0)], .fr 2, none⟩]) <|
 .seq (.reg [
 ⟨.build [(.slice none 0 0)] [], .tm, none⟩,
 ⟨.box 117 1 (.tm 0), .tm, none⟩,
 ⟨.mov (.tm 0), .fr 3, none⟩]) <|
 .seq (.seq (.reg [
 ⟨.mov (.c (.int .i64 0)), .fr 4, none⟩]) <|
 .block 0 (.loop (.seq (.seq (.reg [
 ⟨.mov (.fr 4), .tm, none⟩,
 ⟨.mov (.fr 0), .tm, none⟩,
 ⟨.len false (.tm 0), .tm, none⟩,
 ⟨.bin .lss (.tm 2) (.tm 0), .fr 14, none⟩]) <|
 .cond (.fr 14)
 (.skip)
 (.exit 0)) <|
 .seq (.block 1 (.seq (.reg [
 ⟨.mov (.fr 0), .tm, none⟩,
 ⟨.mov (.fr 4), .tm, none⟩,
 ⟨.iaddr 8 (.tm 1) (.tm 0), .tm, none⟩,
 ⟨.loadn 8 (.tm 0), .tm, none⟩,
 ⟨.new 84 8 [(.int .u8 0), (.slice none 0 0), (.int .u8 0), (.int .u8 0), (.int .i64 0), (.int .i64 0), (.slice none 0 0), (.int .i64 0)], .fr 5, none⟩,
 ⟨.storen 8 (.fr 5) (.tm 0), .no, none⟩]) <|
 .seq (.seq (.reg [
 ⟨.faddr 0 (.fr 5), .tm, none⟩,
 ⟨.load1 (.tm 0), .tm, none⟩,
 ⟨.bin .rem (.tm 0) (.c (.int .u8 8)), .fr 15, none⟩]) <|
 .block 2 (.seq (.reg [
 ⟨.bin .eql (.fr 15) (.c (.int .u8 6)), .tm, none⟩,
 ⟨.mov (.tm 0), .fr 18, none⟩]) <|
 .cond (.fr 18)
 (.seq (.reg [
 ⟨.faddr 7 (.fr 5), .tm, none⟩,
 ⟨.load1 (.tm 0), .tm, none⟩,
 ⟨.callf 55 [(.fr 2), (.tm 0)], .tm, none⟩,
 ⟨.mov (.tm 0), .tm, none⟩,
 ⟨.extract (.tm 0) 0, .tm, none⟩,
 ⟨.extract (.tm 1) 1, .tm, none⟩,
 ⟨.mov (.tm 1), .fr 6, none⟩,
 ⟨.mov (.tm 0), .fr 7, none⟩]) <|
 .seq (.reg [
 ⟨.mov (.fr 3), .tm, none⟩,
 ⟨.faddr 7 (.fr 5), .tm, none⟩,
 ⟨.load1 (.tm 0), .tm, none⟩,
 ⟨.callf 56 [(.tm 2), (.tm 0)], .tm, none⟩,
 ⟨.mov (.tm 0), .tm, none⟩,
 ⟨.extract (.tm 0) 0, .tm, none⟩,
 ⟨.extract (.tm 1) 1, .tm, none⟩,
 ⟨.mov (.tm 1), .fr 8, none⟩,
 ⟨.mov (.tm 0), .fr 9, none⟩]) <|
 .seq (.seq (.reg [
 ⟨.mov (.fr 7), .tm, none⟩,
 ⟨.mov (.fr 9), .tm, none⟩,
 ⟨.bin .neq (.tm 1) (.tm 0), .tm, none⟩,
 ⟨.mov (.tm 0), .tm, none⟩,
 ⟨.mov (.fr 6), .tm, some ((.tm 0), false)⟩,
 ⟨.b2s (.tm 0), .tm, some ((.tm 1), false)⟩,
 ⟨.mov (.fr 8), .tm, some ((.tm 2), false)⟩,
 ⟨.bin .neq (.tm 1) (.tm 0), .tm, some ((.tm 3), false)⟩,
 ⟨.pick (.tm 4) (.c (.bool true)) (.tm 0), .fr 19, none⟩]) <|
 .cond (.fr 19)
 (.seq (.reg [
 ⟨.mov (.c (.bool false)), .fr 1, none⟩]) <|
 .ret)
 (.skip)) <|
 .seq (.reg [
 ⟨.mov (.c (.int .i64 0)), .fr 10, none⟩]) <|
 .block 5 (.loop (.seq (.seq (.reg [
 ⟨.mov (.fr 10), .tm, none⟩,
 ⟨.mov (.fr 6), .tm, none⟩,
 ⟨.len false (.tm 0), .tm, none⟩,
 ⟨.bin .lss (.tm 2) (.tm 0), .fr 20, none⟩]) <|
 .cond (.fr 20)
 (.skip)
 (.exit 5)) <|
 .seq (.block 6 (.reg [
 ⟨.mov (.fr 6), .tm, none⟩,
 ⟨.mov (.fr 10), .tm, none⟩,
 ⟨.mov (.fr 6), .tm, none⟩,
 ⟨.mov (.fr 10), .tm, none⟩,
 ⟨.iaddr 1 (.tm 1) (.tm 0), .tm, none⟩,
 ⟨.load1 (.tm 0), .tm, none⟩,
 ⟨.bin .add (.tm 0) (.c (.int .u8 1)), .tm, none⟩,
 ⟨.iaddr 1 (.tm 6) (.tm 5), .tm, none⟩,
 ⟨.store1 (.tm 0) (.tm 1), .no, none⟩])) <|
 .reg [
 ⟨.mov (.fr 10), .tm, none⟩,
 ⟨.bin .add (.tm 0) (.c (.int .i64 1)), .tm, none⟩,
 ⟨.mov (.tm 0), .fr 10, none⟩])))
 (.seq (.reg [
 ⟨.bin .eql (.fr 15) (.c (.int .u8 7)), .tm, none⟩,
 ⟨.mov (.tm 0), .fr 21, none⟩]) <|
 .cond (.fr 21)
 (.seq (.dreg [
 (⟨.faddr 7 (.fr 5), .tm, none⟩, []),
 (⟨.load1 (.tm 0), .tm, none⟩, []),
 (⟨.callf 57 [(.fr 2), (.tm 0)], .tm, none⟩, []),
 (⟨.mov (.fr 3), .tm, none⟩, []),
 (⟨.faddr 7 (.fr 5), .tm, none⟩, []),
 (⟨.load1 (.tm 0), .tm, none⟩, [2]),
 (⟨.callf 58 [(.tm 2), (.tm 0)], .tm, none⟩, []),
 (⟨.bin .neq (.tm 4) (.tm 0), .fr 22, none⟩, [])]) <|
 .cond (.fr 22)
 (.seq (.reg [
 ⟨.mov (.c (.bool false)), .fr 1, none⟩]) <|
 .ret)
 (.skip))
 (.seq (.reg [
 ⟨.faddr 1 (.fr 5), .tm, none⟩,
 ⟨.load1 (.tm 0), .tm, none⟩,
 ⟨.b2s (.tm 0), .tm, none⟩,
 ⟨.s2b 5 (.tm 0), .tm, none⟩,
 ⟨.mov (.tm 0), .fr 11, none⟩]) <|
 .seq (.seq (.dreg [
 (⟨.mov (.fr 11), .tm, none⟩, []),
 (⟨.callf 59 [(.fr 2), (.tm 0)], .tm, none⟩, []),
 (⟨.mov (.fr 3), .tm, none⟩, []),
 (⟨.faddr 1 (.fr 5), .tm, none⟩, []),
 (⟨.load1 (.tm 0), .tm, none⟩, [1]),
 (⟨.b2s (.tm 0), .tm, none⟩, [1]),
 (⟨.callf 60 [(.tm 3), (.tm 0)], .tm, none⟩, []),
 (⟨.bin .neq (.tm 5) (.tm 0), .tm, none⟩, []),
 (⟨.mov (.tm 0), .tm, none⟩, []),
 (⟨.mov (.fr 11), .tm, some ((.tm 0), false)⟩, []),
 (⟨.b2s (.tm 0), .tm, some ((.tm 1), false)⟩, []),
 (⟨.faddr 1 (.fr 5), .tm, some ((.tm 2), false)⟩, []),
 (⟨.load1 (.tm 0), .tm, some ((.tm 3), false)⟩, []),
 (⟨.b2s (.tm 0), .tm, some ((.tm 4), false)⟩, []),
 (⟨.bin .neq (.tm 3) (.tm 0), .tm, some ((.tm 5), false)⟩, []),
 (⟨.pick (.tm 6) (.c (.bool true)) (.tm 0), .fr 16, none⟩, [])]) <|
 .cond (.fr 16)
 (.seq (.reg [
 ⟨.mov (.c (.bool false)), .fr 1, none⟩]) <|
 .ret)
 (.skip)) <|
 .seq (.reg [
 ⟨.mov (.c (.int .i64 0)), .fr 12, none⟩]) <|
 .block 3 (.loop (.seq (.seq (.reg [
 ⟨.mov (.fr 12), .tm, none⟩,
 ⟨.mov (.fr 11), .tm, none⟩,
 ⟨.len false (.tm 0), .tm, none⟩,
 ⟨.bin .lss (.tm 2) (.tm 0), .fr 17, none⟩]) <|
 .cond (.fr 17)
 (.skip)
 (.exit 3)) <|
 .seq (.block 4 (.reg [
 ⟨.mov (.fr 11), .tm, none⟩,
 ⟨.mov (.fr 12), .tm, none⟩,
 ⟨.mov (.fr 11), .tm, none⟩,
 ⟨.mov (.fr 12), .tm, none⟩,
 ⟨.iaddr 1 (.tm 1) (.tm 0), .tm, none⟩,
 ⟨.load1 (.tm 0), .tm, none⟩,
 ⟨.bin .add (.tm 0) (.c (.int .u8 1)), .tm, none⟩,
 ⟨.iaddr 1 (.tm 6) (.tm 5), .tm, none⟩,
 ⟨.store1 (.tm 0) (.tm 1), .no, none⟩])) <|
 .reg [
 ⟨.mov (.fr 12), .tm, none⟩,
 ⟨.bin .add (.tm 0) (.c (.int .i64 1)), .tm, none⟩,
 ⟨.mov (.tm 0), .fr 12, none⟩])))))) <|
 .seq (.dreg [
 (⟨.callf 61 [(.fr 2)], .tm, none⟩, []),
 (⟨.mov (.fr 3), .tm, none⟩, []),
 (⟨.nilck (.tm 0), .tm, none⟩, []),
 (⟨.faddr 0 (.tm 0), .tm, none⟩, []),
 (⟨.load1 (.tm 0), .tm, none⟩, [0]),
 (⟨.len false (.tm 0), .tm, none⟩, []),
 (⟨.bin .neq (.tm 5) (.tm 0), .fr 23, none⟩, [])]) <|
 .cond (.fr 23)
 (.seq (.reg [
 ⟨.mov (.c (.bool false)), .fr 1, none⟩]) <|
 .ret)
 (.skip))) <|
 .reg [
 ⟨.mov (.fr 4), .tm, none⟩,
 ⟨.bin .add (.tm 0) (.c (.int .i64 1)), .tm, none⟩,
 ⟨.mov (.tm 0), .fr 4, none⟩]))) <|
 .seq (.reg [
 ⟨.callf 31 [], .tm, none⟩,
 ⟨.mov (.tm 0), .fr 1, none⟩]) <|
 .ret, [.t 1]⟩
def f9 : AFunc := ⟨[0, 2, 3, 4, 5, 6, 7, 8, 9, 10, 11, 12, 13, 14, 15, 16, 17, 18, 19, 20, 21, 22, 23, 24, 25, 26, 28, 43, 47, 56, 64, 72, 98, 101, 112, 121, 131, 139, 147, 148, 164, 170, 177, 182],
 .seq (.reg [
 ⟨.mov (.c (.bool false)), .fr 1, none⟩]) <|
 .seq (.seq (.reg [
 ⟨.mov (.fr 0), .tm, none⟩,
 ⟨.callf 30 [(.tm 0)], .fr 26, none⟩]) <|
 .cond (.fr 26)
 (.seq (.reg [
 ⟨.callf 31 [], .tm, none⟩,
 ⟨.mov (.tm 0), .fr 1, none⟩]) <|
 .ret)
 (.skip)) <|
 .seq (.reg [
 ⟨.callf 32 [(.c (.int .u8 1)), (.c (.int .u8 2)), (.c (.int .i64 1))], .tm, none⟩,
 ⟨.mov (.tm 0), .tm, none⟩,
 ⟨.extract (.tm 0) 0, .tm, none⟩,
 ⟨.extract (.tm 1) 1, .tm, none⟩,
 ⟨.mov (.tm 1), .fr 2, none⟩,
 ⟨.mov (.tm 0), .fr 3, none⟩]) <|
 .seq (.reg [
 ⟨.callf 32 [(.c (.int .u8 2)), (.c (.int .u8 1)), (.c (.int .i64 1))], .tm, none⟩,
 ⟨.mov (.tm 0), .tm, none⟩,
 ⟨.extract (.tm 0) 0, .tm, none⟩,
 ⟨.extract (.tm 1) 1, .tm, none⟩,
 ⟨.mov (.tm 1), .fr 4, none⟩,
 ⟨.mov (.tm 0), .fr 5, none⟩]) <|
 .seq (.seq (.reg [
 ⟨.mov (.fr 3), .tm, none⟩,
 ⟨.bin .neq (.tm 0) (.c (.int .i64 0)), .tm, none⟩,
 ⟨.mov (.tm 0), .tm, none⟩,
 ⟨.mov (.fr 5), .tm, some ((.tm 0), false)⟩,
 ⟨.bin .neq (.tm 0) (.c (.int .i64 0)), .tm, some ((.tm 1), false)⟩,
 ⟨.pick (.tm 2) (.c (.bool true)) (.tm 0), .fr 27, none⟩]) <|
 .cond (.fr 27)
 (.seq (.reg [
 ⟨.mov (.c (.bool false)), .fr 1, none⟩]) <|
 .ret)
 (.skip)) <|
 .seq (.reg [
 ⟨.new 113 1 [(.slice none 0 0)], .fr 6, none⟩,
 ⟨.new 113 1 [(.slice none 0 0)], .fr 7, none⟩]) <|
 .seq (.reg [
 ⟨.mov (.c (.slice none 0 0)), .fr 8, none⟩]) <|
 .seq (.reg [
 ⟨.mov (.c (.int .i64 0)), .fr 9, none⟩]) <|
 .seq (.reg [
 ⟨.mov (.c (.int .i64 1)), .fr 10, none⟩]) <|
 .seq (.seq (.reg [
 ⟨.mov (.c (.int .i64 0)), .fr 11, none⟩]) <|
 .block 0 (.loop (.seq (.seq (.reg [
 ⟨.mov (.fr 11), .tm, none⟩,
 ⟨.mov (.fr 0), .tm, none⟩,
 ⟨.len false (.tm 0), .tm, none⟩,
 ⟨.bin .lss (.tm 2) (.tm 0), .fr 28, none⟩]) <|
 .cond (.fr 28)
 (.skip)
 (.exit 0)) <|
 .seq (.block 1 (.seq (.reg [
 ⟨.mov (.fr 0), .tm, none⟩,
 ⟨.mov (.fr 11), .tm, none⟩,
 ⟨.iaddr 8 (.tm 1) (.tm 0), .tm, none⟩,
 ⟨.loadn 8 (.tm 0), .tm, none⟩,
 ⟨.new 84 8 [(.int .u8 0), (.slice none 0 0), (.int .u8 0), (.int .u8 0), (.int .i64 0), (.int .i64 0), (.slice none 0 0), (.int .i64 0)], .fr 12, none⟩,
 ⟨.storen 8 (.fr 12) (.tm 0), .no, none⟩]) <|
 .seq (.reg [
 ⟨.faddr 0 (.fr 12), .tm, none⟩,
 ⟨.load1 (.tm 0), .tm, none⟩,
 ⟨.bin .rem (.tm 0) (.c (.int .u8 8)), .fr 29, none⟩]) <|
 .block 2 (.seq (.seq (.reg [
 ⟨.bin .eql (.fr 29) (.c (.int .u8 0)), .tm, none⟩,
 ⟨.mov (.tm 0), .fr 33, none⟩]) <|
 .cond (.fr 33)
 (.skip)
 (.reg [
 ⟨.bin .eql (.fr 29) (.c (.int .u8 1)), .tm, none⟩,
 ⟨.mov (.tm 0), .fr 33, none⟩])) <|
 .cond (.fr 33)
 (.seq (.reg [
 ⟨.mov (.fr 2), .tm, none⟩,
 ⟨.faddr 1 (.fr 12), .tm, none⟩,
 ⟨.load1 (.tm 0), .tm, none⟩,
 ⟨.callf 34 [(.tm 2), (.tm 0)], .tm, none⟩,
 ⟨.mov (.tm 0), .tm, none⟩,
 ⟨.extract (.tm 0) 0, .tm, none⟩,
 ⟨.extract (.tm 1) 1, .tm, none⟩,
 ⟨.mov (.tm 1), .fr 13, none⟩,
 ⟨.mov (.tm 0), .fr 14, none⟩]) <|
 .seq (.seq (.reg [
 ⟨.mov (.fr 14), .tm, none⟩,
 ⟨.bin .neq (.tm 0) (.c (.int .i64 0)), .fr 34, none⟩]) <|
 .cond (.fr 34)
 (.exit 1)
 (.skip)) <|
 .seq (.reg [
 ⟨.mov (.fr 8), .tm, none⟩,
 ⟨.faddr 1 (.fr 12), .tm, none⟩,
 ⟨.load1 (.tm 0), .tm, none⟩,
 ⟨.b2s (.tm 0), .tm, none⟩,
 ⟨.bslice 9 1 1 [(.string ByteArray.empty)] [(0, 1, (.tm 0))], .tm, none⟩,
 ⟨.app 9 1 16 (.tm 4) (.tm 0), .tm, none⟩,
 ⟨.mov (.tm 0), .fr 8, none⟩]) <|
 .reg [
 ⟨.mov (.fr 13), .tm, none⟩,
 ⟨.callf 59 [(.fr 6), (.tm 0)], .tm, none⟩])
 (.seq (.reg [
 ⟨.bin .eql (.fr 29) (.c (.int .u8 2)), .tm, none⟩,
 ⟨.mov (.tm 0), .fr 35, none⟩]) <|
 .cond (.fr 35)
 (.seq (.reg [
 ⟨.mov (.fr 4), .tm, none⟩,
 ⟨.faddr 1 (.fr 12), .tm, none⟩,
 ⟨.load1 (.tm 0), .tm, none⟩,
 ⟨.callf 34 [(.tm 2), (.tm 0)], .tm, none⟩,
 ⟨.mov (.tm 0), .tm, none⟩,
 ⟨.extract (.tm 0) 0, .tm, none⟩,
 ⟨.extract (.tm 1) 1, .tm, none⟩,
 ⟨.mov (.tm 1), .fr 15, none⟩,
 ⟨.mov (.tm 0), .fr 16, none⟩]) <|
 .seq (.seq (.reg [
 ⟨.mov (.fr 16), .tm, none⟩,
 ⟨.bin .eql (.tm 0) (.c (.int .i64 0)), .fr 36, none⟩]) <|
 .cond (.fr 36)
 (.reg [
 ⟨.mov (.fr 15), .tm, none⟩,
 ⟨.callf 59 [(.fr 7), (.tm 0)], .tm, none⟩])
 (.skip)) <|
 .seq (.reg [
 ⟨.callf 55 [(.fr 7), (.c (.int .i64 0))], .tm, none⟩,
 ⟨.mov (.tm 0), .tm, none⟩,
 ⟨.extract (.tm 0) 0, .tm, none⟩,
 ⟨.extract (.tm 1) 1, .tm, none⟩,
 ⟨.mov (.tm 1), .fr 17, none⟩,
 ⟨.mov (.tm 0), .fr 18, none⟩]) <|
 .seq (.seq (.reg [
 ⟨.mov (.fr 18), .tm, none⟩,
 ⟨.bin .eql (.tm 0) (.c (.int .i64 0)), .fr 37, none⟩]) <|
 .cond (.fr 37)
 (.reg [
 ⟨.mov (.fr 2), .tm, none⟩,
 ⟨.mov (.fr 17), .tm, none⟩,
 ⟨.callf 37 [(.tm 1), (.tm 0)], .tm, none⟩])
 (.skip)) <|
 .seq (.reg [
 ⟨.mov (.fr 2), .tm, none⟩,
 ⟨.callf 41 [(.tm 0)], .tm, none⟩,
 ⟨.mov (.fr 4), .tm, none⟩,
 ⟨.callf 40 [(.tm 0)], .tm, none⟩,
 ⟨.bin .gtr (.tm 2) (.tm 0), .fr 38, none⟩]) <|
 .cond (.fr 38)
 (.seq (.reg [
 ⟨.mov (.c (.bool false)), .fr 1, none⟩]) <|
 .ret)
 (.skip))
 (.seq (.reg [
 ⟨.bin .eql (.fr 29) (.c (.int .u8 3)), .tm, none⟩,
 ⟨.mov (.tm 0), .fr 39, none⟩]) <|
 .cond (.fr 39)
 (.seq (.dreg [
 (⟨.mov (.fr 2), .tm, none⟩, []),
 (⟨.callf 39 [(.tm 0)], .tm, none⟩, []),
 (⟨.bin .add (.tm 0) (.c (.int .i64 1)), .tm, none⟩, []),
 (⟨.faddr 0 (.fr 12), .tm, none⟩, []),
 (⟨.load1 (.tm 0), .tm, none⟩, [1]),
 (⟨.bin .quo (.tm 0) (.c (.int .u8 8)), .tm, none⟩, []),
 (⟨.i2i .i64 (.tm 0), .tm, none⟩, []),
 (⟨.bin .add (.tm 4) (.tm 0), .tm, none⟩, []),
 (⟨.mov (.tm 0), .fr 10, none⟩, [])]) <|
 .seq (.reg [
 ⟨.mov (.fr 10), .tm, none⟩,
 ⟨.callf 32 [(.c (.int .u8 1)), (.c (.int .u8 2)), (.tm 0)], .tm, none⟩,
 ⟨.mov (.tm 0), .tm, none⟩,
 ⟨.extract (.tm 0) 0, .tm, none⟩,
 ⟨.extract (.tm 1) 1, .tm, none⟩,
 ⟨.mov (.tm 1), .fr 19, none⟩,
 ⟨.mov (.tm 0), .fr 20, none⟩]) <|
 .seq (.seq (.reg [
 ⟨.mov (.fr 20), .tm, none⟩,
 ⟨.bin .neq (.tm 0) (.c (.int .i64 0)), .fr 40, none⟩]) <|
 .cond (.fr 40)
 (.seq (.reg [
 ⟨.mov (.c (.bool false)), .fr 1, none⟩]) <|
 .ret)
 (.skip)) <|
 .seq (.seq (.reg [
 ⟨.mov (.fr 2), .tm, none⟩,
 ⟨.callf 39 [(.tm 0)], .tm, none⟩,
 ⟨.bin .add (.tm 0) (.c (.int .i64 1)), .tm, none⟩,
 ⟨.mov (.tm 0), .fr 21, none⟩]) <|
 .block 3 (.loop (.seq (.seq (.reg [
 ⟨.mov (.fr 21), .tm, none⟩,
 ⟨.mov (.fr 10), .tm, none⟩,
 ⟨.bin .lss (.tm 1) (.tm 0), .fr 41, none⟩]) <|
 .cond (.fr 41)
 (.skip)
 (.exit 3)) <|
 .seq (.block 4 (.reg [
 ⟨.mov (.fr 8), .tm, none⟩,
 ⟨.bslice 9 1 1 [(.string ByteArray.empty)] [(0, 1, (.c (.string ⟨#[110, 111, 110, 101]⟩)))], .tm, none⟩,
 ⟨.app 9 1 16 (.tm 1) (.tm 0), .tm, none⟩,
 ⟨.mov (.tm 0), .fr 8, none⟩])) <|
 .reg [
 ⟨.mov (.fr 21), .tm, none⟩,
 ⟨.bin .add (.tm 0) (.c (.int .i64 1)), .tm, none⟩,
 ⟨.mov (.tm 0), .fr 21, none⟩]))) <|
 .reg [
 ⟨.mov (.fr 19), .tm, none⟩,
 ⟨.mov (.tm 0), .fr 2, none⟩])
 (.seq (.reg [
 ⟨.bin .eql (.fr 29) (.c (.int .u8 6)), .tm, none⟩,
 ⟨.mov (.tm 0), .fr 42, none⟩]) <|
 .cond (.fr 42)
 (.reg [
 ⟨.faddr 7 (.fr 12), .tm, none⟩,
 ⟨.load1 (.tm 0), .tm, none⟩,
 ⟨.callf 55 [(.fr 6), (.tm 0)], .tm, none⟩])
 (.seq (.reg [
 ⟨.bin .eql (.fr 29) (.c (.int .u8 7)), .tm, none⟩,
 ⟨.mov (.tm 0), .fr 43, none⟩]) <|
 .cond (.fr 43)
 (.reg [
 ⟨.faddr 7 (.fr 12), .tm, none⟩,
 ⟨.load1 (.tm 0), .tm, none⟩,
 ⟨.callf 57 [(.fr 6), (.tm 0)], .tm, none⟩])
 (.seq (.reg [
 ⟨.faddr 7 (.fr 12), .tm, none⟩,
 ⟨.load1 (.tm 0), .tm, none⟩,
 ⟨.callf 55 [(.fr 6), (.tm 0)], .tm, none⟩,
 ⟨.mov (.tm 0), .tm, none⟩,
 ⟨.extract (.tm 0) 0, .tm, none⟩,
 ⟨.extract (.tm 1) 1, .tm, none⟩,
 ⟨.mov (.tm 1), .fr 22, none⟩,
 ⟨.mov (.tm 0), .fr 23, none⟩]) <|
 .seq (.seq (.reg [
 ⟨.mov (.fr 23), .tm, none⟩,
 ⟨.bin .neq (.tm 0) (.c (.int .i64 0)), .fr 30, none⟩]) <|
 .cond (.fr 30)
 (.exit 1)
 (.skip)) <|
 .seq (.reg [
 ⟨.mov (.fr 4), .tm, none⟩,
 ⟨.mov (.fr 22), .tm, none⟩,
 ⟨.callf 37 [(.tm 1), (.tm 0)], .tm, none⟩,
 ⟨.mov (.tm 0), .tm, none⟩,
 ⟨.extract (.tm 0) 0, .tm, none⟩,
 ⟨.extract (.tm 1) 1, .tm, none⟩,
 ⟨.mov (.tm 1), .fr 24, none⟩,
 ⟨.mov (.tm 0), .fr 25, none⟩]) <|
 .seq (.seq (.reg [
 ⟨.mov (.fr 25), .tm, none⟩,
 ⟨.bin .eql (.tm 0) (.c (.int .i64 180)), .fr 31, none⟩]) <|
 .cond (.fr 31)
 (.exit 1)
 (.skip)) <|
 .seq (.seq (.dreg [
 (⟨.mov (.fr 25), .tm, none⟩, []),
 (⟨.bin .neq (.tm 0) (.c (.int .i64 0)), .tm, none⟩, []),
 (⟨.mov (.tm 0), .tm, none⟩, []),
 (⟨.mov (.fr 4), .tm, some ((.tm 0), false)⟩, []),
 (⟨.callf 40 [(.tm 0)], .tm, some ((.tm 1), false)⟩, []),
 (⟨.mov (.fr 9), .tm, some ((.tm 2), false)⟩, []),
 (⟨.bin .leq (.tm 1) (.tm 0), .tm, some ((.tm 3), false)⟩, []),
 (⟨.pick (.tm 4) (.c (.bool true)) (.tm 0), .tm, none⟩, []),
 (⟨.mov (.tm 0), .tm, none⟩, []),
 (⟨.mov (.fr 4), .tm, some ((.tm 0), false)⟩, []),
 (⟨.callf 40 [(.tm 0)], .tm, some ((.tm 1), false)⟩, []),
 (⟨.mov (.fr 8), .tm, some ((.tm 2), false)⟩, []),
 (⟨.len false (.tm 0), .tm, some ((.tm 3), false)⟩, []),
 (⟨.bin .gtr (.tm 2) (.tm 0), .tm, some ((.tm 4), false)⟩, []),
 (⟨.pick (.tm 5) (.c (.bool true)) (.tm 0), .tm, none⟩, []),
 (⟨.mov (.tm 0), .tm, none⟩, []),
 (⟨.mov (.fr 24), .tm, some ((.tm 0), false)⟩, []),
 (⟨.b2s (.tm 0), .tm, some ((.tm 1), false)⟩, []),
 (⟨.mov (.fr 8), .tm, some ((.tm 2), false)⟩, []),
 (⟨.mov (.fr 4), .tm, some ((.tm 3), false)⟩, []),
 (⟨.callf 40 [(.tm 0)], .tm, some ((.tm 4), false)⟩, [17]),
 (⟨.bin .sub (.tm 0) (.c (.int .i64 1)), .tm, some ((.tm 5), false)⟩, []),
 (⟨.iaddr 1 (.tm 3) (.tm 0), .tm, some ((.tm 6), false)⟩, []),
 (⟨.load1 (.tm 0), .tm, some ((.tm 7), false)⟩, []),
 (⟨.bin .neq (.tm 6) (.tm 0), .tm, some ((.tm 8), false)⟩, []),
 (⟨.pick (.tm 9) (.c (.bool true)) (.tm 0), .fr 32, none⟩, [])]) <|
 .cond (.fr 32)
 (.seq (.reg [
 ⟨.mov (.c (.bool false)), .fr 1, none⟩]) <|
 .ret)
 (.skip)) <|
 .reg [
 ⟨.mov (.fr 4), .tm, none⟩,
 ⟨.callf 40 [(.tm 0)], .tm, none⟩,
 ⟨.mov (.tm 0), .fr 9, none⟩])))))))) <|
 .reg [
 ⟨.mov (.fr 11), .tm, none⟩,
 ⟨.bin .add (.tm 0) (.c (.int .i64 1)), .tm, none⟩,
 ⟨.mov (.tm 0), .fr 11, none⟩]))) <|
 .seq (.reg [
 ⟨.mov (.fr 4), .tm, none⟩,
 ⟨.callf 42 [(.tm 0)], .tm, none⟩,
 ⟨.mov (.fr 4), .tm, none⟩,
 ⟨.callf 40 [(.tm 0)], .tm, none⟩,
 ⟨.bin .leq (.tm 2) (.tm 0), .tm, none⟩,
 ⟨.mov (.tm 0), .tm, none⟩,
 ⟨.callf 31 [], .tm, some ((.tm 0), true)⟩,
 ⟨.pick (.tm 1) (.tm 0) (.c (.bool false)), .tm, none⟩,
 ⟨.mov (.tm 0), .fr 1, none⟩]) <|
 .ret, [.t 1]⟩
def f30 : AFunc := ⟨[0, 2, 3, 4, 7, 11, 34],
 .seq (.reg [
 ⟨.mov (.c (.bool false)), .fr 1, none⟩]) <|
 .seq (.seq (.reg [
 ⟨.mov (.fr 0), .tm, none⟩,
 ⟨.len false (.tm 0), .tm, none⟩,
 ⟨.bin .gtr (.tm 0) (.c (.int .i64 200)), .fr 4, none⟩]) <|
 .cond (.fr 4)
 (.seq (.reg [
 ⟨.mov (.c (.bool true)), .fr 1, none⟩]) <|
 .ret)
 (.skip)) <|
 .seq (.reg [
 ⟨.mov (.c (.int .i64 0)), .fr 2, none⟩]) <|
 .seq (.seq (.reg [
 ⟨.mov (.c (.int .i64 0)), .fr 3, none⟩]) <|
 .block 0 (.loop (.seq (.seq (.reg [
 ⟨.mov (.fr 3), .tm, none⟩,
 ⟨.mov (.fr 0), .tm, none⟩,
 ⟨.len false (.tm 0), .tm, none⟩,
 ⟨.bin .lss (.tm 2) (.tm 0), .fr 5, none⟩]) <|
 .cond (.fr 5)
 (.skip)
 (.exit 0)) <|
 .seq (.block 1 (.seq (.seq (.reg [
 ⟨.mov (.fr 0), .tm, none⟩,
 ⟨.mov (.fr 3), .tm, none⟩,
 ⟨.iaddr 8 (.tm 1) (.tm 0), .tm, none⟩,
 ⟨.faddr 1 (.tm 0), .tm, none⟩,
 ⟨.load1 (.tm 0), .tm, none⟩,
 ⟨.len false (.tm 0), .tm, none⟩,
 ⟨.mov (.fr 2), .tm, none⟩,
 ⟨.bin .sub (.c (.int .i64 6000)) (.tm 0), .tm, none⟩,
 ⟨.bin .gtr (.tm 2) (.tm 0), .tm, none⟩,
 ⟨.mov (.tm 0), .tm, none⟩,
 ⟨.mov (.fr 0), .tm, some ((.tm 0), false)⟩,
 ⟨.mov (.fr 3), .tm, some ((.tm 1), false)⟩,
 ⟨.iaddr 8 (.tm 1) (.tm 0), .tm, some ((.tm 2), false)⟩,
 ⟨.faddr 2 (.tm 0), .tm, some ((.tm 3), false)⟩,
 ⟨.faddr 4 (.tm 0), .tm, some ((.tm 4), false)⟩,
 ⟨.load1 (.tm 0), .tm, some ((.tm 5), false)⟩,
 ⟨.len false (.tm 0), .tm, some ((.tm 6), false)⟩,
 ⟨.mov (.fr 2), .tm, some ((.tm 7), false)⟩,
 ⟨.bin .sub (.c (.int .i64 6000)) (.tm 0), .tm, some ((.tm 8), false)⟩,
 ⟨.bin .gtr (.tm 2) (.tm 0), .tm, some ((.tm 9), false)⟩,
 ⟨.pick (.tm 10) (.c (.bool true)) (.tm 0), .fr 6, none⟩]) <|
 .cond (.fr 6)
 (.seq (.reg [
 ⟨.mov (.c (.bool true)), .fr 1, none⟩]) <|
 .ret)
 (.skip)) <|
 .dreg [
 (⟨.mov (.fr 2), .tm, none⟩, []),
 (⟨.mov (.fr 0), .tm, none⟩, []),
 (⟨.mov (.fr 3), .tm, none⟩, []),
 (⟨.iaddr 8 (.tm 1) (.tm 0), .tm, none⟩, []),
 (⟨.faddr 1 (.tm 0), .tm, none⟩, []),
 (⟨.load1 (.tm 0), .tm, none⟩, []),
 (⟨.len false (.tm 0), .tm, none⟩, []),
 (⟨.bin .add (.tm 6) (.tm 0), .tm, none⟩, []),
 (⟨.mov (.fr 0), .tm, none⟩, []),
 (⟨.mov (.fr 3), .tm, none⟩, []),
 (⟨.iaddr 8 (.tm 1) (.tm 0), .tm, none⟩, []),
 (⟨.faddr 2 (.tm 0), .tm, none⟩, []),
 (⟨.faddr 4 (.tm 0), .tm, none⟩, []),
 (⟨.load1 (.tm 0), .tm, none⟩, []),
 (⟨.len false (.tm 0), .tm, none⟩, []),
 (⟨.bin .add (.tm 7) (.tm 0), .tm, none⟩, []),
 (⟨.mov (.tm 0), .fr 2, none⟩, [])])) <|
 .reg [
 ⟨.mov (.fr 3), .tm, none⟩,
 ⟨.bin .add (.tm 0) (.c (.int .i64 1)), .tm, none⟩,
 ⟨.mov (.tm 0), .fr 3, none⟩]))) <|
 .seq (.reg [
 ⟨.mov (.fr 2), .tm, none⟩,
 ⟨.bin .gtr (.tm 0) (.c (.int .i64 6000)), .tm, none⟩,
 ⟨.mov (.tm 0), .fr 1, none⟩]) <|
 .ret, [.t 1]⟩
def f31 : AFunc := ⟨[0, 1, 2, 3, 4, 5, 7, 9, 10, 11, 12, 13, 16, 30],
 .seq (.reg [
 ⟨.mov (.c (.bool false)), .fr 0, none⟩]) <|
 .seq (.reg [
 ⟨.callf 32 [(.c (.int .u8 1)), (.c (.int .u8 2)), (.c (.int .i64 1))], .tm, none⟩,
 ⟨.mov (.tm 0), .tm, none⟩,
 ⟨.extract (.tm 0) 0, .tm, none⟩,
 ⟨.extract (.tm 1) 1, .tm, none⟩,
 ⟨.mov (.tm 1), .fr 1, none⟩,
 ⟨.mov (.tm 0), .fr 2, none⟩]) <|
 .seq (.reg [
 ⟨.callf 32 [(.c (.int .u8 2)), (.c (.int .u8 1)), (.c (.int .i64 1))], .tm, none⟩,
 ⟨.mov (.tm 0), .tm, none⟩,
 ⟨.extract (.tm 0) 0, .tm, none⟩,
 ⟨.extract (.tm 1) 1, .tm, none⟩,
 ⟨.mov (.tm 1), .fr 3, none⟩,
 ⟨.mov (.tm 0), .fr 4, none⟩]) <|
 .seq (.seq (.reg [
 ⟨.mov (.fr 2), .tm, none⟩,
 ⟨.bin .neq (.tm 0) (.c (.int .i64 0)), .tm, none⟩,
 ⟨.mov (.tm 0), .tm, none⟩,
 ⟨.mov (.fr 4), .tm, some ((.tm 0), false)⟩,
 ⟨.bin .neq (.tm 0) (.c (.int .i64 0)), .tm, some ((.tm 1), false)⟩,
 ⟨.pick (.tm 2) (.c (.bool true)) (.tm 0), .fr 13, none⟩]) <|
 .cond (.fr 13)
 (.seq (.reg [
 ⟨.mov (.c (.bool false)), .fr 0, none⟩]) <|
 .ret)
 (.skip)) <|
 .seq (.reg [
 ⟨.mov (.fr 1), .tm, none⟩,
 ⟨.bslice 5 1 1 [(.int .u8 0)] [(0, 1, (.c (.int .u8 97)))], .tm, none⟩,
 ⟨.mark (.tm 0), .tm, none⟩,
 ⟨.callf 34 [(.tm 2), (.tm 0)], .tm, none⟩,
 ⟨.mov (.tm 0), .tm, none⟩,
 ⟨.extract (.tm 0) 0, .tm, none⟩,
 ⟨.extract (.tm 1) 1, .tm, none⟩,
 ⟨.mov (.tm 1), .fr 5, none⟩,
 ⟨.mov (.tm 0), .tm, none⟩]) <|
 .seq (.reg [
 ⟨.mov (.fr 1), .tm, none⟩,
 ⟨.bslice 5 1 1 [(.int .u8 0)] [(0, 1, (.c (.int .u8 98)))], .tm, none⟩,
 ⟨.mark (.tm 0), .tm, none⟩,
 ⟨.callf 34 [(.tm 2), (.tm 0)], .tm, none⟩,
 ⟨.mov (.tm 0), .tm, none⟩,
 ⟨.extract (.tm 0) 0, .tm, none⟩,
 ⟨.extract (.tm 1) 1, .tm, none⟩,
 ⟨.mov (.tm 1), .fr 6, none⟩,
 ⟨.mov (.tm 0), .tm, none⟩]) <|
 .seq (.reg [
 ⟨.mov (.fr 3), .tm, none⟩,
 ⟨.mov (.fr 6), .tm, none⟩,
 ⟨.callf 37 [(.tm 1), (.tm 0)], .tm, none⟩,
 ⟨.mov (.tm 0), .tm, none⟩,
 ⟨.extract (.tm 0) 0, .tm, none⟩,
 ⟨.extract (.tm 1) 1, .tm, none⟩,
 ⟨.mov (.tm 1), .fr 7, none⟩,
 ⟨.mov (.tm 0), .fr 8, none⟩]) <|
 .seq (.reg [
 ⟨.mov (.fr 3), .tm, none⟩,
 ⟨.mov (.fr 5), .tm, none⟩,
 ⟨.callf 37 [(.tm 1), (.tm 0)], .tm, none⟩,
 ⟨.mov (.tm 0), .tm, none⟩,
 ⟨.extract (.tm 0) 0, .tm, none⟩,
 ⟨.extract (.tm 1) 1, .tm, none⟩,
 ⟨.mov (.tm 1), .fr 9, none⟩,
 ⟨.mov (.tm 0), .fr 10, none⟩]) <|
 .seq (.reg [
 ⟨.mov (.fr 3), .tm, none⟩,
 ⟨.callf 34 [(.tm 0), (.c (.slice none 0 0))], .tm, none⟩,
 ⟨.mov (.tm 0), .tm, none⟩,
 ⟨.extract (.tm 0) 0, .tm, none⟩,
 ⟨.extract (.tm 1) 1, .tm, none⟩,
 ⟨.mov (.tm 1), .fr 11, none⟩,
 ⟨.mov (.tm 0), .tm, none⟩]) <|
 .seq (.reg [
 ⟨.mov (.fr 1), .tm, none⟩,
 ⟨.mov (.fr 11), .tm, none⟩,
 ⟨.callf 37 [(.tm 1), (.tm 0)], .tm, none⟩,
 ⟨.mov (.tm 0), .tm, none⟩,
 ⟨.extract (.tm 0) 0, .tm, none⟩,
 ⟨.extract (.tm 1) 1, .tm, none⟩,
 ⟨.mov (.tm 1), .tm, none⟩,
 ⟨.mov (.tm 1), .fr 12, none⟩]) <|
 .seq (.reg [
 ⟨.mov (.fr 7), .tm, none⟩,
 ⟨.b2s (.tm 0), .tm, none⟩,
 ⟨.bin .eql (.tm 0) (.c (.string ⟨#[98]⟩)), .tm, none⟩,
 ⟨.mov (.tm 0), .tm, none⟩,
 ⟨.mov (.fr 8), .tm, some ((.tm 0), true)⟩,
 ⟨.bin .eql (.tm 0) (.c (.int .i64 0)), .tm, some ((.tm 1), true)⟩,
 ⟨.pick (.tm 2) (.tm 0) (.c (.bool false)), .tm, none⟩,
 ⟨.mov (.tm 0), .tm, none⟩,
 ⟨.mov (.fr 9), .tm, some ((.tm 0), true)⟩,
 ⟨.len false (.tm 0), .tm, some ((.tm 1), true)⟩,
 ⟨.bin .eql (.tm 0) (.c (.int .i64 0)), .tm, some ((.tm 2), true)⟩,
 ⟨.pick (.tm 3) (.tm 0) (.c (.bool false)), .tm, none⟩,
 ⟨.mov (.tm 0), .tm, none⟩,
 ⟨.mov (.fr 10), .tm, some ((.tm 0), true)⟩,
 ⟨.bin .eql (.tm 0) (.c (.int .i64 180)), .tm, some ((.tm 1), true)⟩,
 ⟨.pick (.tm 2) (.tm 0) (.c (.bool false)), .tm, none⟩,
 ⟨.mov (.tm 0), .tm, none⟩,
 ⟨.mov (.fr 3), .tm, some ((.tm 0), true)⟩,
 ⟨.callf 40 [(.tm 0)], .tm, some ((.tm 1), true)⟩,
 ⟨.bin .eql (.tm 0) (.c (.int .i64 2)), .tm, some ((.tm 2), true)⟩,
 ⟨.pick (.tm 3) (.tm 0) (.c (.bool false)), .tm, none⟩,
 ⟨.mov (.tm 0), .tm, none⟩,
 ⟨.mov (.fr 12), .tm, some ((.tm 0), true)⟩,
 ⟨.bin .eql (.tm 0) (.c (.int .i64 0)), .tm, some ((.tm 1), true)⟩,
 ⟨.pick (.tm 2) (.tm 0) (.c (.bool false)), .tm, none⟩,
 ⟨.mov (.tm 0), .tm, none⟩,
 ⟨.mov (.fr 1), .tm, some ((.tm 0), true)⟩,
 ⟨.callf 41 [(.tm 0)], .tm, some ((.tm 1), true)⟩,
 ⟨.bin .eql (.tm 0) (.c (.int .i64 2)), .tm, some ((.tm 2), true)⟩,
 ⟨.pick (.tm 3) (.tm 0) (.c (.bool false)), .tm, none⟩,
 ⟨.mov (.tm 0), .tm, none⟩,
 ⟨.mov (.fr 1), .tm, some ((.tm 0), true)⟩,
 ⟨.callf 39 [(.tm 0)], .tm, some ((.tm 1), true)⟩,
 ⟨.bin .eql (.tm 0) (.c (.int .i64 2)), .tm, some ((.tm 2), true)⟩,
 ⟨.pick (.tm 3) (.tm 0) (.c (.bool false)), .tm, none⟩,
 ⟨.mov (.tm 0), .fr 0, none⟩]) <|
 .ret, [.t 0]⟩
def f32 : AFunc := ⟨[0, 1, 2, 6, 7, 18],
 .seq (.reg [
 ⟨.mov (.c (.pointer none)), .fr 3, none⟩,
 ⟨.mov (.c (.int .i64 0)), .fr 4, none⟩]) <|
 .seq (.seq (.reg [
 ⟨.mov (.fr 0), .tm, none⟩,
 ⟨.mov (.fr 1), .tm, none⟩,
 ⟨.bin .eql (.tm 1) (.tm 0), .tm, none⟩,
 ⟨.mov (.tm 0), .tm, none⟩,
 ⟨.mov (.fr 2), .tm, some ((.tm 0), false)⟩,
 ⟨.bin .lss (.tm 0) (.c (.int .i64 1)), .tm, some ((.tm 1), false)⟩,
 ⟨.pick (.tm 2) (.c (.bool true)) (.tm 0), .tm, none⟩,
 ⟨.mov (.tm 0), .tm, none⟩,
 ⟨.mov (.fr 2), .tm, some ((.tm 0), false)⟩,
 ⟨.bin .gtr (.tm 0) (.c (.int .i64 2305843009213693952)), .tm, some ((.tm 1), false)⟩,
 ⟨.pick (.tm 2) (.c (.bool true)) (.tm 0), .fr 5, none⟩]) <|
 .cond (.fr 5)
 (.seq (.reg [
 ⟨.mov (.c (.pointer none)), .fr 3, none⟩,
 ⟨.mov (.c (.int .i64 2)), .fr 4, none⟩]) <|
 .ret)
 (.skip)) <|
 .seq (.reg [
 ⟨.mov (.fr 0), .tm, none⟩,
 ⟨.mov (.fr 1), .tm, none⟩,
 ⟨.mov (.fr 2), .tm, none⟩,
 ⟨.bin .sub (.tm 0) (.c (.int .i64 1)), .tm, none⟩,
 ⟨.build [(.int .u8 0), (.int .u8 0), (.int .i64 0), (.int .i64 0), (.slice none 0 0)] [(0, 1, (.tm 3)), (1, 1, (.tm 2)), (2, 1, (.tm 0))], .tm, none⟩,
 ⟨.build [(.int .u8 0), (.int .u8 0), (.int .i64 0), (.int .i64 0), (.slice none 0 0), (.int .i64 0), (.int .i64 0)] [(0, 5, (.tm 0))], .tm, none⟩,
 ⟨.box 145 7 (.tm 0), .tm, none⟩,
 ⟨.mov (.tm 0), .fr 3, none⟩,
 ⟨.mov (.c (.int .i64 0)), .fr 4, none⟩]) <|
 .ret, [.t 3, .t 4]⟩
def f33 : AFunc := ⟨[0, 1, 2, 6, 17],
 .seq (.reg [
 ⟨.mov (.c (.pointer none)), .fr 3, none⟩]) <|
 .seq (.seq (.reg [
 ⟨.mov (.fr 0), .tm, none⟩,
 ⟨.mov (.fr 1), .tm, none⟩,
 ⟨.bin .eql (.tm 1) (.tm 0), .tm, none⟩,
 ⟨.mov (.tm 0), .tm, none⟩,
 ⟨.mov (.fr 2), .tm, some ((.tm 0), false)⟩,
 ⟨.bin .lss (.tm 0) (.c (.int .i64 1)), .tm, some ((.tm 1), false)⟩,
 ⟨.pick (.tm 2) (.c (.bool true)) (.tm 0), .tm, none⟩,
 ⟨.mov (.tm 0), .tm, none⟩,
 ⟨.mov (.fr 2), .tm, some ((.tm 0), false)⟩,
 ⟨.bin .gtr (.tm 0) (.c (.int .i64 2305843009213693952)), .tm, some ((.tm 1), false)⟩,
 ⟨.pick (.tm 2) (.c (.bool true)) (.tm 0), .fr 4, none⟩]) <|
 .cond (.fr 4)
 (.seq (.reg [
 ⟨.mov (.c (.pointer none)), .fr 3, none⟩]) <|
 .ret)
 (.skip)) <|
 .seq (.reg [
 ⟨.mov (.fr 0), .tm, none⟩,
 ⟨.mov (.fr 1), .tm, none⟩,
 ⟨.mov (.fr 2), .tm, none⟩,
 ⟨.bin .sub (.tm 0) (.c (.int .i64 1)), .tm, none⟩,
 ⟨.build [(.int .u8 0), (.int .u8 0), (.int .i64 0), (.int .i64 0), (.int .i64 0), (.int .i64 0)] [(0, 1, (.tm 3)), (1, 1, (.tm 2)), (2, 1, (.tm 0))], .tm, none⟩,
 ⟨.box 93 6 (.tm 0), .tm, none⟩,
 ⟨.mov (.tm 0), .fr 3, none⟩]) <|
 .ret, [.t 3]⟩
def f34 : AFunc := ⟨[0, 1, 4, 5, 6, 7, 10],
 .seq (.reg [
 ⟨.mov (.c (.slice none 0 0)), .fr 2, none⟩,
 ⟨.mov (.c (.int .i64 0)), .fr 3, none⟩]) <|
 .seq (.block 0 (.seq (.reg [
 ⟨.mov (.fr 0), .tm, none⟩,
 ⟨.eqv 1 false (.tm 0) (.c (.pointer none)), .tm, none⟩,
 ⟨.mov (.tm 0), .fr 5, none⟩]) <|
 .cond (.fr 5)
 (.seq (.reg [
 ⟨.mov (.c (.slice none 0 0)), .fr 2, none⟩,
 ⟨.mov (.c (.int .i64 1)), .fr 3, none⟩]) <|
 .ret)
 (.seq (.reg [
 ⟨.mov (.fr 1), .tm, none⟩,
 ⟨.len false (.tm 0), .tm, none⟩,
 ⟨.bin .gtr (.tm 0) (.c (.int .i64 2048)), .tm, none⟩,
 ⟨.mov (.tm 0), .tm, none⟩,
 ⟨.mov (.fr 0), .tm, some ((.tm 0), false)⟩,
 ⟨.nilck (.tm 0), .tm, some ((.tm 1), false)⟩,
 ⟨.faddr 0 (.tm 0), .tm, some ((.tm 2), false)⟩,
 ⟨.faddr 2 (.tm 0), .tm, some ((.tm 3), false)⟩,
 ⟨.load1 (.tm 0), .tm, some ((.tm 4), false)⟩,
 ⟨.bin .geq (.tm 0) (.c (.int .i64 4611686018427387904)), .tm, some ((.tm 5), false)⟩,
 ⟨.pick (.tm 6) (.c (.bool true)) (.tm 0), .tm, none⟩,
 ⟨.mov (.tm 0), .fr 6, none⟩]) <|
 .cond (.fr 6)
 (.seq (.reg [
 ⟨.mov (.c (.slice none 0 0)), .fr 2, none⟩,
 ⟨.mov (.c (.int .i64 3)), .fr 3, none⟩]) <|
 .ret)
 (.skip)))) <|
 .seq (.reg [
 ⟨.mov (.fr 0), .tm, none⟩,
 ⟨.nilck (.tm 0), .tm, none⟩,
 ⟨.faddr 0 (.tm 0), .tm, none⟩,
 ⟨.faddr 2 (.tm 0), .tm, none⟩,
 ⟨.load1 (.tm 0), .tm, none⟩,
 ⟨.bin .add (.tm 0) (.c (.int .i64 1)), .tm, none⟩,
 ⟨.nilck (.tm 5), .tm, none⟩,
 ⟨.faddr 0 (.tm 0), .tm, none⟩,
 ⟨.faddr 2 (.tm 0), .tm, none⟩,
 ⟨.store1 (.tm 0) (.tm 3), .no, none⟩]) <|
 .seq (.reg [
 ⟨.mov (.fr 0), .tm, none⟩,
 ⟨.nilck (.tm 0), .tm, none⟩,
 ⟨.faddr 0 (.tm 0), .tm, none⟩,
 ⟨.loadn 5 (.tm 0), .tm, none⟩,
 ⟨.new 65 5 [(.int .u8 0), (.int .u8 0), (.int .i64 0), (.int .i64 0), (.slice none 0 0)], .fr 4, none⟩,
 ⟨.storen 5 (.fr 4) (.tm 0), .no, none⟩]) <|
 .seq (.reg [
 ⟨.mov (.fr 1), .tm, none⟩,
 ⟨.faddr 4 (.fr 4), .tm, none⟩,
 ⟨.store1 (.tm 0) (.tm 1), .no, none⟩]) <|
 .seq (.reg [
 ⟨.loadn 5 (.fr 4), .tm, none⟩,
 ⟨.callf 36 [(.tm 0)], .tm, none⟩,
 ⟨.mov (.tm 0), .fr 2, none⟩,
 ⟨.mov (.c (.int .i64 0)), .fr 3, none⟩]) <|
 .ret, [.t 2, .t 3]⟩
def f35 : AFunc := ⟨[0, 1, 4, 5, 15],
 .seq (.reg [
 ⟨.mov (.c (.slice none 0 0)), .fr 2, none⟩,
 ⟨.mov (.c (.int .i64 0)), .fr 3, none⟩]) <|
 .seq (.seq (.reg [
 ⟨.mov (.fr 1), .tm, none⟩,
 ⟨.len true (.tm 0), .tm, none⟩,
 ⟨.bin .gtr (.tm 0) (.c (.int .i64 2048)), .tm, none⟩,
 ⟨.mov (.tm 0), .tm, none⟩,
 ⟨.mov (.fr 0), .tm, some ((.tm 0), false)⟩,
 ⟨.nilck (.tm 0), .tm, some ((.tm 1), false)⟩,
 ⟨.faddr 2 (.tm 0), .tm, some ((.tm 2), false)⟩,
 ⟨.load1 (.tm 0), .tm, some ((.tm 3), false)⟩,
 ⟨.bin .geq (.tm 0) (.c (.int .i64 4611686018427387904)), .tm, some ((.tm 4), false)⟩,
 ⟨.pick (.tm 5) (.c (.bool true)) (.tm 0), .fr 4, none⟩]) <|
 .cond (.fr 4)
 (.seq (.reg [
 ⟨.mov (.c (.slice none 0 0)), .fr 2, none⟩,
 ⟨.mov (.c (.int .i64 3)), .fr 3, none⟩]) <|
 .ret)
 (.skip)) <|
 .seq (.reg [
 ⟨.mov (.fr 0), .tm, none⟩,
 ⟨.nilck (.tm 0), .tm, none⟩,
 ⟨.faddr 2 (.tm 0), .tm, none⟩,
 ⟨.load1 (.tm 0), .tm, none⟩,
 ⟨.bin .add (.tm 0) (.c (.int .i64 1)), .tm, none⟩,
 ⟨.nilck (.tm 4), .tm, none⟩,
 ⟨.faddr 2 (.tm 0), .tm, none⟩,
 ⟨.store1 (.tm 0) (.tm 2), .no, none⟩]) <|
 .seq (.dreg [
 (⟨.mov (.fr 0), .tm, none⟩, []),
 (⟨.nilck (.tm 0), .tm, none⟩, []),
 (⟨.faddr 0 (.tm 0), .tm, none⟩, []),
 (⟨.load1 (.tm 0), .tm, none⟩, []),
 (⟨.mov (.fr 0), .tm, none⟩, []),
 (⟨.nilck (.tm 0), .tm, none⟩, []),
 (⟨.faddr 1 (.tm 0), .tm, none⟩, []),
 (⟨.load1 (.tm 0), .tm, none⟩, []),
 (⟨.mov (.fr 0), .tm, none⟩, []),
 (⟨.nilck (.tm 0), .tm, none⟩, []),
 (⟨.faddr 2 (.tm 0), .tm, none⟩, []),
 (⟨.load1 (.tm 0), .tm, none⟩, []),
 (⟨.mov (.fr 0), .tm, none⟩, []),
 (⟨.nilck (.tm 0), .tm, none⟩, []),
 (⟨.faddr 3 (.tm 0), .tm, none⟩, []),
 (⟨.load1 (.tm 0), .tm, none⟩, []),
 (⟨.mov (.fr 1), .tm, none⟩, []),
 (⟨.build [(.int .u8 0), (.int .u8 0), (.int .i64 0), (.int .i64 0), (.string ByteArray.empty)] [(0, 1, (.tm 13)), (1, 1, (.tm 9)), (2, 1, (.tm 5)), (3, 1, (.tm 1)), (4, 1, (.tm 0))], .tm, none⟩, []),
 (⟨.callf 52 [(.tm 0)], .tm, none⟩, []),
 (⟨.mov (.tm 0), .fr 2, none⟩, []),
 (⟨.mov (.c (.int .i64 0)), .fr 3, none⟩, [])]) <|
 .ret, [.t 2, .t 3]⟩
def f37 : AFunc := ⟨[0, 1, 4, 5, 6, 7, 9, 15, 19, 38, 52, 82],
 .seq (.reg [
 ⟨.mov (.c (.slice none 0 0)), .fr 2, none⟩,
 ⟨.mov (.c (.int .i64 0)), .fr 3, none⟩]) <|
 .seq (.seq (.reg [
 ⟨.mov (.fr 0), .tm, none⟩,
 ⟨.eqv 1 false (.tm 0) (.c (.pointer none)), .fr 6, none⟩]) <|
 .cond (.fr 6)
 (.seq (.reg [
 ⟨.mov (.c (.slice none 0 0)), .fr 2, none⟩,
 ⟨.mov (.c (.int .i64 1)), .fr 3, none⟩]) <|
 .ret)
 (.skip)) <|
 .seq (.reg [
 ⟨.mov (.fr 1), .tm, none⟩,
 ⟨.callf 24 [(.tm 0)], .tm, none⟩,
 ⟨.mov (.tm 0), .tm, none⟩,
 ⟨.extract (.tm 0) 0, .tm, none⟩,
 ⟨.extract (.tm 1) 1, .tm, none⟩,
 ⟨.new 65 5 [(.int .u8 0), (.int .u8 0), (.int .i64 0), (.int .i64 0), (.slice none 0 0)], .fr 4, none⟩,
 ⟨.storen 5 (.fr 4) (.tm 1), .no, none⟩,
 ⟨.mov (.tm 0), .fr 5, none⟩]) <|
 .seq (.block 0 (.seq (.reg [
 ⟨.mov (.fr 5), .tm, none⟩,
 ⟨.bin .neq (.tm 0) (.c (.int .i64 0)), .tm, none⟩,
 ⟨.mov (.tm 0), .fr 7, none⟩]) <|
 .cond (.fr 7)
 (.seq (.reg [
 ⟨.mov (.fr 5), .tm, none⟩,
 ⟨.mov (.c (.slice none 0 0)), .fr 2, none⟩,
 ⟨.mov (.tm 0), .fr 3, none⟩]) <|
 .ret)
 (.seq (.dreg [
 (⟨.faddr 0 (.fr 4), .tm, none⟩, []),
 (⟨.load1 (.tm 0), .tm, none⟩, []),
 (⟨.mov (.fr 0), .tm, none⟩, []),
 (⟨.nilck (.tm 0), .tm, none⟩, []),
 (⟨.faddr 0 (.tm 0), .tm, none⟩, []),
 (⟨.faddr 1 (.tm 0), .tm, none⟩, []),
 (⟨.load1 (.tm 0), .tm, none⟩, []),
 (⟨.bin .neq (.tm 5) (.tm 0), .tm, none⟩, []),
 (⟨.mov (.tm 0), .tm, none⟩, []),
 (⟨.faddr 1 (.fr 4), .tm, some ((.tm 0), false)⟩, []),
 (⟨.load1 (.tm 0), .tm, some ((.tm 1), false)⟩, []),
 (⟨.mov (.fr 0), .tm, some ((.tm 2), false)⟩, []),
 (⟨.nilck (.tm 0), .tm, some ((.tm 3), false)⟩, []),
 (⟨.faddr 0 (.tm 0), .tm, some ((.tm 4), false)⟩, []),
 (⟨.faddr 0 (.tm 0), .tm, some ((.tm 5), false)⟩, []),
 (⟨.load1 (.tm 0), .tm, some ((.tm 6), false)⟩, []),
 (⟨.bin .neq (.tm 5) (.tm 0), .tm, some ((.tm 7), false)⟩, []),
 (⟨.pick (.tm 8) (.c (.bool true)) (.tm 0), .tm, none⟩, []),
 (⟨.mov (.tm 0), .fr 8, none⟩, [])]) <|
 .cond (.fr 8)
 (.seq (.reg [
 ⟨.mov (.c (.slice none 0 0)), .fr 2, none⟩,
 ⟨.mov (.c (.int .i64 2)), .fr 3, none⟩]) <|
 .ret)
 (.seq (.dreg [
 (⟨.faddr 2 (.fr 4), .tm, none⟩, []),
 (⟨.load1 (.tm 0), .tm, none⟩, []),
 (⟨.mov (.fr 0), .tm, none⟩, []),
 (⟨.nilck (.tm 0), .tm, none⟩, []),
 (⟨.faddr 0 (.tm 0), .tm, none⟩, []),
 (⟨.faddr 3 (.tm 0), .tm, none⟩, []),
 (⟨.load1 (.tm 0), .tm, none⟩, []),
 (⟨.bin .leq (.tm 5) (.tm 0), .tm, none⟩, []),
 (⟨.mov (.tm 0), .fr 9, none⟩, [])]) <|
 .cond (.fr 9)
 (.seq (.reg [
 ⟨.mov (.c (.slice none 0 0)), .fr 2, none⟩,
 ⟨.mov (.c (.int .i64 180)), .fr 3, none⟩]) <|
 .ret)
 (.skip))))) <|
 .seq (.seq (.reg [
 ⟨.mov (.fr 0), .tm, none⟩,
 ⟨.nilck (.tm 0), .tm, none⟩,
 ⟨.faddr 0 (.tm 0), .tm, none⟩,
 ⟨.faddr 3 (.tm 0), .tm, none⟩,
 ⟨.load1 (.tm 0), .tm, none⟩,
 ⟨.bin .gtr (.tm 0) (.c (.int .i64 0)), .fr 10, none⟩]) <|
 .cond (.fr 10)
 (.dreg [
 (⟨.mov (.fr 0), .tm, none⟩, []),
 (⟨.nilck (.tm 0), .tm, none⟩, []),
 (⟨.faddr 6 (.tm 0), .tm, none⟩, []),
 (⟨.load1 (.tm 0), .tm, none⟩, []),
 (⟨.faddr 2 (.fr 4), .tm, none⟩, []),
 (⟨.load1 (.tm 0), .tm, none⟩, []),
 (⟨.mov (.fr 0), .tm, none⟩, []),
 (⟨.nilck (.tm 0), .tm, none⟩, []),
 (⟨.faddr 0 (.tm 0), .tm, none⟩, []),
 (⟨.faddr 3 (.tm 0), .tm, none⟩, []),
 (⟨.load1 (.tm 0), .tm, none⟩, []),
 (⟨.bin .sub (.tm 5) (.tm 0), .tm, none⟩, []),
 (⟨.bin .sub (.tm 0) (.c (.int .i64 1)), .tm, none⟩, []),
 (⟨.bin .add (.tm 9) (.tm 0), .tm, none⟩, []),
 (⟨.nilck (.tm 13), .tm, none⟩, []),
 (⟨.faddr 6 (.tm 0), .tm, none⟩, []),
 (⟨.store1 (.tm 0) (.tm 2), .no, none⟩, [])])
 (.skip)) <|
 .seq (.reg [
 ⟨.mov (.fr 0), .tm, none⟩,
 ⟨.faddr 2 (.fr 4), .tm, none⟩,
 ⟨.load1 (.tm 0), .tm, none⟩,
 ⟨.nilck (.tm 2), .tm, none⟩,
 ⟨.faddr 0 (.tm 0), .tm, none⟩,
 ⟨.faddr 3 (.tm 0), .tm, none⟩,
 ⟨.store1 (.tm 0) (.tm 3), .no, none⟩]) <|
 .seq (.seq (.dreg [
 (⟨.faddr 3 (.fr 4), .tm, none⟩, []),
 (⟨.load1 (.tm 0), .tm, none⟩, []),
 (⟨.mov (.fr 0), .tm, none⟩, []),
 (⟨.nilck (.tm 0), .tm, none⟩, []),
 (⟨.faddr 0 (.tm 0), .tm, none⟩, []),
 (⟨.faddr 2 (.tm 0), .tm, none⟩, []),
 (⟨.load1 (.tm 0), .tm, none⟩, []),
 (⟨.bin .leq (.tm 5) (.tm 0), .fr 11, none⟩, [])]) <|
 .cond (.fr 11)
 (.dreg [
 (⟨.mov (.fr 0), .tm, none⟩, []),
 (⟨.mov (.fr 0), .tm, none⟩, []),
 (⟨.nilck (.tm 0), .tm, none⟩, []),
 (⟨.faddr 5 (.tm 0), .tm, none⟩, []),
 (⟨.load1 (.tm 0), .tm, none⟩, []),
 (⟨.faddr 3 (.fr 4), .tm, none⟩, []),
 (⟨.load1 (.tm 0), .tm, none⟩, []),
 (⟨.mm true (.tm 2) (.tm 0), .tm, none⟩, []),
 (⟨.nilck (.tm 7), .tm, none⟩, []),
 (⟨.faddr 5 (.tm 0), .tm, none⟩, []),
 (⟨.store1 (.tm 0) (.tm 2), .no, none⟩, [])])
 (.skip)) <|
 .seq (.reg [
 ⟨.faddr 4 (.fr 4), .tm, none⟩,
 ⟨.load1 (.tm 0), .tm, none⟩,
 ⟨.mov (.tm 0), .fr 2, none⟩,
 ⟨.mov (.c (.int .i64 0)), .fr 3, none⟩]) <|
 .ret, [.t 2, .t 3]⟩
def f38 : AFunc := ⟨[0, 1, 4, 5, 6, 7, 13, 16, 33, 45, 82],
 .seq (.reg [
 ⟨.mov (.c (.string ByteArray.empty)), .fr 2, none⟩,
 ⟨.mov (.c (.int .i64 0)), .fr 3, none⟩]) <|
 .seq (.reg [
 ⟨.mov (.fr 1), .tm, none⟩,
 ⟨.callf 25 [(.tm 0)], .tm, none⟩,
 ⟨.mov (.tm 0), .tm, none⟩,
 ⟨.extract (.tm 0) 0, .tm, none⟩,
 ⟨.extract (.tm 1) 1, .tm, none⟩,
 ⟨.new 69 5 [(.int .u8 0), (.int .u8 0), (.int .i64 0), (.int .i64 0), (.string ByteArray.empty)], .fr 4, none⟩,
 ⟨.storen 5 (.fr 4) (.tm 1), .no, none⟩,
 ⟨.mov (.tm 0), .fr 5, none⟩]) <|
 .seq (.block 0 (.seq (.reg [
 ⟨.mov (.fr 5), .tm, none⟩,
 ⟨.un .not (.tm 0), .tm, none⟩,
 ⟨.mov (.tm 0), .fr 6, none⟩]) <|
 .cond (.fr 6)
 (.seq (.reg [
 ⟨.mov (.c (.string ByteArray.empty)), .fr 2, none⟩,
 ⟨.mov (.c (.int .i64 130)), .fr 3, none⟩]) <|
 .ret)
 (.seq (.dreg [
 (⟨.faddr 0 (.fr 4), .tm, none⟩, []),
 (⟨.load1 (.tm 0), .tm, none⟩, []),
 (⟨.mov (.fr 0), .tm, none⟩, []),
 (⟨.nilck (.tm 0), .tm, none⟩, []),
 (⟨.faddr 1 (.tm 0), .tm, none⟩, []),
 (⟨.load1 (.tm 0), .tm, none⟩, []),
 (⟨.bin .neq (.tm 4) (.tm 0), .tm, none⟩, []),
 (⟨.mov (.tm 0), .tm, none⟩, []),
 (⟨.faddr 1 (.fr 4), .tm, some ((.tm 0), false)⟩, []),
 (⟨.load1 (.tm 0), .tm, some ((.tm 1), false)⟩, []),
 (⟨.mov (.fr 0), .tm, some ((.tm 2), false)⟩, []),
 (⟨.nilck (.tm 0), .tm, some ((.tm 3), false)⟩, []),
 (⟨.faddr 0 (.tm 0), .tm, some ((.tm 4), false)⟩, []),
 (⟨.load1 (.tm 0), .tm, some ((.tm 5), false)⟩, []),
 (⟨.bin .neq (.tm 4) (.tm 0), .tm, some ((.tm 6), false)⟩, []),
 (⟨.pick (.tm 7) (.c (.bool true)) (.tm 0), .tm, none⟩, []),
 (⟨.mov (.tm 0), .fr 7, none⟩, [])]) <|
 .cond (.fr 7)
 (.seq (.reg [
 ⟨.mov (.c (.string ByteArray.empty)), .fr 2, none⟩,
 ⟨.mov (.c (.int .i64 2)), .fr 3, none⟩]) <|
 .ret)
 (.seq (.dreg [
 (⟨.faddr 2 (.fr 4), .tm, none⟩, []),
 (⟨.load1 (.tm 0), .tm, none⟩, []),
 (⟨.mov (.fr 0), .tm, none⟩, []),
 (⟨.nilck (.tm 0), .tm, none⟩, []),
 (⟨.faddr 3 (.tm 0), .tm, none⟩, []),
 (⟨.load1 (.tm 0), .tm, none⟩, []),
 (⟨.bin .leq (.tm 4) (.tm 0), .tm, none⟩, []),
 (⟨.mov (.tm 0), .fr 8, none⟩, [])]) <|
 .cond (.fr 8)
 (.seq (.reg [
 ⟨.mov (.c (.string ByteArray.empty)), .fr 2, none⟩,
 ⟨.mov (.c (.int .i64 180)), .fr 3, none⟩]) <|
 .ret)
 (.skip))))) <|
 .seq (.seq (.reg [
 ⟨.mov (.fr 0), .tm, none⟩,
 ⟨.nilck (.tm 0), .tm, none⟩,
 ⟨.faddr 3 (.tm 0), .tm, none⟩,
 ⟨.load1 (.tm 0), .tm, none⟩,
 ⟨.bin .gtr (.tm 0) (.c (.int .i64 0)), .fr 9, none⟩]) <|
 .cond (.fr 9)
 (.dreg [
 (⟨.mov (.fr 0), .tm, none⟩, []),
 (⟨.mov (.fr 0), .tm, none⟩, []),
 (⟨.nilck (.tm 0), .tm, none⟩, []),
 (⟨.faddr 5 (.tm 0), .tm, none⟩, []),
 (⟨.load1 (.tm 0), .tm, none⟩, []),
 (⟨.faddr 2 (.fr 4), .tm, none⟩, []),
 (⟨.load1 (.tm 0), .tm, none⟩, []),
 (⟨.bin .add (.tm 2) (.tm 0), .tm, none⟩, []),
 (⟨.mov (.fr 0), .tm, none⟩, []),
 (⟨.nilck (.tm 0), .tm, none⟩, []),
 (⟨.faddr 3 (.tm 0), .tm, none⟩, []),
 (⟨.load1 (.tm 0), .tm, none⟩, []),
 (⟨.bin .sub (.tm 4) (.tm 0), .tm, none⟩, []),
 (⟨.bin .sub (.tm 0) (.c (.int .i64 1)), .tm, none⟩, []),
 (⟨.nilck (.tm 13), .tm, none⟩, []),
 (⟨.faddr 5 (.tm 0), .tm, none⟩, []),
 (⟨.store1 (.tm 0) (.tm 2), .no, none⟩, [])])
 (.skip)) <|
 .seq (.reg [
 ⟨.mov (.fr 0), .tm, none⟩,
 ⟨.faddr 2 (.fr 4), .tm, none⟩,
 ⟨.load1 (.tm 0), .tm, none⟩,
 ⟨.nilck (.tm 2), .tm, none⟩,
 ⟨.faddr 3 (.tm 0), .tm, none⟩,
 ⟨.store1 (.tm 0) (.tm 2), .no, none⟩]) <|
 .seq (.seq (.dreg [
 (⟨.faddr 3 (.fr 4), .tm, none⟩, []),
 (⟨.load1 (.tm 0), .tm, none⟩, []),
 (⟨.mov (.fr 0), .tm, none⟩, []),
 (⟨.nilck (.tm 0), .tm, none⟩, []),
 (⟨.faddr 4 (.tm 0), .tm, none⟩, []),
 (⟨.load1 (.tm 0), .tm, none⟩, []),
 (⟨.bin .gtr (.tm 4) (.tm 0), .tm, none⟩, []),
 (⟨.mov (.tm 0), .tm, none⟩, []),
 (⟨.faddr 3 (.fr 4), .tm, some ((.tm 0), true)⟩, []),
 (⟨.load1 (.tm 0), .tm, some ((.tm 1), true)⟩, []),
 (⟨.mov (.fr 0), .tm, some ((.tm 2), true)⟩, []),
 (⟨.nilck (.tm 0), .tm, some ((.tm 3), true)⟩, []),
 (⟨.faddr 2 (.tm 0), .tm, some ((.tm 4), true)⟩, []),
 (⟨.load1 (.tm 0), .tm, some ((.tm 5), true)⟩, []),
 (⟨.bin .leq (.tm 4) (.tm 0), .tm, some ((.tm 6), true)⟩, []),
 (⟨.pick (.tm 7) (.tm 0) (.c (.bool false)), .fr 10, none⟩, [])]) <|
 .cond (.fr 10)
 (.reg [
 ⟨.mov (.fr 0), .tm, none⟩,
 ⟨.faddr 3 (.fr 4), .tm, none⟩,
 ⟨.load1 (.tm 0), .tm, none⟩,
 ⟨.nilck (.tm 2), .tm, none⟩,
 ⟨.faddr 4 (.tm 0), .tm, none⟩,
 ⟨.store1 (.tm 0) (.tm 2), .no, none⟩])
 (.skip)) <|
 .seq (.reg [
 ⟨.faddr 4 (.fr 4), .tm, none⟩,
 ⟨.load1 (.tm 0), .tm, none⟩,
 ⟨.mov (.tm 0), .fr 2, none⟩,
 ⟨.mov (.c (.int .i64 0)), .fr 3, none⟩]) <|
 .ret, [.t 2, .t 3]⟩
def f39 : AFunc := ⟨[0, 2, 4],
 .seq (.reg [
 ⟨.mov (.c (.int .i64 0)), .fr 1, none⟩]) <|
 .seq (.seq (.reg [
 ⟨.mov (.fr 0), .tm, none⟩,
 ⟨.eqv 1 false (.tm 0) (.c (.pointer none)), .fr 2, none⟩]) <|
 .cond (.fr 2)
 (.seq (.reg [
 ⟨.mov (.c (.int .i64 0)), .fr 1, none⟩]) <|
 .ret)
 (.skip)) <|
 .seq (.reg [
 ⟨.mov (.fr 0), .tm, none⟩,
 ⟨.nilck (.tm 0), .tm, none⟩,
 ⟨.faddr 0 (.tm 0), .tm, none⟩,
 ⟨.faddr 2 (.tm 0), .tm, none⟩,
 ⟨.load1 (.tm 0), .tm, none⟩,
 ⟨.mov (.tm 0), .fr 1, none⟩]) <|
 .ret, [.t 1]⟩
def f40 : AFunc := ⟨[0, 2, 4],
 .seq (.reg [
 ⟨.mov (.c (.int .i64 0)), .fr 1, none⟩]) <|
 .seq (.seq (.reg [
 ⟨.mov (.fr 0), .tm, none⟩,
 ⟨.eqv 1 false (.tm 0) (.c (.pointer none)), .fr 2, none⟩]) <|
 .cond (.fr 2)
 (.seq (.reg [
 ⟨.mov (.c (.int .i64 0)), .fr 1, none⟩]) <|
 .ret)
 (.skip)) <|
 .seq (.reg [
 ⟨.mov (.fr 0), .tm, none⟩,
 ⟨.nilck (.tm 0), .tm, none⟩,
 ⟨.faddr 0 (.tm 0), .tm, none⟩,
 ⟨.faddr 3 (.tm 0), .tm, none⟩,
 ⟨.load1 (.tm 0), .tm, none⟩,
 ⟨.mov (.tm 0), .fr 1, none⟩]) <|
 .ret, [.t 1]⟩
def f41 : AFunc := ⟨[0, 2, 4],
 .seq (.reg [
 ⟨.mov (.c (.int .i64 0)), .fr 1, none⟩]) <|
 .seq (.seq (.reg [
 ⟨.mov (.fr 0), .tm, none⟩,
 ⟨.eqv 1 false (.tm 0) (.c (.pointer none)), .fr 2, none⟩]) <|
 .cond (.fr 2)
 (.seq (.reg [
 ⟨.mov (.c (.int .i64 0)), .fr 1, none⟩]) <|
 .ret)
 (.skip)) <|
 .seq (.reg [
 ⟨.mov (.fr 0), .tm, none⟩,
 ⟨.nilck (.tm 0), .tm, none⟩,
 ⟨.faddr 5 (.tm 0), .tm, none⟩,
 ⟨.load1 (.tm 0), .tm, none⟩,
 ⟨.mov (.tm 0), .fr 1, none⟩]) <|
 .ret, [.t 1]⟩
def f42 : AFunc := ⟨[0, 2, 4],
 .seq (.reg [
 ⟨.mov (.c (.int .i64 0)), .fr 1, none⟩]) <|
 .seq (.seq (.reg [
 ⟨.mov (.fr 0), .tm, none⟩,
 ⟨.eqv 1 false (.tm 0) (.c (.pointer none)), .fr 2, none⟩]) <|
 .cond (.fr 2)
 (.seq (.reg [
 ⟨.mov (.c (.int .i64 0)), .fr 1, none⟩]) <|
 .ret)
 (.skip)) <|
 .seq (.reg [
 ⟨.mov (.fr 0), .tm, none⟩,
 ⟨.nilck (.tm 0), .tm, none⟩,
 ⟨.faddr 6 (.tm 0), .tm, none⟩,
 ⟨.load1 (.tm 0), .tm, none⟩,
 ⟨.mov (.tm 0), .fr 1, none⟩]) <|
 .ret, [.t 1]⟩
def f55 : AFunc := ⟨[0, 1, 4, 5, 6, 7, 12],
 .seq (.reg [
 ⟨.mov (.c (.slice none 0 0)), .fr 2, none⟩,
 ⟨.mov (.c (.int .i64 0)), .fr 3, none⟩]) <|
 .seq (.seq (.reg [
 ⟨.mov (.fr 0), .tm, none⟩,
 ⟨.mov (.fr 1), .tm, none⟩,
 ⟨.callf 94 [(.tm 1), (.tm 0), (.c (.bool false))], .tm, none⟩,
 ⟨.mov (.tm 0), .fr 4, none⟩]) <|
 .seq (.reg [
 ⟨.mov (.fr 4), .tm, none⟩,
 ⟨.bin .neq (.tm 0) (.c (.int .i64 0)), .fr 6, none⟩]) <|
 .cond (.fr 6)
 (.seq (.reg [
 ⟨.mov (.fr 4), .tm, none⟩,
 ⟨.mov (.c (.slice none 0 0)), .fr 2, none⟩,
 ⟨.mov (.tm 0), .fr 3, none⟩]) <|
 .ret)
 (.skip)) <|
 .seq (.reg [
 ⟨.mov (.fr 0), .tm, none⟩,
 ⟨.nilck (.tm 0), .tm, none⟩,
 ⟨.faddr 0 (.tm 0), .tm, none⟩,
 ⟨.load1 (.tm 0), .tm, none⟩,
 ⟨.mov (.fr 1), .tm, none⟩,
 ⟨.iaddr 1 (.tm 1) (.tm 0), .tm, none⟩,
 ⟨.load1 (.tm 0), .tm, none⟩,
 ⟨.mov (.tm 0), .fr 5, none⟩]) <|
 .seq (.reg [
 ⟨.mov (.fr 0), .tm, none⟩,
 ⟨.mov (.fr 0), .tm, none⟩,
 ⟨.nilck (.tm 0), .tm, none⟩,
 ⟨.faddr 0 (.tm 0), .tm, none⟩,
 ⟨.load1 (.tm 0), .tm, none⟩,
 ⟨.mov (.fr 1), .tm, none⟩,
 ⟨.mov (.fr 1), .tm, none⟩,
 ⟨.bin .add (.tm 0) (.c (.int .i64 1)), .tm, none⟩,
 ⟨.callf 95 [(.tm 3), (.tm 2), (.tm 0)], .tm, none⟩,
 ⟨.nilck (.tm 8), .tm, none⟩,
 ⟨.faddr 0 (.tm 0), .tm, none⟩,
 ⟨.store1 (.tm 0) (.tm 2), .no, none⟩]) <|
 .seq (.reg [
 ⟨.mov (.fr 5), .tm, none⟩,
 ⟨.mov (.tm 0), .fr 2, none⟩,
 ⟨.mov (.c (.int .i64 0)), .fr 3, none⟩]) <|
 .ret, [.t 2, .t 3]⟩
def f56 : AFunc := ⟨[0, 1, 4, 5, 6, 7, 18],
 .seq (.reg [
 ⟨.mov (.c (.string ByteArray.empty)), .fr 2, none⟩,
 ⟨.mov (.c (.int .i64 0)), .fr 3, none⟩]) <|
 .seq (.seq (.reg [
 ⟨.mov (.fr 1), .tm, none⟩,
 ⟨.bin .lss (.tm 0) (.c (.int .i64 0)), .tm, none⟩,
 ⟨.mov (.tm 0), .tm, none⟩,
 ⟨.mov (.fr 1), .tm, some ((.tm 0), false)⟩,
 ⟨.mov (.fr 0), .tm, some ((.tm 1), false)⟩,
 ⟨.nilck (.tm 0), .tm, some ((.tm 2), false)⟩,
 ⟨.faddr 0 (.tm 0), .tm, some ((.tm 3), false)⟩,
 ⟨.load1 (.tm 0), .tm, some ((.tm 4), false)⟩,
 ⟨.len false (.tm 0), .tm, some ((.tm 5), false)⟩,
 ⟨.bin .geq (.tm 5) (.tm 0), .tm, some ((.tm 6), false)⟩,
 ⟨.pick (.tm 7) (.c (.bool true)) (.tm 0), .fr 6, none⟩]) <|
 .cond (.fr 6)
 (.seq (.reg [
 ⟨.mov (.c (.string ByteArray.empty)), .fr 2, none⟩,
 ⟨.mov (.c (.int .i64 5)), .fr 3, none⟩]) <|
 .ret)
 (.skip)) <|
 .seq (.reg [
 ⟨.mov (.fr 0), .tm, none⟩,
 ⟨.nilck (.tm 0), .tm, none⟩,
 ⟨.faddr 0 (.tm 0), .tm, none⟩,
 ⟨.load1 (.tm 0), .tm, none⟩,
 ⟨.mov (.fr 1), .tm, none⟩,
 ⟨.iaddr 1 (.tm 1) (.tm 0), .tm, none⟩,
 ⟨.load1 (.tm 0), .tm, none⟩,
 ⟨.mov (.tm 0), .fr 4, none⟩]) <|
 .seq (.reg [
 ⟨.mov (.c (.slice none 0 0)), .fr 5, none⟩]) <|
 .seq (.reg [
 ⟨.mov (.fr 5), .tm, none⟩,
 ⟨.mov (.fr 0), .tm, none⟩,
 ⟨.nilck (.tm 0), .tm, none⟩,
 ⟨.faddr 0 (.tm 0), .tm, none⟩,
 ⟨.load1 (.tm 0), .tm, none⟩,
 ⟨.mov (.fr 1), .tm, none⟩,
 ⟨.slsl 1 (.tm 1) none (some (.tm 0)) none, .tm, none⟩,
 ⟨.app 9 1 16 (.tm 6) (.tm 0), .tm, none⟩,
 ⟨.mov (.tm 0), .fr 5, none⟩]) <|
 .seq (.reg [
 ⟨.mov (.fr 0), .tm, none⟩,
 ⟨.mov (.fr 5), .tm, none⟩,
 ⟨.mov (.fr 0), .tm, none⟩,
 ⟨.nilck (.tm 0), .tm, none⟩,
 ⟨.faddr 0 (.tm 0), .tm, none⟩,
 ⟨.load1 (.tm 0), .tm, none⟩,
 ⟨.mov (.fr 1), .tm, none⟩,
 ⟨.bin .add (.tm 0) (.c (.int .i64 1)), .tm, none⟩,
 ⟨.slsl 1 (.tm 2) (some (.tm 0)) none none, .tm, none⟩,
 ⟨.app 9 1 16 (.tm 7) (.tm 0), .tm, none⟩,
 ⟨.nilck (.tm 9), .tm, none⟩,
 ⟨.faddr 0 (.tm 0), .tm, none⟩,
 ⟨.store1 (.tm 0) (.tm 2), .no, none⟩]) <|
 .seq (.reg [
 ⟨.mov (.fr 4), .tm, none⟩,
 ⟨.mov (.tm 0), .fr 2, none⟩,
 ⟨.mov (.c (.int .i64 0)), .fr 3, none⟩]) <|
 .ret, [.t 2, .t 3]⟩
def f57 : AFunc := ⟨[0, 1, 4, 5, 10],
 .seq (.reg [
 ⟨.mov (.c (.int .i64 0)), .fr 2, none⟩]) <|
 .seq (.seq (.reg [
 ⟨.mov (.fr 0), .tm, none⟩,
 ⟨.mov (.fr 1), .tm, none⟩,
 ⟨.callf 94 [(.tm 1), (.tm 0), (.c (.bool true))], .tm, none⟩,
 ⟨.mov (.tm 0), .fr 3, none⟩]) <|
 .seq (.reg [
 ⟨.mov (.fr 3), .tm, none⟩,
 ⟨.bin .neq (.tm 0) (.c (.int .i64 0)), .fr 4, none⟩]) <|
 .cond (.fr 4)
 (.seq (.reg [
 ⟨.mov (.fr 3), .tm, none⟩,
 ⟨.mov (.tm 0), .fr 2, none⟩]) <|
 .ret)
 (.skip)) <|
 .seq (.reg [
 ⟨.mov (.fr 0), .tm, none⟩,
 ⟨.mov (.fr 0), .tm, none⟩,
 ⟨.nilck (.tm 0), .tm, none⟩,
 ⟨.faddr 0 (.tm 0), .tm, none⟩,
 ⟨.load1 (.tm 0), .tm, none⟩,
 ⟨.mov (.fr 1), .tm, none⟩,
 ⟨.iaddr 1 (.tm 1) (.tm 0), .tm, none⟩,
 ⟨.load1 (.tm 0), .tm, none⟩,
 ⟨.callf 59 [(.tm 7), (.tm 0)], .tm, none⟩,
 ⟨.mov (.tm 0), .fr 2, none⟩]) <|
 .ret, [.t 2]⟩
def f58 : AFunc := ⟨[0, 1, 4, 15],
 .seq (.reg [
 ⟨.mov (.c (.int .i64 0)), .fr 2, none⟩]) <|
 .seq (.seq (.reg [
 ⟨.mov (.fr 1), .tm, none⟩,
 ⟨.bin .lss (.tm 0) (.c (.int .i64 0)), .tm, none⟩,
 ⟨.mov (.tm 0), .tm, none⟩,
 ⟨.mov (.fr 1), .tm, some ((.tm 0), false)⟩,
 ⟨.mov (.fr 0), .tm, some ((.tm 1), false)⟩,
 ⟨.nilck (.tm 0), .tm, some ((.tm 2), false)⟩,
 ⟨.faddr 0 (.tm 0), .tm, some ((.tm 3), false)⟩,
 ⟨.load1 (.tm 0), .tm, some ((.tm 4), false)⟩,
 ⟨.len false (.tm 0), .tm, some ((.tm 5), false)⟩,
 ⟨.bin .geq (.tm 5) (.tm 0), .tm, some ((.tm 6), false)⟩,
 ⟨.pick (.tm 7) (.c (.bool true)) (.tm 0), .fr 3, none⟩]) <|
 .cond (.fr 3)
 (.seq (.reg [
 ⟨.mov (.c (.int .i64 5)), .fr 2, none⟩]) <|
 .ret)
 (.skip)) <|
 .seq (.reg [
 ⟨.mov (.fr 0), .tm, none⟩,
 ⟨.mov (.fr 0), .tm, none⟩,
 ⟨.nilck (.tm 0), .tm, none⟩,
 ⟨.faddr 0 (.tm 0), .tm, none⟩,
 ⟨.load1 (.tm 0), .tm, none⟩,
 ⟨.mov (.fr 1), .tm, none⟩,
 ⟨.iaddr 1 (.tm 1) (.tm 0), .tm, none⟩,
 ⟨.load1 (.tm 0), .tm, none⟩,
 ⟨.callf 60 [(.tm 7), (.tm 0)], .tm, none⟩,
 ⟨.mov (.tm 0), .fr 2, none⟩]) <|
 .ret, [.t 2]⟩
def f59 : AFunc := ⟨[0, 1, 4, 5, 8],
 .seq (.reg [
 ⟨.mov (.c (.int .i64 0)), .fr 2, none⟩]) <|
 .seq (.block 0 (.seq (.reg [
 ⟨.mov (.fr 0), .tm, none⟩,
 ⟨.eqv 1 false (.tm 0) (.c (.pointer none)), .tm, none⟩,
 ⟨.mov (.tm 0), .fr 3, none⟩]) <|
 .cond (.fr 3)
 (.seq (.reg [
 ⟨.mov (.c (.int .i64 1)), .fr 2, none⟩]) <|
 .ret)
 (.seq (.reg [
 ⟨.mov (.fr 0), .tm, none⟩,
 ⟨.nilck (.tm 0), .tm, none⟩,
 ⟨.faddr 0 (.tm 0), .tm, none⟩,
 ⟨.load1 (.tm 0), .tm, none⟩,
 ⟨.len false (.tm 0), .tm, none⟩,
 ⟨.bin .geq (.tm 0) (.c (.int .i64 64)), .tm, none⟩,
 ⟨.mov (.tm 0), .fr 4, none⟩]) <|
 .cond (.fr 4)
 (.seq (.reg [
 ⟨.mov (.c (.int .i64 3)), .fr 2, none⟩]) <|
 .ret)
 (.skip)))) <|
 .seq (.dreg [
 (⟨.mov (.fr 0), .tm, none⟩, []),
 (⟨.mov (.fr 0), .tm, none⟩, []),
 (⟨.nilck (.tm 0), .tm, none⟩, []),
 (⟨.faddr 0 (.tm 0), .tm, none⟩, []),
 (⟨.load1 (.tm 0), .tm, none⟩, []),
 (⟨.mov (.fr 1), .tm, none⟩, []),
 (⟨.callf 73 [(.tm 0)], .tm, none⟩, [4]),
 (⟨.bslice 22 1 1 [(.slice none 0 0)] [(0, 1, (.tm 0))], .tm, none⟩, []),
 (⟨.app 22 1 24 (.tm 3) (.tm 0), .tm, none⟩, []),
 (⟨.nilck (.tm 8), .tm, none⟩, []),
 (⟨.faddr 0 (.tm 0), .tm, none⟩, []),
 (⟨.store1 (.tm 0) (.tm 2), .no, none⟩, [])]) <|
 .seq (.reg [
 ⟨.mov (.c (.int .i64 0)), .fr 2, none⟩]) <|
 .ret, [.t 2]⟩
def f60 : AFunc := ⟨[0, 1, 4, 10],
 .seq (.reg [
 ⟨.mov (.c (.int .i64 0)), .fr 2, none⟩]) <|
 .seq (.seq (.reg [
 ⟨.mov (.fr 0), .tm, none⟩,
 ⟨.nilck (.tm 0), .tm, none⟩,
 ⟨.faddr 0 (.tm 0), .tm, none⟩,
 ⟨.load1 (.tm 0), .tm, none⟩,
 ⟨.len false (.tm 0), .tm, none⟩,
 ⟨.bin .geq (.tm 0) (.c (.int .i64 64)), .fr 3, none⟩]) <|
 .cond (.fr 3)
 (.seq (.reg [
 ⟨.mov (.c (.int .i64 3)), .fr 2, none⟩]) <|
 .ret)
 (.skip)) <|
 .seq (.reg [
 ⟨.mov (.fr 0), .tm, none⟩,
 ⟨.mov (.fr 0), .tm, none⟩,
 ⟨.nilck (.tm 0), .tm, none⟩,
 ⟨.faddr 0 (.tm 0), .tm, none⟩,
 ⟨.load1 (.tm 0), .tm, none⟩,
 ⟨.mov (.fr 1), .tm, none⟩,
 ⟨.bslice 9 1 1 [(.string ByteArray.empty)] [(0, 1, (.tm 0))], .tm, none⟩,
 ⟨.app 9 1 16 (.tm 2) (.tm 0), .tm, none⟩,
 ⟨.nilck (.tm 7), .tm, none⟩,
 ⟨.faddr 0 (.tm 0), .tm, none⟩,
 ⟨.store1 (.tm 0) (.tm 2), .no, none⟩]) <|
 .seq (.reg [
 ⟨.mov (.c (.int .i64 0)), .fr 2, none⟩]) <|
 .ret, [.t 2]⟩
def f61 : AFunc := ⟨[0, 2, 4],
 .seq (.reg [
 ⟨.mov (.c (.int .i64 0)), .fr 1, none⟩]) <|
 .seq (.seq (.reg [
 ⟨.mov (.fr 0), .tm, none⟩,
 ⟨.eqv 1 false (.tm 0) (.c (.pointer none)), .fr 2, none⟩]) <|
 .cond (.fr 2)
 (.seq (.reg [
 ⟨.mov (.c (.int .i64 0)), .fr 1, none⟩]) <|
 .ret)
 (.skip)) <|
 .seq (.reg [
 ⟨.mov (.fr 0), .tm, none⟩,
 ⟨.nilck (.tm 0), .tm, none⟩,
 ⟨.faddr 0 (.tm 0), .tm, none⟩,
 ⟨.load1 (.tm 0), .tm, none⟩,
 ⟨.len false (.tm 0), .tm, none⟩,
 ⟨.mov (.tm 0), .fr 1, none⟩]) <|
 .ret, [.t 1]⟩
def f94 : AFunc := ⟨[0, 1, 2, 6, 7, 10, 22],
 .seq (.reg [
 ⟨.mov (.c (.int .i64 0)), .fr 3, none⟩]) <|
 .seq (.block 0 (.seq (.reg [
 ⟨.mov (.fr 0), .tm, none⟩,
 ⟨.eqv 1 false (.tm 0) (.c (.pointer none)), .tm, none⟩,
 ⟨.mov (.tm 0), .fr 4, none⟩]) <|
 .cond (.fr 4)
 (.seq (.reg [
 ⟨.mov (.c (.int .i64 1)), .fr 3, none⟩]) <|
 .ret)
 (.seq (.reg [
 ⟨.mov (.fr 1), .tm, none⟩,
 ⟨.bin .lss (.tm 0) (.c (.int .i64 0)), .tm, none⟩,
 ⟨.mov (.tm 0), .tm, none⟩,
 ⟨.mov (.fr 1), .tm, some ((.tm 0), false)⟩,
 ⟨.mov (.fr 0), .tm, some ((.tm 1), false)⟩,
 ⟨.nilck (.tm 0), .tm, some ((.tm 2), false)⟩,
 ⟨.faddr 0 (.tm 0), .tm, some ((.tm 3), false)⟩,
 ⟨.load1 (.tm 0), .tm, some ((.tm 4), false)⟩,
 ⟨.len false (.tm 0), .tm, some ((.tm 5), false)⟩,
 ⟨.bin .geq (.tm 5) (.tm 0), .tm, some ((.tm 6), false)⟩,
 ⟨.pick (.tm 7) (.c (.bool true)) (.tm 0), .tm, none⟩,
 ⟨.mov (.tm 0), .fr 5, none⟩]) <|
 .cond (.fr 5)
 (.seq (.reg [
 ⟨.mov (.c (.int .i64 5)), .fr 3, none⟩]) <|
 .ret)
 (.seq (.reg [
 ⟨.mov (.fr 2), .tm, none⟩,
 ⟨.mov (.tm 0), .tm, none⟩,
 ⟨.mov (.fr 0), .tm, some ((.tm 0), true)⟩,
 ⟨.nilck (.tm 0), .tm, some ((.tm 1), true)⟩,
 ⟨.faddr 0 (.tm 0), .tm, some ((.tm 2), true)⟩,
 ⟨.load1 (.tm 0), .tm, some ((.tm 3), true)⟩,
 ⟨.len false (.tm 0), .tm, some ((.tm 4), true)⟩,
 ⟨.bin .geq (.tm 0) (.c (.int .i64 64)), .tm, some ((.tm 5), true)⟩,
 ⟨.pick (.tm 6) (.tm 0) (.c (.bool false)), .tm, none⟩,
 ⟨.mov (.tm 0), .fr 6, none⟩]) <|
 .cond (.fr 6)
 (.seq (.reg [
 ⟨.mov (.c (.int .i64 3)), .fr 3, none⟩]) <|
 .ret)
 (.skip))))) <|
 .seq (.reg [
 ⟨.mov (.c (.int .i64 0)), .fr 3, none⟩]) <|
 .ret, [.t 3]⟩
def f95 : AFunc := ⟨[0, 1, 2, 6, 7, 16],
 .seq (.reg [
 ⟨.mov (.c (.slice none 0 0)), .fr 3, none⟩]) <|
 .seq (.reg [
 ⟨.mov (.fr 0), .tm, none⟩,
 ⟨.mov (.fr 1), .tm, none⟩,
 ⟨.mov (.fr 2), .tm, none⟩,
 ⟨.mov (.fr 0), .tm, none⟩,
 ⟨.len false (.tm 0), .tm, none⟩,
 ⟨.slsl 1 (.tm 4) (some (.tm 3)) (some (.tm 2)) (some (.tm 0)), .tm, none⟩]) <|
 .seq (.seq (.reg [
 ⟨.mov (.fr 1), .tm, none⟩,
 ⟨.mov (.fr 2), .tm, none⟩,
 ⟨.bin .eql (.tm 1) (.tm 0), .fr 5, none⟩]) <|
 .cond (.fr 5)
 (.seq (.reg [
 ⟨.mov (.fr 0), .tm, none⟩,
 ⟨.mov (.tm 0), .fr 3, none⟩]) <|
 .ret)
 (.skip)) <|
 .seq (.reg [
 ⟨.mov (.fr 0), .tm, none⟩,
 ⟨.len false (.tm 0), .tm, none⟩,
 ⟨.mov (.tm 0), .fr 4, none⟩]) <|
 .seq (.dreg [
 (⟨.mov (.fr 0), .tm, none⟩, []),
 (⟨.mov (.fr 1), .tm, none⟩, []),
 (⟨.slsl 1 (.tm 1) none (some (.tm 0)) none, .tm, none⟩, []),
 (⟨.mov (.fr 0), .tm, none⟩, []),
 (⟨.mov (.fr 2), .tm, none⟩, []),
 (⟨.slsl 1 (.tm 1) (some (.tm 0)) none none, .tm, none⟩, []),
 (⟨.app 22 1 24 (.tm 3) (.tm 0), .tm, none⟩, []),
 (⟨.mov (.tm 0), .fr 0, none⟩, [])]) <|
 .seq (.reg [
 ⟨.mov (.fr 0), .tm, none⟩,
 ⟨.mov (.fr 0), .tm, none⟩,
 ⟨.len false (.tm 0), .tm, none⟩,
 ⟨.mov (.fr 4), .tm, none⟩,
 ⟨.slsl 1 (.tm 3) (some (.tm 1)) (some (.tm 0)) none, .tm, none⟩,
 ⟨.clr 1 [(.slice none 0 0)] (.tm 0), .no, none⟩]) <|
 .seq (.reg [
 ⟨.mov (.fr 0), .tm, none⟩,
 ⟨.mov (.tm 0), .fr 3, none⟩]) <|
 .ret, [.t 3]⟩
theorem f4_ok : compF Go.Proofs.Try.prog 0 [0, 1, 2, 3, 8, 9, 10, 11, 12, 13, 14, 15, 16, 17, 18, 19, 20, 21, 22, 23, 24, 26, 40, 51, 55, 68, 72, 105, 109, 123, 124, 153, 187] 4 = some f4 := by kernel_rfl
theorem f4_n : argsOK Go.Proofs.Try.prog 4 4 = true := by kernel_rfl
theorem f8_ok : compF Go.Proofs.Try.prog 0 [0, 2, 3, 4, 5, 6, 7, 8, 9, 10, 11, 12, 13, 15, 22, 31, 51, 55, 66, 89, 93, 104, 113, 120] 8 = some f8 := by kernel_rfl
theorem f8_n : argsOK Go.Proofs.Try.prog 8 1 = true := by kernel_rfl
theorem f9_ok : compF Go.Proofs.Try.prog 0 [0, 2, 3, 4, 5, 6, 7, 8, 9, 10, 11, 12, 13, 14, 15, 16, 17, 18, 19, 20, 21, 22, 23, 24, 25, 26, 28, 43, 47, 56, 64, 72, 98, 101, 112, 121, 131, 139, 147, 148, 164, 170, 177, 182] 9 = some f9 := by kernel_rfl
theorem f9_n : argsOK Go.Proofs.Try.prog 9 1 = true := by kernel_rfl
theorem f30_ok : compF Go.Proofs.Try.prog 0 [0, 2, 3, 4, 7, 11, 34] 30 = some f30 := by kernel_rfl
theorem f30_n : argsOK Go.Proofs.Try.prog 30 1 = true := by kernel_rfl
theorem f31_ok : compF Go.Proofs.Try.prog 0 [0, 1, 2, 3, 4, 5, 7, 9, 10, 11, 12, 13, 16, 30] 31 = some f31 := by kernel_rfl
theorem f31_n : argsOK Go.Proofs.Try.prog 31 0 = true := by kernel_rfl
theorem f32_ok : compF Go.Proofs.Try.prog 0 [0, 1, 2, 6, 7, 18] 32 = some f32 := by kernel_rfl
theorem f32_n : argsOK Go.Proofs.Try.prog 32 3 = true := by kernel_rfl
theorem f33_ok : compF Go.Proofs.Try.prog 0 [0, 1, 2, 6, 17] 33 = some f33 := by kernel_rfl
theorem f33_n : argsOK Go.Proofs.Try.prog 33 3 = true := by kernel_rfl
theorem f34_ok : compF Go.Proofs.Try.prog 0 [0, 1, 4, 5, 6, 7, 10] 34 = some f34 := by kernel_rfl
theorem f34_n : argsOK Go.Proofs.Try.prog 34 2 = true := by kernel_rfl
theorem f35_ok : compF Go.Proofs.Try.prog 0 [0, 1, 4, 5, 15] 35 = some f35 := by kernel_rfl
theorem f35_n : argsOK Go.Proofs.Try.prog 35 2 = true := by kernel_rfl
theorem f37_ok : compF Go.Proofs.Try.prog 0 [0, 1, 4, 5, 6, 7, 9, 15, 19, 38, 52, 82] 37 = some f37 := by kernel_rfl
theorem f37_n : argsOK Go.Proofs.Try.prog 37 2 = true := by kernel_rfl
theorem f38_ok : compF Go.Proofs.Try.prog 0 [0, 1, 4, 5, 6, 7, 13, 16, 33, 45, 82] 38 = some f38 := by kernel_rfl
theorem f38_n : argsOK Go.Proofs.Try.prog 38 2 = true := by kernel_rfl
theorem f39_ok : compF Go.Proofs.Try.prog 0 [0, 2, 4] 39 = some f39 := by kernel_rfl
theorem f39_n : argsOK Go.Proofs.Try.prog 39 1 = true := by kernel_rfl
theorem f40_ok : compF Go.Proofs.Try.prog 0 [0, 2, 4] 40 = some f40 := by kernel_rfl
theorem f40_n : argsOK Go.Proofs.Try.prog 40 1 = true := by kernel_rfl
theorem f41_ok : compF Go.Proofs.Try.prog 0 [0, 2, 4] 41 = some f41 := by kernel_rfl
theorem f41_n : argsOK Go.Proofs.Try.prog 41 1 = true := by kernel_rfl
theorem f42_ok : compF Go.Proofs.Try.prog 0 [0, 2, 4] 42 = some f42 := by kernel_rfl
theorem f42_n : argsOK Go.Proofs.Try.prog 42 1 = true := by kernel_rfl
theorem f55_ok : compF Go.Proofs.Try.prog 0 [0, 1, 4, 5, 6, 7, 12] 55 = some f55 := by kernel_rfl
theorem f55_n : argsOK Go.Proofs.Try.prog 55 2 = true := by kernel_rfl
theorem f56_ok : compF Go.Proofs.Try.prog 0 [0, 1, 4, 5, 6, 7, 18] 56 = some f56 := by kernel_rfl
theorem f56_n : argsOK Go.Proofs.Try.prog 56 2 = true := by kernel_rfl
theorem f57_ok : compF Go.Proofs.Try.prog 0 [0, 1, 4, 5, 10] 57 = some f57 := by kernel_rfl
theorem f57_n : argsOK Go.Proofs.Try.prog 57 2 = true := by kernel_rfl
theorem f58_ok : compF Go.Proofs.Try.prog 0 [0, 1, 4, 15] 58 = some f58 := by kernel_rfl
theorem f58_n : argsOK Go.Proofs.Try.prog 58 2 = true := by kernel_rfl
theorem f59_ok : compF Go.Proofs.Try.prog 0 [0, 1, 4, 5, 8] 59 = some f59 := by kernel_rfl
theorem f59_n : argsOK Go.Proofs.Try.prog 59 2 = true := by kernel_rfl
theorem f60_ok : compF Go.Proofs.Try.prog 0 [0, 1, 4, 10] 60 = some f60 := by kernel_rfl
theorem f60_n : argsOK Go.Proofs.Try.prog 60 2 = true := by kernel_rfl
theorem f61_ok : compF Go.Proofs.Try.prog 0 [0, 2, 4] 61 = some f61 := by kernel_rfl
theorem f61_n : argsOK Go.Proofs.Try.prog 61 1 = true := by kernel_rfl
theorem f94_ok : compF Go.Proofs.Try.prog 0 [0, 1, 2, 6, 7, 10, 22] 94 = some f94 := by kernel_rfl
theorem f94_n : argsOK Go.Proofs.Try.prog 94 3 = true := by kernel_rfl
theorem f95_ok : compF Go.Proofs.Try.prog 0 [0, 1, 2, 6, 7, 16] 95 = some f95 := by kernel_rfl
theorem f95_n : argsOK Go.Proofs.Try.prog 95 3 = true := by kernel_rfl
end Go.AM.F

set_option linter.unusedSimpArgs false
set_option linter.unusedVariables false
namespace Go.AM.Fd
open Nat (reduceAdd reduceEqDiff reduceLT reduceLeDiff reduceMul reduceSub)
open Go.Proofs Go.AM.F
structure En where
  f : Nat
  t : Nat
  q : Int
  k : Int
  a : Int
  l : Int
def cE (x : En) : List Value := [.int .u8 (x.f : Nat), .int .u8 (x.t : Nat), .int .i64 x.q, .int .i64 x.k, .slice none 0 0, .int .i64 x.a, .int .i64 x.l]
def cR (x : En) : List Value := [.int .u8 (x.f : Nat), .int .u8 (x.t : Nat), .int .i64 x.q, .int .i64 x.k, .int .i64 x.a, .int .i64 x.l]
structure WfE (x : En) : Prop where
  hf : x.f < 256
  ht : x.t < 256
  hq : 0 ≤ x.q ∧ x.q ≤ 4611686018427387904
  hk : 0 ≤ x.k ∧ x.k ≤ 4611686018427387904
  ha : 0 ≤ x.a ∧ x.a ≤ 4611686018427387904
  hl : 0 ≤ x.l ∧ x.l ≤ x.k
def hE (x : En) (o : Option Li) : Int := match o with
  | none => 130
  | some m => if m.f ≠ x.t ∨ m.t ≠ x.f then 2 else if m.q ≤ x.k then 180 else 0
def hX (x : En) (m : Li) : En := { x with k := m.q, l := if 0 < x.k then x.l + (m.q - x.k - 1) else x.l, a := if m.k ≤ x.q then max x.a m.k else x.a }
theorem geLi_ok {b : List UInt8} {y : Li} (h : geLi b = some y) : okLi y = true := by
  obtain ⟨e1, e2, e3, e4⟩ := geLi_some h
  cases hk : okLi y with
  | true => rfl
  | false =>
    simp only [fLi, hk, Bool.false_eq_true, if_false] at e1
    rw [← e1] at e4; simp at e4; omega
theorem hX_wf {x : En} (h : WfE x) {m : Li} (ho : okLi m = true) (hh : x.k < m.q) : WfE (hX x m) := by
  obtain ⟨h1, h2, h3⟩ := okLi_iff.1 ho
  obtain ⟨a1, a2, a3, a4, a5, a6⟩ := h
  refine ⟨a1, a2, a3, h1, ?_, ?_⟩
  · simp only [hX]; split
    · rw [Int.max_def]; split <;> omega
    · exact a5
  · simp only [hX]; split <;> omega
def sX (x : En) : En := { x with q := x.q + 1 }
theorem t32 (f t : Nat) (n : Int) (H : AHeap) (hn : -9223372036854775808 ≤ n ∧ n ≤ 9223372036854775807) : ∃ w H', ARun Go.Proofs.Try.prog 0 32 [.int .u8 (f : Nat), .int .u8 (t : Nat), .int .i64 n] H w H' ∧
    w = (if f = t ∨ n < 1 ∨ 2305843009213693952 < n then .tuple #[.pointer none, .int .i64 2] else .tuple #[ptr H.n 0, .int .i64 0]) ∧ H' = (if f = t ∨ n < 1 ∨ 2305843009213693952 < n then H else H.alloc (.cells true false 7 (cE ⟨f, t, n - 1, 0, 0, 0⟩) 145)) := by
  refine walk2 f32_ok f32_n ?_
  intro Q hq1 hq2
  by_cases h1 : f = t
  · subst h1
    simp (disch := first | assumption | omega | (simp only [LN] <;> omega) | (simp (disch := first | assumption | omega | (simp only [LN] <;> omega)) only [row_alloc, row_set]; assumption)) only [f32, W_block, P3, ↓reduceIte, reduceAdd, reduceEqDiff, reduceCtorEq, initFr, reduceLT, clsA, reduceLeDiff, reduceMul, reduceSub, reduceIte]
    exact hq2 _ _ ⟨_, rfl, by simp; rfl, by simp⟩
  have h1' : ¬ (f : Int) = (t : Int) := by omega
  by_cases h2 : n < 1
  · simp (disch := first | assumption | omega | (simp only [LN] <;> omega) | (simp (disch := first | assumption | omega | (simp only [LN] <;> omega)) only [row_alloc, row_set]; assumption)) only [f32, W_block, P3, ↓reduceIte, reduceAdd, reduceEqDiff, reduceCtorEq, initFr, reduceLT, clsA, reduceLeDiff, reduceMul, reduceSub, reduceIte]
    exact hq2 _ _ ⟨_, rfl, by rw [if_pos (.inr (.inl h2))]; rfl, by rw [if_pos (.inr (.inl h2))]⟩
  by_cases h3 : 2305843009213693952 < n
  · simp (disch := first | assumption | omega | (simp only [LN] <;> omega) | (simp (disch := first | assumption | omega | (simp only [LN] <;> omega)) only [row_alloc, row_set]; assumption)) only [f32, W_block, P3, ↓reduceIte, reduceAdd, reduceEqDiff, reduceCtorEq, initFr, reduceLT, clsA, reduceLeDiff, reduceMul, reduceSub, reduceIte]
    exact hq2 _ _ ⟨_, rfl, by rw [if_pos (.inr (.inr h3))]; rfl, by rw [if_pos (.inr (.inr h3))]⟩
  have hw : IntKind.i64.wrap (n - 1) = n - 1 := wrap_i64 (by omega) (by omega)
  have hfl : fillA [.int .u8 0, .int .u8 0, .int .i64 0, .int .i64 0, .slice none 0 0] [(0, 1, .int .u8 (f : Nat)), (1, 1, .int .u8 (t : Nat)), (2, 1, .int .i64 (n - 1))] = some [.int .u8 (f : Nat), .int .u8 (t : Nat), .int .i64 (n - 1), .int .i64 0, .slice none 0 0] := rfl
  have hfl2 : fillA [.int .u8 0, .int .u8 0, .int .i64 0, .int .i64 0, .slice none 0 0, .int .i64 0, .int .i64 0] [(0, 5, .agg #[.int .u8 (f : Nat), .int .u8 (t : Nat), .int .i64 (n - 1), .int .i64 0, .slice none 0 0])] = some (cE ⟨f, t, n - 1, 0, 0, 0⟩) := rfl
  have ho : (cE ⟨f, t, n - 1, 0, 0, 0⟩).all Value.oneCell' = true := rfl
  have hne : ¬ (f = t ∨ n < 1 ∨ 2305843009213693952 < n) := by omega
  simp (disch := first | assumption | omega | (simp only [LN] <;> omega) | (simp (disch := first | assumption | omega | (simp only [LN] <;> omega)) only [row_alloc, row_set]; assumption)) only [f32, W_block, P3, ↓reduceIte, reduceAdd, reduceEqDiff, reduceCtorEq, initFr, reduceLT, clsA, reduceLeDiff, reduceMul, reduceSub, reduceIte, hw, hfl, hfl2, ho]
  exact hq2 _ _ ⟨_, rfl, by rw [if_neg hne]; rfl, by rw [if_neg hne]⟩
theorem t33 (f t : Nat) (n : Int) (H : AHeap) (hn : -9223372036854775808 ≤ n ∧ n ≤ 9223372036854775807) : ∃ w H', ARun Go.Proofs.Try.prog 0 33 [.int .u8 (f : Nat), .int .u8 (t : Nat), .int .i64 n] H w H' ∧
    w = (if f = t ∨ n < 1 ∨ 2305843009213693952 < n then .pointer none else ptr H.n 0) ∧ H' = (if f = t ∨ n < 1 ∨ 2305843009213693952 < n then H else H.alloc (.cells true false 6 (cR ⟨f, t, n - 1, 0, 0, 0⟩) 93)) := by
  refine walk2 f33_ok f33_n ?_
  intro Q hq1 hq2
  by_cases h1 : f = t
  · subst h1
    simp (disch := first | assumption | omega | (simp only [LN] <;> omega) | (simp (disch := first | assumption | omega | (simp only [LN] <;> omega)) only [row_alloc, row_set]; assumption)) only [f33, W_block, P3, ↓reduceIte, reduceAdd, reduceEqDiff, reduceCtorEq, initFr, reduceLT, clsA, reduceLeDiff, reduceMul, reduceSub, reduceIte]
    exact hq2 _ _ ⟨_, rfl, by simp; rfl, by simp⟩
  have h1' : ¬ (f : Int) = (t : Int) := by omega
  by_cases h2 : n < 1
  · simp (disch := first | assumption | omega | (simp only [LN] <;> omega) | (simp (disch := first | assumption | omega | (simp only [LN] <;> omega)) only [row_alloc, row_set]; assumption)) only [f33, W_block, P3, ↓reduceIte, reduceAdd, reduceEqDiff, reduceCtorEq, initFr, reduceLT, clsA, reduceLeDiff, reduceMul, reduceSub, reduceIte]
    exact hq2 _ _ ⟨_, rfl, by rw [if_pos (.inr (.inl h2))]; rfl, by rw [if_pos (.inr (.inl h2))]⟩
  by_cases h3 : 2305843009213693952 < n
  · simp (disch := first | assumption | omega | (simp only [LN] <;> omega) | (simp (disch := first | assumption | omega | (simp only [LN] <;> omega)) only [row_alloc, row_set]; assumption)) only [f33, W_block, P3, ↓reduceIte, reduceAdd, reduceEqDiff, reduceCtorEq, initFr, reduceLT, clsA, reduceLeDiff, reduceMul, reduceSub, reduceIte]
    exact hq2 _ _ ⟨_, rfl, by rw [if_pos (.inr (.inr h3))]; rfl, by rw [if_pos (.inr (.inr h3))]⟩
  have hw : IntKind.i64.wrap (n - 1) = n - 1 := wrap_i64 (by omega) (by omega)
  have hfl : fillA [.int .u8 0, .int .u8 0, .int .i64 0, .int .i64 0, .int .i64 0, .int .i64 0] [(0, 1, .int .u8 (f : Nat)), (1, 1, .int .u8 (t : Nat)), (2, 1, .int .i64 (n - 1))] = some (cR ⟨f, t, n - 1, 0, 0, 0⟩) := rfl
  have ho : (cR ⟨f, t, n - 1, 0, 0, 0⟩).all Value.oneCell' = true := rfl
  have hne : ¬ (f = t ∨ n < 1 ∨ 2305843009213693952 < n) := by omega
  simp (disch := first | assumption | omega | (simp only [LN] <;> omega) | (simp (disch := first | assumption | omega | (simp only [LN] <;> omega)) only [row_alloc, row_set]; assumption)) only [f33, W_block, P3, ↓reduceIte, reduceAdd, reduceEqDiff, reduceCtorEq, initFr, reduceLT, clsA, reduceLeDiff, reduceMul, reduceSub, reduceIte, hw, hfl, ho]
  exact hq2 _ _ ⟨_, rfl, by rw [if_neg hne]; rfl, by rw [if_neg hne]⟩
theorem cEg (x : En) : (cE x)[0]? = some (.int .u8 (x.f : Nat)) ∧ (cE x)[1]? = some (.int .u8 (x.t : Nat)) ∧ (cE x)[2]? = some (.int .i64 x.q) ∧ (cE x)[3]? = some (.int .i64 x.k) ∧ (cE x)[5]? = some (.int .i64 x.a) ∧ (cE x)[6]? = some (.int .i64 x.l) := ⟨rfl, rfl, rfl, rfl, rfl, rfl⟩
theorem cRg (x : En) : (cR x)[0]? = some (.int .u8 (x.f : Nat)) ∧ (cR x)[1]? = some (.int .u8 (x.t : Nat)) ∧ (cR x)[2]? = some (.int .i64 x.q) ∧ (cR x)[3]? = some (.int .i64 x.k) ∧ (cR x)[4]? = some (.int .i64 x.a) ∧ (cR x)[5]? = some (.int .i64 x.l) := ⟨rfl, rfl, rfl, rfl, rfl, rfl⟩
section
variable {H : AHeap} {b : Nat} {x : En}
theorem t39 (g : H.get b = some (.cells true false 7 (cE x) 145)) : ∃ w H', ARun Go.Proofs.Try.prog 0 39 [ptr b 0] H w H' ∧ w = .int .i64 x.q ∧ H' = H := by
  refine walk2 f39_ok f39_n ?_
  intro Q hq1 hq2
  simp (disch := first | assumption | omega | (simp only [LN] <;> omega) | (simp (disch := first | assumption | omega | (simp only [LN] <;> omega)) only [row_alloc, row_set]; assumption)) only [f39, W_block, P3, ↓reduceIte, reduceAdd, reduceEqDiff, reduceCtorEq, initFr, reduceLT, clsA, reduceLeDiff, reduceMul, reduceSub, reduceIte, g, cEg x]
  exact hq2 _ _ ⟨_, rfl, rfl, rfl⟩
theorem t40 (g : H.get b = some (.cells true false 7 (cE x) 145)) : ∃ w H', ARun Go.Proofs.Try.prog 0 40 [ptr b 0] H w H' ∧ w = .int .i64 x.k ∧ H' = H := by
  refine walk2 f40_ok f40_n ?_
  intro Q hq1 hq2
  simp (disch := first | assumption | omega | (simp only [LN] <;> omega) | (simp (disch := first | assumption | omega | (simp only [LN] <;> omega)) only [row_alloc, row_set]; assumption)) only [f40, W_block, P3, ↓reduceIte, reduceAdd, reduceEqDiff, reduceCtorEq, initFr, reduceLT, clsA, reduceLeDiff, reduceMul, reduceSub, reduceIte, g, cEg x]
  exact hq2 _ _ ⟨_, rfl, rfl, rfl⟩
theorem t41 (g : H.get b = some (.cells true false 7 (cE x) 145)) : ∃ w H', ARun Go.Proofs.Try.prog 0 41 [ptr b 0] H w H' ∧ w = .int .i64 x.a ∧ H' = H := by
  refine walk2 f41_ok f41_n ?_
  intro Q hq1 hq2
  simp (disch := first | assumption | omega | (simp only [LN] <;> omega) | (simp (disch := first | assumption | omega | (simp only [LN] <;> omega)) only [row_alloc, row_set]; assumption)) only [f41, W_block, P3, ↓reduceIte, reduceAdd, reduceEqDiff, reduceCtorEq, initFr, reduceLT, clsA, reduceLeDiff, reduceMul, reduceSub, reduceIte, g, cEg x]
  exact hq2 _ _ ⟨_, rfl, rfl, rfl⟩
theorem t42 (g : H.get b = some (.cells true false 7 (cE x) 145)) : ∃ w H', ARun Go.Proofs.Try.prog 0 42 [ptr b 0] H w H' ∧ w = .int .i64 x.l ∧ H' = H := by
  refine walk2 f42_ok f42_n ?_
  intro Q hq1 hq2
  simp (disch := first | assumption | omega | (simp only [LN] <;> omega) | (simp (disch := first | assumption | omega | (simp only [LN] <;> omega)) only [row_alloc, row_set]; assumption)) only [f42, W_block, P3, ↓reduceIte, reduceAdd, reduceEqDiff, reduceCtorEq, initFr, reduceLT, clsA, reduceLeDiff, reduceMul, reduceSub, reduceIte, g, cEg x]
  exact hq2 _ _ ⟨_, rfl, rfl, rfl⟩
end
end Go.AM.Fd

set_option linter.unusedSimpArgs false
set_option linter.unusedVariables false
namespace Go.AM.Fd
open Nat (reduceAdd reduceEqDiff reduceLT reduceLeDiff reduceMul reduceSub)
open Go.Proofs Go.AM.F
section
variable {H : AHeap} {b : Nat} {x : En}
theorem t34no (g : H.get b = some (.cells true false 7 (cE x) 145)) {v : Value} {B : List UInt8} (hB : BS H v B) (hn : 2048 < B.length ∨ 4611686018427387904 ≤ x.q) :
    ∃ w H', ARun Go.Proofs.Try.prog 0 34 [ptr b 0, v] H w H' ∧ w = .tuple #[.slice none 0 0, .int .i64 3] ∧ H' = H := by
  refine walk2 f34_ok f34_n ?_
  intro Q hq1 hq2
  have his := hB.sl.is
  have hlen := hB.sl.len
  rw [List.length_map] at hlen
  by_cases h1 : 2048 < B.length
  · simp (disch := first | assumption | omega | (simp only [LN] <;> omega) | (simp (disch := first | assumption | omega | (simp only [LN] <;> omega)) only [row_alloc, row_set]; assumption)) only [f34, W_block, P3, ↓reduceIte, reduceAdd, reduceEqDiff, reduceCtorEq, initFr, reduceLT, clsA, reduceLeDiff, reduceMul, reduceSub, reduceIte, hlen]
    exact hq2 _ _ ⟨_, rfl, rfl, rfl⟩
  · have h2 : 4611686018427387904 ≤ x.q := by omega
    simp (disch := first | assumption | omega | (simp only [LN] <;> omega) | (simp (disch := first | assumption | omega | (simp only [LN] <;> omega)) only [row_alloc, row_set]; assumption)) only [f34, W_block, P3, ↓reduceIte, reduceAdd, reduceEqDiff, reduceCtorEq, initFr, reduceLT, clsA, reduceLeDiff, reduceMul, reduceSub, reduceIte, hlen, g, cEg x]
    exact hq2 _ _ ⟨_, rfl, rfl, rfl⟩
theorem t34 (hw : WfE x) (g : H.get b = some (.cells true false 7 (cE x) 145)) {v : Value} {B : List UInt8} (hB : BQ H v B) (hv : ∀ y ∈ tb v, y ≠ b) (h1 : B.length ≤ 2048) (h2 : x.q < 4611686018427387904) :
    ∃ w H', ARun Go.Proofs.Try.prog 0 34 [ptr b 0, v] H w H' ∧ ∃ r, w = .tuple #[r, .int .i64 0] ∧ PutR (H.set b (.cells true false 7 (cE (sX x)) 145)) H' r (fLi ⟨x.f, x.t, x.q + 1, x.k, B⟩) := by
  refine walk2 f34_ok f34_n ?_
  intro Q hq1 hq2
  have his := hB.bs.sl.is
  have hlen := hB.bs.sl.len
  have hone := hB.bs.sl.one
  rw [List.length_map] at hlen
  have hwr : IntKind.i64.wrap (x.q + 1) = x.q + 1 := by have := hw.hq; exact wrap_i64 (by omega) (by omega)
  have lb := AHeap.get_lt g
  have hc7 : (cE (sX x)).length = 7 := rfl
  have hd5 : (cE (sX x)).take 5 = cLi (.slice none 0 0) ⟨x.f, x.t, x.q + 1, x.k, []⟩ := rfl
  have hl5 : (cLi (.slice none 0 0) ⟨x.f, x.t, x.q + 1, x.k, []⟩).length = 5 := rfl
  have ho5 : (cLi (.slice none 0 0) ⟨x.f, x.t, x.q + 1, x.k, []⟩).all Value.oneCell' = true := rfl
  have hs4 : (cLi (.slice none 0 0) ⟨x.f, x.t, x.q + 1, x.k, []⟩).set 4 v = cLi v ⟨x.f, x.t, x.q + 1, x.k, B⟩ := rfl
  have hl6 : (cLi v ⟨x.f, x.t, x.q + 1, x.k, B⟩).length = 5 := rfl
  have lE : (cE x).length = 7 := rfl
  have hs2 : (cE x).set 2 (.int .i64 (x.q + 1)) = cE (sX x) := rfl
  have g1 : (H.set b (.cells true false 7 (cE (sX x)) 145)).get b = some (.cells true false 7 (cE (sX x)) 145) := AHeap.get_set_same g _
  simp (disch := first | assumption | omega | (simp only [LN] <;> omega) | (simp (disch := first | assumption | omega | (simp only [LN] <;> omega)) only [row_alloc, row_set]; assumption)) only [f34, W_block, P3, ↓reduceIte, reduceAdd, reduceEqDiff, reduceCtorEq, initFr, reduceLT, clsA, reduceLeDiff, reduceMul, reduceSub, reduceIte, hlen, g, cEg x, hwr, lE, hs2, g1, hd5, hl5, ho5, hs4, hl6, hone]
  have cg := Chg.set H lb (.cells true false 7 (cE (sX x)) 145)
  have hB1 := (hB.chg cg (fun y hy => by simpa using hv y hy)).keeps ((Keeps.refl _).alloc (.cells true false 5 (cLi v ⟨x.f, x.t, x.q + 1, x.k, B⟩) 65))
  refine callK (t36 ⟨x.f, x.t, x.q + 1, x.k, B⟩ ⟨hw.hf, hw.ht⟩ hB1.bs (by show B.length ≤ 50000; omega)) ?_
  rintro r K p
  simp (disch := first | assumption | omega | (simp only [LN] <;> omega) | (simp (disch := first | assumption | omega | (simp only [LN] <;> omega)) only [row_alloc, row_set]; assumption)) only [W_block, P3, ↓reduceIte, reduceAdd, reduceEqDiff, reduceCtorEq, initFr, reduceLT, clsA, reduceLeDiff, reduceMul, reduceSub, reduceIte]
  exact hq2 _ _ ⟨_, rfl, r, rfl, p.from_ ((Keeps.refl _).alloc _)⟩
theorem t35no (g : H.get b = some (.cells true false 6 (cR x) 93)) {B : List UInt8} (hn : 2048 < B.length ∨ 4611686018427387904 ≤ x.q) :
    ∃ w H', ARun Go.Proofs.Try.prog 0 35 [ptr b 0, strB B] H w H' ∧ w = .tuple #[.slice none 0 0, .int .i64 3] ∧ H' = H := by
  refine walk2 f35_ok f35_n ?_
  intro Q hq1 hq2
  by_cases h1 : 2048 < B.length
  · simp (disch := first | assumption | omega | (simp only [LN] <;> omega) | (simp (disch := first | assumption | omega | (simp only [LN] <;> omega)) only [row_alloc, row_set]; assumption)) only [f35, W_block, P3, ↓reduceIte, reduceAdd, reduceEqDiff, reduceCtorEq, initFr, reduceLT, clsA, reduceLeDiff, reduceMul, reduceSub, reduceIte, a_lenB]
    exact hq2 _ _ ⟨_, rfl, rfl, rfl⟩
  · have h2 : 4611686018427387904 ≤ x.q := by omega
    simp (disch := first | assumption | omega | (simp only [LN] <;> omega) | (simp (disch := first | assumption | omega | (simp only [LN] <;> omega)) only [row_alloc, row_set]; assumption)) only [f35, W_block, P3, ↓reduceIte, reduceAdd, reduceEqDiff, reduceCtorEq, initFr, reduceLT, clsA, reduceLeDiff, reduceMul, reduceSub, reduceIte, a_lenB, g, cRg x]
    exact hq2 _ _ ⟨_, rfl, rfl, rfl⟩
theorem t35 (hw : WfE x) (g : H.get b = some (.cells true false 6 (cR x) 93)) {B : List UInt8} (h1 : B.length ≤ 2048) (h2 : x.q < 4611686018427387904) :
    ∃ w H', ARun Go.Proofs.Try.prog 0 35 [ptr b 0, strB B] H w H' ∧ ∃ r, w = .tuple #[r, .int .i64 0] ∧ OB 5 (H.set b (.cells true false 6 (cR (sX x)) 93)) H' r (fLi ⟨x.f, x.t, x.q + 1, x.k, B⟩) := by
  refine walk2 f35_ok f35_n ?_
  intro Q hq1 hq2
  have hwr : IntKind.i64.wrap (x.q + 1) = x.q + 1 := by have := hw.hq; exact wrap_i64 (by omega) (by omega)
  have lb := AHeap.get_lt g
  have lE : (cR x).length = 6 := rfl
  have hs2 : (cR x).set 2 (.int .i64 (x.q + 1)) = cR (sX x) := rfl
  have g1 : (H.set b (.cells true false 6 (cR (sX x)) 93)).get b = some (.cells true false 6 (cR (sX x)) 93) := AHeap.get_set_same g _
  have hfl : fillA [.int .u8 0, .int .u8 0, .int .i64 0, .int .i64 0, .string ByteArray.empty] [(0, 1, .int .u8 (x.f : Nat)), (1, 1, .int .u8 (x.t : Nat)), (2, 1, .int .i64 (x.q + 1)), (3, 1, .int .i64 x.k), (4, 1, strB B)] = some (cLs ⟨x.f, x.t, x.q + 1, x.k, B⟩) := rfl
  have hsx : (sX x).f = x.f ∧ (sX x).t = x.t ∧ (sX x).q = x.q + 1 ∧ (sX x).k = x.k := ⟨rfl, rfl, rfl, rfl⟩
  simp (disch := first | assumption | omega | (simp only [LN] <;> omega) | (simp (disch := first | assumption | omega | (simp only [LN] <;> omega)) only [row_alloc, row_set]; assumption)) only [f35, W_block, P3, ↓reduceIte, reduceAdd, reduceEqDiff, reduceCtorEq, initFr, reduceLT, clsA, reduceLeDiff, reduceMul, reduceSub, reduceIte, a_lenB, g, cRg x, cRg (sX x), hwr, lE, hs2, g1, hsx, hfl]
  refine callK (t52 ⟨x.f, x.t, x.q + 1, x.k, B⟩ ⟨hw.hf, hw.ht⟩ _ (by show B.length ≤ 1000000; omega)) ?_
  rintro r K p
  simp (disch := first | assumption | omega | (simp only [LN] <;> omega) | (simp (disch := first | assumption | omega | (simp only [LN] <;> omega)) only [row_alloc, row_set]; assumption)) only [W_block, P3, ↓reduceIte, reduceAdd, reduceEqDiff, reduceCtorEq, initFr, reduceLT, clsA, reduceLeDiff, reduceMul, reduceSub, reduceIte]
  exact hq2 _ _ ⟨_, rfl, r, rfl, p⟩
end
end Go.AM.Fd
