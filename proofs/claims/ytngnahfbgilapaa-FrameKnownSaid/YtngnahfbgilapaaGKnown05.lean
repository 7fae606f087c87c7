/- Part of the proof. -/
import Derived.Test.YtngnahfbgilapaaGKnown04
set_option linter.unusedSimpArgs false
set_option linter.unusedVariables false
set_option linter.unusedSimpArgs false
set_option linter.unusedVariables false
namespace Go.AM.Fd
open Nat (reduceAdd reduceEqDiff reduceLT reduceLeDiff reduceMul reduceSub)
open Go.Proofs Go.AM.F
theorem new_ws (H : AHeap) : WS (H.alloc (.cells true false 1 [.slice none 0 0] 166)) H.n H.n [] := ⟨_, AHeap.get_alloc_new H _, .inl ⟨rfl, rfl, rfl⟩, .inl ⟨rfl, rfl⟩⟩
theorem be1 (k : Nat) : be 1 k = [UInt8.ofNat k] := by simp [be]
def PutR (H H' : AHeap) (v : Value) (l : List UInt8) : Prop := AP H' 5 1 v l.length (cellsOf l) ∧ Keeps H H' ∧ Fresh H.n v
theorem t77 {H : AHeap} (k : Nat) (hk : k < 256) (vi : Value) (okb : Bool) (g : Nat) (cap : Value) (body : List UInt8) (hb : body.length ≤ 100000)
    (hmay : ∃ v H', ARun Go.Proofs.Try.prog 0 101 [vi] H v H' ∧ v = .bool okb ∧ Keeps H H') (hfill : okb = true → CLO H g cap (be 1 k) body) :
    ∃ v H', ARun Go.Proofs.Try.prog 0 77 [.int .u8 k, vi, .func (.func g) #[] #[cap]] H v H' ∧ PutR H H' v (if okb then chk (UInt8.ofNat k :: body) else []) := by
  refine walk2 f77_ok f77_n ?_
  intro Q hq1 hq2
  simp (disch := first | assumption | omega | (simp only [LN] <;> omega) | (simp (disch := first | assumption | omega | (simp only [LN] <;> omega)) only [row_alloc, row_set]; assumption)) only [f77, W_block, P3, ↓reduceIte, reduceAdd, reduceEqDiff, reduceCtorEq, initFr, reduceLT, clsA, reduceLeDiff, reduceMul, reduceSub, reduceIte]
  refine callK hmay ?_
  rintro _ H1 ⟨rfl, k1⟩
  cases okb with
  | false =>
    simp (disch := first | assumption | omega | (simp only [LN] <;> omega) | (simp (disch := first | assumption | omega | (simp only [LN] <;> omega)) only [row_alloc, row_set]; assumption)) only [W_block, P3, ↓reduceIte, reduceAdd, reduceEqDiff, reduceCtorEq, initFr, reduceLT, clsA, reduceLeDiff, reduceMul, reduceSub, reduceIte]
    exact hq2 _ _ ⟨_, rfl, .inl ⟨rfl, rfl, rfl⟩, k1, by intro b hb; cases hb⟩
  | true =>
    have hn1 := k1.n
    simp (disch := first | assumption | omega | (simp only [LN] <;> omega) | (simp (disch := first | assumption | omega | (simp only [LN] <;> omega)) only [row_alloc, row_set]; assumption)) only [W_block, P3, ↓reduceIte, reduceAdd, reduceEqDiff, reduceCtorEq, initFr, reduceLT, clsA, reduceLeDiff, reduceMul, reduceSub, reduceIte]
    have w0 := new_ws H1
    have k2 := (Keeps.refl H1).alloc (.cells true false 1 [.slice none 0 0] 166)
    obtain ⟨Ha, hHa⟩ : ∃ X, X = H1.alloc (.cells true false 1 [.slice none 0 0] 166) := ⟨_, rfl⟩
    rw [← hHa] at w0 k2 ⊢
    have n2 := k2.n
    refine callK (t79 w0 k hk (by simp)) ?_
    rintro _ H3 ⟨b3, w3, hb3, d3⟩
    rw [List.nil_append] at w3
    have n3 := d3.n
    have k3 : Keeps H H3 := (k1.trans k2).chg_trans d3 (by simp; omega)
    simp (disch := first | assumption | omega | (simp only [LN] <;> omega) | (simp (disch := first | assumption | omega | (simp only [LN] <;> omega)) only [row_alloc, row_set]; assumption)) only [W_block, P3, ↓reduceIte, reduceAdd, reduceEqDiff, reduceCtorEq, initFr, reduceLT, clsA, reduceLeDiff, reduceMul, reduceSub, reduceIte]
    refine callK (hfill rfl H3 H1.n b3 k3 (by omega) (by omega) w3) ?_
    rintro _ H4 ⟨b4, w4, hb4, d4⟩
    have n4 := d4.n
    have k4 : Keeps H H4 := k3.chg_trans d4 (by simp; omega)
    have hlen : (be 1 k ++ body).length ≤ 1000000 := by simp [be_length]; omega
    simp (disch := first | assumption | omega | (simp only [LN] <;> omega) | (simp (disch := first | assumption | omega | (simp only [LN] <;> omega)) only [row_alloc, row_set]; assumption)) only [W_block, P3, ↓reduceIte, reduceAdd, reduceEqDiff, reduceCtorEq, initFr, reduceLT, clsA, reduceLeDiff, reduceMul, reduceSub, reduceIte]
    refine callK (t104 w4 (by omega)) ?_
    rintro v5 H5 ⟨a5, k5, f5⟩
    simp (disch := first | assumption | omega | (simp only [LN] <;> omega) | (simp (disch := first | assumption | omega | (simp only [LN] <;> omega)) only [row_alloc, row_set]; assumption)) only [W_block, P3, ↓reduceIte, reduceAdd, reduceEqDiff, reduceCtorEq, initFr, reduceLT, clsA, reduceLeDiff, reduceMul, reduceSub, reduceIte]
    refine callK (t97 a5.bs (by omega)) ?_
    rintro _ _ ⟨rfl, rfl⟩
    simp (disch := first | assumption | omega | (simp only [LN] <;> omega) | (simp (disch := first | assumption | omega | (simp only [LN] <;> omega)) only [row_alloc, row_set]; assumption)) only [W_block, P3, ↓reduceIte, reduceAdd, reduceEqDiff, reduceCtorEq, initFr, reduceLT, clsA, reduceLeDiff, reduceMul, reduceSub, reduceIte]
    refine callK (t85 (w4.chg (k5.chg []) (by simp) (by simp)) (crc (be 1 k ++ body)) (crc_lt _) (by omega)) ?_
    rintro _ H6 ⟨b6, w6, hb6, d6⟩
    have n6 := d6.n
    have n5 := k5.n
    simp (disch := first | assumption | omega | (simp only [LN] <;> omega) | (simp (disch := first | assumption | omega | (simp only [LN] <;> omega)) only [row_alloc, row_set]; assumption)) only [W_block, P3, ↓reduceIte, reduceAdd, reduceEqDiff, reduceCtorEq, initFr, reduceLT, clsA, reduceLeDiff, reduceMul, reduceSub, reduceIte]
    refine callK (t104 w6 (by rw [List.length_append, be_length]; omega)) ?_
    rintro v7 H7 ⟨a7, k7, f7⟩
    simp (disch := first | assumption | omega | (simp only [LN] <;> omega) | (simp (disch := first | assumption | omega | (simp only [LN] <;> omega)) only [row_alloc, row_set]; assumption)) only [W_block, P3, ↓reduceIte, reduceAdd, reduceEqDiff, reduceCtorEq, initFr, reduceLT, clsA, reduceLeDiff, reduceMul, reduceSub, reduceIte]
    have k6 : Keeps H H6 := (k4.trans k5).chg_trans d6 (by simp; omega)
    refine hq2 _ _ ⟨_, rfl, ?_, k6.trans k7, fun b hb => by have := f7 b hb; have := k6.n; omega⟩
    rw [be1] at a7
    exact a7
def fOu (x : Ou) : List UInt8 := if okOu x then chk (2 :: enOu x) else []
def fSt (x : St) : List UInt8 := chk (3 :: enSt x)
def fLo (x : Lo) : List UInt8 := if okLo x then chk (4 :: enLo x) else []
def fLi (x : Li) : List UInt8 := if okLi x then chk (5 :: enLi x) else []
def fI6 (x : I6) : List UInt8 := if okI6 x then chk (1 :: enI6 x) else []
theorem CLO.keeps {H H' : AHeap} {g : Nat} {cap : Value} {pre body : List UInt8} (h : CLO H g cap pre body) (k : Keeps H H') : CLO H' g cap pre body :=
  fun H1 b bv k1 hb hbv w => h H1 b bv (k.trans k1) (Nat.le_trans k.n hb) (Nat.le_trans k.n hbv) w
theorem PutR.from_ {A B C : AHeap} {v : Value} {l : List UInt8} (k : Keeps A B) (h : PutR B C v l) : PutR A C v l := ⟨h.1, k.trans h.2.1, fun b hb => Nat.le_trans k.n (h.2.2 b hb)⟩
theorem t45 (x : Ou) (hx : rgOu x) (H : AHeap) : ∃ v H', ARun Go.Proofs.Try.prog 0 45 [.agg (cOu x).toArray] H v H' ∧ PutR H H' v (fOu x) := by
  refine walk2 f45_ok f45_n ?_
  intro Q hq1 hq2
  have lx : (cOu x).length = 5 := rfl
  have ox : (cOu x).all Value.oneCell' = true := rfl
  have k0 := (Keeps.refl H).alloc (.cells true false 5 (cOu x) 42)
  have g := AHeap.get_alloc_new H (.cells true false 5 (cOu x) 42)
  simp (disch := first | assumption | omega | (simp only [LN] <;> omega) | (simp (disch := first | assumption | omega | (simp only [LN] <;> omega)) only [row_alloc, row_set]; assumption)) only [f45, W_block, P3, ↓reduceIte, reduceAdd, reduceEqDiff, reduceCtorEq, initFr, reduceLT, clsA, reduceLeDiff, reduceMul, reduceSub, reduceIte, ox]
  refine callK (t77 2 (by omega) _ (okOu x) 86 _ (enOu x) (by rw [enOu_len]; omega) (mayOu x _) (fun hok => t86 g hx hok _ (by rw [be_length]; omega))) ?_
  rintro v H' p
  simp (disch := first | assumption | omega | (simp only [LN] <;> omega) | (simp (disch := first | assumption | omega | (simp only [LN] <;> omega)) only [row_alloc, row_set]; assumption)) only [W_block, P3, ↓reduceIte, reduceAdd, reduceEqDiff, reduceCtorEq, initFr, reduceLT, clsA, reduceLeDiff, reduceMul, reduceSub, reduceIte]
  exact hq2 _ _ ⟨_, rfl, PutR.from_ k0 p⟩
theorem t46 (x : St) (hx : rgSt x) (H : AHeap) : ∃ v H', ARun Go.Proofs.Try.prog 0 46 [.agg (cSt x).toArray] H v H' ∧ PutR H H' v (fSt x) := by
  refine walk2 f46_ok f46_n ?_
  intro Q hq1 hq2
  have lx := cSt_len hx.ht
  have ox := cSt_one x
  have k0 := (Keeps.refl H).alloc (.cells true false 68 (cSt x) 51)
  have g := AHeap.get_alloc_new H (.cells true false 68 (cSt x) 51)
  simp (disch := first | assumption | omega | (simp only [LN] <;> omega) | (simp (disch := first | assumption | omega | (simp only [LN] <;> omega)) only [row_alloc, row_set]; assumption)) only [f46, W_block, P3, ↓reduceIte, reduceAdd, reduceEqDiff, reduceCtorEq, initFr, reduceLT, clsA, reduceLeDiff, reduceMul, reduceSub, reduceIte, ox]
  refine callK (t77 3 (by omega) _ true 87 _ (enSt x) (by rw [enSt_len hx.ht]; omega) (maySt x _) (fun hok => t87 g hx _ (by rw [be_length]; omega))) ?_
  rintro v H' p
  simp (disch := first | assumption | omega | (simp only [LN] <;> omega) | (simp (disch := first | assumption | omega | (simp only [LN] <;> omega)) only [row_alloc, row_set]; assumption)) only [W_block, P3, ↓reduceIte, reduceAdd, reduceEqDiff, reduceCtorEq, initFr, reduceLT, clsA, reduceLeDiff, reduceMul, reduceSub, reduceIte]
  exact hq2 _ _ ⟨_, rfl, PutR.from_ k0 p⟩
theorem t47 (x : Lo) (hx : rgSt x.s) (H : AHeap) : ∃ v H', ARun Go.Proofs.Try.prog 0 47 [.agg (cLo x).toArray] H v H' ∧ PutR H H' v (fLo x) := by
  refine walk2 f47_ok f47_n ?_
  intro Q hq1 hq2
  have lx := cLo_len hx.ht
  have ox := cLo_one x
  have k0 := (Keeps.refl H).alloc (.cells true false 70 (cLo x) 57)
  have g := AHeap.get_alloc_new H (.cells true false 70 (cLo x) 57)
  simp (disch := first | assumption | omega | (simp only [LN] <;> omega) | (simp (disch := first | assumption | omega | (simp only [LN] <;> omega)) only [row_alloc, row_set]; assumption)) only [f47, W_block, P3, ↓reduceIte, reduceAdd, reduceEqDiff, reduceCtorEq, initFr, reduceLT, clsA, reduceLeDiff, reduceMul, reduceSub, reduceIte, ox]
  refine callK (t77 4 (by omega) _ (okLo x) 89 _ (enLo x) (by rw [enLo_len hx.ht]; omega) (mayLo x hx.ht _) (fun hok => t89 g hx hok _ (by rw [be_length]; omega))) ?_
  rintro v H' p
  simp (disch := first | assumption | omega | (simp only [LN] <;> omega) | (simp (disch := first | assumption | omega | (simp only [LN] <;> omega)) only [row_alloc, row_set]; assumption)) only [W_block, P3, ↓reduceIte, reduceAdd, reduceEqDiff, reduceCtorEq, initFr, reduceLT, clsA, reduceLeDiff, reduceMul, reduceSub, reduceIte]
  exact hq2 _ _ ⟨_, rfl, PutR.from_ k0 p⟩
theorem t36 {H : AHeap} (x : Li) {vb : Value} (hx : rgLi x) (hB : BS H vb x.B) (hl : x.B.length ≤ 50000) : ∃ v H', ARun Go.Proofs.Try.prog 0 36 [.agg (cLi vb x).toArray] H v H' ∧ PutR H H' v (fLi x) := by
  refine walk2 f36_ok f36_n ?_
  intro Q hq1 hq2
  have hone := hB.sl.one
  have k0 := (Keeps.refl H).alloc (.cells true false 5 (cLi vb x) 65)
  have g := AHeap.get_alloc_new H (.cells true false 5 (cLi vb x) 65)
  have hcl : vb.cells.toList = [vb] := by obtain ⟨a, k, rfl⟩ := hB.sh; rfl
  have lx : (cLi vb x).length = 5 := rfl
  have ox : (cLi vb x).all Value.oneCell' = true := by simp only [cLi, List.all_cons, List.all_nil, hone]; rfl
  simp (disch := first | assumption | omega | (simp only [LN] <;> omega) | (simp (disch := first | assumption | omega | (simp only [LN] <;> omega)) only [row_alloc, row_set]; assumption)) only [f36, W_block, P3, ↓reduceIte, reduceAdd, reduceEqDiff, reduceCtorEq, initFr, reduceLT, clsA, reduceLeDiff, reduceMul, reduceSub, reduceIte, ox]
  have hB1 := hB.keeps k0
  refine callK (t77 5 (by omega) _ (okLi x) 78 _ (enLi x) (by rw [enLi_len]; omega) (mayLi x hB1) (fun hok => t78 g hB1 hx hok _ (by rw [be_length]; omega))) ?_
  rintro v H' p
  simp (disch := first | assumption | omega | (simp only [LN] <;> omega) | (simp (disch := first | assumption | omega | (simp only [LN] <;> omega)) only [row_alloc, row_set]; assumption)) only [W_block, P3, ↓reduceIte, reduceAdd, reduceEqDiff, reduceCtorEq, initFr, reduceLT, clsA, reduceLeDiff, reduceMul, reduceSub, reduceIte]
  exact hq2 _ _ ⟨_, rfl, PutR.from_ k0 p⟩
theorem t44 {H : AHeap} (x : I6) {vc : Value} (hx : rgI6 x) (hC : Sl H 2 vc (CC x.cs)) (hl : x.cs.length ≤ 40000) : ∃ v H', ARun Go.Proofs.Try.prog 0 44 [.agg (cI6 vc x).toArray] H v H' ∧ PutR H H' v (fI6 x) := by
  refine walk2 f44_ok f44_n ?_
  intro Q hq1 hq2
  have hone := hC.one
  have k0 := (Keeps.refl H).alloc (.cells true false 6 (cI6 vc x) 30)
  have g := AHeap.get_alloc_new H (.cells true false 6 (cI6 vc x) 30)
  have lx : (cI6 vc x).length = 6 := rfl
  have ox : (cI6 vc x).all Value.oneCell' = true := by simp only [cI6, List.all_cons, List.all_nil, hone]; rfl
  simp (disch := first | assumption | omega | (simp only [LN] <;> omega) | (simp (disch := first | assumption | omega | (simp only [LN] <;> omega)) only [row_alloc, row_set]; assumption)) only [f44, W_block, P3, ↓reduceIte, reduceAdd, reduceEqDiff, reduceCtorEq, initFr, reduceLT, clsA, reduceLeDiff, reduceMul, reduceSub, reduceIte, ox]
  have hC1 := hC.keeps k0
  refine callK (t77 1 (by omega) _ (okI6 x) 83 _ (enI6 x) (by rw [enI6_len]; omega) (mayI6 x hC1 (by omega)) (fun hok => t83 g hC1 hx hok _ (by rw [be_length]; omega))) ?_
  rintro v H' p
  simp (disch := first | assumption | omega | (simp only [LN] <;> omega) | (simp (disch := first | assumption | omega | (simp only [LN] <;> omega)) only [row_alloc, row_set]; assumption)) only [W_block, P3, ↓reduceIte, reduceAdd, reduceEqDiff, reduceCtorEq, initFr, reduceLT, clsA, reduceLeDiff, reduceMul, reduceSub, reduceIte]
  exact hq2 _ _ ⟨_, rfl, PutR.from_ k0 p⟩
end Go.AM.Fd

set_option linter.unusedSimpArgs false
set_option linter.unusedVariables false
namespace Go.AM.Fd
open Nat (reduceAdd reduceEqDiff reduceLT reduceLeDiff reduceMul reduceSub)
open Go.Proofs Go.AM.F
def GotV (c : List Value) (e : Int) : Value := .tuple #[.agg c.toArray, .int .i64 e]
-- got{
theorem t68 {H : AHeap} {lo hi r s : Nat} {l : List UInt8} (h : RR H lo hi r l s) (ok : Bool) (x : Ou) : ∃ v H', ARun Go.Proofs.Try.prog 0 68 [ptr r 0, .bool ok, .agg (cOu x).toArray] H v H' ∧ Keeps H H' ∧
    v = if ok = true ∧ l.length = s ∧ okOu x = true then GotV (cOu x) 0 else GotV (cOu Ou0) 130 := by
  refine walk2 f68_ok f68_n ?_
  intro Q hq1 hq2
  have hr : ∀ fr H', resO f68.res fr H' = (celln 5 (fr.getD 4 undef) H').map fun c => .tuple #[c, fr.getD 5 undef] := fun fr H' => resCT 5 4 5 fr
  have lx : (cOu x).length = 5 := rfl
  have ox : (cOu x).all Value.oneCell' = true := rfl
  cases ok with
  | false =>
    simp (disch := first | assumption | omega | (simp only [LN] <;> omega) | (simp (disch := first | assumption | omega | (simp only [LN] <;> omega)) only [row_alloc, row_set]; assumption)) only [f68, W_block, P3, ↓reduceIte, reduceAdd, reduceEqDiff, reduceCtorEq, initFr, reduceLT, clsA, reduceLeDiff, reduceMul, reduceSub, reduceIte, ox]
    refine hq2 _ _ ⟨_, by rw [hr]; simp (disch := first | assumption | omega | (simp only [LN] <;> omega) | (simp (disch := first | assumption | omega | (simp only [LN] <;> omega)) only [row_alloc, row_set]; assumption)) only [W_block, P3, ↓reduceIte, reduceAdd, reduceEqDiff, reduceCtorEq, initFr, reduceLT, clsA, reduceLeDiff, reduceMul, reduceSub, reduceIte]; rfl, by ((repeat (first | exact Keeps.refl _ | assumption | refine Keeps.alloc ?_ _ | (refine Keeps.set ?_ (by first | omega | (simp only [alloc_n, set_n] <;> omega)) (by first | omega | (simp only [alloc_n, set_n] <;> omega)) _) | (refine Keeps.trans' (by assumption) ?_)))), by rw [if_neg (by simp)]; rfl⟩
  | true =>
    simp (disch := first | assumption | omega | (simp only [LN] <;> omega) | (simp (disch := first | assumption | omega | (simp only [LN] <;> omega)) only [row_alloc, row_set]; assumption)) only [f68, W_block, P3, ↓reduceIte, reduceAdd, reduceEqDiff, reduceCtorEq, initFr, reduceLT, clsA, reduceLeDiff, reduceMul, reduceSub, reduceIte, ox]
    refine callK (q99 (h.keeps (by ((repeat (first | exact Keeps.refl _ | assumption | refine Keeps.alloc ?_ _ | (refine Keeps.set ?_ (by first | omega | (simp only [alloc_n, set_n] <;> omega)) (by first | omega | (simp only [alloc_n, set_n] <;> omega)) _) | (refine Keeps.trans' (by assumption) ?_))))))) ?_
    rintro _ _ ⟨rfl, rfl⟩
    by_cases h1 : l.length < s
    · have e1 : decide (l.length < s) = true := by simp [h1]
      simp (disch := first | assumption | omega | (simp only [LN] <;> omega) | (simp (disch := first | assumption | omega | (simp only [LN] <;> omega)) only [row_alloc, row_set]; assumption)) only [W_block, P3, ↓reduceIte, reduceAdd, reduceEqDiff, reduceCtorEq, initFr, reduceLT, clsA, reduceLeDiff, reduceMul, reduceSub, reduceIte, ox, e1]
      refine hq2 _ _ ⟨_, by rw [hr]; simp (disch := first | assumption | omega | (simp only [LN] <;> omega) | (simp (disch := first | assumption | omega | (simp only [LN] <;> omega)) only [row_alloc, row_set]; assumption)) only [W_block, P3, ↓reduceIte, reduceAdd, reduceEqDiff, reduceCtorEq, initFr, reduceLT, clsA, reduceLeDiff, reduceMul, reduceSub, reduceIte]; rfl, by ((repeat (first | exact Keeps.refl _ | assumption | refine Keeps.alloc ?_ _ | (refine Keeps.set ?_ (by first | omega | (simp only [alloc_n, set_n] <;> omega)) (by first | omega | (simp only [alloc_n, set_n] <;> omega)) _) | (refine Keeps.trans' (by assumption) ?_)))), by rw [if_neg (by omega)]; rfl⟩
    · have e1 : decide (l.length < s) = false := by simp [h1]
      simp (disch := first | assumption | omega | (simp only [LN] <;> omega) | (simp (disch := first | assumption | omega | (simp only [LN] <;> omega)) only [row_alloc, row_set]; assumption)) only [W_block, P3, ↓reduceIte, reduceAdd, reduceEqDiff, reduceCtorEq, initFr, reduceLT, clsA, reduceLeDiff, reduceMul, reduceSub, reduceIte, ox, e1]
      refine callK (q100 (h.keeps (by ((repeat (first | exact Keeps.refl _ | assumption | refine Keeps.alloc ?_ _ | (refine Keeps.set ?_ (by first | omega | (simp only [alloc_n, set_n] <;> omega)) (by first | omega | (simp only [alloc_n, set_n] <;> omega)) _) | (refine Keeps.trans' (by assumption) ?_))))))) ?_
      rintro _ _ ⟨rfl, rfl⟩
      by_cases h2 : l.length = s
      · have e2 : ¬ (0 : Int) < ((l.length - s : Nat) : Int) := by omega
        simp (disch := first | assumption | omega | (simp only [LN] <;> omega) | (simp (disch := first | assumption | omega | (simp only [LN] <;> omega)) only [row_alloc, row_set]; assumption)) only [W_block, P3, ↓reduceIte, reduceAdd, reduceEqDiff, reduceCtorEq, initFr, reduceLT, clsA, reduceLeDiff, reduceMul, reduceSub, reduceIte, ox, e2]
        refine callK (mayOu x _) ?_
        rintro _ K ⟨rfl, k⟩
        have nk := k.n
        simp only [alloc_n, set_n] at nk
        cases h3 : okOu x with
        | false =>
          simp (disch := first | assumption | omega | (simp only [LN] <;> omega) | (simp (disch := first | assumption | omega | (simp only [LN] <;> omega)) only [row_alloc, row_set, Keeps.row k]; assumption)) only [Keeps.get k, Keeps.row k, W_block, P3, ↓reduceIte, reduceAdd, reduceEqDiff, reduceCtorEq, initFr, reduceLT, clsA, reduceLeDiff, reduceMul, reduceSub, reduceIte, ox, h3]
          refine hq2 _ _ ⟨_, by rw [hr]; simp (disch := first | assumption | omega | (simp only [LN] <;> omega) | (simp (disch := first | assumption | omega | (simp only [LN] <;> omega)) only [row_alloc, row_set, Keeps.row k]; assumption)) only [Keeps.get k, Keeps.row k, W_block, P3, ↓reduceIte, reduceAdd, reduceEqDiff, reduceCtorEq, initFr, reduceLT, clsA, reduceLeDiff, reduceMul, reduceSub, reduceIte]; rfl, by ((repeat (first | exact Keeps.refl _ | assumption | refine Keeps.alloc ?_ _ | (refine Keeps.set ?_ (by first | omega | (simp only [alloc_n, set_n] <;> omega)) (by first | omega | (simp only [alloc_n, set_n] <;> omega)) _) | (refine Keeps.trans' (by assumption) ?_)))), by rw [if_neg (by simp [h3])]; rfl⟩
        | true =>
          simp (disch := first | assumption | omega | (simp only [LN] <;> omega) | (simp (disch := first | assumption | omega | (simp only [LN] <;> omega)) only [row_alloc, row_set, Keeps.row k]; assumption)) only [Keeps.get k, Keeps.row k, W_block, P3, ↓reduceIte, reduceAdd, reduceEqDiff, reduceCtorEq, initFr, reduceLT, clsA, reduceLeDiff, reduceMul, reduceSub, reduceIte, ox, h3]
          refine hq2 _ _ ⟨_, by rw [hr]; simp (disch := first | assumption | omega | (simp only [LN] <;> omega) | (simp (disch := first | assumption | omega | (simp only [LN] <;> omega)) only [row_alloc, row_set, Keeps.row k]; assumption)) only [Keeps.get k, Keeps.row k, W_block, P3, ↓reduceIte, reduceAdd, reduceEqDiff, reduceCtorEq, initFr, reduceLT, clsA, reduceLeDiff, reduceMul, reduceSub, reduceIte]; rfl, by ((repeat (first | exact Keeps.refl _ | assumption | refine Keeps.alloc ?_ _ | (refine Keeps.set ?_ (by first | omega | (simp only [alloc_n, set_n] <;> omega)) (by first | omega | (simp only [alloc_n, set_n] <;> omega)) _) | (refine Keeps.trans' (by assumption) ?_)))), by rw [if_pos ⟨rfl, h2, h3⟩]; rfl⟩
      · have e2 : (0 : Int) < ((l.length - s : Nat) : Int) := by omega
        simp (disch := first | assumption | omega | (simp only [LN] <;> omega) | (simp (disch := first | assumption | omega | (simp only [LN] <;> omega)) only [row_alloc, row_set]; assumption)) only [W_block, P3, ↓reduceIte, reduceAdd, reduceEqDiff, reduceCtorEq, initFr, reduceLT, clsA, reduceLeDiff, reduceMul, reduceSub, reduceIte, ox, e2]
        refine hq2 _ _ ⟨_, by rw [hr]; simp (disch := first | assumption | omega | (simp only [LN] <;> omega) | (simp (disch := first | assumption | omega | (simp only [LN] <;> omega)) only [row_alloc, row_set]; assumption)) only [W_block, P3, ↓reduceIte, reduceAdd, reduceEqDiff, reduceCtorEq, initFr, reduceLT, clsA, reduceLeDiff, reduceMul, reduceSub, reduceIte]; rfl, by ((repeat (first | exact Keeps.refl _ | assumption | refine Keeps.alloc ?_ _ | (refine Keeps.set ?_ (by first | omega | (simp only [alloc_n, set_n] <;> omega)) (by first | omega | (simp only [alloc_n, set_n] <;> omega)) _) | (refine Keeps.trans' (by assumption) ?_)))), by rw [if_neg (by omega)]; rfl⟩
theorem n68 {H : AHeap} (x : Ou) : ∃ v H', ARun Go.Proofs.Try.prog 0 68 [.pointer none, .bool false, .agg (cOu x).toArray] H v H' ∧ Keeps H H' ∧ v = GotV (cOu Ou0) 130 := by
  refine walk2 f68_ok f68_n ?_
  intro Q hq1 hq2
  have hr : ∀ fr H', resO f68.res fr H' = (celln 5 (fr.getD 4 undef) H').map fun c => .tuple #[c, fr.getD 5 undef] := fun fr H' => resCT 5 4 5 fr
  have lx : (cOu x).length = 5 := rfl
  have ox : (cOu x).all Value.oneCell' = true := rfl
  simp (disch := first | assumption | omega | (simp only [LN] <;> omega) | (simp (disch := first | assumption | omega | (simp only [LN] <;> omega)) only [row_alloc, row_set]; assumption)) only [f68, W_block, P3, ↓reduceIte, reduceAdd, reduceEqDiff, reduceCtorEq, initFr, reduceLT, clsA, reduceLeDiff, reduceMul, reduceSub, reduceIte, ox]
  refine hq2 _ _ ⟨_, by rw [hr]; simp (disch := first | assumption | omega | (simp only [LN] <;> omega) | (simp (disch := first | assumption | omega | (simp only [LN] <;> omega)) only [row_alloc, row_set]; assumption)) only [W_block, P3, ↓reduceIte, reduceAdd, reduceEqDiff, reduceCtorEq, initFr, reduceLT, clsA, reduceLeDiff, reduceMul, reduceSub, reduceIte]; rfl, by ((repeat (first | exact Keeps.refl _ | assumption | refine Keeps.alloc ?_ _ | (refine Keeps.set ?_ (by first | omega | (simp only [alloc_n, set_n] <;> omega)) (by first | omega | (simp only [alloc_n, set_n] <;> omega)) _) | (refine Keeps.trans' (by assumption) ?_)))), rfl⟩
theorem t76 {H : AHeap} {lo hi r s : Nat} {l : List UInt8} (h : RR H lo hi r l s) (ok : Bool) (x : Li) {vb : Value} (hB : BS H vb x.B) : ∃ v H', ARun Go.Proofs.Try.prog 0 76 [ptr r 0, .bool ok, .agg (cLi vb x).toArray] H v H' ∧ Keeps H H' ∧
    v = if ok = true ∧ l.length = s ∧ okLi x = true then GotV (cLi vb x) 0 else GotV (cLi (.slice none 0 0) Li0) 130 := by
  refine walk2 f76_ok f76_n ?_
  intro Q hq1 hq2
  have hr : ∀ fr H', resO f76.res fr H' = (celln 5 (fr.getD 4 undef) H').map fun c => .tuple #[c, fr.getD 5 undef] := fun fr H' => resCT 5 4 5 fr
  have hone := hB.sl.one
  have lx : (cLi vb x).length = 5 := rfl
  have ox : (cLi vb x).all Value.oneCell' = true := by simp only [cLi, List.all_cons, List.all_nil, hone]; rfl
  cases ok with
  | false =>
    simp (disch := first | assumption | omega | (simp only [LN] <;> omega) | (simp (disch := first | assumption | omega | (simp only [LN] <;> omega)) only [row_alloc, row_set]; assumption)) only [f76, W_block, P3, ↓reduceIte, reduceAdd, reduceEqDiff, reduceCtorEq, initFr, reduceLT, clsA, reduceLeDiff, reduceMul, reduceSub, reduceIte, ox]
    refine hq2 _ _ ⟨_, by rw [hr]; simp (disch := first | assumption | omega | (simp only [LN] <;> omega) | (simp (disch := first | assumption | omega | (simp only [LN] <;> omega)) only [row_alloc, row_set]; assumption)) only [W_block, P3, ↓reduceIte, reduceAdd, reduceEqDiff, reduceCtorEq, initFr, reduceLT, clsA, reduceLeDiff, reduceMul, reduceSub, reduceIte]; rfl, by ((repeat (first | exact Keeps.refl _ | assumption | refine Keeps.alloc ?_ _ | (refine Keeps.set ?_ (by first | omega | (simp only [alloc_n, set_n] <;> omega)) (by first | omega | (simp only [alloc_n, set_n] <;> omega)) _) | (refine Keeps.trans' (by assumption) ?_)))), by rw [if_neg (by simp)]; rfl⟩
  | true =>
    simp (disch := first | assumption | omega | (simp only [LN] <;> omega) | (simp (disch := first | assumption | omega | (simp only [LN] <;> omega)) only [row_alloc, row_set]; assumption)) only [f76, W_block, P3, ↓reduceIte, reduceAdd, reduceEqDiff, reduceCtorEq, initFr, reduceLT, clsA, reduceLeDiff, reduceMul, reduceSub, reduceIte, ox]
    refine callK (q99 (h.keeps (by ((repeat (first | exact Keeps.refl _ | assumption | refine Keeps.alloc ?_ _ | (refine Keeps.set ?_ (by first | omega | (simp only [alloc_n, set_n] <;> omega)) (by first | omega | (simp only [alloc_n, set_n] <;> omega)) _) | (refine Keeps.trans' (by assumption) ?_))))))) ?_
    rintro _ _ ⟨rfl, rfl⟩
    by_cases h1 : l.length < s
    · have e1 : decide (l.length < s) = true := by simp [h1]
      simp (disch := first | assumption | omega | (simp only [LN] <;> omega) | (simp (disch := first | assumption | omega | (simp only [LN] <;> omega)) only [row_alloc, row_set]; assumption)) only [W_block, P3, ↓reduceIte, reduceAdd, reduceEqDiff, reduceCtorEq, initFr, reduceLT, clsA, reduceLeDiff, reduceMul, reduceSub, reduceIte, ox, e1]
      refine hq2 _ _ ⟨_, by rw [hr]; simp (disch := first | assumption | omega | (simp only [LN] <;> omega) | (simp (disch := first | assumption | omega | (simp only [LN] <;> omega)) only [row_alloc, row_set]; assumption)) only [W_block, P3, ↓reduceIte, reduceAdd, reduceEqDiff, reduceCtorEq, initFr, reduceLT, clsA, reduceLeDiff, reduceMul, reduceSub, reduceIte]; rfl, by ((repeat (first | exact Keeps.refl _ | assumption | refine Keeps.alloc ?_ _ | (refine Keeps.set ?_ (by first | omega | (simp only [alloc_n, set_n] <;> omega)) (by first | omega | (simp only [alloc_n, set_n] <;> omega)) _) | (refine Keeps.trans' (by assumption) ?_)))), by rw [if_neg (by omega)]; rfl⟩
    · have e1 : decide (l.length < s) = false := by simp [h1]
      simp (disch := first | assumption | omega | (simp only [LN] <;> omega) | (simp (disch := first | assumption | omega | (simp only [LN] <;> omega)) only [row_alloc, row_set]; assumption)) only [W_block, P3, ↓reduceIte, reduceAdd, reduceEqDiff, reduceCtorEq, initFr, reduceLT, clsA, reduceLeDiff, reduceMul, reduceSub, reduceIte, ox, e1]
      refine callK (q100 (h.keeps (by ((repeat (first | exact Keeps.refl _ | assumption | refine Keeps.alloc ?_ _ | (refine Keeps.set ?_ (by first | omega | (simp only [alloc_n, set_n] <;> omega)) (by first | omega | (simp only [alloc_n, set_n] <;> omega)) _) | (refine Keeps.trans' (by assumption) ?_))))))) ?_
      rintro _ _ ⟨rfl, rfl⟩
      by_cases h2 : l.length = s
      · have e2 : ¬ (0 : Int) < ((l.length - s : Nat) : Int) := by omega
        simp (disch := first | assumption | omega | (simp only [LN] <;> omega) | (simp (disch := first | assumption | omega | (simp only [LN] <;> omega)) only [row_alloc, row_set]; assumption)) only [W_block, P3, ↓reduceIte, reduceAdd, reduceEqDiff, reduceCtorEq, initFr, reduceLT, clsA, reduceLeDiff, reduceMul, reduceSub, reduceIte, ox, e2]
        refine callK (mayLi x (hB.keeps (by ((repeat (first | exact Keeps.refl _ | assumption | refine Keeps.alloc ?_ _ | (refine Keeps.set ?_ (by first | omega | (simp only [alloc_n, set_n] <;> omega)) (by first | omega | (simp only [alloc_n, set_n] <;> omega)) _) | (refine Keeps.trans' (by assumption) ?_))))))) ?_
        rintro _ K ⟨rfl, k⟩
        have nk := k.n
        simp only [alloc_n, set_n] at nk
        cases h3 : okLi x with
        | false =>
          simp (disch := first | assumption | omega | (simp only [LN] <;> omega) | (simp (disch := first | assumption | omega | (simp only [LN] <;> omega)) only [row_alloc, row_set, Keeps.row k]; assumption)) only [Keeps.get k, Keeps.row k, W_block, P3, ↓reduceIte, reduceAdd, reduceEqDiff, reduceCtorEq, initFr, reduceLT, clsA, reduceLeDiff, reduceMul, reduceSub, reduceIte, ox, h3]
          refine hq2 _ _ ⟨_, by rw [hr]; simp (disch := first | assumption | omega | (simp only [LN] <;> omega) | (simp (disch := first | assumption | omega | (simp only [LN] <;> omega)) only [row_alloc, row_set, Keeps.row k]; assumption)) only [Keeps.get k, Keeps.row k, W_block, P3, ↓reduceIte, reduceAdd, reduceEqDiff, reduceCtorEq, initFr, reduceLT, clsA, reduceLeDiff, reduceMul, reduceSub, reduceIte]; rfl, by ((repeat (first | exact Keeps.refl _ | assumption | refine Keeps.alloc ?_ _ | (refine Keeps.set ?_ (by first | omega | (simp only [alloc_n, set_n] <;> omega)) (by first | omega | (simp only [alloc_n, set_n] <;> omega)) _) | (refine Keeps.trans' (by assumption) ?_)))), by rw [if_neg (by simp [h3])]; rfl⟩
        | true =>
          simp (disch := first | assumption | omega | (simp only [LN] <;> omega) | (simp (disch := first | assumption | omega | (simp only [LN] <;> omega)) only [row_alloc, row_set, Keeps.row k]; assumption)) only [Keeps.get k, Keeps.row k, W_block, P3, ↓reduceIte, reduceAdd, reduceEqDiff, reduceCtorEq, initFr, reduceLT, clsA, reduceLeDiff, reduceMul, reduceSub, reduceIte, ox, h3]
          refine hq2 _ _ ⟨_, by rw [hr]; simp (disch := first | assumption | omega | (simp only [LN] <;> omega) | (simp (disch := first | assumption | omega | (simp only [LN] <;> omega)) only [row_alloc, row_set, Keeps.row k]; assumption)) only [Keeps.get k, Keeps.row k, W_block, P3, ↓reduceIte, reduceAdd, reduceEqDiff, reduceCtorEq, initFr, reduceLT, clsA, reduceLeDiff, reduceMul, reduceSub, reduceIte]; rfl, by ((repeat (first | exact Keeps.refl _ | assumption | refine Keeps.alloc ?_ _ | (refine Keeps.set ?_ (by first | omega | (simp only [alloc_n, set_n] <;> omega)) (by first | omega | (simp only [alloc_n, set_n] <;> omega)) _) | (refine Keeps.trans' (by assumption) ?_)))), by rw [if_pos ⟨rfl, h2, h3⟩]; rfl⟩
      · have e2 : (0 : Int) < ((l.length - s : Nat) : Int) := by omega
        simp (disch := first | assumption | omega | (simp only [LN] <;> omega) | (simp (disch := first | assumption | omega | (simp only [LN] <;> omega)) only [row_alloc, row_set]; assumption)) only [W_block, P3, ↓reduceIte, reduceAdd, reduceEqDiff, reduceCtorEq, initFr, reduceLT, clsA, reduceLeDiff, reduceMul, reduceSub, reduceIte, ox, e2]
        refine hq2 _ _ ⟨_, by rw [hr]; simp (disch := first | assumption | omega | (simp only [LN] <;> omega) | (simp (disch := first | assumption | omega | (simp only [LN] <;> omega)) only [row_alloc, row_set]; assumption)) only [W_block, P3, ↓reduceIte, reduceAdd, reduceEqDiff, reduceCtorEq, initFr, reduceLT, clsA, reduceLeDiff, reduceMul, reduceSub, reduceIte]; rfl, by ((repeat (first | exact Keeps.refl _ | assumption | refine Keeps.alloc ?_ _ | (refine Keeps.set ?_ (by first | omega | (simp only [alloc_n, set_n] <;> omega)) (by first | omega | (simp only [alloc_n, set_n] <;> omega)) _) | (refine Keeps.trans' (by assumption) ?_)))), by rw [if_neg (by omega)]; rfl⟩
theorem n76 {H : AHeap} (x : Li) {vb : Value} (hB : BS H vb x.B) : ∃ v H', ARun Go.Proofs.Try.prog 0 76 [.pointer none, .bool false, .agg (cLi vb x).toArray] H v H' ∧ Keeps H H' ∧ v = GotV (cLi (.slice none 0 0) Li0) 130 := by
  refine walk2 f76_ok f76_n ?_
  intro Q hq1 hq2
  have hr : ∀ fr H', resO f76.res fr H' = (celln 5 (fr.getD 4 undef) H').map fun c => .tuple #[c, fr.getD 5 undef] := fun fr H' => resCT 5 4 5 fr
  have hone := hB.sl.one
  have lx : (cLi vb x).length = 5 := rfl
  have ox : (cLi vb x).all Value.oneCell' = true := by simp only [cLi, List.all_cons, List.all_nil, hone]; rfl
  simp (disch := first | assumption | omega | (simp only [LN] <;> omega) | (simp (disch := first | assumption | omega | (simp only [LN] <;> omega)) only [row_alloc, row_set]; assumption)) only [f76, W_block, P3, ↓reduceIte, reduceAdd, reduceEqDiff, reduceCtorEq, initFr, reduceLT, clsA, reduceLeDiff, reduceMul, reduceSub, reduceIte, ox]
  refine hq2 _ _ ⟨_, by rw [hr]; simp (disch := first | assumption | omega | (simp only [LN] <;> omega) | (simp (disch := first | assumption | omega | (simp only [LN] <;> omega)) only [row_alloc, row_set]; assumption)) only [W_block, P3, ↓reduceIte, reduceAdd, reduceEqDiff, reduceCtorEq, initFr, reduceLT, clsA, reduceLeDiff, reduceMul, reduceSub, reduceIte]; rfl, by ((repeat (first | exact Keeps.refl _ | assumption | refine Keeps.alloc ?_ _ | (refine Keeps.set ?_ (by first | omega | (simp only [alloc_n, set_n] <;> omega)) (by first | omega | (simp only [alloc_n, set_n] <;> omega)) _) | (refine Keeps.trans' (by assumption) ?_)))), rfl⟩
theorem t66 {H : AHeap} {lo hi r s : Nat} {l : List UInt8} (h : RR H lo hi r l s) (ok : Bool) (x : I6) {vc : Value} (hC : Sl H 2 vc (CC x.cs)) (hl : x.cs.length ≤ 100000) : ∃ v H', ARun Go.Proofs.Try.prog 0 66 [ptr r 0, .bool ok, .agg (cI6 vc x).toArray] H v H' ∧ Keeps H H' ∧
    v = if ok = true ∧ l.length = s ∧ okI6 x = true then GotV (cI6 vc x) 0 else GotV (cI6 (.slice none 0 0) I60) 130 := by
  refine walk2 f66_ok f66_n ?_
  intro Q hq1 hq2
  have hr : ∀ fr H', resO f66.res fr H' = (celln 6 (fr.getD 4 undef) H').map fun c => .tuple #[c, fr.getD 5 undef] := fun fr H' => resCT 6 4 5 fr
  have hone := hC.one
  have lx : (cI6 vc x).length = 6 := rfl
  have ox : (cI6 vc x).all Value.oneCell' = true := by simp only [cI6, List.all_cons, List.all_nil, hone]; rfl
  cases ok with
  | false =>
    simp (disch := first | assumption | omega | (simp only [LN] <;> omega) | (simp (disch := first | assumption | omega | (simp only [LN] <;> omega)) only [row_alloc, row_set]; assumption)) only [f66, W_block, P3, ↓reduceIte, reduceAdd, reduceEqDiff, reduceCtorEq, initFr, reduceLT, clsA, reduceLeDiff, reduceMul, reduceSub, reduceIte, ox]
    refine hq2 _ _ ⟨_, by rw [hr]; simp (disch := first | assumption | omega | (simp only [LN] <;> omega) | (simp (disch := first | assumption | omega | (simp only [LN] <;> omega)) only [row_alloc, row_set]; assumption)) only [W_block, P3, ↓reduceIte, reduceAdd, reduceEqDiff, reduceCtorEq, initFr, reduceLT, clsA, reduceLeDiff, reduceMul, reduceSub, reduceIte]; rfl, by ((repeat (first | exact Keeps.refl _ | assumption | refine Keeps.alloc ?_ _ | (refine Keeps.set ?_ (by first | omega | (simp only [alloc_n, set_n] <;> omega)) (by first | omega | (simp only [alloc_n, set_n] <;> omega)) _) | (refine Keeps.trans' (by assumption) ?_)))), by rw [if_neg (by simp)]; rfl⟩
  | true =>
    simp (disch := first | assumption | omega | (simp only [LN] <;> omega) | (simp (disch := first | assumption | omega | (simp only [LN] <;> omega)) only [row_alloc, row_set]; assumption)) only [f66, W_block, P3, ↓reduceIte, reduceAdd, reduceEqDiff, reduceCtorEq, initFr, reduceLT, clsA, reduceLeDiff, reduceMul, reduceSub, reduceIte, ox]
    refine callK (q99 (h.keeps (by ((repeat (first | exact Keeps.refl _ | assumption | refine Keeps.alloc ?_ _ | (refine Keeps.set ?_ (by first | omega | (simp only [alloc_n, set_n] <;> omega)) (by first | omega | (simp only [alloc_n, set_n] <;> omega)) _) | (refine Keeps.trans' (by assumption) ?_))))))) ?_
    rintro _ _ ⟨rfl, rfl⟩
    by_cases h1 : l.length < s
    · have e1 : decide (l.length < s) = true := by simp [h1]
      simp (disch := first | assumption | omega | (simp only [LN] <;> omega) | (simp (disch := first | assumption | omega | (simp only [LN] <;> omega)) only [row_alloc, row_set]; assumption)) only [W_block, P3, ↓reduceIte, reduceAdd, reduceEqDiff, reduceCtorEq, initFr, reduceLT, clsA, reduceLeDiff, reduceMul, reduceSub, reduceIte, ox, e1]
      refine hq2 _ _ ⟨_, by rw [hr]; simp (disch := first | assumption | omega | (simp only [LN] <;> omega) | (simp (disch := first | assumption | omega | (simp only [LN] <;> omega)) only [row_alloc, row_set]; assumption)) only [W_block, P3, ↓reduceIte, reduceAdd, reduceEqDiff, reduceCtorEq, initFr, reduceLT, clsA, reduceLeDiff, reduceMul, reduceSub, reduceIte]; rfl, by ((repeat (first | exact Keeps.refl _ | assumption | refine Keeps.alloc ?_ _ | (refine Keeps.set ?_ (by first | omega | (simp only [alloc_n, set_n] <;> omega)) (by first | omega | (simp only [alloc_n, set_n] <;> omega)) _) | (refine Keeps.trans' (by assumption) ?_)))), by rw [if_neg (by omega)]; rfl⟩
    · have e1 : decide (l.length < s) = false := by simp [h1]
      simp (disch := first | assumption | omega | (simp only [LN] <;> omega) | (simp (disch := first | assumption | omega | (simp only [LN] <;> omega)) only [row_alloc, row_set]; assumption)) only [W_block, P3, ↓reduceIte, reduceAdd, reduceEqDiff, reduceCtorEq, initFr, reduceLT, clsA, reduceLeDiff, reduceMul, reduceSub, reduceIte, ox, e1]
      refine callK (q100 (h.keeps (by ((repeat (first | exact Keeps.refl _ | assumption | refine Keeps.alloc ?_ _ | (refine Keeps.set ?_ (by first | omega | (simp only [alloc_n, set_n] <;> omega)) (by first | omega | (simp only [alloc_n, set_n] <;> omega)) _) | (refine Keeps.trans' (by assumption) ?_))))))) ?_
      rintro _ _ ⟨rfl, rfl⟩
      by_cases h2 : l.length = s
      · have e2 : ¬ (0 : Int) < ((l.length - s : Nat) : Int) := by omega
        simp (disch := first | assumption | omega | (simp only [LN] <;> omega) | (simp (disch := first | assumption | omega | (simp only [LN] <;> omega)) only [row_alloc, row_set]; assumption)) only [W_block, P3, ↓reduceIte, reduceAdd, reduceEqDiff, reduceCtorEq, initFr, reduceLT, clsA, reduceLeDiff, reduceMul, reduceSub, reduceIte, ox, e2]
        refine callK (mayI6 x (hC.keeps (by ((repeat (first | exact Keeps.refl _ | assumption | refine Keeps.alloc ?_ _ | (refine Keeps.set ?_ (by first | omega | (simp only [alloc_n, set_n] <;> omega)) (by first | omega | (simp only [alloc_n, set_n] <;> omega)) _) | (refine Keeps.trans' (by assumption) ?_)))))) (by omega)) ?_
        rintro _ K ⟨rfl, k⟩
        have nk := k.n
        simp only [alloc_n, set_n] at nk
        cases h3 : okI6 x with
        | false =>
          simp (disch := first | assumption | omega | (simp only [LN] <;> omega) | (simp (disch := first | assumption | omega | (simp only [LN] <;> omega)) only [row_alloc, row_set, Keeps.row k]; assumption)) only [Keeps.get k, Keeps.row k, W_block, P3, ↓reduceIte, reduceAdd, reduceEqDiff, reduceCtorEq, initFr, reduceLT, clsA, reduceLeDiff, reduceMul, reduceSub, reduceIte, ox, h3]
          refine hq2 _ _ ⟨_, by rw [hr]; simp (disch := first | assumption | omega | (simp only [LN] <;> omega) | (simp (disch := first | assumption | omega | (simp only [LN] <;> omega)) only [row_alloc, row_set, Keeps.row k]; assumption)) only [Keeps.get k, Keeps.row k, W_block, P3, ↓reduceIte, reduceAdd, reduceEqDiff, reduceCtorEq, initFr, reduceLT, clsA, reduceLeDiff, reduceMul, reduceSub, reduceIte]; rfl, by ((repeat (first | exact Keeps.refl _ | assumption | refine Keeps.alloc ?_ _ | (refine Keeps.set ?_ (by first | omega | (simp only [alloc_n, set_n] <;> omega)) (by first | omega | (simp only [alloc_n, set_n] <;> omega)) _) | (refine Keeps.trans' (by assumption) ?_)))), by rw [if_neg (by simp [h3])]; rfl⟩
        | true =>
          simp (disch := first | assumption | omega | (simp only [LN] <;> omega) | (simp (disch := first | assumption | omega | (simp only [LN] <;> omega)) only [row_alloc, row_set, Keeps.row k]; assumption)) only [Keeps.get k, Keeps.row k, W_block, P3, ↓reduceIte, reduceAdd, reduceEqDiff, reduceCtorEq, initFr, reduceLT, clsA, reduceLeDiff, reduceMul, reduceSub, reduceIte, ox, h3]
          refine hq2 _ _ ⟨_, by rw [hr]; simp (disch := first | assumption | omega | (simp only [LN] <;> omega) | (simp (disch := first | assumption | omega | (simp only [LN] <;> omega)) only [row_alloc, row_set, Keeps.row k]; assumption)) only [Keeps.get k, Keeps.row k, W_block, P3, ↓reduceIte, reduceAdd, reduceEqDiff, reduceCtorEq, initFr, reduceLT, clsA, reduceLeDiff, reduceMul, reduceSub, reduceIte]; rfl, by ((repeat (first | exact Keeps.refl _ | assumption | refine Keeps.alloc ?_ _ | (refine Keeps.set ?_ (by first | omega | (simp only [alloc_n, set_n] <;> omega)) (by first | omega | (simp only [alloc_n, set_n] <;> omega)) _) | (refine Keeps.trans' (by assumption) ?_)))), by rw [if_pos ⟨rfl, h2, h3⟩]; rfl⟩
      · have e2 : (0 : Int) < ((l.length - s : Nat) : Int) := by omega
        simp (disch := first | assumption | omega | (simp only [LN] <;> omega) | (simp (disch := first | assumption | omega | (simp only [LN] <;> omega)) only [row_alloc, row_set]; assumption)) only [W_block, P3, ↓reduceIte, reduceAdd, reduceEqDiff, reduceCtorEq, initFr, reduceLT, clsA, reduceLeDiff, reduceMul, reduceSub, reduceIte, ox, e2]
        refine hq2 _ _ ⟨_, by rw [hr]; simp (disch := first | assumption | omega | (simp only [LN] <;> omega) | (simp (disch := first | assumption | omega | (simp only [LN] <;> omega)) only [row_alloc, row_set]; assumption)) only [W_block, P3, ↓reduceIte, reduceAdd, reduceEqDiff, reduceCtorEq, initFr, reduceLT, clsA, reduceLeDiff, reduceMul, reduceSub, reduceIte]; rfl, by ((repeat (first | exact Keeps.refl _ | assumption | refine Keeps.alloc ?_ _ | (refine Keeps.set ?_ (by first | omega | (simp only [alloc_n, set_n] <;> omega)) (by first | omega | (simp only [alloc_n, set_n] <;> omega)) _) | (refine Keeps.trans' (by assumption) ?_)))), by rw [if_neg (by omega)]; rfl⟩
theorem n66 {H : AHeap} (x : I6) {vc : Value} (hC : Sl H 2 vc (CC x.cs)) : ∃ v H', ARun Go.Proofs.Try.prog 0 66 [.pointer none, .bool false, .agg (cI6 vc x).toArray] H v H' ∧ Keeps H H' ∧ v = GotV (cI6 (.slice none 0 0) I60) 130 := by
  refine walk2 f66_ok f66_n ?_
  intro Q hq1 hq2
  have hr : ∀ fr H', resO f66.res fr H' = (celln 6 (fr.getD 4 undef) H').map fun c => .tuple #[c, fr.getD 5 undef] := fun fr H' => resCT 6 4 5 fr
  have hone := hC.one
  have lx : (cI6 vc x).length = 6 := rfl
  have ox : (cI6 vc x).all Value.oneCell' = true := by simp only [cI6, List.all_cons, List.all_nil, hone]; rfl
  simp (disch := first | assumption | omega | (simp only [LN] <;> omega) | (simp (disch := first | assumption | omega | (simp only [LN] <;> omega)) only [row_alloc, row_set]; assumption)) only [f66, W_block, P3, ↓reduceIte, reduceAdd, reduceEqDiff, reduceCtorEq, initFr, reduceLT, clsA, reduceLeDiff, reduceMul, reduceSub, reduceIte, ox]
  refine hq2 _ _ ⟨_, by rw [hr]; simp (disch := first | assumption | omega | (simp only [LN] <;> omega) | (simp (disch := first | assumption | omega | (simp only [LN] <;> omega)) only [row_alloc, row_set]; assumption)) only [W_block, P3, ↓reduceIte, reduceAdd, reduceEqDiff, reduceCtorEq, initFr, reduceLT, clsA, reduceLeDiff, reduceMul, reduceSub, reduceIte]; rfl, by ((repeat (first | exact Keeps.refl _ | assumption | refine Keeps.alloc ?_ _ | (refine Keeps.set ?_ (by first | omega | (simp only [alloc_n, set_n] <;> omega)) (by first | omega | (simp only [alloc_n, set_n] <;> omega)) _) | (refine Keeps.trans' (by assumption) ?_)))), rfl⟩
theorem t69 {H : AHeap} {lo hi r s : Nat} {l : List UInt8} (h : RR H lo hi r l s) (ok : Bool) (x : St) (hx : x.t.length = 64) : ∃ v H', ARun Go.Proofs.Try.prog 0 69 [ptr r 0, .bool ok, .agg (cSt x).toArray] H v H' ∧ Keeps H H' ∧
    v = if ok = true ∧ l.length = s then GotV (cSt x) 0 else GotV (cSt St0) 130 := by
  refine walk2 f69_ok f69_n ?_
  intro Q hq1 hq2
  have hr : ∀ fr H', resO f69.res fr H' = (celln 68 (fr.getD 4 undef) H').map fun c => .tuple #[c, fr.getD 5 undef] := fun fr H' => resCT 68 4 5 fr
  have lx := cSt_len hx
  have ox := cSt_one x
  have lz : Z68.length = 68 := rfl
  have oz : Z68.all Value.oneCell' = true := rfl
  cases ok with
  | false =>
    simp (disch := first | assumption | omega | (simp only [LN] <;> omega) | (simp (disch := first | assumption | omega | (simp only [LN] <;> omega)) only [row_alloc, row_set]; assumption)) only [f69, W_block, P3, ↓reduceIte, reduceAdd, reduceEqDiff, reduceCtorEq, initFr, reduceLT, clsA, reduceLeDiff, reduceMul, reduceSub, reduceIte, ox, oz]
    refine hq2 _ _ ⟨_, by rw [hr]; simp (disch := first | assumption | omega | (simp only [LN] <;> omega) | (simp (disch := first | assumption | omega | (simp only [LN] <;> omega)) only [row_alloc, row_set]; assumption)) only [W_block, P3, ↓reduceIte, reduceAdd, reduceEqDiff, reduceCtorEq, initFr, reduceLT, clsA, reduceLeDiff, reduceMul, reduceSub, reduceIte]; rfl, by ((repeat (first | exact Keeps.refl _ | assumption | refine Keeps.alloc ?_ _ | (refine Keeps.set ?_ (by first | omega | (simp only [alloc_n, set_n] <;> omega)) (by first | omega | (simp only [alloc_n, set_n] <;> omega)) _) | (refine Keeps.trans' (by assumption) ?_)))), by rw [if_neg (by simp)]; rfl⟩
  | true =>
    simp (disch := first | assumption | omega | (simp only [LN] <;> omega) | (simp (disch := first | assumption | omega | (simp only [LN] <;> omega)) only [row_alloc, row_set]; assumption)) only [f69, W_block, P3, ↓reduceIte, reduceAdd, reduceEqDiff, reduceCtorEq, initFr, reduceLT, clsA, reduceLeDiff, reduceMul, reduceSub, reduceIte, ox, oz]
    refine callK (q99 (h.keeps (by ((repeat (first | exact Keeps.refl _ | assumption | refine Keeps.alloc ?_ _ | (refine Keeps.set ?_ (by first | omega | (simp only [alloc_n, set_n] <;> omega)) (by first | omega | (simp only [alloc_n, set_n] <;> omega)) _) | (refine Keeps.trans' (by assumption) ?_))))))) ?_
    rintro _ _ ⟨rfl, rfl⟩
    by_cases h1 : l.length < s
    · have e1 : decide (l.length < s) = true := by simp [h1]
      simp (disch := first | assumption | omega | (simp only [LN] <;> omega) | (simp (disch := first | assumption | omega | (simp only [LN] <;> omega)) only [row_alloc, row_set]; assumption)) only [W_block, P3, ↓reduceIte, reduceAdd, reduceEqDiff, reduceCtorEq, initFr, reduceLT, clsA, reduceLeDiff, reduceMul, reduceSub, reduceIte, ox, oz, e1]
      refine hq2 _ _ ⟨_, by rw [hr]; simp (disch := first | assumption | omega | (simp only [LN] <;> omega) | (simp (disch := first | assumption | omega | (simp only [LN] <;> omega)) only [row_alloc, row_set]; assumption)) only [W_block, P3, ↓reduceIte, reduceAdd, reduceEqDiff, reduceCtorEq, initFr, reduceLT, clsA, reduceLeDiff, reduceMul, reduceSub, reduceIte]; rfl, by ((repeat (first | exact Keeps.refl _ | assumption | refine Keeps.alloc ?_ _ | (refine Keeps.set ?_ (by first | omega | (simp only [alloc_n, set_n] <;> omega)) (by first | omega | (simp only [alloc_n, set_n] <;> omega)) _) | (refine Keeps.trans' (by assumption) ?_)))), by rw [if_neg (by omega)]; rfl⟩
    · have e1 : decide (l.length < s) = false := by simp [h1]
      simp (disch := first | assumption | omega | (simp only [LN] <;> omega) | (simp (disch := first | assumption | omega | (simp only [LN] <;> omega)) only [row_alloc, row_set]; assumption)) only [W_block, P3, ↓reduceIte, reduceAdd, reduceEqDiff, reduceCtorEq, initFr, reduceLT, clsA, reduceLeDiff, reduceMul, reduceSub, reduceIte, ox, oz, e1]
      refine callK (q100 (h.keeps (by ((repeat (first | exact Keeps.refl _ | assumption | refine Keeps.alloc ?_ _ | (refine Keeps.set ?_ (by first | omega | (simp only [alloc_n, set_n] <;> omega)) (by first | omega | (simp only [alloc_n, set_n] <;> omega)) _) | (refine Keeps.trans' (by assumption) ?_))))))) ?_
      rintro _ _ ⟨rfl, rfl⟩
      by_cases h2 : l.length = s
      · have e2 : ¬ (0 : Int) < ((l.length - s : Nat) : Int) := by omega
        simp (disch := first | assumption | omega | (simp only [LN] <;> omega) | (simp (disch := first | assumption | omega | (simp only [LN] <;> omega)) only [row_alloc, row_set]; assumption)) only [W_block, P3, ↓reduceIte, reduceAdd, reduceEqDiff, reduceCtorEq, initFr, reduceLT, clsA, reduceLeDiff, reduceMul, reduceSub, reduceIte, ox, oz, e2]
        refine callK (maySt x _) ?_
        rintro _ K ⟨rfl, k⟩
        have nk := k.n
        simp only [alloc_n, set_n] at nk
        simp (disch := first | assumption | omega | (simp only [LN] <;> omega) | (simp (disch := first | assumption | omega | (simp only [LN] <;> omega)) only [row_alloc, row_set, Keeps.row k]; assumption)) only [Keeps.get k, Keeps.row k, W_block, P3, ↓reduceIte, reduceAdd, reduceEqDiff, reduceCtorEq, initFr, reduceLT, clsA, reduceLeDiff, reduceMul, reduceSub, reduceIte, ox, oz]
        refine hq2 _ _ ⟨_, by rw [hr]; simp (disch := first | assumption | omega | (simp only [LN] <;> omega) | (simp (disch := first | assumption | omega | (simp only [LN] <;> omega)) only [row_alloc, row_set, Keeps.row k]; assumption)) only [Keeps.get k, Keeps.row k, W_block, P3, ↓reduceIte, reduceAdd, reduceEqDiff, reduceCtorEq, initFr, reduceLT, clsA, reduceLeDiff, reduceMul, reduceSub, reduceIte]; rfl, by ((repeat (first | exact Keeps.refl _ | assumption | refine Keeps.alloc ?_ _ | (refine Keeps.set ?_ (by first | omega | (simp only [alloc_n, set_n] <;> omega)) (by first | omega | (simp only [alloc_n, set_n] <;> omega)) _) | (refine Keeps.trans' (by assumption) ?_)))), by rw [if_pos ⟨rfl, h2⟩]; rfl⟩
      · have e2 : (0 : Int) < ((l.length - s : Nat) : Int) := by omega
        simp (disch := first | assumption | omega | (simp only [LN] <;> omega) | (simp (disch := first | assumption | omega | (simp only [LN] <;> omega)) only [row_alloc, row_set]; assumption)) only [W_block, P3, ↓reduceIte, reduceAdd, reduceEqDiff, reduceCtorEq, initFr, reduceLT, clsA, reduceLeDiff, reduceMul, reduceSub, reduceIte, ox, oz, e2]
        refine hq2 _ _ ⟨_, by rw [hr]; simp (disch := first | assumption | omega | (simp only [LN] <;> omega) | (simp (disch := first | assumption | omega | (simp only [LN] <;> omega)) only [row_alloc, row_set]; assumption)) only [W_block, P3, ↓reduceIte, reduceAdd, reduceEqDiff, reduceCtorEq, initFr, reduceLT, clsA, reduceLeDiff, reduceMul, reduceSub, reduceIte]; rfl, by ((repeat (first | exact Keeps.refl _ | assumption | refine Keeps.alloc ?_ _ | (refine Keeps.set ?_ (by first | omega | (simp only [alloc_n, set_n] <;> omega)) (by first | omega | (simp only [alloc_n, set_n] <;> omega)) _) | (refine Keeps.trans' (by assumption) ?_)))), by rw [if_neg (by omega)]; rfl⟩
theorem n69 {H : AHeap} (x : St) (hx : x.t.length = 64) : ∃ v H', ARun Go.Proofs.Try.prog 0 69 [.pointer none, .bool false, .agg (cSt x).toArray] H v H' ∧ Keeps H H' ∧ v = GotV (cSt St0) 130 := by
  refine walk2 f69_ok f69_n ?_
  intro Q hq1 hq2
  have hr : ∀ fr H', resO f69.res fr H' = (celln 68 (fr.getD 4 undef) H').map fun c => .tuple #[c, fr.getD 5 undef] := fun fr H' => resCT 68 4 5 fr
  have lx := cSt_len hx
  have ox := cSt_one x
  have lz : Z68.length = 68 := rfl
  have oz : Z68.all Value.oneCell' = true := rfl
  simp (disch := first | assumption | omega | (simp only [LN] <;> omega) | (simp (disch := first | assumption | omega | (simp only [LN] <;> omega)) only [row_alloc, row_set]; assumption)) only [f69, W_block, P3, ↓reduceIte, reduceAdd, reduceEqDiff, reduceCtorEq, initFr, reduceLT, clsA, reduceLeDiff, reduceMul, reduceSub, reduceIte, ox, oz]
  refine hq2 _ _ ⟨_, by rw [hr]; simp (disch := first | assumption | omega | (simp only [LN] <;> omega) | (simp (disch := first | assumption | omega | (simp only [LN] <;> omega)) only [row_alloc, row_set]; assumption)) only [W_block, P3, ↓reduceIte, reduceAdd, reduceEqDiff, reduceCtorEq, initFr, reduceLT, clsA, reduceLeDiff, reduceMul, reduceSub, reduceIte]; rfl, by ((repeat (first | exact Keeps.refl _ | assumption | refine Keeps.alloc ?_ _ | (refine Keeps.set ?_ (by first | omega | (simp only [alloc_n, set_n] <;> omega)) (by first | omega | (simp only [alloc_n, set_n] <;> omega)) _) | (refine Keeps.trans' (by assumption) ?_)))), rfl⟩
theorem t72 {H : AHeap} {lo hi r s : Nat} {l : List UInt8} (h : RR H lo hi r l s) (ok : Bool) (x : Lo) (hx : x.s.t.length = 64) : ∃ v H', ARun Go.Proofs.Try.prog 0 72 [ptr r 0, .bool ok, .agg (cLo x).toArray] H v H' ∧ Keeps H H' ∧
    v = if ok = true ∧ l.length = s ∧ okLo x = true then GotV (cLo x) 0 else GotV (cLo Lo0) 130 := by
  refine walk2 f72_ok f72_n ?_
  intro Q hq1 hq2
  have hr : ∀ fr H', resO f72.res fr H' = (celln 70 (fr.getD 4 undef) H').map fun c => .tuple #[c, fr.getD 5 undef] := fun fr H' => resCT 70 4 5 fr
  have lx := cLo_len hx
  have ox := cLo_one x
  have lz : Z70.length = 70 := rfl
  have oz : Z70.all Value.oneCell' = true := rfl
  cases ok with
  | false =>
    simp (disch := first | assumption | omega | (simp only [LN] <;> omega) | (simp (disch := first | assumption | omega | (simp only [LN] <;> omega)) only [row_alloc, row_set]; assumption)) only [f72, W_block, P3, ↓reduceIte, reduceAdd, reduceEqDiff, reduceCtorEq, initFr, reduceLT, clsA, reduceLeDiff, reduceMul, reduceSub, reduceIte, ox, oz]
    refine hq2 _ _ ⟨_, by rw [hr]; simp (disch := first | assumption | omega | (simp only [LN] <;> omega) | (simp (disch := first | assumption | omega | (simp only [LN] <;> omega)) only [row_alloc, row_set]; assumption)) only [W_block, P3, ↓reduceIte, reduceAdd, reduceEqDiff, reduceCtorEq, initFr, reduceLT, clsA, reduceLeDiff, reduceMul, reduceSub, reduceIte]; rfl, by ((repeat (first | exact Keeps.refl _ | assumption | refine Keeps.alloc ?_ _ | (refine Keeps.set ?_ (by first | omega | (simp only [alloc_n, set_n] <;> omega)) (by first | omega | (simp only [alloc_n, set_n] <;> omega)) _) | (refine Keeps.trans' (by assumption) ?_)))), by rw [if_neg (by simp)]; rfl⟩
  | true =>
    simp (disch := first | assumption | omega | (simp only [LN] <;> omega) | (simp (disch := first | assumption | omega | (simp only [LN] <;> omega)) only [row_alloc, row_set]; assumption)) only [f72, W_block, P3, ↓reduceIte, reduceAdd, reduceEqDiff, reduceCtorEq, initFr, reduceLT, clsA, reduceLeDiff, reduceMul, reduceSub, reduceIte, ox, oz]
    refine callK (q99 (h.keeps (by ((repeat (first | exact Keeps.refl _ | assumption | refine Keeps.alloc ?_ _ | (refine Keeps.set ?_ (by first | omega | (simp only [alloc_n, set_n] <;> omega)) (by first | omega | (simp only [alloc_n, set_n] <;> omega)) _) | (refine Keeps.trans' (by assumption) ?_))))))) ?_
    rintro _ _ ⟨rfl, rfl⟩
    by_cases h1 : l.length < s
    · have e1 : decide (l.length < s) = true := by simp [h1]
      simp (disch := first | assumption | omega | (simp only [LN] <;> omega) | (simp (disch := first | assumption | omega | (simp only [LN] <;> omega)) only [row_alloc, row_set]; assumption)) only [W_block, P3, ↓reduceIte, reduceAdd, reduceEqDiff, reduceCtorEq, initFr, reduceLT, clsA, reduceLeDiff, reduceMul, reduceSub, reduceIte, ox, oz, e1]
      refine hq2 _ _ ⟨_, by rw [hr]; simp (disch := first | assumption | omega | (simp only [LN] <;> omega) | (simp (disch := first | assumption | omega | (simp only [LN] <;> omega)) only [row_alloc, row_set]; assumption)) only [W_block, P3, ↓reduceIte, reduceAdd, reduceEqDiff, reduceCtorEq, initFr, reduceLT, clsA, reduceLeDiff, reduceMul, reduceSub, reduceIte]; rfl, by ((repeat (first | exact Keeps.refl _ | assumption | refine Keeps.alloc ?_ _ | (refine Keeps.set ?_ (by first | omega | (simp only [alloc_n, set_n] <;> omega)) (by first | omega | (simp only [alloc_n, set_n] <;> omega)) _) | (refine Keeps.trans' (by assumption) ?_)))), by rw [if_neg (by omega)]; rfl⟩
    · have e1 : decide (l.length < s) = false := by simp [h1]
      simp (disch := first | assumption | omega | (simp only [LN] <;> omega) | (simp (disch := first | assumption | omega | (simp only [LN] <;> omega)) only [row_alloc, row_set]; assumption)) only [W_block, P3, ↓reduceIte, reduceAdd, reduceEqDiff, reduceCtorEq, initFr, reduceLT, clsA, reduceLeDiff, reduceMul, reduceSub, reduceIte, ox, oz, e1]
      refine callK (q100 (h.keeps (by ((repeat (first | exact Keeps.refl _ | assumption | refine Keeps.alloc ?_ _ | (refine Keeps.set ?_ (by first | omega | (simp only [alloc_n, set_n] <;> omega)) (by first | omega | (simp only [alloc_n, set_n] <;> omega)) _) | (refine Keeps.trans' (by assumption) ?_))))))) ?_
      rintro _ _ ⟨rfl, rfl⟩
      by_cases h2 : l.length = s
      · have e2 : ¬ (0 : Int) < ((l.length - s : Nat) : Int) := by omega
        simp (disch := first | assumption | omega | (simp only [LN] <;> omega) | (simp (disch := first | assumption | omega | (simp only [LN] <;> omega)) only [row_alloc, row_set]; assumption)) only [W_block, P3, ↓reduceIte, reduceAdd, reduceEqDiff, reduceCtorEq, initFr, reduceLT, clsA, reduceLeDiff, reduceMul, reduceSub, reduceIte, ox, oz, e2]
        refine callK (mayLo x hx _) ?_
        rintro _ K ⟨rfl, k⟩
        have nk := k.n
        simp only [alloc_n, set_n] at nk
        cases h3 : okLo x with
        | false =>
          simp (disch := first | assumption | omega | (simp only [LN] <;> omega) | (simp (disch := first | assumption | omega | (simp only [LN] <;> omega)) only [row_alloc, row_set, Keeps.row k]; assumption)) only [Keeps.get k, Keeps.row k, W_block, P3, ↓reduceIte, reduceAdd, reduceEqDiff, reduceCtorEq, initFr, reduceLT, clsA, reduceLeDiff, reduceMul, reduceSub, reduceIte, ox, oz, h3]
          refine hq2 _ _ ⟨_, by rw [hr]; simp (disch := first | assumption | omega | (simp only [LN] <;> omega) | (simp (disch := first | assumption | omega | (simp only [LN] <;> omega)) only [row_alloc, row_set, Keeps.row k]; assumption)) only [Keeps.get k, Keeps.row k, W_block, P3, ↓reduceIte, reduceAdd, reduceEqDiff, reduceCtorEq, initFr, reduceLT, clsA, reduceLeDiff, reduceMul, reduceSub, reduceIte]; rfl, by ((repeat (first | exact Keeps.refl _ | assumption | refine Keeps.alloc ?_ _ | (refine Keeps.set ?_ (by first | omega | (simp only [alloc_n, set_n] <;> omega)) (by first | omega | (simp only [alloc_n, set_n] <;> omega)) _) | (refine Keeps.trans' (by assumption) ?_)))), by rw [if_neg (by simp [h3])]; rfl⟩
        | true =>
          simp (disch := first | assumption | omega | (simp only [LN] <;> omega) | (simp (disch := first | assumption | omega | (simp only [LN] <;> omega)) only [row_alloc, row_set, Keeps.row k]; assumption)) only [Keeps.get k, Keeps.row k, W_block, P3, ↓reduceIte, reduceAdd, reduceEqDiff, reduceCtorEq, initFr, reduceLT, clsA, reduceLeDiff, reduceMul, reduceSub, reduceIte, ox, oz, h3]
          refine hq2 _ _ ⟨_, by rw [hr]; simp (disch := first | assumption | omega | (simp only [LN] <;> omega) | (simp (disch := first | assumption | omega | (simp only [LN] <;> omega)) only [row_alloc, row_set, Keeps.row k]; assumption)) only [Keeps.get k, Keeps.row k, W_block, P3, ↓reduceIte, reduceAdd, reduceEqDiff, reduceCtorEq, initFr, reduceLT, clsA, reduceLeDiff, reduceMul, reduceSub, reduceIte]; rfl, by ((repeat (first | exact Keeps.refl _ | assumption | refine Keeps.alloc ?_ _ | (refine Keeps.set ?_ (by first | omega | (simp only [alloc_n, set_n] <;> omega)) (by first | omega | (simp only [alloc_n, set_n] <;> omega)) _) | (refine Keeps.trans' (by assumption) ?_)))), by rw [if_pos ⟨rfl, h2, h3⟩]; rfl⟩
      · have e2 : (0 : Int) < ((l.length - s : Nat) : Int) := by omega
        simp (disch := first | assumption | omega | (simp only [LN] <;> omega) | (simp (disch := first | assumption | omega | (simp only [LN] <;> omega)) only [row_alloc, row_set]; assumption)) only [W_block, P3, ↓reduceIte, reduceAdd, reduceEqDiff, reduceCtorEq, initFr, reduceLT, clsA, reduceLeDiff, reduceMul, reduceSub, reduceIte, ox, oz, e2]
        refine hq2 _ _ ⟨_, by rw [hr]; simp (disch := first | assumption | omega | (simp only [LN] <;> omega) | (simp (disch := first | assumption | omega | (simp only [LN] <;> omega)) only [row_alloc, row_set]; assumption)) only [W_block, P3, ↓reduceIte, reduceAdd, reduceEqDiff, reduceCtorEq, initFr, reduceLT, clsA, reduceLeDiff, reduceMul, reduceSub, reduceIte]; rfl, by ((repeat (first | exact Keeps.refl _ | assumption | refine Keeps.alloc ?_ _ | (refine Keeps.set ?_ (by first | omega | (simp only [alloc_n, set_n] <;> omega)) (by first | omega | (simp only [alloc_n, set_n] <;> omega)) _) | (refine Keeps.trans' (by assumption) ?_)))), by rw [if_neg (by omega)]; rfl⟩
theorem n72 {H : AHeap} (x : Lo) (hx : x.s.t.length = 64) : ∃ v H', ARun Go.Proofs.Try.prog 0 72 [.pointer none, .bool false, .agg (cLo x).toArray] H v H' ∧ Keeps H H' ∧ v = GotV (cLo Lo0) 130 := by
  refine walk2 f72_ok f72_n ?_
  intro Q hq1 hq2
  have hr : ∀ fr H', resO f72.res fr H' = (celln 70 (fr.getD 4 undef) H').map fun c => .tuple #[c, fr.getD 5 undef] := fun fr H' => resCT 70 4 5 fr
  have lx := cLo_len hx
  have ox := cLo_one x
  have lz : Z70.length = 70 := rfl
  have oz : Z70.all Value.oneCell' = true := rfl
  simp (disch := first | assumption | omega | (simp only [LN] <;> omega) | (simp (disch := first | assumption | omega | (simp only [LN] <;> omega)) only [row_alloc, row_set]; assumption)) only [f72, W_block, P3, ↓reduceIte, reduceAdd, reduceEqDiff, reduceCtorEq, initFr, reduceLT, clsA, reduceLeDiff, reduceMul, reduceSub, reduceIte, ox, oz]
  refine hq2 _ _ ⟨_, by rw [hr]; simp (disch := first | assumption | omega | (simp only [LN] <;> omega) | (simp (disch := first | assumption | omega | (simp only [LN] <;> omega)) only [row_alloc, row_set]; assumption)) only [W_block, P3, ↓reduceIte, reduceAdd, reduceEqDiff, reduceCtorEq, initFr, reduceLT, clsA, reduceLeDiff, reduceMul, reduceSub, reduceIte]; rfl, by ((repeat (first | exact Keeps.refl _ | assumption | refine Keeps.alloc ?_ _ | (refine Keeps.set ?_ (by first | omega | (simp only [alloc_n, set_n] <;> omega)) (by first | omega | (simp only [alloc_n, set_n] <;> omega)) _) | (refine Keeps.trans' (by assumption) ?_)))), rfl⟩
-- }got
end Go.AM.Fd

set_option linter.unusedSimpArgs false
set_option linter.unusedVariables false
namespace Go.AM.Fd
open Nat (reduceAdd reduceEqDiff reduceLT reduceLeDiff reduceMul reduceSub)
open Go.Proofs Go.AM.F
theorem fillS (a b c : Nat) : fillA Z68 [(0, 1, .int .u64 (a : Nat)), (1, 1, .int .u64 (b : Nat)), (2, 1, .int .u64 (c : Nat))] = some (cSt ⟨a, b, c, Z64, 0⟩) := rfl
theorem fillS0 : fillA Z68 [(0, 1, .int .u64 0), (1, 1, .int .u64 0), (2, 1, .int .u64 0)] = some (cSt St0) := rfl
theorem copy_t {H : AHeap} {b e : Nat} {x : St} {v : Value} {sg : List UInt8} (g : H.get b = some (.cells true false 68 (cSt x) e)) (hx : x.t.length = 64) (hv : BS H v sg) (hl : sg.length = 64 ∨ sg = []) :
    ∃ w, asem (.copy 1 (slc b 3 64 64) v) H = some (w, if sg = [] then H else H.set b (.cells true false 68 (cSt { x with t := sg }) e)) := by
  have he := hv.el
  obtain ⟨a, k, rfl⟩ := hv.sh
  have lx := cSt_len hx
  rcases hl with hl | rfl
  · have h0 : sg ≠ [] := by intro h; rw [h] at hl; simp at hl
    refine ⟨.int .i64 64, ?_⟩
    rw [hl] at he
    simp only [asem, slc, he, g, hl, if_neg h0, Nat.min_self, Nat.mul_one]
    rw [if_neg (by omega), if_pos ⟨trivial, by omega⟩]
    have e1 : (cSt x).take 3 ++ (cellsOf sg).take 64 ++ (cSt x).drop (3 + 64) = cSt { x with t := sg } := by
      have e0 : (cellsOf sg).take 64 = cellsOf sg := List.take_of_length_le (by rw [cellsOf_length]; omega)
      rw [e0]
      simp only [cSt, List.drop_succ_cons, List.take_succ_cons, List.take_zero, Nat.reduceAdd]
      rw [List.drop_append, List.drop_of_length_le (by rw [cellsOf_length]; omega), cellsOf_length, hx]
      rfl
    rw [e1]
    rfl
  · simp only [List.length_nil] at he
    exact ⟨.int .i64 0, by simp [asem, slc, he, g]⟩
theorem cSt_set67 {x : St} (h : x.t.length = 64) (n : Nat) : (cSt x).set 67 (.int .u32 (n : Nat)) = cSt { x with p := n } := by
  simp only [cSt, List.set_cons_succ]
  rw [List.set_append_right _ _ (by rw [cellsOf_length]; omega), cellsOf_length, h]
  rfl
theorem t70 {H : AHeap} {lo hi r s : Nat} {l : List UInt8} (h : RR H lo hi r l s) (hl : l.length ≤ 1000000000) : ∃ v H', ARun Go.Proofs.Try.prog 0 70 [ptr r 0] H v H' ∧ v = .agg (cSt (deSt l s)).toArray ∧ RR H' lo hi r l (s + 92) ∧ Chg [r] H H' := by
  refine walk2 f70_ok f70_n ?_
  intro Q hq1 hq2
  have hr : ∀ fr H', resO f70.res fr H' = (celln 68 (fr.getD 1 undef) H') := fun fr H' => resC 1 68 fr
  have lz : Z68.length = 68 := rfl
  have oz : Z68.all Value.oneCell' = true := rfl
  have hrh := h.2.2.1
  have hr1 := h.2.1
  have k0 := (Keeps.refl H).alloc (.cells true false 68 Z68 51)
  have g0 := AHeap.get_alloc_new H (.cells true false 68 Z68 51)
  simp (disch := first | assumption | omega | (simp only [LN] <;> omega) | (simp (disch := first | assumption | omega | (simp only [LN] <;> omega)) only [row_alloc, row_set]; assumption)) only [f70, W_block, P3, ↓reduceIte, reduceAdd, reduceEqDiff, reduceCtorEq, initFr, reduceLT, clsA, reduceLeDiff, reduceMul, reduceSub, reduceIte, oz]
  obtain ⟨Ha, hHa⟩ : ∃ X, X = H.alloc (.cells true false 68 Z68 51) := ⟨_, rfl⟩
  rw [← hHa] at k0 g0 ⊢
  have l0 := AHeap.get_lt g0
  have n0 := k0.n
  refine callK (q64 (h.keeps k0) hl) ?_
  rintro _ K1 ⟨rfl, r1, c1⟩
  have n1 := c1.n
  simp (disch := first | assumption | omega | (simp only [LN] <;> omega) | (simp (disch := first | assumption | omega | (simp only [LN] <;> omega)) only [row_alloc, row_set]; assumption)) only [W_block, P3, ↓reduceIte, reduceAdd, reduceEqDiff, reduceCtorEq, initFr, reduceLT, clsA, reduceLeDiff, reduceMul, reduceSub, reduceIte]
  refine callK (q64 r1 hl) ?_
  rintro _ K2 ⟨rfl, r2, c2⟩
  have n2 := c2.n
  simp (disch := first | assumption | omega | (simp only [LN] <;> omega) | (simp (disch := first | assumption | omega | (simp only [LN] <;> omega)) only [row_alloc, row_set]; assumption)) only [W_block, P3, ↓reduceIte, reduceAdd, reduceEqDiff, reduceCtorEq, initFr, reduceLT, clsA, reduceLeDiff, reduceMul, reduceSub, reduceIte]
  refine callK (q64 r2 hl) ?_
  rintro _ K3 ⟨rfl, r3, c3⟩
  have n3 := c3.n
  have l1 : (cSt ⟨na l s 8, na l (s + 8) 8, na l (s + 8 + 8) 8, Z64, 0⟩).length = 68 := cSt_len rfl
  have o1 := cSt_one ⟨na l s 8, na l (s + 8) 8, na l (s + 8 + 8) 8, Z64, 0⟩
  simp (disch := first | assumption | omega | (simp only [LN] <;> omega) | (simp (disch := first | assumption | omega | (simp only [LN] <;> omega)) only [row_alloc, row_set]; assumption)) only [W_block, P3, ↓reduceIte, reduceAdd, reduceEqDiff, reduceCtorEq, initFr, reduceLT, clsA, reduceLeDiff, reduceMul, reduceSub, reduceIte, fillS, o1, oz]
  obtain ⟨Kb, hKb⟩ : ∃ X, X = K3.alloc (.cells true false 68 (cSt ⟨na l s 8, na l (s + 8) 8, na l (s + 8 + 8) 8, Z64, 0⟩) 51) := ⟨_, rfl⟩
  have kb := (Keeps.refl K3).alloc (.cells true false 68 (cSt ⟨na l s 8, na l (s + 8) 8, na l (s + 8 + 8) 8, Z64, 0⟩) 51)
  have gb := AHeap.get_alloc_new K3 (.cells true false 68 (cSt ⟨na l s 8, na l (s + 8) 8, na l (s + 8 + 8) 8, Z64, 0⟩) 51)
  rw [← hKb] at kb gb ⊢
  have nb := kb.n
  have lb := AHeap.get_lt gb
  simp (disch := first | assumption | omega | (simp only [LN] <;> omega) | (simp (disch := first | assumption | omega | (simp only [LN] <;> omega)) only [row_alloc, row_set]; assumption)) only [W_block, P3, ↓reduceIte, reduceAdd, reduceEqDiff, reduceCtorEq, initFr, reduceLT, clsA, reduceLeDiff, reduceMul, reduceSub, reduceIte, a_slarr0]
  refine callK (q74 (r3.keeps kb) 64 hl) ?_
  rintro v4 K4 ⟨B4, r4, c4, hv4⟩
  have n4 := c4.n
  have g4 : K4.get K3.n = some (.cells true false 68 (cSt ⟨na l s 8, na l (s + 8) 8, na l (s + 8 + 8) 8, Z64, 0⟩) 51) := by
    rw [Chg1.get c4 (by omega) (by omega)]; exact gb
  have hsg : (seg l (s + 8 + 8 + 8) 64).length = 64 ∨ seg l (s + 8 + 8 + 8) 64 = [] := by
    unfold seg
    split
    · right; rfl
    · left; rw [List.length_take, List.length_drop]; omega
  obtain ⟨w4, cp⟩ := copy_t g4 rfl B4 hsg
  have ht : tmr l (s + 24) = if seg l (s + 8 + 8 + 8) 64 = [] then Z64 else seg l (s + 8 + 8 + 8) 64 := by
    have e24 : s + 8 + 8 + 8 = s + 24 := by omega
    rw [e24] at hsg ⊢
    unfold tmr seg
    by_cases hlt : l.length < s + 24 + 64
    · rw [if_pos hlt, if_pos hlt]; simp
    · rw [if_neg hlt, if_neg hlt, if_neg]
      intro hn
      have := congrArg List.length hn
      rw [List.length_take, List.length_drop] at this
      simp at this; omega
  obtain ⟨Kc, hKc, gc, cc⟩ : ∃ Kc, (if seg l (s + 8 + 8 + 8) 64 = [] then K4 else K4.set K3.n (.cells true false 68 (cSt ⟨na l s 8, na l (s + 8) 8, na l (s + 8 + 8) 8, seg l (s + 8 + 8 + 8) 64, 0⟩) 51)) = Kc ∧ Kc.get K3.n = some (.cells true false 68 (cSt ⟨na l s 8, na l (s + 8) 8, na l (s + 8 + 8) 8, tmr l (s + 24), 0⟩) 51) ∧ Chg [K3.n] K4 Kc := by
    refine ⟨_, rfl, ?_, ?_⟩
    · rw [ht]
      split
      · exact g4
      · exact AHeap.get_set_same g4 _
    · split
      · exact Chg.refl _ _
      · exact Chg.set K4 (AHeap.get_lt g4) _
  rw [hKc] at cp
  have nc := cc.n
  simp (disch := first | assumption | omega | (simp only [LN] <;> omega) | (simp (disch := first | assumption | omega | (simp only [LN] <;> omega)) only [row_alloc, row_set]; assumption)) only [W_block, P3, ↓reduceIte, reduceAdd, reduceEqDiff, reduceCtorEq, initFr, reduceLT, clsA, reduceLeDiff, reduceMul, reduceSub, reduceIte, cp]
  refine callK (q65 (r4.chg cc (by omega)) hl) ?_
  rintro _ K5 ⟨rfl, r5, c5⟩
  have n5 := c5.n
  have l5 : (cSt ⟨na l s 8, na l (s + 8) 8, na l (s + 8 + 8) 8, tmr l (s + 24), 0⟩).length = 68 := cSt_len (tmr_len _ _)
  have g5 : K5.get K3.n = some (.cells true false 68 (cSt ⟨na l s 8, na l (s + 8) 8, na l (s + 8 + 8) 8, tmr l (s + 24), 0⟩) 51) := by
    rw [Chg1.get c5 (by omega) (by omega)]; exact gc
  have g0' : K5.get H.n = some (.cells true false 68 Z68 51) := by
    rw [Chg1.get c5 (by omega) (by omega), Chg1.get cc (by omega) (by omega), Chg1.get c4 (by omega) (by omega), kb.get _ (by omega), Chg1.get c3 (by omega) (by omega), Chg1.get c2 (by omega) (by omega), Chg1.get c1 (by omega) (by omega)]; exact g0
  have l6 := cSt_len (x := ⟨na l s 8, na l (s + 8) 8, na l (s + 8 + 8) 8, tmr l (s + 24), na l (s + 8 + 8 + 8 + 64) 4⟩) (tmr_len _ _)
  have o6 := cSt_one ⟨na l s 8, na l (s + 8) 8, na l (s + 8 + 8) 8, tmr l (s + 24), na l (s + 8 + 8 + 8 + 64) 4⟩
  have e6 := cSt_set67 (x := ⟨na l s 8, na l (s + 8) 8, na l (s + 8 + 8) 8, tmr l (s + 24), 0⟩) (tmr_len _ _) (na l (s + 8 + 8 + 8 + 64) 4)
  have p0 := AHeap.get_lt g0'
  have p5 := AHeap.get_lt g5
  simp (disch := first | assumption | omega | (simp only [LN] <;> omega) | (simp (disch := first | assumption | omega | (simp only [LN] <;> omega)) only [row_alloc, row_set]; assumption)) only [W_block, P3, ↓reduceIte, reduceAdd, reduceEqDiff, reduceCtorEq, initFr, reduceLT, clsA, reduceLeDiff, reduceMul, reduceSub, reduceIte, g5, g0', l5, e6, o6]
  have ed : deSt l s = ⟨na l s 8, na l (s + 8) 8, na l (s + 8 + 8) 8, tmr l (s + 24), na l (s + 8 + 8 + 8 + 64) 4⟩ := by
    unfold deSt
    simp only [Nat.add_assoc, Nat.reduceAdd]
  refine hq2 _ _ ⟨_, by rw [hr]; simp (disch := first | assumption | omega | (simp only [LN] <;> omega) | (simp (disch := first | assumption | omega | (simp only [LN] <;> omega)) only [row_alloc, row_set]; assumption)) only [W_block, P3, ↓reduceIte, reduceAdd, reduceEqDiff, reduceCtorEq, initFr, reduceLT, clsA, reduceLeDiff, reduceMul, reduceSub, reduceIte, g5, g0', l5, l6]; rfl, by rw [ed], ?_, ?_⟩
  · have := (r5.chg (Chg.set K5 p5 (.cells true false 68 (cSt ⟨na l s 8, na l (s + 8) 8, na l (s + 8 + 8) 8, tmr l (s + 24), na l (s + 8 + 8 + 8 + 64) 4⟩) 51)) (by omega)).chg (Chg.set _ (by rw [set_n]; exact p0) (.cells true false 68 (cSt ⟨na l s 8, na l (s + 8) 8, na l (s + 8 + 8) 8, tmr l (s + 24), na l (s + 8 + 8 + 8 + 64) 4⟩) 51)) (by omega)
    rw [show s + 8 + 8 + 8 + 64 + 4 = s + 92 by omega] at this
    exact this
  · refine ⟨by rw [set_n, set_n]; omega, fun x hx hn => ?_⟩
    simp only [List.mem_singleton] at hn
    rw [AHeap.get_set_other _ (by omega) (by rw [set_n]; exact p0), AHeap.get_set_other _ (by omega) p5, Chg1.get c5 (by omega) hn, Chg1.get cc (by omega) (by omega), Chg1.get c4 (by omega) hn, kb.get _ (by omega), Chg1.get c3 (by omega) hn, Chg1.get c2 (by omega) hn, Chg1.get c1 (by omega) hn, k0.get _ hx]
theorem n70 (H : AHeap) : ∃ v H', ARun Go.Proofs.Try.prog 0 70 [.pointer none] H v H' ∧ v = .agg (cSt St0).toArray ∧ Keeps H H' := by
  refine walk2 f70_ok f70_n ?_
  intro Q hq1 hq2
  have hr : ∀ fr H', resO f70.res fr H' = (celln 68 (fr.getD 1 undef) H') := fun fr H' => resC 1 68 fr
  have lz : Z68.length = 68 := rfl
  have oz : Z68.all Value.oneCell' = true := rfl
  have lz2 : (cSt St0).length = 68 := rfl
  have oz2 : (cSt St0).all Value.oneCell' = true := rfl
  simp (disch := first | assumption | omega | (simp only [LN] <;> omega) | (simp (disch := first | assumption | omega | (simp only [LN] <;> omega)) only [row_alloc, row_set]; assumption)) only [f70, W_block, P3, ↓reduceIte, reduceAdd, reduceEqDiff, reduceCtorEq, initFr, reduceLT, clsA, reduceLeDiff, reduceMul, reduceSub, reduceIte, oz]
  refine callK (n64 _) ?_
  rintro _ _ ⟨rfl, rfl⟩
  simp (disch := first | assumption | omega | (simp only [LN] <;> omega) | (simp (disch := first | assumption | omega | (simp only [LN] <;> omega)) only [row_alloc, row_set]; assumption)) only [W_block, P3, ↓reduceIte, reduceAdd, reduceEqDiff, reduceCtorEq, initFr, reduceLT, clsA, reduceLeDiff, reduceMul, reduceSub, reduceIte]
  refine callK (n64 _) ?_
  rintro _ _ ⟨rfl, rfl⟩
  simp (disch := first | assumption | omega | (simp only [LN] <;> omega) | (simp (disch := first | assumption | omega | (simp only [LN] <;> omega)) only [row_alloc, row_set]; assumption)) only [W_block, P3, ↓reduceIte, reduceAdd, reduceEqDiff, reduceCtorEq, initFr, reduceLT, clsA, reduceLeDiff, reduceMul, reduceSub, reduceIte]
  refine callK (n64 _) ?_
  rintro _ _ ⟨rfl, rfl⟩
  simp (disch := first | assumption | omega | (simp only [LN] <;> omega) | (simp (disch := first | assumption | omega | (simp only [LN] <;> omega)) only [row_alloc, row_set]; assumption)) only [W_block, P3, ↓reduceIte, reduceAdd, reduceEqDiff, reduceCtorEq, initFr, reduceLT, clsA, reduceLeDiff, reduceMul, reduceSub, reduceIte, fillS0, oz, oz2, a_slarr0]
  refine callK (n74 _ _) ?_
  rintro _ _ ⟨rfl, rfl⟩
  have cp : ∀ X : AHeap, X.get (H.n + 1) = some (.cells true false 68 (cSt St0) 51) → ∃ w, asem (.copy 1 (slc (H.n + 1) 3 64 64) (.slice none 0 0)) X = some (w, X) := fun X g => by
    obtain ⟨w, e⟩ := copy_t g rfl (BS.nil X) (.inr rfl)
    exact ⟨w, by simpa using e⟩
  obtain ⟨w, cp⟩ := cp _ (by rw [show H.n + 1 = (H.alloc (.cells true false 68 Z68 51)).n from rfl]; exact AHeap.get_alloc_new _ _)
  simp (disch := first | assumption | omega | (simp only [LN] <;> omega) | (simp (disch := first | assumption | omega | (simp only [LN] <;> omega)) only [row_alloc, row_set]; assumption)) only [W_block, P3, ↓reduceIte, reduceAdd, reduceEqDiff, reduceCtorEq, initFr, reduceLT, clsA, reduceLeDiff, reduceMul, reduceSub, reduceIte, cp]
  refine callK (n65 _) ?_
  rintro _ _ ⟨rfl, rfl⟩
  have e6 : (cSt St0).set 67 (.int .u32 0) = cSt St0 := rfl
  simp (disch := first | assumption | omega | (simp only [LN] <;> omega) | (simp (disch := first | assumption | omega | (simp only [LN] <;> omega)) only [row_alloc, row_set]; assumption)) only [W_block, P3, ↓reduceIte, reduceAdd, reduceEqDiff, reduceCtorEq, initFr, reduceLT, clsA, reduceLeDiff, reduceMul, reduceSub, reduceIte, e6, oz2]
  refine hq2 _ _ ⟨_, by rw [hr]; simp (disch := first | assumption | omega | (simp only [LN] <;> omega) | (simp (disch := first | assumption | omega | (simp only [LN] <;> omega)) only [row_alloc, row_set]; assumption)) only [W_block, P3, ↓reduceIte, reduceAdd, reduceEqDiff, reduceCtorEq, initFr, reduceLT, clsA, reduceLeDiff, reduceMul, reduceSub, reduceIte], rfl, by ((repeat (first | exact Keeps.refl _ | assumption | refine Keeps.alloc ?_ _ | (refine Keeps.set ?_ (by first | omega | (simp only [alloc_n, set_n] <;> omega)) (by first | omega | (simp only [alloc_n, set_n] <;> omega)) _) | (refine Keeps.trans' (by assumption) ?_))))⟩
end Go.AM.Fd

set_option linter.unusedSimpArgs false
set_option linter.unusedVariables false
namespace Go.AM.Fd
open Nat (reduceAdd reduceEqDiff reduceLT reduceLeDiff reduceMul reduceSub)
open Go.Proofs Go.AM.F
def geOu (b : List UInt8) : Option Ou := if frm 2 b = true then pdOu (bd b) else none
def geSt (b : List UInt8) : Option St := if frm 3 b = true then pdSt (bd b) else none
def geLo (b : List UInt8) : Option Lo := if frm 4 b = true then pdLo (bd b) else none
def geLi (b : List UInt8) : Option Li := if frm 5 b = true then pdLi (bd b) else none
def geI6 (b : List UInt8) : Option I6 := if frm 1 b = true then pdI6 (bd b) else none
theorem bd_le {b : List UInt8} (h : b.length ≤ 1000000000) : (bd b).length ≤ 1000000000 := by rw [bd_len]; omega
theorem fillOu (ch : Nat) (cy ep : Int) (pr pt : Nat) : fillA [.int .u8 0, .int .i64 0, .int .i64 0, .int .u64 0, .int .u32 0] [(0, 1, .int .u8 (ch : Nat)), (1, 1, .int .i64 cy), (2, 1, .int .i64 ep), (3, 2, .agg #[.int .u64 (pr : Nat), .int .u32 (pt : Nat)])] = some (cOu ⟨ch, cy, ep, pr, pt⟩) := rfl
theorem fillOp (pr pt : Nat) : fillA [.int .u64 0, .int .u32 0] [(0, 1, .int .u64 (pr : Nat)), (1, 1, .int .u32 (pt : Nat))] = some [.int .u64 (pr : Nat), .int .u32 (pt : Nat)] := rfl
theorem t16 {H : AHeap} {v : Value} {b : List UInt8} (hb : BQ H v b) (hl : b.length ≤ 1000000000) : ∃ w H', ARun Go.Proofs.Try.prog 0 16 [v] H w H' ∧ Keeps H H' ∧ w = match geOu b with | some x => GotV (cOu x) 0 | none => GotV (cOu Ou0) 130 := by
  refine walk2 f16_ok f16_n ?_
  intro Q hq1 hq2
  have hr : ∀ fr H', resO f16.res fr H' = (celln 5 (fr.getD 1 undef) H').map fun c => .tuple #[c, fr.getD 2 undef] := fun fr H' => resCT 5 1 2 fr
  have k0 := (Keeps.refl H).alloc (.cells true false 5 (cOu Ou0) 42)
  have g0 := AHeap.get_alloc_new H (.cells true false 5 (cOu Ou0) 42)
  have lz : (cOu Ou0).length = 5 := rfl
  have ozz : (cOu Ou0).all Value.oneCell' = true := rfl
  simp (disch := first | assumption | omega | (simp only [LN] <;> omega) | (simp (disch := first | assumption | omega | (simp only [LN] <;> omega)) only [row_alloc, row_set]; assumption)) only [f16, W_block, P3, ↓reduceIte, reduceAdd, reduceEqDiff, reduceCtorEq, initFr, reduceLT, clsA, reduceLeDiff, reduceMul, reduceSub, reduceIte]
  refine callK (t62 (hb.keeps (by ((repeat (first | exact Keeps.refl _ | assumption | refine Keeps.alloc ?_ _ | (refine Keeps.set ?_ (by first | omega | (simp only [alloc_n, set_n] <;> omega)) (by first | omega | (simp only [alloc_n, set_n] <;> omega)) _) | (refine Keeps.trans' (by assumption) ?_)))))) 2 (by omega) hl) ?_
  rintro _ K0 ⟨k, ⟨rfl, rfl, hf⟩ | ⟨r, rfl, r0⟩⟩
  · simp (disch := first | assumption | omega | (simp only [LN] <;> omega) | (simp (disch := first | assumption | omega | (simp only [LN] <;> omega)) only [row_alloc, row_set]; assumption)) only [W_block, P3, ↓reduceIte, reduceAdd, reduceEqDiff, reduceCtorEq, initFr, reduceLT, clsA, reduceLeDiff, reduceMul, reduceSub, reduceIte]
    refine callK (n63 _) ?_
    rintro _ _ ⟨rfl, rfl⟩
    simp (disch := first | assumption | omega | (simp only [LN] <;> omega) | (simp (disch := first | assumption | omega | (simp only [LN] <;> omega)) only [row_alloc, row_set]; assumption)) only [W_block, P3, ↓reduceIte, reduceAdd, reduceEqDiff, reduceCtorEq, initFr, reduceLT, clsA, reduceLeDiff, reduceMul, reduceSub, reduceIte]
    refine callK (n64 _) ?_
    rintro _ _ ⟨rfl, rfl⟩
    simp (disch := first | assumption | omega | (simp only [LN] <;> omega) | (simp (disch := first | assumption | omega | (simp only [LN] <;> omega)) only [row_alloc, row_set]; assumption)) only [W_block, P3, ↓reduceIte, reduceAdd, reduceEqDiff, reduceCtorEq, initFr, reduceLT, clsA, reduceLeDiff, reduceMul, reduceSub, reduceIte]
    refine callK (n64 _) ?_
    rintro _ _ ⟨rfl, rfl⟩
    simp (disch := first | assumption | omega | (simp only [LN] <;> omega) | (simp (disch := first | assumption | omega | (simp only [LN] <;> omega)) only [row_alloc, row_set]; assumption)) only [W_block, P3, ↓reduceIte, reduceAdd, reduceEqDiff, reduceCtorEq, initFr, reduceLT, clsA, reduceLeDiff, reduceMul, reduceSub, reduceIte]
    refine callK (n64 _) ?_
    rintro _ _ ⟨rfl, rfl⟩
    simp (disch := first | assumption | omega | (simp only [LN] <;> omega) | (simp (disch := first | assumption | omega | (simp only [LN] <;> omega)) only [row_alloc, row_set]; assumption)) only [W_block, P3, ↓reduceIte, reduceAdd, reduceEqDiff, reduceCtorEq, initFr, reduceLT, clsA, reduceLeDiff, reduceMul, reduceSub, reduceIte]
    refine callK (n65 _) ?_
    rintro _ _ ⟨rfl, rfl⟩
    have f1 := fillOp 0 0
    have f2 := fillOu 0 (IntKind.i64.wrap 0) (IntKind.i64.wrap 0) 0 0
    simp only [Int.natCast_zero] at f1 f2
    simp (disch := first | assumption | omega | (simp only [LN] <;> omega) | (simp (disch := first | assumption | omega | (simp only [LN] <;> omega)) only [row_alloc, row_set]; assumption)) only [W_block, P3, ↓reduceIte, reduceAdd, reduceEqDiff, reduceCtorEq, initFr, reduceLT, clsA, reduceLeDiff, reduceMul, reduceSub, reduceIte, f1, f2]
    refine callK (n68 _) ?_
    rintro _ K1 ⟨k1, rfl⟩
    have nk1 := k1.n
    try simp only [alloc_n] at nk1
    simp (disch := first | assumption | omega | (simp only [LN] <;> omega) | (simp (disch := first | assumption | omega | (simp only [LN] <;> omega)) only [row_alloc, row_set, Keeps.row k1]; assumption)) only [Keeps.get k1, Keeps.row k1, W_block, P3, ↓reduceIte, reduceAdd, reduceEqDiff, reduceCtorEq, initFr, reduceLT, clsA, reduceLeDiff, reduceMul, reduceSub, reduceIte, GotV, ozz]
    refine hq2 _ _ ⟨_, by rw [hr]; simp (disch := first | assumption | omega | (simp only [LN] <;> omega) | (simp (disch := first | assumption | omega | (simp only [LN] <;> omega)) only [row_alloc, row_set, Keeps.row k1]; assumption)) only [Keeps.get k1, Keeps.row k1, W_block, P3, ↓reduceIte, reduceAdd, reduceEqDiff, reduceCtorEq, initFr, reduceLT, clsA, reduceLeDiff, reduceMul, reduceSub, reduceIte, ozz]; rfl, by ((repeat (first | exact Keeps.refl _ | assumption | refine Keeps.alloc ?_ _ | (refine Keeps.set ?_ (by first | omega | (simp only [alloc_n, set_n] <;> omega)) (by first | omega | (simp only [alloc_n, set_n] <;> omega)) _) | (refine Keeps.trans' (by assumption) ?_)))), ?_⟩
    simp only [geOu, hf]
    rfl
  · have hn0 := k.n
    simp only [alloc_n] at hn0
    have hlb := bd_le hl
    have hrl : H.n + 1 ≤ r := r0.1
    simp (disch := first | assumption | omega | (simp only [LN] <;> omega) | (simp (disch := first | assumption | omega | (simp only [LN] <;> omega)) only [row_alloc, row_set]; assumption)) only [W_block, P3, ↓reduceIte, reduceAdd, reduceEqDiff, reduceCtorEq, initFr, reduceLT, clsA, reduceLeDiff, reduceMul, reduceSub, reduceIte]
    refine callK (q63 r0 hlb) ?_
    rintro _ K1 ⟨rfl, r1, c1⟩
    have n1 := c1.n
    simp (disch := first | assumption | omega | (simp only [LN] <;> omega) | (simp (disch := first | assumption | omega | (simp only [LN] <;> omega)) only [row_alloc, row_set]; assumption)) only [W_block, P3, ↓reduceIte, reduceAdd, reduceEqDiff, reduceCtorEq, initFr, reduceLT, clsA, reduceLeDiff, reduceMul, reduceSub, reduceIte]
    refine callK (q64 r1 hlb) ?_
    rintro _ K2 ⟨rfl, r2, c2⟩
    have n2 := c2.n
    simp (disch := first | assumption | omega | (simp only [LN] <;> omega) | (simp (disch := first | assumption | omega | (simp only [LN] <;> omega)) only [row_alloc, row_set]; assumption)) only [W_block, P3, ↓reduceIte, reduceAdd, reduceEqDiff, reduceCtorEq, initFr, reduceLT, clsA, reduceLeDiff, reduceMul, reduceSub, reduceIte]
    refine callK (q64 r2 hlb) ?_
    rintro _ K3 ⟨rfl, r3, c3⟩
    have n3 := c3.n
    simp (disch := first | assumption | omega | (simp only [LN] <;> omega) | (simp (disch := first | assumption | omega | (simp only [LN] <;> omega)) only [row_alloc, row_set]; assumption)) only [W_block, P3, ↓reduceIte, reduceAdd, reduceEqDiff, reduceCtorEq, initFr, reduceLT, clsA, reduceLeDiff, reduceMul, reduceSub, reduceIte]
    refine callK (q64 r3 hlb) ?_
    rintro _ K4 ⟨rfl, r4, c4⟩
    have n4 := c4.n
    simp (disch := first | assumption | omega | (simp only [LN] <;> omega) | (simp (disch := first | assumption | omega | (simp only [LN] <;> omega)) only [row_alloc, row_set]; assumption)) only [W_block, P3, ↓reduceIte, reduceAdd, reduceEqDiff, reduceCtorEq, initFr, reduceLT, clsA, reduceLeDiff, reduceMul, reduceSub, reduceIte]
    refine callK (q65 r4 hlb) ?_
    rintro _ K5 ⟨rfl, r5, c5⟩
    have n5 := c5.n
    simp (disch := first | assumption | omega | (simp only [LN] <;> omega) | (simp (disch := first | assumption | omega | (simp only [LN] <;> omega)) only [row_alloc, row_set]; assumption)) only [W_block, P3, ↓reduceIte, reduceAdd, reduceEqDiff, reduceCtorEq, initFr, reduceLT, clsA, reduceLeDiff, reduceMul, reduceSub, reduceIte, fillOp, fillOu]
    refine callK (t68 r5 (frm 2 b) _) ?_
    rintro _ K6 ⟨k6, rfl⟩
    have n6 := k6.n
    have g6 : K6.get H.n = some (.cells true false 5 (cOu Ou0) 42) := by
      rw [k6.get _ (by omega), Chg1.get c5 (by omega) (by omega), Chg1.get c4 (by omega) (by omega), Chg1.get c3 (by omega) (by omega), Chg1.get c2 (by omega) (by omega), Chg1.get c1 (by omega) (by omega), k.get _ (by rw [alloc_n]; omega)]; exact g0
    have p6 := AHeap.get_lt g6
    have kk : ∀ o, Keeps H (K6.set H.n o) := fun o => ⟨by rw [set_n]; omega, fun y hy => by
      rw [AHeap.get_set_other _ (by omega) p6, k6.get _ (by omega), Chg1.get c5 (by omega) (by omega), Chg1.get c4 (by omega) (by omega), Chg1.get c3 (by omega) (by omega), Chg1.get c2 (by omega) (by omega), Chg1.get c1 (by omega) (by omega), k.get _ (by rw [alloc_n]; omega)]; exact k0.get _ hy⟩
    have ed : (⟨na (bd b) 0 1, IntKind.i64.wrap (na (bd b) (0 + 1) 8), IntKind.i64.wrap (na (bd b) (0 + 1 + 8) 8), na (bd b) (0 + 1 + 8 + 8) 8, na (bd b) (0 + 1 + 8 + 8 + 8) 4⟩ : Ou) = deOu (bd b) := rfl
    rw [ed]
    by_cases hc : frm 2 b = true ∧ (bd b).length = 0 + 1 + 8 + 8 + 8 + 4 ∧ okOu (deOu (bd b)) = true
    · rw [if_pos hc]
      have ge : geOu b = some (deOu (bd b)) := by unfold geOu pdOu; rw [if_pos hc.1, if_pos hc.2]
      have lx : (cOu (deOu (bd b))).length = 5 := rfl
      have ox : (cOu (deOu (bd b))).all Value.oneCell' = true := rfl
      simp (disch := first | assumption | omega | (simp only [LN] <;> omega) | (simp (disch := first | assumption | omega | (simp only [LN] <;> omega)) only [row_alloc, row_set]; assumption)) only [W_block, P3, ↓reduceIte, reduceAdd, reduceEqDiff, reduceCtorEq, initFr, reduceLT, clsA, reduceLeDiff, reduceMul, reduceSub, reduceIte, GotV, g6, ox]
      refine hq2 _ _ ⟨_, by rw [hr]; simp (disch := first | assumption | omega | (simp only [LN] <;> omega) | (simp (disch := first | assumption | omega | (simp only [LN] <;> omega)) only [row_alloc, row_set]; assumption)) only [W_block, P3, ↓reduceIte, reduceAdd, reduceEqDiff, reduceCtorEq, initFr, reduceLT, clsA, reduceLeDiff, reduceMul, reduceSub, reduceIte, g6, ox]; rfl, kk _, ?_⟩
      rw [ge]; rfl
    · rw [if_neg hc]
      have ge : geOu b = none := by
        unfold geOu pdOu
        split
        · rename_i hf
          rw [if_neg (fun h => hc ⟨hf, h⟩)]
        · rfl
      simp (disch := first | assumption | omega | (simp only [LN] <;> omega) | (simp (disch := first | assumption | omega | (simp only [LN] <;> omega)) only [row_alloc, row_set]; assumption)) only [W_block, P3, ↓reduceIte, reduceAdd, reduceEqDiff, reduceCtorEq, initFr, reduceLT, clsA, reduceLeDiff, reduceMul, reduceSub, reduceIte, GotV, g6, ozz]
      refine hq2 _ _ ⟨_, by rw [hr]; simp (disch := first | assumption | omega | (simp only [LN] <;> omega) | (simp (disch := first | assumption | omega | (simp only [LN] <;> omega)) only [row_alloc, row_set]; assumption)) only [W_block, P3, ↓reduceIte, reduceAdd, reduceEqDiff, reduceCtorEq, initFr, reduceLT, clsA, reduceLeDiff, reduceMul, reduceSub, reduceIte, g6, ozz]; rfl, kk _, ?_⟩
      rw [ge]; rfl
theorem fillLo {e c : Int} {s : St} (h : s.t.length = 64) : fillA Z70 [(0, 1, .int .i64 e), (1, 1, .int .i64 c), (2, 68, .agg (cSt s).toArray)] = some (cLo ⟨e, c, s⟩) := by
  have h1 : fillA Z70 [(0, 1, .int .i64 e), (1, 1, .int .i64 c), (2, 68, .agg (cSt s).toArray)] = fillA (.int .i64 e :: .int .i64 c :: Z70.drop 2) [(2, 68, .agg (cSt s).toArray)] := rfl
  rw [h1, fill_cons, cells_agg, if_pos ⟨cSt_len h, Nat.le_refl 70⟩, fill0]
  have h2 : List.drop (2 + 68) (Value.int .i64 e :: Value.int .i64 c :: Z70.drop 2) = [] := rfl
  have h3 : List.take 2 (Value.int .i64 e :: Value.int .i64 c :: Z70.drop 2) = [.int .i64 e, .int .i64 c] := rfl
  rw [h2, h3, List.append_nil]
  rfl
theorem t19 {H : AHeap} {v : Value} {b : List UInt8} (hb : BQ H v b) (hl : b.length ≤ 1000000000) : ∃ w H', ARun Go.Proofs.Try.prog 0 19 [v] H w H' ∧ Keeps H H' ∧ w = match geSt b with | some x => GotV (cSt x) 0 | none => GotV (cSt St0) 130 := by
  refine walk2 f19_ok f19_n ?_
  intro Q hq1 hq2
  have hr : ∀ fr H', resO f19.res fr H' = (celln 68 (fr.getD 1 undef) H').map fun c => .tuple #[c, fr.getD 2 undef] := fun fr H' => resCT 68 1 2 fr
  have k0 := (Keeps.refl H).alloc (.cells true false 68 Z68 51)
  have g0 := AHeap.get_alloc_new H (.cells true false 68 Z68 51)
  have lz : Z68.length = 68 := rfl
  have ozz : Z68.all Value.oneCell' = true := rfl
  have lz' : (cSt St0).length = 68 := rfl
  have ozz' : (cSt St0).all Value.oneCell' = true := rfl
  simp (disch := first | assumption | omega | (simp only [LN] <;> omega) | (simp (disch := first | assumption | omega | (simp only [LN] <;> omega)) only [row_alloc, row_set]; assumption)) only [f19, W_block, P3, ↓reduceIte, reduceAdd, reduceEqDiff, reduceCtorEq, initFr, reduceLT, clsA, reduceLeDiff, reduceMul, reduceSub, reduceIte, ozz]
  refine callK (t62 (hb.keeps (by ((repeat (first | exact Keeps.refl _ | assumption | refine Keeps.alloc ?_ _ | (refine Keeps.set ?_ (by first | omega | (simp only [alloc_n, set_n] <;> omega)) (by first | omega | (simp only [alloc_n, set_n] <;> omega)) _) | (refine Keeps.trans' (by assumption) ?_)))))) 3 (by omega) hl) ?_
  rintro _ K0 ⟨k, ⟨rfl, rfl, hf⟩ | ⟨r, rfl, r0⟩⟩
  · simp (disch := first | assumption | omega | (simp only [LN] <;> omega) | (simp (disch := first | assumption | omega | (simp only [LN] <;> omega)) only [row_alloc, row_set]; assumption)) only [W_block, P3, ↓reduceIte, reduceAdd, reduceEqDiff, reduceCtorEq, initFr, reduceLT, clsA, reduceLeDiff, reduceMul, reduceSub, reduceIte]
    refine callK (n70 _) ?_
    rintro _ Ks ⟨rfl, ks⟩
    have nks := ks.n
    simp only [alloc_n] at nks
    simp (disch := first | assumption | omega | (simp only [LN] <;> omega) | (simp (disch := first | assumption | omega | (simp only [LN] <;> omega)) only [row_alloc, row_set, Keeps.row ks]; assumption)) only [Keeps.get ks, Keeps.row ks, W_block, P3, ↓reduceIte, reduceAdd, reduceEqDiff, reduceCtorEq, initFr, reduceLT, clsA, reduceLeDiff, reduceMul, reduceSub, reduceIte]
    refine callK (n69 St0 rfl) ?_
    rintro _ K1 ⟨k1, rfl⟩
    have nk1 := k1.n
    try simp only [alloc_n] at nk1
    simp (disch := first | assumption | omega | (simp only [LN] <;> omega) | (simp (disch := first | assumption | omega | (simp only [LN] <;> omega)) only [row_alloc, row_set, Keeps.row ks, Keeps.row k1]; assumption)) only [Keeps.get ks, Keeps.get k1, Keeps.row ks, Keeps.row k1, W_block, P3, ↓reduceIte, reduceAdd, reduceEqDiff, reduceCtorEq, initFr, reduceLT, clsA, reduceLeDiff, reduceMul, reduceSub, reduceIte, GotV, ozz, ozz']
    refine hq2 _ _ ⟨_, by rw [hr]; simp (disch := first | assumption | omega | (simp only [LN] <;> omega) | (simp (disch := first | assumption | omega | (simp only [LN] <;> omega)) only [row_alloc, row_set, Keeps.row ks, Keeps.row k1]; assumption)) only [Keeps.get ks, Keeps.get k1, Keeps.row ks, Keeps.row k1, W_block, P3, ↓reduceIte, reduceAdd, reduceEqDiff, reduceCtorEq, initFr, reduceLT, clsA, reduceLeDiff, reduceMul, reduceSub, reduceIte, ozz, ozz']; rfl, by ((repeat (first | exact Keeps.refl _ | assumption | refine Keeps.alloc ?_ _ | (refine Keeps.set ?_ (by first | omega | (simp only [alloc_n, set_n] <;> omega)) (by first | omega | (simp only [alloc_n, set_n] <;> omega)) _) | (refine Keeps.trans' (by assumption) ?_)))), ?_⟩
    simp only [geSt, hf]
    rfl
  · have hn0 := k.n
    simp only [alloc_n] at hn0
    have hlb := bd_le hl
    have hrl : H.n + 1 ≤ r := r0.1
    have c0 := Chg.refl [r] K0
    simp (disch := first | assumption | omega | (simp only [LN] <;> omega) | (simp (disch := first | assumption | omega | (simp only [LN] <;> omega)) only [row_alloc, row_set]; assumption)) only [W_block, P3, ↓reduceIte, reduceAdd, reduceEqDiff, reduceCtorEq, initFr, reduceLT, clsA, reduceLeDiff, reduceMul, reduceSub, reduceIte]
    refine callK (t70 r0 hlb) ?_
    rintro _ K1 ⟨rfl, r1, e1⟩
    have c1 := Chg1.tr c0 e1
    simp (disch := first | assumption | omega | (simp only [LN] <;> omega) | (simp (disch := first | assumption | omega | (simp only [LN] <;> omega)) only [row_alloc, row_set]; assumption)) only [W_block, P3, ↓reduceIte, reduceAdd, reduceEqDiff, reduceCtorEq, initFr, reduceLT, clsA, reduceLeDiff, reduceMul, reduceSub, reduceIte]
    refine callK (t69 r1 (frm 3 b) (deSt (bd b) 0) (tmr_len _ _)) ?_
    rintro _ K ⟨k6, rfl⟩
    have cc := Chg1.tr c1 (Chg1.kp k6)
    have n6 := cc.n
    have g6 : K.get H.n = some (.cells true false 68 Z68 51) := by
      rw [Chg1.get cc (by omega) (by omega), k.get _ (by rw [alloc_n]; omega)]; exact g0
    have p6 := AHeap.get_lt g6
    have kk : ∀ o, Keeps H (K.set H.n o) := fun o => ⟨by rw [set_n]; omega, fun y hy => by
      rw [AHeap.get_set_other _ (by omega) p6, Chg1.get cc (by omega) (by omega), k.get _ (by rw [alloc_n]; omega)]; exact k0.get _ hy⟩
    have ed : deSt (bd b) 0 = deSt (bd b) 0 := rfl
    rw [ed]
    by_cases hc : frm 3 b = true ∧ (bd b).length = 0 + 92
    · rw [if_pos hc]
      have ge : geSt b = some (deSt (bd b) 0) := by unfold geSt pdSt; rw [if_pos hc.1, if_pos hc.2]
      have lx := cSt_len (x := deSt (bd b) 0) (tmr_len _ _)
      have ox := cSt_one (deSt (bd b) 0)
      simp (disch := first | assumption | omega | (simp only [LN] <;> omega) | (simp (disch := first | assumption | omega | (simp only [LN] <;> omega)) only [row_alloc, row_set]; assumption)) only [W_block, P3, ↓reduceIte, reduceAdd, reduceEqDiff, reduceCtorEq, initFr, reduceLT, clsA, reduceLeDiff, reduceMul, reduceSub, reduceIte, GotV, g6, ox, ozz]
      refine hq2 _ _ ⟨_, by rw [hr]; simp (disch := first | assumption | omega | (simp only [LN] <;> omega) | (simp (disch := first | assumption | omega | (simp only [LN] <;> omega)) only [row_alloc, row_set]; assumption)) only [W_block, P3, ↓reduceIte, reduceAdd, reduceEqDiff, reduceCtorEq, initFr, reduceLT, clsA, reduceLeDiff, reduceMul, reduceSub, reduceIte, g6, ox, ozz]; rfl, kk _, ?_⟩
      rw [ge]; rfl
    · rw [if_neg hc]
      have ge : geSt b = none := by
        unfold geSt pdSt
        split
        · rename_i hf
          rw [if_neg (fun h => hc ⟨hf, h⟩)]
        · rfl
      simp (disch := first | assumption | omega | (simp only [LN] <;> omega) | (simp (disch := first | assumption | omega | (simp only [LN] <;> omega)) only [row_alloc, row_set]; assumption)) only [W_block, P3, ↓reduceIte, reduceAdd, reduceEqDiff, reduceCtorEq, initFr, reduceLT, clsA, reduceLeDiff, reduceMul, reduceSub, reduceIte, GotV, g6, ozz, ozz']
      refine hq2 _ _ ⟨_, by rw [hr]; simp (disch := first | assumption | omega | (simp only [LN] <;> omega) | (simp (disch := first | assumption | omega | (simp only [LN] <;> omega)) only [row_alloc, row_set]; assumption)) only [W_block, P3, ↓reduceIte, reduceAdd, reduceEqDiff, reduceCtorEq, initFr, reduceLT, clsA, reduceLeDiff, reduceMul, reduceSub, reduceIte, g6, ozz, ozz']; rfl, kk _, ?_⟩
      rw [ge]; rfl
theorem t21 {H : AHeap} {v : Value} {b : List UInt8} (hb : BQ H v b) (hl : b.length ≤ 1000000000) : ∃ w H', ARun Go.Proofs.Try.prog 0 21 [v] H w H' ∧ Keeps H H' ∧ w = match geLo b with | some x => GotV (cLo x) 0 | none => GotV (cLo Lo0) 130 := by
  refine walk2 f21_ok f21_n ?_
  intro Q hq1 hq2
  have hr : ∀ fr H', resO f21.res fr H' = (celln 70 (fr.getD 1 undef) H').map fun c => .tuple #[c, fr.getD 2 undef] := fun fr H' => resCT 70 1 2 fr
  have k0 := (Keeps.refl H).alloc (.cells true false 70 Z70 57)
  have g0 := AHeap.get_alloc_new H (.cells true false 70 Z70 57)
  have lz : Z70.length = 70 := rfl
  have ozz : Z70.all Value.oneCell' = true := rfl
  have lz' : (cLo Lo0).length = 70 := rfl
  have ozz' : (cLo Lo0).all Value.oneCell' = true := rfl
  simp (disch := first | assumption | omega | (simp only [LN] <;> omega) | (simp (disch := first | assumption | omega | (simp only [LN] <;> omega)) only [row_alloc, row_set]; assumption)) only [f21, W_block, P3, ↓reduceIte, reduceAdd, reduceEqDiff, reduceCtorEq, initFr, reduceLT, clsA, reduceLeDiff, reduceMul, reduceSub, reduceIte, ozz]
  refine callK (t62 (hb.keeps (by ((repeat (first | exact Keeps.refl _ | assumption | refine Keeps.alloc ?_ _ | (refine Keeps.set ?_ (by first | omega | (simp only [alloc_n, set_n] <;> omega)) (by first | omega | (simp only [alloc_n, set_n] <;> omega)) _) | (refine Keeps.trans' (by assumption) ?_)))))) 4 (by omega) hl) ?_
  rintro _ K0 ⟨k, ⟨rfl, rfl, hf⟩ | ⟨r, rfl, r0⟩⟩
  · simp (disch := first | assumption | omega | (simp only [LN] <;> omega) | (simp (disch := first | assumption | omega | (simp only [LN] <;> omega)) only [row_alloc, row_set]; assumption)) only [W_block, P3, ↓reduceIte, reduceAdd, reduceEqDiff, reduceCtorEq, initFr, reduceLT, clsA, reduceLeDiff, reduceMul, reduceSub, reduceIte]
    refine callK (n64 _) ?_
    rintro _ _ ⟨rfl, rfl⟩
    simp (disch := first | assumption | omega | (simp only [LN] <;> omega) | (simp (disch := first | assumption | omega | (simp only [LN] <;> omega)) only [row_alloc, row_set]; assumption)) only [W_block, P3, ↓reduceIte, reduceAdd, reduceEqDiff, reduceCtorEq, initFr, reduceLT, clsA, reduceLeDiff, reduceMul, reduceSub, reduceIte]
    refine callK (n64 _) ?_
    rintro _ _ ⟨rfl, rfl⟩
    simp (disch := first | assumption | omega | (simp only [LN] <;> omega) | (simp (disch := first | assumption | omega | (simp only [LN] <;> omega)) only [row_alloc, row_set]; assumption)) only [W_block, P3, ↓reduceIte, reduceAdd, reduceEqDiff, reduceCtorEq, initFr, reduceLT, clsA, reduceLeDiff, reduceMul, reduceSub, reduceIte]
    refine callK (n70 _) ?_
    rintro _ Ks ⟨rfl, ks⟩
    have nks := ks.n
    simp only [alloc_n] at nks
    simp (disch := first | assumption | omega | (simp only [LN] <;> omega) | (simp (disch := first | assumption | omega | (simp only [LN] <;> omega)) only [row_alloc, row_set, Keeps.row ks]; assumption)) only [Keeps.get ks, Keeps.row ks, W_block, P3, ↓reduceIte, reduceAdd, reduceEqDiff, reduceCtorEq, initFr, reduceLT, clsA, reduceLeDiff, reduceMul, reduceSub, reduceIte, fillLo (s := St0) rfl]
    refine callK (n72 _ rfl) ?_
    rintro _ K1 ⟨k1, rfl⟩
    have nk1 := k1.n
    try simp only [alloc_n] at nk1
    simp (disch := first | assumption | omega | (simp only [LN] <;> omega) | (simp (disch := first | assumption | omega | (simp only [LN] <;> omega)) only [row_alloc, row_set, Keeps.row ks, Keeps.row k1]; assumption)) only [Keeps.get ks, Keeps.get k1, Keeps.row ks, Keeps.row k1, W_block, P3, ↓reduceIte, reduceAdd, reduceEqDiff, reduceCtorEq, initFr, reduceLT, clsA, reduceLeDiff, reduceMul, reduceSub, reduceIte, GotV, ozz, ozz']
    refine hq2 _ _ ⟨_, by rw [hr]; simp (disch := first | assumption | omega | (simp only [LN] <;> omega) | (simp (disch := first | assumption | omega | (simp only [LN] <;> omega)) only [row_alloc, row_set, Keeps.row ks, Keeps.row k1]; assumption)) only [Keeps.get ks, Keeps.get k1, Keeps.row ks, Keeps.row k1, W_block, P3, ↓reduceIte, reduceAdd, reduceEqDiff, reduceCtorEq, initFr, reduceLT, clsA, reduceLeDiff, reduceMul, reduceSub, reduceIte, ozz, ozz']; rfl, by ((repeat (first | exact Keeps.refl _ | assumption | refine Keeps.alloc ?_ _ | (refine Keeps.set ?_ (by first | omega | (simp only [alloc_n, set_n] <;> omega)) (by first | omega | (simp only [alloc_n, set_n] <;> omega)) _) | (refine Keeps.trans' (by assumption) ?_)))), ?_⟩
    simp only [geLo, hf]
    rfl
  · have hn0 := k.n
    simp only [alloc_n] at hn0
    have hlb := bd_le hl
    have hrl : H.n + 1 ≤ r := r0.1
    have c0 := Chg.refl [r] K0
    simp (disch := first | assumption | omega | (simp only [LN] <;> omega) | (simp (disch := first | assumption | omega | (simp only [LN] <;> omega)) only [row_alloc, row_set]; assumption)) only [W_block, P3, ↓reduceIte, reduceAdd, reduceEqDiff, reduceCtorEq, initFr, reduceLT, clsA, reduceLeDiff, reduceMul, reduceSub, reduceIte]
    refine callK (q64 r0 hlb) ?_
    rintro _ K1 ⟨rfl, r1, e1⟩
    have c1 := Chg1.tr c0 e1
    simp (disch := first | assumption | omega | (simp only [LN] <;> omega) | (simp (disch := first | assumption | omega | (simp only [LN] <;> omega)) only [row_alloc, row_set]; assumption)) only [W_block, P3, ↓reduceIte, reduceAdd, reduceEqDiff, reduceCtorEq, initFr, reduceLT, clsA, reduceLeDiff, reduceMul, reduceSub, reduceIte]
    refine callK (q64 r1 hlb) ?_
    rintro _ K2 ⟨rfl, r2, e2⟩
    have c2 := Chg1.tr c1 e2
    simp (disch := first | assumption | omega | (simp only [LN] <;> omega) | (simp (disch := first | assumption | omega | (simp only [LN] <;> omega)) only [row_alloc, row_set]; assumption)) only [W_block, P3, ↓reduceIte, reduceAdd, reduceEqDiff, reduceCtorEq, initFr, reduceLT, clsA, reduceLeDiff, reduceMul, reduceSub, reduceIte]
    refine callK (t70 r2 hlb) ?_
    rintro _ K3 ⟨rfl, r3, e3⟩
    have c3 := Chg1.tr c2 e3
    simp (disch := first | assumption | omega | (simp only [LN] <;> omega) | (simp (disch := first | assumption | omega | (simp only [LN] <;> omega)) only [row_alloc, row_set]; assumption)) only [W_block, P3, ↓reduceIte, reduceAdd, reduceEqDiff, reduceCtorEq, initFr, reduceLT, clsA, reduceLeDiff, reduceMul, reduceSub, reduceIte, fillLo (s := deSt (bd b) (0 + 8 + 8)) (tmr_len _ _)]
    refine callK (t72 r3 (frm 4 b) ⟨sg (na (bd b) 0 8), sg (na (bd b) (0 + 8) 8), deSt (bd b) (0 + 8 + 8)⟩ (tmr_len _ _)) ?_
    rintro _ K ⟨k6, rfl⟩
    have cc := Chg1.tr c3 (Chg1.kp k6)
    have n6 := cc.n
    have g6 : K.get H.n = some (.cells true false 70 Z70 57) := by
      rw [Chg1.get cc (by omega) (by omega), k.get _ (by rw [alloc_n]; omega)]; exact g0
    have p6 := AHeap.get_lt g6
    have kk : ∀ o, Keeps H (K.set H.n o) := fun o => ⟨by rw [set_n]; omega, fun y hy => by
      rw [AHeap.get_set_other _ (by omega) p6, Chg1.get cc (by omega) (by omega), k.get _ (by rw [alloc_n]; omega)]; exact k0.get _ hy⟩
    have ed : (⟨sg (na (bd b) 0 8), sg (na (bd b) (0 + 8) 8), deSt (bd b) (0 + 8 + 8)⟩ : Lo) = deLo (bd b) := rfl
    rw [ed]
    by_cases hc : frm 4 b = true ∧ (bd b).length = 0 + 8 + 8 + 92 ∧ okLo (deLo (bd b)) = true
    · rw [if_pos hc]
      have ge : geLo b = some (deLo (bd b)) := by unfold geLo pdLo; rw [if_pos hc.1, if_pos hc.2]
      have lx := cLo_len (x := deLo (bd b)) (tmr_len _ _)
      have ox := cLo_one (deLo (bd b))
      simp (disch := first | assumption | omega | (simp only [LN] <;> omega) | (simp (disch := first | assumption | omega | (simp only [LN] <;> omega)) only [row_alloc, row_set]; assumption)) only [W_block, P3, ↓reduceIte, reduceAdd, reduceEqDiff, reduceCtorEq, initFr, reduceLT, clsA, reduceLeDiff, reduceMul, reduceSub, reduceIte, GotV, g6, ox, ozz]
      refine hq2 _ _ ⟨_, by rw [hr]; simp (disch := first | assumption | omega | (simp only [LN] <;> omega) | (simp (disch := first | assumption | omega | (simp only [LN] <;> omega)) only [row_alloc, row_set]; assumption)) only [W_block, P3, ↓reduceIte, reduceAdd, reduceEqDiff, reduceCtorEq, initFr, reduceLT, clsA, reduceLeDiff, reduceMul, reduceSub, reduceIte, g6, ox, ozz]; rfl, kk _, ?_⟩
      rw [ge]; rfl
    · rw [if_neg hc]
      have ge : geLo b = none := by
        unfold geLo pdLo
        split
        · rename_i hf
          rw [if_neg (fun h => hc ⟨hf, h⟩)]
        · rfl
      simp (disch := first | assumption | omega | (simp only [LN] <;> omega) | (simp (disch := first | assumption | omega | (simp only [LN] <;> omega)) only [row_alloc, row_set]; assumption)) only [W_block, P3, ↓reduceIte, reduceAdd, reduceEqDiff, reduceCtorEq, initFr, reduceLT, clsA, reduceLeDiff, reduceMul, reduceSub, reduceIte, GotV, g6, ozz, ozz']
      refine hq2 _ _ ⟨_, by rw [hr]; simp (disch := first | assumption | omega | (simp only [LN] <;> omega) | (simp (disch := first | assumption | omega | (simp only [LN] <;> omega)) only [row_alloc, row_set]; assumption)) only [W_block, P3, ↓reduceIte, reduceAdd, reduceEqDiff, reduceCtorEq, initFr, reduceLT, clsA, reduceLeDiff, reduceMul, reduceSub, reduceIte, g6, ozz, ozz']; rfl, kk _, ?_⟩
      rw [ge]; rfl
end Go.AM.Fd

set_option linter.unusedSimpArgs false
set_option linter.unusedVariables false
namespace Go.AM.Fd
open Nat (reduceAdd reduceEqDiff reduceLT reduceLeDiff reduceMul reduceSub)
open Go.Proofs Go.AM.F
theorem fillLi (f t : Nat) (q k : Int) : fillA [.int .u8 0, .int .u8 0, .int .i64 0, .int .i64 0, .slice none 0 0] [(0, 1, .int .u8 (f : Nat)), (1, 1, .int .u8 (t : Nat)), (2, 1, .int .i64 q), (3, 1, .int .i64 k)] = some (cLi (.slice none 0 0) ⟨f, t, q, k, []⟩) := rfl
def LiR (H H' : AHeap) (w : Value) (o : Option Li) : Prop := ∃ vb, Fresh H.n vb ∧ match o with
  | some x => w = GotV (cLi vb x) 0 ∧ AP H' 5 1 vb x.B.length (cellsOf x.B)
  | none => w = GotV (cLi (.slice none 0 0) Li0) 130
theorem t24 {H : AHeap} {v : Value} {b : List UInt8} (hb : BQ H v b) (hl : b.length ≤ 1000000000) : ∃ w H', ARun Go.Proofs.Try.prog 0 24 [v] H w H' ∧ Keeps H H' ∧ LiR H H' w (geLi b) := by
  refine walk2 f24_ok f24_n ?_
  intro Q hq1 hq2
  have hr : ∀ fr H', resO f24.res fr H' = (celln 5 (fr.getD 1 undef) H').map fun c => .tuple #[c, fr.getD 2 undef] := fun fr H' => resCT 5 1 2 fr
  have k0 := (Keeps.refl H).alloc (.cells true false 5 (cLi (.slice none 0 0) Li0) 65)
  have g0 := AHeap.get_alloc_new H (.cells true false 5 (cLi (.slice none 0 0) Li0) 65)
  have lz : (cLi (.slice none 0 0) Li0).length = 5 := rfl
  have ozz : (cLi (.slice none 0 0) Li0).all Value.oneCell' = true := rfl
  simp (disch := first | assumption | omega | (simp only [LN] <;> omega) | (simp (disch := first | assumption | omega | (simp only [LN] <;> omega)) only [row_alloc, row_set]; assumption)) only [f24, W_block, P3, ↓reduceIte, reduceAdd, reduceEqDiff, reduceCtorEq, initFr, reduceLT, clsA, reduceLeDiff, reduceMul, reduceSub, reduceIte, ozz]
  refine callK (t62 (hb.keeps (by ((repeat (first | exact Keeps.refl _ | assumption | refine Keeps.alloc ?_ _ | (refine Keeps.set ?_ (by first | omega | (simp only [alloc_n, set_n] <;> omega)) (by first | omega | (simp only [alloc_n, set_n] <;> omega)) _) | (refine Keeps.trans' (by assumption) ?_)))))) 5 (by omega) hl) ?_
  rintro _ K0 ⟨k, ⟨rfl, rfl, hf⟩ | ⟨r, rfl, r0⟩⟩
  · simp (disch := first | assumption | omega | (simp only [LN] <;> omega) | (simp (disch := first | assumption | omega | (simp only [LN] <;> omega)) only [row_alloc, row_set]; assumption)) only [W_block, P3, ↓reduceIte, reduceAdd, reduceEqDiff, reduceCtorEq, initFr, reduceLT, clsA, reduceLeDiff, reduceMul, reduceSub, reduceIte]
    refine callK (n63 _) ?_
    rintro _ _ ⟨rfl, rfl⟩
    simp (disch := first | assumption | omega | (simp only [LN] <;> omega) | (simp (disch := first | assumption | omega | (simp only [LN] <;> omega)) only [row_alloc, row_set]; assumption)) only [W_block, P3, ↓reduceIte, reduceAdd, reduceEqDiff, reduceCtorEq, initFr, reduceLT, clsA, reduceLeDiff, reduceMul, reduceSub, reduceIte]
    refine callK (n63 _) ?_
    rintro _ _ ⟨rfl, rfl⟩
    simp (disch := first | assumption | omega | (simp only [LN] <;> omega) | (simp (disch := first | assumption | omega | (simp only [LN] <;> omega)) only [row_alloc, row_set]; assumption)) only [W_block, P3, ↓reduceIte, reduceAdd, reduceEqDiff, reduceCtorEq, initFr, reduceLT, clsA, reduceLeDiff, reduceMul, reduceSub, reduceIte]
    refine callK (n64 _) ?_
    rintro _ _ ⟨rfl, rfl⟩
    simp (disch := first | assumption | omega | (simp only [LN] <;> omega) | (simp (disch := first | assumption | omega | (simp only [LN] <;> omega)) only [row_alloc, row_set]; assumption)) only [W_block, P3, ↓reduceIte, reduceAdd, reduceEqDiff, reduceCtorEq, initFr, reduceLT, clsA, reduceLeDiff, reduceMul, reduceSub, reduceIte]
    refine callK (n64 _) ?_
    rintro _ _ ⟨rfl, rfl⟩
    have f2 := fillLi 0 0 (IntKind.i64.wrap 0) (IntKind.i64.wrap 0)
    simp only [Int.natCast_zero] at f2
    simp (disch := first | assumption | omega | (simp only [LN] <;> omega) | (simp (disch := first | assumption | omega | (simp only [LN] <;> omega)) only [row_alloc, row_set]; assumption)) only [W_block, P3, ↓reduceIte, reduceAdd, reduceEqDiff, reduceCtorEq, initFr, reduceLT, clsA, reduceLeDiff, reduceMul, reduceSub, reduceIte, f2, cLi]
    refine callK (n75 _) ?_
    rintro _ _ ⟨rfl, rfl⟩
    simp (disch := first | assumption | omega | (simp only [LN] <;> omega) | (simp (disch := first | assumption | omega | (simp only [LN] <;> omega)) only [row_alloc, row_set]; assumption)) only [W_block, P3, ↓reduceIte, reduceAdd, reduceEqDiff, reduceCtorEq, initFr, reduceLT, clsA, reduceLeDiff, reduceMul, reduceSub, reduceIte]
    refine callK (n74 _ _) ?_
    rintro _ _ ⟨rfl, rfl⟩
    simp (disch := first | assumption | omega | (simp only [LN] <;> omega) | (simp (disch := first | assumption | omega | (simp only [LN] <;> omega)) only [row_alloc, row_set]; assumption)) only [W_block, P3, ↓reduceIte, reduceAdd, reduceEqDiff, reduceCtorEq, initFr, reduceLT, clsA, reduceLeDiff, reduceMul, reduceSub, reduceIte]
    refine callK (t73 (BS.nil _) (by simp)) ?_
    rintro v2 K2 ⟨a2, k2, fr2⟩
    have n2 := k2.n
    simp only [alloc_n] at n2
    have ho2 : v2.oneCell' = true := by obtain ⟨a, rfl⟩ := a2.shape; rfl
    have fb2 := Fresh.tb fr2
    simp only [alloc_n] at fb2
    simp (disch := first | assumption | omega | (simp only [LN] <;> omega) | (simp (disch := first | assumption | omega | (simp only [LN] <;> omega)) only [row_alloc, row_set, Keeps.row k2]; assumption)) only [Keeps.get k2, Keeps.row k2, W_block, P3, ↓reduceIte, reduceAdd, reduceEqDiff, reduceCtorEq, initFr, reduceLT, clsA, reduceLeDiff, reduceMul, reduceSub, reduceIte, cLi, ho2]
    refine callK (n76 ⟨0, 0, IntKind.i64.wrap 0, IntKind.i64.wrap 0, []⟩ (a2.bs.chgT (Chg.set K2 (show H.n + 1 < K2.n by omega) _) (fun y hy => by have := fb2 y hy; simp; omega))) ?_
    rintro _ K3 ⟨k3, rfl⟩
    have n3 := k3.n
    simp only [set_n] at n3
    have p3 : H.n + 1 < K2.n := by omega
    have kq : ∀ o, Keeps H (K3.set H.n o) := fun o => ⟨by rw [set_n]; omega, fun y hy => by
      rw [AHeap.get_set_other _ (by omega) (by omega), k3.get _ (by rw [set_n]; omega), AHeap.get_set_other _ (by omega) p3, k2.get _ (by simp only [alloc_n]; omega), AHeap.get_alloc_old _ _ (by rw [alloc_n]; omega), AHeap.get_alloc_old _ _ hy]⟩
    simp (disch := first | assumption | omega | (simp only [LN] <;> omega) | (simp (disch := first | assumption | omega | (simp only [LN] <;> omega)) only [row_alloc, row_set, Keeps.row k3, Keeps.row k2]; assumption)) only [Keeps.get k3, Keeps.get k2, Keeps.row k3, Keeps.row k2, W_block, P3, ↓reduceIte, reduceAdd, reduceEqDiff, reduceCtorEq, initFr, reduceLT, clsA, reduceLeDiff, reduceMul, reduceSub, reduceIte, GotV, cLi]
    refine hq2 _ _ ⟨_, by rw [hr]; simp (disch := first | assumption | omega | (simp only [LN] <;> omega) | (simp (disch := first | assumption | omega | (simp only [LN] <;> omega)) only [row_alloc, row_set, Keeps.row k3, Keeps.row k2]; assumption)) only [Keeps.get k3, Keeps.get k2, Keeps.row k3, Keeps.row k2, W_block, P3, ↓reduceIte, reduceAdd, reduceEqDiff, reduceCtorEq, initFr, reduceLT, clsA, reduceLeDiff, reduceMul, reduceSub, reduceIte, cLi]; rfl, kq _, ?_⟩
    refine ⟨.slice none 0 0, fun b hb => (by cases hb), ?_⟩
    have ge : geLi b = none := by unfold geLi; rw [hf]; rfl
    rw [ge]
    rfl
  · have hn0 := k.n
    simp only [alloc_n] at hn0
    have hlb := bd_le hl
    have hrl : H.n + 1 ≤ r := r0.1
    have hrk : r < K0.n := r0.2.1
    have c0 := Chg.refl [r] K0
    simp (disch := first | assumption | omega | (simp only [LN] <;> omega) | (simp (disch := first | assumption | omega | (simp only [LN] <;> omega)) only [row_alloc, row_set]; assumption)) only [W_block, P3, ↓reduceIte, reduceAdd, reduceEqDiff, reduceCtorEq, initFr, reduceLT, clsA, reduceLeDiff, reduceMul, reduceSub, reduceIte]
    refine callK (q63 r0 hlb) ?_
    rintro _ K1 ⟨rfl, r1, e1⟩
    have c1 := Chg1.tr c0 e1
    simp (disch := first | assumption | omega | (simp only [LN] <;> omega) | (simp (disch := first | assumption | omega | (simp only [LN] <;> omega)) only [row_alloc, row_set]; assumption)) only [W_block, P3, ↓reduceIte, reduceAdd, reduceEqDiff, reduceCtorEq, initFr, reduceLT, clsA, reduceLeDiff, reduceMul, reduceSub, reduceIte]
    refine callK (q63 r1 hlb) ?_
    rintro _ K2 ⟨rfl, r2, e2⟩
    have c2 := Chg1.tr c1 e2
    simp (disch := first | assumption | omega | (simp only [LN] <;> omega) | (simp (disch := first | assumption | omega | (simp only [LN] <;> omega)) only [row_alloc, row_set]; assumption)) only [W_block, P3, ↓reduceIte, reduceAdd, reduceEqDiff, reduceCtorEq, initFr, reduceLT, clsA, reduceLeDiff, reduceMul, reduceSub, reduceIte]
    refine callK (q64 r2 hlb) ?_
    rintro _ K3 ⟨rfl, r3, e3⟩
    have c3 := Chg1.tr c2 e3
    simp (disch := first | assumption | omega | (simp only [LN] <;> omega) | (simp (disch := first | assumption | omega | (simp only [LN] <;> omega)) only [row_alloc, row_set]; assumption)) only [W_block, P3, ↓reduceIte, reduceAdd, reduceEqDiff, reduceCtorEq, initFr, reduceLT, clsA, reduceLeDiff, reduceMul, reduceSub, reduceIte]
    refine callK (q64 r3 hlb) ?_
    rintro _ K4 ⟨rfl, r4, e4⟩
    have c4 := Chg1.tr c3 e4
    have n4 := c4.n
    simp (disch := first | assumption | omega | (simp only [LN] <;> omega) | (simp (disch := first | assumption | omega | (simp only [LN] <;> omega)) only [row_alloc, row_set]; assumption)) only [W_block, P3, ↓reduceIte, reduceAdd, reduceEqDiff, reduceCtorEq, initFr, reduceLT, clsA, reduceLeDiff, reduceMul, reduceSub, reduceIte, fillLi]
    have o4 : (cLi (.slice none 0 0) ⟨na (bd b) 0 1, na (bd b) (0 + 1) 1, IntKind.i64.wrap (na (bd b) (0 + 1 + 1) 8), IntKind.i64.wrap (na (bd b) (0 + 1 + 1 + 8) 8), []⟩).all Value.oneCell' = true := rfl
    have l4 : (cLi (.slice none 0 0) ⟨na (bd b) 0 1, na (bd b) (0 + 1) 1, IntKind.i64.wrap (na (bd b) (0 + 1 + 1) 8), IntKind.i64.wrap (na (bd b) (0 + 1 + 1 + 8) 8), []⟩).length = 5 := rfl
    simp (disch := first | assumption | omega | (simp only [LN] <;> omega) | (simp (disch := first | assumption | omega | (simp only [LN] <;> omega)) only [row_alloc, row_set]; assumption)) only [W_block, P3, ↓reduceIte, reduceAdd, reduceEqDiff, reduceCtorEq, initFr, reduceLT, clsA, reduceLeDiff, reduceMul, reduceSub, reduceIte, o4]
    obtain ⟨Kb, hKb⟩ : ∃ X, X = K4.alloc (.cells true false 5 (cLi (.slice none 0 0) ⟨na (bd b) 0 1, na (bd b) (0 + 1) 1, IntKind.i64.wrap (na (bd b) (0 + 1 + 1) 8), IntKind.i64.wrap (na (bd b) (0 + 1 + 1 + 8) 8), []⟩) 65) := ⟨_, rfl⟩
    have kb := (Keeps.refl K4).alloc (.cells true false 5 (cLi (.slice none 0 0) ⟨na (bd b) 0 1, na (bd b) (0 + 1) 1, IntKind.i64.wrap (na (bd b) (0 + 1 + 1) 8), IntKind.i64.wrap (na (bd b) (0 + 1 + 1 + 8) 8), []⟩) 65)
    have gb := AHeap.get_alloc_new K4 (.cells true false 5 (cLi (.slice none 0 0) ⟨na (bd b) 0 1, na (bd b) (0 + 1) 1, IntKind.i64.wrap (na (bd b) (0 + 1 + 1) 8), IntKind.i64.wrap (na (bd b) (0 + 1 + 1 + 8) 8), []⟩) 65)
    rw [← hKb] at kb gb ⊢
    have nb := kb.n
    have lb := AHeap.get_lt gb
    refine callK (q75 (r4.keeps kb) hlb) ?_
    rintro _ K5 ⟨rfl, r5, c5⟩
    have n5 := c5.n
    have hs2 := na2 (bd b) (0 + 1 + 1 + 8 + 8)
    have hw : IntKind.i64.wrap (na (bd b) (0 + 1 + 1 + 8 + 8) 2 : Nat) = (na (bd b) (0 + 1 + 1 + 8 + 8) 2 : Nat) := wrap_i64 (by omega) (by omega)
    simp (disch := first | assumption | omega | (simp only [LN] <;> omega) | (simp (disch := first | assumption | omega | (simp only [LN] <;> omega)) only [row_alloc, row_set]; assumption)) only [W_block, P3, ↓reduceIte, reduceAdd, reduceEqDiff, reduceCtorEq, initFr, reduceLT, clsA, reduceLeDiff, reduceMul, reduceSub, reduceIte, hw]
    refine callK (q74 r5 (na (bd b) (0 + 1 + 1 + 8 + 8) 2) hlb) ?_
    rintro v6 K6 ⟨B6, r6, c6, h6⟩
    have n6 := c6.n
    have hsl : (seg (bd b) (0 + 1 + 1 + 8 + 8 + 2) (na (bd b) (0 + 1 + 1 + 8 + 8) 2)).length ≤ 65536 := by
      unfold seg
      split
      · simp
      · rw [List.length_take]; omega
    simp (disch := first | assumption | omega | (simp only [LN] <;> omega) | (simp (disch := first | assumption | omega | (simp only [LN] <;> omega)) only [row_alloc, row_set]; assumption)) only [W_block, P3, ↓reduceIte, reduceAdd, reduceEqDiff, reduceCtorEq, initFr, reduceLT, clsA, reduceLeDiff, reduceMul, reduceSub, reduceIte]
    refine callK (t73 B6 (by omega)) ?_
    rintro v7 K7 ⟨a7, k7, f7⟩
    have n7 := k7.n
    have fb7 := Fresh.tb f7
    have ho7 : v7.oneCell' = true := by obtain ⟨a, rfl⟩ := a7.shape; rfl
    have g7 : K7.get K4.n = some (.cells true false 5 (cLi (.slice none 0 0) ⟨na (bd b) 0 1, na (bd b) (0 + 1) 1, IntKind.i64.wrap (na (bd b) (0 + 1 + 1) 8), IntKind.i64.wrap (na (bd b) (0 + 1 + 1 + 8) 8), []⟩) 65) := by
      rw [k7.get _ (by omega), Chg1.get c6 (by omega) (by omega), Chg1.get c5 (by omega) (by omega)]; exact gb
    have p7 := AHeap.get_lt g7
    simp (disch := first | assumption | omega | (simp only [LN] <;> omega) | (simp (disch := first | assumption | omega | (simp only [LN] <;> omega)) only [row_alloc, row_set]; assumption)) only [W_block, P3, ↓reduceIte, reduceAdd, reduceEqDiff, reduceCtorEq, initFr, reduceLT, clsA, reduceLeDiff, reduceMul, reduceSub, reduceIte, g7, cLi, ho7]
    have q7 : ∀ o, Chg [K4.n] K7 (K7.set K4.n o) := fun o => Chg.set K7 p7 o
    have R8 := fun o => (r6.keeps k7).chg (q7 o) (.inr (by omega))
    have B8 := fun o => a7.bs.chgT (q7 o) (fun y hy => by have := fb7 y hy; simp; omega)
    refine callK (t76 (R8 _) (frm 5 b) (deLi (bd b)) (B8 _)) ?_
    rintro _ K ⟨k8, rfl⟩
    have n8 := k8.n
    simp only [set_n] at n8
    have hget : ∀ y, y < K0.n → y ≠ r → K.get y = K0.get y := fun y hy hr' => by
      rw [k8.get _ (by rw [set_n]; omega), AHeap.get_set_other _ (by omega) p7, k7.get _ (by omega), Chg1.get c6 (by omega) hr', Chg1.get c5 (by omega) hr', kb.get _ (by omega), Chg1.get c4 hy hr']
    have g8 : K.get H.n = some (.cells true false 5 (cLi (.slice none 0 0) Li0) 65) := by
      rw [hget _ (by omega) (by omega), k.get _ (by rw [alloc_n]; omega)]; exact g0
    have p8 := AHeap.get_lt g8
    have a8 : AP K 5 1 v7 (deLi (bd b)).B.length (cellsOf (deLi (bd b)).B) := a7.chg ((q7 _).trans (k8.chg [K4.n]) (fun x hx => .inl hx)) (fun y hy => by have := f7 y (mem_blkL.1 hy); simp; omega)
    have kk : ∀ o, Keeps H (K.set H.n o) := fun o => ⟨by rw [set_n]; omega, fun y hy => by
      rw [AHeap.get_set_other _ (by omega) p8, hget _ (by omega) (by omega), k.get _ (by rw [alloc_n]; omega)]; exact k0.get _ hy⟩
    have f8 : Fresh H.n v7 := fun y hy => by have := f7 y hy; omega
    by_cases hc : frm 5 b = true ∧ (bd b).length = 0 + 1 + 1 + 8 + 8 + 2 + na (bd b) (0 + 1 + 1 + 8 + 8) 2 ∧ okLi (deLi (bd b)) = true
    · rw [if_pos hc]
      have ge : geLi b = some (deLi (bd b)) := by
        unfold geLi pdLi
        rw [if_pos hc.1, if_pos ⟨by have := hc.2.1; simp only [Nat.zero_add] at this; exact this, hc.2.2⟩]
      have lx : (cLi v7 (deLi (bd b))).length = 5 := rfl
      have ox : (cLi v7 (deLi (bd b))).all Value.oneCell' = true := by simp only [cLi, List.all_cons, List.all_nil, ho7]; rfl
      simp (disch := first | assumption | omega | (simp only [LN] <;> omega) | (simp (disch := first | assumption | omega | (simp only [LN] <;> omega)) only [row_alloc, row_set]; assumption)) only [W_block, P3, ↓reduceIte, reduceAdd, reduceEqDiff, reduceCtorEq, initFr, reduceLT, clsA, reduceLeDiff, reduceMul, reduceSub, reduceIte, GotV, g8, ox, lx]
      refine hq2 _ _ ⟨_, by rw [hr]; simp (disch := first | assumption | omega | (simp only [LN] <;> omega) | (simp (disch := first | assumption | omega | (simp only [LN] <;> omega)) only [row_alloc, row_set]; assumption)) only [W_block, P3, ↓reduceIte, reduceAdd, reduceEqDiff, reduceCtorEq, initFr, reduceLT, clsA, reduceLeDiff, reduceMul, reduceSub, reduceIte, g8, ox, lx]; rfl, kk _, v7, f8, ?_⟩
      rw [ge]
      exact ⟨rfl, a8.chg (Chg.set K p8 _) (fun y hy => by have := f7 y (mem_blkL.1 hy); simp; omega)⟩
    · rw [if_neg hc]
      have ge : geLi b = none := by
        unfold geLi pdLi
        split
        · rename_i hf
          rw [if_neg (fun h => hc ⟨hf, by have := h.1; simp only [Nat.zero_add]; exact this, h.2⟩)]
        · rfl
      simp (disch := first | assumption | omega | (simp only [LN] <;> omega) | (simp (disch := first | assumption | omega | (simp only [LN] <;> omega)) only [row_alloc, row_set]; assumption)) only [W_block, P3, ↓reduceIte, reduceAdd, reduceEqDiff, reduceCtorEq, initFr, reduceLT, clsA, reduceLeDiff, reduceMul, reduceSub, reduceIte, GotV, g8, ozz, lz]
      refine hq2 _ _ ⟨_, by rw [hr]; simp (disch := first | assumption | omega | (simp only [LN] <;> omega) | (simp (disch := first | assumption | omega | (simp only [LN] <;> omega)) only [row_alloc, row_set]; assumption)) only [W_block, P3, ↓reduceIte, reduceAdd, reduceEqDiff, reduceCtorEq, initFr, reduceLT, clsA, reduceLeDiff, reduceMul, reduceSub, reduceIte, g8, ozz, lz]; rfl, kk _, .slice none 0 0, fun b hb => (by cases hb), ?_⟩
      rw [ge]
      rfl
end Go.AM.Fd

set_option linter.unusedSimpArgs false
set_option linter.unusedVariables false
namespace Go.AM.Fd
open Nat (reduceAdd reduceEqDiff reduceLT reduceLeDiff reduceMul reduceSub)
open Go.Proofs Go.AM.F
theorem RR.gc {P : Program} {ng : Nat} {f : FuncId} {args : List Value} {H H' : AHeap} {lo hi r s s' : Nat} {l : List UInt8} {k : IntKind} {n : Int} (h : RR H lo hi r l s) (a : ARun P ng f args H (.int k n) H') (h' : RR H' lo hi r l s') (c : Chg [r] H H') :
    ∃ o, ARun P ng f args H (.int k n) (H.set r o) ∧ RR (H.set r o) lo hi r l s' := by
  obtain ⟨h1, h2, h3, bv, h4, h5, v0, g0, _⟩ := h
  obtain ⟨_, _, h3', bv', h4', h5', v', g', hv'⟩ := h'
  have gs : (H.set r (.cells true false 2 [v', .bool (decide (l.length < s'))] 171)).get r = some (.cells true false 2 [v', .bool (decide (l.length < s'))] 171) := AHeap.get_set_same g0 _
  have hrn := AHeap.get_lt g0
  have old : ∀ b, b ≠ r → (H.set r (.cells true false 2 [v', .bool (decide (l.length < s'))] 171)).get b = H.get b := fun b hb => AHeap.get_set_other _ hb hrn _
  refine ⟨.cells true false 2 [v', .bool (decide (l.length < s'))] 171, ?_, h1, h2, h3, bv', h4', h5', v', gs, ?_⟩
  · refine a.gcs [] rfl (by simp) (by simp) ?_ (by simp) (.inr (.int _ _))
    intro b o' hb ho
    by_cases hbr : b = r
    · subst hbr
      rw [g'] at ho; cases ho
      refine .inr ⟨_, gs, true, _, rfl, fun x => x, .cons ?_ (.cons (.bool _) .nil)⟩
      rcases hv' with ⟨rfl, _⟩ | ⟨o, c2, rm, rfl, _⟩
      · exact .nilSl
      · exact .sl (rho_old (by omega))
    · rw [Chg1.get c hb hbr] at ho
      exact .inl ⟨ho, by rw [old b hbr]; exact ho⟩
  · rcases hv' with ⟨rfl, e1, e2⟩ | ⟨o, c2, rm, rfl, e1, e2, e3, e4⟩
    · exact .inl ⟨rfl, e1, e2⟩
    · exact .inr ⟨o, c2, rm, rfl, by rw [old _ e2, ← Chg1.get c (by omega) e2]; exact e1, e2, e3, e4⟩
section
variable {H : AHeap} {lo hi r s : Nat} {l : List UInt8}
theorem e63 (h : RR H lo hi r l s) (hl : l.length ≤ 1000000000) : ∃ v H', ARun Go.Proofs.Try.prog 0 63 [ptr r 0] H v H' ∧ v = .int .u8 (na l s 1 : Nat) ∧ ∃ o, H' = H.set r o ∧ RR (H.set r o) lo hi r l (s + 1) := by
  obtain ⟨_, H', a, rfl, b, c⟩ := q63 h hl
  obtain ⟨o, p, q⟩ := h.gc a b c
  exact ⟨_, _, p, rfl, o, rfl, q⟩
theorem e75 (h : RR H lo hi r l s) (hl : l.length ≤ 1000000000) : ∃ v H', ARun Go.Proofs.Try.prog 0 75 [ptr r 0] H v H' ∧ v = .int .u16 (na l s 2 : Nat) ∧ ∃ o, H' = H.set r o ∧ RR (H.set r o) lo hi r l (s + 2) := by
  obtain ⟨_, H', a, rfl, b, c⟩ := q75 h hl
  obtain ⟨o, p, q⟩ := h.gc a b c
  exact ⟨_, _, p, rfl, o, rfl, q⟩
theorem e65 (h : RR H lo hi r l s) (hl : l.length ≤ 1000000000) : ∃ v H', ARun Go.Proofs.Try.prog 0 65 [ptr r 0] H v H' ∧ v = .int .u32 (na l s 4 : Nat) ∧ ∃ o, H' = H.set r o ∧ RR (H.set r o) lo hi r l (s + 4) := by
  obtain ⟨_, H', a, rfl, b, c⟩ := q65 h hl
  obtain ⟨o, p, q⟩ := h.gc a b c
  exact ⟨_, _, p, rfl, o, rfl, q⟩
theorem e64 (h : RR H lo hi r l s) (hl : l.length ≤ 1000000000) : ∃ v H', ARun Go.Proofs.Try.prog 0 64 [ptr r 0] H v H' ∧ v = .int .u64 (na l s 8 : Nat) ∧ ∃ o, H' = H.set r o ∧ RR (H.set r o) lo hi r l (s + 8) := by
  obtain ⟨_, H', a, rfl, b, c⟩ := q64 h hl
  obtain ⟨o, p, q⟩ := h.gc a b c
  exact ⟨_, _, p, rfl, o, rfl, q⟩
theorem RR.alloc (h : RR H lo hi r l s) (o : AO) : RR (H.alloc o) lo hi r l s := h.keeps ((Keeps.refl H).alloc o)
theorem RR.upto {H' : AHeap} (h : RR H lo hi r l s) (hn : H.n ≤ H'.n) (k : ∀ y, y < hi → H'.get y = H.get y) : RR H' lo hi r l s := by
  obtain ⟨h1, h2, h3, bv, h4, h5, v, g, hv⟩ := h
  refine ⟨h1, h2, by omega, bv, h4, h5, v, by rw [k _ h2]; exact g, ?_⟩
  rcases hv with h | ⟨o, c, rm, e0, e1, e2⟩
  · exact .inl h
  · exact .inr ⟨o, c, rm, e0, by rw [k _ h5]; exact e1, e2⟩
theorem RR.lt (h : RR H lo hi r l s) : r < H.n := Nat.lt_of_lt_of_le h.2.1 h.2.2.1
theorem RR.set (h : RR H lo hi r l s) {b : Nat} (hb : hi ≤ b) (hn : b < H.n) (o : AO) : RR (H.set b o) lo hi r l s := h.chg (Chg.set H hn o) (.inr hb)
end
theorem fill6 (ch : Nat) (cy : Int) (oc no re : Nat) (v : Value) : fillA [.int .u8 0, .int .i64 0, .int .u64 0, .int .u32 0, .int .u32 0, .slice none 0 0] [(0, 1, .int .u8 (ch : Nat)), (1, 1, .int .i64 cy), (2, 4, .agg #[.int .u64 (oc : Nat), .int .u32 (no : Nat), .int .u32 (re : Nat), .slice none 0 0])] = some (cI6 (.slice none 0 0) ⟨ch, cy, oc, no, re, []⟩) := rfl
theorem fill4 (oc no re : Nat) : fillA [.int .u64 0, .int .u32 0, .int .u32 0, .slice none 0 0] [(0, 1, .int .u64 (oc : Nat)), (1, 1, .int .u32 (no : Nat)), (2, 1, .int .u32 (re : Nat))] = some [.int .u64 (oc : Nat), .int .u32 (no : Nat), .int .u32 (re : Nat), .slice none 0 0] := rfl
theorem fillC (k : Nat) (n : Int) : fillA [.int .u8 0, .int .i64 0] [(0, 1, .int .u8 (k : Nat)), (1, 1, .int .i64 n)] = some [.int .u8 (k : Nat), .int .i64 n] := rfl
theorem fillP (x y : Int) : fillA [.int .u8 0, .int .i64 0] [(0, 2, .agg #[.int .u8 x, .int .i64 y])] = some [.int .u8 x, .int .i64 y] := rfl
def I6R (H H' : AHeap) (w : Value) (o : Option I6) : Prop := ∃ vc, Fresh H.n vc ∧ match o with
  | some x => w = GotV (cI6 vc x) 0 ∧ AP H' 108 2 vc x.cs.length (CC x.cs).flatten
  | none => w = GotV (cI6 (.slice none 0 0) I60) 130
theorem t12 {H : AHeap} {v : Value} {b : List UInt8} (hb : BQ H v b) (hl : b.length ≤ 1000000000) : ∃ w H', ARun Go.Proofs.Try.prog 0 12 [v] H w H' ∧ Keeps H H' ∧ I6R H H' w (geI6 b) := by
  refine walk2 f12_ok f12_n ?_
  intro Q hq1 hq2
  have hr : ∀ fr H', resO f12.res fr H' = (celln 6 (fr.getD 1 undef) H').map fun c => .tuple #[c, fr.getD 2 undef] := fun fr H' => resCT 6 1 2 fr
  have k0 := (Keeps.refl H).alloc (.cells true false 6 (cI6 (.slice none 0 0) I60) 30)
  have g0 := AHeap.get_alloc_new H (.cells true false 6 (cI6 (.slice none 0 0) I60) 30)
  have lz : (cI6 (.slice none 0 0) I60).length = 6 := rfl
  have ozz : (cI6 (.slice none 0 0) I60).all Value.oneCell' = true := rfl
  simp (disch := first | assumption | omega | (simp only [LN] <;> omega) | (simp (disch := first | assumption | omega | (simp only [LN] <;> omega)) only [row_alloc, row_set]; assumption)) only [f12, W_block, P3, ↓reduceIte, reduceAdd, reduceEqDiff, reduceCtorEq, initFr, reduceLT, clsA, reduceLeDiff, reduceMul, reduceSub, reduceIte, ozz]
  refine callK (t62 (hb.keeps (by ((repeat (first | exact Keeps.refl _ | assumption | refine Keeps.alloc ?_ _ | (refine Keeps.set ?_ (by first | omega | (simp only [alloc_n, set_n] <;> omega)) (by first | omega | (simp only [alloc_n, set_n] <;> omega)) _) | (refine Keeps.trans' (by assumption) ?_)))))) 1 (by omega) hl) ?_
  rintro _ K0 ⟨k, ⟨rfl, rfl, hf⟩ | ⟨r, rfl, r0⟩⟩
  · simp (disch := first | assumption | omega | (simp only [LN] <;> omega) | (simp (disch := first | assumption | omega | (simp only [LN] <;> omega)) only [row_alloc, row_set]; assumption)) only [W_block, P3, ↓reduceIte, reduceAdd, reduceEqDiff, reduceCtorEq, initFr, reduceLT, clsA, reduceLeDiff, reduceMul, reduceSub, reduceIte]
    refine callK (n63 _) ?_
    rintro _ _ ⟨rfl, rfl⟩
    simp (disch := first | assumption | omega | (simp only [LN] <;> omega) | (simp (disch := first | assumption | omega | (simp only [LN] <;> omega)) only [row_alloc, row_set]; assumption)) only [W_block, P3, ↓reduceIte, reduceAdd, reduceEqDiff, reduceCtorEq, initFr, reduceLT, clsA, reduceLeDiff, reduceMul, reduceSub, reduceIte]
    refine callK (n64 _) ?_
    rintro _ _ ⟨rfl, rfl⟩
    simp (disch := first | assumption | omega | (simp only [LN] <;> omega) | (simp (disch := first | assumption | omega | (simp only [LN] <;> omega)) only [row_alloc, row_set]; assumption)) only [W_block, P3, ↓reduceIte, reduceAdd, reduceEqDiff, reduceCtorEq, initFr, reduceLT, clsA, reduceLeDiff, reduceMul, reduceSub, reduceIte]
    refine callK (n64 _) ?_
    rintro _ _ ⟨rfl, rfl⟩
    simp (disch := first | assumption | omega | (simp only [LN] <;> omega) | (simp (disch := first | assumption | omega | (simp only [LN] <;> omega)) only [row_alloc, row_set]; assumption)) only [W_block, P3, ↓reduceIte, reduceAdd, reduceEqDiff, reduceCtorEq, initFr, reduceLT, clsA, reduceLeDiff, reduceMul, reduceSub, reduceIte]
    refine callK (n65 _) ?_
    rintro _ _ ⟨rfl, rfl⟩
    simp (disch := first | assumption | omega | (simp only [LN] <;> omega) | (simp (disch := first | assumption | omega | (simp only [LN] <;> omega)) only [row_alloc, row_set]; assumption)) only [W_block, P3, ↓reduceIte, reduceAdd, reduceEqDiff, reduceCtorEq, initFr, reduceLT, clsA, reduceLeDiff, reduceMul, reduceSub, reduceIte]
    refine callK (n65 _) ?_
    rintro _ _ ⟨rfl, rfl⟩
    have f4 := fill4 0 0 0
    have f6 := fill6 0 (IntKind.i64.wrap 0) 0 0 0 (.slice none 0 0)
    simp only [Int.natCast_zero] at f4 f6
    simp (disch := first | assumption | omega | (simp only [LN] <;> omega) | (simp (disch := first | assumption | omega | (simp only [LN] <;> omega)) only [row_alloc, row_set]; assumption)) only [W_block, P3, ↓reduceIte, reduceAdd, reduceEqDiff, reduceCtorEq, initFr, reduceLT, clsA, reduceLeDiff, reduceMul, reduceSub, reduceIte, f4, f6, cI6]
    refine callK (n63 _) ?_
    rintro _ _ ⟨rfl, rfl⟩
    simp (disch := first | assumption | omega | (simp only [LN] <;> omega) | (simp (disch := first | assumption | omega | (simp only [LN] <;> omega)) only [row_alloc, row_set]; assumption)) only [W_block, P3, ↓reduceIte, reduceAdd, reduceEqDiff, reduceCtorEq, initFr, reduceLT, clsA, reduceLeDiff, reduceMul, reduceSub, reduceIte]
    refine W_loop2 (fun q fr K => fr = [v, ptr H.n 0, .int .i64 0, .pointer none, .bool false, ptr (H.n + 1) 0, .int .u8 0, .int .u8 0, undef] ∧ K = (H.alloc (.cells true false 6 (cI6 (.slice none 0 0) I60) 30)).alloc (.cells true false 6 (cI6 (.slice none 0 0) I60) 30)) 0 ⟨rfl, rfl⟩ ?_
    rintro Q' q _ _ ⟨rfl, rfl⟩ hn' he hrt
    simp (disch := first | assumption | omega | (simp only [LN] <;> omega) | (simp (disch := first | assumption | omega | (simp only [LN] <;> omega)) only [row_alloc, row_set]; assumption)) only [W_block, P3, ↓reduceIte, reduceAdd, reduceEqDiff, reduceCtorEq, initFr, reduceLT, clsA, reduceLeDiff, reduceMul, reduceSub, reduceIte, ozz]
    refine he _ _ _ ?_
    simp (disch := first | assumption | omega | (simp only [LN] <;> omega) | (simp (disch := first | assumption | omega | (simp only [LN] <;> omega)) only [row_alloc, row_set]; assumption)) only [W_block, P3, ↓reduceIte, reduceAdd, reduceEqDiff, reduceCtorEq, initFr, reduceLT, clsA, reduceLeDiff, reduceMul, reduceSub, reduceIte, ozz, lz]
    refine callK (n66 I60 (Sl.nil _ _)) ?_
    rintro _ K3 ⟨k3, rfl⟩
    have n3 := k3.n
    simp only [alloc_n] at n3
    have g3 := AHeap.get_alloc_new H (.cells true false 6 (cI6 (.slice none 0 0) I60) 30)
    simp (disch := first | assumption | omega | (simp only [LN] <;> omega) | (simp (disch := first | assumption | omega | (simp only [LN] <;> omega)) only [row_alloc, row_set, Keeps.row k3]; assumption)) only [Keeps.get k3, Keeps.row k3, W_block, P3, ↓reduceIte, reduceAdd, reduceEqDiff, reduceCtorEq, initFr, reduceLT, clsA, reduceLeDiff, reduceMul, reduceSub, reduceIte, GotV, ozz, lz]
    refine hq2 _ _ ⟨_, by rw [hr]; simp (disch := first | assumption | omega | (simp only [LN] <;> omega) | (simp (disch := first | assumption | omega | (simp only [LN] <;> omega)) only [row_alloc, row_set, Keeps.row k3]; assumption)) only [Keeps.get k3, Keeps.row k3, W_block, P3, ↓reduceIte, reduceAdd, reduceEqDiff, reduceCtorEq, initFr, reduceLT, clsA, reduceLeDiff, reduceMul, reduceSub, reduceIte, ozz, lz]; rfl, ?_, .slice none 0 0, fun b hb => (by cases hb), ?_⟩
    · ((repeat (first | exact Keeps.refl _ | assumption | refine Keeps.alloc ?_ _ | (refine Keeps.set ?_ (by first | omega | (simp only [alloc_n, set_n] <;> omega)) (by first | omega | (simp only [alloc_n, set_n] <;> omega)) _) | (refine Keeps.trans' (by assumption) ?_))))
    · have ge : geI6 b = none := by unfold geI6; rw [hf]; rfl
      rw [ge]
      rfl
  · have hn0 := k.n
    simp only [alloc_n] at hn0
    have hlb := bd_le hl
    have hrl : H.n + 1 ≤ r := r0.1
    have hrk : r < K0.n := r0.2.1
    simp (disch := first | assumption | omega | (simp only [LN] <;> omega) | (simp (disch := first | assumption | omega | (simp only [LN] <;> omega)) only [row_alloc, row_set]; assumption)) only [W_block, P3, ↓reduceIte, reduceAdd, reduceEqDiff, reduceCtorEq, initFr, reduceLT, clsA, reduceLeDiff, reduceMul, reduceSub, reduceIte]
    refine callK (e63 r0 hlb) ?_
    rintro _ _ ⟨rfl, o1, rfl, r1⟩
    simp (disch := first | assumption | omega | (simp only [LN] <;> omega) | (simp (disch := first | assumption | omega | (simp only [LN] <;> omega)) only [row_alloc, row_set]; assumption)) only [W_block, P3, ↓reduceIte, reduceAdd, reduceEqDiff, reduceCtorEq, initFr, reduceLT, clsA, reduceLeDiff, reduceMul, reduceSub, reduceIte]
    refine callK (e64 r1 hlb) ?_
    rintro _ _ ⟨rfl, o2, rfl, r2⟩
    simp (disch := first | assumption | omega | (simp only [LN] <;> omega) | (simp (disch := first | assumption | omega | (simp only [LN] <;> omega)) only [row_alloc, row_set]; assumption)) only [W_block, P3, ↓reduceIte, reduceAdd, reduceEqDiff, reduceCtorEq, initFr, reduceLT, clsA, reduceLeDiff, reduceMul, reduceSub, reduceIte]
    rw [set_set] at r2
    refine callK (e64 r2 hlb) ?_
    rintro _ _ ⟨rfl, o3, rfl, r3⟩
    simp (disch := first | assumption | omega | (simp only [LN] <;> omega) | (simp (disch := first | assumption | omega | (simp only [LN] <;> omega)) only [row_alloc, row_set]; assumption)) only [W_block, P3, ↓reduceIte, reduceAdd, reduceEqDiff, reduceCtorEq, initFr, reduceLT, clsA, reduceLeDiff, reduceMul, reduceSub, reduceIte]
    rw [set_set] at r3
    refine callK (e65 r3 hlb) ?_
    rintro _ _ ⟨rfl, o4, rfl, r4⟩
    simp (disch := first | assumption | omega | (simp only [LN] <;> omega) | (simp (disch := first | assumption | omega | (simp only [LN] <;> omega)) only [row_alloc, row_set]; assumption)) only [W_block, P3, ↓reduceIte, reduceAdd, reduceEqDiff, reduceCtorEq, initFr, reduceLT, clsA, reduceLeDiff, reduceMul, reduceSub, reduceIte]
    rw [set_set] at r4
    refine callK (e65 r4 hlb) ?_
    rintro _ _ ⟨rfl, o5, rfl, r5⟩
    rw [set_set] at r5
    simp (disch := first | assumption | omega | (simp only [LN] <;> omega) | (simp (disch := first | assumption | omega | (simp only [LN] <;> omega)) only [row_alloc, row_set]; assumption)) only [W_block, P3, ↓reduceIte, reduceAdd, reduceEqDiff, reduceCtorEq, initFr, reduceLT, clsA, reduceLeDiff, reduceMul, reduceSub, reduceIte, fill4, fill6, cI6]
    have c0 := Chg.set K0 hrk o5
    refine callK (e63 (r5.alloc _) hlb) ?_
    rintro _ _ ⟨rfl, o6, rfl, r6⟩
    rw [set_old _ _ (show r < (K0.set r o5).n from hrk), set_set] at r6
    simp (disch := first | assumption | omega | (simp only [LN] <;> omega) | (simp (disch := first | assumption | omega | (simp only [LN] <;> omega)) only [row_alloc, row_set]; assumption)) only [W_block, P3, ↓reduceIte, reduceAdd, reduceEqDiff, reduceCtorEq, initFr, reduceLT, clsA, reduceLeDiff, reduceMul, reduceSub, reduceIte]
    have hn256 := na1 (bd b) (0 + 1 + 8 + 8 + 4 + 4)
    obtain ⟨x, hx⟩ : ∃ x, x = deI6 (bd b) := ⟨_, rfl⟩
    obtain ⟨n, hn⟩ : ∃ n, n = na (bd b) (0 + 1 + 8 + 8 + 4 + 4) 1 := ⟨_, rfl⟩
    rw [← hn] at hn256 ⊢
    have cx : ∀ vc, cI6 vc x = [.int .u8 (na (bd b) 0 1 : Nat), .int .i64 (IntKind.i64.wrap (na (bd b) 1 8)), .int .u64 (na (bd b) 9 8 : Nat), .int .u32 (na (bd b) 17 4 : Nat), .int .u32 (na (bd b) 21 4 : Nat), vc] := fun vc => by rw [hx]; rfl
    have hxc : x.cs = deCs (bd b) n := by rw [hx, hn]; rfl
    refine W_loop2 (fun q fr K => ∃ (i : Nat) (vc e : Value), i ≤ n ∧ q = n - i ∧ RR K (H.n + 1) K0.n r (bd b) (26 + 2 * i) ∧ K.get K0.n = some (.cells true false 6 (cI6 vc x) 30) ∧ AP K 108 2 vc i (CC (deCs (bd b) i)).flatten ∧ Fresh (K0.n + 1) vc ∧ Chg [r] K0 K ∧
      fr = [v, ptr H.n 0, .int .i64 0, ptr r 0, .bool (frm 1 b), ptr K0.n 0, .int .u8 (n : Nat), .int .u8 (i : Nat), e]) n ⟨0, .slice none 0 0, undef, by omega, rfl, ?_, ?_, .inl ⟨rfl, rfl, rfl⟩, fun b hb => (by cases hb), ?_, rfl⟩ ?_
    · exact r6
    · rw [cx]; exact AHeap.get_alloc_new _ _
    · exact (Chg.set K0 hrk o6).trans (((Keeps.refl _).alloc _).chg []) (by simp)
    rintro Q' q fr K ⟨i, vc, e, hi, rfl, rr, gk, ap, fv, ck, rfl⟩ hnx hex hrt
    have hkn := AHeap.get_lt gk
    have hrK := rr.lt
    by_cases hc : i < n
    · simp (disch := first | assumption | omega | (simp only [LN] <;> omega) | (simp (disch := first | assumption | omega | (simp only [LN] <;> omega)) only [row_alloc, row_set]; assumption)) only [W_block, P3, ↓reduceIte, reduceAdd, reduceEqDiff, reduceCtorEq, initFr, reduceLT, clsA, reduceLeDiff, reduceMul, reduceSub, reduceIte, gk, cx]
      refine callK (e63 rr hlb) ?_
      rintro _ _ ⟨rfl, o7, rfl, r7⟩
      simp (disch := first | assumption | omega | (simp only [LN] <;> omega) | (simp (disch := first | assumption | omega | (simp only [LN] <;> omega)) only [row_alloc, row_set]; assumption)) only [W_block, P3, ↓reduceIte, reduceAdd, reduceEqDiff, reduceCtorEq, initFr, reduceLT, clsA, reduceLeDiff, reduceMul, reduceSub, reduceIte, gk, cx, ite_self]
      refine callK (e63 r7 hlb) ?_
      rintro _ _ ⟨rfl, o8, rfl, r8⟩
      rw [set_set] at r8
      have w7 : IntKind.i64.wrap (na (bd b) (26 + 2 * i + 1) 1 : Nat) = (na (bd b) (26 + 2 * i + 1) 1 : Nat) := by
        have := na1 (bd b) (26 + 2 * i + 1)
        exact wrap_i64 (by omega) (by omega)
      simp (disch := first | assumption | omega | (simp only [LN] <;> omega) | (simp (disch := first | assumption | omega | (simp only [LN] <;> omega)) only [row_alloc, row_set]; assumption)) only [W_block, P3, ↓reduceIte, reduceAdd, reduceEqDiff, reduceCtorEq, initFr, reduceLT, clsA, reduceLeDiff, reduceMul, reduceSub, reduceIte, gk, cx, fillC, fillP, ite_self, w7]
      obtain ⟨e7, he7⟩ : ∃ e7 : List Value, e7 = [.int .u8 (na (bd b) (26 + 2 * i) 1 : Nat), .int .i64 (na (bd b) (26 + 2 * i + 1) 1 : Nat)] := ⟨_, rfl⟩
      rw [← he7]
      have apn : AP ((K.set r o8).alloc (.cells true false 2 e7 108)) 108 2 vc i (CC (deCs (bd b) i)).flatten :=
        ap.chg ((Chg.set K hrK o8).trans (((Keeps.refl _).alloc _).chg [r]) (fun x hx => .inl hx)) (fun y hy => by have := fv y (mem_blkL.1 hy); simp; omega)
      refine appGD apn ⟨_, _, rfl⟩ (elems_new rfl (by rw [he7]; rfl)) (by rw [he7]; rfl) (by omega) ?_
      intro v9 H9 ap9 c9 hb9
      have n9 := c9.n
      simp only [alloc_n, set_n] at n9 hb9
      have fv9 : Fresh (K0.n + 1) v9 := fun y hy => by
        rcases hb9 with e | e
        · exact fv y (by rw [← e]; exact hy)
        · rw [e] at hy; cases hy; omega
      have g9 : ∀ y, y < K0.n + 1 → H9.get y = (K.set r o8).get y := fun y hy => by
        rw [c9.get _ (by rw [alloc_n, set_n]; omega) (fun hz => by have := fv y (mem_blkL.1 hz); omega), AHeap.get_alloc_old _ _ (by rw [set_n]; omega)]
      have gk9 := g9 K0.n (by omega)
      rw [AHeap.get_set_other _ (by omega) hrK, gk] at gk9
      have ho9 : v9.oneCell' = true := by obtain ⟨a, e⟩ := ap9.shape; rw [e]; rfl
      simp (disch := first | assumption | omega | (simp only [LN] <;> omega) | (simp (disch := first | assumption | omega | (simp only [LN] <;> omega)) only [row_alloc, row_set]; assumption)) only [W_block, P3, ↓reduceIte, reduceAdd, reduceEqDiff, reduceCtorEq, initFr, reduceLT, clsA, reduceLeDiff, reduceMul, reduceSub, reduceIte, gk9, cx, ho9]
      have w8 : IntKind.u8.wrap ((i : Int) + 1) = ((i + 1 : Nat) : Int) := by rw [wrap_u8]; omega
      rw [w8]
      refine hnx _ _ _ ⟨i + 1, v9, _, by omega, rfl, ?_, by rw [cx]; exact AHeap.get_set_same gk9 _, ?_, fv9, ?_, rfl⟩ (by omega)
      · refine r8.upto (by simp only [set_n]; omega) (fun y hy => ?_)
        rw [AHeap.get_set_other _ (by omega) (by omega), g9 _ (by omega)]
      · have e9 : (CC (deCs (bd b) (i + 1))).flatten = (CC (deCs (bd b) i)).flatten ++ e7 := by
          rw [deCs_succ, he7]
          unfold CC
          rw [List.map_append, List.flatten_append]
          simp only [List.map_cons, List.map_nil, List.flatten_cons, List.flatten_nil, List.append_nil]
          rw [show 27 + 2 * i = 26 + 2 * i + 1 by omega]
        rw [e9]
        exact ap9.chg (Chg.set H9 (by omega) _) (fun y hy => by have := fv9 y (mem_blkL.1 hy); simp; omega)
      · refine ⟨by rw [set_n]; have := ck.n; omega, fun y hy hyr => ?_⟩
        rw [AHeap.get_set_other _ (by omega) (by omega), g9 _ (by omega), AHeap.get_set_other _ (by simpa using hyr) hrK, ck.get y hy hyr]
    · have hin : i = n := by omega
      subst hin
      simp (disch := first | assumption | omega | (simp only [LN] <;> omega) | (simp (disch := first | assumption | omega | (simp only [LN] <;> omega)) only [row_alloc, row_set]; assumption)) only [W_block, P3, ↓reduceIte, reduceAdd, reduceEqDiff, reduceCtorEq, initFr, reduceLT, clsA, reduceLeDiff, reduceMul, reduceSub, reduceIte]
      refine hex _ _ _ ?_
      have hsl : Sl K 2 vc (CC x.cs) := by
        rw [hxc]
        refine ap.sl (fun r hr => ?_) (by simp [CC, deCs_len])
        simp only [CC, List.mem_map] at hr
        obtain ⟨_, _, rfl⟩ := hr
        rfl
      have hone := hsl.one
      have lx : (cI6 vc x).length = 6 := rfl
      have ox : (cI6 vc x).all Value.oneCell' = true := by simp only [cI6, List.all_cons, List.all_nil, hone]; rfl
      simp (disch := first | assumption | omega | (simp only [LN] <;> omega) | (simp (disch := first | assumption | omega | (simp only [LN] <;> omega)) only [row_alloc, row_set]; assumption)) only [W_block, P3, ↓reduceIte, reduceAdd, reduceEqDiff, reduceCtorEq, initFr, reduceLT, clsA, reduceLeDiff, reduceMul, reduceSub, reduceIte, gk, lx]
      refine callK (t66 rr (frm 1 b) x hsl (by rw [hxc, deCs_len]; omega)) ?_
      rintro _ K9 ⟨k9, rfl⟩
      have n9 := k9.n
      have gH : K9.get H.n = some (.cells true false 6 (cI6 (.slice none 0 0) I60) 30) := by
        rw [k9.get _ (by omega), Chg1.get ck (by omega) (by omega), k.get _ (by rw [alloc_n]; omega)]; exact g0
      have pH := AHeap.get_lt gH
      have kk : ∀ o, Keeps H (K9.set H.n o) := fun o => ⟨by rw [set_n]; omega, fun y hy => by
        rw [AHeap.get_set_other _ (by omega) pH, k9.get _ (by omega), Chg1.get ck (by omega) (by omega), k.get _ (by rw [alloc_n]; omega)]; exact k0.get _ hy⟩
      by_cases hk : frm 1 b = true ∧ (bd b).length = 26 + 2 * i ∧ okI6 x = true
      · rw [if_pos hk]
        have ge : geI6 b = some x := by
          unfold geI6 pdI6
          simp only [Nat.zero_add, Nat.reduceAdd] at hn
          rw [if_pos hk.1, ← hn, ← hx, if_pos hk.2]
        simp (disch := first | assumption | omega | (simp only [LN] <;> omega) | (simp (disch := first | assumption | omega | (simp only [LN] <;> omega)) only [row_alloc, row_set]; assumption)) only [W_block, P3, ↓reduceIte, reduceAdd, reduceEqDiff, reduceCtorEq, initFr, reduceLT, clsA, reduceLeDiff, reduceMul, reduceSub, reduceIte, GotV, gH, ox, lx]
        refine hq2 _ _ ⟨_, by rw [hr]; simp (disch := first | assumption | omega | (simp only [LN] <;> omega) | (simp (disch := first | assumption | omega | (simp only [LN] <;> omega)) only [row_alloc, row_set]; assumption)) only [W_block, P3, ↓reduceIte, reduceAdd, reduceEqDiff, reduceCtorEq, initFr, reduceLT, clsA, reduceLeDiff, reduceMul, reduceSub, reduceIte, gH, ox, lx]; rfl, kk _, vc, fun y hy => by have := fv y hy; omega, ?_⟩
        rw [ge]
        refine ⟨rfl, ?_⟩
        rw [hxc, deCs_len]
        exact (ap.chg (k9.chg []) (by simp)).chg (Chg.set K9 pH _) (fun y hy => by have := fv y (mem_blkL.1 hy); simp; omega)
      · rw [if_neg hk]
        have ge : geI6 b = none := by
          unfold geI6 pdI6
          simp only [Nat.zero_add, Nat.reduceAdd] at hn
          rw [← hn, ← hx]
          split
          · rename_i hf
            rw [if_neg (fun h => hk ⟨hf, h⟩)]
          · rfl
        simp (disch := first | assumption | omega | (simp only [LN] <;> omega) | (simp (disch := first | assumption | omega | (simp only [LN] <;> omega)) only [row_alloc, row_set]; assumption)) only [W_block, P3, ↓reduceIte, reduceAdd, reduceEqDiff, reduceCtorEq, initFr, reduceLT, clsA, reduceLeDiff, reduceMul, reduceSub, reduceIte, GotV, gH, ozz, lz]
        refine hq2 _ _ ⟨_, by rw [hr]; simp (disch := first | assumption | omega | (simp only [LN] <;> omega) | (simp (disch := first | assumption | omega | (simp only [LN] <;> omega)) only [row_alloc, row_set]; assumption)) only [W_block, P3, ↓reduceIte, reduceAdd, reduceEqDiff, reduceCtorEq, initFr, reduceLT, clsA, reduceLeDiff, reduceMul, reduceSub, reduceIte, gH, ozz, lz]; rfl, kk _, .slice none 0 0, fun b hb => (by cases hb), ?_⟩
        rw [ge]
        rfl
end Go.AM.Fd

set_option linter.unusedSimpArgs false
set_option linter.unusedVariables false
namespace Go.AM.Fd
open Nat (reduceAdd reduceEqDiff reduceLT reduceLeDiff reduceMul reduceSub)
open Go.Proofs Go.AM.F
def kiB (b : List UInt8) : Nat := if (geI6 b).isSome then 1 else if (geOu b).isSome then 2 else if (geSt b).isSome then 3 else if (geLo b).isSome then 4 else if (geLi b).isSome then 5 else 0
theorem frm_no {k : Nat} {b : List UInt8} (h : 0 < b.length) (hk : k < 256) (hb : b[0].toNat ≠ k) : frm k b = false := by
  cases hf : frm k b with
  | false => rfl
  | true =>
    exfalso
    unfold frm at hf
    rw [List.getElem?_eq_getElem h] at hf
    simp only [Bool.and_eq_true, beq_iff_eq, Option.some.injEq] at hf
    apply hb
    rw [hf.2.1]
    simp; omega
theorem frm_nil (k : Nat) : frm k [] = false := by simp [frm]
theorem t28 {H : AHeap} {v : Value} {b : List UInt8} (hb : BQ H v b) (hl : b.length ≤ 1000000000) : ∃ w H', ARun Go.Proofs.Try.prog 0 28 [v] H w H' ∧ w = .int .u8 (kiB b : Nat) ∧ H' = H := by
  suffices h : ∃ w H', ARun Go.Proofs.Try.prog 0 28 [v] H w H' ∧ w = .int .u8 (kiB b : Nat) ∧ Keeps H H' by
    obtain ⟨_, _, a, rfl, k⟩ := h
    exact ⟨_, _, a.gc0 k (.inr (.int _ _)), rfl, rfl⟩
  refine walk2 f28_ok f28_n ?_
  intro Q hq1 hq2
  have hs := hb.bs.sl
  have his := hs.is
  have hlen := hs.len
  rw [List.length_map] at hlen
  by_cases h0 : b.length = 0
  · have hb0 : b = [] := List.length_eq_zero_iff.1 h0
    have e : kiB b = 0 := by
      subst hb0
      simp [kiB, geI6, geOu, geSt, geLo, geLi, frm_nil]
    simp (disch := first | assumption | omega | (simp only [LN] <;> omega) | (simp (disch := first | assumption | omega | (simp only [LN] <;> omega)) only [row_alloc, row_set]; assumption)) only [f28, W_block, P3, ↓reduceIte, reduceAdd, reduceEqDiff, reduceCtorEq, initFr, reduceLT, clsA, reduceLeDiff, reduceMul, reduceSub, reduceIte, hlen]
    exact hq2 _ _ ⟨_, rfl, by rw [e]; rfl, Keeps.refl _⟩
  · have hpos : 0 < b.length := by omega
    obtain ⟨hnn, hrow⟩ := hs.at_ (by omega) (i := 0) (by rw [List.length_map]; omega)
    have hbn := hs.bn_le (by intro e; simp at e; subst e; exact h0 rfl) (by omega)
    rw [List.getElem_map] at hrow
    have n1 : ∀ k, k < 256 → b[0].toNat ≠ k → frm k b = false := fun k hk h => frm_no hpos hk h
    obtain ⟨c, hc⟩ : ∃ c, c = b[0].toNat := ⟨_, rfl⟩
    rw [← hc] at hrow n1
    by_cases c1 : c = 1
    · subst c1
      simp (disch := first | assumption | omega | (simp only [LN] <;> omega) | (simp (disch := first | assumption | omega | (simp only [LN] <;> omega)) only [row_alloc, row_set]; assumption)) only [f28, W_block, P3, ↓reduceIte, reduceAdd, reduceEqDiff, reduceCtorEq, initFr, reduceLT, clsA, reduceLeDiff, reduceMul, reduceSub, reduceIte, hlen]
      refine callK (t12 hb hl) ?_
      rintro _ K ⟨k, vc, fv, hw⟩
      have e : kiB b = if (geI6 b).isSome then 1 else 0 := by
        simp [kiB, geOu, geSt, geLo, geLi, n1 2 (by omega) (by omega), n1 3 (by omega) (by omega), n1 4 (by omega) (by omega), n1 5 (by omega) (by omega)]
      cases hg : geI6 b with
      | none =>
        rw [hg] at hw
        subst hw
        simp (disch := first | assumption | omega | (simp only [LN] <;> omega) | (simp (disch := first | assumption | omega | (simp only [LN] <;> omega)) only [row_alloc, row_set, Keeps.row k]; assumption)) only [Keeps.get k, Keeps.row k, W_block, P3, ↓reduceIte, reduceAdd, reduceEqDiff, reduceCtorEq, initFr, reduceLT, clsA, reduceLeDiff, reduceMul, reduceSub, reduceIte, hlen, GotV]
        exact hq2 _ _ ⟨_, rfl, by rw [e, hg]; rfl, k⟩
      | some x =>
        rw [hg] at hw
        obtain ⟨rfl, _⟩ := hw
        simp (disch := first | assumption | omega | (simp only [LN] <;> omega) | (simp (disch := first | assumption | omega | (simp only [LN] <;> omega)) only [row_alloc, row_set, Keeps.row k]; assumption)) only [Keeps.get k, Keeps.row k, W_block, P3, ↓reduceIte, reduceAdd, reduceEqDiff, reduceCtorEq, initFr, reduceLT, clsA, reduceLeDiff, reduceMul, reduceSub, reduceIte, hlen, GotV]
        exact hq2 _ _ ⟨_, rfl, by rw [e, hg]; rfl, k⟩
    by_cases c2 : c = 2
    · subst c2
      simp (disch := first | assumption | omega | (simp only [LN] <;> omega) | (simp (disch := first | assumption | omega | (simp only [LN] <;> omega)) only [row_alloc, row_set]; assumption)) only [f28, W_block, P3, ↓reduceIte, reduceAdd, reduceEqDiff, reduceCtorEq, initFr, reduceLT, clsA, reduceLeDiff, reduceMul, reduceSub, reduceIte, hlen]
      refine callK (t16 hb hl) ?_
      rintro _ K ⟨k, hw⟩
      have e : kiB b = if (geOu b).isSome then 2 else 0 := by
        simp [kiB, geI6, geSt, geLo, geLi, n1 1 (by omega) (by omega), n1 3 (by omega) (by omega), n1 4 (by omega) (by omega), n1 5 (by omega) (by omega)]
      cases hg : geOu b with
      | none =>
        rw [hg] at hw
        subst hw
        simp (disch := first | assumption | omega | (simp only [LN] <;> omega) | (simp (disch := first | assumption | omega | (simp only [LN] <;> omega)) only [row_alloc, row_set, Keeps.row k]; assumption)) only [Keeps.get k, Keeps.row k, W_block, P3, ↓reduceIte, reduceAdd, reduceEqDiff, reduceCtorEq, initFr, reduceLT, clsA, reduceLeDiff, reduceMul, reduceSub, reduceIte, hlen, GotV]
        exact hq2 _ _ ⟨_, rfl, by rw [e, hg]; rfl, k⟩
      | some x =>
        rw [hg] at hw
        subst hw
        simp (disch := first | assumption | omega | (simp only [LN] <;> omega) | (simp (disch := first | assumption | omega | (simp only [LN] <;> omega)) only [row_alloc, row_set, Keeps.row k]; assumption)) only [Keeps.get k, Keeps.row k, W_block, P3, ↓reduceIte, reduceAdd, reduceEqDiff, reduceCtorEq, initFr, reduceLT, clsA, reduceLeDiff, reduceMul, reduceSub, reduceIte, hlen, GotV]
        exact hq2 _ _ ⟨_, rfl, by rw [e, hg]; rfl, k⟩
    by_cases c3 : c = 3
    · subst c3
      simp (disch := first | assumption | omega | (simp only [LN] <;> omega) | (simp (disch := first | assumption | omega | (simp only [LN] <;> omega)) only [row_alloc, row_set]; assumption)) only [f28, W_block, P3, ↓reduceIte, reduceAdd, reduceEqDiff, reduceCtorEq, initFr, reduceLT, clsA, reduceLeDiff, reduceMul, reduceSub, reduceIte, hlen]
      refine callK (t19 hb hl) ?_
      rintro _ K ⟨k, hw⟩
      have e : kiB b = if (geSt b).isSome then 3 else 0 := by
        simp [kiB, geI6, geOu, geLo, geLi, n1 1 (by omega) (by omega), n1 2 (by omega) (by omega), n1 4 (by omega) (by omega), n1 5 (by omega) (by omega)]
      cases hg : geSt b with
      | none =>
        rw [hg] at hw
        subst hw
        simp (disch := first | assumption | omega | (simp only [LN] <;> omega) | (simp (disch := first | assumption | omega | (simp only [LN] <;> omega)) only [row_alloc, row_set, Keeps.row k]; assumption)) only [Keeps.get k, Keeps.row k, W_block, P3, ↓reduceIte, reduceAdd, reduceEqDiff, reduceCtorEq, initFr, reduceLT, clsA, reduceLeDiff, reduceMul, reduceSub, reduceIte, hlen, GotV]
        exact hq2 _ _ ⟨_, rfl, by rw [e, hg]; rfl, k⟩
      | some x =>
        rw [hg] at hw
        subst hw
        simp (disch := first | assumption | omega | (simp only [LN] <;> omega) | (simp (disch := first | assumption | omega | (simp only [LN] <;> omega)) only [row_alloc, row_set, Keeps.row k]; assumption)) only [Keeps.get k, Keeps.row k, W_block, P3, ↓reduceIte, reduceAdd, reduceEqDiff, reduceCtorEq, initFr, reduceLT, clsA, reduceLeDiff, reduceMul, reduceSub, reduceIte, hlen, GotV]
        exact hq2 _ _ ⟨_, rfl, by rw [e, hg]; rfl, k⟩
    by_cases c4 : c = 4
    · subst c4
      simp (disch := first | assumption | omega | (simp only [LN] <;> omega) | (simp (disch := first | assumption | omega | (simp only [LN] <;> omega)) only [row_alloc, row_set]; assumption)) only [f28, W_block, P3, ↓reduceIte, reduceAdd, reduceEqDiff, reduceCtorEq, initFr, reduceLT, clsA, reduceLeDiff, reduceMul, reduceSub, reduceIte, hlen]
      refine callK (t21 hb hl) ?_
      rintro _ K ⟨k, hw⟩
      have e : kiB b = if (geLo b).isSome then 4 else 0 := by
        simp [kiB, geI6, geOu, geSt, geLi, n1 1 (by omega) (by omega), n1 2 (by omega) (by omega), n1 3 (by omega) (by omega), n1 5 (by omega) (by omega)]
      cases hg : geLo b with
      | none =>
        rw [hg] at hw
        subst hw
        simp (disch := first | assumption | omega | (simp only [LN] <;> omega) | (simp (disch := first | assumption | omega | (simp only [LN] <;> omega)) only [row_alloc, row_set, Keeps.row k]; assumption)) only [Keeps.get k, Keeps.row k, W_block, P3, ↓reduceIte, reduceAdd, reduceEqDiff, reduceCtorEq, initFr, reduceLT, clsA, reduceLeDiff, reduceMul, reduceSub, reduceIte, hlen, GotV]
        exact hq2 _ _ ⟨_, rfl, by rw [e, hg]; rfl, k⟩
      | some x =>
        rw [hg] at hw
        subst hw
        simp (disch := first | assumption | omega | (simp only [LN] <;> omega) | (simp (disch := first | assumption | omega | (simp only [LN] <;> omega)) only [row_alloc, row_set, Keeps.row k]; assumption)) only [Keeps.get k, Keeps.row k, W_block, P3, ↓reduceIte, reduceAdd, reduceEqDiff, reduceCtorEq, initFr, reduceLT, clsA, reduceLeDiff, reduceMul, reduceSub, reduceIte, hlen, GotV]
        exact hq2 _ _ ⟨_, rfl, by rw [e, hg]; rfl, k⟩
    by_cases c5 : c = 5
    · subst c5
      simp (disch := first | assumption | omega | (simp only [LN] <;> omega) | (simp (disch := first | assumption | omega | (simp only [LN] <;> omega)) only [row_alloc, row_set]; assumption)) only [f28, W_block, P3, ↓reduceIte, reduceAdd, reduceEqDiff, reduceCtorEq, initFr, reduceLT, clsA, reduceLeDiff, reduceMul, reduceSub, reduceIte, hlen]
      refine callK (t24 hb hl) ?_
      rintro _ K ⟨k, vb, fv, hw⟩
      have e : kiB b = if (geLi b).isSome then 5 else 0 := by
        simp [kiB, geI6, geOu, geSt, geLo, n1 1 (by omega) (by omega), n1 2 (by omega) (by omega), n1 3 (by omega) (by omega), n1 4 (by omega) (by omega)]
      cases hg : geLi b with
      | none =>
        rw [hg] at hw
        subst hw
        simp (disch := first | assumption | omega | (simp only [LN] <;> omega) | (simp (disch := first | assumption | omega | (simp only [LN] <;> omega)) only [row_alloc, row_set, Keeps.row k]; assumption)) only [Keeps.get k, Keeps.row k, W_block, P3, ↓reduceIte, reduceAdd, reduceEqDiff, reduceCtorEq, initFr, reduceLT, clsA, reduceLeDiff, reduceMul, reduceSub, reduceIte, hlen, GotV]
        exact hq2 _ _ ⟨_, rfl, by rw [e, hg]; rfl, k⟩
      | some x =>
        rw [hg] at hw
        obtain ⟨rfl, _⟩ := hw
        simp (disch := first | assumption | omega | (simp only [LN] <;> omega) | (simp (disch := first | assumption | omega | (simp only [LN] <;> omega)) only [row_alloc, row_set, Keeps.row k]; assumption)) only [Keeps.get k, Keeps.row k, W_block, P3, ↓reduceIte, reduceAdd, reduceEqDiff, reduceCtorEq, initFr, reduceLT, clsA, reduceLeDiff, reduceMul, reduceSub, reduceIte, hlen, GotV]
        exact hq2 _ _ ⟨_, rfl, by rw [e, hg]; rfl, k⟩
    · have e : kiB b = 0 := by
        simp [kiB, geI6, geOu, geSt, geLo, geLi, n1 1 (by omega) (by omega), n1 2 (by omega) (by omega), n1 3 (by omega) (by omega), n1 4 (by omega) (by omega), n1 5 (by omega) (by omega)]
      simp (disch := first | assumption | omega | (simp only [LN] <;> omega) | (simp (disch := first | assumption | omega | (simp only [LN] <;> omega)) only [row_alloc, row_set]; assumption)) only [f28, W_block, P3, ↓reduceIte, reduceAdd, reduceEqDiff, reduceCtorEq, initFr, reduceLT, clsA, reduceLeDiff, reduceMul, reduceSub, reduceIte, hlen]
      exact hq2 _ _ ⟨_, rfl, by rw [e]; rfl, Keeps.refl _⟩
end Go.AM.Fd

set_option linter.unusedSimpArgs false
set_option linter.unusedVariables false
namespace Go.AM.Fd
open Nat (reduceAdd reduceEqDiff reduceLT reduceLeDiff reduceMul reduceSub)
open Go.Proofs Go.AM.F
theorem t90 (n : Int) (H : AHeap) : ∃ v H', ARun Go.Proofs.Try.prog 0 90 [.int .i64 n] H v H' ∧ v = .bool (cyB n) ∧ H' = H := by
  refine walk2 f90_ok f90_n ?_
  intro Q hq1 hq2
  by_cases h : 0 ≤ n
  · have e1 : decide (0 ≤ n) = true := by simp [h]
    simp (disch := first | assumption | omega | (simp only [LN] <;> omega) | (simp (disch := first | assumption | omega | (simp only [LN] <;> omega)) only [row_alloc, row_set]; assumption)) only [f90, W_block, P3, ↓reduceIte, reduceAdd, reduceEqDiff, reduceCtorEq, initFr, reduceLT, clsA, reduceLeDiff, reduceMul, reduceSub, reduceIte, e1]
    exact hq2 _ _ ⟨_, rfl, by unfold cyB; rw [e1, Bool.true_and]; rfl, rfl⟩
  · have e1 : decide (0 ≤ n) = false := by simp [h]
    simp (disch := first | assumption | omega | (simp only [LN] <;> omega) | (simp (disch := first | assumption | omega | (simp only [LN] <;> omega)) only [row_alloc, row_set]; assumption)) only [f90, W_block, P3, ↓reduceIte, reduceAdd, reduceEqDiff, reduceCtorEq, initFr, reduceLT, clsA, reduceLeDiff, reduceMul, reduceSub, reduceIte, e1]
    exact hq2 _ _ ⟨_, rfl, by unfold cyB; rw [e1, Bool.false_and]; rfl, rfl⟩
theorem t91 (n w : Nat) (hw : w ≤ 8) (H : AHeap) : ∃ v H', ARun Go.Proofs.Try.prog 0 91 [.int .u64 n, .int .i64 w] H v H' ∧ OB 5 H H' v (be w n) := by
  refine walk2 f91_ok f91_n ?_
  intro Q hq1 hq2
  simp (disch := first | assumption | omega | (simp only [LN] <;> omega) | (simp (disch := first | assumption | omega | (simp only [LN] <;> omega)) only [row_alloc, row_set]; assumption)) only [f91, W_block, P3, ↓reduceIte, reduceAdd, reduceEqDiff, reduceCtorEq, initFr, reduceLT, clsA, reduceLeDiff, reduceMul, reduceSub, reduceIte]
  refine callK (t106 n w hw H) ?_
  rintro v K ⟨a, k, f⟩
  simp (disch := first | assumption | omega | (simp only [LN] <;> omega) | (simp (disch := first | assumption | omega | (simp only [LN] <;> omega)) only [row_alloc, row_set]; assumption)) only [W_block, P3, ↓reduceIte, reduceAdd, reduceEqDiff, reduceCtorEq, initFr, reduceLT, clsA, reduceLeDiff, reduceMul, reduceSub, reduceIte]
  exact hq2 _ _ ⟨_, rfl, ⟨by rw [be_length]; exact a, k, f⟩⟩
theorem t92 {H K : AHeap} {v : Value} {l : List UInt8} (h : OB 5 H K v l) (hl : l.length ≤ 100000000) : ∃ w K', ARun Go.Proofs.Try.prog 0 92 [v] K w K' ∧ OB 5 H K' w (chk l) := by
  refine walk2 f92_ok f92_n ?_
  intro Q hq1 hq2
  simp (disch := first | assumption | omega | (simp only [LN] <;> omega) | (simp (disch := first | assumption | omega | (simp only [LN] <;> omega)) only [row_alloc, row_set]; assumption)) only [f92, W_block, P3, ↓reduceIte, reduceAdd, reduceEqDiff, reduceCtorEq, initFr, reduceLT, clsA, reduceLeDiff, reduceMul, reduceSub, reduceIte]
  refine callK (t107 h.bs (by omega)) ?_
  rintro _ K1 ⟨rfl, k1⟩
  have hc := crc_lt l
  have hw : IntKind.u64.wrap (crc l : Nat) = (crc l : Nat) := by rw [wrap_u64]; omega
  simp (disch := first | assumption | omega | (simp only [LN] <;> omega) | (simp (disch := first | assumption | omega | (simp only [LN] <;> omega)) only [row_alloc, row_set]; assumption)) only [W_block, P3, ↓reduceIte, reduceAdd, reduceEqDiff, reduceCtorEq, initFr, reduceLT, clsA, reduceLeDiff, reduceMul, reduceSub, reduceIte, hw]
  refine callK (t91 (crc l) 4 (by omega) K1) ?_
  rintro v2 K2 o2
  simp (disch := first | assumption | omega | (simp only [LN] <;> omega) | (simp (disch := first | assumption | omega | (simp only [LN] <;> omega)) only [row_alloc, row_set]; assumption)) only [W_block, P3, ↓reduceIte, reduceAdd, reduceEqDiff, reduceCtorEq, initFr, reduceLT, clsA, reduceLeDiff, reduceMul, reduceSub, reduceIte]
  refine (h.keeps (k1.trans o2.k)).appR o2.bs (by rw [be_length]; omega) ?_
  intro v3 K3 o3
  simp (disch := first | assumption | omega | (simp only [LN] <;> omega) | (simp (disch := first | assumption | omega | (simp only [LN] <;> omega)) only [row_alloc, row_set]; assumption)) only [W_block, P3, ↓reduceIte, reduceAdd, reduceEqDiff, reduceCtorEq, initFr, reduceLT, clsA, reduceLeDiff, reduceMul, reduceSub, reduceIte]
  exact hq2 _ _ ⟨_, rfl, o3⟩
theorem t67 {H : AHeap} {v : Value} {b : List UInt8} (hb : BQ H v b) (i w : Nat) (hi : i ≤ 1000000000) (hw : w ≤ 8) (hl : b.length ≤ 1000000000) :
    ∃ u H', ARun Go.Proofs.Try.prog 0 67 [v, .int .i64 (i : Nat), .int .i64 (w : Nat)] H u H' ∧ u = .int .u64 (na b i w : Nat) ∧ H' = H := by
  refine walk2 f67_ok f67_n ?_
  intro Q hq1 hq2
  have hs := hb.bs.sl
  have his := hs.is
  have hlen := hs.len
  rw [List.length_map] at hlen
  have hw1 : IntKind.i64.wrap ((i : Int) + (w : Int)) = ((i + w : Nat) : Int) := by rw [wrap_i64 (by omega) (by omega)]; push_cast; rfl
  by_cases hc : b.length < i + w
  · simp (disch := first | assumption | omega | (simp only [LN] <;> omega) | (simp (disch := first | assumption | omega | (simp only [LN] <;> omega)) only [row_alloc, row_set]; assumption)) only [f67, W_block, P3, ↓reduceIte, reduceAdd, reduceEqDiff, reduceCtorEq, initFr, reduceLT, clsA, reduceLeDiff, reduceMul, reduceSub, reduceIte, hlen, hw1]
    exact hq2 _ _ ⟨_, rfl, by unfold na seg; rw [if_pos hc]; rfl, rfl⟩
  · obtain ⟨u, s1, q1⟩ := hb.mid (k := .i64) (k' := .i64) i (i + w) (by omega) (by omega)
    simp (disch := first | assumption | omega | (simp only [LN] <;> omega) | (simp (disch := first | assumption | omega | (simp only [LN] <;> omega)) only [row_alloc, row_set]; assumption)) only [f67, W_block, P3, ↓reduceIte, reduceAdd, reduceEqDiff, reduceCtorEq, initFr, reduceLT, clsA, reduceLeDiff, reduceMul, reduceSub, reduceIte, hlen, hw1, s1]
    refine ⟨_, _, t102 q1.bs (by rw [List.length_take]; omega), ?_⟩
    simp (disch := first | assumption | omega | (simp only [LN] <;> omega) | (simp (disch := first | assumption | omega | (simp only [LN] <;> omega)) only [row_alloc, row_set]; assumption)) only [W_block, P3, ↓reduceIte, reduceAdd, reduceEqDiff, reduceCtorEq, initFr, reduceLT, clsA, reduceLeDiff, reduceMul, reduceSub, reduceIte]
    exact hq2 _ _ ⟨_, rfl, by unfold na seg; rw [if_neg hc, show i + w - i = w by omega]; rfl, rfl⟩
end Go.AM.Fd
