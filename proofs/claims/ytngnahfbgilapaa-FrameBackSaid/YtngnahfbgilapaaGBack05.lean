/- Part of the proof. -/
import Derived.Test.YtngnahfbgilapaaGBack04
set_option linter.unusedSimpArgs false
set_option linter.unusedVariables false
set_option linter.unusedSimpArgs false
set_option linter.unusedVariables false
namespace Go.AM.Fd
open Go.Proofs Go.AM.F
theorem fillLi (f t : Nat) (q k : Int) : fillA [.int .u8 0, .int .u8 0, .int .i64 0, .int .i64 0, .slice none 0 0] [(0, 1, .int .u8 (f : Nat)), (1, 1, .int .u8 (t : Nat)), (2, 1, .int .i64 q), (3, 1, .int .i64 k)] = some (cLi (.slice none 0 0) ⟨f, t, q, k, []⟩) := rfl
def LiR (H H' : AHeap) (w : Value) (o : Option Li) : Prop := ∃ vb, Fresh H.n vb ∧ match o with
  | some x => w = GotV (cLi vb x) 0 ∧ AP H' 5 1 vb x.B.length (cellsOf x.B)
  | none => w = GotV (cLi (.slice none 0 0) Li0) 130
theorem t24 {H : AHeap} {v : Value} {b : List UInt8} (hb : BQ H v b) (hl : b.length ≤ 1000000000) : ∃ w H', ARun Go.Proofs.Try.prog 0 24 [v] H w H' ∧ Keeps H H' ∧ LiR H H' w (geLi b) := by
  refine walk2 f24_ok f24_n ?_
  intro Q hq1 hq2
  have hr : ∀ fr H', resO f24.res fr H' = (celln 5 (fr.getD 1 undef) H').map fun c => .tuple #[c, fr.getD 2 undef] := fun fr H' => resCT 5 1 2 fr
  have k0 := (Keeps.refl H).alloc (.cells true false 5 (cLi (.slice none 0 0) Li0) 65)
  have g0 := AHeap.get_alloc_new H (.cells true false 5 (cLi (.slice none 0 0) Li0) 65)
  have lz : (cLi (.slice none 0 0) Li0).length = 5 := rfl
  have ozz : (cLi (.slice none 0 0) Li0).all Value.oneCell' = true := rfl
  simp (disch := (first | assumption | omega | (simp only [List.length_cons, List.length_nil] <;> omega) | (simp only [alloc_n, set_n] <;> omega) | (simp (disch := (first | assumption | omega | (simp only [alloc_n, set_n] <;> omega))) only [row_alloc, row_set]; assumption))) only [f24, W_block, ANs, A3s, AOp.map, ↓reduceIte, Nat.reduceAdd, Nat.reduceEqDiff, reduceCtorEq, initFr, Nat.reduceLT, clsA, List.take, List.drop, Nat.reduceLeDiff, Nat.reduceMul, Nat.reduceSub, reduceIte, ANc, A3c, ozz]
  refine callK (t62 (hb.keeps (by ((repeat (first | exact Keeps.refl _ | assumption | refine Keeps.alloc ?_ _ | (refine Keeps.set ?_ (by first | omega | (simp only [alloc_n, set_n] <;> omega)) (by first | omega | (simp only [alloc_n, set_n] <;> omega)) _) | (refine Keeps.trans' (by assumption) ?_)))))) 5 (by omega) hl) ?_
  rintro _ K0 ⟨k, ⟨rfl, rfl, hf⟩ | ⟨r, rfl, r0⟩⟩
  · simp (disch := (first | assumption | omega | (simp only [List.length_cons, List.length_nil] <;> omega) | (simp only [alloc_n, set_n] <;> omega) | (simp (disch := (first | assumption | omega | (simp only [alloc_n, set_n] <;> omega))) only [row_alloc, row_set]; assumption))) only [W_block, ANs, A3s, AOp.map, ↓reduceIte, Nat.reduceAdd, Nat.reduceEqDiff, reduceCtorEq, initFr, Nat.reduceLT, clsA, List.take, List.drop, Nat.reduceLeDiff, Nat.reduceMul, Nat.reduceSub, reduceIte, ANc, A3c]
    refine callK (n63 _) ?_
    rintro _ _ ⟨rfl, rfl⟩
    simp (disch := (first | assumption | omega | (simp only [List.length_cons, List.length_nil] <;> omega) | (simp only [alloc_n, set_n] <;> omega) | (simp (disch := (first | assumption | omega | (simp only [alloc_n, set_n] <;> omega))) only [row_alloc, row_set]; assumption))) only [W_block, ANs, A3s, AOp.map, ↓reduceIte, Nat.reduceAdd, Nat.reduceEqDiff, reduceCtorEq, initFr, Nat.reduceLT, clsA, List.take, List.drop, Nat.reduceLeDiff, Nat.reduceMul, Nat.reduceSub, reduceIte, ANc, A3c]
    refine callK (n63 _) ?_
    rintro _ _ ⟨rfl, rfl⟩
    simp (disch := (first | assumption | omega | (simp only [List.length_cons, List.length_nil] <;> omega) | (simp only [alloc_n, set_n] <;> omega) | (simp (disch := (first | assumption | omega | (simp only [alloc_n, set_n] <;> omega))) only [row_alloc, row_set]; assumption))) only [W_block, ANs, A3s, AOp.map, ↓reduceIte, Nat.reduceAdd, Nat.reduceEqDiff, reduceCtorEq, initFr, Nat.reduceLT, clsA, List.take, List.drop, Nat.reduceLeDiff, Nat.reduceMul, Nat.reduceSub, reduceIte, ANc, A3c]
    refine callK (n64 _) ?_
    rintro _ _ ⟨rfl, rfl⟩
    simp (disch := (first | assumption | omega | (simp only [List.length_cons, List.length_nil] <;> omega) | (simp only [alloc_n, set_n] <;> omega) | (simp (disch := (first | assumption | omega | (simp only [alloc_n, set_n] <;> omega))) only [row_alloc, row_set]; assumption))) only [W_block, ANs, A3s, AOp.map, ↓reduceIte, Nat.reduceAdd, Nat.reduceEqDiff, reduceCtorEq, initFr, Nat.reduceLT, clsA, List.take, List.drop, Nat.reduceLeDiff, Nat.reduceMul, Nat.reduceSub, reduceIte, ANc, A3c]
    refine callK (n64 _) ?_
    rintro _ _ ⟨rfl, rfl⟩
    have f2 := fillLi 0 0 (IntKind.i64.wrap 0) (IntKind.i64.wrap 0)
    simp only [Int.natCast_zero] at f2
    simp (disch := (first | assumption | omega | (simp only [List.length_cons, List.length_nil] <;> omega) | (simp only [alloc_n, set_n] <;> omega) | (simp (disch := (first | assumption | omega | (simp only [alloc_n, set_n] <;> omega))) only [row_alloc, row_set]; assumption))) only [W_block, ANs, A3s, AOp.map, ↓reduceIte, Nat.reduceAdd, Nat.reduceEqDiff, reduceCtorEq, initFr, Nat.reduceLT, clsA, List.take, List.drop, Nat.reduceLeDiff, Nat.reduceMul, Nat.reduceSub, reduceIte, ANc, A3c, f2, cLi]
    refine callK (n75 _) ?_
    rintro _ _ ⟨rfl, rfl⟩
    simp (disch := (first | assumption | omega | (simp only [List.length_cons, List.length_nil] <;> omega) | (simp only [alloc_n, set_n] <;> omega) | (simp (disch := (first | assumption | omega | (simp only [alloc_n, set_n] <;> omega))) only [row_alloc, row_set]; assumption))) only [W_block, ANs, A3s, AOp.map, ↓reduceIte, Nat.reduceAdd, Nat.reduceEqDiff, reduceCtorEq, initFr, Nat.reduceLT, clsA, List.take, List.drop, Nat.reduceLeDiff, Nat.reduceMul, Nat.reduceSub, reduceIte, ANc, A3c]
    refine callK (n74 _ _) ?_
    rintro _ _ ⟨rfl, rfl⟩
    simp (disch := (first | assumption | omega | (simp only [List.length_cons, List.length_nil] <;> omega) | (simp only [alloc_n, set_n] <;> omega) | (simp (disch := (first | assumption | omega | (simp only [alloc_n, set_n] <;> omega))) only [row_alloc, row_set]; assumption))) only [W_block, ANs, A3s, AOp.map, ↓reduceIte, Nat.reduceAdd, Nat.reduceEqDiff, reduceCtorEq, initFr, Nat.reduceLT, clsA, List.take, List.drop, Nat.reduceLeDiff, Nat.reduceMul, Nat.reduceSub, reduceIte, ANc, A3c]
    refine callK (t73 (BS.nil _) (by simp)) ?_
    rintro v2 K2 ⟨a2, k2, fr2⟩
    have n2 := k2.n
    simp only [alloc_n] at n2
    have ho2 : v2.oneCell' = true := by obtain ⟨a, rfl⟩ := a2.shape; rfl
    have fb2 := Fresh.tb fr2
    simp only [alloc_n] at fb2
    simp (disch := (first | assumption | omega | (simp only [List.length_cons, List.length_nil] <;> omega) | (simp only [alloc_n, set_n] <;> omega) | (simp (disch := (first | assumption | omega | (simp only [alloc_n, set_n] <;> omega))) only [row_alloc, row_set, Keeps.row k2]; assumption))) only [Keeps.get k2, Keeps.row k2, W_block, ANs, A3s, AOp.map, ↓reduceIte, Nat.reduceAdd, Nat.reduceEqDiff, reduceCtorEq, initFr, Nat.reduceLT, clsA, List.take, List.drop, Nat.reduceLeDiff, Nat.reduceMul, Nat.reduceSub, reduceIte, ANc, A3c, cLi, ho2]
    refine callK (n76 ⟨0, 0, IntKind.i64.wrap 0, IntKind.i64.wrap 0, []⟩ (a2.bs.chgT (Chg.set K2 (show H.n + 1 < K2.n by omega) _) (fun y hy => by have := fb2 y hy; simp; omega))) ?_
    rintro _ K3 ⟨k3, rfl⟩
    have n3 := k3.n
    simp only [set_n] at n3
    have p3 : H.n + 1 < K2.n := by omega
    have kq : ∀ o, Keeps H (K3.set H.n o) := fun o => ⟨by rw [set_n]; omega, fun y hy => by
      rw [AHeap.get_set_other _ (by omega) (by omega), k3.get _ (by rw [set_n]; omega), AHeap.get_set_other _ (by omega) p3, k2.get _ (by simp only [alloc_n]; omega), AHeap.get_alloc_old _ _ (by rw [alloc_n]; omega), AHeap.get_alloc_old _ _ hy]⟩
    simp (disch := (first | assumption | omega | (simp only [List.length_cons, List.length_nil] <;> omega) | (simp only [alloc_n, set_n] <;> omega) | (simp (disch := (first | assumption | omega | (simp only [alloc_n, set_n] <;> omega))) only [row_alloc, row_set, Keeps.row k3, Keeps.row k2]; assumption))) only [Keeps.get k3, Keeps.get k2, Keeps.row k3, Keeps.row k2, W_block, ANs, A3s, AOp.map, ↓reduceIte, Nat.reduceAdd, Nat.reduceEqDiff, reduceCtorEq, initFr, Nat.reduceLT, clsA, List.take, List.drop, Nat.reduceLeDiff, Nat.reduceMul, Nat.reduceSub, reduceIte, ANc, A3c, GotV, cLi]
    refine hq2 _ _ ⟨_, by rw [hr]; simp (disch := (first | assumption | omega | (simp only [List.length_cons, List.length_nil] <;> omega) | (simp only [alloc_n, set_n] <;> omega) | (simp (disch := (first | assumption | omega | (simp only [alloc_n, set_n] <;> omega))) only [row_alloc, row_set, Keeps.row k3, Keeps.row k2]; assumption))) only [Keeps.get k3, Keeps.get k2, Keeps.row k3, Keeps.row k2, W_block, ANs, A3s, AOp.map, ↓reduceIte, Nat.reduceAdd, Nat.reduceEqDiff, reduceCtorEq, initFr, Nat.reduceLT, clsA, List.take, List.drop, Nat.reduceLeDiff, Nat.reduceMul, Nat.reduceSub, reduceIte, ANc, A3c, cLi]; rfl, kq _, ?_⟩
    refine ⟨.slice none 0 0, fun b hb => (by cases hb), ?_⟩
    have ge : geLi b = none := by unfold geLi; rw [hf]; rfl
    rw [ge]
    rfl
  · have hn0 := k.n
    simp only [alloc_n] at hn0
    have hlb := bd_le hl
    have hrl : H.n + 1 ≤ r := r0.1
    have hrk : r < K0.n := r0.2.1
    have c0 := Chg.refl [r] K0
    simp (disch := (first | assumption | omega | (simp only [List.length_cons, List.length_nil] <;> omega) | (simp only [alloc_n, set_n] <;> omega) | (simp (disch := (first | assumption | omega | (simp only [alloc_n, set_n] <;> omega))) only [row_alloc, row_set]; assumption))) only [W_block, ANs, A3s, AOp.map, ↓reduceIte, Nat.reduceAdd, Nat.reduceEqDiff, reduceCtorEq, initFr, Nat.reduceLT, clsA, List.take, List.drop, Nat.reduceLeDiff, Nat.reduceMul, Nat.reduceSub, reduceIte, ANc, A3c]
    refine callK (q63 r0 hlb) ?_
    rintro _ K1 ⟨rfl, r1, e1⟩
    have c1 := Chg1.tr c0 e1
    simp (disch := (first | assumption | omega | (simp only [List.length_cons, List.length_nil] <;> omega) | (simp only [alloc_n, set_n] <;> omega) | (simp (disch := (first | assumption | omega | (simp only [alloc_n, set_n] <;> omega))) only [row_alloc, row_set]; assumption))) only [W_block, ANs, A3s, AOp.map, ↓reduceIte, Nat.reduceAdd, Nat.reduceEqDiff, reduceCtorEq, initFr, Nat.reduceLT, clsA, List.take, List.drop, Nat.reduceLeDiff, Nat.reduceMul, Nat.reduceSub, reduceIte, ANc, A3c]
    refine callK (q63 r1 hlb) ?_
    rintro _ K2 ⟨rfl, r2, e2⟩
    have c2 := Chg1.tr c1 e2
    simp (disch := (first | assumption | omega | (simp only [List.length_cons, List.length_nil] <;> omega) | (simp only [alloc_n, set_n] <;> omega) | (simp (disch := (first | assumption | omega | (simp only [alloc_n, set_n] <;> omega))) only [row_alloc, row_set]; assumption))) only [W_block, ANs, A3s, AOp.map, ↓reduceIte, Nat.reduceAdd, Nat.reduceEqDiff, reduceCtorEq, initFr, Nat.reduceLT, clsA, List.take, List.drop, Nat.reduceLeDiff, Nat.reduceMul, Nat.reduceSub, reduceIte, ANc, A3c]
    refine callK (q64 r2 hlb) ?_
    rintro _ K3 ⟨rfl, r3, e3⟩
    have c3 := Chg1.tr c2 e3
    simp (disch := (first | assumption | omega | (simp only [List.length_cons, List.length_nil] <;> omega) | (simp only [alloc_n, set_n] <;> omega) | (simp (disch := (first | assumption | omega | (simp only [alloc_n, set_n] <;> omega))) only [row_alloc, row_set]; assumption))) only [W_block, ANs, A3s, AOp.map, ↓reduceIte, Nat.reduceAdd, Nat.reduceEqDiff, reduceCtorEq, initFr, Nat.reduceLT, clsA, List.take, List.drop, Nat.reduceLeDiff, Nat.reduceMul, Nat.reduceSub, reduceIte, ANc, A3c]
    refine callK (q64 r3 hlb) ?_
    rintro _ K4 ⟨rfl, r4, e4⟩
    have c4 := Chg1.tr c3 e4
    have n4 := c4.n
    simp (disch := (first | assumption | omega | (simp only [List.length_cons, List.length_nil] <;> omega) | (simp only [alloc_n, set_n] <;> omega) | (simp (disch := (first | assumption | omega | (simp only [alloc_n, set_n] <;> omega))) only [row_alloc, row_set]; assumption))) only [W_block, ANs, A3s, AOp.map, ↓reduceIte, Nat.reduceAdd, Nat.reduceEqDiff, reduceCtorEq, initFr, Nat.reduceLT, clsA, List.take, List.drop, Nat.reduceLeDiff, Nat.reduceMul, Nat.reduceSub, reduceIte, ANc, A3c, fillLi]
    have o4 : (cLi (.slice none 0 0) ⟨na (bd b) 0 1, na (bd b) (0 + 1) 1, IntKind.i64.wrap (na (bd b) (0 + 1 + 1) 8), IntKind.i64.wrap (na (bd b) (0 + 1 + 1 + 8) 8), []⟩).all Value.oneCell' = true := rfl
    have l4 : (cLi (.slice none 0 0) ⟨na (bd b) 0 1, na (bd b) (0 + 1) 1, IntKind.i64.wrap (na (bd b) (0 + 1 + 1) 8), IntKind.i64.wrap (na (bd b) (0 + 1 + 1 + 8) 8), []⟩).length = 5 := rfl
    simp (disch := (first | assumption | omega | (simp only [List.length_cons, List.length_nil] <;> omega) | (simp only [alloc_n, set_n] <;> omega) | (simp (disch := (first | assumption | omega | (simp only [alloc_n, set_n] <;> omega))) only [row_alloc, row_set]; assumption))) only [W_block, ANs, A3s, AOp.map, ↓reduceIte, Nat.reduceAdd, Nat.reduceEqDiff, reduceCtorEq, initFr, Nat.reduceLT, clsA, List.take, List.drop, Nat.reduceLeDiff, Nat.reduceMul, Nat.reduceSub, reduceIte, ANc, A3c, o4]
    obtain ⟨Kb, hKb⟩ : ∃ X, X = K4.alloc (.cells true false 5 (cLi (.slice none 0 0) ⟨na (bd b) 0 1, na (bd b) (0 + 1) 1, IntKind.i64.wrap (na (bd b) (0 + 1 + 1) 8), IntKind.i64.wrap (na (bd b) (0 + 1 + 1 + 8) 8), []⟩) 65) := ⟨_, rfl⟩
    have kb := (Keeps.refl K4).alloc (.cells true false 5 (cLi (.slice none 0 0) ⟨na (bd b) 0 1, na (bd b) (0 + 1) 1, IntKind.i64.wrap (na (bd b) (0 + 1 + 1) 8), IntKind.i64.wrap (na (bd b) (0 + 1 + 1 + 8) 8), []⟩) 65)
    have gb := AHeap.get_alloc_new K4 (.cells true false 5 (cLi (.slice none 0 0) ⟨na (bd b) 0 1, na (bd b) (0 + 1) 1, IntKind.i64.wrap (na (bd b) (0 + 1 + 1) 8), IntKind.i64.wrap (na (bd b) (0 + 1 + 1 + 8) 8), []⟩) 65)
    rw [← hKb] at kb gb ⊢
    have nb := kb.n
    have lb := AHeap.get_lt gb
    refine callK (q75 (r4.keeps kb) hlb) ?_
    rintro _ K5 ⟨rfl, r5, c5⟩
    have n5 := c5.n
    have hs2 := na2 (bd b) (0 + 1 + 1 + 8 + 8)
    have hw : IntKind.i64.wrap (na (bd b) (0 + 1 + 1 + 8 + 8) 2 : Nat) = (na (bd b) (0 + 1 + 1 + 8 + 8) 2 : Nat) := wrap_i64 (by omega) (by omega)
    simp (disch := (first | assumption | omega | (simp only [List.length_cons, List.length_nil] <;> omega) | (simp only [alloc_n, set_n] <;> omega) | (simp (disch := (first | assumption | omega | (simp only [alloc_n, set_n] <;> omega))) only [row_alloc, row_set]; assumption))) only [W_block, ANs, A3s, AOp.map, ↓reduceIte, Nat.reduceAdd, Nat.reduceEqDiff, reduceCtorEq, initFr, Nat.reduceLT, clsA, List.take, List.drop, Nat.reduceLeDiff, Nat.reduceMul, Nat.reduceSub, reduceIte, ANc, A3c, hw]
    refine callK (q74 r5 (na (bd b) (0 + 1 + 1 + 8 + 8) 2) hlb) ?_
    rintro v6 K6 ⟨B6, r6, c6, h6⟩
    have n6 := c6.n
    have hsl : (seg (bd b) (0 + 1 + 1 + 8 + 8 + 2) (na (bd b) (0 + 1 + 1 + 8 + 8) 2)).length ≤ 65536 := by
      unfold seg
      split
      · simp
      · rw [List.length_take]; omega
    simp (disch := (first | assumption | omega | (simp only [List.length_cons, List.length_nil] <;> omega) | (simp only [alloc_n, set_n] <;> omega) | (simp (disch := (first | assumption | omega | (simp only [alloc_n, set_n] <;> omega))) only [row_alloc, row_set]; assumption))) only [W_block, ANs, A3s, AOp.map, ↓reduceIte, Nat.reduceAdd, Nat.reduceEqDiff, reduceCtorEq, initFr, Nat.reduceLT, clsA, List.take, List.drop, Nat.reduceLeDiff, Nat.reduceMul, Nat.reduceSub, reduceIte, ANc, A3c]
    refine callK (t73 B6 (by omega)) ?_
    rintro v7 K7 ⟨a7, k7, f7⟩
    have n7 := k7.n
    have fb7 := Fresh.tb f7
    have ho7 : v7.oneCell' = true := by obtain ⟨a, rfl⟩ := a7.shape; rfl
    have g7 : K7.get K4.n = some (.cells true false 5 (cLi (.slice none 0 0) ⟨na (bd b) 0 1, na (bd b) (0 + 1) 1, IntKind.i64.wrap (na (bd b) (0 + 1 + 1) 8), IntKind.i64.wrap (na (bd b) (0 + 1 + 1 + 8) 8), []⟩) 65) := by
      rw [k7.get _ (by omega), Chg1.get c6 (by omega) (by omega), Chg1.get c5 (by omega) (by omega)]; exact gb
    have p7 := AHeap.get_lt g7
    simp (disch := (first | assumption | omega | (simp only [List.length_cons, List.length_nil] <;> omega) | (simp only [alloc_n, set_n] <;> omega) | (simp (disch := (first | assumption | omega | (simp only [alloc_n, set_n] <;> omega))) only [row_alloc, row_set]; assumption))) only [W_block, ANs, A3s, AOp.map, ↓reduceIte, Nat.reduceAdd, Nat.reduceEqDiff, reduceCtorEq, initFr, Nat.reduceLT, clsA, List.take, List.drop, Nat.reduceLeDiff, Nat.reduceMul, Nat.reduceSub, reduceIte, ANc, A3c, g7, cLi, ho7]
    have q7 : ∀ o, Chg [K4.n] K7 (K7.set K4.n o) := fun o => Chg.set K7 p7 o
    have R8 := fun o => (r6.keeps k7).chg (q7 o) (.inr (by omega))
    have B8 := fun o => a7.bs.chgT (q7 o) (fun y hy => by have := fb7 y hy; simp; omega)
    refine callK (t76 (R8 _) (frm 5 b) (deLi (bd b)) (B8 _)) ?_
    rintro _ K ⟨k8, rfl⟩
    have n8 := k8.n
    simp only [set_n] at n8
    have hget : ∀ y, y < K0.n → y ≠ r → K.get y = K0.get y := fun y hy hr' => by
      rw [k8.get _ (by rw [set_n]; omega), AHeap.get_set_other _ (by omega) p7, k7.get _ (by omega), Chg1.get c6 (by omega) hr', Chg1.get c5 (by omega) hr', kb.get _ (by omega), Chg1.get c4 hy hr']
    have g8 : K.get H.n = some (.cells true false 5 (cLi (.slice none 0 0) Li0) 65) := by
      rw [hget _ (by omega) (by omega), k.get _ (by rw [alloc_n]; omega)]; exact g0
    have p8 := AHeap.get_lt g8
    have a8 : AP K 5 1 v7 (deLi (bd b)).B.length (cellsOf (deLi (bd b)).B) := a7.chg ((q7 _).trans (k8.chg [K4.n]) (fun x hx => .inl hx)) (fun y hy => by have := f7 y (mem_blkL.1 hy); simp; omega)
    have kk : ∀ o, Keeps H (K.set H.n o) := fun o => ⟨by rw [set_n]; omega, fun y hy => by
      rw [AHeap.get_set_other _ (by omega) p8, hget _ (by omega) (by omega), k.get _ (by rw [alloc_n]; omega)]; exact k0.get _ hy⟩
    have f8 : Fresh H.n v7 := fun y hy => by have := f7 y hy; omega
    by_cases hc : frm 5 b = true ∧ (bd b).length = 0 + 1 + 1 + 8 + 8 + 2 + na (bd b) (0 + 1 + 1 + 8 + 8) 2 ∧ okLi (deLi (bd b)) = true
    · rw [if_pos hc]
      have ge : geLi b = some (deLi (bd b)) := by
        unfold geLi pdLi
        rw [if_pos hc.1, if_pos ⟨by have := hc.2.1; simp only [Nat.zero_add] at this; exact this, hc.2.2⟩]
      have lx : (cLi v7 (deLi (bd b))).length = 5 := rfl
      have ox : (cLi v7 (deLi (bd b))).all Value.oneCell' = true := by simp only [cLi, List.all_cons, List.all_nil, ho7]; rfl
      simp (disch := (first | assumption | omega | (simp only [List.length_cons, List.length_nil] <;> omega) | (simp only [alloc_n, set_n] <;> omega) | (simp (disch := (first | assumption | omega | (simp only [alloc_n, set_n] <;> omega))) only [row_alloc, row_set]; assumption))) only [W_block, ANs, A3s, AOp.map, ↓reduceIte, Nat.reduceAdd, Nat.reduceEqDiff, reduceCtorEq, initFr, Nat.reduceLT, clsA, List.take, List.drop, Nat.reduceLeDiff, Nat.reduceMul, Nat.reduceSub, reduceIte, ANc, A3c, GotV, g8, ox, lx]
      refine hq2 _ _ ⟨_, by rw [hr]; simp (disch := (first | assumption | omega | (simp only [List.length_cons, List.length_nil] <;> omega) | (simp only [alloc_n, set_n] <;> omega) | (simp (disch := (first | assumption | omega | (simp only [alloc_n, set_n] <;> omega))) only [row_alloc, row_set]; assumption))) only [W_block, ANs, A3s, AOp.map, ↓reduceIte, Nat.reduceAdd, Nat.reduceEqDiff, reduceCtorEq, initFr, Nat.reduceLT, clsA, List.take, List.drop, Nat.reduceLeDiff, Nat.reduceMul, Nat.reduceSub, reduceIte, ANc, A3c, g8, ox, lx]; rfl, kk _, v7, f8, ?_⟩
      rw [ge]
      exact ⟨rfl, a8.chg (Chg.set K p8 _) (fun y hy => by have := f7 y (mem_blkL.1 hy); simp; omega)⟩
    · rw [if_neg hc]
      have ge : geLi b = none := by
        unfold geLi pdLi
        split
        · rename_i hf
          rw [if_neg (fun h => hc ⟨hf, by have := h.1; simp only [Nat.zero_add]; exact this, h.2⟩)]
        · rfl
      simp (disch := (first | assumption | omega | (simp only [List.length_cons, List.length_nil] <;> omega) | (simp only [alloc_n, set_n] <;> omega) | (simp (disch := (first | assumption | omega | (simp only [alloc_n, set_n] <;> omega))) only [row_alloc, row_set]; assumption))) only [W_block, ANs, A3s, AOp.map, ↓reduceIte, Nat.reduceAdd, Nat.reduceEqDiff, reduceCtorEq, initFr, Nat.reduceLT, clsA, List.take, List.drop, Nat.reduceLeDiff, Nat.reduceMul, Nat.reduceSub, reduceIte, ANc, A3c, GotV, g8, ozz, lz]
      refine hq2 _ _ ⟨_, by rw [hr]; simp (disch := (first | assumption | omega | (simp only [List.length_cons, List.length_nil] <;> omega) | (simp only [alloc_n, set_n] <;> omega) | (simp (disch := (first | assumption | omega | (simp only [alloc_n, set_n] <;> omega))) only [row_alloc, row_set]; assumption))) only [W_block, ANs, A3s, AOp.map, ↓reduceIte, Nat.reduceAdd, Nat.reduceEqDiff, reduceCtorEq, initFr, Nat.reduceLT, clsA, List.take, List.drop, Nat.reduceLeDiff, Nat.reduceMul, Nat.reduceSub, reduceIte, ANc, A3c, g8, ozz, lz]; rfl, kk _, .slice none 0 0, fun b hb => (by cases hb), ?_⟩
      rw [ge]
      rfl
end Go.AM.Fd

set_option linter.unusedSimpArgs false
set_option linter.unusedVariables false
namespace Go.AM.Fd
open Go.Proofs Go.AM.F
theorem RR.gc {P : Program} {ng : Nat} {f : FuncId} {args : List Value} {H H' : AHeap} {lo hi r s s' : Nat} {l : List UInt8} {k : IntKind} {n : Int} (h : RR H lo hi r l s) (a : ARun P ng f args H (.int k n) H') (h' : RR H' lo hi r l s') (c : Chg [r] H H') :
    ∃ o, ARun P ng f args H (.int k n) (H.set r o) ∧ RR (H.set r o) lo hi r l s' := by
  obtain ⟨h1, h2, h3, bv, h4, h5, v0, g0, _⟩ := h
  obtain ⟨_, _, h3', bv', h4', h5', v', g', hv'⟩ := h'
  have gs : (H.set r (.cells true false 2 [v', .bool (decide (l.length < s'))] 171)).get r = some (.cells true false 2 [v', .bool (decide (l.length < s'))] 171) := AHeap.get_set_same g0 _
  have hrn := AHeap.get_lt g0
  have old : ∀ b, b ≠ r → (H.set r (.cells true false 2 [v', .bool (decide (l.length < s'))] 171)).get b = H.get b := fun b hb => AHeap.get_set_other _ hb hrn _
  refine ⟨.cells true false 2 [v', .bool (decide (l.length < s'))] 171, ?_, h1, h2, h3, bv', h4', h5', v', gs, ?_⟩
  · refine a.gcs [] rfl (by simp) (by simp) ?_ (by simp) (.inr (.int _ _))
    intro b o' hb ho
    by_cases hbr : b = r
    · subst hbr
      rw [g'] at ho; cases ho
      refine .inr ⟨_, gs, true, _, rfl, fun x => x, .cons ?_ (.cons (.bool _) .nil)⟩
      rcases hv' with ⟨rfl, _⟩ | ⟨o, c2, rm, rfl, _⟩
      · exact .nilSl
      · exact .sl (rho_old (by omega))
    · rw [Chg1.get c hb hbr] at ho
      exact .inl ⟨ho, by rw [old b hbr]; exact ho⟩
  · rcases hv' with ⟨rfl, e1, e2⟩ | ⟨o, c2, rm, rfl, e1, e2, e3, e4⟩
    · exact .inl ⟨rfl, e1, e2⟩
    · exact .inr ⟨o, c2, rm, rfl, by rw [old _ e2, ← Chg1.get c (by omega) e2]; exact e1, e2, e3, e4⟩
section
variable {H : AHeap} {lo hi r s : Nat} {l : List UInt8}
theorem e63 (h : RR H lo hi r l s) (hl : l.length ≤ 1000000000) : ∃ v H', ARun Go.Proofs.Try.prog 0 63 [ptr r 0] H v H' ∧ v = .int .u8 (na l s 1 : Nat) ∧ ∃ o, H' = H.set r o ∧ RR (H.set r o) lo hi r l (s + 1) := by
  obtain ⟨_, H', a, rfl, b, c⟩ := q63 h hl
  obtain ⟨o, p, q⟩ := h.gc a b c
  exact ⟨_, _, p, rfl, o, rfl, q⟩
theorem e65 (h : RR H lo hi r l s) (hl : l.length ≤ 1000000000) : ∃ v H', ARun Go.Proofs.Try.prog 0 65 [ptr r 0] H v H' ∧ v = .int .u32 (na l s 4 : Nat) ∧ ∃ o, H' = H.set r o ∧ RR (H.set r o) lo hi r l (s + 4) := by
  obtain ⟨_, H', a, rfl, b, c⟩ := q65 h hl
  obtain ⟨o, p, q⟩ := h.gc a b c
  exact ⟨_, _, p, rfl, o, rfl, q⟩
theorem e64 (h : RR H lo hi r l s) (hl : l.length ≤ 1000000000) : ∃ v H', ARun Go.Proofs.Try.prog 0 64 [ptr r 0] H v H' ∧ v = .int .u64 (na l s 8 : Nat) ∧ ∃ o, H' = H.set r o ∧ RR (H.set r o) lo hi r l (s + 8) := by
  obtain ⟨_, H', a, rfl, b, c⟩ := q64 h hl
  obtain ⟨o, p, q⟩ := h.gc a b c
  exact ⟨_, _, p, rfl, o, rfl, q⟩
theorem RR.alloc (h : RR H lo hi r l s) (o : AO) : RR (H.alloc o) lo hi r l s := h.keeps ((Keeps.refl H).alloc o)
theorem RR.upto {H' : AHeap} (h : RR H lo hi r l s) (hn : H.n ≤ H'.n) (k : ∀ y, y < hi → H'.get y = H.get y) : RR H' lo hi r l s := by
  obtain ⟨h1, h2, h3, bv, h4, h5, v, g, hv⟩ := h
  refine ⟨h1, h2, by omega, bv, h4, h5, v, by rw [k _ h2]; exact g, ?_⟩
  rcases hv with h | ⟨o, c, rm, e0, e1, e2⟩
  · exact .inl h
  · exact .inr ⟨o, c, rm, e0, by rw [k _ h5]; exact e1, e2⟩
theorem RR.lt (h : RR H lo hi r l s) : r < H.n := Nat.lt_of_lt_of_le h.2.1 h.2.2.1
theorem RR.set (h : RR H lo hi r l s) {b : Nat} (hb : hi ≤ b) (hn : b < H.n) (o : AO) : RR (H.set b o) lo hi r l s := h.chg (Chg.set H hn o) (.inr hb)
end
theorem fill6 (ch : Nat) (cy : Int) (oc no re : Nat) (v : Value) : fillA [.int .u8 0, .int .i64 0, .int .u64 0, .int .u32 0, .int .u32 0, .slice none 0 0] [(0, 1, .int .u8 (ch : Nat)), (1, 1, .int .i64 cy), (2, 4, .agg #[.int .u64 (oc : Nat), .int .u32 (no : Nat), .int .u32 (re : Nat), .slice none 0 0])] = some (cI6 (.slice none 0 0) ⟨ch, cy, oc, no, re, []⟩) := rfl
theorem fill4 (oc no re : Nat) : fillA [.int .u64 0, .int .u32 0, .int .u32 0, .slice none 0 0] [(0, 1, .int .u64 (oc : Nat)), (1, 1, .int .u32 (no : Nat)), (2, 1, .int .u32 (re : Nat))] = some [.int .u64 (oc : Nat), .int .u32 (no : Nat), .int .u32 (re : Nat), .slice none 0 0] := rfl
theorem fillC (k : Nat) (n : Int) : fillA [.int .u8 0, .int .i64 0] [(0, 1, .int .u8 (k : Nat)), (1, 1, .int .i64 n)] = some [.int .u8 (k : Nat), .int .i64 n] := rfl
theorem fillP (x y : Int) : fillA [.int .u8 0, .int .i64 0] [(0, 2, .agg #[.int .u8 x, .int .i64 y])] = some [.int .u8 x, .int .i64 y] := rfl
def I6R (H H' : AHeap) (w : Value) (o : Option I6) : Prop := ∃ vc, Fresh H.n vc ∧ match o with
  | some x => w = GotV (cI6 vc x) 0 ∧ AP H' 108 2 vc x.cs.length (CC x.cs).flatten
  | none => w = GotV (cI6 (.slice none 0 0) I60) 130
theorem t12 {H : AHeap} {v : Value} {b : List UInt8} (hb : BQ H v b) (hl : b.length ≤ 1000000000) : ∃ w H', ARun Go.Proofs.Try.prog 0 12 [v] H w H' ∧ Keeps H H' ∧ I6R H H' w (geI6 b) := by
  refine walk2 f12_ok f12_n ?_
  intro Q hq1 hq2
  have hr : ∀ fr H', resO f12.res fr H' = (celln 6 (fr.getD 1 undef) H').map fun c => .tuple #[c, fr.getD 2 undef] := fun fr H' => resCT 6 1 2 fr
  have k0 := (Keeps.refl H).alloc (.cells true false 6 (cI6 (.slice none 0 0) I60) 30)
  have g0 := AHeap.get_alloc_new H (.cells true false 6 (cI6 (.slice none 0 0) I60) 30)
  have lz : (cI6 (.slice none 0 0) I60).length = 6 := rfl
  have ozz : (cI6 (.slice none 0 0) I60).all Value.oneCell' = true := rfl
  simp (disch := (first | assumption | omega | (simp only [List.length_cons, List.length_nil] <;> omega) | (simp only [alloc_n, set_n] <;> omega) | (simp (disch := (first | assumption | omega | (simp only [alloc_n, set_n] <;> omega))) only [row_alloc, row_set]; assumption))) only [f12, W_block, ANs, A3s, AOp.map, ↓reduceIte, Nat.reduceAdd, Nat.reduceEqDiff, reduceCtorEq, initFr, Nat.reduceLT, clsA, List.take, List.drop, Nat.reduceLeDiff, Nat.reduceMul, Nat.reduceSub, reduceIte, ANc, A3c, ozz]
  refine callK (t62 (hb.keeps (by ((repeat (first | exact Keeps.refl _ | assumption | refine Keeps.alloc ?_ _ | (refine Keeps.set ?_ (by first | omega | (simp only [alloc_n, set_n] <;> omega)) (by first | omega | (simp only [alloc_n, set_n] <;> omega)) _) | (refine Keeps.trans' (by assumption) ?_)))))) 1 (by omega) hl) ?_
  rintro _ K0 ⟨k, ⟨rfl, rfl, hf⟩ | ⟨r, rfl, r0⟩⟩
  · simp (disch := (first | assumption | omega | (simp only [List.length_cons, List.length_nil] <;> omega) | (simp only [alloc_n, set_n] <;> omega) | (simp (disch := (first | assumption | omega | (simp only [alloc_n, set_n] <;> omega))) only [row_alloc, row_set]; assumption))) only [W_block, ANs, A3s, AOp.map, ↓reduceIte, Nat.reduceAdd, Nat.reduceEqDiff, reduceCtorEq, initFr, Nat.reduceLT, clsA, List.take, List.drop, Nat.reduceLeDiff, Nat.reduceMul, Nat.reduceSub, reduceIte, ANc, A3c]
    refine callK (n63 _) ?_
    rintro _ _ ⟨rfl, rfl⟩
    simp (disch := (first | assumption | omega | (simp only [List.length_cons, List.length_nil] <;> omega) | (simp only [alloc_n, set_n] <;> omega) | (simp (disch := (first | assumption | omega | (simp only [alloc_n, set_n] <;> omega))) only [row_alloc, row_set]; assumption))) only [W_block, ANs, A3s, AOp.map, ↓reduceIte, Nat.reduceAdd, Nat.reduceEqDiff, reduceCtorEq, initFr, Nat.reduceLT, clsA, List.take, List.drop, Nat.reduceLeDiff, Nat.reduceMul, Nat.reduceSub, reduceIte, ANc, A3c]
    refine callK (n64 _) ?_
    rintro _ _ ⟨rfl, rfl⟩
    simp (disch := (first | assumption | omega | (simp only [List.length_cons, List.length_nil] <;> omega) | (simp only [alloc_n, set_n] <;> omega) | (simp (disch := (first | assumption | omega | (simp only [alloc_n, set_n] <;> omega))) only [row_alloc, row_set]; assumption))) only [W_block, ANs, A3s, AOp.map, ↓reduceIte, Nat.reduceAdd, Nat.reduceEqDiff, reduceCtorEq, initFr, Nat.reduceLT, clsA, List.take, List.drop, Nat.reduceLeDiff, Nat.reduceMul, Nat.reduceSub, reduceIte, ANc, A3c]
    refine callK (n64 _) ?_
    rintro _ _ ⟨rfl, rfl⟩
    simp (disch := (first | assumption | omega | (simp only [List.length_cons, List.length_nil] <;> omega) | (simp only [alloc_n, set_n] <;> omega) | (simp (disch := (first | assumption | omega | (simp only [alloc_n, set_n] <;> omega))) only [row_alloc, row_set]; assumption))) only [W_block, ANs, A3s, AOp.map, ↓reduceIte, Nat.reduceAdd, Nat.reduceEqDiff, reduceCtorEq, initFr, Nat.reduceLT, clsA, List.take, List.drop, Nat.reduceLeDiff, Nat.reduceMul, Nat.reduceSub, reduceIte, ANc, A3c]
    refine callK (n65 _) ?_
    rintro _ _ ⟨rfl, rfl⟩
    simp (disch := (first | assumption | omega | (simp only [List.length_cons, List.length_nil] <;> omega) | (simp only [alloc_n, set_n] <;> omega) | (simp (disch := (first | assumption | omega | (simp only [alloc_n, set_n] <;> omega))) only [row_alloc, row_set]; assumption))) only [W_block, ANs, A3s, AOp.map, ↓reduceIte, Nat.reduceAdd, Nat.reduceEqDiff, reduceCtorEq, initFr, Nat.reduceLT, clsA, List.take, List.drop, Nat.reduceLeDiff, Nat.reduceMul, Nat.reduceSub, reduceIte, ANc, A3c]
    refine callK (n65 _) ?_
    rintro _ _ ⟨rfl, rfl⟩
    have f4 := fill4 0 0 0
    have f6 := fill6 0 (IntKind.i64.wrap 0) 0 0 0 (.slice none 0 0)
    simp only [Int.natCast_zero] at f4 f6
    simp (disch := (first | assumption | omega | (simp only [List.length_cons, List.length_nil] <;> omega) | (simp only [alloc_n, set_n] <;> omega) | (simp (disch := (first | assumption | omega | (simp only [alloc_n, set_n] <;> omega))) only [row_alloc, row_set]; assumption))) only [W_block, ANs, A3s, AOp.map, ↓reduceIte, Nat.reduceAdd, Nat.reduceEqDiff, reduceCtorEq, initFr, Nat.reduceLT, clsA, List.take, List.drop, Nat.reduceLeDiff, Nat.reduceMul, Nat.reduceSub, reduceIte, ANc, A3c, f4, f6, cI6]
    refine callK (n63 _) ?_
    rintro _ _ ⟨rfl, rfl⟩
    simp (disch := (first | assumption | omega | (simp only [List.length_cons, List.length_nil] <;> omega) | (simp only [alloc_n, set_n] <;> omega) | (simp (disch := (first | assumption | omega | (simp only [alloc_n, set_n] <;> omega))) only [row_alloc, row_set]; assumption))) only [W_block, ANs, A3s, AOp.map, ↓reduceIte, Nat.reduceAdd, Nat.reduceEqDiff, reduceCtorEq, initFr, Nat.reduceLT, clsA, List.take, List.drop, Nat.reduceLeDiff, Nat.reduceMul, Nat.reduceSub, reduceIte, ANc, A3c]
    refine W_loop2 (fun q fr K => fr = [v, ptr H.n 0, .int .i64 0, .pointer none, .bool false, ptr (H.n + 1) 0, .int .u8 0, .int .u8 0, undef] ∧ K = (H.alloc (.cells true false 6 (cI6 (.slice none 0 0) I60) 30)).alloc (.cells true false 6 (cI6 (.slice none 0 0) I60) 30)) 0 ⟨rfl, rfl⟩ ?_
    rintro Q' q _ _ ⟨rfl, rfl⟩ hn' he hrt
    simp (disch := (first | assumption | omega | (simp only [List.length_cons, List.length_nil] <;> omega) | (simp only [alloc_n, set_n] <;> omega) | (simp (disch := (first | assumption | omega | (simp only [alloc_n, set_n] <;> omega))) only [row_alloc, row_set]; assumption))) only [W_block, ANs, A3s, AOp.map, ↓reduceIte, Nat.reduceAdd, Nat.reduceEqDiff, reduceCtorEq, initFr, Nat.reduceLT, clsA, List.take, List.drop, Nat.reduceLeDiff, Nat.reduceMul, Nat.reduceSub, reduceIte, ANc, A3c, ozz]
    refine he _ _ _ ?_
    simp (disch := (first | assumption | omega | (simp only [List.length_cons, List.length_nil] <;> omega) | (simp only [alloc_n, set_n] <;> omega) | (simp (disch := (first | assumption | omega | (simp only [alloc_n, set_n] <;> omega))) only [row_alloc, row_set]; assumption))) only [W_block, ANs, A3s, AOp.map, ↓reduceIte, Nat.reduceAdd, Nat.reduceEqDiff, reduceCtorEq, initFr, Nat.reduceLT, clsA, List.take, List.drop, Nat.reduceLeDiff, Nat.reduceMul, Nat.reduceSub, reduceIte, ANc, A3c, ozz, lz]
    refine callK (n66 I60 (Sl.nil _ _)) ?_
    rintro _ K3 ⟨k3, rfl⟩
    have n3 := k3.n
    simp only [alloc_n] at n3
    have g3 := AHeap.get_alloc_new H (.cells true false 6 (cI6 (.slice none 0 0) I60) 30)
    simp (disch := (first | assumption | omega | (simp only [List.length_cons, List.length_nil] <;> omega) | (simp only [alloc_n, set_n] <;> omega) | (simp (disch := (first | assumption | omega | (simp only [alloc_n, set_n] <;> omega))) only [row_alloc, row_set, Keeps.row k3]; assumption))) only [Keeps.get k3, Keeps.row k3, W_block, ANs, A3s, AOp.map, ↓reduceIte, Nat.reduceAdd, Nat.reduceEqDiff, reduceCtorEq, initFr, Nat.reduceLT, clsA, List.take, List.drop, Nat.reduceLeDiff, Nat.reduceMul, Nat.reduceSub, reduceIte, ANc, A3c, GotV, ozz, lz]
    refine hq2 _ _ ⟨_, by rw [hr]; simp (disch := (first | assumption | omega | (simp only [List.length_cons, List.length_nil] <;> omega) | (simp only [alloc_n, set_n] <;> omega) | (simp (disch := (first | assumption | omega | (simp only [alloc_n, set_n] <;> omega))) only [row_alloc, row_set, Keeps.row k3]; assumption))) only [Keeps.get k3, Keeps.row k3, W_block, ANs, A3s, AOp.map, ↓reduceIte, Nat.reduceAdd, Nat.reduceEqDiff, reduceCtorEq, initFr, Nat.reduceLT, clsA, List.take, List.drop, Nat.reduceLeDiff, Nat.reduceMul, Nat.reduceSub, reduceIte, ANc, A3c, ozz, lz]; rfl, ?_, .slice none 0 0, fun b hb => (by cases hb), ?_⟩
    · ((repeat (first | exact Keeps.refl _ | assumption | refine Keeps.alloc ?_ _ | (refine Keeps.set ?_ (by first | omega | (simp only [alloc_n, set_n] <;> omega)) (by first | omega | (simp only [alloc_n, set_n] <;> omega)) _) | (refine Keeps.trans' (by assumption) ?_))))
    · have ge : geI6 b = none := by unfold geI6; rw [hf]; rfl
      rw [ge]
      rfl
  · have hn0 := k.n
    simp only [alloc_n] at hn0
    have hlb := bd_le hl
    have hrl : H.n + 1 ≤ r := r0.1
    have hrk : r < K0.n := r0.2.1
    simp (disch := (first | assumption | omega | (simp only [List.length_cons, List.length_nil] <;> omega) | (simp only [alloc_n, set_n] <;> omega) | (simp (disch := (first | assumption | omega | (simp only [alloc_n, set_n] <;> omega))) only [row_alloc, row_set]; assumption))) only [W_block, ANs, A3s, AOp.map, ↓reduceIte, Nat.reduceAdd, Nat.reduceEqDiff, reduceCtorEq, initFr, Nat.reduceLT, clsA, List.take, List.drop, Nat.reduceLeDiff, Nat.reduceMul, Nat.reduceSub, reduceIte, ANc, A3c]
    refine callK (e63 r0 hlb) ?_
    rintro _ _ ⟨rfl, o1, rfl, r1⟩
    simp (disch := (first | assumption | omega | (simp only [List.length_cons, List.length_nil] <;> omega) | (simp only [alloc_n, set_n] <;> omega) | (simp (disch := (first | assumption | omega | (simp only [alloc_n, set_n] <;> omega))) only [row_alloc, row_set]; assumption))) only [W_block, ANs, A3s, AOp.map, ↓reduceIte, Nat.reduceAdd, Nat.reduceEqDiff, reduceCtorEq, initFr, Nat.reduceLT, clsA, List.take, List.drop, Nat.reduceLeDiff, Nat.reduceMul, Nat.reduceSub, reduceIte, ANc, A3c]
    refine callK (e64 r1 hlb) ?_
    rintro _ _ ⟨rfl, o2, rfl, r2⟩
    simp (disch := (first | assumption | omega | (simp only [List.length_cons, List.length_nil] <;> omega) | (simp only [alloc_n, set_n] <;> omega) | (simp (disch := (first | assumption | omega | (simp only [alloc_n, set_n] <;> omega))) only [row_alloc, row_set]; assumption))) only [W_block, ANs, A3s, AOp.map, ↓reduceIte, Nat.reduceAdd, Nat.reduceEqDiff, reduceCtorEq, initFr, Nat.reduceLT, clsA, List.take, List.drop, Nat.reduceLeDiff, Nat.reduceMul, Nat.reduceSub, reduceIte, ANc, A3c]
    rw [set_set] at r2
    refine callK (e64 r2 hlb) ?_
    rintro _ _ ⟨rfl, o3, rfl, r3⟩
    simp (disch := (first | assumption | omega | (simp only [List.length_cons, List.length_nil] <;> omega) | (simp only [alloc_n, set_n] <;> omega) | (simp (disch := (first | assumption | omega | (simp only [alloc_n, set_n] <;> omega))) only [row_alloc, row_set]; assumption))) only [W_block, ANs, A3s, AOp.map, ↓reduceIte, Nat.reduceAdd, Nat.reduceEqDiff, reduceCtorEq, initFr, Nat.reduceLT, clsA, List.take, List.drop, Nat.reduceLeDiff, Nat.reduceMul, Nat.reduceSub, reduceIte, ANc, A3c]
    rw [set_set] at r3
    refine callK (e65 r3 hlb) ?_
    rintro _ _ ⟨rfl, o4, rfl, r4⟩
    simp (disch := (first | assumption | omega | (simp only [List.length_cons, List.length_nil] <;> omega) | (simp only [alloc_n, set_n] <;> omega) | (simp (disch := (first | assumption | omega | (simp only [alloc_n, set_n] <;> omega))) only [row_alloc, row_set]; assumption))) only [W_block, ANs, A3s, AOp.map, ↓reduceIte, Nat.reduceAdd, Nat.reduceEqDiff, reduceCtorEq, initFr, Nat.reduceLT, clsA, List.take, List.drop, Nat.reduceLeDiff, Nat.reduceMul, Nat.reduceSub, reduceIte, ANc, A3c]
    rw [set_set] at r4
    refine callK (e65 r4 hlb) ?_
    rintro _ _ ⟨rfl, o5, rfl, r5⟩
    rw [set_set] at r5
    simp (disch := (first | assumption | omega | (simp only [List.length_cons, List.length_nil] <;> omega) | (simp only [alloc_n, set_n] <;> omega) | (simp (disch := (first | assumption | omega | (simp only [alloc_n, set_n] <;> omega))) only [row_alloc, row_set]; assumption))) only [W_block, ANs, A3s, AOp.map, ↓reduceIte, Nat.reduceAdd, Nat.reduceEqDiff, reduceCtorEq, initFr, Nat.reduceLT, clsA, List.take, List.drop, Nat.reduceLeDiff, Nat.reduceMul, Nat.reduceSub, reduceIte, ANc, A3c, fill4, fill6, cI6]
    have c0 := Chg.set K0 hrk o5
    refine callK (e63 (r5.alloc _) hlb) ?_
    rintro _ _ ⟨rfl, o6, rfl, r6⟩
    rw [set_old _ _ (show r < (K0.set r o5).n from hrk), set_set] at r6
    simp (disch := (first | assumption | omega | (simp only [List.length_cons, List.length_nil] <;> omega) | (simp only [alloc_n, set_n] <;> omega) | (simp (disch := (first | assumption | omega | (simp only [alloc_n, set_n] <;> omega))) only [row_alloc, row_set]; assumption))) only [W_block, ANs, A3s, AOp.map, ↓reduceIte, Nat.reduceAdd, Nat.reduceEqDiff, reduceCtorEq, initFr, Nat.reduceLT, clsA, List.take, List.drop, Nat.reduceLeDiff, Nat.reduceMul, Nat.reduceSub, reduceIte, ANc, A3c]
    have hn256 := na1 (bd b) (0 + 1 + 8 + 8 + 4 + 4)
    obtain ⟨x, hx⟩ : ∃ x, x = deI6 (bd b) := ⟨_, rfl⟩
    obtain ⟨n, hn⟩ : ∃ n, n = na (bd b) (0 + 1 + 8 + 8 + 4 + 4) 1 := ⟨_, rfl⟩
    rw [← hn] at hn256 ⊢
    have cx : ∀ vc, cI6 vc x = [.int .u8 (na (bd b) 0 1 : Nat), .int .i64 (IntKind.i64.wrap (na (bd b) 1 8)), .int .u64 (na (bd b) 9 8 : Nat), .int .u32 (na (bd b) 17 4 : Nat), .int .u32 (na (bd b) 21 4 : Nat), vc] := fun vc => by rw [hx]; rfl
    have hxc : x.cs = deCs (bd b) n := by rw [hx, hn]; rfl
    refine W_loop2 (fun q fr K => ∃ (i : Nat) (vc e : Value), i ≤ n ∧ q = n - i ∧ RR K (H.n + 1) K0.n r (bd b) (26 + 2 * i) ∧ K.get K0.n = some (.cells true false 6 (cI6 vc x) 30) ∧ AP K 108 2 vc i (CC (deCs (bd b) i)).flatten ∧ Fresh (K0.n + 1) vc ∧ Chg [r] K0 K ∧
      fr = [v, ptr H.n 0, .int .i64 0, ptr r 0, .bool (frm 1 b), ptr K0.n 0, .int .u8 (n : Nat), .int .u8 (i : Nat), e]) n ⟨0, .slice none 0 0, undef, by omega, rfl, ?_, ?_, .inl ⟨rfl, rfl, rfl⟩, fun b hb => (by cases hb), ?_, rfl⟩ ?_
    · exact r6
    · rw [cx]; exact AHeap.get_alloc_new _ _
    · exact (Chg.set K0 hrk o6).trans (((Keeps.refl _).alloc _).chg []) (by simp)
    rintro Q' q fr K ⟨i, vc, e, hi, rfl, rr, gk, ap, fv, ck, rfl⟩ hnx hex hrt
    have hkn := AHeap.get_lt gk
    have hrK := rr.lt
    by_cases hc : i < n
    · simp (disch := (first | assumption | omega | (simp only [List.length_cons, List.length_nil] <;> omega) | (simp only [alloc_n, set_n] <;> omega) | (simp (disch := (first | assumption | omega | (simp only [alloc_n, set_n] <;> omega))) only [row_alloc, row_set]; assumption))) only [W_block, ANs, A3s, AOp.map, ↓reduceIte, Nat.reduceAdd, Nat.reduceEqDiff, reduceCtorEq, initFr, Nat.reduceLT, clsA, List.take, List.drop, Nat.reduceLeDiff, Nat.reduceMul, Nat.reduceSub, reduceIte, ANc, A3c, gk, cx]
      refine callK (e63 rr hlb) ?_
      rintro _ _ ⟨rfl, o7, rfl, r7⟩
      simp (disch := (first | assumption | omega | (simp only [List.length_cons, List.length_nil] <;> omega) | (simp only [alloc_n, set_n] <;> omega) | (simp (disch := (first | assumption | omega | (simp only [alloc_n, set_n] <;> omega))) only [row_alloc, row_set]; assumption))) only [W_block, ANs, A3s, AOp.map, ↓reduceIte, Nat.reduceAdd, Nat.reduceEqDiff, reduceCtorEq, initFr, Nat.reduceLT, clsA, List.take, List.drop, Nat.reduceLeDiff, Nat.reduceMul, Nat.reduceSub, reduceIte, ANc, A3c, gk, cx, ite_self]
      refine callK (e63 r7 hlb) ?_
      rintro _ _ ⟨rfl, o8, rfl, r8⟩
      rw [set_set] at r8
      have w7 : IntKind.i64.wrap (na (bd b) (26 + 2 * i + 1) 1 : Nat) = (na (bd b) (26 + 2 * i + 1) 1 : Nat) := by
        have := na1 (bd b) (26 + 2 * i + 1)
        exact wrap_i64 (by omega) (by omega)
      simp (disch := (first | assumption | omega | (simp only [List.length_cons, List.length_nil] <;> omega) | (simp only [alloc_n, set_n] <;> omega) | (simp (disch := (first | assumption | omega | (simp only [alloc_n, set_n] <;> omega))) only [row_alloc, row_set]; assumption))) only [W_block, ANs, A3s, AOp.map, ↓reduceIte, Nat.reduceAdd, Nat.reduceEqDiff, reduceCtorEq, initFr, Nat.reduceLT, clsA, List.take, List.drop, Nat.reduceLeDiff, Nat.reduceMul, Nat.reduceSub, reduceIte, ANc, A3c, gk, cx, fillC, fillP, ite_self, w7]
      obtain ⟨e7, he7⟩ : ∃ e7 : List Value, e7 = [.int .u8 (na (bd b) (26 + 2 * i) 1 : Nat), .int .i64 (na (bd b) (26 + 2 * i + 1) 1 : Nat)] := ⟨_, rfl⟩
      rw [← he7]
      have apn : AP ((K.set r o8).alloc (.cells true false 2 e7 108)) 108 2 vc i (CC (deCs (bd b) i)).flatten :=
        ap.chg ((Chg.set K hrK o8).trans (((Keeps.refl _).alloc _).chg [r]) (fun x hx => .inl hx)) (fun y hy => by have := fv y (mem_blkL.1 hy); simp; omega)
      refine appGD apn ⟨_, _, rfl⟩ (elems_new rfl (by rw [he7]; rfl)) (by rw [he7]; rfl) (by omega) ?_
      intro v9 H9 ap9 c9 hb9
      have n9 := c9.n
      simp only [alloc_n, set_n] at n9 hb9
      have fv9 : Fresh (K0.n + 1) v9 := fun y hy => by
        rcases hb9 with e | e
        · exact fv y (by rw [← e]; exact hy)
        · rw [e] at hy; cases hy; omega
      have g9 : ∀ y, y < K0.n + 1 → H9.get y = (K.set r o8).get y := fun y hy => by
        rw [c9.get _ (by rw [alloc_n, set_n]; omega) (fun hz => by have := fv y (mem_blkL.1 hz); omega), AHeap.get_alloc_old _ _ (by rw [set_n]; omega)]
      have gk9 := g9 K0.n (by omega)
      rw [AHeap.get_set_other _ (by omega) hrK, gk] at gk9
      have ho9 : v9.oneCell' = true := by obtain ⟨a, e⟩ := ap9.shape; rw [e]; rfl
      simp (disch := (first | assumption | omega | (simp only [List.length_cons, List.length_nil] <;> omega) | (simp only [alloc_n, set_n] <;> omega) | (simp (disch := (first | assumption | omega | (simp only [alloc_n, set_n] <;> omega))) only [row_alloc, row_set]; assumption))) only [W_block, ANs, A3s, AOp.map, ↓reduceIte, Nat.reduceAdd, Nat.reduceEqDiff, reduceCtorEq, initFr, Nat.reduceLT, clsA, List.take, List.drop, Nat.reduceLeDiff, Nat.reduceMul, Nat.reduceSub, reduceIte, ANc, A3c, gk9, cx, ho9]
      have w8 : IntKind.u8.wrap ((i : Int) + 1) = ((i + 1 : Nat) : Int) := by rw [wrap_u8]; omega
      rw [w8]
      refine hnx _ _ _ ⟨i + 1, v9, _, by omega, rfl, ?_, by rw [cx]; exact AHeap.get_set_same gk9 _, ?_, fv9, ?_, rfl⟩ (by omega)
      · refine r8.upto (by simp only [set_n]; omega) (fun y hy => ?_)
        rw [AHeap.get_set_other _ (by omega) (by omega), g9 _ (by omega)]
      · have e9 : (CC (deCs (bd b) (i + 1))).flatten = (CC (deCs (bd b) i)).flatten ++ e7 := by
          rw [deCs_succ, he7]
          unfold CC
          rw [List.map_append, List.flatten_append]
          simp only [List.map_cons, List.map_nil, List.flatten_cons, List.flatten_nil, List.append_nil]
          rw [show 27 + 2 * i = 26 + 2 * i + 1 by omega]
        rw [e9]
        exact ap9.chg (Chg.set H9 (by omega) _) (fun y hy => by have := fv9 y (mem_blkL.1 hy); simp; omega)
      · refine ⟨by rw [set_n]; have := ck.n; omega, fun y hy hyr => ?_⟩
        rw [AHeap.get_set_other _ (by omega) (by omega), g9 _ (by omega), AHeap.get_set_other _ (by simpa using hyr) hrK, ck.get y hy hyr]
    · have hin : i = n := by omega
      subst hin
      simp (disch := (first | assumption | omega | (simp only [List.length_cons, List.length_nil] <;> omega) | (simp only [alloc_n, set_n] <;> omega) | (simp (disch := (first | assumption | omega | (simp only [alloc_n, set_n] <;> omega))) only [row_alloc, row_set]; assumption))) only [W_block, ANs, A3s, AOp.map, ↓reduceIte, Nat.reduceAdd, Nat.reduceEqDiff, reduceCtorEq, initFr, Nat.reduceLT, clsA, List.take, List.drop, Nat.reduceLeDiff, Nat.reduceMul, Nat.reduceSub, reduceIte, ANc, A3c]
      refine hex _ _ _ ?_
      have hsl : Sl K 2 vc (CC x.cs) := by
        rw [hxc]
        refine ap.sl (fun r hr => ?_) (by simp [CC, deCs_len])
        simp only [CC, List.mem_map] at hr
        obtain ⟨_, _, rfl⟩ := hr
        rfl
      have hone := hsl.one
      have lx : (cI6 vc x).length = 6 := rfl
      have ox : (cI6 vc x).all Value.oneCell' = true := by simp only [cI6, List.all_cons, List.all_nil, hone]; rfl
      simp (disch := (first | assumption | omega | (simp only [List.length_cons, List.length_nil] <;> omega) | (simp only [alloc_n, set_n] <;> omega) | (simp (disch := (first | assumption | omega | (simp only [alloc_n, set_n] <;> omega))) only [row_alloc, row_set]; assumption))) only [W_block, ANs, A3s, AOp.map, ↓reduceIte, Nat.reduceAdd, Nat.reduceEqDiff, reduceCtorEq, initFr, Nat.reduceLT, clsA, List.take, List.drop, Nat.reduceLeDiff, Nat.reduceMul, Nat.reduceSub, reduceIte, ANc, A3c, gk, lx]
      refine callK (t66 rr (frm 1 b) x hsl (by rw [hxc, deCs_len]; omega)) ?_
      rintro _ K9 ⟨k9, rfl⟩
      have n9 := k9.n
      have gH : K9.get H.n = some (.cells true false 6 (cI6 (.slice none 0 0) I60) 30) := by
        rw [k9.get _ (by omega), Chg1.get ck (by omega) (by omega), k.get _ (by rw [alloc_n]; omega)]; exact g0
      have pH := AHeap.get_lt gH
      have kk : ∀ o, Keeps H (K9.set H.n o) := fun o => ⟨by rw [set_n]; omega, fun y hy => by
        rw [AHeap.get_set_other _ (by omega) pH, k9.get _ (by omega), Chg1.get ck (by omega) (by omega), k.get _ (by rw [alloc_n]; omega)]; exact k0.get _ hy⟩
      by_cases hk : frm 1 b = true ∧ (bd b).length = 26 + 2 * i ∧ okI6 x = true
      · rw [if_pos hk]
        have ge : geI6 b = some x := by
          unfold geI6 pdI6
          simp only [Nat.zero_add, Nat.reduceAdd] at hn
          rw [if_pos hk.1, ← hn, ← hx, if_pos hk.2]
        simp (disch := (first | assumption | omega | (simp only [List.length_cons, List.length_nil] <;> omega) | (simp only [alloc_n, set_n] <;> omega) | (simp (disch := (first | assumption | omega | (simp only [alloc_n, set_n] <;> omega))) only [row_alloc, row_set]; assumption))) only [W_block, ANs, A3s, AOp.map, ↓reduceIte, Nat.reduceAdd, Nat.reduceEqDiff, reduceCtorEq, initFr, Nat.reduceLT, clsA, List.take, List.drop, Nat.reduceLeDiff, Nat.reduceMul, Nat.reduceSub, reduceIte, ANc, A3c, GotV, gH, ox, lx]
        refine hq2 _ _ ⟨_, by rw [hr]; simp (disch := (first | assumption | omega | (simp only [List.length_cons, List.length_nil] <;> omega) | (simp only [alloc_n, set_n] <;> omega) | (simp (disch := (first | assumption | omega | (simp only [alloc_n, set_n] <;> omega))) only [row_alloc, row_set]; assumption))) only [W_block, ANs, A3s, AOp.map, ↓reduceIte, Nat.reduceAdd, Nat.reduceEqDiff, reduceCtorEq, initFr, Nat.reduceLT, clsA, List.take, List.drop, Nat.reduceLeDiff, Nat.reduceMul, Nat.reduceSub, reduceIte, ANc, A3c, gH, ox, lx]; rfl, kk _, vc, fun y hy => by have := fv y hy; omega, ?_⟩
        rw [ge]
        refine ⟨rfl, ?_⟩
        rw [hxc, deCs_len]
        exact (ap.chg (k9.chg []) (by simp)).chg (Chg.set K9 pH _) (fun y hy => by have := fv y (mem_blkL.1 hy); simp; omega)
      · rw [if_neg hk]
        have ge : geI6 b = none := by
          unfold geI6 pdI6
          simp only [Nat.zero_add, Nat.reduceAdd] at hn
          rw [← hn, ← hx]
          split
          · rename_i hf
            rw [if_neg (fun h => hk ⟨hf, h⟩)]
          · rfl
        simp (disch := (first | assumption | omega | (simp only [List.length_cons, List.length_nil] <;> omega) | (simp only [alloc_n, set_n] <;> omega) | (simp (disch := (first | assumption | omega | (simp only [alloc_n, set_n] <;> omega))) only [row_alloc, row_set]; assumption))) only [W_block, ANs, A3s, AOp.map, ↓reduceIte, Nat.reduceAdd, Nat.reduceEqDiff, reduceCtorEq, initFr, Nat.reduceLT, clsA, List.take, List.drop, Nat.reduceLeDiff, Nat.reduceMul, Nat.reduceSub, reduceIte, ANc, A3c, GotV, gH, ozz, lz]
        refine hq2 _ _ ⟨_, by rw [hr]; simp (disch := (first | assumption | omega | (simp only [List.length_cons, List.length_nil] <;> omega) | (simp only [alloc_n, set_n] <;> omega) | (simp (disch := (first | assumption | omega | (simp only [alloc_n, set_n] <;> omega))) only [row_alloc, row_set]; assumption))) only [W_block, ANs, A3s, AOp.map, ↓reduceIte, Nat.reduceAdd, Nat.reduceEqDiff, reduceCtorEq, initFr, Nat.reduceLT, clsA, List.take, List.drop, Nat.reduceLeDiff, Nat.reduceMul, Nat.reduceSub, reduceIte, ANc, A3c, gH, ozz, lz]; rfl, kk _, .slice none 0 0, fun b hb => (by cases hb), ?_⟩
        rw [ge]
        rfl
end Go.AM.Fd

set_option linter.unusedSimpArgs false
set_option linter.unusedVariables false
namespace Go.AM.Fd
open Go.Proofs Go.AM.F
def kiB (b : List UInt8) : Nat := if (geI6 b).isSome then 1 else if (geOu b).isSome then 2 else if (geSt b).isSome then 3 else if (geLo b).isSome then 4 else if (geLi b).isSome then 5 else 0
theorem frm_no {k : Nat} {b : List UInt8} (h : 0 < b.length) (hk : k < 256) (hb : b[0].toNat ≠ k) : frm k b = false := by
  cases hf : frm k b with
  | false => rfl
  | true =>
    exfalso
    unfold frm at hf
    rw [List.getElem?_eq_getElem h] at hf
    simp only [Bool.and_eq_true, beq_iff_eq, Option.some.injEq] at hf
    apply hb
    rw [hf.2.1]
    simp; omega
theorem frm_nil (k : Nat) : frm k [] = false := by simp [frm]
theorem t28 {H : AHeap} {v : Value} {b : List UInt8} (hb : BQ H v b) (hl : b.length ≤ 1000000000) : ∃ w H', ARun Go.Proofs.Try.prog 0 28 [v] H w H' ∧ w = .int .u8 (kiB b : Nat) ∧ H' = H := by
  suffices h : ∃ w H', ARun Go.Proofs.Try.prog 0 28 [v] H w H' ∧ w = .int .u8 (kiB b : Nat) ∧ Keeps H H' by
    obtain ⟨_, _, a, rfl, k⟩ := h
    exact ⟨_, _, a.gc0 k (.inr (.int _ _)), rfl, rfl⟩
  refine walk2 f28_ok f28_n ?_
  intro Q hq1 hq2
  have hs := hb.bs.sl
  have his := hs.is
  have hlen := hs.len
  rw [List.length_map] at hlen
  by_cases h0 : b.length = 0
  · have hb0 : b = [] := List.length_eq_zero_iff.1 h0
    have e : kiB b = 0 := by
      subst hb0
      simp [kiB, geI6, geOu, geSt, geLo, geLi, frm_nil]
    simp (disch := (first | assumption | omega | (simp only [List.length_cons, List.length_nil] <;> omega) | (simp only [alloc_n, set_n] <;> omega) | (simp (disch := (first | assumption | omega | (simp only [alloc_n, set_n] <;> omega))) only [row_alloc, row_set]; assumption))) only [f28, W_block, ANs, A3s, AOp.map, ↓reduceIte, Nat.reduceAdd, Nat.reduceEqDiff, reduceCtorEq, initFr, Nat.reduceLT, clsA, List.take, List.drop, Nat.reduceLeDiff, Nat.reduceMul, Nat.reduceSub, reduceIte, ANc, A3c, hlen]
    exact hq2 _ _ ⟨_, rfl, by rw [e]; rfl, Keeps.refl _⟩
  · have hpos : 0 < b.length := by omega
    obtain ⟨hnn, hrow⟩ := hs.at_ (by omega) (i := 0) (by rw [List.length_map]; omega)
    have hbn := hs.bn_le (by intro e; simp at e; subst e; exact h0 rfl) (by omega)
    rw [List.getElem_map] at hrow
    have n1 : ∀ k, k < 256 → b[0].toNat ≠ k → frm k b = false := fun k hk h => frm_no hpos hk h
    obtain ⟨c, hc⟩ : ∃ c, c = b[0].toNat := ⟨_, rfl⟩
    rw [← hc] at hrow n1
    by_cases c1 : c = 1
    · subst c1
      simp (disch := (first | assumption | omega | (simp only [List.length_cons, List.length_nil] <;> omega) | (simp only [alloc_n, set_n] <;> omega) | (simp (disch := (first | assumption | omega | (simp only [alloc_n, set_n] <;> omega))) only [row_alloc, row_set]; assumption))) only [f28, W_block, ANs, A3s, AOp.map, ↓reduceIte, Nat.reduceAdd, Nat.reduceEqDiff, reduceCtorEq, initFr, Nat.reduceLT, clsA, List.take, List.drop, Nat.reduceLeDiff, Nat.reduceMul, Nat.reduceSub, reduceIte, ANc, A3c, hlen]
      refine callK (t12 hb hl) ?_
      rintro _ K ⟨k, vc, fv, hw⟩
      have e : kiB b = if (geI6 b).isSome then 1 else 0 := by
        simp [kiB, geOu, geSt, geLo, geLi, n1 2 (by omega) (by omega), n1 3 (by omega) (by omega), n1 4 (by omega) (by omega), n1 5 (by omega) (by omega)]
      cases hg : geI6 b with
      | none =>
        rw [hg] at hw
        subst hw
        simp (disch := (first | assumption | omega | (simp only [List.length_cons, List.length_nil] <;> omega) | (simp only [alloc_n, set_n] <;> omega) | (simp (disch := (first | assumption | omega | (simp only [alloc_n, set_n] <;> omega))) only [row_alloc, row_set, Keeps.row k]; assumption))) only [Keeps.get k, Keeps.row k, W_block, ANs, A3s, AOp.map, ↓reduceIte, Nat.reduceAdd, Nat.reduceEqDiff, reduceCtorEq, initFr, Nat.reduceLT, clsA, List.take, List.drop, Nat.reduceLeDiff, Nat.reduceMul, Nat.reduceSub, reduceIte, ANc, A3c, hlen, GotV]
        exact hq2 _ _ ⟨_, rfl, by rw [e, hg]; rfl, k⟩
      | some x =>
        rw [hg] at hw
        obtain ⟨rfl, _⟩ := hw
        simp (disch := (first | assumption | omega | (simp only [List.length_cons, List.length_nil] <;> omega) | (simp only [alloc_n, set_n] <;> omega) | (simp (disch := (first | assumption | omega | (simp only [alloc_n, set_n] <;> omega))) only [row_alloc, row_set, Keeps.row k]; assumption))) only [Keeps.get k, Keeps.row k, W_block, ANs, A3s, AOp.map, ↓reduceIte, Nat.reduceAdd, Nat.reduceEqDiff, reduceCtorEq, initFr, Nat.reduceLT, clsA, List.take, List.drop, Nat.reduceLeDiff, Nat.reduceMul, Nat.reduceSub, reduceIte, ANc, A3c, hlen, GotV]
        exact hq2 _ _ ⟨_, rfl, by rw [e, hg]; rfl, k⟩
    by_cases c2 : c = 2
    · subst c2
      simp (disch := (first | assumption | omega | (simp only [List.length_cons, List.length_nil] <;> omega) | (simp only [alloc_n, set_n] <;> omega) | (simp (disch := (first | assumption | omega | (simp only [alloc_n, set_n] <;> omega))) only [row_alloc, row_set]; assumption))) only [f28, W_block, ANs, A3s, AOp.map, ↓reduceIte, Nat.reduceAdd, Nat.reduceEqDiff, reduceCtorEq, initFr, Nat.reduceLT, clsA, List.take, List.drop, Nat.reduceLeDiff, Nat.reduceMul, Nat.reduceSub, reduceIte, ANc, A3c, hlen]
      refine callK (t16 hb hl) ?_
      rintro _ K ⟨k, hw⟩
      have e : kiB b = if (geOu b).isSome then 2 else 0 := by
        simp [kiB, geI6, geSt, geLo, geLi, n1 1 (by omega) (by omega), n1 3 (by omega) (by omega), n1 4 (by omega) (by omega), n1 5 (by omega) (by omega)]
      cases hg : geOu b with
      | none =>
        rw [hg] at hw
        subst hw
        simp (disch := (first | assumption | omega | (simp only [List.length_cons, List.length_nil] <;> omega) | (simp only [alloc_n, set_n] <;> omega) | (simp (disch := (first | assumption | omega | (simp only [alloc_n, set_n] <;> omega))) only [row_alloc, row_set, Keeps.row k]; assumption))) only [Keeps.get k, Keeps.row k, W_block, ANs, A3s, AOp.map, ↓reduceIte, Nat.reduceAdd, Nat.reduceEqDiff, reduceCtorEq, initFr, Nat.reduceLT, clsA, List.take, List.drop, Nat.reduceLeDiff, Nat.reduceMul, Nat.reduceSub, reduceIte, ANc, A3c, hlen, GotV]
        exact hq2 _ _ ⟨_, rfl, by rw [e, hg]; rfl, k⟩
      | some x =>
        rw [hg] at hw
        subst hw
        simp (disch := (first | assumption | omega | (simp only [List.length_cons, List.length_nil] <;> omega) | (simp only [alloc_n, set_n] <;> omega) | (simp (disch := (first | assumption | omega | (simp only [alloc_n, set_n] <;> omega))) only [row_alloc, row_set, Keeps.row k]; assumption))) only [Keeps.get k, Keeps.row k, W_block, ANs, A3s, AOp.map, ↓reduceIte, Nat.reduceAdd, Nat.reduceEqDiff, reduceCtorEq, initFr, Nat.reduceLT, clsA, List.take, List.drop, Nat.reduceLeDiff, Nat.reduceMul, Nat.reduceSub, reduceIte, ANc, A3c, hlen, GotV]
        exact hq2 _ _ ⟨_, rfl, by rw [e, hg]; rfl, k⟩
    by_cases c3 : c = 3
    · subst c3
      simp (disch := (first | assumption | omega | (simp only [List.length_cons, List.length_nil] <;> omega) | (simp only [alloc_n, set_n] <;> omega) | (simp (disch := (first | assumption | omega | (simp only [alloc_n, set_n] <;> omega))) only [row_alloc, row_set]; assumption))) only [f28, W_block, ANs, A3s, AOp.map, ↓reduceIte, Nat.reduceAdd, Nat.reduceEqDiff, reduceCtorEq, initFr, Nat.reduceLT, clsA, List.take, List.drop, Nat.reduceLeDiff, Nat.reduceMul, Nat.reduceSub, reduceIte, ANc, A3c, hlen]
      refine callK (t19 hb hl) ?_
      rintro _ K ⟨k, hw⟩
      have e : kiB b = if (geSt b).isSome then 3 else 0 := by
        simp [kiB, geI6, geOu, geLo, geLi, n1 1 (by omega) (by omega), n1 2 (by omega) (by omega), n1 4 (by omega) (by omega), n1 5 (by omega) (by omega)]
      cases hg : geSt b with
      | none =>
        rw [hg] at hw
        subst hw
        simp (disch := (first | assumption | omega | (simp only [List.length_cons, List.length_nil] <;> omega) | (simp only [alloc_n, set_n] <;> omega) | (simp (disch := (first | assumption | omega | (simp only [alloc_n, set_n] <;> omega))) only [row_alloc, row_set, Keeps.row k]; assumption))) only [Keeps.get k, Keeps.row k, W_block, ANs, A3s, AOp.map, ↓reduceIte, Nat.reduceAdd, Nat.reduceEqDiff, reduceCtorEq, initFr, Nat.reduceLT, clsA, List.take, List.drop, Nat.reduceLeDiff, Nat.reduceMul, Nat.reduceSub, reduceIte, ANc, A3c, hlen, GotV]
        exact hq2 _ _ ⟨_, rfl, by rw [e, hg]; rfl, k⟩
      | some x =>
        rw [hg] at hw
        subst hw
        simp (disch := (first | assumption | omega | (simp only [List.length_cons, List.length_nil] <;> omega) | (simp only [alloc_n, set_n] <;> omega) | (simp (disch := (first | assumption | omega | (simp only [alloc_n, set_n] <;> omega))) only [row_alloc, row_set, Keeps.row k]; assumption))) only [Keeps.get k, Keeps.row k, W_block, ANs, A3s, AOp.map, ↓reduceIte, Nat.reduceAdd, Nat.reduceEqDiff, reduceCtorEq, initFr, Nat.reduceLT, clsA, List.take, List.drop, Nat.reduceLeDiff, Nat.reduceMul, Nat.reduceSub, reduceIte, ANc, A3c, hlen, GotV]
        exact hq2 _ _ ⟨_, rfl, by rw [e, hg]; rfl, k⟩
    by_cases c4 : c = 4
    · subst c4
      simp (disch := (first | assumption | omega | (simp only [List.length_cons, List.length_nil] <;> omega) | (simp only [alloc_n, set_n] <;> omega) | (simp (disch := (first | assumption | omega | (simp only [alloc_n, set_n] <;> omega))) only [row_alloc, row_set]; assumption))) only [f28, W_block, ANs, A3s, AOp.map, ↓reduceIte, Nat.reduceAdd, Nat.reduceEqDiff, reduceCtorEq, initFr, Nat.reduceLT, clsA, List.take, List.drop, Nat.reduceLeDiff, Nat.reduceMul, Nat.reduceSub, reduceIte, ANc, A3c, hlen]
      refine callK (t21 hb hl) ?_
      rintro _ K ⟨k, hw⟩
      have e : kiB b = if (geLo b).isSome then 4 else 0 := by
        simp [kiB, geI6, geOu, geSt, geLi, n1 1 (by omega) (by omega), n1 2 (by omega) (by omega), n1 3 (by omega) (by omega), n1 5 (by omega) (by omega)]
      cases hg : geLo b with
      | none =>
        rw [hg] at hw
        subst hw
        simp (disch := (first | assumption | omega | (simp only [List.length_cons, List.length_nil] <;> omega) | (simp only [alloc_n, set_n] <;> omega) | (simp (disch := (first | assumption | omega | (simp only [alloc_n, set_n] <;> omega))) only [row_alloc, row_set, Keeps.row k]; assumption))) only [Keeps.get k, Keeps.row k, W_block, ANs, A3s, AOp.map, ↓reduceIte, Nat.reduceAdd, Nat.reduceEqDiff, reduceCtorEq, initFr, Nat.reduceLT, clsA, List.take, List.drop, Nat.reduceLeDiff, Nat.reduceMul, Nat.reduceSub, reduceIte, ANc, A3c, hlen, GotV]
        exact hq2 _ _ ⟨_, rfl, by rw [e, hg]; rfl, k⟩
      | some x =>
        rw [hg] at hw
        subst hw
        simp (disch := (first | assumption | omega | (simp only [List.length_cons, List.length_nil] <;> omega) | (simp only [alloc_n, set_n] <;> omega) | (simp (disch := (first | assumption | omega | (simp only [alloc_n, set_n] <;> omega))) only [row_alloc, row_set, Keeps.row k]; assumption))) only [Keeps.get k, Keeps.row k, W_block, ANs, A3s, AOp.map, ↓reduceIte, Nat.reduceAdd, Nat.reduceEqDiff, reduceCtorEq, initFr, Nat.reduceLT, clsA, List.take, List.drop, Nat.reduceLeDiff, Nat.reduceMul, Nat.reduceSub, reduceIte, ANc, A3c, hlen, GotV]
        exact hq2 _ _ ⟨_, rfl, by rw [e, hg]; rfl, k⟩
    by_cases c5 : c = 5
    · subst c5
      simp (disch := (first | assumption | omega | (simp only [List.length_cons, List.length_nil] <;> omega) | (simp only [alloc_n, set_n] <;> omega) | (simp (disch := (first | assumption | omega | (simp only [alloc_n, set_n] <;> omega))) only [row_alloc, row_set]; assumption))) only [f28, W_block, ANs, A3s, AOp.map, ↓reduceIte, Nat.reduceAdd, Nat.reduceEqDiff, reduceCtorEq, initFr, Nat.reduceLT, clsA, List.take, List.drop, Nat.reduceLeDiff, Nat.reduceMul, Nat.reduceSub, reduceIte, ANc, A3c, hlen]
      refine callK (t24 hb hl) ?_
      rintro _ K ⟨k, vb, fv, hw⟩
      have e : kiB b = if (geLi b).isSome then 5 else 0 := by
        simp [kiB, geI6, geOu, geSt, geLo, n1 1 (by omega) (by omega), n1 2 (by omega) (by omega), n1 3 (by omega) (by omega), n1 4 (by omega) (by omega)]
      cases hg : geLi b with
      | none =>
        rw [hg] at hw
        subst hw
        simp (disch := (first | assumption | omega | (simp only [List.length_cons, List.length_nil] <;> omega) | (simp only [alloc_n, set_n] <;> omega) | (simp (disch := (first | assumption | omega | (simp only [alloc_n, set_n] <;> omega))) only [row_alloc, row_set, Keeps.row k]; assumption))) only [Keeps.get k, Keeps.row k, W_block, ANs, A3s, AOp.map, ↓reduceIte, Nat.reduceAdd, Nat.reduceEqDiff, reduceCtorEq, initFr, Nat.reduceLT, clsA, List.take, List.drop, Nat.reduceLeDiff, Nat.reduceMul, Nat.reduceSub, reduceIte, ANc, A3c, hlen, GotV]
        exact hq2 _ _ ⟨_, rfl, by rw [e, hg]; rfl, k⟩
      | some x =>
        rw [hg] at hw
        obtain ⟨rfl, _⟩ := hw
        simp (disch := (first | assumption | omega | (simp only [List.length_cons, List.length_nil] <;> omega) | (simp only [alloc_n, set_n] <;> omega) | (simp (disch := (first | assumption | omega | (simp only [alloc_n, set_n] <;> omega))) only [row_alloc, row_set, Keeps.row k]; assumption))) only [Keeps.get k, Keeps.row k, W_block, ANs, A3s, AOp.map, ↓reduceIte, Nat.reduceAdd, Nat.reduceEqDiff, reduceCtorEq, initFr, Nat.reduceLT, clsA, List.take, List.drop, Nat.reduceLeDiff, Nat.reduceMul, Nat.reduceSub, reduceIte, ANc, A3c, hlen, GotV]
        exact hq2 _ _ ⟨_, rfl, by rw [e, hg]; rfl, k⟩
    · have e : kiB b = 0 := by
        simp [kiB, geI6, geOu, geSt, geLo, geLi, n1 1 (by omega) (by omega), n1 2 (by omega) (by omega), n1 3 (by omega) (by omega), n1 4 (by omega) (by omega), n1 5 (by omega) (by omega)]
      simp (disch := (first | assumption | omega | (simp only [List.length_cons, List.length_nil] <;> omega) | (simp only [alloc_n, set_n] <;> omega) | (simp (disch := (first | assumption | omega | (simp only [alloc_n, set_n] <;> omega))) only [row_alloc, row_set]; assumption))) only [f28, W_block, ANs, A3s, AOp.map, ↓reduceIte, Nat.reduceAdd, Nat.reduceEqDiff, reduceCtorEq, initFr, Nat.reduceLT, clsA, List.take, List.drop, Nat.reduceLeDiff, Nat.reduceMul, Nat.reduceSub, reduceIte, ANc, A3c, hlen]
      exact hq2 _ _ ⟨_, rfl, by rw [e]; rfl, Keeps.refl _⟩
end Go.AM.Fd

set_option linter.unusedSimpArgs false
set_option linter.unusedVariables false
namespace Go.AM.Fd
open Go.Proofs Go.AM.F
def strB (l : List UInt8) : Value := .string ⟨l.toArray⟩
theorem cLiG (v : Value) (x : Li) : (cLi v x)[0]? = some (.int .u8 (x.f : Nat)) ∧ (cLi v x)[1]? = some (.int .u8 (x.t : Nat)) ∧ (cLi v x)[2]? = some (.int .i64 x.q) ∧ (cLi v x)[3]? = some (.int .i64 x.k) ∧ (cLi v x)[4]? = some v := ⟨rfl, rfl, rfl, rfl, rfl⟩
theorem cI6G (v : Value) (x : I6) : (cI6 v x)[0]? = some (.int .u8 (x.ch : Nat)) ∧ (cI6 v x)[1]? = some (.int .i64 x.cy) ∧ (cI6 v x)[2]? = some (.int .u64 (x.oc : Nat)) ∧ (cI6 v x)[3]? = some (.int .u32 (x.no : Nat)) ∧ (cI6 v x)[4]? = some (.int .u32 (x.re : Nat)) ∧ (cI6 v x)[5]? = some v := ⟨rfl, rfl, rfl, rfl, rfl, rfl⟩
end Go.AM.Fd

set_option linter.unusedSimpArgs false
set_option linter.unusedVariables false
namespace Go.AM.Fd
open Go.Proofs Go.AM.F
theorem geOu_some {b : List UInt8} {y : Ou} (h : geOu b = some y) : fOu y = b ∧ rgOu y ∧ y = deOu (bd b) ∧ b.length = 34 := by
  unfold geOu at h
  split at h
  · rename_i hf
    have hd : y = deOu (bd b) := by unfold pdOu at h; split at h; exact (Option.some.inj h).symm; cases h
    obtain ⟨h1, h2, h3⟩ := pdOu_e h
    have h5 := frm_len hf
    have hl := enOu_len y
    rw [h1, bd_len] at hl
    refine ⟨?_, h3, hd, by omega⟩
    unfold fOu
    rw [if_pos h2, h1]
    exact (frm_eq hf).symm
  · cases h
theorem geOu_of {x : Ou} (hr : rgOu x) {b : List UInt8} (hb : b ≠ []) (h : fOu x = b) : geOu b = some x := by
  unfold fOu at h
  split at h
  · rename_i hok
    subst h
    unfold geOu
    have e : frm 2 (chk (2 :: enOu x)) = true := frm_chk (k := 2) _
    rw [if_pos e, bd_chk, pdOu_d hok hr]
  · exact absurd h.symm hb
theorem geSt_some {b : List UInt8} {y : St} (h : geSt b = some y) : fSt y = b ∧ rgSt y ∧ y = deSt (bd b) 0 ∧ b.length = 97 := by
  unfold geSt at h
  split at h
  · rename_i hf
    have hd : y = deSt (bd b) 0 := by unfold pdSt at h; split at h; exact (Option.some.inj h).symm; cases h
    obtain ⟨h1, h3⟩ := pdSt_e h
    have h5 := frm_len hf
    have hl := enSt_len h3.1
    rw [h1, bd_len] at hl
    refine ⟨?_, h3, hd, by omega⟩
    unfold fSt
    rw [h1]
    exact (frm_eq hf).symm
  · cases h
theorem geSt_of {x : St} (hr : rgSt x) {b : List UInt8} (h : fSt x = b) : geSt b = some x := by
  unfold fSt at h
  subst h
  unfold geSt
  have e : frm 3 (chk (3 :: enSt x)) = true := frm_chk (k := 3) _
  rw [if_pos e, bd_chk, pdSt_d hr]
theorem geLo_some {b : List UInt8} {y : Lo} (h : geLo b = some y) : fLo y = b ∧ rgSt y.s ∧ y = deLo (bd b) ∧ b.length = 113 := by
  unfold geLo at h
  split at h
  · rename_i hf
    have hd : y = deLo (bd b) := by unfold pdLo at h; split at h; exact (Option.some.inj h).symm; cases h
    obtain ⟨h1, h2, h3⟩ := pdLo_e h
    have h5 := frm_len hf
    have hl := enLo_len h3.1
    rw [h1, bd_len] at hl
    refine ⟨?_, h3, hd, by omega⟩
    unfold fLo
    rw [if_pos h2, h1]
    exact (frm_eq hf).symm
  · cases h
theorem geLo_of {x : Lo} (hr : rgSt x.s) {b : List UInt8} (hb : b ≠ []) (h : fLo x = b) : geLo b = some x := by
  unfold fLo at h
  split at h
  · rename_i hok
    subst h
    unfold geLo
    have e : frm 4 (chk (4 :: enLo x)) = true := frm_chk (k := 4) _
    rw [if_pos e, bd_chk, pdLo_d hok hr]
  · exact absurd h.symm hb
theorem geLi_some {b : List UInt8} {y : Li} (h : geLi b = some y) : fLi y = b ∧ rgLi y ∧ y = deLi (bd b) ∧ b.length = 25 + y.B.length := by
  unfold geLi at h
  split at h
  · rename_i hf
    have hd : y = deLi (bd b) := by unfold pdLi at h; split at h; exact (Option.some.inj h).symm; cases h
    obtain ⟨h1, h2, h3⟩ := pdLi_e h
    have h5 := frm_len hf
    have hl := enLi_len y
    rw [h1, bd_len] at hl
    refine ⟨?_, h3, hd, by omega⟩
    unfold fLi
    rw [if_pos h2, h1]
    exact (frm_eq hf).symm
  · cases h
theorem geLi_of {x : Li} (hr : rgLi x) {b : List UInt8} (hb : b ≠ []) (h : fLi x = b) : geLi b = some x := by
  unfold fLi at h
  split at h
  · rename_i hok
    subst h
    unfold geLi
    have e : frm 5 (chk (5 :: enLi x)) = true := frm_chk (k := 5) _
    rw [if_pos e, bd_chk, pdLi_d hok hr]
  · exact absurd h.symm hb
theorem geI6_some {b : List UInt8} {y : I6} (h : geI6 b = some y) : fI6 y = b ∧ rgI6 y ∧ y = deI6 (bd b) ∧ b.length = 31 + 2 * y.cs.length := by
  unfold geI6 at h
  split at h
  · rename_i hf
    have hd : y = deI6 (bd b) := by unfold pdI6 at h; split at h; exact (Option.some.inj h).symm; cases h
    obtain ⟨h1, h2, h3⟩ := pdI6_e h
    have h5 := frm_len hf
    have hl := enI6_len y
    rw [h1, bd_len] at hl
    refine ⟨?_, h3, hd, by omega⟩
    unfold fI6
    rw [if_pos h2, h1]
    exact (frm_eq hf).symm
  · cases h
theorem geI6_of {x : I6} (hr : rgI6 x) {b : List UInt8} (hb : b ≠ []) (h : fI6 x = b) : geI6 b = some x := by
  unfold fI6 at h
  split at h
  · rename_i hok
    subst h
    unfold geI6
    have e : frm 1 (chk (1 :: enI6 x)) = true := frm_chk (k := 1) _
    rw [if_pos e, bd_chk, pdI6_d hok hr]
  · exact absurd h.symm hb
def GotB (c : List Value) (ok : Bool) : Value := .tuple #[.agg c.toArray, .bool ok]
theorem GotB.nv {ρ : Nat → Option Nat} {c : List Value} (h : c.all plain1 = true) (ok : Bool) : NV ρ (GotB c ok) (GotB c ok) :=
  NV.tuple_of (.cons (NV.agg_of (NL.plain h)) (.cons (.bool ok) .nil))
theorem cOuL (x : Ou) : (cOu x).length = 5 := rfl
theorem cOuO (x : Ou) : (cOu x).all Value.oneCell' = true := rfl
end Go.AM.Fd

set_option linter.unusedSimpArgs false
set_option linter.unusedVariables false
namespace Go.AM.Fd
open Go.Proofs Go.AM.F
theorem cSt_plain (x : St) : (cSt x).all plain1 = true := by
  have : (cellsOf x.t).all plain1 = true := by
    rw [List.all_eq_true]
    intro v hv
    simp only [cellsOf, List.mem_map] at hv
    obtain ⟨b, _, rfl⟩ := hv
    rfl
  simp only [cSt, List.all_cons, List.all_append, this]
  rfl
theorem cLo_plain (x : Lo) : (cLo x).all plain1 = true := by
  simp only [cLo, List.all_cons, cSt_plain]
  rfl
end Go.AM.Fd

set_option linter.unusedSimpArgs false
set_option linter.unusedVariables false
namespace Go.AM.Fd
open Go.Proofs Go.AM.F
def cLs (x : Li) : List Value := cLi (strB x.B) x
theorem cLsL (x : Li) : (cLs x).length = 5 := rfl
theorem cLsO (x : Li) : (cLs x).all Value.oneCell' = true := rfl
theorem cLs_plain (x : Li) : (cLs x).all plain1 = true := rfl
theorem fillLs (f t : Nat) (q k : Int) (B : List UInt8) : fillA [.int .u8 0, .int .u8 0, .int .i64 0, .int .i64 0, .string ByteArray.empty] [(0, 1, .int .u8 (f : Nat)), (1, 1, .int .u8 (t : Nat)), (2, 1, .int .i64 q), (3, 1, .int .i64 k), (4, 1, .string ⟨B.toArray⟩)] = some (cLs ⟨f, t, q, k, B⟩) := rfl
end Go.AM.Fd

set_option linter.unusedSimpArgs false
set_option linter.unusedVariables false
namespace Go.AM.Fd
open Go.Proofs Go.AM.F
theorem cI6L (v : Value) (x : I6) : (cI6 v x).length = 6 := rfl
theorem geI6_few {b : List UInt8} {y : I6} (h : geI6 b = some y) : y.cs.length ≤ 8 ∧ y.cs.length = na b 26 1 := by
  obtain ⟨h1, h2, h3, h4⟩ := geI6_some h
  constructor
  · unfold fI6 at h1
    split at h1
    · rename_i hok; exact (okI6_iff.1 hok).2.1
    · rw [← h1] at h4; simp only [List.length_nil] at h4; omega
  · have e : y.cs.length = na (bd b) 25 1 := by
      have this : y.cs.length = (deI6 (bd b)).cs.length := congrArg (fun z : I6 => z.cs.length) h3
      rw [this]
      show (deCs (bd b) (na (bd b) 25 1)).length = _
      rw [deCs_len]
    rw [e, ← na_bd (s := 25) (by omega)]
end Go.AM.Fd

set_option linter.unusedSimpArgs false
set_option linter.unusedVariables false
namespace Go.AM.Fd
open Go.Proofs Go.AM.F
def sI6 (x y : I6) : Bool := decide (x.ch = y.ch ∧ x.cy = y.cy ∧ x.oc = y.oc ∧ x.no = y.no ∧ x.re = y.re ∧ x.cs = y.cs)
theorem a_eqC (a b c d : Int) (H : AHeap) : asem (.eqs [1, 1] true (.agg #[.int .u8 a, .int .i64 b]) (.agg #[.int .u8 c, .int .i64 d])) H = some (.bool (!((a == c) && ((b == d) && true))), H) := rfl
theorem t14 (x y : I6) {H : AHeap} {vx vy : Value} (hX0 : Sl H 2 vx (CC x.cs)) (hY0 : Sl H 2 vy (CC y.cs)) (hl : x.cs.length ≤ 1000000) (hl2 : y.cs.length ≤ 1000000) :
    ∃ w H', ARun Go.Proofs.Try.prog 0 14 [.agg (cI6 vx x).toArray, .agg (cI6 vy y).toArray] H w H' ∧ w = .bool (sI6 x y) ∧ H' = H := by
  suffices h : ∃ w H', ARun Go.Proofs.Try.prog 0 14 [.agg (cI6 vx x).toArray, .agg (cI6 vy y).toArray] H w H' ∧ w = .bool (sI6 x y) ∧ Keeps H H' by
    obtain ⟨_, _, a, rfl, k⟩ := h
    exact ⟨_, _, a.gc0 k (.inr (.bool _)), rfl, rfl⟩
  refine walk2 f14_ok f14_n ?_
  intro Q hq1 hq2
  have hone := hX0.one
  have hone2 := hY0.one
  have ox : (cI6 vx x).all Value.oneCell' = true := by simp only [cI6, List.all_cons, List.all_nil, hone]; rfl
  have oy : (cI6 vy y).all Value.oneCell' = true := by simp only [cI6, List.all_cons, List.all_nil, hone2]; rfl
  have his := hX0.is
  have hlen := hX0.len
  have his2 := hY0.is
  have hlen2 := hY0.len
  rw [CC, List.length_map] at hlen hlen2
  have k0 := ((Keeps.refl H).alloc (.cells true false 6 (cI6 vx x) 34)).alloc (.cells true false 6 (cI6 vy y) 34)
  have no : ∀ (P : Prop), (¬ P) → (P → sI6 x y = true) → True := fun _ _ _ => trivial
  by_cases c1 : x.ch = y.ch
  rotate_left
  · simp (disch := (first | assumption | omega | (simp only [List.length_cons, List.length_nil] <;> omega) | (simp only [alloc_n, set_n] <;> omega) | (simp (disch := (first | assumption | omega | (simp only [alloc_n, set_n] <;> omega))) only [row_alloc, row_set]; assumption))) only [f14, W_block, ANs, A3s, AOp.map, ↓reduceIte, Nat.reduceAdd, Nat.reduceEqDiff, reduceCtorEq, initFr, Nat.reduceLT, clsA, List.take, List.drop, Nat.reduceLeDiff, Nat.reduceMul, Nat.reduceSub, reduceIte, ANc, A3c, ox, oy, cI6G vx x, cI6G vy y]
    exact hq2 _ _ ⟨_, rfl, by rw [show sI6 x y = false from by simp [sI6, c1]]; rfl, k0⟩
  by_cases c2 : x.cy = y.cy
  rotate_left
  · simp (disch := (first | assumption | omega | (simp only [List.length_cons, List.length_nil] <;> omega) | (simp only [alloc_n, set_n] <;> omega) | (simp (disch := (first | assumption | omega | (simp only [alloc_n, set_n] <;> omega))) only [row_alloc, row_set]; assumption))) only [f14, W_block, ANs, A3s, AOp.map, ↓reduceIte, Nat.reduceAdd, Nat.reduceEqDiff, reduceCtorEq, initFr, Nat.reduceLT, clsA, List.take, List.drop, Nat.reduceLeDiff, Nat.reduceMul, Nat.reduceSub, reduceIte, ANc, A3c, ox, oy, cI6G vx x, cI6G vy y]
    exact hq2 _ _ ⟨_, rfl, by rw [show sI6 x y = false from by simp [sI6, c2]]; rfl, k0⟩
  by_cases c3 : x.oc = y.oc
  rotate_left
  · simp (disch := (first | assumption | omega | (simp only [List.length_cons, List.length_nil] <;> omega) | (simp only [alloc_n, set_n] <;> omega) | (simp (disch := (first | assumption | omega | (simp only [alloc_n, set_n] <;> omega))) only [row_alloc, row_set]; assumption))) only [f14, W_block, ANs, A3s, AOp.map, ↓reduceIte, Nat.reduceAdd, Nat.reduceEqDiff, reduceCtorEq, initFr, Nat.reduceLT, clsA, List.take, List.drop, Nat.reduceLeDiff, Nat.reduceMul, Nat.reduceSub, reduceIte, ANc, A3c, ox, oy, cI6G vx x, cI6G vy y]
    exact hq2 _ _ ⟨_, rfl, by rw [show sI6 x y = false from by simp [sI6, c3]]; rfl, k0⟩
  by_cases c4 : x.no = y.no
  rotate_left
  · simp (disch := (first | assumption | omega | (simp only [List.length_cons, List.length_nil] <;> omega) | (simp only [alloc_n, set_n] <;> omega) | (simp (disch := (first | assumption | omega | (simp only [alloc_n, set_n] <;> omega))) only [row_alloc, row_set]; assumption))) only [f14, W_block, ANs, A3s, AOp.map, ↓reduceIte, Nat.reduceAdd, Nat.reduceEqDiff, reduceCtorEq, initFr, Nat.reduceLT, clsA, List.take, List.drop, Nat.reduceLeDiff, Nat.reduceMul, Nat.reduceSub, reduceIte, ANc, A3c, ox, oy, cI6G vx x, cI6G vy y]
    exact hq2 _ _ ⟨_, rfl, by rw [show sI6 x y = false from by simp [sI6, c4]]; rfl, k0⟩
  by_cases c5 : x.re = y.re
  rotate_left
  · simp (disch := (first | assumption | omega | (simp only [List.length_cons, List.length_nil] <;> omega) | (simp only [alloc_n, set_n] <;> omega) | (simp (disch := (first | assumption | omega | (simp only [alloc_n, set_n] <;> omega))) only [row_alloc, row_set]; assumption))) only [f14, W_block, ANs, A3s, AOp.map, ↓reduceIte, Nat.reduceAdd, Nat.reduceEqDiff, reduceCtorEq, initFr, Nat.reduceLT, clsA, List.take, List.drop, Nat.reduceLeDiff, Nat.reduceMul, Nat.reduceSub, reduceIte, ANc, A3c, ox, oy, cI6G vx x, cI6G vy y]
    exact hq2 _ _ ⟨_, rfl, by rw [show sI6 x y = false from by simp [sI6, c5]]; rfl, k0⟩
  by_cases c6 : x.cs.length = y.cs.length
  rotate_left
  · simp (disch := (first | assumption | omega | (simp only [List.length_cons, List.length_nil] <;> omega) | (simp only [alloc_n, set_n] <;> omega) | (simp (disch := (first | assumption | omega | (simp only [alloc_n, set_n] <;> omega))) only [row_alloc, row_set]; assumption))) only [f14, W_block, ANs, A3s, AOp.map, ↓reduceIte, Nat.reduceAdd, Nat.reduceEqDiff, reduceCtorEq, initFr, Nat.reduceLT, clsA, List.take, List.drop, Nat.reduceLeDiff, Nat.reduceMul, Nat.reduceSub, reduceIte, ANc, A3c, ox, oy, cI6G vx x, cI6G vy y, hlen, hlen2]
    refine hq2 _ _ ⟨_, rfl, ?_, k0⟩
    rw [show sI6 x y = false from by
      simp only [sI6, decide_eq_false_iff_not]
      intro h
      exact c6 (by rw [h.2.2.2.2.2])]
    rfl
  simp (disch := (first | assumption | omega | (simp only [List.length_cons, List.length_nil] <;> omega) | (simp only [alloc_n, set_n] <;> omega) | (simp (disch := (first | assumption | omega | (simp only [alloc_n, set_n] <;> omega))) only [row_alloc, row_set]; assumption))) only [f14, W_block, ANs, A3s, AOp.map, ↓reduceIte, Nat.reduceAdd, Nat.reduceEqDiff, reduceCtorEq, initFr, Nat.reduceLT, clsA, List.take, List.drop, Nat.reduceLeDiff, Nat.reduceMul, Nat.reduceSub, reduceIte, ANc, A3c, ox, oy, cI6G vx x, cI6G vy y, hlen, hlen2]
  obtain ⟨K, hK⟩ : ∃ K, K = (H.alloc (.cells true false 6 (cI6 vx x) 34)).alloc (.cells true false 6 (cI6 vy y) 34) := ⟨_, rfl⟩
  rw [← hK] at k0 ⊢
  have gx : K.get H.n = some (.cells true false 6 (cI6 vx x) 34) := by rw [hK]; exact (AHeap.get_alloc_old _ _ (by rw [alloc_n]; omega)).trans (AHeap.get_alloc_new _ _)
  have gy : K.get (H.n + 1) = some (.cells true false 6 (cI6 vy y) 34) := by rw [hK]; exact AHeap.get_alloc_new _ _
  have hX := hX0.keeps k0
  have hY := hY0.keeps k0
  refine W_loop2 (fun q fr K' => ∃ (i : Nat) (e f : Value), i ≤ x.cs.length ∧ q = x.cs.length - i ∧ K' = K ∧ (∀ j (h : j < x.cs.length), j < i → x.cs[j] = y.cs[j]) ∧
    fr = [.agg (cI6 vx x).toArray, .agg (cI6 vy y).toArray, ptr H.n 0, ptr (H.n + 1) 0, .bool false, .int .i64 (i : Nat), .bool false, e, f]) x.cs.length ⟨0, undef, undef, by omega, rfl, rfl, by intro j _ h; omega, rfl⟩ ?_
  rintro Q' q fr _ ⟨i, e, f, hi, rfl, rfl, hall, rfl⟩ hnx hex hrt
  by_cases hc : i < x.cs.length
  · obtain ⟨hn1, hr1⟩ := hX.at_ (by omega) (i := i) (by simpa [CC] using hc)
    obtain ⟨hn2, hr2⟩ := hY.at_ (by omega) (i := i) (by simp only [CC, List.length_map]; omega)
    simp only [CC, List.getElem_map] at hr1 hr2
    by_cases he : x.cs[i] = y.cs[i]
    · have e1 : (((x.cs[i].1 : Nat) : Int) == ((y.cs[i].1 : Nat) : Int)) = true := by simp [he]
      have e2 : (x.cs[i].2 == y.cs[i].2) = true := by simp [he]
      simp (disch := (first | assumption | omega | (simp only [List.length_cons, List.length_nil] <;> omega) | (simp only [alloc_n, set_n] <;> omega) | (simp (disch := (first | assumption | omega | (simp only [alloc_n, set_n] <;> omega))) only [row_alloc, row_set]; assumption))) only [W_block, ANs, A3s, AOp.map, ↓reduceIte, Nat.reduceAdd, Nat.reduceEqDiff, reduceCtorEq, initFr, Nat.reduceLT, clsA, List.take, List.drop, Nat.reduceLeDiff, Nat.reduceMul, Nat.reduceSub, reduceIte, ANc, A3c, gx, gy, cI6G vx x, cI6G vy y, hlen, a_eqC, e1, e2, wrap_succ (n := i) (by omega)]
      refine hnx _ _ _ ⟨i + 1, _, _, by omega, rfl, rfl, ?_, rfl⟩ (by omega)
      intro j hj hji
      by_cases hjk : j < i
      · exact hall j hj hjk
      · have : j = i := by omega
        subst this; exact he
    · have e1 : (((x.cs[i].1 : Nat) : Int) == ((y.cs[i].1 : Nat) : Int) && (x.cs[i].2 == y.cs[i].2 && true)) = false := by
        cases h : (((x.cs[i].1 : Nat) : Int) == ((y.cs[i].1 : Nat) : Int) && (x.cs[i].2 == y.cs[i].2 && true)) with
        | false => rfl
        | true =>
          exfalso
          simp only [Bool.and_true, Bool.and_eq_true, beq_iff_eq] at h
          exact he (Prod.ext (by omega) h.2)
      have e2 : ∀ X, asem (.eqs [1, 1] true (.agg #[.int .u8 (x.cs[i].1 : Nat), .int .i64 x.cs[i].2]) (.agg #[.int .u8 (y.cs[i].1 : Nat), .int .i64 y.cs[i].2])) X = some (.bool true, X) := fun X => by rw [a_eqC, e1]; rfl
      simp (disch := (first | assumption | omega | (simp only [List.length_cons, List.length_nil] <;> omega) | (simp only [alloc_n, set_n] <;> omega) | (simp (disch := (first | assumption | omega | (simp only [alloc_n, set_n] <;> omega))) only [row_alloc, row_set]; assumption))) only [W_block, ANs, A3s, AOp.map, ↓reduceIte, Nat.reduceAdd, Nat.reduceEqDiff, reduceCtorEq, initFr, Nat.reduceLT, clsA, List.take, List.drop, Nat.reduceLeDiff, Nat.reduceMul, Nat.reduceSub, reduceIte, ANc, A3c, gx, gy, cI6G vx x, cI6G vy y, hlen, e2]
      refine hrt _ _ ?_
      simp (disch := (first | assumption | omega | (simp only [List.length_cons, List.length_nil] <;> omega) | (simp only [alloc_n, set_n] <;> omega) | (simp (disch := (first | assumption | omega | (simp only [alloc_n, set_n] <;> omega))) only [row_alloc, row_set]; assumption))) only [W_block, ANs, A3s, AOp.map, ↓reduceIte, Nat.reduceAdd, Nat.reduceEqDiff, reduceCtorEq, initFr, Nat.reduceLT, clsA, List.take, List.drop, Nat.reduceLeDiff, Nat.reduceMul, Nat.reduceSub, reduceIte, ANc, A3c]
      refine hq2 _ _ ⟨_, rfl, ?_, k0⟩
      rw [show sI6 x y = false from by
        simp only [sI6, decide_eq_false_iff_not]
        intro h
        apply he
        simp only [h.2.2.2.2.2]]
      rfl
  · simp (disch := (first | assumption | omega | (simp only [List.length_cons, List.length_nil] <;> omega) | (simp only [alloc_n, set_n] <;> omega) | (simp (disch := (first | assumption | omega | (simp only [alloc_n, set_n] <;> omega))) only [row_alloc, row_set]; assumption))) only [W_block, ANs, A3s, AOp.map, ↓reduceIte, Nat.reduceAdd, Nat.reduceEqDiff, reduceCtorEq, initFr, Nat.reduceLT, clsA, List.take, List.drop, Nat.reduceLeDiff, Nat.reduceMul, Nat.reduceSub, reduceIte, ANc, A3c, gx, gy, cI6G vx x, cI6G vy y, hlen]
    refine hex _ _ _ ?_
    simp (disch := (first | assumption | omega | (simp only [List.length_cons, List.length_nil] <;> omega) | (simp only [alloc_n, set_n] <;> omega) | (simp (disch := (first | assumption | omega | (simp only [alloc_n, set_n] <;> omega))) only [row_alloc, row_set]; assumption))) only [W_block, ANs, A3s, AOp.map, ↓reduceIte, Nat.reduceAdd, Nat.reduceEqDiff, reduceCtorEq, initFr, Nat.reduceLT, clsA, List.take, List.drop, Nat.reduceLeDiff, Nat.reduceMul, Nat.reduceSub, reduceIte, ANc, A3c]
    refine hq2 _ _ ⟨_, rfl, ?_, k0⟩
    rw [show sI6 x y = true from by
      simp only [sI6, decide_eq_true_eq]
      refine ⟨c1, c2, c3, c4, c5, List.ext_getElem c6 (fun j h1 h2 => hall j h1 (by omega))⟩]
    rfl
end Go.AM.Fd

set_option maxRecDepth 100000
namespace Go.AM.F
def O68 : List Nat := [1, 1, 1, 1, 1, 1, 1, 1, 1, 1, 1, 1, 1, 1, 1, 1, 1, 1, 1, 1, 1, 1, 1, 1, 1, 1, 1, 1, 1, 1, 1, 1, 1, 1, 1, 1, 1, 1, 1, 1, 1, 1, 1, 1, 1, 1, 1, 1, 1, 1, 1, 1, 1, 1, 1, 1, 1, 1, 1, 1, 1, 1, 1, 1, 1, 1, 1, 1]
def O70 : List Nat := [1, 1, 1, 1, 1, 1, 1, 1, 1, 1, 1, 1, 1, 1, 1, 1, 1, 1, 1, 1, 1, 1, 1, 1, 1, 1, 1, 1, 1, 1, 1, 1, 1, 1, 1, 1, 1, 1, 1, 1, 1, 1, 1, 1, 1, 1, 1, 1, 1, 1, 1, 1, 1, 1, 1, 1, 1, 1, 1, 1, 1, 1, 1, 1, 1, 1, 1, 1, 1, 1]
def f3 : AFunc := ⟨[0, 2, 3, 4, 5, 6, 7, 8, 9, 10, 11, 12, 13, 14, 15, 16, 17, 18, 19, 20, 21, 22, 23, 24, 25, 26, 27, 28, 29, 32, 140],
  .seq (.reg [
    ⟨.mov (.c (.bool false)), .fr 1, none⟩]) <|
    .seq (.seq (.reg [
    ⟨.mov (.fr 0), .tm, none⟩,
    ⟨.len false (.tm 0), .tm, none⟩,
    ⟨.bin .gtr (.tm 0) (.c (.int .i64 3000)), .fr 29, none⟩]) <|
    .cond (.fr 29)
      (.seq (.reg [
      ⟨.callf 11 [], .tm, none⟩,
      ⟨.mov (.tm 0), .fr 1, none⟩]) <|
      .ret)
      (.skip)) <|
    .seq (.reg [
    ⟨.mov (.fr 0), .tm, none⟩,
    ⟨.b2s (.tm 0), .tm, none⟩,
    ⟨.s2b 5 (.tm 0), .tm, none⟩,
    ⟨.mov (.tm 0), .fr 2, none⟩]) <|
    .seq (.reg [
    ⟨.mov (.fr 2), .tm, none⟩,
    ⟨.callf 12 [(.tm 0)], .tm, none⟩,
    ⟨.mov (.tm 0), .tm, none⟩,
    ⟨.extract (.tm 0) 0, .tm, none⟩,
    ⟨.extract (.tm 1) 1, .tm, none⟩,
    ⟨.new 30 6 [(.int .u8 0), (.int .i64 0), (.int .u64 0), (.int .u32 0), (.int .u32 0), (.slice none 0 0)], .fr 3, none⟩,
    ⟨.storen 6 (.fr 3) (.tm 1), .no, none⟩,
    ⟨.mov (.tm 0), .fr 4, none⟩]) <|
    .seq (.reg [
    ⟨.mov (.fr 0), .tm, none⟩,
    ⟨.callf 13 [(.tm 0)], .tm, none⟩,
    ⟨.mov (.tm 0), .tm, none⟩,
    ⟨.extract (.tm 0) 0, .tm, none⟩,
    ⟨.extract (.tm 1) 1, .tm, none⟩,
    ⟨.new 34 6 [(.int .u8 0), (.int .i64 0), (.int .u64 0), (.int .u32 0), (.int .u32 0), (.slice none 0 0)], .fr 5, none⟩,
    ⟨.storen 6 (.fr 5) (.tm 1), .no, none⟩,
    ⟨.mov (.tm 0), .fr 6, none⟩]) <|
    .seq (.dreg [
    (⟨.loadn 6 (.fr 3), .tm, none⟩, []),
    (⟨.callf 15 [(.tm 0)], .tm, none⟩, []),
    (⟨.loadn 6 (.fr 5), .tm, none⟩, [1]),
    (⟨.callf 14 [(.tm 1), (.tm 0)], .tm, none⟩, []),
    (⟨.mov (.tm 0), .tm, none⟩, []),
    (⟨.mov (.fr 4), .tm, some ((.tm 0), true)⟩, []),
    (⟨.bin .eql (.tm 0) (.c (.int .i64 0)), .tm, some ((.tm 1), true)⟩, []),
    (⟨.mov (.fr 6), .tm, some ((.tm 2), true)⟩, []),
    (⟨.eqv 0 false (.tm 1) (.tm 0), .tm, some ((.tm 3), true)⟩, []),
    (⟨.pick (.tm 4) (.tm 0) (.c (.bool false)), .tm, none⟩, []),
    (⟨.mov (.tm 0), .fr 7, none⟩, [])]) <|
    .seq (.reg [
    ⟨.mov (.fr 2), .tm, none⟩,
    ⟨.callf 16 [(.tm 0)], .tm, none⟩,
    ⟨.mov (.tm 0), .tm, none⟩,
    ⟨.extract (.tm 0) 0, .tm, none⟩,
    ⟨.extract (.tm 1) 1, .tm, none⟩,
    ⟨.new 42 5 [(.int .u8 0), (.int .i64 0), (.int .i64 0), (.int .u64 0), (.int .u32 0)], .fr 8, none⟩,
    ⟨.storen 5 (.fr 8) (.tm 1), .no, none⟩,
    ⟨.mov (.tm 0), .fr 9, none⟩]) <|
    .seq (.reg [
    ⟨.mov (.fr 0), .tm, none⟩,
    ⟨.callf 17 [(.tm 0)], .tm, none⟩,
    ⟨.mov (.tm 0), .tm, none⟩,
    ⟨.extract (.tm 0) 0, .tm, none⟩,
    ⟨.extract (.tm 1) 1, .tm, none⟩,
    ⟨.new 45 5 [(.int .u8 0), (.int .i64 0), (.int .i64 0), (.int .u64 0), (.int .u32 0)], .fr 10, none⟩,
    ⟨.storen 5 (.fr 10) (.tm 1), .no, none⟩,
    ⟨.mov (.tm 0), .fr 11, none⟩]) <|
    .seq (.dreg [
    (⟨.loadn 5 (.fr 8), .tm, none⟩, []),
    (⟨.callf 18 [(.tm 0)], .tm, none⟩, []),
    (⟨.loadn 5 (.fr 10), .tm, none⟩, [1]),
    (⟨.eqs [1, 1, 1, 1, 1] false (.tm 1) (.tm 0), .tm, none⟩, []),
    (⟨.mov (.tm 0), .tm, none⟩, []),
    (⟨.mov (.fr 9), .tm, some ((.tm 0), true)⟩, []),
    (⟨.bin .eql (.tm 0) (.c (.int .i64 0)), .tm, some ((.tm 1), true)⟩, []),
    (⟨.mov (.fr 11), .tm, some ((.tm 2), true)⟩, []),
    (⟨.eqv 0 false (.tm 1) (.tm 0), .tm, some ((.tm 3), true)⟩, []),
    (⟨.pick (.tm 4) (.tm 0) (.c (.bool false)), .tm, none⟩, []),
    (⟨.mov (.tm 0), .fr 12, none⟩, [])]) <|
    .seq (.reg [
    ⟨.mov (.fr 2), .tm, none⟩,
    ⟨.callf 19 [(.tm 0)], .tm, none⟩,
    ⟨.mov (.tm 0), .tm, none⟩,
    ⟨.extract (.tm 0) 0, .tm, none⟩,
    ⟨.extract (.tm 1) 1, .tm, none⟩,
    ⟨.new 51 68 Z68, .fr 13, none⟩,
    ⟨.storen 68 (.fr 13) (.tm 1), .no, none⟩,
    ⟨.mov (.tm 0), .fr 14, none⟩]) <|
    .seq (.reg [
    ⟨.mov (.fr 0), .tm, none⟩,
    ⟨.callf 20 [(.tm 0)], .tm, none⟩,
    ⟨.mov (.tm 0), .tm, none⟩,
    ⟨.extract (.tm 0) 0, .tm, none⟩,
    ⟨.extract (.tm 1) 1, .tm, none⟩,
    ⟨.new 51 68 Z68, .fr 15, none⟩,
    ⟨.storen 68 (.fr 15) (.tm 1), .no, none⟩,
    ⟨.mov (.tm 0), .fr 16, none⟩]) <|
    .seq (.reg [
    ⟨.loadn 68 (.fr 13), .tm, none⟩,
    ⟨.loadn 68 (.fr 15), .tm, none⟩,
    ⟨.eqs O68 false (.tm 1) (.tm 0), .tm, none⟩,
    ⟨.mov (.tm 0), .tm, none⟩,
    ⟨.mov (.fr 14), .tm, some ((.tm 0), true)⟩,
    ⟨.bin .eql (.tm 0) (.c (.int .i64 0)), .tm, some ((.tm 1), true)⟩,
    ⟨.mov (.fr 16), .tm, some ((.tm 2), true)⟩,
    ⟨.eqv 0 false (.tm 1) (.tm 0), .tm, some ((.tm 3), true)⟩,
    ⟨.pick (.tm 4) (.tm 0) (.c (.bool false)), .tm, none⟩,
    ⟨.mov (.tm 0), .fr 17, none⟩]) <|
    .seq (.reg [
    ⟨.mov (.fr 2), .tm, none⟩,
    ⟨.callf 21 [(.tm 0)], .tm, none⟩,
    ⟨.mov (.tm 0), .tm, none⟩,
    ⟨.extract (.tm 0) 0, .tm, none⟩,
    ⟨.extract (.tm 1) 1, .tm, none⟩,
    ⟨.new 57 70 Z70, .fr 18, none⟩,
    ⟨.storen 70 (.fr 18) (.tm 1), .no, none⟩,
    ⟨.mov (.tm 0), .fr 19, none⟩]) <|
    .seq (.reg [
    ⟨.mov (.fr 0), .tm, none⟩,
    ⟨.callf 22 [(.tm 0)], .tm, none⟩,
    ⟨.mov (.tm 0), .tm, none⟩,
    ⟨.extract (.tm 0) 0, .tm, none⟩,
    ⟨.extract (.tm 1) 1, .tm, none⟩,
    ⟨.new 60 70 Z70, .fr 20, none⟩,
    ⟨.storen 70 (.fr 20) (.tm 1), .no, none⟩,
    ⟨.mov (.tm 0), .fr 21, none⟩]) <|
    .seq (.dreg [
    (⟨.loadn 70 (.fr 18), .tm, none⟩, []),
    (⟨.callf 23 [(.tm 0)], .tm, none⟩, []),
    (⟨.loadn 70 (.fr 20), .tm, none⟩, [1]),
    (⟨.eqs O70 false (.tm 1) (.tm 0), .tm, none⟩, []),
    (⟨.mov (.tm 0), .tm, none⟩, []),
    (⟨.mov (.fr 19), .tm, some ((.tm 0), true)⟩, []),
    (⟨.bin .eql (.tm 0) (.c (.int .i64 0)), .tm, some ((.tm 1), true)⟩, []),
    (⟨.mov (.fr 21), .tm, some ((.tm 2), true)⟩, []),
    (⟨.eqv 0 false (.tm 1) (.tm 0), .tm, some ((.tm 3), true)⟩, []),
    (⟨.pick (.tm 4) (.tm 0) (.c (.bool false)), .tm, none⟩, []),
    (⟨.mov (.tm 0), .fr 22, none⟩, [])]) <|
    .seq (.reg [
    ⟨.mov (.fr 2), .tm, none⟩,
    ⟨.callf 24 [(.tm 0)], .tm, none⟩,
    ⟨.mov (.tm 0), .tm, none⟩,
    ⟨.extract (.tm 0) 0, .tm, none⟩,
    ⟨.extract (.tm 1) 1, .tm, none⟩,
    ⟨.new 65 5 [(.int .u8 0), (.int .u8 0), (.int .i64 0), (.int .i64 0), (.slice none 0 0)], .fr 23, none⟩,
    ⟨.storen 5 (.fr 23) (.tm 1), .no, none⟩,
    ⟨.mov (.tm 0), .fr 24, none⟩]) <|
    .seq (.reg [
    ⟨.mov (.fr 0), .tm, none⟩,
    ⟨.callf 25 [(.tm 0)], .tm, none⟩,
    ⟨.mov (.tm 0), .tm, none⟩,
    ⟨.extract (.tm 0) 0, .tm, none⟩,
    ⟨.extract (.tm 1) 1, .tm, none⟩,
    ⟨.new 69 5 [(.int .u8 0), (.int .u8 0), (.int .i64 0), (.int .i64 0), (.string ByteArray.empty)], .fr 25, none⟩,
    ⟨.storen 5 (.fr 25) (.tm 1), .no, none⟩,
    ⟨.mov (.tm 0), .fr 26, none⟩]) <|
    .seq (.dreg [
    (⟨.loadn 5 (.fr 23), .tm, none⟩, []),
    (⟨.callf 26 [(.tm 0)], .tm, none⟩, []),
    (⟨.loadn 5 (.fr 25), .tm, none⟩, [1]),
    (⟨.eqs [1, 1, 1, 1, 2] false (.tm 1) (.tm 0), .tm, none⟩, []),
    (⟨.mov (.tm 0), .tm, none⟩, []),
    (⟨.mov (.fr 24), .tm, some ((.tm 0), true)⟩, []),
    (⟨.bin .eql (.tm 0) (.c (.int .i64 0)), .tm, some ((.tm 1), true)⟩, []),
    (⟨.mov (.fr 26), .tm, some ((.tm 2), true)⟩, []),
    (⟨.eqv 0 false (.tm 1) (.tm 0), .tm, some ((.tm 3), true)⟩, []),
    (⟨.pick (.tm 4) (.tm 0) (.c (.bool false)), .tm, none⟩, []),
    (⟨.mov (.tm 0), .fr 27, none⟩, [])]) <|
    .seq (.seq (.reg [
    ⟨.mov (.c (.int .i64 0)), .fr 28, none⟩]) <|
    .block 0 (.loop (.seq (.seq (.reg [
        ⟨.mov (.fr 28), .tm, none⟩,
        ⟨.faddr 4 (.fr 23), .tm, none⟩,
        ⟨.load1 (.tm 0), .tm, none⟩,
        ⟨.len false (.tm 0), .tm, none⟩,
        ⟨.bin .lss (.tm 3) (.tm 0), .fr 30, none⟩]) <|
        .cond (.fr 30)
          (.skip)
          (.exit 0)) <|
        .seq (.block 1 (.dreg [
          (⟨.faddr 4 (.fr 23), .tm, none⟩, []),
          (⟨.load1 (.tm 0), .tm, none⟩, []),
          (⟨.mov (.fr 28), .tm, none⟩, []),
          (⟨.faddr 4 (.fr 23), .tm, none⟩, []),
          (⟨.load1 (.tm 0), .tm, none⟩, []),
          (⟨.mov (.fr 28), .tm, none⟩, []),
          (⟨.iaddr 1 (.tm 1) (.tm 0), .tm, none⟩, []),
          (⟨.load1 (.tm 0), .tm, none⟩, []),
          (⟨.bin .add (.tm 0) (.c (.int .u8 1)), .tm, none⟩, []),
          (⟨.iaddr 1 (.tm 7) (.tm 6), .tm, none⟩, []),
          (⟨.store1 (.tm 0) (.tm 1), .no, none⟩, [])])) <|
        .reg [
        ⟨.mov (.fr 28), .tm, none⟩,
        ⟨.bin .add (.tm 0) (.c (.int .i64 1)), .tm, none⟩,
        ⟨.mov (.tm 0), .fr 28, none⟩]))) <|
    .seq (.reg [
    ⟨.mov (.fr 7), .tm, none⟩,
    ⟨.mov (.tm 0), .tm, none⟩,
    ⟨.mov (.fr 12), .tm, some ((.tm 0), true)⟩,
    ⟨.pick (.tm 1) (.tm 0) (.c (.bool false)), .tm, none⟩,
    ⟨.mov (.tm 0), .tm, none⟩,
    ⟨.mov (.fr 17), .tm, some ((.tm 0), true)⟩,
    ⟨.pick (.tm 1) (.tm 0) (.c (.bool false)), .tm, none⟩,
    ⟨.mov (.tm 0), .tm, none⟩,
    ⟨.mov (.fr 22), .tm, some ((.tm 0), true)⟩,
    ⟨.pick (.tm 1) (.tm 0) (.c (.bool false)), .tm, none⟩,
    ⟨.mov (.tm 0), .tm, none⟩,
    ⟨.mov (.fr 27), .tm, some ((.tm 0), true)⟩,
    ⟨.pick (.tm 1) (.tm 0) (.c (.bool false)), .tm, none⟩,
    ⟨.mov (.tm 0), .tm, none⟩,
    ⟨.mov (.fr 4), .tm, some ((.tm 0), true)⟩,
    ⟨.mov (.fr 9), .tm, some ((.tm 1), true)⟩,
    ⟨.mov (.fr 14), .tm, some ((.tm 2), true)⟩,
    ⟨.mov (.fr 19), .tm, some ((.tm 3), true)⟩,
    ⟨.mov (.fr 24), .tm, some ((.tm 4), true)⟩,
    ⟨.callf 27 [(.tm 4), (.tm 3), (.tm 2), (.tm 1), (.tm 0)], .tm, some ((.tm 5), true)⟩,
    ⟨.pick (.tm 6) (.tm 0) (.c (.bool false)), .tm, none⟩,
    ⟨.mov (.tm 0), .tm, none⟩,
    ⟨.mov (.fr 2), .tm, some ((.tm 0), true)⟩,
    ⟨.callf 28 [(.tm 0)], .tm, some ((.tm 1), true)⟩,
    ⟨.mov (.fr 0), .tm, some ((.tm 2), true)⟩,
    ⟨.callf 29 [(.tm 0)], .tm, some ((.tm 3), true)⟩,
    ⟨.bin .eql (.tm 2) (.tm 0), .tm, some ((.tm 4), true)⟩,
    ⟨.pick (.tm 5) (.tm 0) (.c (.bool false)), .tm, none⟩,
    ⟨.mov (.tm 0), .tm, none⟩,
    ⟨.mov (.fr 2), .tm, some ((.tm 0), true)⟩,
    ⟨.b2s (.tm 0), .tm, some ((.tm 1), true)⟩,
    ⟨.mov (.fr 0), .tm, some ((.tm 2), true)⟩,
    ⟨.b2s (.tm 0), .tm, some ((.tm 3), true)⟩,
    ⟨.bin .eql (.tm 2) (.tm 0), .tm, some ((.tm 4), true)⟩,
    ⟨.pick (.tm 5) (.tm 0) (.c (.bool false)), .tm, none⟩,
    ⟨.mov (.tm 0), .tm, none⟩,
    ⟨.callf 11 [], .tm, some ((.tm 0), true)⟩,
    ⟨.pick (.tm 1) (.tm 0) (.c (.bool false)), .tm, none⟩,
    ⟨.mov (.tm 0), .fr 1, none⟩]) <|
    .ret, [.t 1]⟩
def f5 : AFunc := ⟨[0, 1, 2, 3, 4, 5, 6, 7, 8, 9, 10, 11, 12, 13, 14, 15, 16, 20, 23, 55, 69, 73],
  .seq (.reg [
    ⟨.box 30 6 (.fr 0), .fr 5, none⟩,
    ⟨.box 42 5 (.fr 1), .fr 6, none⟩,
    ⟨.box 51 68 (.fr 2), .fr 7, none⟩,
    ⟨.box 57 70 (.fr 3), .fr 8, none⟩,
    ⟨.box 65 5 (.fr 4), .fr 9, none⟩,
    ⟨.mov (.c (.bool false)), .fr 10, none⟩]) <|
    .seq (.seq (.reg [
    ⟨.loadn 6 (.fr 5), .tm, none⟩,
    ⟨.loadn 5 (.fr 9), .tm, none⟩,
    ⟨.callf 43 [(.tm 1), (.tm 0)], .tm, none⟩,
    ⟨.un .not (.tm 0), .fr 17, none⟩]) <|
    .cond (.fr 17)
      (.seq (.reg [
      ⟨.callf 11 [], .tm, none⟩,
      ⟨.mov (.tm 0), .fr 10, none⟩]) <|
      .ret)
      (.skip)) <|
    .seq (.seq (.reg [
    ⟨.mov (.c (.int .i64 0)), .fr 11, none⟩]) <|
    .block 0 (.loop (.seq (.seq (.reg [
        ⟨.mov (.fr 11), .tm, none⟩,
        ⟨.bin .lss (.tm 0) (.c (.int .i64 2)), .fr 18, none⟩]) <|
        .cond (.fr 18)
          (.skip)
          (.exit 0)) <|
        .seq (.block 1 (.seq (.dreg [
          (⟨.loadn 6 (.fr 5), .tm, none⟩, []),
          (⟨.callf 44 [(.tm 0)], .tm, none⟩, []),
          (⟨.loadn 5 (.fr 6), .tm, none⟩, [1]),
          (⟨.callf 45 [(.tm 0)], .tm, none⟩, []),
          (⟨.loadn 68 (.fr 7), .tm, none⟩, [1, 3]),
          (⟨.callf 46 [(.tm 0)], .tm, none⟩, []),
          (⟨.loadn 70 (.fr 8), .tm, none⟩, [1, 3, 5]),
          (⟨.callf 47 [(.tm 0)], .tm, none⟩, []),
          (⟨.loadn 5 (.fr 9), .tm, none⟩, [1, 3, 5, 7]),
          (⟨.callf 36 [(.tm 0)], .tm, none⟩, []),
          (⟨.bslice 22 1 5 [(.slice none 0 0), (.slice none 0 0), (.slice none 0 0), (.slice none 0 0), (.slice none 0 0)] [(0, 1, (.tm 8)), (1, 1, (.tm 6)), (2, 1, (.tm 4)), (3, 1, (.tm 2)), (4, 1, (.tm 0))], .tm, none⟩, []),
          (⟨.mov (.tm 0), .fr 12, none⟩, [])]) <|
          .seq (.dreg [
          (⟨.loadn 6 (.fr 5), .tm, none⟩, []),
          (⟨.callf 15 [(.tm 0)], .tm, none⟩, []),
          (⟨.callf 48 [(.tm 0)], .tm, none⟩, []),
          (⟨.loadn 5 (.fr 6), .tm, none⟩, [1, 2]),
          (⟨.callf 18 [(.tm 0)], .tm, none⟩, []),
          (⟨.callf 49 [(.tm 0)], .tm, none⟩, []),
          (⟨.loadn 68 (.fr 7), .tm, none⟩, [1, 2, 4, 5]),
          (⟨.callf 50 [(.tm 0)], .tm, none⟩, []),
          (⟨.loadn 70 (.fr 8), .tm, none⟩, [1, 2, 4, 5, 7]),
          (⟨.callf 23 [(.tm 0)], .tm, none⟩, []),
          (⟨.callf 51 [(.tm 0)], .tm, none⟩, []),
          (⟨.loadn 5 (.fr 9), .tm, none⟩, [1, 2, 4, 5, 7, 9, 10]),
          (⟨.callf 26 [(.tm 0)], .tm, none⟩, []),
          (⟨.callf 52 [(.tm 0)], .tm, none⟩, []),
          (⟨.bslice 22 1 5 [(.slice none 0 0), (.slice none 0 0), (.slice none 0 0), (.slice none 0 0), (.slice none 0 0)] [(0, 1, (.tm 11)), (1, 1, (.tm 8)), (2, 1, (.tm 6)), (3, 1, (.tm 3)), (4, 1, (.tm 0))], .tm, none⟩, []),
          (⟨.mov (.tm 0), .fr 13, none⟩, [])]) <|
          .seq (.reg [
          ⟨.mov (.c (.int .i64 0)), .fr 14, none⟩]) <|
          .block 2 (.loop (.seq (.seq (.reg [
              ⟨.mov (.fr 14), .tm, none⟩,
              ⟨.mov (.fr 12), .tm, none⟩,
              ⟨.len false (.tm 0), .tm, none⟩,
              ⟨.bin .lss (.tm 2) (.tm 0), .fr 19, none⟩]) <|
              .cond (.fr 19)
                (.skip)
                (.exit 2)) <|
              .seq (.block 3 (.seq (.reg [
                ⟨.mov (.fr 12), .tm, none⟩,
                ⟨.mov (.fr 14), .tm, none⟩,
                ⟨.iaddr 1 (.tm 1) (.tm 0), .tm, none⟩,
                ⟨.load1 (.tm 0), .tm, none⟩,
                ⟨.mov (.tm 0), .fr 15, none⟩]) <|
                .seq (.seq (.dreg [
                (⟨.mov (.fr 15), .tm, none⟩, []),
                (⟨.b2s (.tm 0), .tm, none⟩, []),
                (⟨.mov (.fr 13), .tm, none⟩, []),
                (⟨.mov (.fr 14), .tm, none⟩, []),
                (⟨.iaddr 1 (.tm 1) (.tm 0), .tm, none⟩, []),
                (⟨.load1 (.tm 0), .tm, none⟩, []),
                (⟨.b2s (.tm 0), .tm, none⟩, []),
                (⟨.bin .neq (.tm 5) (.tm 0), .fr 20, none⟩, [])]) <|
                .cond (.fr 20)
                  (.seq (.reg [
                  ⟨.mov (.c (.bool false)), .fr 10, none⟩]) <|
                  .ret)
                  (.skip)) <|
                .seq (.reg [
                ⟨.mov (.c (.int .i64 0)), .fr 16, none⟩]) <|
                .block 4 (.loop (.seq (.seq (.reg [
                    ⟨.mov (.fr 16), .tm, none⟩,
                    ⟨.mov (.fr 15), .tm, none⟩,
                    ⟨.len false (.tm 0), .tm, none⟩,
                    ⟨.bin .lss (.tm 2) (.tm 0), .fr 21, none⟩]) <|
                    .cond (.fr 21)
                      (.skip)
                      (.exit 4)) <|
                    .seq (.block 5 (.reg [
                      ⟨.mov (.fr 15), .tm, none⟩,
                      ⟨.mov (.fr 16), .tm, none⟩,
                      ⟨.mov (.fr 15), .tm, none⟩,
                      ⟨.mov (.fr 16), .tm, none⟩,
                      ⟨.iaddr 1 (.tm 1) (.tm 0), .tm, none⟩,
                      ⟨.load1 (.tm 0), .tm, none⟩,
                      ⟨.bin .add (.tm 0) (.c (.int .u8 1)), .tm, none⟩,
                      ⟨.iaddr 1 (.tm 6) (.tm 5), .tm, none⟩,
                      ⟨.store1 (.tm 0) (.tm 1), .no, none⟩])) <|
                    .reg [
                    ⟨.mov (.fr 16), .tm, none⟩,
                    ⟨.bin .add (.tm 0) (.c (.int .i64 1)), .tm, none⟩,
                    ⟨.mov (.tm 0), .fr 16, none⟩])))) <|
              .reg [
              ⟨.mov (.fr 14), .tm, none⟩,
              ⟨.bin .add (.tm 0) (.c (.int .i64 1)), .tm, none⟩,
              ⟨.mov (.tm 0), .fr 14, none⟩])))) <|
        .reg [
        ⟨.mov (.fr 11), .tm, none⟩,
        ⟨.bin .add (.tm 0) (.c (.int .i64 1)), .tm, none⟩,
        ⟨.mov (.tm 0), .fr 11, none⟩]))) <|
    .seq (.reg [
    ⟨.callf 11 [], .tm, none⟩,
    ⟨.mov (.tm 0), .fr 10, none⟩]) <|
    .ret, [.t 10]⟩
def f6 : AFunc := ⟨[0, 1, 2, 3, 4, 5, 6, 7, 8, 9, 10, 12, 13, 14, 15, 16, 17, 18, 19, 28, 56, 80, 99, 123, 149],
  .seq (.reg [
    ⟨.box 30 6 (.fr 0), .fr 6, none⟩,
    ⟨.box 42 5 (.fr 1), .fr 7, none⟩,
    ⟨.box 51 68 (.fr 2), .fr 8, none⟩,
    ⟨.box 57 70 (.fr 3), .fr 9, none⟩,
    ⟨.box 65 5 (.fr 4), .fr 10, none⟩,
    ⟨.mov (.c (.bool false)), .fr 11, none⟩]) <|
    .seq (.seq (.reg [
    ⟨.loadn 6 (.fr 6), .tm, none⟩,
    ⟨.loadn 5 (.fr 10), .tm, none⟩,
    ⟨.callf 43 [(.tm 1), (.tm 0)], .tm, none⟩,
    ⟨.un .not (.tm 0), .tm, none⟩,
    ⟨.mov (.tm 0), .tm, none⟩,
    ⟨.mov (.fr 5), .tm, some ((.tm 0), false)⟩,
    ⟨.len false (.tm 0), .tm, some ((.tm 1), false)⟩,
    ⟨.bin .gtr (.tm 0) (.c (.int .i64 3000)), .tm, some ((.tm 2), false)⟩,
    ⟨.pick (.tm 3) (.c (.bool true)) (.tm 0), .fr 19, none⟩]) <|
    .cond (.fr 19)
      (.seq (.reg [
      ⟨.callf 11 [], .tm, none⟩,
      ⟨.mov (.tm 0), .fr 11, none⟩]) <|
      .ret)
      (.skip)) <|
    .seq (.reg [
    ⟨.loadn 6 (.fr 6), .tm, none⟩,
    ⟨.callf 44 [(.tm 0)], .tm, none⟩,
    ⟨.mov (.tm 0), .fr 12, none⟩]) <|
    .seq (.reg [
    ⟨.mov (.fr 12), .tm, none⟩,
    ⟨.callf 12 [(.tm 0)], .tm, none⟩,
    ⟨.mov (.tm 0), .tm, none⟩,
    ⟨.extract (.tm 0) 0, .tm, none⟩,
    ⟨.extract (.tm 1) 1, .tm, none⟩,
    ⟨.new 30 6 [(.int .u8 0), (.int .i64 0), (.int .u64 0), (.int .u32 0), (.int .u32 0), (.slice none 0 0)], .fr 13, none⟩,
    ⟨.storen 6 (.fr 13) (.tm 1), .no, none⟩,
    ⟨.mov (.tm 0), .fr 14, none⟩]) <|
    .seq (.seq (.dreg [
    (⟨.mov (.fr 12), .tm, none⟩, []),
    (⟨.len false (.tm 0), .tm, none⟩, []),
    (⟨.bin .gtr (.tm 0) (.c (.int .i64 0)), .tm, none⟩, []),
    (⟨.mov (.tm 0), .tm, none⟩, []),
    (⟨.mov (.fr 14), .tm, some ((.tm 0), true)⟩, []),
    (⟨.bin .neq (.tm 0) (.c (.int .i64 0)), .tm, some ((.tm 1), true)⟩, []),
    (⟨.mov (.tm 0), .tm, some ((.tm 2), true)⟩, []),
    (⟨.loadn 6 (.fr 13), .tm, some ((.tm 0), false)⟩, []),
    (⟨.callf 15 [(.tm 0)], .tm, some ((.tm 1), false)⟩, []),
    (⟨.loadn 6 (.fr 6), .tm, some ((.tm 2), false)⟩, [8]),
    (⟨.callf 15 [(.tm 0)], .tm, some ((.tm 3), false)⟩, []),
    (⟨.callf 14 [(.tm 2), (.tm 0)], .tm, some ((.tm 4), false)⟩, []),
    (⟨.un .not (.tm 0), .tm, some ((.tm 5), false)⟩, []),
    (⟨.pick (.tm 6) (.c (.bool true)) (.tm 0), .tm, some ((.tm 9), true)⟩, []),
    (⟨.mov (.tm 0), .tm, some ((.tm 10), true)⟩, []),
    (⟨.mov (.fr 12), .tm, some ((.tm 0), false)⟩, []),
    (⟨.callf 28 [(.tm 0)], .tm, some ((.tm 1), false)⟩, []),
    (⟨.bin .neq (.tm 0) (.c (.int .u8 1)), .tm, some ((.tm 2), false)⟩, []),
    (⟨.pick (.tm 3) (.c (.bool true)) (.tm 0), .tm, some ((.tm 14), true)⟩, []),
    (⟨.pick (.tm 15) (.tm 0) (.c (.bool false)), .fr 20, none⟩, [])]) <|
    .cond (.fr 20)
      (.seq (.reg [
      ⟨.mov (.c (.bool false)), .fr 11, none⟩]) <|
      .ret)
      (.skip)) <|
    .seq (.reg [
    ⟨.loadn 5 (.fr 7), .tm, none⟩,
    ⟨.callf 45 [(.tm 0)], .tm, none⟩,
    ⟨.mov (.tm 0), .fr 12, none⟩]) <|
    .seq (.reg [
    ⟨.mov (.fr 12), .tm, none⟩,
    ⟨.callf 16 [(.tm 0)], .tm, none⟩,
    ⟨.mov (.tm 0), .tm, none⟩,
    ⟨.extract (.tm 0) 0, .tm, none⟩,
    ⟨.extract (.tm 1) 1, .tm, none⟩,
    ⟨.new 42 5 [(.int .u8 0), (.int .i64 0), (.int .i64 0), (.int .u64 0), (.int .u32 0)], .fr 15, none⟩,
    ⟨.storen 5 (.fr 15) (.tm 1), .no, none⟩,
    ⟨.mov (.tm 0), .fr 14, none⟩]) <|
    .seq (.seq (.reg [
    ⟨.mov (.fr 12), .tm, none⟩,
    ⟨.len false (.tm 0), .tm, none⟩,
    ⟨.bin .gtr (.tm 0) (.c (.int .i64 0)), .tm, none⟩,
    ⟨.mov (.tm 0), .tm, none⟩,
    ⟨.mov (.fr 14), .tm, some ((.tm 0), true)⟩,
    ⟨.bin .neq (.tm 0) (.c (.int .i64 0)), .tm, some ((.tm 1), true)⟩,
    ⟨.mov (.tm 0), .tm, some ((.tm 2), true)⟩,
    ⟨.loadn 5 (.fr 15), .tm, some ((.tm 0), false)⟩,
    ⟨.loadn 5 (.fr 7), .tm, some ((.tm 1), false)⟩,
    ⟨.eqs [1, 1, 1, 1, 1] true (.tm 1) (.tm 0), .tm, some ((.tm 2), false)⟩,
    ⟨.pick (.tm 3) (.c (.bool true)) (.tm 0), .tm, some ((.tm 6), true)⟩,
    ⟨.mov (.tm 0), .tm, some ((.tm 7), true)⟩,
    ⟨.mov (.fr 12), .tm, some ((.tm 0), false)⟩,
    ⟨.callf 28 [(.tm 0)], .tm, some ((.tm 1), false)⟩,
    ⟨.bin .neq (.tm 0) (.c (.int .u8 2)), .tm, some ((.tm 2), false)⟩,
    ⟨.pick (.tm 3) (.c (.bool true)) (.tm 0), .tm, some ((.tm 11), true)⟩,
    ⟨.pick (.tm 12) (.tm 0) (.c (.bool false)), .fr 21, none⟩]) <|
    .cond (.fr 21)
      (.seq (.reg [
      ⟨.mov (.c (.bool false)), .fr 11, none⟩]) <|
      .ret)
      (.skip)) <|
    .seq (.reg [
    ⟨.loadn 68 (.fr 8), .tm, none⟩,
    ⟨.callf 46 [(.tm 0)], .tm, none⟩,
    ⟨.mov (.tm 0), .fr 12, none⟩]) <|
    .seq (.reg [
    ⟨.mov (.fr 12), .tm, none⟩,
    ⟨.callf 19 [(.tm 0)], .tm, none⟩,
    ⟨.mov (.tm 0), .tm, none⟩,
    ⟨.extract (.tm 0) 0, .tm, none⟩,
    ⟨.extract (.tm 1) 1, .tm, none⟩,
    ⟨.new 51 68 Z68, .fr 16, none⟩,
    ⟨.storen 68 (.fr 16) (.tm 1), .no, none⟩,
    ⟨.mov (.tm 0), .fr 14, none⟩]) <|
    .seq (.seq (.reg [
    ⟨.mov (.fr 14), .tm, none⟩,
    ⟨.bin .neq (.tm 0) (.c (.int .i64 0)), .tm, none⟩,
    ⟨.mov (.tm 0), .tm, none⟩,
    ⟨.loadn 68 (.fr 16), .tm, some ((.tm 0), false)⟩,
    ⟨.loadn 68 (.fr 8), .tm, some ((.tm 1), false)⟩,
    ⟨.eqs O68 true (.tm 1) (.tm 0), .tm, some ((.tm 2), false)⟩,
    ⟨.pick (.tm 3) (.c (.bool true)) (.tm 0), .tm, none⟩,
    ⟨.mov (.tm 0), .tm, none⟩,
    ⟨.mov (.fr 12), .tm, some ((.tm 0), false)⟩,
    ⟨.callf 28 [(.tm 0)], .tm, some ((.tm 1), false)⟩,
    ⟨.bin .neq (.tm 0) (.c (.int .u8 3)), .tm, some ((.tm 2), false)⟩,
    ⟨.pick (.tm 3) (.c (.bool true)) (.tm 0), .fr 22, none⟩]) <|
    .cond (.fr 22)
      (.seq (.reg [
      ⟨.mov (.c (.bool false)), .fr 11, none⟩]) <|
      .ret)
      (.skip)) <|
    .seq (.reg [
    ⟨.loadn 70 (.fr 9), .tm, none⟩,
    ⟨.callf 47 [(.tm 0)], .tm, none⟩,
    ⟨.mov (.tm 0), .fr 12, none⟩]) <|
    .seq (.reg [
    ⟨.mov (.fr 12), .tm, none⟩,
    ⟨.callf 21 [(.tm 0)], .tm, none⟩,
    ⟨.mov (.tm 0), .tm, none⟩,
    ⟨.extract (.tm 0) 0, .tm, none⟩,
    ⟨.extract (.tm 1) 1, .tm, none⟩,
    ⟨.new 57 70 Z70, .fr 17, none⟩,
    ⟨.storen 70 (.fr 17) (.tm 1), .no, none⟩,
    ⟨.mov (.tm 0), .fr 14, none⟩]) <|
    .seq (.seq (.reg [
    ⟨.mov (.fr 12), .tm, none⟩,
    ⟨.len false (.tm 0), .tm, none⟩,
    ⟨.bin .gtr (.tm 0) (.c (.int .i64 0)), .tm, none⟩,
    ⟨.mov (.tm 0), .tm, none⟩,
    ⟨.mov (.fr 14), .tm, some ((.tm 0), true)⟩,
    ⟨.bin .neq (.tm 0) (.c (.int .i64 0)), .tm, some ((.tm 1), true)⟩,
    ⟨.mov (.tm 0), .tm, some ((.tm 2), true)⟩,
    ⟨.loadn 70 (.fr 17), .tm, some ((.tm 0), false)⟩,
    ⟨.loadn 70 (.fr 9), .tm, some ((.tm 1), false)⟩,
    ⟨.eqs O70 true (.tm 1) (.tm 0), .tm, some ((.tm 2), false)⟩,
    ⟨.pick (.tm 3) (.c (.bool true)) (.tm 0), .tm, some ((.tm 6), true)⟩,
    ⟨.mov (.tm 0), .tm, some ((.tm 7), true)⟩,
    ⟨.mov (.fr 12), .tm, some ((.tm 0), false)⟩,
    ⟨.callf 28 [(.tm 0)], .tm, some ((.tm 1), false)⟩,
    ⟨.bin .neq (.tm 0) (.c (.int .u8 4)), .tm, some ((.tm 2), false)⟩,
    ⟨.pick (.tm 3) (.c (.bool true)) (.tm 0), .tm, some ((.tm 11), true)⟩,
    ⟨.pick (.tm 12) (.tm 0) (.c (.bool false)), .fr 23, none⟩]) <|
    .cond (.fr 23)
      (.seq (.reg [
      ⟨.mov (.c (.bool false)), .fr 11, none⟩]) <|
      .ret)
      (.skip)) <|
    .seq (.reg [
    ⟨.loadn 5 (.fr 10), .tm, none⟩,
    ⟨.callf 36 [(.tm 0)], .tm, none⟩,
    ⟨.mov (.tm 0), .fr 12, none⟩]) <|
    .seq (.reg [
    ⟨.mov (.fr 12), .tm, none⟩,
    ⟨.callf 24 [(.tm 0)], .tm, none⟩,
    ⟨.mov (.tm 0), .tm, none⟩,
    ⟨.extract (.tm 0) 0, .tm, none⟩,
    ⟨.extract (.tm 1) 1, .tm, none⟩,
    ⟨.new 65 5 [(.int .u8 0), (.int .u8 0), (.int .i64 0), (.int .i64 0), (.slice none 0 0)], .fr 18, none⟩,
    ⟨.storen 5 (.fr 18) (.tm 1), .no, none⟩,
    ⟨.mov (.tm 0), .fr 14, none⟩]) <|
    .seq (.seq (.dreg [
    (⟨.mov (.fr 12), .tm, none⟩, []),
    (⟨.len false (.tm 0), .tm, none⟩, []),
    (⟨.bin .gtr (.tm 0) (.c (.int .i64 0)), .tm, none⟩, []),
    (⟨.mov (.tm 0), .tm, none⟩, []),
    (⟨.mov (.fr 14), .tm, some ((.tm 0), true)⟩, []),
    (⟨.bin .neq (.tm 0) (.c (.int .i64 0)), .tm, some ((.tm 1), true)⟩, []),
    (⟨.mov (.tm 0), .tm, some ((.tm 2), true)⟩, []),
    (⟨.loadn 5 (.fr 18), .tm, some ((.tm 0), false)⟩, []),
    (⟨.callf 26 [(.tm 0)], .tm, some ((.tm 1), false)⟩, []),
    (⟨.loadn 5 (.fr 10), .tm, some ((.tm 2), false)⟩, [8]),
    (⟨.callf 26 [(.tm 0)], .tm, some ((.tm 3), false)⟩, []),
    (⟨.eqs [1, 1, 1, 1, 2] true (.tm 2) (.tm 0), .tm, some ((.tm 4), false)⟩, []),
    (⟨.pick (.tm 5) (.c (.bool true)) (.tm 0), .tm, some ((.tm 8), true)⟩, []),
    (⟨.mov (.tm 0), .tm, some ((.tm 9), true)⟩, []),
    (⟨.mov (.fr 12), .tm, some ((.tm 0), false)⟩, []),
    (⟨.callf 28 [(.tm 0)], .tm, some ((.tm 1), false)⟩, []),
    (⟨.bin .neq (.tm 0) (.c (.int .u8 5)), .tm, some ((.tm 2), false)⟩, []),
    (⟨.pick (.tm 3) (.c (.bool true)) (.tm 0), .tm, some ((.tm 13), true)⟩, []),
    (⟨.pick (.tm 14) (.tm 0) (.c (.bool false)), .fr 24, none⟩, [])]) <|
    .cond (.fr 24)
      (.seq (.reg [
      ⟨.mov (.c (.bool false)), .fr 11, none⟩]) <|
      .ret)
      (.skip)) <|
    .seq (.reg [
    ⟨.mov (.fr 5), .tm, none⟩,
    ⟨.callf 53 [(.tm 0)], .tm, none⟩,
    ⟨.mov (.tm 0), .tm, none⟩,
    ⟨.callf 11 [], .tm, some ((.tm 0), true)⟩,
    ⟨.pick (.tm 1) (.tm 0) (.c (.bool false)), .tm, none⟩,
    ⟨.mov (.tm 0), .fr 11, none⟩]) <|
    .ret, [.t 11]⟩
def f11 : AFunc := ⟨[0, 1, 2, 3],
  .seq (.reg [
    ⟨.mov (.c (.bool false)), .fr 0, none⟩]) <|
    .seq (.reg [
    ⟨.build [(.int .u64 0), (.int .u32 0)] [(0, 1, (.c (.int .u64 4))), (1, 1, (.c (.int .u32 5)))], .tm, none⟩,
    ⟨.build [(.int .u8 0), (.int .i64 0), (.int .i64 0), (.int .u64 0), (.int .u32 0)] [(0, 1, (.c (.int .u8 1))), (1, 1, (.c (.int .i64 2))), (2, 1, (.c (.int .i64 3))), (3, 2, (.tm 0))], .tm, none⟩,
    ⟨.callf 45 [(.tm 0)], .tm, none⟩,
    ⟨.mov (.tm 0), .fr 1, none⟩]) <|
    .seq (.reg [
    ⟨.mov (.fr 1), .tm, none⟩,
    ⟨.callf 16 [(.tm 0)], .tm, none⟩,
    ⟨.mov (.tm 0), .tm, none⟩,
    ⟨.extract (.tm 0) 0, .tm, none⟩,
    ⟨.extract (.tm 1) 1, .tm, none⟩,
    ⟨.new 42 5 [(.int .u8 0), (.int .i64 0), (.int .i64 0), (.int .u64 0), (.int .u32 0)], .fr 2, none⟩,
    ⟨.storen 5 (.fr 2) (.tm 1), .no, none⟩,
    ⟨.mov (.tm 0), .fr 3, none⟩]) <|
    .seq (.reg [
    ⟨.mov (.fr 1), .tm, none⟩,
    ⟨.len false (.tm 0), .tm, none⟩,
    ⟨.bin .eql (.tm 0) (.c (.int .i64 34)), .tm, none⟩,
    ⟨.mov (.tm 0), .tm, none⟩,
    ⟨.mov (.fr 3), .tm, some ((.tm 0), true)⟩,
    ⟨.bin .eql (.tm 0) (.c (.int .i64 0)), .tm, some ((.tm 1), true)⟩,
    ⟨.pick (.tm 2) (.tm 0) (.c (.bool false)), .tm, none⟩,
    ⟨.mov (.tm 0), .tm, none⟩,
    ⟨.faddr 2 (.fr 2), .tm, some ((.tm 0), true)⟩,
    ⟨.load1 (.tm 0), .tm, some ((.tm 1), true)⟩,
    ⟨.bin .eql (.tm 0) (.c (.int .i64 3)), .tm, some ((.tm 2), true)⟩,
    ⟨.pick (.tm 3) (.tm 0) (.c (.bool false)), .tm, none⟩,
    ⟨.mov (.tm 0), .tm, none⟩,
    ⟨.faddr 3 (.fr 2), .tm, some ((.tm 0), true)⟩,
    ⟨.faddr 0 (.tm 0), .tm, some ((.tm 1), true)⟩,
    ⟨.load1 (.tm 0), .tm, some ((.tm 2), true)⟩,
    ⟨.bin .eql (.tm 0) (.c (.int .u64 4)), .tm, some ((.tm 3), true)⟩,
    ⟨.pick (.tm 4) (.tm 0) (.c (.bool false)), .tm, none⟩,
    ⟨.mov (.tm 0), .tm, none⟩,
    ⟨.mov (.fr 1), .tm, some ((.tm 0), true)⟩,
    ⟨.callf 28 [(.tm 0)], .tm, some ((.tm 1), true)⟩,
    ⟨.bin .eql (.tm 0) (.c (.int .u8 2)), .tm, some ((.tm 2), true)⟩,
    ⟨.pick (.tm 3) (.tm 0) (.c (.bool false)), .tm, none⟩,
    ⟨.mov (.tm 0), .fr 0, none⟩]) <|
    .ret, [.t 0]⟩
def f15 : AFunc := ⟨[0, 1, 2],
  .seq (.reg [
    ⟨.box 30 6 (.fr 0), .fr 1, none⟩,
    ⟨.new 34 6 [(.int .u8 0), (.int .i64 0), (.int .u64 0), (.int .u32 0), (.int .u32 0), (.slice none 0 0)], .fr 2, none⟩]) <|
    .seq (.reg [
    ⟨.faddr 0 (.fr 1), .tm, none⟩,
    ⟨.load1 (.tm 0), .tm, none⟩,
    ⟨.faddr 1 (.fr 1), .tm, none⟩,
    ⟨.load1 (.tm 0), .tm, none⟩,
    ⟨.faddr 2 (.fr 1), .tm, none⟩,
    ⟨.loadn 4 (.tm 0), .tm, none⟩,
    ⟨.build [(.int .u8 0), (.int .i64 0), (.int .u64 0), (.int .u32 0), (.int .u32 0), (.slice none 0 0)] [(0, 1, (.tm 4)), (1, 1, (.tm 2)), (2, 4, (.tm 0))], .tm, none⟩,
    ⟨.storen 6 (.fr 2) (.tm 0), .no, none⟩]) <|
    .ret, [.cn 6 2]⟩
def f26 : AFunc := ⟨[0, 1, 2],
  .seq (.reg [
    ⟨.box 65 5 (.fr 0), .fr 1, none⟩,
    ⟨.new 69 5 [(.int .u8 0), (.int .u8 0), (.int .i64 0), (.int .i64 0), (.string ByteArray.empty)], .fr 2, none⟩]) <|
    .seq (.reg [
    ⟨.faddr 0 (.fr 1), .tm, none⟩,
    ⟨.load1 (.tm 0), .tm, none⟩,
    ⟨.faddr 1 (.fr 1), .tm, none⟩,
    ⟨.load1 (.tm 0), .tm, none⟩,
    ⟨.faddr 2 (.fr 1), .tm, none⟩,
    ⟨.load1 (.tm 0), .tm, none⟩,
    ⟨.faddr 3 (.fr 1), .tm, none⟩,
    ⟨.load1 (.tm 0), .tm, none⟩,
    ⟨.faddr 4 (.fr 1), .tm, none⟩,
    ⟨.load1 (.tm 0), .tm, none⟩,
    ⟨.b2s (.tm 0), .tm, none⟩,
    ⟨.build [(.int .u8 0), (.int .u8 0), (.int .i64 0), (.int .i64 0), (.string ByteArray.empty)] [(0, 1, (.tm 9)), (1, 1, (.tm 7)), (2, 1, (.tm 5)), (3, 1, (.tm 3)), (4, 1, (.tm 0))], .tm, none⟩,
    ⟨.storen 5 (.fr 2) (.tm 0), .no, none⟩]) <|
    .ret, [.cn 5 2]⟩
def f43 : AFunc := ⟨[0, 1, 2, 3, 4],
  .seq (.reg [
    ⟨.box 30 6 (.fr 0), .fr 2, none⟩,
    ⟨.box 65 5 (.fr 1), .fr 3, none⟩,
    ⟨.mov (.c (.bool false)), .fr 4, none⟩]) <|
    .seq (.reg [
    ⟨.faddr 2 (.fr 2), .tm, none⟩,
    ⟨.faddr 3 (.tm 0), .tm, none⟩,
    ⟨.load1 (.tm 0), .tm, none⟩,
    ⟨.len false (.tm 0), .tm, none⟩,
    ⟨.bin .leq (.tm 0) (.c (.int .i64 1000)), .tm, none⟩,
    ⟨.mov (.tm 0), .tm, none⟩,
    ⟨.faddr 4 (.fr 3), .tm, some ((.tm 0), true)⟩,
    ⟨.load1 (.tm 0), .tm, some ((.tm 1), true)⟩,
    ⟨.len false (.tm 0), .tm, some ((.tm 2), true)⟩,
    ⟨.bin .leq (.tm 0) (.c (.int .i64 5000)), .tm, some ((.tm 3), true)⟩,
    ⟨.pick (.tm 4) (.tm 0) (.c (.bool false)), .tm, none⟩,
    ⟨.mov (.tm 0), .fr 4, none⟩]) <|
    .ret, [.t 4]⟩
def f53 : AFunc := ⟨[0, 2, 3, 5, 7, 9, 11, 13, 40, 43, 45, 49, 53, 57],
  .seq (.reg [
    ⟨.mov (.c (.bool false)), .fr 1, none⟩]) <|
    .seq (.reg [
    ⟨.mov (.fr 0), .tm, none⟩,
    ⟨.callf 12 [(.tm 0)], .tm, none⟩,
    ⟨.mov (.tm 0), .tm, none⟩,
    ⟨.extract (.tm 0) 0, .tm, none⟩,
    ⟨.extract (.tm 1) 1, .tm, none⟩,
    ⟨.new 30 6 [(.int .u8 0), (.int .i64 0), (.int .u64 0), (.int .u32 0), (.int .u32 0), (.slice none 0 0)], .fr 2, none⟩,
    ⟨.storen 6 (.fr 2) (.tm 1), .no, none⟩,
    ⟨.mov (.tm 0), .tm, none⟩]) <|
    .seq (.reg [
    ⟨.mov (.fr 0), .tm, none⟩,
    ⟨.callf 16 [(.tm 0)], .tm, none⟩,
    ⟨.mov (.tm 0), .tm, none⟩,
    ⟨.extract (.tm 0) 0, .tm, none⟩,
    ⟨.extract (.tm 1) 1, .tm, none⟩,
    ⟨.new 42 5 [(.int .u8 0), (.int .i64 0), (.int .i64 0), (.int .u64 0), (.int .u32 0)], .fr 3, none⟩,
    ⟨.storen 5 (.fr 3) (.tm 1), .no, none⟩,
    ⟨.mov (.tm 0), .tm, none⟩]) <|
    .seq (.reg [
    ⟨.mov (.fr 0), .tm, none⟩,
    ⟨.callf 19 [(.tm 0)], .tm, none⟩,
    ⟨.mov (.tm 0), .tm, none⟩,
    ⟨.extract (.tm 0) 0, .tm, none⟩,
    ⟨.extract (.tm 1) 1, .tm, none⟩,
    ⟨.new 51 68 Z68, .fr 4, none⟩,
    ⟨.storen 68 (.fr 4) (.tm 1), .no, none⟩,
    ⟨.mov (.tm 0), .tm, none⟩]) <|
    .seq (.reg [
    ⟨.mov (.fr 0), .tm, none⟩,
    ⟨.callf 21 [(.tm 0)], .tm, none⟩,
    ⟨.mov (.tm 0), .tm, none⟩,
    ⟨.extract (.tm 0) 0, .tm, none⟩,
    ⟨.extract (.tm 1) 1, .tm, none⟩,
    ⟨.new 57 70 Z70, .fr 5, none⟩,
    ⟨.storen 70 (.fr 5) (.tm 1), .no, none⟩,
    ⟨.mov (.tm 0), .tm, none⟩]) <|
    .seq (.reg [
    ⟨.mov (.fr 0), .tm, none⟩,
    ⟨.callf 24 [(.tm 0)], .tm, none⟩,
    ⟨.mov (.tm 0), .tm, none⟩,
    ⟨.extract (.tm 0) 0, .tm, none⟩,
    ⟨.extract (.tm 1) 1, .tm, none⟩,
    ⟨.new 65 5 [(.int .u8 0), (.int .u8 0), (.int .i64 0), (.int .i64 0), (.slice none 0 0)], .fr 6, none⟩,
    ⟨.storen 5 (.fr 6) (.tm 1), .no, none⟩,
    ⟨.mov (.tm 0), .tm, none⟩]) <|
    .seq (.reg [
    ⟨.mov (.c (.slice none 0 0)), .fr 7, none⟩]) <|
    .seq (.seq (.reg [
    ⟨.mov (.fr 0), .tm, none⟩,
    ⟨.callf 28 [(.tm 0)], .fr 8, none⟩]) <|
    .block 0 (.seq (.reg [
      ⟨.bin .eql (.fr 8) (.c (.int .u8 0)), .tm, none⟩,
      ⟨.mov (.tm 0), .fr 9, none⟩]) <|
      .cond (.fr 9)
        (.seq (.reg [
        ⟨.mov (.c (.bool true)), .fr 1, none⟩]) <|
        .ret)
        (.seq (.reg [
        ⟨.bin .eql (.fr 8) (.c (.int .u8 1)), .tm, none⟩,
        ⟨.mov (.tm 0), .fr 10, none⟩]) <|
        .cond (.fr 10)
          (.reg [
          ⟨.loadn 6 (.fr 2), .tm, none⟩,
          ⟨.callf 44 [(.tm 0)], .tm, none⟩,
          ⟨.mov (.tm 0), .fr 7, none⟩])
          (.seq (.reg [
          ⟨.bin .eql (.fr 8) (.c (.int .u8 2)), .tm, none⟩,
          ⟨.mov (.tm 0), .fr 11, none⟩]) <|
          .cond (.fr 11)
            (.reg [
            ⟨.loadn 5 (.fr 3), .tm, none⟩,
            ⟨.callf 45 [(.tm 0)], .tm, none⟩,
            ⟨.mov (.tm 0), .fr 7, none⟩])
            (.seq (.reg [
            ⟨.bin .eql (.fr 8) (.c (.int .u8 3)), .tm, none⟩,
            ⟨.mov (.tm 0), .fr 12, none⟩]) <|
            .cond (.fr 12)
              (.reg [
              ⟨.loadn 68 (.fr 4), .tm, none⟩,
              ⟨.callf 46 [(.tm 0)], .tm, none⟩,
              ⟨.mov (.tm 0), .fr 7, none⟩])
              (.seq (.reg [
              ⟨.bin .eql (.fr 8) (.c (.int .u8 4)), .tm, none⟩,
              ⟨.mov (.tm 0), .fr 13, none⟩]) <|
              .cond (.fr 13)
                (.reg [
                ⟨.loadn 70 (.fr 5), .tm, none⟩,
                ⟨.callf 47 [(.tm 0)], .tm, none⟩,
                ⟨.mov (.tm 0), .fr 7, none⟩])
                (.reg [
                ⟨.loadn 5 (.fr 6), .tm, none⟩,
                ⟨.callf 36 [(.tm 0)], .tm, none⟩,
                ⟨.mov (.tm 0), .fr 7, none⟩]))))))) <|
    .seq (.reg [
    ⟨.mov (.fr 7), .tm, none⟩,
    ⟨.b2s (.tm 0), .tm, none⟩,
    ⟨.mov (.fr 0), .tm, none⟩,
    ⟨.b2s (.tm 0), .tm, none⟩,
    ⟨.bin .eql (.tm 2) (.tm 0), .tm, none⟩,
    ⟨.mov (.tm 0), .fr 1, none⟩]) <|
    .ret, [.t 1]⟩
theorem f6_ok : compF Go.Proofs.Try.prog 0 [0, 1, 2, 3, 4, 5, 6, 7, 8, 9, 10, 12, 13, 14, 15, 16, 17, 18, 19, 28, 56, 80, 99, 123, 149] 6 = some f6 := by kernel_rfl
theorem f6_n : argsOK Go.Proofs.Try.prog 6 6 = true := by kernel_rfl
theorem f11_ok : compF Go.Proofs.Try.prog 0 [0, 1, 2, 3] 11 = some f11 := by kernel_rfl
theorem f11_n : argsOK Go.Proofs.Try.prog 11 0 = true := by kernel_rfl
theorem f15_ok : compF Go.Proofs.Try.prog 0 [0, 1, 2] 15 = some f15 := by kernel_rfl
theorem f15_n : argsOK Go.Proofs.Try.prog 15 1 = true := by kernel_rfl
theorem f26_ok : compF Go.Proofs.Try.prog 0 [0, 1, 2] 26 = some f26 := by kernel_rfl
theorem f26_n : argsOK Go.Proofs.Try.prog 26 1 = true := by kernel_rfl
theorem f43_ok : compF Go.Proofs.Try.prog 0 [0, 1, 2, 3, 4] 43 = some f43 := by kernel_rfl
theorem f43_n : argsOK Go.Proofs.Try.prog 43 2 = true := by kernel_rfl
theorem f53_ok : compF Go.Proofs.Try.prog 0 [0, 2, 3, 5, 7, 9, 11, 13, 40, 43, 45, 49, 53, 57] 53 = some f53 := by kernel_rfl
theorem f53_n : argsOK Go.Proofs.Try.prog 53 1 = true := by kernel_rfl
end Go.AM.F

set_option linter.unusedSimpArgs false
set_option linter.unusedVariables false
namespace Go.AM.Fd
open Go.Proofs Go.AM.F
theorem GotV.nv {ρ : Nat → Option Nat} {c : List Value} (h : c.all plain1 = true) (e : Int) : NV ρ (GotV c e) (GotV c e) :=
  NV.tuple_of (.cons (NV.agg_of (NL.plain h)) (.cons (.int _ e) .nil))
def er (ok : Bool) : Int := if ok then 0 else 130
theorem e16 {H : AHeap} {v : Value} {b : List UInt8} (hb : BQ H v b) (hl : b.length ≤ 1000000) : ∃ w H', ARun Go.Proofs.Try.prog 0 16 [v] H w H' ∧ w = GotV (cOu ((geOu b).getD Ou0)) (er (geOu b).isSome) ∧ H' = H := by
  obtain ⟨w, H', a, k, e⟩ := t16 hb (by omega)
  have e2 : w = GotV (cOu ((geOu b).getD Ou0)) (er (geOu b).isSome) := by rw [e]; cases geOu b <;> rfl
  subst e2
  exact ⟨_, _, a.gc0 k (.inr (GotV.nv rfl _)), rfl, rfl⟩
theorem e19 {H : AHeap} {v : Value} {b : List UInt8} (hb : BQ H v b) (hl : b.length ≤ 1000000) : ∃ w H', ARun Go.Proofs.Try.prog 0 19 [v] H w H' ∧ w = GotV (cSt ((geSt b).getD St0)) (er (geSt b).isSome) ∧ H' = H := by
  obtain ⟨w, H', a, k, e⟩ := t19 hb (by omega)
  have e2 : w = GotV (cSt ((geSt b).getD St0)) (er (geSt b).isSome) := by rw [e]; cases geSt b <;> rfl
  subst e2
  exact ⟨_, _, a.gc0 k (.inr (GotV.nv (cSt_plain _) _)), rfl, rfl⟩
theorem e21 {H : AHeap} {v : Value} {b : List UInt8} (hb : BQ H v b) (hl : b.length ≤ 1000000) : ∃ w H', ARun Go.Proofs.Try.prog 0 21 [v] H w H' ∧ w = GotV (cLo ((geLo b).getD Lo0)) (er (geLo b).isSome) ∧ H' = H := by
  obtain ⟨w, H', a, k, e⟩ := t21 hb (by omega)
  have e2 : w = GotV (cLo ((geLo b).getD Lo0)) (er (geLo b).isSome) := by rw [e]; cases geLo b <;> rfl
  subst e2
  exact ⟨_, _, a.gc0 k (.inr (GotV.nv (cLo_plain _) _)), rfl, rfl⟩
theorem e12 {H : AHeap} {v : Value} {b : List UInt8} (hb : BQ H v b) (hl : b.length ≤ 1000000) : ∃ w H', ARun Go.Proofs.Try.prog 0 12 [v] H w H' ∧ ∃ vc, w = GotV (cI6 vc ((geI6 b).getD I60)) (er (geI6 b).isSome) ∧ Keeps H H' ∧ Fresh H.n vc ∧ AP H' 108 2 vc ((geI6 b).getD I60).cs.length (CC ((geI6 b).getD I60).cs).flatten := by
  obtain ⟨w, H', a, k, vc, f, e⟩ := t12 hb (by omega)
  refine ⟨w, H', a, ?_⟩
  cases hg : geI6 b with
  | none =>
    rw [hg] at e
    exact ⟨.slice none 0 0, e, k, fun b hb => (by cases hb), .inl ⟨rfl, rfl, rfl⟩⟩
  | some x =>
    rw [hg] at e
    exact ⟨vc, e.1, k, f, e.2⟩
theorem e24 {H : AHeap} {v : Value} {b : List UInt8} (hb : BQ H v b) (hl : b.length ≤ 1000000) : ∃ w H', ARun Go.Proofs.Try.prog 0 24 [v] H w H' ∧ ∃ vb, w = GotV (cLi vb ((geLi b).getD Li0)) (er (geLi b).isSome) ∧ Keeps H H' ∧ Fresh H.n vb ∧ AP H' 5 1 vb ((geLi b).getD Li0).B.length (cellsOf ((geLi b).getD Li0).B) := by
  obtain ⟨w, H', a, k, vc, f, e⟩ := t24 hb (by omega)
  refine ⟨w, H', a, ?_⟩
  cases hg : geLi b with
  | none =>
    rw [hg] at e
    exact ⟨.slice none 0 0, e, k, fun b hb => (by cases hb), .inl ⟨rfl, rfl, rfl⟩⟩
  | some x =>
    rw [hg] at e
    exact ⟨vc, e.1, k, f, e.2⟩
theorem Stood.arg {ng : Nat} {H : AHeap} {v : Value} {l : List Value} : Stood ng (v :: l) H v := by
  intro σ w args' _ ha
  cases ha with
  | cons h _ => exact ⟨_, h⟩
theorem fill642 (a : Int) (b : Int) (c d e : Int) (v : Value) : fillA [.int .u8 0, .int .i64 0, .int .u64 0, .int .u32 0, .int .u32 0, .slice none 0 0] [(0, 1, .int .u8 a), (1, 1, .int .i64 b), (2, 4, .agg #[.int .u64 c, .int .u32 d, .int .u32 e, v])] = some [.int .u8 a, .int .i64 b, .int .u64 c, .int .u32 d, .int .u32 e, v] := rfl
theorem t15 (x : I6) {H : AHeap} {vx : Value} (h1 : vx.oneCell' = true) : ∃ w H', ARun Go.Proofs.Try.prog 0 15 [.agg (cI6 vx x).toArray] H w H' ∧ w = .agg (cI6 vx x).toArray ∧ H' = H := by
  suffices h : ∃ w H', ARun Go.Proofs.Try.prog 0 15 [.agg (cI6 vx x).toArray] H w H' ∧ w = .agg (cI6 vx x).toArray ∧ Keeps H H' by
    obtain ⟨_, _, a, rfl, k⟩ := h
    exact ⟨_, _, a.gc0 k (.inl Stood.arg), rfl, rfl⟩
  refine walk2 f15_ok f15_n ?_
  intro Q hq1 hq2
  have hr : ∀ fr H', resO f15.res fr H' = (celln 6 (fr.getD 2 undef) H') := fun fr H' => resC 2 6 fr
  have ox : (cI6 vx x).all Value.oneCell' = true := by simp only [cI6, List.all_cons, List.all_nil, h1]; rfl
  have ce := cI6G vx x
  have d4 : ((cI6 vx x).drop 2).take 4 = [.int .u64 (x.oc : Nat), .int .u32 (x.no : Nat), .int .u32 (x.re : Nat), vx] := rfl
  have hne : (cI6 vx x).length ≠ 4 := by rw [cI6L]; omega
  simp (disch := (first | assumption | omega | (simp only [List.length_cons, List.length_nil] <;> omega) | (simp only [alloc_n, set_n] <;> omega) | (simp (disch := (first | assumption | omega | (simp only [alloc_n, set_n] <;> omega))) only [row_alloc, row_set]; assumption))) only [f15, W_block, ANs, A3s, AOp.map, ↓reduceIte, Nat.reduceAdd, Nat.reduceEqDiff, reduceCtorEq, initFr, Nat.reduceLT, clsA, List.take, List.drop, Nat.reduceLeDiff, Nat.reduceMul, Nat.reduceSub, reduceIte, ANc, A3c, ox, ce, d4, cI6L, fill642, h1]
  refine hq2 _ _ ⟨_, by rw [hr]; simp (disch := (first | assumption | omega | (simp only [List.length_cons, List.length_nil] <;> omega) | (simp only [alloc_n, set_n] <;> omega) | (simp (disch := (first | assumption | omega | (simp only [alloc_n, set_n] <;> omega))) only [row_alloc, row_set]; assumption))) only [W_block, ANs, A3s, AOp.map, ↓reduceIte, Nat.reduceAdd, Nat.reduceEqDiff, reduceCtorEq, initFr, Nat.reduceLT, clsA, List.take, List.drop, Nat.reduceLeDiff, Nat.reduceMul, Nat.reduceSub, reduceIte, ANc, A3c]; (try rfl), rfl, ?_⟩
  ((repeat (first | exact Keeps.refl _ | assumption | refine Keeps.alloc ?_ _ | (refine Keeps.set ?_ (by first | omega | (simp only [alloc_n, set_n] <;> omega)) (by first | omega | (simp only [alloc_n, set_n] <;> omega)) _) | (refine Keeps.trans' (by assumption) ?_))))
theorem t26 (x : Li) {H : AHeap} {vb : Value} (hB : BS H vb x.B) : ∃ w H', ARun Go.Proofs.Try.prog 0 26 [.agg (cLi vb x).toArray] H w H' ∧ w = .agg (cLs x).toArray ∧ H' = H := by
  suffices h : ∃ w H', ARun Go.Proofs.Try.prog 0 26 [.agg (cLi vb x).toArray] H w H' ∧ w = .agg (cLs x).toArray ∧ Keeps H H' by
    obtain ⟨_, _, a, rfl, k⟩ := h
    exact ⟨_, _, a.gc0 k (.inr (NV.agg_of (NL.plain (cLs_plain x)))), rfl, rfl⟩
  refine walk2 f26_ok f26_n ?_
  intro Q hq1 hq2
  have hr : ∀ fr H', resO f26.res fr H' = (celln 5 (fr.getD 2 undef) H') := fun fr H' => resC 2 5 fr
  have hone := hB.sl.one
  have lx : (cLi vb x).length = 5 := rfl
  have ox : (cLi vb x).all Value.oneCell' = true := by simp only [cLi, List.all_cons, List.all_nil, hone]; rfl
  have k2 := ((Keeps.refl H).alloc (.cells true false 5 (cLi vb x) 65)).alloc (.cells true false 5 [.int .u8 0, .int .u8 0, .int .i64 0, .int .i64 0, .string ByteArray.empty] 69)
  simp (disch := (first | assumption | omega | (simp only [List.length_cons, List.length_nil] <;> omega) | (simp only [alloc_n, set_n] <;> omega) | (simp (disch := (first | assumption | omega | (simp only [alloc_n, set_n] <;> omega))) only [row_alloc, row_set]; assumption))) only [f26, W_block, ANs, A3s, AOp.map, ↓reduceIte, Nat.reduceAdd, Nat.reduceEqDiff, reduceCtorEq, initFr, Nat.reduceLT, clsA, List.take, List.drop, Nat.reduceLeDiff, Nat.reduceMul, Nat.reduceSub, reduceIte, ANc, A3c, ox, cLiG vb x, a_b2sB (hB.keeps k2), fillLs, cLsL, cLsO]
  refine hq2 _ _ ⟨_, by rw [hr]; simp (disch := (first | assumption | omega | (simp only [List.length_cons, List.length_nil] <;> omega) | (simp only [alloc_n, set_n] <;> omega) | (simp (disch := (first | assumption | omega | (simp only [alloc_n, set_n] <;> omega))) only [row_alloc, row_set]; assumption))) only [W_block, ANs, A3s, AOp.map, ↓reduceIte, Nat.reduceAdd, Nat.reduceEqDiff, reduceCtorEq, initFr, Nat.reduceLT, clsA, List.take, List.drop, Nat.reduceLeDiff, Nat.reduceMul, Nat.reduceSub, reduceIte, ANc, A3c, cLsL]; (try rfl), rfl, ?_⟩
  ((repeat (first | exact Keeps.refl _ | assumption | refine Keeps.alloc ?_ _ | (refine Keeps.set ?_ (by first | omega | (simp only [alloc_n, set_n] <;> omega)) (by first | omega | (simp only [alloc_n, set_n] <;> omega)) _) | (refine Keeps.trans' (by assumption) ?_))))
theorem t43 (x : I6) (y : Li) {H : AHeap} {vx vy : Value} (hx : Sl H 2 vx (CC x.cs)) (hy : BS H vy y.B) : ∃ w H', ARun Go.Proofs.Try.prog 0 43 [.agg (cI6 vx x).toArray, .agg (cLi vy y).toArray] H w H' ∧ w = .bool (decide (x.cs.length ≤ 1000 ∧ y.B.length ≤ 5000)) ∧ H' = H := by
  suffices h : ∃ w H', ARun Go.Proofs.Try.prog 0 43 [.agg (cI6 vx x).toArray, .agg (cLi vy y).toArray] H w H' ∧ w = .bool (decide (x.cs.length ≤ 1000 ∧ y.B.length ≤ 5000)) ∧ Keeps H H' by
    obtain ⟨_, _, a, rfl, k⟩ := h
    exact ⟨_, _, a.gc0 k (.inr (.bool _)), rfl, rfl⟩
  refine walk2 f43_ok f43_n ?_
  intro Q hq1 hq2
  have h1 := hx.one
  have h2 := hy.sl.one
  have ox : (cI6 vx x).all Value.oneCell' = true := by simp only [cI6, List.all_cons, List.all_nil, h1]; rfl
  have oy : (cLi vy y).all Value.oneCell' = true := by simp only [cLi, List.all_cons, List.all_nil, h2]; rfl
  have his := hx.is
  have hlen := hx.len
  have his2 := hy.sl.is
  have hlen2 := hy.sl.len
  rw [CC, List.length_map] at hlen
  rw [List.length_map] at hlen2
  have k0 := ((Keeps.refl H).alloc (.cells true false 6 (cI6 vx x) 30)).alloc (.cells true false 5 (cLi vy y) 65)
  by_cases c1 : x.cs.length ≤ 1000
  · by_cases c2 : y.B.length ≤ 5000
    · simp (disch := (first | assumption | omega | (simp only [List.length_cons, List.length_nil] <;> omega) | (simp only [alloc_n, set_n] <;> omega) | (simp (disch := (first | assumption | omega | (simp only [alloc_n, set_n] <;> omega))) only [row_alloc, row_set]; assumption))) only [f43, W_block, ANs, A3s, AOp.map, ↓reduceIte, Nat.reduceAdd, Nat.reduceEqDiff, reduceCtorEq, initFr, Nat.reduceLT, clsA, List.take, List.drop, Nat.reduceLeDiff, Nat.reduceMul, Nat.reduceSub, reduceIte, ANc, A3c, ox, oy, cI6G vx x, cLiG vy y, hlen, hlen2]
      exact hq2 _ _ ⟨_, rfl, by simp [c1, c2]; rfl, k0⟩
    · have e2 : decide ((y.B.length : Int) ≤ 5000) = false := by simp; omega
      simp (disch := (first | assumption | omega | (simp only [List.length_cons, List.length_nil] <;> omega) | (simp only [alloc_n, set_n] <;> omega) | (simp (disch := (first | assumption | omega | (simp only [alloc_n, set_n] <;> omega))) only [row_alloc, row_set]; assumption))) only [f43, W_block, ANs, A3s, AOp.map, ↓reduceIte, Nat.reduceAdd, Nat.reduceEqDiff, reduceCtorEq, initFr, Nat.reduceLT, clsA, List.take, List.drop, Nat.reduceLeDiff, Nat.reduceMul, Nat.reduceSub, reduceIte, ANc, A3c, ox, oy, cI6G vx x, cLiG vy y, hlen, hlen2, e2]
      exact hq2 _ _ ⟨_, rfl, by simp [c1, c2]; rfl, k0⟩
  · have e1 : decide ((x.cs.length : Int) ≤ 1000) = false := by simp; omega
    simp (disch := (first | assumption | omega | (simp only [List.length_cons, List.length_nil] <;> omega) | (simp only [alloc_n, set_n] <;> omega) | (simp (disch := (first | assumption | omega | (simp only [alloc_n, set_n] <;> omega))) only [row_alloc, row_set]; assumption))) only [f43, W_block, ANs, A3s, AOp.map, ↓reduceIte, Nat.reduceAdd, Nat.reduceEqDiff, reduceCtorEq, initFr, Nat.reduceLT, clsA, List.take, List.drop, Nat.reduceLeDiff, Nat.reduceMul, Nat.reduceSub, reduceIte, ANc, A3c, ox, oy, cI6G vx x, cLiG vy y, hlen, hlen2, e1]
    exact hq2 _ _ ⟨_, rfl, by simp [c1]; rfl, k0⟩
end Go.AM.Fd

set_option linter.unusedSimpArgs false
set_option linter.unusedVariables false
namespace Go.AM.Fd
open Go.Proofs Go.AM.F
theorem frm_of_ou {b : List UInt8} {x : Ou} (h : geOu b = some x) : frm 2 b = true := by
  unfold geOu at h; split at h; assumption; cases h
theorem frm_of_st {b : List UInt8} {x : St} (h : geSt b = some x) : frm 3 b = true := by
  unfold geSt at h; split at h; assumption; cases h
theorem frm_of_lo {b : List UInt8} {x : Lo} (h : geLo b = some x) : frm 4 b = true := by
  unfold geLo at h; split at h; assumption; cases h
theorem frm_of_li {b : List UInt8} {x : Li} (h : geLi b = some x) : frm 5 b = true := by
  unfold geLi at h; split at h; assumption; cases h
theorem frm_other {k k' : Nat} {b : List UInt8} (h : frm k b = true) (hk : k < 256) (hk' : k' < 256) (hne : k' ≠ k) : frm k' b = false := by
  cases h' : frm k' b with
  | false => rfl
  | true => exact absurd (frm_k h' h hk' hk) hne
theorem ki_i6 {b : List UInt8} {x : I6} (h : geI6 b = some x) : kiB b = 1 := by unfold kiB; rw [h]; rfl
theorem ki_ou {b : List UInt8} {x : Ou} (h : geOu b = some x) : kiB b = 2 := by
  have f := frm_of_ou h
  have h1 : geI6 b = none := by unfold geI6; rw [frm_other f (by omega) (k' := 1) (by omega) (by omega)]; rfl
  unfold kiB; rw [h1, h]; rfl
theorem ki_st {b : List UInt8} {x : St} (h : geSt b = some x) : kiB b = 3 := by
  have f := frm_of_st h
  have h1 : geI6 b = none := by unfold geI6; rw [frm_other f (by omega) (k' := 1) (by omega) (by omega)]; rfl
  have h2 : geOu b = none := by unfold geOu; rw [frm_other f (by omega) (k' := 2) (by omega) (by omega)]; rfl
  unfold kiB; rw [h1, h2, h]; rfl
theorem ki_lo {b : List UInt8} {x : Lo} (h : geLo b = some x) : kiB b = 4 := by
  have f := frm_of_lo h
  have h1 : geI6 b = none := by unfold geI6; rw [frm_other f (by omega) (k' := 1) (by omega) (by omega)]; rfl
  have h2 : geOu b = none := by unfold geOu; rw [frm_other f (by omega) (k' := 2) (by omega) (by omega)]; rfl
  have h3 : geSt b = none := by unfold geSt; rw [frm_other f (by omega) (k' := 3) (by omega) (by omega)]; rfl
  unfold kiB; rw [h1, h2, h3, h]; rfl
theorem ki_li {b : List UInt8} {x : Li} (h : geLi b = some x) : kiB b = 5 := by
  have f := frm_of_li h
  have h1 : geI6 b = none := by unfold geI6; rw [frm_other f (by omega) (k' := 1) (by omega) (by omega)]; rfl
  have h2 : geOu b = none := by unfold geOu; rw [frm_other f (by omega) (k' := 2) (by omega) (by omega)]; rfl
  have h3 : geSt b = none := by unfold geSt; rw [frm_other f (by omega) (k' := 3) (by omega) (by omega)]; rfl
  have h4 : geLo b = none := by unfold geLo; rw [frm_other f (by omega) (k' := 4) (by omega) (by omega)]; rfl
  unfold kiB; rw [h1, h2, h3, h4, h]; rfl
theorem t11 (H : AHeap) : ∃ w H', ARun Go.Proofs.Try.prog 0 11 [] H w H' ∧ w = .bool true ∧ H' = H := by
  suffices h : ∃ w H', ARun Go.Proofs.Try.prog 0 11 [] H w H' ∧ w = .bool true ∧ Keeps H H' by
    obtain ⟨_, _, a, rfl, k⟩ := h
    exact ⟨_, _, a.gc0 k (.inr (.bool _)), rfl, rfl⟩
  refine walk2 f11_ok f11_n ?_
  intro Q hq1 hq2
  obtain ⟨x, hx⟩ : ∃ x, x = (⟨1, 2, 3, 4, 5⟩ : Ou) := ⟨_, rfl⟩
  have hrg : rgOu x := by rw [hx]; exact ⟨by decide, by decide, by decide⟩
  have hok : okOu x = true := by rw [hx]; rfl
  have cx : cOu x = [.int .u8 1, .int .i64 2, .int .i64 3, .int .u64 4, .int .u32 5] := by rw [hx]; rfl
  have f2 : fillA [.int .u64 0, .int .u32 0] [(0, 1, .int .u64 4), (1, 1, .int .u32 5)] = some [.int .u64 4, .int .u32 5] := rfl
  have f5 : fillA [.int .u8 0, .int .i64 0, .int .i64 0, .int .u64 0, .int .u32 0] [(0, 1, .int .u8 1), (1, 1, .int .i64 2), (2, 1, .int .i64 3), (3, 2, .agg #[.int .u64 4, .int .u32 5])] = some (cOu x) := by rw [cx]; rfl
  have hfl : (fOu x).length = 34 := by unfold fOu; rw [if_pos hok, chk_len, List.length_cons, enOu_len]
  have hne : fOu x ≠ [] := by intro e; rw [e] at hfl; simp at hfl
  have hg := geOu_of hrg hne rfl
  have hk := ki_ou hg
  simp (disch := (first | assumption | omega | (simp only [List.length_cons, List.length_nil] <;> omega) | (simp only [alloc_n, set_n] <;> omega) | (simp (disch := (first | assumption | omega | (simp only [alloc_n, set_n] <;> omega))) only [row_alloc, row_set]; assumption))) only [f11, W_block, ANs, A3s, AOp.map, ↓reduceIte, Nat.reduceAdd, Nat.reduceEqDiff, reduceCtorEq, initFr, Nat.reduceLT, clsA, List.take, List.drop, Nat.reduceLeDiff, Nat.reduceMul, Nat.reduceSub, reduceIte, ANc, A3c, f2, f5]
  refine callK (t45 x hrg H) ?_
  rintro v1 K1 ⟨a1, k1, fr1⟩
  have q1 := a1.bq
  have hs := q1.bs.sl
  have his := hs.is
  have hlen := hs.len
  rw [List.length_map, hfl] at hlen
  simp (disch := (first | assumption | omega | (simp only [List.length_cons, List.length_nil] <;> omega) | (simp only [alloc_n, set_n] <;> omega) | (simp (disch := (first | assumption | omega | (simp only [alloc_n, set_n] <;> omega))) only [row_alloc, row_set]; assumption))) only [W_block, ANs, A3s, AOp.map, ↓reduceIte, Nat.reduceAdd, Nat.reduceEqDiff, reduceCtorEq, initFr, Nat.reduceLT, clsA, List.take, List.drop, Nat.reduceLeDiff, Nat.reduceMul, Nat.reduceSub, reduceIte, ANc, A3c]
  refine callK (e16 q1 (by omega)) ?_
  rintro _ _ ⟨rfl, rfl⟩
  rw [hg]
  have hsome : er (some x).isSome = 0 := rfl
  simp (disch := (first | assumption | omega | (simp only [List.length_cons, List.length_nil] <;> omega) | (simp only [alloc_n, set_n] <;> omega) | (simp (disch := (first | assumption | omega | (simp only [alloc_n, set_n] <;> omega))) only [row_alloc, row_set]; assumption))) only [W_block, ANs, A3s, AOp.map, ↓reduceIte, Nat.reduceAdd, Nat.reduceEqDiff, reduceCtorEq, initFr, Nat.reduceLT, clsA, List.take, List.drop, Nat.reduceLeDiff, Nat.reduceMul, Nat.reduceSub, reduceIte, ANc, A3c, GotV, Option.getD_some, hsome, cOuL, cOuO, hlen, cx]
  refine callK (t28 (q1.keeps ((Keeps.refl _).alloc _)) (by omega)) ?_
  rintro _ _ ⟨rfl, rfl⟩
  rw [hk]
  simp (disch := (first | assumption | omega | (simp only [List.length_cons, List.length_nil] <;> omega) | (simp only [alloc_n, set_n] <;> omega) | (simp (disch := (first | assumption | omega | (simp only [alloc_n, set_n] <;> omega))) only [row_alloc, row_set]; assumption))) only [W_block, ANs, A3s, AOp.map, ↓reduceIte, Nat.reduceAdd, Nat.reduceEqDiff, reduceCtorEq, initFr, Nat.reduceLT, clsA, List.take, List.drop, Nat.reduceLeDiff, Nat.reduceMul, Nat.reduceSub, reduceIte, ANc, A3c]
  exact hq2 _ _ ⟨_, rfl, rfl, k1.trans ((Keeps.refl _).alloc _)⟩
theorem eqCs_int : ∀ c : List Value, (∀ v ∈ c, ∃ k n, v = .int k n) → eqCs (List.replicate c.length 1) c c = some true
  | [], _ => rfl
  | v :: c, h => by
    obtain ⟨k, n, rfl⟩ := h v (List.mem_cons_self ..)
    have ih := eqCs_int c (fun v hv => h v (List.mem_cons_of_mem _ hv))
    simp only [List.length_cons, List.replicate_succ, eqCs, ih]
    simp [eqC]
theorem a_eqsN {cs : List Nat} {c : List Value} (h : eqCs cs c c = some true) (H : AHeap) : asem (.eqs cs true (.agg c.toArray) (.agg c.toArray)) H = some (.bool false, H) := by
  simp only [asem, h]; rfl
theorem cellsOf_int (l : List UInt8) : ∀ v ∈ cellsOf l, ∃ k n, v = Value.int k n := by
  intro v hv
  simp only [cellsOf, List.mem_map] at hv
  obtain ⟨b, _, rfl⟩ := hv
  exact ⟨_, _, rfl⟩
theorem cSt_int (x : St) : ∀ v ∈ cSt x, ∃ k n, v = Value.int k n := by
  intro v hv
  simp only [cSt, List.mem_cons, List.mem_append, List.mem_nil_iff, or_false] at hv
  rcases hv with rfl | rfl | rfl | h | rfl
  · exact ⟨_, _, rfl⟩
  · exact ⟨_, _, rfl⟩
  · exact ⟨_, _, rfl⟩
  · exact cellsOf_int _ v h
  · exact ⟨_, _, rfl⟩
theorem cLo_int (x : Lo) : ∀ v ∈ cLo x, ∃ k n, v = Value.int k n := by
  intro v hv
  simp only [cLo, List.mem_cons] at hv
  rcases hv with rfl | rfl | h
  · exact ⟨_, _, rfl⟩
  · exact ⟨_, _, rfl⟩
  · exact cSt_int _ v h
theorem eqOu (x : Ou) : eqCs [1, 1, 1, 1, 1] (cOu x) (cOu x) = some true := by simp [eqCs, eqC, cOu]
theorem eqSt {x : St} (h : x.t.length = 64) : eqCs O68 (cSt x) (cSt x) = some true := by
  have := eqCs_int (cSt x) (cSt_int x)
  rw [cSt_len h] at this; exact this
theorem eqLo {x : Lo} (h : x.s.t.length = 64) : eqCs O70 (cLo x) (cLo x) = some true := by
  have := eqCs_int (cLo x) (cLo_int x)
  rw [cLo_len h] at this; exact this
theorem eqLs (x : Li) : eqCs [1, 1, 1, 1, 2] (cLs x) (cLs x) = some true := by simp [eqCs, eqC, cLs, cLi, strB]
theorem sI6_refl (x : I6) : sI6 x x = true := by simp [sI6]
theorem gotSt_len (b : List UInt8) : ((geSt b).getD St0).t.length = 64 := by
  cases h : geSt b with
  | none => rfl
  | some y => exact (geSt_some h).2.1.1
theorem gotLo_len (b : List UInt8) : ((geLo b).getD Lo0).s.t.length = 64 := by
  cases h : geLo b with
  | none => rfl
  | some y => exact (geLo_some h).2.1.1
end Go.AM.Fd

set_option linter.unusedSimpArgs false
set_option linter.unusedVariables false
namespace Go.AM.Fd
open Go.Proofs Go.AM.F
theorem apSl {H : AHeap} {v : Value} {cs : List (Nat × Int)} (a : AP H 108 2 v cs.length (CC cs).flatten) : Sl H 2 v (CC cs) := by
  refine a.sl (fun r hr => ?_) (by simp [CC])
  simp only [CC, List.mem_map] at hr
  obtain ⟨_, _, rfl⟩ := hr
  rfl
theorem AVbq {H : AHeap} {v : Value} (h : AV Go.Proofs.Try.prog H.get 22 v) : ∃ l, BQ H v l := by
  have h1 := h.one (by kernel_rfl)
  have h2 := h.1
  rw [h1] at h2
  exact h2.bq Go.Proofs.Try.underlying22 Go.Proofs.Try.underlying5 (by kernel_rfl)
end Go.AM.Fd

set_option linter.unusedSimpArgs false
set_option linter.unusedVariables false
namespace Go.AM.Fd
open Go.Proofs Go.AM.F
theorem ki_cases (b : List UInt8) : kiB b = 0 ∨ (∃ x, geI6 b = some x ∧ kiB b = 1) ∨ (∃ x, geOu b = some x ∧ kiB b = 2) ∨ (∃ x, geSt b = some x ∧ kiB b = 3) ∨ (∃ x, geLo b = some x ∧ kiB b = 4) ∨ (∃ x, geLi b = some x ∧ kiB b = 5) := by
  cases h1 : geI6 b with
  | some x => exact .inr (.inl ⟨x, rfl, ki_i6 h1⟩)
  | none =>
  cases h2 : geOu b with
  | some x => exact .inr (.inr (.inl ⟨x, rfl, ki_ou h2⟩))
  | none =>
  cases h3 : geSt b with
  | some x => exact .inr (.inr (.inr (.inl ⟨x, rfl, ki_st h3⟩)))
  | none =>
  cases h4 : geLo b with
  | some x => exact .inr (.inr (.inr (.inr (.inl ⟨x, rfl, ki_lo h4⟩))))
  | none =>
  cases h5 : geLi b with
  | some x => exact .inr (.inr (.inr (.inr (.inr ⟨x, rfl, ki_li h5⟩))))
  | none => exact .inl (by unfold kiB; rw [h1, h2, h3, h4, h5]; rfl)
theorem PutR.bs {H H' : AHeap} {v : Value} {l : List UInt8} (h : PutR H H' v l) : BS H' v l := h.1.bs
theorem PutR.bq {H H' : AHeap} {v : Value} {l : List UInt8} (h : PutR H H' v l) : BQ H' v l := h.1.bq
set_option maxHeartbeats 1000000 in
theorem t53 {H : AHeap} {v : Value} {b : List UInt8} (hb : BQ H v b) (hl : b.length ≤ 1000000) : ∃ w H', ARun Go.Proofs.Try.prog 0 53 [v] H w H' ∧ w = .bool true ∧ H' = H := by
  obtain ⟨w, H', a, rfl, k⟩ : ∃ w H', ARun Go.Proofs.Try.prog 0 53 [v] H w H' ∧ w = .bool true ∧ Keeps H H' := by
    refine walk2 f53_ok f53_n ?_
    intro Q hq1 hq2
    simp (disch := (first | assumption | omega | (simp only [List.length_cons, List.length_nil] <;> omega) | (simp only [alloc_n, set_n] <;> omega) | (simp (disch := (first | assumption | omega | (simp only [alloc_n, set_n] <;> omega))) only [row_alloc, row_set]; assumption))) only [f53, W_block, ANs, A3s, AOp.map, ↓reduceIte, Nat.reduceAdd, Nat.reduceEqDiff, reduceCtorEq, initFr, Nat.reduceLT, clsA, List.take, List.drop, Nat.reduceLeDiff, Nat.reduceMul, Nat.reduceSub, reduceIte, ANc, A3c]
    refine callK (e12 hb hl) ?_
    rintro _ K1 ⟨vc1, rfl, k1, fc1, ac1⟩
    obtain ⟨y6, hy6⟩ : ∃ y, y = (geI6 b).getD I60 := ⟨_, rfl⟩
    rw [← hy6] at ac1 ⊢
    have h1c := (apSl ac1).one
    have o6 : (cI6 vc1 y6).all Value.oneCell' = true := by simp only [cI6, List.all_cons, List.all_nil, h1c]; rfl
    simp (disch := (first | assumption | omega | (simp only [List.length_cons, List.length_nil] <;> omega) | (simp only [alloc_n, set_n] <;> omega) | (simp (disch := (first | assumption | omega | (simp only [alloc_n, set_n] <;> omega))) only [row_alloc, row_set]; assumption))) only [W_block, ANs, A3s, AOp.map, ↓reduceIte, Nat.reduceAdd, Nat.reduceEqDiff, reduceCtorEq, initFr, Nat.reduceLT, clsA, List.take, List.drop, Nat.reduceLeDiff, Nat.reduceMul, Nat.reduceSub, reduceIte, ANc, A3c, GotV, cI6L, o6]
    have l6 : (cI6 vc1 y6).length = 6 := rfl
    have kk1 := k1.alloc (.cells true false 6 (cI6 vc1 y6) 30)
    refine callP (e16 (hb.keeps kk1) hl) ?_
    obtain ⟨yo, hyo⟩ : ∃ y, y = (geOu b).getD Ou0 := ⟨_, rfl⟩
    rw [← hyo]
    simp (disch := (first | assumption | omega | (simp only [List.length_cons, List.length_nil] <;> omega) | (simp only [alloc_n, set_n] <;> omega) | (simp (disch := (first | assumption | omega | (simp only [alloc_n, set_n] <;> omega))) only [row_alloc, row_set]; assumption))) only [W_block, ANs, A3s, AOp.map, ↓reduceIte, Nat.reduceAdd, Nat.reduceEqDiff, reduceCtorEq, initFr, Nat.reduceLT, clsA, List.take, List.drop, Nat.reduceLeDiff, Nat.reduceMul, Nat.reduceSub, reduceIte, ANc, A3c, GotV, cOuL, cOuO]
    have lo : (cOu yo).length = 5 := rfl
    have kk2 := kk1.alloc (.cells true false 5 (cOu yo) 42)
    refine callP (e19 (hb.keeps kk2) hl) ?_
    have lst := gotSt_len b
    have llo := gotLo_len b
    obtain ⟨ys, hys⟩ : ∃ y, y = (geSt b).getD St0 := ⟨_, rfl⟩
    rw [← hys] at lst
    rw [← hys]
    have lz3 : Z68.length = 68 := rfl
    have oz3 : Z68.all Value.oneCell' = true := rfl
    have ls := cSt_len lst
    have os := cSt_one ys
    simp (disch := (first | assumption | omega | (simp only [List.length_cons, List.length_nil] <;> omega) | (simp only [alloc_n, set_n] <;> omega) | (simp (disch := (first | assumption | omega | (simp only [alloc_n, set_n] <;> omega))) only [row_alloc, row_set]; assumption))) only [W_block, ANs, A3s, AOp.map, ↓reduceIte, Nat.reduceAdd, Nat.reduceEqDiff, reduceCtorEq, initFr, Nat.reduceLT, clsA, List.take, List.drop, Nat.reduceLeDiff, Nat.reduceMul, Nat.reduceSub, reduceIte, ANc, A3c, GotV, ls, os, oz3]
    have kk3 := kk2.alloc (.cells true false 68 (cSt ys) 51)
    refine callP (e21 (hb.keeps kk3) hl) ?_
    obtain ⟨yl, hyl⟩ : ∃ y, y = (geLo b).getD Lo0 := ⟨_, rfl⟩
    rw [← hyl] at llo
    rw [← hyl]
    have lz4 : Z70.length = 70 := rfl
    have oz4 : Z70.all Value.oneCell' = true := rfl
    have ll := cLo_len llo
    have ol := cLo_one yl
    simp (disch := (first | assumption | omega | (simp only [List.length_cons, List.length_nil] <;> omega) | (simp only [alloc_n, set_n] <;> omega) | (simp (disch := (first | assumption | omega | (simp only [alloc_n, set_n] <;> omega))) only [row_alloc, row_set]; assumption))) only [W_block, ANs, A3s, AOp.map, ↓reduceIte, Nat.reduceAdd, Nat.reduceEqDiff, reduceCtorEq, initFr, Nat.reduceLT, clsA, List.take, List.drop, Nat.reduceLeDiff, Nat.reduceMul, Nat.reduceSub, reduceIte, ANc, A3c, GotV, ll, ol, oz4]
    have kk4 := kk3.alloc (.cells true false 70 (cLo yl) 57)
    have g1 : ((((K1.alloc (.cells true false 6 (cI6 vc1 y6) 30)).alloc (.cells true false 5 (cOu yo) 42)).alloc (.cells true false 68 (cSt ys) 51)).alloc (.cells true false 70 (cLo yl) 57)).get K1.n = some (.cells true false 6 (cI6 vc1 y6) 30) := by
      simp (disch := (first | assumption | omega | (simp only [List.length_cons, List.length_nil] <;> omega) | (simp only [alloc_n, set_n] <;> omega) | (simp (disch := (first | assumption | omega | (simp only [alloc_n, set_n] <;> omega))) only [row_alloc, row_set]; assumption))) only [W_block, ANs, A3s, AOp.map, ↓reduceIte, Nat.reduceAdd, Nat.reduceEqDiff, reduceCtorEq, initFr, Nat.reduceLT, clsA, List.take, List.drop, Nat.reduceLeDiff, Nat.reduceMul, Nat.reduceSub, reduceIte, ANc, A3c]
    have g2 : ((((K1.alloc (.cells true false 6 (cI6 vc1 y6) 30)).alloc (.cells true false 5 (cOu yo) 42)).alloc (.cells true false 68 (cSt ys) 51)).alloc (.cells true false 70 (cLo yl) 57)).get (K1.n + 1) = some (.cells true false 5 (cOu yo) 42) := by
      simp (disch := (first | assumption | omega | (simp only [List.length_cons, List.length_nil] <;> omega) | (simp only [alloc_n, set_n] <;> omega) | (simp (disch := (first | assumption | omega | (simp only [alloc_n, set_n] <;> omega))) only [row_alloc, row_set]; assumption))) only [W_block, ANs, A3s, AOp.map, ↓reduceIte, Nat.reduceAdd, Nat.reduceEqDiff, reduceCtorEq, initFr, Nat.reduceLT, clsA, List.take, List.drop, Nat.reduceLeDiff, Nat.reduceMul, Nat.reduceSub, reduceIte, ANc, A3c]
    have g3 : ((((K1.alloc (.cells true false 6 (cI6 vc1 y6) 30)).alloc (.cells true false 5 (cOu yo) 42)).alloc (.cells true false 68 (cSt ys) 51)).alloc (.cells true false 70 (cLo yl) 57)).get (K1.n + 1 + 1) = some (.cells true false 68 (cSt ys) 51) := by
      simp (disch := (first | assumption | omega | (simp only [List.length_cons, List.length_nil] <;> omega) | (simp only [alloc_n, set_n] <;> omega) | (simp (disch := (first | assumption | omega | (simp only [alloc_n, set_n] <;> omega))) only [row_alloc, row_set]; assumption))) only [W_block, ANs, A3s, AOp.map, ↓reduceIte, Nat.reduceAdd, Nat.reduceEqDiff, reduceCtorEq, initFr, Nat.reduceLT, clsA, List.take, List.drop, Nat.reduceLeDiff, Nat.reduceMul, Nat.reduceSub, reduceIte, ANc, A3c]
    have g4 : ((((K1.alloc (.cells true false 6 (cI6 vc1 y6) 30)).alloc (.cells true false 5 (cOu yo) 42)).alloc (.cells true false 68 (cSt ys) 51)).alloc (.cells true false 70 (cLo yl) 57)).get (K1.n + 1 + 1 + 1) = some (.cells true false 70 (cLo yl) 57) := by
      simp (disch := (first | assumption | omega | (simp only [List.length_cons, List.length_nil] <;> omega) | (simp only [alloc_n, set_n] <;> omega) | (simp (disch := (first | assumption | omega | (simp only [alloc_n, set_n] <;> omega))) only [row_alloc, row_set]; assumption))) only [W_block, ANs, A3s, AOp.map, ↓reduceIte, Nat.reduceAdd, Nat.reduceEqDiff, reduceCtorEq, initFr, Nat.reduceLT, clsA, List.take, List.drop, Nat.reduceLeDiff, Nat.reduceMul, Nat.reduceSub, reduceIte, ANc, A3c]
    have s1 : Keeps K1 ((((K1.alloc (.cells true false 6 (cI6 vc1 y6) 30)).alloc (.cells true false 5 (cOu yo) 42)).alloc (.cells true false 68 (cSt ys) 51)).alloc (.cells true false 70 (cLo yl) 57)) := ((((Keeps.refl K1).alloc _).alloc _).alloc _).alloc _
    obtain ⟨K4, hK4⟩ : ∃ X, X = ((((K1.alloc (.cells true false 6 (cI6 vc1 y6) 30)).alloc (.cells true false 5 (cOu yo) 42)).alloc (.cells true false 68 (cSt ys) 51)).alloc (.cells true false 70 (cLo yl) 57)) := ⟨_, rfl⟩
    rw [← hK4] at kk4 g1 g2 g3 g4 s1 ⊢
    refine callK (e24 (hb.keeps kk4) hl) ?_
    rintro _ K5 ⟨vb, rfl, k5, fb, ab⟩
    obtain ⟨ym, hym⟩ : ∃ y, y = (geLi b).getD Li0 := ⟨_, rfl⟩
    rw [← hym] at ab ⊢
    have h1b := ab.bs.sl.one
    have om : (cLi vb ym).all Value.oneCell' = true := by simp only [cLi, List.all_cons, List.all_nil, h1b]; rfl
    have lm : (cLi vb ym).length = 5 := rfl
    simp (disch := (first | assumption | omega | (simp only [List.length_cons, List.length_nil] <;> omega) | (simp only [alloc_n, set_n] <;> omega) | (simp (disch := (first | assumption | omega | (simp only [alloc_n, set_n] <;> omega))) only [row_alloc, row_set]; assumption))) only [W_block, ANs, A3s, AOp.map, ↓reduceIte, Nat.reduceAdd, Nat.reduceEqDiff, reduceCtorEq, initFr, Nat.reduceLT, clsA, List.take, List.drop, Nat.reduceLeDiff, Nat.reduceMul, Nat.reduceSub, reduceIte, ANc, A3c, GotV, lm, om]
    have k6 := k5.alloc (.cells true false 5 (cLi vb ym) 65)
    have g5 : (K5.alloc (.cells true false 5 (cLi vb ym) 65)).get K5.n = some (.cells true false 5 (cLi vb ym) 65) := AHeap.get_alloc_new _ _
    have ac6 := ac1.keeps (s1.trans k6)
    have ab6 := ab.keeps ((Keeps.refl K5).alloc (.cells true false 5 (cLi vb ym) 65))
    have g1 := k6.at_ g1
    have g2 := k6.at_ g2
    have g3 := k6.at_ g3
    have g4 := k6.at_ g4
    have kk6 := kk4.trans k6
    obtain ⟨K6, hK6⟩ : ∃ X, X = K5.alloc (.cells true false 5 (cLi vb ym) 65) := ⟨_, rfl⟩
    rw [← hK6] at g1 g2 g3 g4 g5 ac6 ab6 kk6 ⊢
    refine callP (t28 (hb.keeps kk6) (by omega)) ?_
    have hbs := (hb.keeps kk6).bs
    rcases ki_cases b with hk | ⟨x, hx, hk⟩ | ⟨x, hx, hk⟩ | ⟨x, hx, hk⟩ | ⟨x, hx, hk⟩ | ⟨x, hx, hk⟩
    · rw [hk]
      simp (disch := (first | assumption | omega | (simp only [List.length_cons, List.length_nil] <;> omega) | (simp only [alloc_n, set_n] <;> omega) | (simp (disch := (first | assumption | omega | (simp only [alloc_n, set_n] <;> omega))) only [row_alloc, row_set]; assumption))) only [W_block, ANs, A3s, AOp.map, ↓reduceIte, Nat.reduceAdd, Nat.reduceEqDiff, reduceCtorEq, initFr, Nat.reduceLT, clsA, List.take, List.drop, Nat.reduceLeDiff, Nat.reduceMul, Nat.reduceSub, reduceIte, ANc, A3c]
      exact hq2 _ _ ⟨_, rfl, rfl, kk6⟩
    · rw [hk]
      obtain rfl : y6 = x := by rw [hy6, hx]; rfl
      obtain ⟨e1, e2, e3, e4⟩ := geI6_some hx
      simp (disch := (first | assumption | omega | (simp only [List.length_cons, List.length_nil] <;> omega) | (simp only [alloc_n, set_n] <;> omega) | (simp (disch := (first | assumption | omega | (simp only [alloc_n, set_n] <;> omega))) only [row_alloc, row_set]; assumption))) only [W_block, ANs, A3s, AOp.map, ↓reduceIte, Nat.reduceAdd, Nat.reduceEqDiff, reduceCtorEq, initFr, Nat.reduceLT, clsA, List.take, List.drop, Nat.reduceLeDiff, Nat.reduceMul, Nat.reduceSub, reduceIte, ANc, A3c, g1, cI6L]
      refine callK (t44 y6 e2 (apSl ac6) (by have := geI6_few hx; omega)) ?_
      rintro w K7 p7
      rw [e1] at p7
      simp (disch := (first | assumption | omega | (simp only [List.length_cons, List.length_nil] <;> omega) | (simp only [alloc_n, set_n] <;> omega) | (simp (disch := (first | assumption | omega | (simp only [alloc_n, set_n] <;> omega))) only [row_alloc, row_set]; assumption))) only [W_block, ANs, A3s, AOp.map, ↓reduceIte, Nat.reduceAdd, Nat.reduceEqDiff, reduceCtorEq, initFr, Nat.reduceLT, clsA, List.take, List.drop, Nat.reduceLeDiff, Nat.reduceMul, Nat.reduceSub, reduceIte, ANc, A3c, a_b2sB p7.bs, a_b2sB (hbs.keeps p7.2.1), bytes_eq]
      exact hq2 _ _ ⟨_, rfl, rfl, kk6.trans p7.2.1⟩
    · rw [hk]
      obtain rfl : yo = x := by rw [hyo, hx]; rfl
      obtain ⟨e1, e2, e3, e4⟩ := geOu_some hx
      simp (disch := (first | assumption | omega | (simp only [List.length_cons, List.length_nil] <;> omega) | (simp only [alloc_n, set_n] <;> omega) | (simp (disch := (first | assumption | omega | (simp only [alloc_n, set_n] <;> omega))) only [row_alloc, row_set]; assumption))) only [W_block, ANs, A3s, AOp.map, ↓reduceIte, Nat.reduceAdd, Nat.reduceEqDiff, reduceCtorEq, initFr, Nat.reduceLT, clsA, List.take, List.drop, Nat.reduceLeDiff, Nat.reduceMul, Nat.reduceSub, reduceIte, ANc, A3c, g2, cOuL]
      refine callK (t45 yo e2 _) ?_
      rintro w K7 p7
      rw [e1] at p7
      simp (disch := (first | assumption | omega | (simp only [List.length_cons, List.length_nil] <;> omega) | (simp only [alloc_n, set_n] <;> omega) | (simp (disch := (first | assumption | omega | (simp only [alloc_n, set_n] <;> omega))) only [row_alloc, row_set]; assumption))) only [W_block, ANs, A3s, AOp.map, ↓reduceIte, Nat.reduceAdd, Nat.reduceEqDiff, reduceCtorEq, initFr, Nat.reduceLT, clsA, List.take, List.drop, Nat.reduceLeDiff, Nat.reduceMul, Nat.reduceSub, reduceIte, ANc, A3c, a_b2sB p7.bs, a_b2sB (hbs.keeps p7.2.1), bytes_eq]
      exact hq2 _ _ ⟨_, rfl, rfl, kk6.trans p7.2.1⟩
    · rw [hk]
      obtain rfl : ys = x := by rw [hys, hx]; rfl
      obtain ⟨e1, e2, e3, e4⟩ := geSt_some hx
      simp (disch := (first | assumption | omega | (simp only [List.length_cons, List.length_nil] <;> omega) | (simp only [alloc_n, set_n] <;> omega) | (simp (disch := (first | assumption | omega | (simp only [alloc_n, set_n] <;> omega))) only [row_alloc, row_set]; assumption))) only [W_block, ANs, A3s, AOp.map, ↓reduceIte, Nat.reduceAdd, Nat.reduceEqDiff, reduceCtorEq, initFr, Nat.reduceLT, clsA, List.take, List.drop, Nat.reduceLeDiff, Nat.reduceMul, Nat.reduceSub, reduceIte, ANc, A3c, g3, ls]
      refine callK (t46 ys e2 _) ?_
      rintro w K7 p7
      rw [e1] at p7
      simp (disch := (first | assumption | omega | (simp only [List.length_cons, List.length_nil] <;> omega) | (simp only [alloc_n, set_n] <;> omega) | (simp (disch := (first | assumption | omega | (simp only [alloc_n, set_n] <;> omega))) only [row_alloc, row_set]; assumption))) only [W_block, ANs, A3s, AOp.map, ↓reduceIte, Nat.reduceAdd, Nat.reduceEqDiff, reduceCtorEq, initFr, Nat.reduceLT, clsA, List.take, List.drop, Nat.reduceLeDiff, Nat.reduceMul, Nat.reduceSub, reduceIte, ANc, A3c, a_b2sB p7.bs, a_b2sB (hbs.keeps p7.2.1), bytes_eq]
      exact hq2 _ _ ⟨_, rfl, rfl, kk6.trans p7.2.1⟩
    · rw [hk]
      obtain rfl : yl = x := by rw [hyl, hx]; rfl
      obtain ⟨e1, e2, e3, e4⟩ := geLo_some hx
      simp (disch := (first | assumption | omega | (simp only [List.length_cons, List.length_nil] <;> omega) | (simp only [alloc_n, set_n] <;> omega) | (simp (disch := (first | assumption | omega | (simp only [alloc_n, set_n] <;> omega))) only [row_alloc, row_set]; assumption))) only [W_block, ANs, A3s, AOp.map, ↓reduceIte, Nat.reduceAdd, Nat.reduceEqDiff, reduceCtorEq, initFr, Nat.reduceLT, clsA, List.take, List.drop, Nat.reduceLeDiff, Nat.reduceMul, Nat.reduceSub, reduceIte, ANc, A3c, g4, ll]
      refine callK (t47 yl e2 _) ?_
      rintro w K7 p7
      rw [e1] at p7
      simp (disch := (first | assumption | omega | (simp only [List.length_cons, List.length_nil] <;> omega) | (simp only [alloc_n, set_n] <;> omega) | (simp (disch := (first | assumption | omega | (simp only [alloc_n, set_n] <;> omega))) only [row_alloc, row_set]; assumption))) only [W_block, ANs, A3s, AOp.map, ↓reduceIte, Nat.reduceAdd, Nat.reduceEqDiff, reduceCtorEq, initFr, Nat.reduceLT, clsA, List.take, List.drop, Nat.reduceLeDiff, Nat.reduceMul, Nat.reduceSub, reduceIte, ANc, A3c, a_b2sB p7.bs, a_b2sB (hbs.keeps p7.2.1), bytes_eq]
      exact hq2 _ _ ⟨_, rfl, rfl, kk6.trans p7.2.1⟩
    · rw [hk]
      obtain rfl : ym = x := by rw [hym, hx]; rfl
      obtain ⟨e1, e2, e3, e4⟩ := geLi_some hx
      have hok : okLi ym = true := by
        cases h : okLi ym with
        | true => rfl
        | false =>
          simp only [fLi, h, Bool.false_eq_true, if_false] at e1
          rw [← e1] at e4; simp at e4; omega
      have := (okLi_iff.1 hok).2.2
      simp (disch := (first | assumption | omega | (simp only [List.length_cons, List.length_nil] <;> omega) | (simp only [alloc_n, set_n] <;> omega) | (simp (disch := (first | assumption | omega | (simp only [alloc_n, set_n] <;> omega))) only [row_alloc, row_set]; assumption))) only [W_block, ANs, A3s, AOp.map, ↓reduceIte, Nat.reduceAdd, Nat.reduceEqDiff, reduceCtorEq, initFr, Nat.reduceLT, clsA, List.take, List.drop, Nat.reduceLeDiff, Nat.reduceMul, Nat.reduceSub, reduceIte, ANc, A3c, g5, lm]
      refine callK (t36 ym e2 ab6.bs (by omega)) ?_
      rintro w K7 p7
      rw [e1] at p7
      simp (disch := (first | assumption | omega | (simp only [List.length_cons, List.length_nil] <;> omega) | (simp only [alloc_n, set_n] <;> omega) | (simp (disch := (first | assumption | omega | (simp only [alloc_n, set_n] <;> omega))) only [row_alloc, row_set]; assumption))) only [W_block, ANs, A3s, AOp.map, ↓reduceIte, Nat.reduceAdd, Nat.reduceEqDiff, reduceCtorEq, initFr, Nat.reduceLT, clsA, List.take, List.drop, Nat.reduceLeDiff, Nat.reduceMul, Nat.reduceSub, reduceIte, ANc, A3c, a_b2sB p7.bs, a_b2sB (hbs.keeps p7.2.1), bytes_eq]
      exact hq2 _ _ ⟨_, rfl, rfl, kk6.trans p7.2.1⟩
  exact ⟨_, _, a.gc0 k (.inr (.bool _)), rfl, rfl⟩
end Go.AM.Fd

set_option linter.unusedSimpArgs false
set_option linter.unusedVariables false
namespace Go.AM.Fd
open Go.Proofs Go.AM.F
def M6 (A0 A1 A2 A3' A4 v : Value) (n : Nat) (Hb : AHeap) (fr : List Value) (K : AHeap) : Prop := ∃ x12 x13 x14 x15 x16 x17 x18 x19 x20 x21 x22 x23 x24, fr = [A0, A1, A2, A3', A4, v, ptr n 0, ptr (n + 1) 0, ptr (n + 1 + 1) 0, ptr (n + 1 + 1 + 1) 0, ptr (n + 1 + 1 + 1 + 1) 0, .bool false, x12, x13, x14, x15, x16, x17, x18, x19, x20, x21, x22, x23, x24] ∧ Keeps Hb K
theorem fI6_len {x : I6} : (fI6 x).length ≤ 31 + 2 * x.cs.length := by
  unfold fI6
  split
  · rw [chk_len, List.length_cons, enI6_len]; omega
  · simp
theorem fOu_len {x : Ou} : (fOu x).length ≤ 34 := by
  unfold fOu
  split
  · rw [chk_len, List.length_cons, enOu_len]; omega
  · simp
theorem fSt_len {x : St} (h : x.t.length = 64) : (fSt x).length = 97 := by
  unfold fSt
  rw [chk_len, List.length_cons, enSt_len h]
theorem fLo_len {x : Lo} (h : x.s.t.length = 64) : (fLo x).length ≤ 113 := by
  unfold fLo
  split
  · rw [chk_len, List.length_cons, enLo_len h]; omega
  · simp
theorem fLi_len {x : Li} : (fLi x).length ≤ 25 + x.B.length := by
  unfold fLi
  split
  · rw [chk_len, List.length_cons, enLi_len]; omega
  · simp
section
variable {A0 A1 A2 A3' A4 v : Value} {n : Nat} {Hb K : AHeap} {Q : AQ} {fr : List Value}
set_option maxHeartbeats 1000000 in
theorem b6In {i : I6} {vc : Value} (hM : M6 A0 A1 A2 A3' A4 v n Hb fr K) (g : Hb.get n = some (.cells true false 6 (cI6 vc i) 30)) (hi : rgI6 i) (hC : Sl Hb 2 vc (CC i.cs)) (hl : i.cs.length ≤ 1000)
    (hq : ∀ fr K, M6 A0 A1 A2 A3' A4 v n Hb fr K → Q .normal fr K) : W Go.Proofs.Try.prog 0 (cpre 3 (cpost 2 f6.body)) Q fr K := by
  obtain ⟨x12, x13, x14, x15, x16, x17, x18, x19, x20, x21, x22, x23, x24, rfl, k⟩ := hM
  have g1 := k.at_ g
  have l6 : (cI6 vc i).length = 6 := rfl
  simp (disch := (first | assumption | omega | (simp only [List.length_cons, List.length_nil] <;> omega) | (simp only [alloc_n, set_n] <;> omega) | (simp (disch := (first | assumption | omega | (simp only [alloc_n, set_n] <;> omega))) only [row_alloc, row_set]; assumption))) only [f6, cpre, cpost, W_block, ANs, A3s, AOp.map, ↓reduceIte, Nat.reduceAdd, Nat.reduceEqDiff, reduceCtorEq, initFr, Nat.reduceLT, clsA, List.take, List.drop, Nat.reduceLeDiff, Nat.reduceMul, Nat.reduceSub, reduceIte, ANc, A3c, g1]
  refine callK (t44 i hi (hC.keeps k) (by omega)) ?_
  rintro w K1 p1
  have fl := fI6_len (x := i)
  simp (disch := (first | assumption | omega | (simp only [List.length_cons, List.length_nil] <;> omega) | (simp only [alloc_n, set_n] <;> omega) | (simp (disch := (first | assumption | omega | (simp only [alloc_n, set_n] <;> omega))) only [row_alloc, row_set]; assumption))) only [W_block, ANs, A3s, AOp.map, ↓reduceIte, Nat.reduceAdd, Nat.reduceEqDiff, reduceCtorEq, initFr, Nat.reduceLT, clsA, List.take, List.drop, Nat.reduceLeDiff, Nat.reduceMul, Nat.reduceSub, reduceIte, ANc, A3c]
  refine callK (e12 p1.bq (by omega)) ?_
  rintro _ K2 ⟨vd, rfl, k2, fd, ad⟩
  obtain ⟨y, hy⟩ : ∃ y, y = (geI6 (fI6 i)).getD I60 := ⟨_, rfl⟩
  rw [← hy] at ad ⊢
  have h1c := (apSl ad).one
  have o6 : (cI6 vd y).all Value.oneCell' = true := by simp only [cI6, List.all_cons, List.all_nil, h1c]; rfl
  have l62 : (cI6 vd y).length = 6 := rfl
  have his := p1.bs.sl.is
  have hlen := p1.bs.sl.len
  rw [List.length_map] at hlen
  have kk := (k.trans p1.2.1).trans k2
  by_cases hok : fI6 i = []
  · rw [hok] at hlen
    simp (disch := (first | assumption | omega | (simp only [List.length_cons, List.length_nil] <;> omega) | (simp only [alloc_n, set_n] <;> omega) | (simp (disch := (first | assumption | omega | (simp only [alloc_n, set_n] <;> omega))) only [row_alloc, row_set]; assumption))) only [W_block, ANs, A3s, AOp.map, ↓reduceIte, Nat.reduceAdd, Nat.reduceEqDiff, reduceCtorEq, initFr, Nat.reduceLT, clsA, List.take, List.drop, Nat.reduceLeDiff, Nat.reduceMul, Nat.reduceSub, reduceIte, ANc, A3c, GotV, cI6L, o6, hlen, List.length_nil]
    exact hq _ _ ⟨_, _, _, _, _, _, _, _, _, _, _, _, _, rfl, kk.alloc _⟩
  · have hlt : 0 < (fI6 i).length := List.length_pos_iff.2 hok
    have hg := geI6_of hi hok rfl
    have hki := ki_i6 hg
    rw [hg] at hy ⊢
    obtain rfl : y = i := hy
    rw [show er (some y).isSome = 0 from rfl]
    simp (disch := (first | assumption | omega | (simp only [List.length_cons, List.length_nil] <;> omega) | (simp only [alloc_n, set_n] <;> omega) | (simp (disch := (first | assumption | omega | (simp only [alloc_n, set_n] <;> omega))) only [row_alloc, row_set]; assumption))) only [W_block, ANs, A3s, AOp.map, ↓reduceIte, Nat.reduceAdd, Nat.reduceEqDiff, reduceCtorEq, initFr, Nat.reduceLT, clsA, List.take, List.drop, Nat.reduceLeDiff, Nat.reduceMul, Nat.reduceSub, reduceIte, ANc, A3c, GotV, cI6L, o6, hlen]
    have k3 := (Keeps.refl K2).alloc (.cells true false 6 (cI6 vd y) 30)
    have g2 := (kk.trans k3).at_ g
    have hc1 := (hC.keeps (kk.trans k3))
    have hd1 := (apSl ad).keeps k3
    have g3 := AHeap.get_alloc_new K2 (.cells true false 6 (cI6 vd y) 30)
    have b3 := p1.bq.keeps (k2.trans k3)
    have lt3 := AHeap.get_lt g
    have lk := kk.n
    have kk3 := kk.trans k3
    obtain ⟨K3, hK3⟩ : ∃ X, X = K2.alloc (.cells true false 6 (cI6 vd y) 30) := ⟨_, rfl⟩
    rw [← hK3] at g2 g3 hc1 hd1 b3 kk3 ⊢
    refine callP (t15 y h1c) ?_
    simp (disch := (first | assumption | omega | (simp only [List.length_cons, List.length_nil] <;> omega) | (simp only [alloc_n, set_n] <;> omega) | (simp (disch := (first | assumption | omega | (simp only [alloc_n, set_n] <;> omega))) only [row_alloc, row_set]; assumption))) only [W_block, ANs, A3s, AOp.map, ↓reduceIte, Nat.reduceAdd, Nat.reduceEqDiff, reduceCtorEq, initFr, Nat.reduceLT, clsA, List.take, List.drop, Nat.reduceLeDiff, Nat.reduceMul, Nat.reduceSub, reduceIte, ANc, A3c, g2, g3]
    refine ⟨AHeap.get_lt g2, ?_⟩
    refine callP (t15 y (hC.one)) ?_
    simp (disch := (first | assumption | omega | (simp only [List.length_cons, List.length_nil] <;> omega) | (simp only [alloc_n, set_n] <;> omega) | (simp (disch := (first | assumption | omega | (simp only [alloc_n, set_n] <;> omega))) only [row_alloc, row_set]; assumption))) only [W_block, ANs, A3s, AOp.map, ↓reduceIte, Nat.reduceAdd, Nat.reduceEqDiff, reduceCtorEq, initFr, Nat.reduceLT, clsA, List.take, List.drop, Nat.reduceLeDiff, Nat.reduceMul, Nat.reduceSub, reduceIte, ANc, A3c]
    refine callP (t14 y y hd1 hc1 (by omega) (by omega)) ?_
    simp (disch := (first | assumption | omega | (simp only [List.length_cons, List.length_nil] <;> omega) | (simp only [alloc_n, set_n] <;> omega) | (simp (disch := (first | assumption | omega | (simp only [alloc_n, set_n] <;> omega))) only [row_alloc, row_set]; assumption))) only [W_block, ANs, A3s, AOp.map, ↓reduceIte, Nat.reduceAdd, Nat.reduceEqDiff, reduceCtorEq, initFr, Nat.reduceLT, clsA, List.take, List.drop, Nat.reduceLeDiff, Nat.reduceMul, Nat.reduceSub, reduceIte, ANc, A3c, sI6_refl]
    refine callP (t28 b3 (by omega)) ?_
    rw [hki]
    simp (disch := (first | assumption | omega | (simp only [List.length_cons, List.length_nil] <;> omega) | (simp only [alloc_n, set_n] <;> omega) | (simp (disch := (first | assumption | omega | (simp only [alloc_n, set_n] <;> omega))) only [row_alloc, row_set]; assumption))) only [W_block, ANs, A3s, AOp.map, ↓reduceIte, Nat.reduceAdd, Nat.reduceEqDiff, reduceCtorEq, initFr, Nat.reduceLT, clsA, List.take, List.drop, Nat.reduceLeDiff, Nat.reduceMul, Nat.reduceSub, reduceIte, ANc, A3c]
    exact hq _ _ ⟨_, _, _, _, _, _, _, _, _, _, _, _, _, rfl, kk3⟩
--flat{
set_option maxHeartbeats 1000000 in
theorem b6Ou {x : Ou} (hM : M6 A0 A1 A2 A3' A4 v n Hb fr K) (g : Hb.get (n + 1) = some (.cells true false 5 (cOu x) 42)) (hx : rgOu x)
    (hq : ∀ fr K, M6 A0 A1 A2 A3' A4 v n Hb fr K → Q .normal fr K) : W Go.Proofs.Try.prog 0 (cpre 3 (cpost 5 f6.body)) Q fr K := by
  obtain ⟨x12, x13, x14, x15, x16, x17, x18, x19, x20, x21, x22, x23, x24, rfl, k⟩ := hM
  have g1 := k.at_ g
  have ltb := AHeap.get_lt g
  have hxl : (cOu x).length = 5 := rfl
  simp (disch := (first | assumption | omega | (simp only [List.length_cons, List.length_nil] <;> omega) | (simp only [alloc_n, set_n] <;> omega) | (simp (disch := (first | assumption | omega | (simp only [alloc_n, set_n] <;> omega))) only [row_alloc, row_set]; assumption))) only [f6, cpre, cpost, W_block, ANs, A3s, AOp.map, ↓reduceIte, Nat.reduceAdd, Nat.reduceEqDiff, reduceCtorEq, initFr, Nat.reduceLT, clsA, List.take, List.drop, Nat.reduceLeDiff, Nat.reduceMul, Nat.reduceSub, reduceIte, ANc, A3c, g1]
  refine callK (t45 x hx _) ?_
  rintro w K1 p1
  have fl := fOu_len (x := x)
  simp (disch := (first | assumption | omega | (simp only [List.length_cons, List.length_nil] <;> omega) | (simp only [alloc_n, set_n] <;> omega) | (simp (disch := (first | assumption | omega | (simp only [alloc_n, set_n] <;> omega))) only [row_alloc, row_set]; assumption))) only [W_block, ANs, A3s, AOp.map, ↓reduceIte, Nat.reduceAdd, Nat.reduceEqDiff, reduceCtorEq, initFr, Nat.reduceLT, clsA, List.take, List.drop, Nat.reduceLeDiff, Nat.reduceMul, Nat.reduceSub, reduceIte, ANc, A3c]
  refine callP (e16 p1.bq (by omega)) ?_
  have his := p1.bs.sl.is
  have hlen := p1.bs.sl.len
  rw [List.length_map] at hlen
  have kk := k.trans p1.2.1
  have lk := kk.n
  obtain ⟨y, hy⟩ : ∃ y, y = (geOu (fOu x)).getD Ou0 := ⟨_, rfl⟩
  rw [← hy]
  have hyl : (cOu y).length = 5 := rfl
  have hyo : (cOu y).all Value.oneCell' = true := rfl
  have kf := kk.alloc (.cells true false 5 (cOu y) 42)
  have g2 := kk.at_ g
  have b3 := p1.bq.keeps ((Keeps.refl K1).alloc (.cells true false 5 (cOu y) 42))
  by_cases hok : fOu x = []
  · rw [hok] at hlen
    simp (disch := (first | assumption | omega | (simp only [List.length_cons, List.length_nil] <;> omega) | (simp only [alloc_n, set_n] <;> omega) | (simp (disch := (first | assumption | omega | (simp only [alloc_n, set_n] <;> omega))) only [row_alloc, row_set]; assumption))) only [W_block, ANs, A3s, AOp.map, ↓reduceIte, Nat.reduceAdd, Nat.reduceEqDiff, reduceCtorEq, initFr, Nat.reduceLT, clsA, List.take, List.drop, Nat.reduceLeDiff, Nat.reduceMul, Nat.reduceSub, reduceIte, ANc, A3c, GotV, hyl, hyo, hlen, List.length_nil]
    exact hq _ _ ⟨_, _, _, _, _, _, _, _, _, _, _, _, _, rfl, kf⟩
  have hlt : 0 < (fOu x).length := List.length_pos_iff.2 hok
  have hg := geOu_of hx hok rfl
  have hki := ki_ou hg
  rw [hg] at hy ⊢
  obtain rfl : y = x := hy
  rw [show er (some y).isSome = 0 from rfl]
  simp (disch := (first | assumption | omega | (simp only [List.length_cons, List.length_nil] <;> omega) | (simp only [alloc_n, set_n] <;> omega) | (simp (disch := (first | assumption | omega | (simp only [alloc_n, set_n] <;> omega))) only [row_alloc, row_set]; assumption))) only [W_block, ANs, A3s, AOp.map, ↓reduceIte, Nat.reduceAdd, Nat.reduceEqDiff, reduceCtorEq, initFr, Nat.reduceLT, clsA, List.take, List.drop, Nat.reduceLeDiff, Nat.reduceMul, Nat.reduceSub, reduceIte, ANc, A3c, GotV, hyl, hyo, hlen, g2, a_eqsN (eqOu y)]
  refine callP (t28 b3 (by omega)) ?_
  rw [hki]
  simp (disch := (first | assumption | omega | (simp only [List.length_cons, List.length_nil] <;> omega) | (simp only [alloc_n, set_n] <;> omega) | (simp (disch := (first | assumption | omega | (simp only [alloc_n, set_n] <;> omega))) only [row_alloc, row_set]; assumption))) only [W_block, ANs, A3s, AOp.map, ↓reduceIte, Nat.reduceAdd, Nat.reduceEqDiff, reduceCtorEq, initFr, Nat.reduceLT, clsA, List.take, List.drop, Nat.reduceLeDiff, Nat.reduceMul, Nat.reduceSub, reduceIte, ANc, A3c]
  exact hq _ _ ⟨_, _, _, _, _, _, _, _, _, _, _, _, _, rfl, kf⟩
set_option maxHeartbeats 1000000 in
theorem b6St {x : St} (hM : M6 A0 A1 A2 A3' A4 v n Hb fr K) (g : Hb.get (n + 1 + 1) = some (.cells true false 68 (cSt x) 51)) (hx : rgSt x)
    (hq : ∀ fr K, M6 A0 A1 A2 A3' A4 v n Hb fr K → Q .normal fr K) : W Go.Proofs.Try.prog 0 (cpre 3 (cpost 8 f6.body)) Q fr K := by
  obtain ⟨x12, x13, x14, x15, x16, x17, x18, x19, x20, x21, x22, x23, x24, rfl, k⟩ := hM
  have g1 := k.at_ g
  have ltb := AHeap.get_lt g
  have hxl : (cSt x).length = 68 := cSt_len hx.ht
  have oz3 : Z68.all Value.oneCell' = true := rfl
  have lz3 : Z68.length = 68 := rfl
  simp (disch := (first | assumption | omega | (simp only [List.length_cons, List.length_nil] <;> omega) | (simp only [alloc_n, set_n] <;> omega) | (simp (disch := (first | assumption | omega | (simp only [alloc_n, set_n] <;> omega))) only [row_alloc, row_set]; assumption))) only [f6, cpre, cpost, W_block, ANs, A3s, AOp.map, ↓reduceIte, Nat.reduceAdd, Nat.reduceEqDiff, reduceCtorEq, initFr, Nat.reduceLT, clsA, List.take, List.drop, Nat.reduceLeDiff, Nat.reduceMul, Nat.reduceSub, reduceIte, ANc, A3c, g1]
  refine callK (t46 x hx _) ?_
  rintro w K1 p1
  have fl := fSt_len hx.ht
  simp (disch := (first | assumption | omega | (simp only [List.length_cons, List.length_nil] <;> omega) | (simp only [alloc_n, set_n] <;> omega) | (simp (disch := (first | assumption | omega | (simp only [alloc_n, set_n] <;> omega))) only [row_alloc, row_set]; assumption))) only [W_block, ANs, A3s, AOp.map, ↓reduceIte, Nat.reduceAdd, Nat.reduceEqDiff, reduceCtorEq, initFr, Nat.reduceLT, clsA, List.take, List.drop, Nat.reduceLeDiff, Nat.reduceMul, Nat.reduceSub, reduceIte, ANc, A3c]
  refine callP (e19 p1.bq (by omega)) ?_
  have his := p1.bs.sl.is
  have hlen := p1.bs.sl.len
  rw [List.length_map] at hlen
  have kk := k.trans p1.2.1
  have lk := kk.n
  have lst := gotSt_len (fSt x)
  obtain ⟨y, hy⟩ : ∃ y, y = (geSt (fSt x)).getD St0 := ⟨_, rfl⟩
  rw [← hy] at lst ⊢
  have hyl : (cSt y).length = 68 := cSt_len lst
  have hyo : (cSt y).all Value.oneCell' = true := cSt_one y
  have kf := kk.alloc (.cells true false 68 (cSt y) 51)
  have g2 := kk.at_ g
  have b3 := p1.bq.keeps ((Keeps.refl K1).alloc (.cells true false 68 (cSt y) 51))
  have hg := geSt_of hx rfl
  have hki := ki_st hg
  rw [hg] at hy ⊢
  obtain rfl : y = x := hy
  rw [show er (some y).isSome = 0 from rfl]
  simp (disch := (first | assumption | omega | (simp only [List.length_cons, List.length_nil] <;> omega) | (simp only [alloc_n, set_n] <;> omega) | (simp (disch := (first | assumption | omega | (simp only [alloc_n, set_n] <;> omega))) only [row_alloc, row_set]; assumption))) only [W_block, ANs, A3s, AOp.map, ↓reduceIte, Nat.reduceAdd, Nat.reduceEqDiff, reduceCtorEq, initFr, Nat.reduceLT, clsA, List.take, List.drop, Nat.reduceLeDiff, Nat.reduceMul, Nat.reduceSub, reduceIte, ANc, A3c, GotV, hyl, hyo, hlen, oz3, g2, a_eqsN (eqSt hx.ht)]
  refine callP (t28 b3 (by omega)) ?_
  rw [hki]
  simp (disch := (first | assumption | omega | (simp only [List.length_cons, List.length_nil] <;> omega) | (simp only [alloc_n, set_n] <;> omega) | (simp (disch := (first | assumption | omega | (simp only [alloc_n, set_n] <;> omega))) only [row_alloc, row_set]; assumption))) only [W_block, ANs, A3s, AOp.map, ↓reduceIte, Nat.reduceAdd, Nat.reduceEqDiff, reduceCtorEq, initFr, Nat.reduceLT, clsA, List.take, List.drop, Nat.reduceLeDiff, Nat.reduceMul, Nat.reduceSub, reduceIte, ANc, A3c]
  exact hq _ _ ⟨_, _, _, _, _, _, _, _, _, _, _, _, _, rfl, kf⟩
set_option maxHeartbeats 1000000 in
theorem b6Lo {x : Lo} (hM : M6 A0 A1 A2 A3' A4 v n Hb fr K) (g : Hb.get (n + 1 + 1 + 1) = some (.cells true false 70 (cLo x) 57)) (hx : rgSt x.s)
    (hq : ∀ fr K, M6 A0 A1 A2 A3' A4 v n Hb fr K → Q .normal fr K) : W Go.Proofs.Try.prog 0 (cpre 3 (cpost 11 f6.body)) Q fr K := by
  obtain ⟨x12, x13, x14, x15, x16, x17, x18, x19, x20, x21, x22, x23, x24, rfl, k⟩ := hM
  have g1 := k.at_ g
  have ltb := AHeap.get_lt g
  have hxl : (cLo x).length = 70 := cLo_len hx.ht
  have oz3 : Z70.all Value.oneCell' = true := rfl
  have lz3 : Z70.length = 70 := rfl
  simp (disch := (first | assumption | omega | (simp only [List.length_cons, List.length_nil] <;> omega) | (simp only [alloc_n, set_n] <;> omega) | (simp (disch := (first | assumption | omega | (simp only [alloc_n, set_n] <;> omega))) only [row_alloc, row_set]; assumption))) only [f6, cpre, cpost, W_block, ANs, A3s, AOp.map, ↓reduceIte, Nat.reduceAdd, Nat.reduceEqDiff, reduceCtorEq, initFr, Nat.reduceLT, clsA, List.take, List.drop, Nat.reduceLeDiff, Nat.reduceMul, Nat.reduceSub, reduceIte, ANc, A3c, g1]
  refine callK (t47 x hx _) ?_
  rintro w K1 p1
  have fl := fLo_len hx.ht
  simp (disch := (first | assumption | omega | (simp only [List.length_cons, List.length_nil] <;> omega) | (simp only [alloc_n, set_n] <;> omega) | (simp (disch := (first | assumption | omega | (simp only [alloc_n, set_n] <;> omega))) only [row_alloc, row_set]; assumption))) only [W_block, ANs, A3s, AOp.map, ↓reduceIte, Nat.reduceAdd, Nat.reduceEqDiff, reduceCtorEq, initFr, Nat.reduceLT, clsA, List.take, List.drop, Nat.reduceLeDiff, Nat.reduceMul, Nat.reduceSub, reduceIte, ANc, A3c]
  refine callP (e21 p1.bq (by omega)) ?_
  have his := p1.bs.sl.is
  have hlen := p1.bs.sl.len
  rw [List.length_map] at hlen
  have kk := k.trans p1.2.1
  have lk := kk.n
  have lst := gotLo_len (fLo x)
  obtain ⟨y, hy⟩ : ∃ y, y = (geLo (fLo x)).getD Lo0 := ⟨_, rfl⟩
  rw [← hy] at lst ⊢
  have hyl : (cLo y).length = 70 := cLo_len lst
  have hyo : (cLo y).all Value.oneCell' = true := cLo_one y
  have kf := kk.alloc (.cells true false 70 (cLo y) 57)
  have g2 := kk.at_ g
  have b3 := p1.bq.keeps ((Keeps.refl K1).alloc (.cells true false 70 (cLo y) 57))
  by_cases hok : fLo x = []
  · rw [hok] at hlen
    simp (disch := (first | assumption | omega | (simp only [List.length_cons, List.length_nil] <;> omega) | (simp only [alloc_n, set_n] <;> omega) | (simp (disch := (first | assumption | omega | (simp only [alloc_n, set_n] <;> omega))) only [row_alloc, row_set]; assumption))) only [W_block, ANs, A3s, AOp.map, ↓reduceIte, Nat.reduceAdd, Nat.reduceEqDiff, reduceCtorEq, initFr, Nat.reduceLT, clsA, List.take, List.drop, Nat.reduceLeDiff, Nat.reduceMul, Nat.reduceSub, reduceIte, ANc, A3c, GotV, hyl, hyo, hlen, List.length_nil, oz3]
    exact hq _ _ ⟨_, _, _, _, _, _, _, _, _, _, _, _, _, rfl, kf⟩
  have hlt : 0 < (fLo x).length := List.length_pos_iff.2 hok
  have hg := geLo_of hx hok rfl
  have hki := ki_lo hg
  rw [hg] at hy ⊢
  obtain rfl : y = x := hy
  rw [show er (some y).isSome = 0 from rfl]
  simp (disch := (first | assumption | omega | (simp only [List.length_cons, List.length_nil] <;> omega) | (simp only [alloc_n, set_n] <;> omega) | (simp (disch := (first | assumption | omega | (simp only [alloc_n, set_n] <;> omega))) only [row_alloc, row_set]; assumption))) only [W_block, ANs, A3s, AOp.map, ↓reduceIte, Nat.reduceAdd, Nat.reduceEqDiff, reduceCtorEq, initFr, Nat.reduceLT, clsA, List.take, List.drop, Nat.reduceLeDiff, Nat.reduceMul, Nat.reduceSub, reduceIte, ANc, A3c, GotV, hyl, hyo, hlen, oz3, g2, a_eqsN (eqLo hx.ht)]
  refine callP (t28 b3 (by omega)) ?_
  rw [hki]
  simp (disch := (first | assumption | omega | (simp only [List.length_cons, List.length_nil] <;> omega) | (simp only [alloc_n, set_n] <;> omega) | (simp (disch := (first | assumption | omega | (simp only [alloc_n, set_n] <;> omega))) only [row_alloc, row_set]; assumption))) only [W_block, ANs, A3s, AOp.map, ↓reduceIte, Nat.reduceAdd, Nat.reduceEqDiff, reduceCtorEq, initFr, Nat.reduceLT, clsA, List.take, List.drop, Nat.reduceLeDiff, Nat.reduceMul, Nat.reduceSub, reduceIte, ANc, A3c]
  exact hq _ _ ⟨_, _, _, _, _, _, _, _, _, _, _, _, _, rfl, kf⟩
--}flat
set_option maxHeartbeats 1000000 in
theorem b6Li {x : Li} {vb : Value} (hM : M6 A0 A1 A2 A3' A4 v n Hb fr K) (g : Hb.get (n + 1 + 1 + 1 + 1) = some (.cells true false 5 (cLi vb x) 65)) (hx : rgLi x) (hB : BS Hb vb x.B) (hl : x.B.length ≤ 5000)
    (hq : ∀ fr K, M6 A0 A1 A2 A3' A4 v n Hb fr K → Q .normal fr K) : W Go.Proofs.Try.prog 0 (cpre 3 (cpost 14 f6.body)) Q fr K := by
  obtain ⟨x12, x13, x14, x15, x16, x17, x18, x19, x20, x21, x22, x23, x24, rfl, k⟩ := hM
  have g1 := k.at_ g
  have ltb := AHeap.get_lt g
  have hxl : (cLi vb x).length = 5 := rfl
  simp (disch := (first | assumption | omega | (simp only [List.length_cons, List.length_nil] <;> omega) | (simp only [alloc_n, set_n] <;> omega) | (simp (disch := (first | assumption | omega | (simp only [alloc_n, set_n] <;> omega))) only [row_alloc, row_set]; assumption))) only [f6, cpre, cpost, W_block, ANs, A3s, AOp.map, ↓reduceIte, Nat.reduceAdd, Nat.reduceEqDiff, reduceCtorEq, initFr, Nat.reduceLT, clsA, List.take, List.drop, Nat.reduceLeDiff, Nat.reduceMul, Nat.reduceSub, reduceIte, ANc, A3c, g1]
  refine callK (t36 x hx (hB.keeps k) (by omega)) ?_
  rintro w K1 p1
  have fl := fLi_len (x := x)
  simp (disch := (first | assumption | omega | (simp only [List.length_cons, List.length_nil] <;> omega) | (simp only [alloc_n, set_n] <;> omega) | (simp (disch := (first | assumption | omega | (simp only [alloc_n, set_n] <;> omega))) only [row_alloc, row_set]; assumption))) only [W_block, ANs, A3s, AOp.map, ↓reduceIte, Nat.reduceAdd, Nat.reduceEqDiff, reduceCtorEq, initFr, Nat.reduceLT, clsA, List.take, List.drop, Nat.reduceLeDiff, Nat.reduceMul, Nat.reduceSub, reduceIte, ANc, A3c]
  refine callK (e24 p1.bq (by omega)) ?_
  rintro _ K2 ⟨vd, rfl, k2, fd, ad⟩
  obtain ⟨y, hy⟩ : ∃ y, y = (geLi (fLi x)).getD Li0 := ⟨_, rfl⟩
  rw [← hy] at ad ⊢
  have h1b := ad.bs.sl.one
  have om : (cLi vd y).all Value.oneCell' = true := by simp only [cLi, List.all_cons, List.all_nil, h1b]; rfl
  have lm : (cLi vd y).length = 5 := rfl
  have his := p1.bs.sl.is
  have hlen := p1.bs.sl.len
  rw [List.length_map] at hlen
  have kk := (k.trans p1.2.1).trans k2
  have lk := kk.n
  have kf := kk.alloc (.cells true false 5 (cLi vd y) 65)
  by_cases hok : fLi x = []
  · rw [hok] at hlen
    simp (disch := (first | assumption | omega | (simp only [List.length_cons, List.length_nil] <;> omega) | (simp only [alloc_n, set_n] <;> omega) | (simp (disch := (first | assumption | omega | (simp only [alloc_n, set_n] <;> omega))) only [row_alloc, row_set]; assumption))) only [W_block, ANs, A3s, AOp.map, ↓reduceIte, Nat.reduceAdd, Nat.reduceEqDiff, reduceCtorEq, initFr, Nat.reduceLT, clsA, List.take, List.drop, Nat.reduceLeDiff, Nat.reduceMul, Nat.reduceSub, reduceIte, ANc, A3c, GotV, lm, om, hlen, List.length_nil]
    exact hq _ _ ⟨_, _, _, _, _, _, _, _, _, _, _, _, _, rfl, kf⟩
  have hlt : 0 < (fLi x).length := List.length_pos_iff.2 hok
  have hg := geLi_of hx hok rfl
  have hki := ki_li hg
  rw [hg] at hy ⊢
  obtain rfl : y = x := hy
  rw [show er (some y).isSome = 0 from rfl]
  have g2 := kf.at_ g
  have b3 := p1.bq.keeps (k2.alloc (.cells true false 5 (cLi vd y) 65))
  have g3 := AHeap.get_alloc_new K2 (.cells true false 5 (cLi vd y) 65)
  have bd := ad.bs.keeps ((Keeps.refl K2).alloc (.cells true false 5 (cLi vd y) 65))
  have bx := hB.keeps kf
  simp (disch := (first | assumption | omega | (simp only [List.length_cons, List.length_nil] <;> omega) | (simp only [alloc_n, set_n] <;> omega) | (simp (disch := (first | assumption | omega | (simp only [alloc_n, set_n] <;> omega))) only [row_alloc, row_set]; assumption))) only [W_block, ANs, A3s, AOp.map, ↓reduceIte, Nat.reduceAdd, Nat.reduceEqDiff, reduceCtorEq, initFr, Nat.reduceLT, clsA, List.take, List.drop, Nat.reduceLeDiff, Nat.reduceMul, Nat.reduceSub, reduceIte, ANc, A3c, GotV, lm, om, hlen]
  obtain ⟨K3, hK3⟩ : ∃ X, X = K2.alloc (.cells true false 5 (cLi vd y) 65) := ⟨_, rfl⟩
  rw [← hK3] at bd bx g2 g3 b3 kf ⊢
  refine callP (t26 y bd) ?_
  simp (disch := (first | assumption | omega | (simp only [List.length_cons, List.length_nil] <;> omega) | (simp only [alloc_n, set_n] <;> omega) | (simp (disch := (first | assumption | omega | (simp only [alloc_n, set_n] <;> omega))) only [row_alloc, row_set]; assumption))) only [W_block, ANs, A3s, AOp.map, ↓reduceIte, Nat.reduceAdd, Nat.reduceEqDiff, reduceCtorEq, initFr, Nat.reduceLT, clsA, List.take, List.drop, Nat.reduceLeDiff, Nat.reduceMul, Nat.reduceSub, reduceIte, ANc, A3c, g2, g3]
  refine ⟨AHeap.get_lt g2, ?_⟩
  refine callP (t26 y bx) ?_
  simp (disch := (first | assumption | omega | (simp only [List.length_cons, List.length_nil] <;> omega) | (simp only [alloc_n, set_n] <;> omega) | (simp (disch := (first | assumption | omega | (simp only [alloc_n, set_n] <;> omega))) only [row_alloc, row_set]; assumption))) only [W_block, ANs, A3s, AOp.map, ↓reduceIte, Nat.reduceAdd, Nat.reduceEqDiff, reduceCtorEq, initFr, Nat.reduceLT, clsA, List.take, List.drop, Nat.reduceLeDiff, Nat.reduceMul, Nat.reduceSub, reduceIte, ANc, A3c, a_eqsN (eqLs y)]
  refine callP (t28 b3 (by omega)) ?_
  rw [hki]
  simp (disch := (first | assumption | omega | (simp only [List.length_cons, List.length_nil] <;> omega) | (simp only [alloc_n, set_n] <;> omega) | (simp (disch := (first | assumption | omega | (simp only [alloc_n, set_n] <;> omega))) only [row_alloc, row_set]; assumption))) only [W_block, ANs, A3s, AOp.map, ↓reduceIte, Nat.reduceAdd, Nat.reduceEqDiff, reduceCtorEq, initFr, Nat.reduceLT, clsA, List.take, List.drop, Nat.reduceLeDiff, Nat.reduceMul, Nat.reduceSub, reduceIte, ANc, A3c]
  exact hq _ _ ⟨_, _, _, _, _, _, _, _, _, _, _, _, _, rfl, kf⟩
end
set_option maxHeartbeats 1000000 in
theorem t6 {H : AHeap} {i : I6} {o : Ou} {s : St} {g : Lo} {l : Li} {vc vb v : Value} {b : List UInt8} (hi : rgI6 i) (hC : Sl H 2 vc (CC i.cs)) (ho : rgOu o) (hs : rgSt s) (hg : rgSt g.s) (hli : rgLi l) (hB : BS H vb l.B) (hb : BQ H v b) :
    ∃ w H', ARun Go.Proofs.Try.prog 0 6 [.agg (cI6 vc i).toArray, .agg (cOu o).toArray, .agg (cSt s).toArray, .agg (cLo g).toArray, .agg (cLi vb l).toArray, v] H w H' ∧ w = .bool true ∧ H' = H := by
  obtain ⟨w, H', a, rfl, k⟩ : ∃ w H', ARun Go.Proofs.Try.prog 0 6 [.agg (cI6 vc i).toArray, .agg (cOu o).toArray, .agg (cSt s).toArray, .agg (cLo g).toArray, .agg (cLi vb l).toArray, v] H w H' ∧ w = .bool true ∧ Keeps H H' := by
    refine walk2 f6_ok f6_n ?_
    intro Q hq1 hq2
    have hcs := hC.one
    have hbs := hB.sl.one
    have o6 : (cI6 vc i).all Value.oneCell' = true := by simp only [cI6, List.all_cons, List.all_nil, hcs]; rfl
    have om : (cLi vb l).all Value.oneCell' = true := by simp only [cLi, List.all_cons, List.all_nil, hbs]; rfl
    have os := cSt_one s
    have og := cLo_one g
    have lI : (cI6 vc i).length = 6 := rfl
    have lL : (cLi vb l).length = 5 := rfl
    obtain ⟨Hb, hHb⟩ : ∃ X, X = ((((H.alloc (.cells true false 6 (cI6 vc i) 30)).alloc (.cells true false 5 (cOu o) 42)).alloc (.cells true false 68 (cSt s) 51)).alloc (.cells true false 70 (cLo g) 57)).alloc (.cells true false 5 (cLi vb l) 65) := ⟨_, rfl⟩
    have kb : Keeps H Hb := by rw [hHb]; exact (((((Keeps.refl H).alloc _).alloc _).alloc _).alloc _).alloc _
    have g0 : Hb.get H.n = some (.cells true false 6 (cI6 vc i) 30) := by rw [hHb]; simp (disch := (first | assumption | omega | (simp only [List.length_cons, List.length_nil] <;> omega) | (simp only [alloc_n, set_n] <;> omega) | (simp (disch := (first | assumption | omega | (simp only [alloc_n, set_n] <;> omega))) only [row_alloc, row_set]; assumption))) only [W_block, ANs, A3s, AOp.map, ↓reduceIte, Nat.reduceAdd, Nat.reduceEqDiff, reduceCtorEq, initFr, Nat.reduceLT, clsA, List.take, List.drop, Nat.reduceLeDiff, Nat.reduceMul, Nat.reduceSub, reduceIte, ANc, A3c]
    have g1 : Hb.get (H.n + 1) = some (.cells true false 5 (cOu o) 42) := by rw [hHb]; simp (disch := (first | assumption | omega | (simp only [List.length_cons, List.length_nil] <;> omega) | (simp only [alloc_n, set_n] <;> omega) | (simp (disch := (first | assumption | omega | (simp only [alloc_n, set_n] <;> omega))) only [row_alloc, row_set]; assumption))) only [W_block, ANs, A3s, AOp.map, ↓reduceIte, Nat.reduceAdd, Nat.reduceEqDiff, reduceCtorEq, initFr, Nat.reduceLT, clsA, List.take, List.drop, Nat.reduceLeDiff, Nat.reduceMul, Nat.reduceSub, reduceIte, ANc, A3c]
    have g2 : Hb.get (H.n + 1 + 1) = some (.cells true false 68 (cSt s) 51) := by rw [hHb]; simp (disch := (first | assumption | omega | (simp only [List.length_cons, List.length_nil] <;> omega) | (simp only [alloc_n, set_n] <;> omega) | (simp (disch := (first | assumption | omega | (simp only [alloc_n, set_n] <;> omega))) only [row_alloc, row_set]; assumption))) only [W_block, ANs, A3s, AOp.map, ↓reduceIte, Nat.reduceAdd, Nat.reduceEqDiff, reduceCtorEq, initFr, Nat.reduceLT, clsA, List.take, List.drop, Nat.reduceLeDiff, Nat.reduceMul, Nat.reduceSub, reduceIte, ANc, A3c]
    have g3 : Hb.get (H.n + 1 + 1 + 1) = some (.cells true false 70 (cLo g) 57) := by rw [hHb]; simp (disch := (first | assumption | omega | (simp only [List.length_cons, List.length_nil] <;> omega) | (simp only [alloc_n, set_n] <;> omega) | (simp (disch := (first | assumption | omega | (simp only [alloc_n, set_n] <;> omega))) only [row_alloc, row_set]; assumption))) only [W_block, ANs, A3s, AOp.map, ↓reduceIte, Nat.reduceAdd, Nat.reduceEqDiff, reduceCtorEq, initFr, Nat.reduceLT, clsA, List.take, List.drop, Nat.reduceLeDiff, Nat.reduceMul, Nat.reduceSub, reduceIte, ANc, A3c]
    have g4 : Hb.get (H.n + 1 + 1 + 1 + 1) = some (.cells true false 5 (cLi vb l) 65) := by rw [hHb]; simp (disch := (first | assumption | omega | (simp only [List.length_cons, List.length_nil] <;> omega) | (simp only [alloc_n, set_n] <;> omega) | (simp (disch := (first | assumption | omega | (simp only [alloc_n, set_n] <;> omega))) only [row_alloc, row_set]; assumption))) only [W_block, ANs, A3s, AOp.map, ↓reduceIte, Nat.reduceAdd, Nat.reduceEqDiff, reduceCtorEq, initFr, Nat.reduceLT, clsA, List.take, List.drop, Nat.reduceLeDiff, Nat.reduceMul, Nat.reduceSub, reduceIte, ANc, A3c]
    refine W_part 1 (M6 (.agg (cI6 vc i).toArray) (.agg (cOu o).toArray) (.agg (cSt s).toArray) (.agg (cLo g).toArray) (.agg (cLi vb l).toArray) v H.n Hb) (by kernel_rfl) ?_ ?_
    · intro Q' h1 _ _
      simp (disch := (first | assumption | omega | (simp only [List.length_cons, List.length_nil] <;> omega) | (simp only [alloc_n, set_n] <;> omega) | (simp (disch := (first | assumption | omega | (simp only [alloc_n, set_n] <;> omega))) only [row_alloc, row_set]; assumption))) only [f6, cpre, cpost, W_block, ANs, A3s, AOp.map, ↓reduceIte, Nat.reduceAdd, Nat.reduceEqDiff, reduceCtorEq, initFr, Nat.reduceLT, clsA, List.take, List.drop, Nat.reduceLeDiff, Nat.reduceMul, Nat.reduceSub, reduceIte, ANc, A3c, o6, om, os, og, cOuO]
      exact h1 _ _ ⟨_, _, _, _, _, _, _, _, _, _, _, _, _, rfl, by rw [hHb]; exact Keeps.refl _⟩
    rintro fr K hM
    by_cases hf : i.cs.length ≤ 1000 ∧ l.B.length ≤ 5000 ∧ b.length ≤ 3000
    case neg =>
      obtain ⟨x12, x13, x14, x15, x16, x17, x18, x19, x20, x21, x22, x23, x24, rfl, k⟩ := hM
      have hlen := (hb.keeps (kb.trans k)).bs.sl.len
      have his := (hb.keeps (kb.trans k)).bs.sl.is
      rw [List.length_map] at hlen
      simp (disch := (first | assumption | omega | (simp only [List.length_cons, List.length_nil] <;> omega) | (simp only [alloc_n, set_n] <;> omega) | (simp (disch := (first | assumption | omega | (simp only [alloc_n, set_n] <;> omega))) only [row_alloc, row_set]; assumption))) only [f6, cpre, cpost, W_block, ANs, A3s, AOp.map, ↓reduceIte, Nat.reduceAdd, Nat.reduceEqDiff, reduceCtorEq, initFr, Nat.reduceLT, clsA, List.take, List.drop, Nat.reduceLeDiff, Nat.reduceMul, Nat.reduceSub, reduceIte, ANc, A3c, k.at_ g0, k.at_ g4]
      refine callP (t43 i l (hC.keeps (kb.trans k)) (hB.keeps (kb.trans k))) ?_
      by_cases h2 : i.cs.length ≤ 1000 ∧ l.B.length ≤ 5000
      · have h3 : 3000 < b.length := by omega
        simp only [h2, and_self, decide_true]
        simp (disch := (first | assumption | omega | (simp only [List.length_cons, List.length_nil] <;> omega) | (simp only [alloc_n, set_n] <;> omega) | (simp (disch := (first | assumption | omega | (simp only [alloc_n, set_n] <;> omega))) only [row_alloc, row_set]; assumption))) only [W_block, ANs, A3s, AOp.map, ↓reduceIte, Nat.reduceAdd, Nat.reduceEqDiff, reduceCtorEq, initFr, Nat.reduceLT, clsA, List.take, List.drop, Nat.reduceLeDiff, Nat.reduceMul, Nat.reduceSub, reduceIte, ANc, A3c, hlen]
        refine callP (t11 _) ?_
        simp (disch := (first | assumption | omega | (simp only [List.length_cons, List.length_nil] <;> omega) | (simp only [alloc_n, set_n] <;> omega) | (simp (disch := (first | assumption | omega | (simp only [alloc_n, set_n] <;> omega))) only [row_alloc, row_set]; assumption))) only [W_block, ANs, A3s, AOp.map, ↓reduceIte, Nat.reduceAdd, Nat.reduceEqDiff, reduceCtorEq, initFr, Nat.reduceLT, clsA, List.take, List.drop, Nat.reduceLeDiff, Nat.reduceMul, Nat.reduceSub, reduceIte, ANc, A3c]
        exact hq2 _ _ ⟨_, rfl, rfl, kb.trans k⟩
      · simp only [h2, decide_false]
        simp (disch := (first | assumption | omega | (simp only [List.length_cons, List.length_nil] <;> omega) | (simp only [alloc_n, set_n] <;> omega) | (simp (disch := (first | assumption | omega | (simp only [alloc_n, set_n] <;> omega))) only [row_alloc, row_set]; assumption))) only [W_block, ANs, A3s, AOp.map, ↓reduceIte, Nat.reduceAdd, Nat.reduceEqDiff, reduceCtorEq, initFr, Nat.reduceLT, clsA, List.take, List.drop, Nat.reduceLeDiff, Nat.reduceMul, Nat.reduceSub, reduceIte, ANc, A3c, hlen]
        refine callP (t11 _) ?_
        simp (disch := (first | assumption | omega | (simp only [List.length_cons, List.length_nil] <;> omega) | (simp only [alloc_n, set_n] <;> omega) | (simp (disch := (first | assumption | omega | (simp only [alloc_n, set_n] <;> omega))) only [row_alloc, row_set]; assumption))) only [W_block, ANs, A3s, AOp.map, ↓reduceIte, Nat.reduceAdd, Nat.reduceEqDiff, reduceCtorEq, initFr, Nat.reduceLT, clsA, List.take, List.drop, Nat.reduceLeDiff, Nat.reduceMul, Nat.reduceSub, reduceIte, ANc, A3c]
        exact hq2 _ _ ⟨_, rfl, rfl, kb.trans k⟩
    obtain ⟨hf1, hf2, hf3⟩ := hf
    refine W_part 1 (M6 (.agg (cI6 vc i).toArray) (.agg (cOu o).toArray) (.agg (cSt s).toArray) (.agg (cLo g).toArray) (.agg (cLi vb l).toArray) v H.n Hb) (by kernel_rfl) ?_ ?_
    · intro Q' h1 _ _
      obtain ⟨x12, x13, x14, x15, x16, x17, x18, x19, x20, x21, x22, x23, x24, rfl, k⟩ := hM
      have hlen := (hb.keeps (kb.trans k)).bs.sl.len
      have his := (hb.keeps (kb.trans k)).bs.sl.is
      rw [List.length_map] at hlen
      simp (disch := (first | assumption | omega | (simp only [List.length_cons, List.length_nil] <;> omega) | (simp only [alloc_n, set_n] <;> omega) | (simp (disch := (first | assumption | omega | (simp only [alloc_n, set_n] <;> omega))) only [row_alloc, row_set]; assumption))) only [f6, cpre, cpost, W_block, ANs, A3s, AOp.map, ↓reduceIte, Nat.reduceAdd, Nat.reduceEqDiff, reduceCtorEq, initFr, Nat.reduceLT, clsA, List.take, List.drop, Nat.reduceLeDiff, Nat.reduceMul, Nat.reduceSub, reduceIte, ANc, A3c, k.at_ g0, k.at_ g4]
      refine callP (t43 i l (hC.keeps (kb.trans k)) (hB.keeps (kb.trans k))) ?_
      simp only [hf1, hf2, and_self, decide_true]
      simp (disch := (first | assumption | omega | (simp only [List.length_cons, List.length_nil] <;> omega) | (simp only [alloc_n, set_n] <;> omega) | (simp (disch := (first | assumption | omega | (simp only [alloc_n, set_n] <;> omega))) only [row_alloc, row_set]; assumption))) only [W_block, ANs, A3s, AOp.map, ↓reduceIte, Nat.reduceAdd, Nat.reduceEqDiff, reduceCtorEq, initFr, Nat.reduceLT, clsA, List.take, List.drop, Nat.reduceLeDiff, Nat.reduceMul, Nat.reduceSub, reduceIte, ANc, A3c, hlen]
      exact h1 _ _ ⟨_, _, _, _, _, _, _, _, _, _, _, _, _, rfl, k⟩
    clear hM
    rintro fr K hM
    refine W_part 3 (M6 (.agg (cI6 vc i).toArray) (.agg (cOu o).toArray) (.agg (cSt s).toArray) (.agg (cLo g).toArray) (.agg (cLi vb l).toArray) v H.n Hb) (by kernel_rfl) (fun Q' h1 _ _ => b6In hM g0 hi (hC.keeps kb) hf1 h1) ?_
    clear hM; rintro fr K hM
    refine W_part 3 (M6 (.agg (cI6 vc i).toArray) (.agg (cOu o).toArray) (.agg (cSt s).toArray) (.agg (cLo g).toArray) (.agg (cLi vb l).toArray) v H.n Hb) (by kernel_rfl) (fun Q' h1 _ _ => b6Ou hM g1 ho h1) ?_
    clear hM; rintro fr K hM
    refine W_part 3 (M6 (.agg (cI6 vc i).toArray) (.agg (cOu o).toArray) (.agg (cSt s).toArray) (.agg (cLo g).toArray) (.agg (cLi vb l).toArray) v H.n Hb) (by kernel_rfl) (fun Q' h1 _ _ => b6St hM g2 hs h1) ?_
    clear hM; rintro fr K hM
    refine W_part 3 (M6 (.agg (cI6 vc i).toArray) (.agg (cOu o).toArray) (.agg (cSt s).toArray) (.agg (cLo g).toArray) (.agg (cLi vb l).toArray) v H.n Hb) (by kernel_rfl) (fun Q' h1 _ _ => b6Lo hM g3 hg h1) ?_
    clear hM; rintro fr K hM
    refine W_part 3 (M6 (.agg (cI6 vc i).toArray) (.agg (cOu o).toArray) (.agg (cSt s).toArray) (.agg (cLo g).toArray) (.agg (cLi vb l).toArray) v H.n Hb) (by kernel_rfl) (fun Q' h1 _ _ => b6Li hM g4 hli (hB.keeps kb) hf2 h1) ?_
    clear hM; rintro fr K hM
    obtain ⟨x12, x13, x14, x15, x16, x17, x18, x19, x20, x21, x22, x23, x24, rfl, k⟩ := hM
    simp (disch := (first | assumption | omega | (simp only [List.length_cons, List.length_nil] <;> omega) | (simp only [alloc_n, set_n] <;> omega) | (simp (disch := (first | assumption | omega | (simp only [alloc_n, set_n] <;> omega))) only [row_alloc, row_set]; assumption))) only [f6, cpre, cpost, W_block, ANs, A3s, AOp.map, ↓reduceIte, Nat.reduceAdd, Nat.reduceEqDiff, reduceCtorEq, initFr, Nat.reduceLT, clsA, List.take, List.drop, Nat.reduceLeDiff, Nat.reduceMul, Nat.reduceSub, reduceIte, ANc, A3c]
    refine callP (t53 (hb.keeps (kb.trans k)) (by omega)) ?_
    simp (disch := (first | assumption | omega | (simp only [List.length_cons, List.length_nil] <;> omega) | (simp only [alloc_n, set_n] <;> omega) | (simp (disch := (first | assumption | omega | (simp only [alloc_n, set_n] <;> omega))) only [row_alloc, row_set]; assumption))) only [W_block, ANs, A3s, AOp.map, ↓reduceIte, Nat.reduceAdd, Nat.reduceEqDiff, reduceCtorEq, initFr, Nat.reduceLT, clsA, List.take, List.drop, Nat.reduceLeDiff, Nat.reduceMul, Nat.reduceSub, reduceIte, ANc, A3c]
    refine callP (t11 _) ?_
    simp (disch := (first | assumption | omega | (simp only [List.length_cons, List.length_nil] <;> omega) | (simp only [alloc_n, set_n] <;> omega) | (simp (disch := (first | assumption | omega | (simp only [alloc_n, set_n] <;> omega))) only [row_alloc, row_set]; assumption))) only [W_block, ANs, A3s, AOp.map, ↓reduceIte, Nat.reduceAdd, Nat.reduceEqDiff, reduceCtorEq, initFr, Nat.reduceLT, clsA, List.take, List.drop, Nat.reduceLeDiff, Nat.reduceMul, Nat.reduceSub, reduceIte, ANc, A3c]
    exact hq2 _ _ ⟨_, rfl, rfl, kb.trans k⟩
  exact ⟨_, _, a.gc0 k (.inr (.bool _)), rfl, rfl⟩
end Go.AM.Fd
