/- Part of the proof. -/
import Derived.Test.YtngnahfbgilapaaGPuts04
set_option linter.unusedSimpArgs false
set_option linter.unusedVariables false
set_option linter.unusedSimpArgs false
set_option linter.unusedVariables false
namespace Go.AM.Fd
open Go.Proofs Go.AM.F
def geOu (b : List UInt8) : Option Ou := if frm 2 b = true then pdOu (bd b) else none
def geSt (b : List UInt8) : Option St := if frm 3 b = true then pdSt (bd b) else none
def geLo (b : List UInt8) : Option Lo := if frm 4 b = true then pdLo (bd b) else none
def geLi (b : List UInt8) : Option Li := if frm 5 b = true then pdLi (bd b) else none
def geI6 (b : List UInt8) : Option I6 := if frm 1 b = true then pdI6 (bd b) else none
theorem bd_le {b : List UInt8} (h : b.length ≤ 1000000000) : (bd b).length ≤ 1000000000 := by rw [bd_len]; omega
theorem fillOu (ch : Nat) (cy ep : Int) (pr pt : Nat) : fillA [.int .u8 0, .int .i64 0, .int .i64 0, .int .u64 0, .int .u32 0] [(0, 1, .int .u8 (ch : Nat)), (1, 1, .int .i64 cy), (2, 1, .int .i64 ep), (3, 2, .agg #[.int .u64 (pr : Nat), .int .u32 (pt : Nat)])] = some (cOu ⟨ch, cy, ep, pr, pt⟩) := rfl
theorem fillOp (pr pt : Nat) : fillA [.int .u64 0, .int .u32 0] [(0, 1, .int .u64 (pr : Nat)), (1, 1, .int .u32 (pt : Nat))] = some [.int .u64 (pr : Nat), .int .u32 (pt : Nat)] := rfl
theorem t16 {H : AHeap} {v : Value} {b : List UInt8} (hb : BQ H v b) (hl : b.length ≤ 1000000000) : ∃ w H', ARun Go.Proofs.Try.prog 0 16 [v] H w H' ∧ Keeps H H' ∧ w = match geOu b with | some x => GotV (cOu x) 0 | none => GotV (cOu Ou0) 130 := by
  refine walk2 f16_ok f16_n ?_
  intro Q hq1 hq2
  have hr : ∀ fr H', resO f16.res fr H' = (celln 5 (fr.getD 1 undef) H').map fun c => .tuple #[c, fr.getD 2 undef] := fun fr H' => resCT 5 1 2 fr
  have k0 := (Keeps.refl H).alloc (.cells true false 5 (cOu Ou0) 42)
  have g0 := AHeap.get_alloc_new H (.cells true false 5 (cOu Ou0) 42)
  have lz : (cOu Ou0).length = 5 := rfl
  have ozz : (cOu Ou0).all Value.oneCell' = true := rfl
  simp (disch := (first | assumption | omega | (simp only [List.length_cons, List.length_nil] <;> omega) | (simp only [alloc_n, set_n] <;> omega) | (simp (disch := (first | assumption | omega | (simp only [alloc_n, set_n] <;> omega))) only [row_alloc, row_set]; assumption))) only [f16, W_block, ANs, A3s, AOp.map, ↓reduceIte, Nat.reduceAdd, Nat.reduceEqDiff, reduceCtorEq, initFr, Nat.reduceLT, clsA, List.take, List.drop, Nat.reduceLeDiff, Nat.reduceMul, Nat.reduceSub, reduceIte, ANc, A3c]
  refine callK (t62 (hb.keeps (by ((repeat (first | exact Keeps.refl _ | assumption | refine Keeps.alloc ?_ _ | (refine Keeps.set ?_ (by first | omega | (simp only [alloc_n, set_n] <;> omega)) (by first | omega | (simp only [alloc_n, set_n] <;> omega)) _) | (refine Keeps.trans' (by assumption) ?_)))))) 2 (by omega) hl) ?_
  rintro _ K0 ⟨k, ⟨rfl, rfl, hf⟩ | ⟨r, rfl, r0⟩⟩
  · simp (disch := (first | assumption | omega | (simp only [List.length_cons, List.length_nil] <;> omega) | (simp only [alloc_n, set_n] <;> omega) | (simp (disch := (first | assumption | omega | (simp only [alloc_n, set_n] <;> omega))) only [row_alloc, row_set]; assumption))) only [W_block, ANs, A3s, AOp.map, ↓reduceIte, Nat.reduceAdd, Nat.reduceEqDiff, reduceCtorEq, initFr, Nat.reduceLT, clsA, List.take, List.drop, Nat.reduceLeDiff, Nat.reduceMul, Nat.reduceSub, reduceIte, ANc, A3c]
    refine callK (n63 _) ?_
    rintro _ _ ⟨rfl, rfl⟩
    simp (disch := (first | assumption | omega | (simp only [List.length_cons, List.length_nil] <;> omega) | (simp only [alloc_n, set_n] <;> omega) | (simp (disch := (first | assumption | omega | (simp only [alloc_n, set_n] <;> omega))) only [row_alloc, row_set]; assumption))) only [W_block, ANs, A3s, AOp.map, ↓reduceIte, Nat.reduceAdd, Nat.reduceEqDiff, reduceCtorEq, initFr, Nat.reduceLT, clsA, List.take, List.drop, Nat.reduceLeDiff, Nat.reduceMul, Nat.reduceSub, reduceIte, ANc, A3c]
    refine callK (n64 _) ?_
    rintro _ _ ⟨rfl, rfl⟩
    simp (disch := (first | assumption | omega | (simp only [List.length_cons, List.length_nil] <;> omega) | (simp only [alloc_n, set_n] <;> omega) | (simp (disch := (first | assumption | omega | (simp only [alloc_n, set_n] <;> omega))) only [row_alloc, row_set]; assumption))) only [W_block, ANs, A3s, AOp.map, ↓reduceIte, Nat.reduceAdd, Nat.reduceEqDiff, reduceCtorEq, initFr, Nat.reduceLT, clsA, List.take, List.drop, Nat.reduceLeDiff, Nat.reduceMul, Nat.reduceSub, reduceIte, ANc, A3c]
    refine callK (n64 _) ?_
    rintro _ _ ⟨rfl, rfl⟩
    simp (disch := (first | assumption | omega | (simp only [List.length_cons, List.length_nil] <;> omega) | (simp only [alloc_n, set_n] <;> omega) | (simp (disch := (first | assumption | omega | (simp only [alloc_n, set_n] <;> omega))) only [row_alloc, row_set]; assumption))) only [W_block, ANs, A3s, AOp.map, ↓reduceIte, Nat.reduceAdd, Nat.reduceEqDiff, reduceCtorEq, initFr, Nat.reduceLT, clsA, List.take, List.drop, Nat.reduceLeDiff, Nat.reduceMul, Nat.reduceSub, reduceIte, ANc, A3c]
    refine callK (n64 _) ?_
    rintro _ _ ⟨rfl, rfl⟩
    simp (disch := (first | assumption | omega | (simp only [List.length_cons, List.length_nil] <;> omega) | (simp only [alloc_n, set_n] <;> omega) | (simp (disch := (first | assumption | omega | (simp only [alloc_n, set_n] <;> omega))) only [row_alloc, row_set]; assumption))) only [W_block, ANs, A3s, AOp.map, ↓reduceIte, Nat.reduceAdd, Nat.reduceEqDiff, reduceCtorEq, initFr, Nat.reduceLT, clsA, List.take, List.drop, Nat.reduceLeDiff, Nat.reduceMul, Nat.reduceSub, reduceIte, ANc, A3c]
    refine callK (n65 _) ?_
    rintro _ _ ⟨rfl, rfl⟩
    have f1 := fillOp 0 0
    have f2 := fillOu 0 (IntKind.i64.wrap 0) (IntKind.i64.wrap 0) 0 0
    simp only [Int.natCast_zero] at f1 f2
    simp (disch := (first | assumption | omega | (simp only [List.length_cons, List.length_nil] <;> omega) | (simp only [alloc_n, set_n] <;> omega) | (simp (disch := (first | assumption | omega | (simp only [alloc_n, set_n] <;> omega))) only [row_alloc, row_set]; assumption))) only [W_block, ANs, A3s, AOp.map, ↓reduceIte, Nat.reduceAdd, Nat.reduceEqDiff, reduceCtorEq, initFr, Nat.reduceLT, clsA, List.take, List.drop, Nat.reduceLeDiff, Nat.reduceMul, Nat.reduceSub, reduceIte, ANc, A3c, f1, f2]
    refine callK (n68 _) ?_
    rintro _ K1 ⟨k1, rfl⟩
    have nk1 := k1.n
    try simp only [alloc_n] at nk1
    simp (disch := (first | assumption | omega | (simp only [List.length_cons, List.length_nil] <;> omega) | (simp only [alloc_n, set_n] <;> omega) | (simp (disch := (first | assumption | omega | (simp only [alloc_n, set_n] <;> omega))) only [row_alloc, row_set, Keeps.row k1]; assumption))) only [Keeps.get k1, Keeps.row k1, W_block, ANs, A3s, AOp.map, ↓reduceIte, Nat.reduceAdd, Nat.reduceEqDiff, reduceCtorEq, initFr, Nat.reduceLT, clsA, List.take, List.drop, Nat.reduceLeDiff, Nat.reduceMul, Nat.reduceSub, reduceIte, ANc, A3c, GotV, ozz]
    refine hq2 _ _ ⟨_, by rw [hr]; simp (disch := (first | assumption | omega | (simp only [List.length_cons, List.length_nil] <;> omega) | (simp only [alloc_n, set_n] <;> omega) | (simp (disch := (first | assumption | omega | (simp only [alloc_n, set_n] <;> omega))) only [row_alloc, row_set, Keeps.row k1]; assumption))) only [Keeps.get k1, Keeps.row k1, W_block, ANs, A3s, AOp.map, ↓reduceIte, Nat.reduceAdd, Nat.reduceEqDiff, reduceCtorEq, initFr, Nat.reduceLT, clsA, List.take, List.drop, Nat.reduceLeDiff, Nat.reduceMul, Nat.reduceSub, reduceIte, ANc, A3c, ozz]; rfl, by ((repeat (first | exact Keeps.refl _ | assumption | refine Keeps.alloc ?_ _ | (refine Keeps.set ?_ (by first | omega | (simp only [alloc_n, set_n] <;> omega)) (by first | omega | (simp only [alloc_n, set_n] <;> omega)) _) | (refine Keeps.trans' (by assumption) ?_)))), ?_⟩
    simp only [geOu, hf]
    rfl
  · have hn0 := k.n
    simp only [alloc_n] at hn0
    have hlb := bd_le hl
    have hrl : H.n + 1 ≤ r := r0.1
    simp (disch := (first | assumption | omega | (simp only [List.length_cons, List.length_nil] <;> omega) | (simp only [alloc_n, set_n] <;> omega) | (simp (disch := (first | assumption | omega | (simp only [alloc_n, set_n] <;> omega))) only [row_alloc, row_set]; assumption))) only [W_block, ANs, A3s, AOp.map, ↓reduceIte, Nat.reduceAdd, Nat.reduceEqDiff, reduceCtorEq, initFr, Nat.reduceLT, clsA, List.take, List.drop, Nat.reduceLeDiff, Nat.reduceMul, Nat.reduceSub, reduceIte, ANc, A3c]
    refine callK (q63 r0 hlb) ?_
    rintro _ K1 ⟨rfl, r1, c1⟩
    have n1 := c1.n
    simp (disch := (first | assumption | omega | (simp only [List.length_cons, List.length_nil] <;> omega) | (simp only [alloc_n, set_n] <;> omega) | (simp (disch := (first | assumption | omega | (simp only [alloc_n, set_n] <;> omega))) only [row_alloc, row_set]; assumption))) only [W_block, ANs, A3s, AOp.map, ↓reduceIte, Nat.reduceAdd, Nat.reduceEqDiff, reduceCtorEq, initFr, Nat.reduceLT, clsA, List.take, List.drop, Nat.reduceLeDiff, Nat.reduceMul, Nat.reduceSub, reduceIte, ANc, A3c]
    refine callK (q64 r1 hlb) ?_
    rintro _ K2 ⟨rfl, r2, c2⟩
    have n2 := c2.n
    simp (disch := (first | assumption | omega | (simp only [List.length_cons, List.length_nil] <;> omega) | (simp only [alloc_n, set_n] <;> omega) | (simp (disch := (first | assumption | omega | (simp only [alloc_n, set_n] <;> omega))) only [row_alloc, row_set]; assumption))) only [W_block, ANs, A3s, AOp.map, ↓reduceIte, Nat.reduceAdd, Nat.reduceEqDiff, reduceCtorEq, initFr, Nat.reduceLT, clsA, List.take, List.drop, Nat.reduceLeDiff, Nat.reduceMul, Nat.reduceSub, reduceIte, ANc, A3c]
    refine callK (q64 r2 hlb) ?_
    rintro _ K3 ⟨rfl, r3, c3⟩
    have n3 := c3.n
    simp (disch := (first | assumption | omega | (simp only [List.length_cons, List.length_nil] <;> omega) | (simp only [alloc_n, set_n] <;> omega) | (simp (disch := (first | assumption | omega | (simp only [alloc_n, set_n] <;> omega))) only [row_alloc, row_set]; assumption))) only [W_block, ANs, A3s, AOp.map, ↓reduceIte, Nat.reduceAdd, Nat.reduceEqDiff, reduceCtorEq, initFr, Nat.reduceLT, clsA, List.take, List.drop, Nat.reduceLeDiff, Nat.reduceMul, Nat.reduceSub, reduceIte, ANc, A3c]
    refine callK (q64 r3 hlb) ?_
    rintro _ K4 ⟨rfl, r4, c4⟩
    have n4 := c4.n
    simp (disch := (first | assumption | omega | (simp only [List.length_cons, List.length_nil] <;> omega) | (simp only [alloc_n, set_n] <;> omega) | (simp (disch := (first | assumption | omega | (simp only [alloc_n, set_n] <;> omega))) only [row_alloc, row_set]; assumption))) only [W_block, ANs, A3s, AOp.map, ↓reduceIte, Nat.reduceAdd, Nat.reduceEqDiff, reduceCtorEq, initFr, Nat.reduceLT, clsA, List.take, List.drop, Nat.reduceLeDiff, Nat.reduceMul, Nat.reduceSub, reduceIte, ANc, A3c]
    refine callK (q65 r4 hlb) ?_
    rintro _ K5 ⟨rfl, r5, c5⟩
    have n5 := c5.n
    simp (disch := (first | assumption | omega | (simp only [List.length_cons, List.length_nil] <;> omega) | (simp only [alloc_n, set_n] <;> omega) | (simp (disch := (first | assumption | omega | (simp only [alloc_n, set_n] <;> omega))) only [row_alloc, row_set]; assumption))) only [W_block, ANs, A3s, AOp.map, ↓reduceIte, Nat.reduceAdd, Nat.reduceEqDiff, reduceCtorEq, initFr, Nat.reduceLT, clsA, List.take, List.drop, Nat.reduceLeDiff, Nat.reduceMul, Nat.reduceSub, reduceIte, ANc, A3c, fillOp, fillOu]
    refine callK (t68 r5 (frm 2 b) _) ?_
    rintro _ K6 ⟨k6, rfl⟩
    have n6 := k6.n
    have g6 : K6.get H.n = some (.cells true false 5 (cOu Ou0) 42) := by
      rw [k6.get _ (by omega), Chg1.get c5 (by omega) (by omega), Chg1.get c4 (by omega) (by omega), Chg1.get c3 (by omega) (by omega), Chg1.get c2 (by omega) (by omega), Chg1.get c1 (by omega) (by omega), k.get _ (by rw [alloc_n]; omega)]; exact g0
    have p6 := AHeap.get_lt g6
    have kk : ∀ o, Keeps H (K6.set H.n o) := fun o => ⟨by rw [set_n]; omega, fun y hy => by
      rw [AHeap.get_set_other _ (by omega) p6, k6.get _ (by omega), Chg1.get c5 (by omega) (by omega), Chg1.get c4 (by omega) (by omega), Chg1.get c3 (by omega) (by omega), Chg1.get c2 (by omega) (by omega), Chg1.get c1 (by omega) (by omega), k.get _ (by rw [alloc_n]; omega)]; exact k0.get _ hy⟩
    have ed : (⟨na (bd b) 0 1, IntKind.i64.wrap (na (bd b) (0 + 1) 8), IntKind.i64.wrap (na (bd b) (0 + 1 + 8) 8), na (bd b) (0 + 1 + 8 + 8) 8, na (bd b) (0 + 1 + 8 + 8 + 8) 4⟩ : Ou) = deOu (bd b) := rfl
    rw [ed]
    by_cases hc : frm 2 b = true ∧ (bd b).length = 0 + 1 + 8 + 8 + 8 + 4 ∧ okOu (deOu (bd b)) = true
    · rw [if_pos hc]
      have ge : geOu b = some (deOu (bd b)) := by unfold geOu pdOu; rw [if_pos hc.1, if_pos hc.2]
      have lx : (cOu (deOu (bd b))).length = 5 := rfl
      have ox : (cOu (deOu (bd b))).all Value.oneCell' = true := rfl
      simp (disch := (first | assumption | omega | (simp only [List.length_cons, List.length_nil] <;> omega) | (simp only [alloc_n, set_n] <;> omega) | (simp (disch := (first | assumption | omega | (simp only [alloc_n, set_n] <;> omega))) only [row_alloc, row_set]; assumption))) only [W_block, ANs, A3s, AOp.map, ↓reduceIte, Nat.reduceAdd, Nat.reduceEqDiff, reduceCtorEq, initFr, Nat.reduceLT, clsA, List.take, List.drop, Nat.reduceLeDiff, Nat.reduceMul, Nat.reduceSub, reduceIte, ANc, A3c, GotV, g6, ox]
      refine hq2 _ _ ⟨_, by rw [hr]; simp (disch := (first | assumption | omega | (simp only [List.length_cons, List.length_nil] <;> omega) | (simp only [alloc_n, set_n] <;> omega) | (simp (disch := (first | assumption | omega | (simp only [alloc_n, set_n] <;> omega))) only [row_alloc, row_set]; assumption))) only [W_block, ANs, A3s, AOp.map, ↓reduceIte, Nat.reduceAdd, Nat.reduceEqDiff, reduceCtorEq, initFr, Nat.reduceLT, clsA, List.take, List.drop, Nat.reduceLeDiff, Nat.reduceMul, Nat.reduceSub, reduceIte, ANc, A3c, g6, ox]; rfl, kk _, ?_⟩
      rw [ge]; rfl
    · rw [if_neg hc]
      have ge : geOu b = none := by
        unfold geOu pdOu
        split
        · rename_i hf
          rw [if_neg (fun h => hc ⟨hf, h⟩)]
        · rfl
      simp (disch := (first | assumption | omega | (simp only [List.length_cons, List.length_nil] <;> omega) | (simp only [alloc_n, set_n] <;> omega) | (simp (disch := (first | assumption | omega | (simp only [alloc_n, set_n] <;> omega))) only [row_alloc, row_set]; assumption))) only [W_block, ANs, A3s, AOp.map, ↓reduceIte, Nat.reduceAdd, Nat.reduceEqDiff, reduceCtorEq, initFr, Nat.reduceLT, clsA, List.take, List.drop, Nat.reduceLeDiff, Nat.reduceMul, Nat.reduceSub, reduceIte, ANc, A3c, GotV, g6, ozz]
      refine hq2 _ _ ⟨_, by rw [hr]; simp (disch := (first | assumption | omega | (simp only [List.length_cons, List.length_nil] <;> omega) | (simp only [alloc_n, set_n] <;> omega) | (simp (disch := (first | assumption | omega | (simp only [alloc_n, set_n] <;> omega))) only [row_alloc, row_set]; assumption))) only [W_block, ANs, A3s, AOp.map, ↓reduceIte, Nat.reduceAdd, Nat.reduceEqDiff, reduceCtorEq, initFr, Nat.reduceLT, clsA, List.take, List.drop, Nat.reduceLeDiff, Nat.reduceMul, Nat.reduceSub, reduceIte, ANc, A3c, g6, ozz]; rfl, kk _, ?_⟩
      rw [ge]; rfl
theorem fillLo {e c : Int} {s : St} (h : s.t.length = 64) : fillA Z70 [(0, 1, .int .i64 e), (1, 1, .int .i64 c), (2, 68, .agg (cSt s).toArray)] = some (cLo ⟨e, c, s⟩) := by
  have h1 : fillA Z70 [(0, 1, .int .i64 e), (1, 1, .int .i64 c), (2, 68, .agg (cSt s).toArray)] = fillA (.int .i64 e :: .int .i64 c :: Z70.drop 2) [(2, 68, .agg (cSt s).toArray)] := rfl
  rw [h1, fill_cons, cells_agg, if_pos ⟨cSt_len h, Nat.le_refl 70⟩, fill0]
  have h2 : List.drop (2 + 68) (Value.int .i64 e :: Value.int .i64 c :: Z70.drop 2) = [] := rfl
  have h3 : List.take 2 (Value.int .i64 e :: Value.int .i64 c :: Z70.drop 2) = [.int .i64 e, .int .i64 c] := rfl
  rw [h2, h3, List.append_nil]
  rfl
theorem t19 {H : AHeap} {v : Value} {b : List UInt8} (hb : BQ H v b) (hl : b.length ≤ 1000000000) : ∃ w H', ARun Go.Proofs.Try.prog 0 19 [v] H w H' ∧ Keeps H H' ∧ w = match geSt b with | some x => GotV (cSt x) 0 | none => GotV (cSt St0) 130 := by
  refine walk2 f19_ok f19_n ?_
  intro Q hq1 hq2
  have hr : ∀ fr H', resO f19.res fr H' = (celln 68 (fr.getD 1 undef) H').map fun c => .tuple #[c, fr.getD 2 undef] := fun fr H' => resCT 68 1 2 fr
  have k0 := (Keeps.refl H).alloc (.cells true false 68 Z68 51)
  have g0 := AHeap.get_alloc_new H (.cells true false 68 Z68 51)
  have lz : Z68.length = 68 := rfl
  have ozz : Z68.all Value.oneCell' = true := rfl
  have lz' : (cSt St0).length = 68 := rfl
  have ozz' : (cSt St0).all Value.oneCell' = true := rfl
  simp (disch := (first | assumption | omega | (simp only [List.length_cons, List.length_nil] <;> omega) | (simp only [alloc_n, set_n] <;> omega) | (simp (disch := (first | assumption | omega | (simp only [alloc_n, set_n] <;> omega))) only [row_alloc, row_set]; assumption))) only [f19, W_block, ANs, A3s, AOp.map, ↓reduceIte, Nat.reduceAdd, Nat.reduceEqDiff, reduceCtorEq, initFr, Nat.reduceLT, clsA, List.take, List.drop, Nat.reduceLeDiff, Nat.reduceMul, Nat.reduceSub, reduceIte, ANc, A3c, ozz]
  refine callK (t62 (hb.keeps (by ((repeat (first | exact Keeps.refl _ | assumption | refine Keeps.alloc ?_ _ | (refine Keeps.set ?_ (by first | omega | (simp only [alloc_n, set_n] <;> omega)) (by first | omega | (simp only [alloc_n, set_n] <;> omega)) _) | (refine Keeps.trans' (by assumption) ?_)))))) 3 (by omega) hl) ?_
  rintro _ K0 ⟨k, ⟨rfl, rfl, hf⟩ | ⟨r, rfl, r0⟩⟩
  · simp (disch := (first | assumption | omega | (simp only [List.length_cons, List.length_nil] <;> omega) | (simp only [alloc_n, set_n] <;> omega) | (simp (disch := (first | assumption | omega | (simp only [alloc_n, set_n] <;> omega))) only [row_alloc, row_set]; assumption))) only [W_block, ANs, A3s, AOp.map, ↓reduceIte, Nat.reduceAdd, Nat.reduceEqDiff, reduceCtorEq, initFr, Nat.reduceLT, clsA, List.take, List.drop, Nat.reduceLeDiff, Nat.reduceMul, Nat.reduceSub, reduceIte, ANc, A3c]
    refine callK (n70 _) ?_
    rintro _ Ks ⟨rfl, ks⟩
    have nks := ks.n
    simp only [alloc_n] at nks
    simp (disch := (first | assumption | omega | (simp only [List.length_cons, List.length_nil] <;> omega) | (simp only [alloc_n, set_n] <;> omega) | (simp (disch := (first | assumption | omega | (simp only [alloc_n, set_n] <;> omega))) only [row_alloc, row_set, Keeps.row ks]; assumption))) only [Keeps.get ks, Keeps.row ks, W_block, ANs, A3s, AOp.map, ↓reduceIte, Nat.reduceAdd, Nat.reduceEqDiff, reduceCtorEq, initFr, Nat.reduceLT, clsA, List.take, List.drop, Nat.reduceLeDiff, Nat.reduceMul, Nat.reduceSub, reduceIte, ANc, A3c]
    refine callK (n69 St0 rfl) ?_
    rintro _ K1 ⟨k1, rfl⟩
    have nk1 := k1.n
    try simp only [alloc_n] at nk1
    simp (disch := (first | assumption | omega | (simp only [List.length_cons, List.length_nil] <;> omega) | (simp only [alloc_n, set_n] <;> omega) | (simp (disch := (first | assumption | omega | (simp only [alloc_n, set_n] <;> omega))) only [row_alloc, row_set, Keeps.row ks, Keeps.row k1]; assumption))) only [Keeps.get ks, Keeps.get k1, Keeps.row ks, Keeps.row k1, W_block, ANs, A3s, AOp.map, ↓reduceIte, Nat.reduceAdd, Nat.reduceEqDiff, reduceCtorEq, initFr, Nat.reduceLT, clsA, List.take, List.drop, Nat.reduceLeDiff, Nat.reduceMul, Nat.reduceSub, reduceIte, ANc, A3c, GotV, ozz, ozz']
    refine hq2 _ _ ⟨_, by rw [hr]; simp (disch := (first | assumption | omega | (simp only [List.length_cons, List.length_nil] <;> omega) | (simp only [alloc_n, set_n] <;> omega) | (simp (disch := (first | assumption | omega | (simp only [alloc_n, set_n] <;> omega))) only [row_alloc, row_set, Keeps.row ks, Keeps.row k1]; assumption))) only [Keeps.get ks, Keeps.get k1, Keeps.row ks, Keeps.row k1, W_block, ANs, A3s, AOp.map, ↓reduceIte, Nat.reduceAdd, Nat.reduceEqDiff, reduceCtorEq, initFr, Nat.reduceLT, clsA, List.take, List.drop, Nat.reduceLeDiff, Nat.reduceMul, Nat.reduceSub, reduceIte, ANc, A3c, ozz, ozz']; rfl, by ((repeat (first | exact Keeps.refl _ | assumption | refine Keeps.alloc ?_ _ | (refine Keeps.set ?_ (by first | omega | (simp only [alloc_n, set_n] <;> omega)) (by first | omega | (simp only [alloc_n, set_n] <;> omega)) _) | (refine Keeps.trans' (by assumption) ?_)))), ?_⟩
    simp only [geSt, hf]
    rfl
  · have hn0 := k.n
    simp only [alloc_n] at hn0
    have hlb := bd_le hl
    have hrl : H.n + 1 ≤ r := r0.1
    have c0 := Chg.refl [r] K0
    simp (disch := (first | assumption | omega | (simp only [List.length_cons, List.length_nil] <;> omega) | (simp only [alloc_n, set_n] <;> omega) | (simp (disch := (first | assumption | omega | (simp only [alloc_n, set_n] <;> omega))) only [row_alloc, row_set]; assumption))) only [W_block, ANs, A3s, AOp.map, ↓reduceIte, Nat.reduceAdd, Nat.reduceEqDiff, reduceCtorEq, initFr, Nat.reduceLT, clsA, List.take, List.drop, Nat.reduceLeDiff, Nat.reduceMul, Nat.reduceSub, reduceIte, ANc, A3c]
    refine callK (t70 r0 hlb) ?_
    rintro _ K1 ⟨rfl, r1, e1⟩
    have c1 := Chg1.tr c0 e1
    simp (disch := (first | assumption | omega | (simp only [List.length_cons, List.length_nil] <;> omega) | (simp only [alloc_n, set_n] <;> omega) | (simp (disch := (first | assumption | omega | (simp only [alloc_n, set_n] <;> omega))) only [row_alloc, row_set]; assumption))) only [W_block, ANs, A3s, AOp.map, ↓reduceIte, Nat.reduceAdd, Nat.reduceEqDiff, reduceCtorEq, initFr, Nat.reduceLT, clsA, List.take, List.drop, Nat.reduceLeDiff, Nat.reduceMul, Nat.reduceSub, reduceIte, ANc, A3c]
    refine callK (t69 r1 (frm 3 b) (deSt (bd b) 0) (tmr_len _ _)) ?_
    rintro _ K ⟨k6, rfl⟩
    have cc := Chg1.tr c1 (Chg1.kp k6)
    have n6 := cc.n
    have g6 : K.get H.n = some (.cells true false 68 Z68 51) := by
      rw [Chg1.get cc (by omega) (by omega), k.get _ (by rw [alloc_n]; omega)]; exact g0
    have p6 := AHeap.get_lt g6
    have kk : ∀ o, Keeps H (K.set H.n o) := fun o => ⟨by rw [set_n]; omega, fun y hy => by
      rw [AHeap.get_set_other _ (by omega) p6, Chg1.get cc (by omega) (by omega), k.get _ (by rw [alloc_n]; omega)]; exact k0.get _ hy⟩
    have ed : deSt (bd b) 0 = deSt (bd b) 0 := rfl
    rw [ed]
    by_cases hc : frm 3 b = true ∧ (bd b).length = 0 + 92
    · rw [if_pos hc]
      have ge : geSt b = some (deSt (bd b) 0) := by unfold geSt pdSt; rw [if_pos hc.1, if_pos hc.2]
      have lx := cSt_len (x := deSt (bd b) 0) (tmr_len _ _)
      have ox := cSt_one (deSt (bd b) 0)
      simp (disch := (first | assumption | omega | (simp only [List.length_cons, List.length_nil] <;> omega) | (simp only [alloc_n, set_n] <;> omega) | (simp (disch := (first | assumption | omega | (simp only [alloc_n, set_n] <;> omega))) only [row_alloc, row_set]; assumption))) only [W_block, ANs, A3s, AOp.map, ↓reduceIte, Nat.reduceAdd, Nat.reduceEqDiff, reduceCtorEq, initFr, Nat.reduceLT, clsA, List.take, List.drop, Nat.reduceLeDiff, Nat.reduceMul, Nat.reduceSub, reduceIte, ANc, A3c, GotV, g6, ox, ozz]
      refine hq2 _ _ ⟨_, by rw [hr]; simp (disch := (first | assumption | omega | (simp only [List.length_cons, List.length_nil] <;> omega) | (simp only [alloc_n, set_n] <;> omega) | (simp (disch := (first | assumption | omega | (simp only [alloc_n, set_n] <;> omega))) only [row_alloc, row_set]; assumption))) only [W_block, ANs, A3s, AOp.map, ↓reduceIte, Nat.reduceAdd, Nat.reduceEqDiff, reduceCtorEq, initFr, Nat.reduceLT, clsA, List.take, List.drop, Nat.reduceLeDiff, Nat.reduceMul, Nat.reduceSub, reduceIte, ANc, A3c, g6, ox, ozz]; rfl, kk _, ?_⟩
      rw [ge]; rfl
    · rw [if_neg hc]
      have ge : geSt b = none := by
        unfold geSt pdSt
        split
        · rename_i hf
          rw [if_neg (fun h => hc ⟨hf, h⟩)]
        · rfl
      simp (disch := (first | assumption | omega | (simp only [List.length_cons, List.length_nil] <;> omega) | (simp only [alloc_n, set_n] <;> omega) | (simp (disch := (first | assumption | omega | (simp only [alloc_n, set_n] <;> omega))) only [row_alloc, row_set]; assumption))) only [W_block, ANs, A3s, AOp.map, ↓reduceIte, Nat.reduceAdd, Nat.reduceEqDiff, reduceCtorEq, initFr, Nat.reduceLT, clsA, List.take, List.drop, Nat.reduceLeDiff, Nat.reduceMul, Nat.reduceSub, reduceIte, ANc, A3c, GotV, g6, ozz, ozz']
      refine hq2 _ _ ⟨_, by rw [hr]; simp (disch := (first | assumption | omega | (simp only [List.length_cons, List.length_nil] <;> omega) | (simp only [alloc_n, set_n] <;> omega) | (simp (disch := (first | assumption | omega | (simp only [alloc_n, set_n] <;> omega))) only [row_alloc, row_set]; assumption))) only [W_block, ANs, A3s, AOp.map, ↓reduceIte, Nat.reduceAdd, Nat.reduceEqDiff, reduceCtorEq, initFr, Nat.reduceLT, clsA, List.take, List.drop, Nat.reduceLeDiff, Nat.reduceMul, Nat.reduceSub, reduceIte, ANc, A3c, g6, ozz, ozz']; rfl, kk _, ?_⟩
      rw [ge]; rfl
theorem t21 {H : AHeap} {v : Value} {b : List UInt8} (hb : BQ H v b) (hl : b.length ≤ 1000000000) : ∃ w H', ARun Go.Proofs.Try.prog 0 21 [v] H w H' ∧ Keeps H H' ∧ w = match geLo b with | some x => GotV (cLo x) 0 | none => GotV (cLo Lo0) 130 := by
  refine walk2 f21_ok f21_n ?_
  intro Q hq1 hq2
  have hr : ∀ fr H', resO f21.res fr H' = (celln 70 (fr.getD 1 undef) H').map fun c => .tuple #[c, fr.getD 2 undef] := fun fr H' => resCT 70 1 2 fr
  have k0 := (Keeps.refl H).alloc (.cells true false 70 Z70 57)
  have g0 := AHeap.get_alloc_new H (.cells true false 70 Z70 57)
  have lz : Z70.length = 70 := rfl
  have ozz : Z70.all Value.oneCell' = true := rfl
  have lz' : (cLo Lo0).length = 70 := rfl
  have ozz' : (cLo Lo0).all Value.oneCell' = true := rfl
  simp (disch := (first | assumption | omega | (simp only [List.length_cons, List.length_nil] <;> omega) | (simp only [alloc_n, set_n] <;> omega) | (simp (disch := (first | assumption | omega | (simp only [alloc_n, set_n] <;> omega))) only [row_alloc, row_set]; assumption))) only [f21, W_block, ANs, A3s, AOp.map, ↓reduceIte, Nat.reduceAdd, Nat.reduceEqDiff, reduceCtorEq, initFr, Nat.reduceLT, clsA, List.take, List.drop, Nat.reduceLeDiff, Nat.reduceMul, Nat.reduceSub, reduceIte, ANc, A3c, ozz]
  refine callK (t62 (hb.keeps (by ((repeat (first | exact Keeps.refl _ | assumption | refine Keeps.alloc ?_ _ | (refine Keeps.set ?_ (by first | omega | (simp only [alloc_n, set_n] <;> omega)) (by first | omega | (simp only [alloc_n, set_n] <;> omega)) _) | (refine Keeps.trans' (by assumption) ?_)))))) 4 (by omega) hl) ?_
  rintro _ K0 ⟨k, ⟨rfl, rfl, hf⟩ | ⟨r, rfl, r0⟩⟩
  · simp (disch := (first | assumption | omega | (simp only [List.length_cons, List.length_nil] <;> omega) | (simp only [alloc_n, set_n] <;> omega) | (simp (disch := (first | assumption | omega | (simp only [alloc_n, set_n] <;> omega))) only [row_alloc, row_set]; assumption))) only [W_block, ANs, A3s, AOp.map, ↓reduceIte, Nat.reduceAdd, Nat.reduceEqDiff, reduceCtorEq, initFr, Nat.reduceLT, clsA, List.take, List.drop, Nat.reduceLeDiff, Nat.reduceMul, Nat.reduceSub, reduceIte, ANc, A3c]
    refine callK (n64 _) ?_
    rintro _ _ ⟨rfl, rfl⟩
    simp (disch := (first | assumption | omega | (simp only [List.length_cons, List.length_nil] <;> omega) | (simp only [alloc_n, set_n] <;> omega) | (simp (disch := (first | assumption | omega | (simp only [alloc_n, set_n] <;> omega))) only [row_alloc, row_set]; assumption))) only [W_block, ANs, A3s, AOp.map, ↓reduceIte, Nat.reduceAdd, Nat.reduceEqDiff, reduceCtorEq, initFr, Nat.reduceLT, clsA, List.take, List.drop, Nat.reduceLeDiff, Nat.reduceMul, Nat.reduceSub, reduceIte, ANc, A3c]
    refine callK (n64 _) ?_
    rintro _ _ ⟨rfl, rfl⟩
    simp (disch := (first | assumption | omega | (simp only [List.length_cons, List.length_nil] <;> omega) | (simp only [alloc_n, set_n] <;> omega) | (simp (disch := (first | assumption | omega | (simp only [alloc_n, set_n] <;> omega))) only [row_alloc, row_set]; assumption))) only [W_block, ANs, A3s, AOp.map, ↓reduceIte, Nat.reduceAdd, Nat.reduceEqDiff, reduceCtorEq, initFr, Nat.reduceLT, clsA, List.take, List.drop, Nat.reduceLeDiff, Nat.reduceMul, Nat.reduceSub, reduceIte, ANc, A3c]
    refine callK (n70 _) ?_
    rintro _ Ks ⟨rfl, ks⟩
    have nks := ks.n
    simp only [alloc_n] at nks
    simp (disch := (first | assumption | omega | (simp only [List.length_cons, List.length_nil] <;> omega) | (simp only [alloc_n, set_n] <;> omega) | (simp (disch := (first | assumption | omega | (simp only [alloc_n, set_n] <;> omega))) only [row_alloc, row_set, Keeps.row ks]; assumption))) only [Keeps.get ks, Keeps.row ks, W_block, ANs, A3s, AOp.map, ↓reduceIte, Nat.reduceAdd, Nat.reduceEqDiff, reduceCtorEq, initFr, Nat.reduceLT, clsA, List.take, List.drop, Nat.reduceLeDiff, Nat.reduceMul, Nat.reduceSub, reduceIte, ANc, A3c, fillLo (s := St0) rfl]
    refine callK (n72 _ rfl) ?_
    rintro _ K1 ⟨k1, rfl⟩
    have nk1 := k1.n
    try simp only [alloc_n] at nk1
    simp (disch := (first | assumption | omega | (simp only [List.length_cons, List.length_nil] <;> omega) | (simp only [alloc_n, set_n] <;> omega) | (simp (disch := (first | assumption | omega | (simp only [alloc_n, set_n] <;> omega))) only [row_alloc, row_set, Keeps.row ks, Keeps.row k1]; assumption))) only [Keeps.get ks, Keeps.get k1, Keeps.row ks, Keeps.row k1, W_block, ANs, A3s, AOp.map, ↓reduceIte, Nat.reduceAdd, Nat.reduceEqDiff, reduceCtorEq, initFr, Nat.reduceLT, clsA, List.take, List.drop, Nat.reduceLeDiff, Nat.reduceMul, Nat.reduceSub, reduceIte, ANc, A3c, GotV, ozz, ozz']
    refine hq2 _ _ ⟨_, by rw [hr]; simp (disch := (first | assumption | omega | (simp only [List.length_cons, List.length_nil] <;> omega) | (simp only [alloc_n, set_n] <;> omega) | (simp (disch := (first | assumption | omega | (simp only [alloc_n, set_n] <;> omega))) only [row_alloc, row_set, Keeps.row ks, Keeps.row k1]; assumption))) only [Keeps.get ks, Keeps.get k1, Keeps.row ks, Keeps.row k1, W_block, ANs, A3s, AOp.map, ↓reduceIte, Nat.reduceAdd, Nat.reduceEqDiff, reduceCtorEq, initFr, Nat.reduceLT, clsA, List.take, List.drop, Nat.reduceLeDiff, Nat.reduceMul, Nat.reduceSub, reduceIte, ANc, A3c, ozz, ozz']; rfl, by ((repeat (first | exact Keeps.refl _ | assumption | refine Keeps.alloc ?_ _ | (refine Keeps.set ?_ (by first | omega | (simp only [alloc_n, set_n] <;> omega)) (by first | omega | (simp only [alloc_n, set_n] <;> omega)) _) | (refine Keeps.trans' (by assumption) ?_)))), ?_⟩
    simp only [geLo, hf]
    rfl
  · have hn0 := k.n
    simp only [alloc_n] at hn0
    have hlb := bd_le hl
    have hrl : H.n + 1 ≤ r := r0.1
    have c0 := Chg.refl [r] K0
    simp (disch := (first | assumption | omega | (simp only [List.length_cons, List.length_nil] <;> omega) | (simp only [alloc_n, set_n] <;> omega) | (simp (disch := (first | assumption | omega | (simp only [alloc_n, set_n] <;> omega))) only [row_alloc, row_set]; assumption))) only [W_block, ANs, A3s, AOp.map, ↓reduceIte, Nat.reduceAdd, Nat.reduceEqDiff, reduceCtorEq, initFr, Nat.reduceLT, clsA, List.take, List.drop, Nat.reduceLeDiff, Nat.reduceMul, Nat.reduceSub, reduceIte, ANc, A3c]
    refine callK (q64 r0 hlb) ?_
    rintro _ K1 ⟨rfl, r1, e1⟩
    have c1 := Chg1.tr c0 e1
    simp (disch := (first | assumption | omega | (simp only [List.length_cons, List.length_nil] <;> omega) | (simp only [alloc_n, set_n] <;> omega) | (simp (disch := (first | assumption | omega | (simp only [alloc_n, set_n] <;> omega))) only [row_alloc, row_set]; assumption))) only [W_block, ANs, A3s, AOp.map, ↓reduceIte, Nat.reduceAdd, Nat.reduceEqDiff, reduceCtorEq, initFr, Nat.reduceLT, clsA, List.take, List.drop, Nat.reduceLeDiff, Nat.reduceMul, Nat.reduceSub, reduceIte, ANc, A3c]
    refine callK (q64 r1 hlb) ?_
    rintro _ K2 ⟨rfl, r2, e2⟩
    have c2 := Chg1.tr c1 e2
    simp (disch := (first | assumption | omega | (simp only [List.length_cons, List.length_nil] <;> omega) | (simp only [alloc_n, set_n] <;> omega) | (simp (disch := (first | assumption | omega | (simp only [alloc_n, set_n] <;> omega))) only [row_alloc, row_set]; assumption))) only [W_block, ANs, A3s, AOp.map, ↓reduceIte, Nat.reduceAdd, Nat.reduceEqDiff, reduceCtorEq, initFr, Nat.reduceLT, clsA, List.take, List.drop, Nat.reduceLeDiff, Nat.reduceMul, Nat.reduceSub, reduceIte, ANc, A3c]
    refine callK (t70 r2 hlb) ?_
    rintro _ K3 ⟨rfl, r3, e3⟩
    have c3 := Chg1.tr c2 e3
    simp (disch := (first | assumption | omega | (simp only [List.length_cons, List.length_nil] <;> omega) | (simp only [alloc_n, set_n] <;> omega) | (simp (disch := (first | assumption | omega | (simp only [alloc_n, set_n] <;> omega))) only [row_alloc, row_set]; assumption))) only [W_block, ANs, A3s, AOp.map, ↓reduceIte, Nat.reduceAdd, Nat.reduceEqDiff, reduceCtorEq, initFr, Nat.reduceLT, clsA, List.take, List.drop, Nat.reduceLeDiff, Nat.reduceMul, Nat.reduceSub, reduceIte, ANc, A3c, fillLo (s := deSt (bd b) (0 + 8 + 8)) (tmr_len _ _)]
    refine callK (t72 r3 (frm 4 b) ⟨sg (na (bd b) 0 8), sg (na (bd b) (0 + 8) 8), deSt (bd b) (0 + 8 + 8)⟩ (tmr_len _ _)) ?_
    rintro _ K ⟨k6, rfl⟩
    have cc := Chg1.tr c3 (Chg1.kp k6)
    have n6 := cc.n
    have g6 : K.get H.n = some (.cells true false 70 Z70 57) := by
      rw [Chg1.get cc (by omega) (by omega), k.get _ (by rw [alloc_n]; omega)]; exact g0
    have p6 := AHeap.get_lt g6
    have kk : ∀ o, Keeps H (K.set H.n o) := fun o => ⟨by rw [set_n]; omega, fun y hy => by
      rw [AHeap.get_set_other _ (by omega) p6, Chg1.get cc (by omega) (by omega), k.get _ (by rw [alloc_n]; omega)]; exact k0.get _ hy⟩
    have ed : (⟨sg (na (bd b) 0 8), sg (na (bd b) (0 + 8) 8), deSt (bd b) (0 + 8 + 8)⟩ : Lo) = deLo (bd b) := rfl
    rw [ed]
    by_cases hc : frm 4 b = true ∧ (bd b).length = 0 + 8 + 8 + 92 ∧ okLo (deLo (bd b)) = true
    · rw [if_pos hc]
      have ge : geLo b = some (deLo (bd b)) := by unfold geLo pdLo; rw [if_pos hc.1, if_pos hc.2]
      have lx := cLo_len (x := deLo (bd b)) (tmr_len _ _)
      have ox := cLo_one (deLo (bd b))
      simp (disch := (first | assumption | omega | (simp only [List.length_cons, List.length_nil] <;> omega) | (simp only [alloc_n, set_n] <;> omega) | (simp (disch := (first | assumption | omega | (simp only [alloc_n, set_n] <;> omega))) only [row_alloc, row_set]; assumption))) only [W_block, ANs, A3s, AOp.map, ↓reduceIte, Nat.reduceAdd, Nat.reduceEqDiff, reduceCtorEq, initFr, Nat.reduceLT, clsA, List.take, List.drop, Nat.reduceLeDiff, Nat.reduceMul, Nat.reduceSub, reduceIte, ANc, A3c, GotV, g6, ox, ozz]
      refine hq2 _ _ ⟨_, by rw [hr]; simp (disch := (first | assumption | omega | (simp only [List.length_cons, List.length_nil] <;> omega) | (simp only [alloc_n, set_n] <;> omega) | (simp (disch := (first | assumption | omega | (simp only [alloc_n, set_n] <;> omega))) only [row_alloc, row_set]; assumption))) only [W_block, ANs, A3s, AOp.map, ↓reduceIte, Nat.reduceAdd, Nat.reduceEqDiff, reduceCtorEq, initFr, Nat.reduceLT, clsA, List.take, List.drop, Nat.reduceLeDiff, Nat.reduceMul, Nat.reduceSub, reduceIte, ANc, A3c, g6, ox, ozz]; rfl, kk _, ?_⟩
      rw [ge]; rfl
    · rw [if_neg hc]
      have ge : geLo b = none := by
        unfold geLo pdLo
        split
        · rename_i hf
          rw [if_neg (fun h => hc ⟨hf, h⟩)]
        · rfl
      simp (disch := (first | assumption | omega | (simp only [List.length_cons, List.length_nil] <;> omega) | (simp only [alloc_n, set_n] <;> omega) | (simp (disch := (first | assumption | omega | (simp only [alloc_n, set_n] <;> omega))) only [row_alloc, row_set]; assumption))) only [W_block, ANs, A3s, AOp.map, ↓reduceIte, Nat.reduceAdd, Nat.reduceEqDiff, reduceCtorEq, initFr, Nat.reduceLT, clsA, List.take, List.drop, Nat.reduceLeDiff, Nat.reduceMul, Nat.reduceSub, reduceIte, ANc, A3c, GotV, g6, ozz, ozz']
      refine hq2 _ _ ⟨_, by rw [hr]; simp (disch := (first | assumption | omega | (simp only [List.length_cons, List.length_nil] <;> omega) | (simp only [alloc_n, set_n] <;> omega) | (simp (disch := (first | assumption | omega | (simp only [alloc_n, set_n] <;> omega))) only [row_alloc, row_set]; assumption))) only [W_block, ANs, A3s, AOp.map, ↓reduceIte, Nat.reduceAdd, Nat.reduceEqDiff, reduceCtorEq, initFr, Nat.reduceLT, clsA, List.take, List.drop, Nat.reduceLeDiff, Nat.reduceMul, Nat.reduceSub, reduceIte, ANc, A3c, g6, ozz, ozz']; rfl, kk _, ?_⟩
      rw [ge]; rfl
end Go.AM.Fd

set_option linter.unusedSimpArgs false
set_option linter.unusedVariables false
namespace Go.AM.Fd
open Go.Proofs Go.AM.F
theorem fillLi (f t : Nat) (q k : Int) : fillA [.int .u8 0, .int .u8 0, .int .i64 0, .int .i64 0, .slice none 0 0] [(0, 1, .int .u8 (f : Nat)), (1, 1, .int .u8 (t : Nat)), (2, 1, .int .i64 q), (3, 1, .int .i64 k)] = some (cLi (.slice none 0 0) ⟨f, t, q, k, []⟩) := rfl
def LiR (H H' : AHeap) (w : Value) (o : Option Li) : Prop := ∃ vb, Fresh H.n vb ∧ match o with
  | some x => w = GotV (cLi vb x) 0 ∧ AP H' 5 1 vb x.B.length (cellsOf x.B)
  | none => w = GotV (cLi (.slice none 0 0) Li0) 130
theorem t24 {H : AHeap} {v : Value} {b : List UInt8} (hb : BQ H v b) (hl : b.length ≤ 1000000000) : ∃ w H', ARun Go.Proofs.Try.prog 0 24 [v] H w H' ∧ Keeps H H' ∧ LiR H H' w (geLi b) := by
  refine walk2 f24_ok f24_n ?_
  intro Q hq1 hq2
  have hr : ∀ fr H', resO f24.res fr H' = (celln 5 (fr.getD 1 undef) H').map fun c => .tuple #[c, fr.getD 2 undef] := fun fr H' => resCT 5 1 2 fr
  have k0 := (Keeps.refl H).alloc (.cells true false 5 (cLi (.slice none 0 0) Li0) 65)
  have g0 := AHeap.get_alloc_new H (.cells true false 5 (cLi (.slice none 0 0) Li0) 65)
  have lz : (cLi (.slice none 0 0) Li0).length = 5 := rfl
  have ozz : (cLi (.slice none 0 0) Li0).all Value.oneCell' = true := rfl
  simp (disch := (first | assumption | omega | (simp only [List.length_cons, List.length_nil] <;> omega) | (simp only [alloc_n, set_n] <;> omega) | (simp (disch := (first | assumption | omega | (simp only [alloc_n, set_n] <;> omega))) only [row_alloc, row_set]; assumption))) only [f24, W_block, ANs, A3s, AOp.map, ↓reduceIte, Nat.reduceAdd, Nat.reduceEqDiff, reduceCtorEq, initFr, Nat.reduceLT, clsA, List.take, List.drop, Nat.reduceLeDiff, Nat.reduceMul, Nat.reduceSub, reduceIte, ANc, A3c, ozz]
  refine callK (t62 (hb.keeps (by ((repeat (first | exact Keeps.refl _ | assumption | refine Keeps.alloc ?_ _ | (refine Keeps.set ?_ (by first | omega | (simp only [alloc_n, set_n] <;> omega)) (by first | omega | (simp only [alloc_n, set_n] <;> omega)) _) | (refine Keeps.trans' (by assumption) ?_)))))) 5 (by omega) hl) ?_
  rintro _ K0 ⟨k, ⟨rfl, rfl, hf⟩ | ⟨r, rfl, r0⟩⟩
  · simp (disch := (first | assumption | omega | (simp only [List.length_cons, List.length_nil] <;> omega) | (simp only [alloc_n, set_n] <;> omega) | (simp (disch := (first | assumption | omega | (simp only [alloc_n, set_n] <;> omega))) only [row_alloc, row_set]; assumption))) only [W_block, ANs, A3s, AOp.map, ↓reduceIte, Nat.reduceAdd, Nat.reduceEqDiff, reduceCtorEq, initFr, Nat.reduceLT, clsA, List.take, List.drop, Nat.reduceLeDiff, Nat.reduceMul, Nat.reduceSub, reduceIte, ANc, A3c]
    refine callK (n63 _) ?_
    rintro _ _ ⟨rfl, rfl⟩
    simp (disch := (first | assumption | omega | (simp only [List.length_cons, List.length_nil] <;> omega) | (simp only [alloc_n, set_n] <;> omega) | (simp (disch := (first | assumption | omega | (simp only [alloc_n, set_n] <;> omega))) only [row_alloc, row_set]; assumption))) only [W_block, ANs, A3s, AOp.map, ↓reduceIte, Nat.reduceAdd, Nat.reduceEqDiff, reduceCtorEq, initFr, Nat.reduceLT, clsA, List.take, List.drop, Nat.reduceLeDiff, Nat.reduceMul, Nat.reduceSub, reduceIte, ANc, A3c]
    refine callK (n63 _) ?_
    rintro _ _ ⟨rfl, rfl⟩
    simp (disch := (first | assumption | omega | (simp only [List.length_cons, List.length_nil] <;> omega) | (simp only [alloc_n, set_n] <;> omega) | (simp (disch := (first | assumption | omega | (simp only [alloc_n, set_n] <;> omega))) only [row_alloc, row_set]; assumption))) only [W_block, ANs, A3s, AOp.map, ↓reduceIte, Nat.reduceAdd, Nat.reduceEqDiff, reduceCtorEq, initFr, Nat.reduceLT, clsA, List.take, List.drop, Nat.reduceLeDiff, Nat.reduceMul, Nat.reduceSub, reduceIte, ANc, A3c]
    refine callK (n64 _) ?_
    rintro _ _ ⟨rfl, rfl⟩
    simp (disch := (first | assumption | omega | (simp only [List.length_cons, List.length_nil] <;> omega) | (simp only [alloc_n, set_n] <;> omega) | (simp (disch := (first | assumption | omega | (simp only [alloc_n, set_n] <;> omega))) only [row_alloc, row_set]; assumption))) only [W_block, ANs, A3s, AOp.map, ↓reduceIte, Nat.reduceAdd, Nat.reduceEqDiff, reduceCtorEq, initFr, Nat.reduceLT, clsA, List.take, List.drop, Nat.reduceLeDiff, Nat.reduceMul, Nat.reduceSub, reduceIte, ANc, A3c]
    refine callK (n64 _) ?_
    rintro _ _ ⟨rfl, rfl⟩
    have f2 := fillLi 0 0 (IntKind.i64.wrap 0) (IntKind.i64.wrap 0)
    simp only [Int.natCast_zero] at f2
    simp (disch := (first | assumption | omega | (simp only [List.length_cons, List.length_nil] <;> omega) | (simp only [alloc_n, set_n] <;> omega) | (simp (disch := (first | assumption | omega | (simp only [alloc_n, set_n] <;> omega))) only [row_alloc, row_set]; assumption))) only [W_block, ANs, A3s, AOp.map, ↓reduceIte, Nat.reduceAdd, Nat.reduceEqDiff, reduceCtorEq, initFr, Nat.reduceLT, clsA, List.take, List.drop, Nat.reduceLeDiff, Nat.reduceMul, Nat.reduceSub, reduceIte, ANc, A3c, f2, cLi]
    refine callK (n75 _) ?_
    rintro _ _ ⟨rfl, rfl⟩
    simp (disch := (first | assumption | omega | (simp only [List.length_cons, List.length_nil] <;> omega) | (simp only [alloc_n, set_n] <;> omega) | (simp (disch := (first | assumption | omega | (simp only [alloc_n, set_n] <;> omega))) only [row_alloc, row_set]; assumption))) only [W_block, ANs, A3s, AOp.map, ↓reduceIte, Nat.reduceAdd, Nat.reduceEqDiff, reduceCtorEq, initFr, Nat.reduceLT, clsA, List.take, List.drop, Nat.reduceLeDiff, Nat.reduceMul, Nat.reduceSub, reduceIte, ANc, A3c]
    refine callK (n74 _ _) ?_
    rintro _ _ ⟨rfl, rfl⟩
    simp (disch := (first | assumption | omega | (simp only [List.length_cons, List.length_nil] <;> omega) | (simp only [alloc_n, set_n] <;> omega) | (simp (disch := (first | assumption | omega | (simp only [alloc_n, set_n] <;> omega))) only [row_alloc, row_set]; assumption))) only [W_block, ANs, A3s, AOp.map, ↓reduceIte, Nat.reduceAdd, Nat.reduceEqDiff, reduceCtorEq, initFr, Nat.reduceLT, clsA, List.take, List.drop, Nat.reduceLeDiff, Nat.reduceMul, Nat.reduceSub, reduceIte, ANc, A3c]
    refine callK (t73 (BS.nil _) (by simp)) ?_
    rintro v2 K2 ⟨a2, k2, fr2⟩
    have n2 := k2.n
    simp only [alloc_n] at n2
    have ho2 : v2.oneCell' = true := by obtain ⟨a, rfl⟩ := a2.shape; rfl
    have fb2 := Fresh.tb fr2
    simp only [alloc_n] at fb2
    simp (disch := (first | assumption | omega | (simp only [List.length_cons, List.length_nil] <;> omega) | (simp only [alloc_n, set_n] <;> omega) | (simp (disch := (first | assumption | omega | (simp only [alloc_n, set_n] <;> omega))) only [row_alloc, row_set, Keeps.row k2]; assumption))) only [Keeps.get k2, Keeps.row k2, W_block, ANs, A3s, AOp.map, ↓reduceIte, Nat.reduceAdd, Nat.reduceEqDiff, reduceCtorEq, initFr, Nat.reduceLT, clsA, List.take, List.drop, Nat.reduceLeDiff, Nat.reduceMul, Nat.reduceSub, reduceIte, ANc, A3c, cLi, ho2]
    refine callK (n76 ⟨0, 0, IntKind.i64.wrap 0, IntKind.i64.wrap 0, []⟩ (a2.bs.chgT (Chg.set K2 (show H.n + 1 < K2.n by omega) _) (fun y hy => by have := fb2 y hy; simp; omega))) ?_
    rintro _ K3 ⟨k3, rfl⟩
    have n3 := k3.n
    simp only [set_n] at n3
    have p3 : H.n + 1 < K2.n := by omega
    have kq : ∀ o, Keeps H (K3.set H.n o) := fun o => ⟨by rw [set_n]; omega, fun y hy => by
      rw [AHeap.get_set_other _ (by omega) (by omega), k3.get _ (by rw [set_n]; omega), AHeap.get_set_other _ (by omega) p3, k2.get _ (by simp only [alloc_n]; omega), AHeap.get_alloc_old _ _ (by rw [alloc_n]; omega), AHeap.get_alloc_old _ _ hy]⟩
    simp (disch := (first | assumption | omega | (simp only [List.length_cons, List.length_nil] <;> omega) | (simp only [alloc_n, set_n] <;> omega) | (simp (disch := (first | assumption | omega | (simp only [alloc_n, set_n] <;> omega))) only [row_alloc, row_set, Keeps.row k3, Keeps.row k2]; assumption))) only [Keeps.get k3, Keeps.get k2, Keeps.row k3, Keeps.row k2, W_block, ANs, A3s, AOp.map, ↓reduceIte, Nat.reduceAdd, Nat.reduceEqDiff, reduceCtorEq, initFr, Nat.reduceLT, clsA, List.take, List.drop, Nat.reduceLeDiff, Nat.reduceMul, Nat.reduceSub, reduceIte, ANc, A3c, GotV, cLi]
    refine hq2 _ _ ⟨_, by rw [hr]; simp (disch := (first | assumption | omega | (simp only [List.length_cons, List.length_nil] <;> omega) | (simp only [alloc_n, set_n] <;> omega) | (simp (disch := (first | assumption | omega | (simp only [alloc_n, set_n] <;> omega))) only [row_alloc, row_set, Keeps.row k3, Keeps.row k2]; assumption))) only [Keeps.get k3, Keeps.get k2, Keeps.row k3, Keeps.row k2, W_block, ANs, A3s, AOp.map, ↓reduceIte, Nat.reduceAdd, Nat.reduceEqDiff, reduceCtorEq, initFr, Nat.reduceLT, clsA, List.take, List.drop, Nat.reduceLeDiff, Nat.reduceMul, Nat.reduceSub, reduceIte, ANc, A3c, cLi]; rfl, kq _, ?_⟩
    refine ⟨.slice none 0 0, fun b hb => (by cases hb), ?_⟩
    have ge : geLi b = none := by unfold geLi; rw [hf]; rfl
    rw [ge]
    rfl
  · have hn0 := k.n
    simp only [alloc_n] at hn0
    have hlb := bd_le hl
    have hrl : H.n + 1 ≤ r := r0.1
    have hrk : r < K0.n := r0.2.1
    have c0 := Chg.refl [r] K0
    simp (disch := (first | assumption | omega | (simp only [List.length_cons, List.length_nil] <;> omega) | (simp only [alloc_n, set_n] <;> omega) | (simp (disch := (first | assumption | omega | (simp only [alloc_n, set_n] <;> omega))) only [row_alloc, row_set]; assumption))) only [W_block, ANs, A3s, AOp.map, ↓reduceIte, Nat.reduceAdd, Nat.reduceEqDiff, reduceCtorEq, initFr, Nat.reduceLT, clsA, List.take, List.drop, Nat.reduceLeDiff, Nat.reduceMul, Nat.reduceSub, reduceIte, ANc, A3c]
    refine callK (q63 r0 hlb) ?_
    rintro _ K1 ⟨rfl, r1, e1⟩
    have c1 := Chg1.tr c0 e1
    simp (disch := (first | assumption | omega | (simp only [List.length_cons, List.length_nil] <;> omega) | (simp only [alloc_n, set_n] <;> omega) | (simp (disch := (first | assumption | omega | (simp only [alloc_n, set_n] <;> omega))) only [row_alloc, row_set]; assumption))) only [W_block, ANs, A3s, AOp.map, ↓reduceIte, Nat.reduceAdd, Nat.reduceEqDiff, reduceCtorEq, initFr, Nat.reduceLT, clsA, List.take, List.drop, Nat.reduceLeDiff, Nat.reduceMul, Nat.reduceSub, reduceIte, ANc, A3c]
    refine callK (q63 r1 hlb) ?_
    rintro _ K2 ⟨rfl, r2, e2⟩
    have c2 := Chg1.tr c1 e2
    simp (disch := (first | assumption | omega | (simp only [List.length_cons, List.length_nil] <;> omega) | (simp only [alloc_n, set_n] <;> omega) | (simp (disch := (first | assumption | omega | (simp only [alloc_n, set_n] <;> omega))) only [row_alloc, row_set]; assumption))) only [W_block, ANs, A3s, AOp.map, ↓reduceIte, Nat.reduceAdd, Nat.reduceEqDiff, reduceCtorEq, initFr, Nat.reduceLT, clsA, List.take, List.drop, Nat.reduceLeDiff, Nat.reduceMul, Nat.reduceSub, reduceIte, ANc, A3c]
    refine callK (q64 r2 hlb) ?_
    rintro _ K3 ⟨rfl, r3, e3⟩
    have c3 := Chg1.tr c2 e3
    simp (disch := (first | assumption | omega | (simp only [List.length_cons, List.length_nil] <;> omega) | (simp only [alloc_n, set_n] <;> omega) | (simp (disch := (first | assumption | omega | (simp only [alloc_n, set_n] <;> omega))) only [row_alloc, row_set]; assumption))) only [W_block, ANs, A3s, AOp.map, ↓reduceIte, Nat.reduceAdd, Nat.reduceEqDiff, reduceCtorEq, initFr, Nat.reduceLT, clsA, List.take, List.drop, Nat.reduceLeDiff, Nat.reduceMul, Nat.reduceSub, reduceIte, ANc, A3c]
    refine callK (q64 r3 hlb) ?_
    rintro _ K4 ⟨rfl, r4, e4⟩
    have c4 := Chg1.tr c3 e4
    have n4 := c4.n
    simp (disch := (first | assumption | omega | (simp only [List.length_cons, List.length_nil] <;> omega) | (simp only [alloc_n, set_n] <;> omega) | (simp (disch := (first | assumption | omega | (simp only [alloc_n, set_n] <;> omega))) only [row_alloc, row_set]; assumption))) only [W_block, ANs, A3s, AOp.map, ↓reduceIte, Nat.reduceAdd, Nat.reduceEqDiff, reduceCtorEq, initFr, Nat.reduceLT, clsA, List.take, List.drop, Nat.reduceLeDiff, Nat.reduceMul, Nat.reduceSub, reduceIte, ANc, A3c, fillLi]
    have o4 : (cLi (.slice none 0 0) ⟨na (bd b) 0 1, na (bd b) (0 + 1) 1, IntKind.i64.wrap (na (bd b) (0 + 1 + 1) 8), IntKind.i64.wrap (na (bd b) (0 + 1 + 1 + 8) 8), []⟩).all Value.oneCell' = true := rfl
    have l4 : (cLi (.slice none 0 0) ⟨na (bd b) 0 1, na (bd b) (0 + 1) 1, IntKind.i64.wrap (na (bd b) (0 + 1 + 1) 8), IntKind.i64.wrap (na (bd b) (0 + 1 + 1 + 8) 8), []⟩).length = 5 := rfl
    simp (disch := (first | assumption | omega | (simp only [List.length_cons, List.length_nil] <;> omega) | (simp only [alloc_n, set_n] <;> omega) | (simp (disch := (first | assumption | omega | (simp only [alloc_n, set_n] <;> omega))) only [row_alloc, row_set]; assumption))) only [W_block, ANs, A3s, AOp.map, ↓reduceIte, Nat.reduceAdd, Nat.reduceEqDiff, reduceCtorEq, initFr, Nat.reduceLT, clsA, List.take, List.drop, Nat.reduceLeDiff, Nat.reduceMul, Nat.reduceSub, reduceIte, ANc, A3c, o4]
    obtain ⟨Kb, hKb⟩ : ∃ X, X = K4.alloc (.cells true false 5 (cLi (.slice none 0 0) ⟨na (bd b) 0 1, na (bd b) (0 + 1) 1, IntKind.i64.wrap (na (bd b) (0 + 1 + 1) 8), IntKind.i64.wrap (na (bd b) (0 + 1 + 1 + 8) 8), []⟩) 65) := ⟨_, rfl⟩
    have kb := (Keeps.refl K4).alloc (.cells true false 5 (cLi (.slice none 0 0) ⟨na (bd b) 0 1, na (bd b) (0 + 1) 1, IntKind.i64.wrap (na (bd b) (0 + 1 + 1) 8), IntKind.i64.wrap (na (bd b) (0 + 1 + 1 + 8) 8), []⟩) 65)
    have gb := AHeap.get_alloc_new K4 (.cells true false 5 (cLi (.slice none 0 0) ⟨na (bd b) 0 1, na (bd b) (0 + 1) 1, IntKind.i64.wrap (na (bd b) (0 + 1 + 1) 8), IntKind.i64.wrap (na (bd b) (0 + 1 + 1 + 8) 8), []⟩) 65)
    rw [← hKb] at kb gb ⊢
    have nb := kb.n
    have lb := AHeap.get_lt gb
    refine callK (q75 (r4.keeps kb) hlb) ?_
    rintro _ K5 ⟨rfl, r5, c5⟩
    have n5 := c5.n
    have hs2 := na2 (bd b) (0 + 1 + 1 + 8 + 8)
    have hw : IntKind.i64.wrap (na (bd b) (0 + 1 + 1 + 8 + 8) 2 : Nat) = (na (bd b) (0 + 1 + 1 + 8 + 8) 2 : Nat) := wrap_i64 (by omega) (by omega)
    simp (disch := (first | assumption | omega | (simp only [List.length_cons, List.length_nil] <;> omega) | (simp only [alloc_n, set_n] <;> omega) | (simp (disch := (first | assumption | omega | (simp only [alloc_n, set_n] <;> omega))) only [row_alloc, row_set]; assumption))) only [W_block, ANs, A3s, AOp.map, ↓reduceIte, Nat.reduceAdd, Nat.reduceEqDiff, reduceCtorEq, initFr, Nat.reduceLT, clsA, List.take, List.drop, Nat.reduceLeDiff, Nat.reduceMul, Nat.reduceSub, reduceIte, ANc, A3c, hw]
    refine callK (q74 r5 (na (bd b) (0 + 1 + 1 + 8 + 8) 2) hlb) ?_
    rintro v6 K6 ⟨B6, r6, c6, h6⟩
    have n6 := c6.n
    have hsl : (seg (bd b) (0 + 1 + 1 + 8 + 8 + 2) (na (bd b) (0 + 1 + 1 + 8 + 8) 2)).length ≤ 65536 := by
      unfold seg
      split
      · simp
      · rw [List.length_take]; omega
    simp (disch := (first | assumption | omega | (simp only [List.length_cons, List.length_nil] <;> omega) | (simp only [alloc_n, set_n] <;> omega) | (simp (disch := (first | assumption | omega | (simp only [alloc_n, set_n] <;> omega))) only [row_alloc, row_set]; assumption))) only [W_block, ANs, A3s, AOp.map, ↓reduceIte, Nat.reduceAdd, Nat.reduceEqDiff, reduceCtorEq, initFr, Nat.reduceLT, clsA, List.take, List.drop, Nat.reduceLeDiff, Nat.reduceMul, Nat.reduceSub, reduceIte, ANc, A3c]
    refine callK (t73 B6 (by omega)) ?_
    rintro v7 K7 ⟨a7, k7, f7⟩
    have n7 := k7.n
    have fb7 := Fresh.tb f7
    have ho7 : v7.oneCell' = true := by obtain ⟨a, rfl⟩ := a7.shape; rfl
    have g7 : K7.get K4.n = some (.cells true false 5 (cLi (.slice none 0 0) ⟨na (bd b) 0 1, na (bd b) (0 + 1) 1, IntKind.i64.wrap (na (bd b) (0 + 1 + 1) 8), IntKind.i64.wrap (na (bd b) (0 + 1 + 1 + 8) 8), []⟩) 65) := by
      rw [k7.get _ (by omega), Chg1.get c6 (by omega) (by omega), Chg1.get c5 (by omega) (by omega)]; exact gb
    have p7 := AHeap.get_lt g7
    simp (disch := (first | assumption | omega | (simp only [List.length_cons, List.length_nil] <;> omega) | (simp only [alloc_n, set_n] <;> omega) | (simp (disch := (first | assumption | omega | (simp only [alloc_n, set_n] <;> omega))) only [row_alloc, row_set]; assumption))) only [W_block, ANs, A3s, AOp.map, ↓reduceIte, Nat.reduceAdd, Nat.reduceEqDiff, reduceCtorEq, initFr, Nat.reduceLT, clsA, List.take, List.drop, Nat.reduceLeDiff, Nat.reduceMul, Nat.reduceSub, reduceIte, ANc, A3c, g7, cLi, ho7]
    have q7 : ∀ o, Chg [K4.n] K7 (K7.set K4.n o) := fun o => Chg.set K7 p7 o
    have R8 := fun o => (r6.keeps k7).chg (q7 o) (.inr (by omega))
    have B8 := fun o => a7.bs.chgT (q7 o) (fun y hy => by have := fb7 y hy; simp; omega)
    refine callK (t76 (R8 _) (frm 5 b) (deLi (bd b)) (B8 _)) ?_
    rintro _ K ⟨k8, rfl⟩
    have n8 := k8.n
    simp only [set_n] at n8
    have hget : ∀ y, y < K0.n → y ≠ r → K.get y = K0.get y := fun y hy hr' => by
      rw [k8.get _ (by rw [set_n]; omega), AHeap.get_set_other _ (by omega) p7, k7.get _ (by omega), Chg1.get c6 (by omega) hr', Chg1.get c5 (by omega) hr', kb.get _ (by omega), Chg1.get c4 hy hr']
    have g8 : K.get H.n = some (.cells true false 5 (cLi (.slice none 0 0) Li0) 65) := by
      rw [hget _ (by omega) (by omega), k.get _ (by rw [alloc_n]; omega)]; exact g0
    have p8 := AHeap.get_lt g8
    have a8 : AP K 5 1 v7 (deLi (bd b)).B.length (cellsOf (deLi (bd b)).B) := a7.chg ((q7 _).trans (k8.chg [K4.n]) (fun x hx => .inl hx)) (fun y hy => by have := f7 y (mem_blkL.1 hy); simp; omega)
    have kk : ∀ o, Keeps H (K.set H.n o) := fun o => ⟨by rw [set_n]; omega, fun y hy => by
      rw [AHeap.get_set_other _ (by omega) p8, hget _ (by omega) (by omega), k.get _ (by rw [alloc_n]; omega)]; exact k0.get _ hy⟩
    have f8 : Fresh H.n v7 := fun y hy => by have := f7 y hy; omega
    by_cases hc : frm 5 b = true ∧ (bd b).length = 0 + 1 + 1 + 8 + 8 + 2 + na (bd b) (0 + 1 + 1 + 8 + 8) 2 ∧ okLi (deLi (bd b)) = true
    · rw [if_pos hc]
      have ge : geLi b = some (deLi (bd b)) := by
        unfold geLi pdLi
        rw [if_pos hc.1, if_pos ⟨by have := hc.2.1; simp only [Nat.zero_add] at this; exact this, hc.2.2⟩]
      have lx : (cLi v7 (deLi (bd b))).length = 5 := rfl
      have ox : (cLi v7 (deLi (bd b))).all Value.oneCell' = true := by simp only [cLi, List.all_cons, List.all_nil, ho7]; rfl
      simp (disch := (first | assumption | omega | (simp only [List.length_cons, List.length_nil] <;> omega) | (simp only [alloc_n, set_n] <;> omega) | (simp (disch := (first | assumption | omega | (simp only [alloc_n, set_n] <;> omega))) only [row_alloc, row_set]; assumption))) only [W_block, ANs, A3s, AOp.map, ↓reduceIte, Nat.reduceAdd, Nat.reduceEqDiff, reduceCtorEq, initFr, Nat.reduceLT, clsA, List.take, List.drop, Nat.reduceLeDiff, Nat.reduceMul, Nat.reduceSub, reduceIte, ANc, A3c, GotV, g8, ox, lx]
      refine hq2 _ _ ⟨_, by rw [hr]; simp (disch := (first | assumption | omega | (simp only [List.length_cons, List.length_nil] <;> omega) | (simp only [alloc_n, set_n] <;> omega) | (simp (disch := (first | assumption | omega | (simp only [alloc_n, set_n] <;> omega))) only [row_alloc, row_set]; assumption))) only [W_block, ANs, A3s, AOp.map, ↓reduceIte, Nat.reduceAdd, Nat.reduceEqDiff, reduceCtorEq, initFr, Nat.reduceLT, clsA, List.take, List.drop, Nat.reduceLeDiff, Nat.reduceMul, Nat.reduceSub, reduceIte, ANc, A3c, g8, ox, lx]; rfl, kk _, v7, f8, ?_⟩
      rw [ge]
      exact ⟨rfl, a8.chg (Chg.set K p8 _) (fun y hy => by have := f7 y (mem_blkL.1 hy); simp; omega)⟩
    · rw [if_neg hc]
      have ge : geLi b = none := by
        unfold geLi pdLi
        split
        · rename_i hf
          rw [if_neg (fun h => hc ⟨hf, by have := h.1; simp only [Nat.zero_add]; exact this, h.2⟩)]
        · rfl
      simp (disch := (first | assumption | omega | (simp only [List.length_cons, List.length_nil] <;> omega) | (simp only [alloc_n, set_n] <;> omega) | (simp (disch := (first | assumption | omega | (simp only [alloc_n, set_n] <;> omega))) only [row_alloc, row_set]; assumption))) only [W_block, ANs, A3s, AOp.map, ↓reduceIte, Nat.reduceAdd, Nat.reduceEqDiff, reduceCtorEq, initFr, Nat.reduceLT, clsA, List.take, List.drop, Nat.reduceLeDiff, Nat.reduceMul, Nat.reduceSub, reduceIte, ANc, A3c, GotV, g8, ozz, lz]
      refine hq2 _ _ ⟨_, by rw [hr]; simp (disch := (first | assumption | omega | (simp only [List.length_cons, List.length_nil] <;> omega) | (simp only [alloc_n, set_n] <;> omega) | (simp (disch := (first | assumption | omega | (simp only [alloc_n, set_n] <;> omega))) only [row_alloc, row_set]; assumption))) only [W_block, ANs, A3s, AOp.map, ↓reduceIte, Nat.reduceAdd, Nat.reduceEqDiff, reduceCtorEq, initFr, Nat.reduceLT, clsA, List.take, List.drop, Nat.reduceLeDiff, Nat.reduceMul, Nat.reduceSub, reduceIte, ANc, A3c, g8, ozz, lz]; rfl, kk _, .slice none 0 0, fun b hb => (by cases hb), ?_⟩
      rw [ge]
      rfl
end Go.AM.Fd

set_option linter.unusedSimpArgs false
set_option linter.unusedVariables false
namespace Go.AM.Fd
open Go.Proofs Go.AM.F
theorem RR.gc {P : Program} {ng : Nat} {f : FuncId} {args : List Value} {H H' : AHeap} {lo hi r s s' : Nat} {l : List UInt8} {k : IntKind} {n : Int} (h : RR H lo hi r l s) (a : ARun P ng f args H (.int k n) H') (h' : RR H' lo hi r l s') (c : Chg [r] H H') :
    ∃ o, ARun P ng f args H (.int k n) (H.set r o) ∧ RR (H.set r o) lo hi r l s' := by
  obtain ⟨h1, h2, h3, bv, h4, h5, v0, g0, _⟩ := h
  obtain ⟨_, _, h3', bv', h4', h5', v', g', hv'⟩ := h'
  have gs : (H.set r (.cells true false 2 [v', .bool (decide (l.length < s'))] 171)).get r = some (.cells true false 2 [v', .bool (decide (l.length < s'))] 171) := AHeap.get_set_same g0 _
  have hrn := AHeap.get_lt g0
  have old : ∀ b, b ≠ r → (H.set r (.cells true false 2 [v', .bool (decide (l.length < s'))] 171)).get b = H.get b := fun b hb => AHeap.get_set_other _ hb hrn _
  refine ⟨.cells true false 2 [v', .bool (decide (l.length < s'))] 171, ?_, h1, h2, h3, bv', h4', h5', v', gs, ?_⟩
  · refine a.gcs [] rfl (by simp) (by simp) ?_ (by simp) (.inr (.int _ _))
    intro b o' hb ho
    by_cases hbr : b = r
    · subst hbr
      rw [g'] at ho; cases ho
      refine .inr ⟨_, gs, true, _, rfl, fun x => x, .cons ?_ (.cons (.bool _) .nil)⟩
      rcases hv' with ⟨rfl, _⟩ | ⟨o, c2, rm, rfl, _⟩
      · exact .nilSl
      · exact .sl (rho_old (by omega))
    · rw [Chg1.get c hb hbr] at ho
      exact .inl ⟨ho, by rw [old b hbr]; exact ho⟩
  · rcases hv' with ⟨rfl, e1, e2⟩ | ⟨o, c2, rm, rfl, e1, e2, e3, e4⟩
    · exact .inl ⟨rfl, e1, e2⟩
    · exact .inr ⟨o, c2, rm, rfl, by rw [old _ e2, ← Chg1.get c (by omega) e2]; exact e1, e2, e3, e4⟩
section
variable {H : AHeap} {lo hi r s : Nat} {l : List UInt8}
theorem e63 (h : RR H lo hi r l s) (hl : l.length ≤ 1000000000) : ∃ v H', ARun Go.Proofs.Try.prog 0 63 [ptr r 0] H v H' ∧ v = .int .u8 (na l s 1 : Nat) ∧ ∃ o, H' = H.set r o ∧ RR (H.set r o) lo hi r l (s + 1) := by
  obtain ⟨_, H', a, rfl, b, c⟩ := q63 h hl
  obtain ⟨o, p, q⟩ := h.gc a b c
  exact ⟨_, _, p, rfl, o, rfl, q⟩
theorem e65 (h : RR H lo hi r l s) (hl : l.length ≤ 1000000000) : ∃ v H', ARun Go.Proofs.Try.prog 0 65 [ptr r 0] H v H' ∧ v = .int .u32 (na l s 4 : Nat) ∧ ∃ o, H' = H.set r o ∧ RR (H.set r o) lo hi r l (s + 4) := by
  obtain ⟨_, H', a, rfl, b, c⟩ := q65 h hl
  obtain ⟨o, p, q⟩ := h.gc a b c
  exact ⟨_, _, p, rfl, o, rfl, q⟩
theorem e64 (h : RR H lo hi r l s) (hl : l.length ≤ 1000000000) : ∃ v H', ARun Go.Proofs.Try.prog 0 64 [ptr r 0] H v H' ∧ v = .int .u64 (na l s 8 : Nat) ∧ ∃ o, H' = H.set r o ∧ RR (H.set r o) lo hi r l (s + 8) := by
  obtain ⟨_, H', a, rfl, b, c⟩ := q64 h hl
  obtain ⟨o, p, q⟩ := h.gc a b c
  exact ⟨_, _, p, rfl, o, rfl, q⟩
theorem RR.alloc (h : RR H lo hi r l s) (o : AO) : RR (H.alloc o) lo hi r l s := h.keeps ((Keeps.refl H).alloc o)
theorem RR.upto {H' : AHeap} (h : RR H lo hi r l s) (hn : H.n ≤ H'.n) (k : ∀ y, y < hi → H'.get y = H.get y) : RR H' lo hi r l s := by
  obtain ⟨h1, h2, h3, bv, h4, h5, v, g, hv⟩ := h
  refine ⟨h1, h2, by omega, bv, h4, h5, v, by rw [k _ h2]; exact g, ?_⟩
  rcases hv with h | ⟨o, c, rm, e0, e1, e2⟩
  · exact .inl h
  · exact .inr ⟨o, c, rm, e0, by rw [k _ h5]; exact e1, e2⟩
theorem RR.lt (h : RR H lo hi r l s) : r < H.n := Nat.lt_of_lt_of_le h.2.1 h.2.2.1
theorem RR.set (h : RR H lo hi r l s) {b : Nat} (hb : hi ≤ b) (hn : b < H.n) (o : AO) : RR (H.set b o) lo hi r l s := h.chg (Chg.set H hn o) (.inr hb)
end
theorem fill6 (ch : Nat) (cy : Int) (oc no re : Nat) (v : Value) : fillA [.int .u8 0, .int .i64 0, .int .u64 0, .int .u32 0, .int .u32 0, .slice none 0 0] [(0, 1, .int .u8 (ch : Nat)), (1, 1, .int .i64 cy), (2, 4, .agg #[.int .u64 (oc : Nat), .int .u32 (no : Nat), .int .u32 (re : Nat), .slice none 0 0])] = some (cI6 (.slice none 0 0) ⟨ch, cy, oc, no, re, []⟩) := rfl
theorem fill4 (oc no re : Nat) : fillA [.int .u64 0, .int .u32 0, .int .u32 0, .slice none 0 0] [(0, 1, .int .u64 (oc : Nat)), (1, 1, .int .u32 (no : Nat)), (2, 1, .int .u32 (re : Nat))] = some [.int .u64 (oc : Nat), .int .u32 (no : Nat), .int .u32 (re : Nat), .slice none 0 0] := rfl
theorem fillC (k : Nat) (n : Int) : fillA [.int .u8 0, .int .i64 0] [(0, 1, .int .u8 (k : Nat)), (1, 1, .int .i64 n)] = some [.int .u8 (k : Nat), .int .i64 n] := rfl
theorem fillP (x y : Int) : fillA [.int .u8 0, .int .i64 0] [(0, 2, .agg #[.int .u8 x, .int .i64 y])] = some [.int .u8 x, .int .i64 y] := rfl
def I6R (H H' : AHeap) (w : Value) (o : Option I6) : Prop := ∃ vc, Fresh H.n vc ∧ match o with
  | some x => w = GotV (cI6 vc x) 0 ∧ AP H' 108 2 vc x.cs.length (CC x.cs).flatten
  | none => w = GotV (cI6 (.slice none 0 0) I60) 130
theorem t12 {H : AHeap} {v : Value} {b : List UInt8} (hb : BQ H v b) (hl : b.length ≤ 1000000000) : ∃ w H', ARun Go.Proofs.Try.prog 0 12 [v] H w H' ∧ Keeps H H' ∧ I6R H H' w (geI6 b) := by
  refine walk2 f12_ok f12_n ?_
  intro Q hq1 hq2
  have hr : ∀ fr H', resO f12.res fr H' = (celln 6 (fr.getD 1 undef) H').map fun c => .tuple #[c, fr.getD 2 undef] := fun fr H' => resCT 6 1 2 fr
  have k0 := (Keeps.refl H).alloc (.cells true false 6 (cI6 (.slice none 0 0) I60) 30)
  have g0 := AHeap.get_alloc_new H (.cells true false 6 (cI6 (.slice none 0 0) I60) 30)
  have lz : (cI6 (.slice none 0 0) I60).length = 6 := rfl
  have ozz : (cI6 (.slice none 0 0) I60).all Value.oneCell' = true := rfl
  simp (disch := (first | assumption | omega | (simp only [List.length_cons, List.length_nil] <;> omega) | (simp only [alloc_n, set_n] <;> omega) | (simp (disch := (first | assumption | omega | (simp only [alloc_n, set_n] <;> omega))) only [row_alloc, row_set]; assumption))) only [f12, W_block, ANs, A3s, AOp.map, ↓reduceIte, Nat.reduceAdd, Nat.reduceEqDiff, reduceCtorEq, initFr, Nat.reduceLT, clsA, List.take, List.drop, Nat.reduceLeDiff, Nat.reduceMul, Nat.reduceSub, reduceIte, ANc, A3c, ozz]
  refine callK (t62 (hb.keeps (by ((repeat (first | exact Keeps.refl _ | assumption | refine Keeps.alloc ?_ _ | (refine Keeps.set ?_ (by first | omega | (simp only [alloc_n, set_n] <;> omega)) (by first | omega | (simp only [alloc_n, set_n] <;> omega)) _) | (refine Keeps.trans' (by assumption) ?_)))))) 1 (by omega) hl) ?_
  rintro _ K0 ⟨k, ⟨rfl, rfl, hf⟩ | ⟨r, rfl, r0⟩⟩
  · simp (disch := (first | assumption | omega | (simp only [List.length_cons, List.length_nil] <;> omega) | (simp only [alloc_n, set_n] <;> omega) | (simp (disch := (first | assumption | omega | (simp only [alloc_n, set_n] <;> omega))) only [row_alloc, row_set]; assumption))) only [W_block, ANs, A3s, AOp.map, ↓reduceIte, Nat.reduceAdd, Nat.reduceEqDiff, reduceCtorEq, initFr, Nat.reduceLT, clsA, List.take, List.drop, Nat.reduceLeDiff, Nat.reduceMul, Nat.reduceSub, reduceIte, ANc, A3c]
    refine callK (n63 _) ?_
    rintro _ _ ⟨rfl, rfl⟩
    simp (disch := (first | assumption | omega | (simp only [List.length_cons, List.length_nil] <;> omega) | (simp only [alloc_n, set_n] <;> omega) | (simp (disch := (first | assumption | omega | (simp only [alloc_n, set_n] <;> omega))) only [row_alloc, row_set]; assumption))) only [W_block, ANs, A3s, AOp.map, ↓reduceIte, Nat.reduceAdd, Nat.reduceEqDiff, reduceCtorEq, initFr, Nat.reduceLT, clsA, List.take, List.drop, Nat.reduceLeDiff, Nat.reduceMul, Nat.reduceSub, reduceIte, ANc, A3c]
    refine callK (n64 _) ?_
    rintro _ _ ⟨rfl, rfl⟩
    simp (disch := (first | assumption | omega | (simp only [List.length_cons, List.length_nil] <;> omega) | (simp only [alloc_n, set_n] <;> omega) | (simp (disch := (first | assumption | omega | (simp only [alloc_n, set_n] <;> omega))) only [row_alloc, row_set]; assumption))) only [W_block, ANs, A3s, AOp.map, ↓reduceIte, Nat.reduceAdd, Nat.reduceEqDiff, reduceCtorEq, initFr, Nat.reduceLT, clsA, List.take, List.drop, Nat.reduceLeDiff, Nat.reduceMul, Nat.reduceSub, reduceIte, ANc, A3c]
    refine callK (n64 _) ?_
    rintro _ _ ⟨rfl, rfl⟩
    simp (disch := (first | assumption | omega | (simp only [List.length_cons, List.length_nil] <;> omega) | (simp only [alloc_n, set_n] <;> omega) | (simp (disch := (first | assumption | omega | (simp only [alloc_n, set_n] <;> omega))) only [row_alloc, row_set]; assumption))) only [W_block, ANs, A3s, AOp.map, ↓reduceIte, Nat.reduceAdd, Nat.reduceEqDiff, reduceCtorEq, initFr, Nat.reduceLT, clsA, List.take, List.drop, Nat.reduceLeDiff, Nat.reduceMul, Nat.reduceSub, reduceIte, ANc, A3c]
    refine callK (n65 _) ?_
    rintro _ _ ⟨rfl, rfl⟩
    simp (disch := (first | assumption | omega | (simp only [List.length_cons, List.length_nil] <;> omega) | (simp only [alloc_n, set_n] <;> omega) | (simp (disch := (first | assumption | omega | (simp only [alloc_n, set_n] <;> omega))) only [row_alloc, row_set]; assumption))) only [W_block, ANs, A3s, AOp.map, ↓reduceIte, Nat.reduceAdd, Nat.reduceEqDiff, reduceCtorEq, initFr, Nat.reduceLT, clsA, List.take, List.drop, Nat.reduceLeDiff, Nat.reduceMul, Nat.reduceSub, reduceIte, ANc, A3c]
    refine callK (n65 _) ?_
    rintro _ _ ⟨rfl, rfl⟩
    have f4 := fill4 0 0 0
    have f6 := fill6 0 (IntKind.i64.wrap 0) 0 0 0 (.slice none 0 0)
    simp only [Int.natCast_zero] at f4 f6
    simp (disch := (first | assumption | omega | (simp only [List.length_cons, List.length_nil] <;> omega) | (simp only [alloc_n, set_n] <;> omega) | (simp (disch := (first | assumption | omega | (simp only [alloc_n, set_n] <;> omega))) only [row_alloc, row_set]; assumption))) only [W_block, ANs, A3s, AOp.map, ↓reduceIte, Nat.reduceAdd, Nat.reduceEqDiff, reduceCtorEq, initFr, Nat.reduceLT, clsA, List.take, List.drop, Nat.reduceLeDiff, Nat.reduceMul, Nat.reduceSub, reduceIte, ANc, A3c, f4, f6, cI6]
    refine callK (n63 _) ?_
    rintro _ _ ⟨rfl, rfl⟩
    simp (disch := (first | assumption | omega | (simp only [List.length_cons, List.length_nil] <;> omega) | (simp only [alloc_n, set_n] <;> omega) | (simp (disch := (first | assumption | omega | (simp only [alloc_n, set_n] <;> omega))) only [row_alloc, row_set]; assumption))) only [W_block, ANs, A3s, AOp.map, ↓reduceIte, Nat.reduceAdd, Nat.reduceEqDiff, reduceCtorEq, initFr, Nat.reduceLT, clsA, List.take, List.drop, Nat.reduceLeDiff, Nat.reduceMul, Nat.reduceSub, reduceIte, ANc, A3c]
    refine W_loop2 (fun q fr K => fr = [v, ptr H.n 0, .int .i64 0, .pointer none, .bool false, ptr (H.n + 1) 0, .int .u8 0, .int .u8 0, undef] ∧ K = (H.alloc (.cells true false 6 (cI6 (.slice none 0 0) I60) 30)).alloc (.cells true false 6 (cI6 (.slice none 0 0) I60) 30)) 0 ⟨rfl, rfl⟩ ?_
    rintro Q' q _ _ ⟨rfl, rfl⟩ hn' he hrt
    simp (disch := (first | assumption | omega | (simp only [List.length_cons, List.length_nil] <;> omega) | (simp only [alloc_n, set_n] <;> omega) | (simp (disch := (first | assumption | omega | (simp only [alloc_n, set_n] <;> omega))) only [row_alloc, row_set]; assumption))) only [W_block, ANs, A3s, AOp.map, ↓reduceIte, Nat.reduceAdd, Nat.reduceEqDiff, reduceCtorEq, initFr, Nat.reduceLT, clsA, List.take, List.drop, Nat.reduceLeDiff, Nat.reduceMul, Nat.reduceSub, reduceIte, ANc, A3c, ozz]
    refine he _ _ _ ?_
    simp (disch := (first | assumption | omega | (simp only [List.length_cons, List.length_nil] <;> omega) | (simp only [alloc_n, set_n] <;> omega) | (simp (disch := (first | assumption | omega | (simp only [alloc_n, set_n] <;> omega))) only [row_alloc, row_set]; assumption))) only [W_block, ANs, A3s, AOp.map, ↓reduceIte, Nat.reduceAdd, Nat.reduceEqDiff, reduceCtorEq, initFr, Nat.reduceLT, clsA, List.take, List.drop, Nat.reduceLeDiff, Nat.reduceMul, Nat.reduceSub, reduceIte, ANc, A3c, ozz, lz]
    refine callK (n66 I60 (Sl.nil _ _)) ?_
    rintro _ K3 ⟨k3, rfl⟩
    have n3 := k3.n
    simp only [alloc_n] at n3
    have g3 := AHeap.get_alloc_new H (.cells true false 6 (cI6 (.slice none 0 0) I60) 30)
    simp (disch := (first | assumption | omega | (simp only [List.length_cons, List.length_nil] <;> omega) | (simp only [alloc_n, set_n] <;> omega) | (simp (disch := (first | assumption | omega | (simp only [alloc_n, set_n] <;> omega))) only [row_alloc, row_set, Keeps.row k3]; assumption))) only [Keeps.get k3, Keeps.row k3, W_block, ANs, A3s, AOp.map, ↓reduceIte, Nat.reduceAdd, Nat.reduceEqDiff, reduceCtorEq, initFr, Nat.reduceLT, clsA, List.take, List.drop, Nat.reduceLeDiff, Nat.reduceMul, Nat.reduceSub, reduceIte, ANc, A3c, GotV, ozz, lz]
    refine hq2 _ _ ⟨_, by rw [hr]; simp (disch := (first | assumption | omega | (simp only [List.length_cons, List.length_nil] <;> omega) | (simp only [alloc_n, set_n] <;> omega) | (simp (disch := (first | assumption | omega | (simp only [alloc_n, set_n] <;> omega))) only [row_alloc, row_set, Keeps.row k3]; assumption))) only [Keeps.get k3, Keeps.row k3, W_block, ANs, A3s, AOp.map, ↓reduceIte, Nat.reduceAdd, Nat.reduceEqDiff, reduceCtorEq, initFr, Nat.reduceLT, clsA, List.take, List.drop, Nat.reduceLeDiff, Nat.reduceMul, Nat.reduceSub, reduceIte, ANc, A3c, ozz, lz]; rfl, ?_, .slice none 0 0, fun b hb => (by cases hb), ?_⟩
    · ((repeat (first | exact Keeps.refl _ | assumption | refine Keeps.alloc ?_ _ | (refine Keeps.set ?_ (by first | omega | (simp only [alloc_n, set_n] <;> omega)) (by first | omega | (simp only [alloc_n, set_n] <;> omega)) _) | (refine Keeps.trans' (by assumption) ?_))))
    · have ge : geI6 b = none := by unfold geI6; rw [hf]; rfl
      rw [ge]
      rfl
  · have hn0 := k.n
    simp only [alloc_n] at hn0
    have hlb := bd_le hl
    have hrl : H.n + 1 ≤ r := r0.1
    have hrk : r < K0.n := r0.2.1
    simp (disch := (first | assumption | omega | (simp only [List.length_cons, List.length_nil] <;> omega) | (simp only [alloc_n, set_n] <;> omega) | (simp (disch := (first | assumption | omega | (simp only [alloc_n, set_n] <;> omega))) only [row_alloc, row_set]; assumption))) only [W_block, ANs, A3s, AOp.map, ↓reduceIte, Nat.reduceAdd, Nat.reduceEqDiff, reduceCtorEq, initFr, Nat.reduceLT, clsA, List.take, List.drop, Nat.reduceLeDiff, Nat.reduceMul, Nat.reduceSub, reduceIte, ANc, A3c]
    refine callK (e63 r0 hlb) ?_
    rintro _ _ ⟨rfl, o1, rfl, r1⟩
    simp (disch := (first | assumption | omega | (simp only [List.length_cons, List.length_nil] <;> omega) | (simp only [alloc_n, set_n] <;> omega) | (simp (disch := (first | assumption | omega | (simp only [alloc_n, set_n] <;> omega))) only [row_alloc, row_set]; assumption))) only [W_block, ANs, A3s, AOp.map, ↓reduceIte, Nat.reduceAdd, Nat.reduceEqDiff, reduceCtorEq, initFr, Nat.reduceLT, clsA, List.take, List.drop, Nat.reduceLeDiff, Nat.reduceMul, Nat.reduceSub, reduceIte, ANc, A3c]
    refine callK (e64 r1 hlb) ?_
    rintro _ _ ⟨rfl, o2, rfl, r2⟩
    simp (disch := (first | assumption | omega | (simp only [List.length_cons, List.length_nil] <;> omega) | (simp only [alloc_n, set_n] <;> omega) | (simp (disch := (first | assumption | omega | (simp only [alloc_n, set_n] <;> omega))) only [row_alloc, row_set]; assumption))) only [W_block, ANs, A3s, AOp.map, ↓reduceIte, Nat.reduceAdd, Nat.reduceEqDiff, reduceCtorEq, initFr, Nat.reduceLT, clsA, List.take, List.drop, Nat.reduceLeDiff, Nat.reduceMul, Nat.reduceSub, reduceIte, ANc, A3c]
    rw [set_set] at r2
    refine callK (e64 r2 hlb) ?_
    rintro _ _ ⟨rfl, o3, rfl, r3⟩
    simp (disch := (first | assumption | omega | (simp only [List.length_cons, List.length_nil] <;> omega) | (simp only [alloc_n, set_n] <;> omega) | (simp (disch := (first | assumption | omega | (simp only [alloc_n, set_n] <;> omega))) only [row_alloc, row_set]; assumption))) only [W_block, ANs, A3s, AOp.map, ↓reduceIte, Nat.reduceAdd, Nat.reduceEqDiff, reduceCtorEq, initFr, Nat.reduceLT, clsA, List.take, List.drop, Nat.reduceLeDiff, Nat.reduceMul, Nat.reduceSub, reduceIte, ANc, A3c]
    rw [set_set] at r3
    refine callK (e65 r3 hlb) ?_
    rintro _ _ ⟨rfl, o4, rfl, r4⟩
    simp (disch := (first | assumption | omega | (simp only [List.length_cons, List.length_nil] <;> omega) | (simp only [alloc_n, set_n] <;> omega) | (simp (disch := (first | assumption | omega | (simp only [alloc_n, set_n] <;> omega))) only [row_alloc, row_set]; assumption))) only [W_block, ANs, A3s, AOp.map, ↓reduceIte, Nat.reduceAdd, Nat.reduceEqDiff, reduceCtorEq, initFr, Nat.reduceLT, clsA, List.take, List.drop, Nat.reduceLeDiff, Nat.reduceMul, Nat.reduceSub, reduceIte, ANc, A3c]
    rw [set_set] at r4
    refine callK (e65 r4 hlb) ?_
    rintro _ _ ⟨rfl, o5, rfl, r5⟩
    rw [set_set] at r5
    simp (disch := (first | assumption | omega | (simp only [List.length_cons, List.length_nil] <;> omega) | (simp only [alloc_n, set_n] <;> omega) | (simp (disch := (first | assumption | omega | (simp only [alloc_n, set_n] <;> omega))) only [row_alloc, row_set]; assumption))) only [W_block, ANs, A3s, AOp.map, ↓reduceIte, Nat.reduceAdd, Nat.reduceEqDiff, reduceCtorEq, initFr, Nat.reduceLT, clsA, List.take, List.drop, Nat.reduceLeDiff, Nat.reduceMul, Nat.reduceSub, reduceIte, ANc, A3c, fill4, fill6, cI6]
    have c0 := Chg.set K0 hrk o5
    refine callK (e63 (r5.alloc _) hlb) ?_
    rintro _ _ ⟨rfl, o6, rfl, r6⟩
    rw [set_old _ _ (show r < (K0.set r o5).n from hrk), set_set] at r6
    simp (disch := (first | assumption | omega | (simp only [List.length_cons, List.length_nil] <;> omega) | (simp only [alloc_n, set_n] <;> omega) | (simp (disch := (first | assumption | omega | (simp only [alloc_n, set_n] <;> omega))) only [row_alloc, row_set]; assumption))) only [W_block, ANs, A3s, AOp.map, ↓reduceIte, Nat.reduceAdd, Nat.reduceEqDiff, reduceCtorEq, initFr, Nat.reduceLT, clsA, List.take, List.drop, Nat.reduceLeDiff, Nat.reduceMul, Nat.reduceSub, reduceIte, ANc, A3c]
    have hn256 := na1 (bd b) (0 + 1 + 8 + 8 + 4 + 4)
    obtain ⟨x, hx⟩ : ∃ x, x = deI6 (bd b) := ⟨_, rfl⟩
    obtain ⟨n, hn⟩ : ∃ n, n = na (bd b) (0 + 1 + 8 + 8 + 4 + 4) 1 := ⟨_, rfl⟩
    rw [← hn] at hn256 ⊢
    have cx : ∀ vc, cI6 vc x = [.int .u8 (na (bd b) 0 1 : Nat), .int .i64 (IntKind.i64.wrap (na (bd b) 1 8)), .int .u64 (na (bd b) 9 8 : Nat), .int .u32 (na (bd b) 17 4 : Nat), .int .u32 (na (bd b) 21 4 : Nat), vc] := fun vc => by rw [hx]; rfl
    have hxc : x.cs = deCs (bd b) n := by rw [hx, hn]; rfl
    refine W_loop2 (fun q fr K => ∃ (i : Nat) (vc e : Value), i ≤ n ∧ q = n - i ∧ RR K (H.n + 1) K0.n r (bd b) (26 + 2 * i) ∧ K.get K0.n = some (.cells true false 6 (cI6 vc x) 30) ∧ AP K 108 2 vc i (CC (deCs (bd b) i)).flatten ∧ Fresh (K0.n + 1) vc ∧ Chg [r] K0 K ∧
      fr = [v, ptr H.n 0, .int .i64 0, ptr r 0, .bool (frm 1 b), ptr K0.n 0, .int .u8 (n : Nat), .int .u8 (i : Nat), e]) n ⟨0, .slice none 0 0, undef, by omega, rfl, ?_, ?_, .inl ⟨rfl, rfl, rfl⟩, fun b hb => (by cases hb), ?_, rfl⟩ ?_
    · exact r6
    · rw [cx]; exact AHeap.get_alloc_new _ _
    · exact (Chg.set K0 hrk o6).trans (((Keeps.refl _).alloc _).chg []) (by simp)
    rintro Q' q fr K ⟨i, vc, e, hi, rfl, rr, gk, ap, fv, ck, rfl⟩ hnx hex hrt
    have hkn := AHeap.get_lt gk
    have hrK := rr.lt
    by_cases hc : i < n
    · simp (disch := (first | assumption | omega | (simp only [List.length_cons, List.length_nil] <;> omega) | (simp only [alloc_n, set_n] <;> omega) | (simp (disch := (first | assumption | omega | (simp only [alloc_n, set_n] <;> omega))) only [row_alloc, row_set]; assumption))) only [W_block, ANs, A3s, AOp.map, ↓reduceIte, Nat.reduceAdd, Nat.reduceEqDiff, reduceCtorEq, initFr, Nat.reduceLT, clsA, List.take, List.drop, Nat.reduceLeDiff, Nat.reduceMul, Nat.reduceSub, reduceIte, ANc, A3c, gk, cx]
      refine callK (e63 rr hlb) ?_
      rintro _ _ ⟨rfl, o7, rfl, r7⟩
      simp (disch := (first | assumption | omega | (simp only [List.length_cons, List.length_nil] <;> omega) | (simp only [alloc_n, set_n] <;> omega) | (simp (disch := (first | assumption | omega | (simp only [alloc_n, set_n] <;> omega))) only [row_alloc, row_set]; assumption))) only [W_block, ANs, A3s, AOp.map, ↓reduceIte, Nat.reduceAdd, Nat.reduceEqDiff, reduceCtorEq, initFr, Nat.reduceLT, clsA, List.take, List.drop, Nat.reduceLeDiff, Nat.reduceMul, Nat.reduceSub, reduceIte, ANc, A3c, gk, cx, ite_self]
      refine callK (e63 r7 hlb) ?_
      rintro _ _ ⟨rfl, o8, rfl, r8⟩
      rw [set_set] at r8
      have w7 : IntKind.i64.wrap (na (bd b) (26 + 2 * i + 1) 1 : Nat) = (na (bd b) (26 + 2 * i + 1) 1 : Nat) := by
        have := na1 (bd b) (26 + 2 * i + 1)
        exact wrap_i64 (by omega) (by omega)
      simp (disch := (first | assumption | omega | (simp only [List.length_cons, List.length_nil] <;> omega) | (simp only [alloc_n, set_n] <;> omega) | (simp (disch := (first | assumption | omega | (simp only [alloc_n, set_n] <;> omega))) only [row_alloc, row_set]; assumption))) only [W_block, ANs, A3s, AOp.map, ↓reduceIte, Nat.reduceAdd, Nat.reduceEqDiff, reduceCtorEq, initFr, Nat.reduceLT, clsA, List.take, List.drop, Nat.reduceLeDiff, Nat.reduceMul, Nat.reduceSub, reduceIte, ANc, A3c, gk, cx, fillC, fillP, ite_self, w7]
      obtain ⟨e7, he7⟩ : ∃ e7 : List Value, e7 = [.int .u8 (na (bd b) (26 + 2 * i) 1 : Nat), .int .i64 (na (bd b) (26 + 2 * i + 1) 1 : Nat)] := ⟨_, rfl⟩
      rw [← he7]
      have apn : AP ((K.set r o8).alloc (.cells true false 2 e7 108)) 108 2 vc i (CC (deCs (bd b) i)).flatten :=
        ap.chg ((Chg.set K hrK o8).trans (((Keeps.refl _).alloc _).chg [r]) (fun x hx => .inl hx)) (fun y hy => by have := fv y (mem_blkL.1 hy); simp; omega)
      refine appGD apn ⟨_, _, rfl⟩ (elems_new rfl (by rw [he7]; rfl)) (by rw [he7]; rfl) (by omega) ?_
      intro v9 H9 ap9 c9 hb9
      have n9 := c9.n
      simp only [alloc_n, set_n] at n9 hb9
      have fv9 : Fresh (K0.n + 1) v9 := fun y hy => by
        rcases hb9 with e | e
        · exact fv y (by rw [← e]; exact hy)
        · rw [e] at hy; cases hy; omega
      have g9 : ∀ y, y < K0.n + 1 → H9.get y = (K.set r o8).get y := fun y hy => by
        rw [c9.get _ (by rw [alloc_n, set_n]; omega) (fun hz => by have := fv y (mem_blkL.1 hz); omega), AHeap.get_alloc_old _ _ (by rw [set_n]; omega)]
      have gk9 := g9 K0.n (by omega)
      rw [AHeap.get_set_other _ (by omega) hrK, gk] at gk9
      have ho9 : v9.oneCell' = true := by obtain ⟨a, e⟩ := ap9.shape; rw [e]; rfl
      simp (disch := (first | assumption | omega | (simp only [List.length_cons, List.length_nil] <;> omega) | (simp only [alloc_n, set_n] <;> omega) | (simp (disch := (first | assumption | omega | (simp only [alloc_n, set_n] <;> omega))) only [row_alloc, row_set]; assumption))) only [W_block, ANs, A3s, AOp.map, ↓reduceIte, Nat.reduceAdd, Nat.reduceEqDiff, reduceCtorEq, initFr, Nat.reduceLT, clsA, List.take, List.drop, Nat.reduceLeDiff, Nat.reduceMul, Nat.reduceSub, reduceIte, ANc, A3c, gk9, cx, ho9]
      have w8 : IntKind.u8.wrap ((i : Int) + 1) = ((i + 1 : Nat) : Int) := by rw [wrap_u8]; omega
      rw [w8]
      refine hnx _ _ _ ⟨i + 1, v9, _, by omega, rfl, ?_, by rw [cx]; exact AHeap.get_set_same gk9 _, ?_, fv9, ?_, rfl⟩ (by omega)
      · refine r8.upto (by simp only [set_n]; omega) (fun y hy => ?_)
        rw [AHeap.get_set_other _ (by omega) (by omega), g9 _ (by omega)]
      · have e9 : (CC (deCs (bd b) (i + 1))).flatten = (CC (deCs (bd b) i)).flatten ++ e7 := by
          rw [deCs_succ, he7]
          unfold CC
          rw [List.map_append, List.flatten_append]
          simp only [List.map_cons, List.map_nil, List.flatten_cons, List.flatten_nil, List.append_nil]
          rw [show 27 + 2 * i = 26 + 2 * i + 1 by omega]
        rw [e9]
        exact ap9.chg (Chg.set H9 (by omega) _) (fun y hy => by have := fv9 y (mem_blkL.1 hy); simp; omega)
      · refine ⟨by rw [set_n]; have := ck.n; omega, fun y hy hyr => ?_⟩
        rw [AHeap.get_set_other _ (by omega) (by omega), g9 _ (by omega), AHeap.get_set_other _ (by simpa using hyr) hrK, ck.get y hy hyr]
    · have hin : i = n := by omega
      subst hin
      simp (disch := (first | assumption | omega | (simp only [List.length_cons, List.length_nil] <;> omega) | (simp only [alloc_n, set_n] <;> omega) | (simp (disch := (first | assumption | omega | (simp only [alloc_n, set_n] <;> omega))) only [row_alloc, row_set]; assumption))) only [W_block, ANs, A3s, AOp.map, ↓reduceIte, Nat.reduceAdd, Nat.reduceEqDiff, reduceCtorEq, initFr, Nat.reduceLT, clsA, List.take, List.drop, Nat.reduceLeDiff, Nat.reduceMul, Nat.reduceSub, reduceIte, ANc, A3c]
      refine hex _ _ _ ?_
      have hsl : Sl K 2 vc (CC x.cs) := by
        rw [hxc]
        refine ap.sl (fun r hr => ?_) (by simp [CC, deCs_len])
        simp only [CC, List.mem_map] at hr
        obtain ⟨_, _, rfl⟩ := hr
        rfl
      have hone := hsl.one
      have lx : (cI6 vc x).length = 6 := rfl
      have ox : (cI6 vc x).all Value.oneCell' = true := by simp only [cI6, List.all_cons, List.all_nil, hone]; rfl
      simp (disch := (first | assumption | omega | (simp only [List.length_cons, List.length_nil] <;> omega) | (simp only [alloc_n, set_n] <;> omega) | (simp (disch := (first | assumption | omega | (simp only [alloc_n, set_n] <;> omega))) only [row_alloc, row_set]; assumption))) only [W_block, ANs, A3s, AOp.map, ↓reduceIte, Nat.reduceAdd, Nat.reduceEqDiff, reduceCtorEq, initFr, Nat.reduceLT, clsA, List.take, List.drop, Nat.reduceLeDiff, Nat.reduceMul, Nat.reduceSub, reduceIte, ANc, A3c, gk, lx]
      refine callK (t66 rr (frm 1 b) x hsl (by rw [hxc, deCs_len]; omega)) ?_
      rintro _ K9 ⟨k9, rfl⟩
      have n9 := k9.n
      have gH : K9.get H.n = some (.cells true false 6 (cI6 (.slice none 0 0) I60) 30) := by
        rw [k9.get _ (by omega), Chg1.get ck (by omega) (by omega), k.get _ (by rw [alloc_n]; omega)]; exact g0
      have pH := AHeap.get_lt gH
      have kk : ∀ o, Keeps H (K9.set H.n o) := fun o => ⟨by rw [set_n]; omega, fun y hy => by
        rw [AHeap.get_set_other _ (by omega) pH, k9.get _ (by omega), Chg1.get ck (by omega) (by omega), k.get _ (by rw [alloc_n]; omega)]; exact k0.get _ hy⟩
      by_cases hk : frm 1 b = true ∧ (bd b).length = 26 + 2 * i ∧ okI6 x = true
      · rw [if_pos hk]
        have ge : geI6 b = some x := by
          unfold geI6 pdI6
          simp only [Nat.zero_add, Nat.reduceAdd] at hn
          rw [if_pos hk.1, ← hn, ← hx, if_pos hk.2]
        simp (disch := (first | assumption | omega | (simp only [List.length_cons, List.length_nil] <;> omega) | (simp only [alloc_n, set_n] <;> omega) | (simp (disch := (first | assumption | omega | (simp only [alloc_n, set_n] <;> omega))) only [row_alloc, row_set]; assumption))) only [W_block, ANs, A3s, AOp.map, ↓reduceIte, Nat.reduceAdd, Nat.reduceEqDiff, reduceCtorEq, initFr, Nat.reduceLT, clsA, List.take, List.drop, Nat.reduceLeDiff, Nat.reduceMul, Nat.reduceSub, reduceIte, ANc, A3c, GotV, gH, ox, lx]
        refine hq2 _ _ ⟨_, by rw [hr]; simp (disch := (first | assumption | omega | (simp only [List.length_cons, List.length_nil] <;> omega) | (simp only [alloc_n, set_n] <;> omega) | (simp (disch := (first | assumption | omega | (simp only [alloc_n, set_n] <;> omega))) only [row_alloc, row_set]; assumption))) only [W_block, ANs, A3s, AOp.map, ↓reduceIte, Nat.reduceAdd, Nat.reduceEqDiff, reduceCtorEq, initFr, Nat.reduceLT, clsA, List.take, List.drop, Nat.reduceLeDiff, Nat.reduceMul, Nat.reduceSub, reduceIte, ANc, A3c, gH, ox, lx]; rfl, kk _, vc, fun y hy => by have := fv y hy; omega, ?_⟩
        rw [ge]
        refine ⟨rfl, ?_⟩
        rw [hxc, deCs_len]
        exact (ap.chg (k9.chg []) (by simp)).chg (Chg.set K9 pH _) (fun y hy => by have := fv y (mem_blkL.1 hy); simp; omega)
      · rw [if_neg hk]
        have ge : geI6 b = none := by
          unfold geI6 pdI6
          simp only [Nat.zero_add, Nat.reduceAdd] at hn
          rw [← hn, ← hx]
          split
          · rename_i hf
            rw [if_neg (fun h => hk ⟨hf, h⟩)]
          · rfl
        simp (disch := (first | assumption | omega | (simp only [List.length_cons, List.length_nil] <;> omega) | (simp only [alloc_n, set_n] <;> omega) | (simp (disch := (first | assumption | omega | (simp only [alloc_n, set_n] <;> omega))) only [row_alloc, row_set]; assumption))) only [W_block, ANs, A3s, AOp.map, ↓reduceIte, Nat.reduceAdd, Nat.reduceEqDiff, reduceCtorEq, initFr, Nat.reduceLT, clsA, List.take, List.drop, Nat.reduceLeDiff, Nat.reduceMul, Nat.reduceSub, reduceIte, ANc, A3c, GotV, gH, ozz, lz]
        refine hq2 _ _ ⟨_, by rw [hr]; simp (disch := (first | assumption | omega | (simp only [List.length_cons, List.length_nil] <;> omega) | (simp only [alloc_n, set_n] <;> omega) | (simp (disch := (first | assumption | omega | (simp only [alloc_n, set_n] <;> omega))) only [row_alloc, row_set]; assumption))) only [W_block, ANs, A3s, AOp.map, ↓reduceIte, Nat.reduceAdd, Nat.reduceEqDiff, reduceCtorEq, initFr, Nat.reduceLT, clsA, List.take, List.drop, Nat.reduceLeDiff, Nat.reduceMul, Nat.reduceSub, reduceIte, ANc, A3c, gH, ozz, lz]; rfl, kk _, .slice none 0 0, fun b hb => (by cases hb), ?_⟩
        rw [ge]
        rfl
end Go.AM.Fd

set_option linter.unusedSimpArgs false
set_option linter.unusedVariables false
namespace Go.AM.Fd
open Go.Proofs Go.AM.F
def kiB (b : List UInt8) : Nat := if (geI6 b).isSome then 1 else if (geOu b).isSome then 2 else if (geSt b).isSome then 3 else if (geLo b).isSome then 4 else if (geLi b).isSome then 5 else 0
theorem frm_no {k : Nat} {b : List UInt8} (h : 0 < b.length) (hk : k < 256) (hb : b[0].toNat ≠ k) : frm k b = false := by
  cases hf : frm k b with
  | false => rfl
  | true =>
    exfalso
    unfold frm at hf
    rw [List.getElem?_eq_getElem h] at hf
    simp only [Bool.and_eq_true, beq_iff_eq, Option.some.injEq] at hf
    apply hb
    rw [hf.2.1]
    simp; omega
theorem frm_nil (k : Nat) : frm k [] = false := by simp [frm]
theorem t28 {H : AHeap} {v : Value} {b : List UInt8} (hb : BQ H v b) (hl : b.length ≤ 1000000000) : ∃ w H', ARun Go.Proofs.Try.prog 0 28 [v] H w H' ∧ w = .int .u8 (kiB b : Nat) ∧ H' = H := by
  suffices h : ∃ w H', ARun Go.Proofs.Try.prog 0 28 [v] H w H' ∧ w = .int .u8 (kiB b : Nat) ∧ Keeps H H' by
    obtain ⟨_, _, a, rfl, k⟩ := h
    exact ⟨_, _, a.gc0 k (.inr (.int _ _)), rfl, rfl⟩
  refine walk2 f28_ok f28_n ?_
  intro Q hq1 hq2
  have hs := hb.bs.sl
  have his := hs.is
  have hlen := hs.len
  rw [List.length_map] at hlen
  by_cases h0 : b.length = 0
  · have hb0 : b = [] := List.length_eq_zero_iff.1 h0
    have e : kiB b = 0 := by
      subst hb0
      simp [kiB, geI6, geOu, geSt, geLo, geLi, frm_nil]
    simp (disch := (first | assumption | omega | (simp only [List.length_cons, List.length_nil] <;> omega) | (simp only [alloc_n, set_n] <;> omega) | (simp (disch := (first | assumption | omega | (simp only [alloc_n, set_n] <;> omega))) only [row_alloc, row_set]; assumption))) only [f28, W_block, ANs, A3s, AOp.map, ↓reduceIte, Nat.reduceAdd, Nat.reduceEqDiff, reduceCtorEq, initFr, Nat.reduceLT, clsA, List.take, List.drop, Nat.reduceLeDiff, Nat.reduceMul, Nat.reduceSub, reduceIte, ANc, A3c, hlen]
    exact hq2 _ _ ⟨_, rfl, by rw [e]; rfl, Keeps.refl _⟩
  · have hpos : 0 < b.length := by omega
    obtain ⟨hnn, hrow⟩ := hs.at_ (by omega) (i := 0) (by rw [List.length_map]; omega)
    have hbn := hs.bn_le (by intro e; simp at e; subst e; exact h0 rfl) (by omega)
    rw [List.getElem_map] at hrow
    have n1 : ∀ k, k < 256 → b[0].toNat ≠ k → frm k b = false := fun k hk h => frm_no hpos hk h
    obtain ⟨c, hc⟩ : ∃ c, c = b[0].toNat := ⟨_, rfl⟩
    rw [← hc] at hrow n1
    by_cases c1 : c = 1
    · subst c1
      simp (disch := (first | assumption | omega | (simp only [List.length_cons, List.length_nil] <;> omega) | (simp only [alloc_n, set_n] <;> omega) | (simp (disch := (first | assumption | omega | (simp only [alloc_n, set_n] <;> omega))) only [row_alloc, row_set]; assumption))) only [f28, W_block, ANs, A3s, AOp.map, ↓reduceIte, Nat.reduceAdd, Nat.reduceEqDiff, reduceCtorEq, initFr, Nat.reduceLT, clsA, List.take, List.drop, Nat.reduceLeDiff, Nat.reduceMul, Nat.reduceSub, reduceIte, ANc, A3c, hlen]
      refine callK (t12 hb hl) ?_
      rintro _ K ⟨k, vc, fv, hw⟩
      have e : kiB b = if (geI6 b).isSome then 1 else 0 := by
        simp [kiB, geOu, geSt, geLo, geLi, n1 2 (by omega) (by omega), n1 3 (by omega) (by omega), n1 4 (by omega) (by omega), n1 5 (by omega) (by omega)]
      cases hg : geI6 b with
      | none =>
        rw [hg] at hw
        subst hw
        simp (disch := (first | assumption | omega | (simp only [List.length_cons, List.length_nil] <;> omega) | (simp only [alloc_n, set_n] <;> omega) | (simp (disch := (first | assumption | omega | (simp only [alloc_n, set_n] <;> omega))) only [row_alloc, row_set, Keeps.row k]; assumption))) only [Keeps.get k, Keeps.row k, W_block, ANs, A3s, AOp.map, ↓reduceIte, Nat.reduceAdd, Nat.reduceEqDiff, reduceCtorEq, initFr, Nat.reduceLT, clsA, List.take, List.drop, Nat.reduceLeDiff, Nat.reduceMul, Nat.reduceSub, reduceIte, ANc, A3c, hlen, GotV]
        exact hq2 _ _ ⟨_, rfl, by rw [e, hg]; rfl, k⟩
      | some x =>
        rw [hg] at hw
        obtain ⟨rfl, _⟩ := hw
        simp (disch := (first | assumption | omega | (simp only [List.length_cons, List.length_nil] <;> omega) | (simp only [alloc_n, set_n] <;> omega) | (simp (disch := (first | assumption | omega | (simp only [alloc_n, set_n] <;> omega))) only [row_alloc, row_set, Keeps.row k]; assumption))) only [Keeps.get k, Keeps.row k, W_block, ANs, A3s, AOp.map, ↓reduceIte, Nat.reduceAdd, Nat.reduceEqDiff, reduceCtorEq, initFr, Nat.reduceLT, clsA, List.take, List.drop, Nat.reduceLeDiff, Nat.reduceMul, Nat.reduceSub, reduceIte, ANc, A3c, hlen, GotV]
        exact hq2 _ _ ⟨_, rfl, by rw [e, hg]; rfl, k⟩
    by_cases c2 : c = 2
    · subst c2
      simp (disch := (first | assumption | omega | (simp only [List.length_cons, List.length_nil] <;> omega) | (simp only [alloc_n, set_n] <;> omega) | (simp (disch := (first | assumption | omega | (simp only [alloc_n, set_n] <;> omega))) only [row_alloc, row_set]; assumption))) only [f28, W_block, ANs, A3s, AOp.map, ↓reduceIte, Nat.reduceAdd, Nat.reduceEqDiff, reduceCtorEq, initFr, Nat.reduceLT, clsA, List.take, List.drop, Nat.reduceLeDiff, Nat.reduceMul, Nat.reduceSub, reduceIte, ANc, A3c, hlen]
      refine callK (t16 hb hl) ?_
      rintro _ K ⟨k, hw⟩
      have e : kiB b = if (geOu b).isSome then 2 else 0 := by
        simp [kiB, geI6, geSt, geLo, geLi, n1 1 (by omega) (by omega), n1 3 (by omega) (by omega), n1 4 (by omega) (by omega), n1 5 (by omega) (by omega)]
      cases hg : geOu b with
      | none =>
        rw [hg] at hw
        subst hw
        simp (disch := (first | assumption | omega | (simp only [List.length_cons, List.length_nil] <;> omega) | (simp only [alloc_n, set_n] <;> omega) | (simp (disch := (first | assumption | omega | (simp only [alloc_n, set_n] <;> omega))) only [row_alloc, row_set, Keeps.row k]; assumption))) only [Keeps.get k, Keeps.row k, W_block, ANs, A3s, AOp.map, ↓reduceIte, Nat.reduceAdd, Nat.reduceEqDiff, reduceCtorEq, initFr, Nat.reduceLT, clsA, List.take, List.drop, Nat.reduceLeDiff, Nat.reduceMul, Nat.reduceSub, reduceIte, ANc, A3c, hlen, GotV]
        exact hq2 _ _ ⟨_, rfl, by rw [e, hg]; rfl, k⟩
      | some x =>
        rw [hg] at hw
        subst hw
        simp (disch := (first | assumption | omega | (simp only [List.length_cons, List.length_nil] <;> omega) | (simp only [alloc_n, set_n] <;> omega) | (simp (disch := (first | assumption | omega | (simp only [alloc_n, set_n] <;> omega))) only [row_alloc, row_set, Keeps.row k]; assumption))) only [Keeps.get k, Keeps.row k, W_block, ANs, A3s, AOp.map, ↓reduceIte, Nat.reduceAdd, Nat.reduceEqDiff, reduceCtorEq, initFr, Nat.reduceLT, clsA, List.take, List.drop, Nat.reduceLeDiff, Nat.reduceMul, Nat.reduceSub, reduceIte, ANc, A3c, hlen, GotV]
        exact hq2 _ _ ⟨_, rfl, by rw [e, hg]; rfl, k⟩
    by_cases c3 : c = 3
    · subst c3
      simp (disch := (first | assumption | omega | (simp only [List.length_cons, List.length_nil] <;> omega) | (simp only [alloc_n, set_n] <;> omega) | (simp (disch := (first | assumption | omega | (simp only [alloc_n, set_n] <;> omega))) only [row_alloc, row_set]; assumption))) only [f28, W_block, ANs, A3s, AOp.map, ↓reduceIte, Nat.reduceAdd, Nat.reduceEqDiff, reduceCtorEq, initFr, Nat.reduceLT, clsA, List.take, List.drop, Nat.reduceLeDiff, Nat.reduceMul, Nat.reduceSub, reduceIte, ANc, A3c, hlen]
      refine callK (t19 hb hl) ?_
      rintro _ K ⟨k, hw⟩
      have e : kiB b = if (geSt b).isSome then 3 else 0 := by
        simp [kiB, geI6, geOu, geLo, geLi, n1 1 (by omega) (by omega), n1 2 (by omega) (by omega), n1 4 (by omega) (by omega), n1 5 (by omega) (by omega)]
      cases hg : geSt b with
      | none =>
        rw [hg] at hw
        subst hw
        simp (disch := (first | assumption | omega | (simp only [List.length_cons, List.length_nil] <;> omega) | (simp only [alloc_n, set_n] <;> omega) | (simp (disch := (first | assumption | omega | (simp only [alloc_n, set_n] <;> omega))) only [row_alloc, row_set, Keeps.row k]; assumption))) only [Keeps.get k, Keeps.row k, W_block, ANs, A3s, AOp.map, ↓reduceIte, Nat.reduceAdd, Nat.reduceEqDiff, reduceCtorEq, initFr, Nat.reduceLT, clsA, List.take, List.drop, Nat.reduceLeDiff, Nat.reduceMul, Nat.reduceSub, reduceIte, ANc, A3c, hlen, GotV]
        exact hq2 _ _ ⟨_, rfl, by rw [e, hg]; rfl, k⟩
      | some x =>
        rw [hg] at hw
        subst hw
        simp (disch := (first | assumption | omega | (simp only [List.length_cons, List.length_nil] <;> omega) | (simp only [alloc_n, set_n] <;> omega) | (simp (disch := (first | assumption | omega | (simp only [alloc_n, set_n] <;> omega))) only [row_alloc, row_set, Keeps.row k]; assumption))) only [Keeps.get k, Keeps.row k, W_block, ANs, A3s, AOp.map, ↓reduceIte, Nat.reduceAdd, Nat.reduceEqDiff, reduceCtorEq, initFr, Nat.reduceLT, clsA, List.take, List.drop, Nat.reduceLeDiff, Nat.reduceMul, Nat.reduceSub, reduceIte, ANc, A3c, hlen, GotV]
        exact hq2 _ _ ⟨_, rfl, by rw [e, hg]; rfl, k⟩
    by_cases c4 : c = 4
    · subst c4
      simp (disch := (first | assumption | omega | (simp only [List.length_cons, List.length_nil] <;> omega) | (simp only [alloc_n, set_n] <;> omega) | (simp (disch := (first | assumption | omega | (simp only [alloc_n, set_n] <;> omega))) only [row_alloc, row_set]; assumption))) only [f28, W_block, ANs, A3s, AOp.map, ↓reduceIte, Nat.reduceAdd, Nat.reduceEqDiff, reduceCtorEq, initFr, Nat.reduceLT, clsA, List.take, List.drop, Nat.reduceLeDiff, Nat.reduceMul, Nat.reduceSub, reduceIte, ANc, A3c, hlen]
      refine callK (t21 hb hl) ?_
      rintro _ K ⟨k, hw⟩
      have e : kiB b = if (geLo b).isSome then 4 else 0 := by
        simp [kiB, geI6, geOu, geSt, geLi, n1 1 (by omega) (by omega), n1 2 (by omega) (by omega), n1 3 (by omega) (by omega), n1 5 (by omega) (by omega)]
      cases hg : geLo b with
      | none =>
        rw [hg] at hw
        subst hw
        simp (disch := (first | assumption | omega | (simp only [List.length_cons, List.length_nil] <;> omega) | (simp only [alloc_n, set_n] <;> omega) | (simp (disch := (first | assumption | omega | (simp only [alloc_n, set_n] <;> omega))) only [row_alloc, row_set, Keeps.row k]; assumption))) only [Keeps.get k, Keeps.row k, W_block, ANs, A3s, AOp.map, ↓reduceIte, Nat.reduceAdd, Nat.reduceEqDiff, reduceCtorEq, initFr, Nat.reduceLT, clsA, List.take, List.drop, Nat.reduceLeDiff, Nat.reduceMul, Nat.reduceSub, reduceIte, ANc, A3c, hlen, GotV]
        exact hq2 _ _ ⟨_, rfl, by rw [e, hg]; rfl, k⟩
      | some x =>
        rw [hg] at hw
        subst hw
        simp (disch := (first | assumption | omega | (simp only [List.length_cons, List.length_nil] <;> omega) | (simp only [alloc_n, set_n] <;> omega) | (simp (disch := (first | assumption | omega | (simp only [alloc_n, set_n] <;> omega))) only [row_alloc, row_set, Keeps.row k]; assumption))) only [Keeps.get k, Keeps.row k, W_block, ANs, A3s, AOp.map, ↓reduceIte, Nat.reduceAdd, Nat.reduceEqDiff, reduceCtorEq, initFr, Nat.reduceLT, clsA, List.take, List.drop, Nat.reduceLeDiff, Nat.reduceMul, Nat.reduceSub, reduceIte, ANc, A3c, hlen, GotV]
        exact hq2 _ _ ⟨_, rfl, by rw [e, hg]; rfl, k⟩
    by_cases c5 : c = 5
    · subst c5
      simp (disch := (first | assumption | omega | (simp only [List.length_cons, List.length_nil] <;> omega) | (simp only [alloc_n, set_n] <;> omega) | (simp (disch := (first | assumption | omega | (simp only [alloc_n, set_n] <;> omega))) only [row_alloc, row_set]; assumption))) only [f28, W_block, ANs, A3s, AOp.map, ↓reduceIte, Nat.reduceAdd, Nat.reduceEqDiff, reduceCtorEq, initFr, Nat.reduceLT, clsA, List.take, List.drop, Nat.reduceLeDiff, Nat.reduceMul, Nat.reduceSub, reduceIte, ANc, A3c, hlen]
      refine callK (t24 hb hl) ?_
      rintro _ K ⟨k, vb, fv, hw⟩
      have e : kiB b = if (geLi b).isSome then 5 else 0 := by
        simp [kiB, geI6, geOu, geSt, geLo, n1 1 (by omega) (by omega), n1 2 (by omega) (by omega), n1 3 (by omega) (by omega), n1 4 (by omega) (by omega)]
      cases hg : geLi b with
      | none =>
        rw [hg] at hw
        subst hw
        simp (disch := (first | assumption | omega | (simp only [List.length_cons, List.length_nil] <;> omega) | (simp only [alloc_n, set_n] <;> omega) | (simp (disch := (first | assumption | omega | (simp only [alloc_n, set_n] <;> omega))) only [row_alloc, row_set, Keeps.row k]; assumption))) only [Keeps.get k, Keeps.row k, W_block, ANs, A3s, AOp.map, ↓reduceIte, Nat.reduceAdd, Nat.reduceEqDiff, reduceCtorEq, initFr, Nat.reduceLT, clsA, List.take, List.drop, Nat.reduceLeDiff, Nat.reduceMul, Nat.reduceSub, reduceIte, ANc, A3c, hlen, GotV]
        exact hq2 _ _ ⟨_, rfl, by rw [e, hg]; rfl, k⟩
      | some x =>
        rw [hg] at hw
        obtain ⟨rfl, _⟩ := hw
        simp (disch := (first | assumption | omega | (simp only [List.length_cons, List.length_nil] <;> omega) | (simp only [alloc_n, set_n] <;> omega) | (simp (disch := (first | assumption | omega | (simp only [alloc_n, set_n] <;> omega))) only [row_alloc, row_set, Keeps.row k]; assumption))) only [Keeps.get k, Keeps.row k, W_block, ANs, A3s, AOp.map, ↓reduceIte, Nat.reduceAdd, Nat.reduceEqDiff, reduceCtorEq, initFr, Nat.reduceLT, clsA, List.take, List.drop, Nat.reduceLeDiff, Nat.reduceMul, Nat.reduceSub, reduceIte, ANc, A3c, hlen, GotV]
        exact hq2 _ _ ⟨_, rfl, by rw [e, hg]; rfl, k⟩
    · have e : kiB b = 0 := by
        simp [kiB, geI6, geOu, geSt, geLo, geLi, n1 1 (by omega) (by omega), n1 2 (by omega) (by omega), n1 3 (by omega) (by omega), n1 4 (by omega) (by omega), n1 5 (by omega) (by omega)]
      simp (disch := (first | assumption | omega | (simp only [List.length_cons, List.length_nil] <;> omega) | (simp only [alloc_n, set_n] <;> omega) | (simp (disch := (first | assumption | omega | (simp only [alloc_n, set_n] <;> omega))) only [row_alloc, row_set]; assumption))) only [f28, W_block, ANs, A3s, AOp.map, ↓reduceIte, Nat.reduceAdd, Nat.reduceEqDiff, reduceCtorEq, initFr, Nat.reduceLT, clsA, List.take, List.drop, Nat.reduceLeDiff, Nat.reduceMul, Nat.reduceSub, reduceIte, ANc, A3c, hlen]
      exact hq2 _ _ ⟨_, rfl, by rw [e]; rfl, Keeps.refl _⟩
end Go.AM.Fd

set_option linter.unusedSimpArgs false
set_option linter.unusedVariables false
namespace Go.AM.Fd
open Go.Proofs Go.AM.F
theorem t90 (n : Int) (H : AHeap) : ∃ v H', ARun Go.Proofs.Try.prog 0 90 [.int .i64 n] H v H' ∧ v = .bool (cyB n) ∧ H' = H := by
  refine walk2 f90_ok f90_n ?_
  intro Q hq1 hq2
  by_cases h : 0 ≤ n
  · have e1 : decide (0 ≤ n) = true := by simp [h]
    simp (disch := (first | assumption | omega | (simp only [List.length_cons, List.length_nil] <;> omega) | (simp only [alloc_n, set_n] <;> omega) | (simp (disch := (first | assumption | omega | (simp only [alloc_n, set_n] <;> omega))) only [row_alloc, row_set]; assumption))) only [f90, W_block, ANs, A3s, AOp.map, ↓reduceIte, Nat.reduceAdd, Nat.reduceEqDiff, reduceCtorEq, initFr, Nat.reduceLT, clsA, List.take, List.drop, Nat.reduceLeDiff, Nat.reduceMul, Nat.reduceSub, reduceIte, ANc, A3c, e1]
    exact hq2 _ _ ⟨_, rfl, by unfold cyB; rw [e1, Bool.true_and]; rfl, rfl⟩
  · have e1 : decide (0 ≤ n) = false := by simp [h]
    simp (disch := (first | assumption | omega | (simp only [List.length_cons, List.length_nil] <;> omega) | (simp only [alloc_n, set_n] <;> omega) | (simp (disch := (first | assumption | omega | (simp only [alloc_n, set_n] <;> omega))) only [row_alloc, row_set]; assumption))) only [f90, W_block, ANs, A3s, AOp.map, ↓reduceIte, Nat.reduceAdd, Nat.reduceEqDiff, reduceCtorEq, initFr, Nat.reduceLT, clsA, List.take, List.drop, Nat.reduceLeDiff, Nat.reduceMul, Nat.reduceSub, reduceIte, ANc, A3c, e1]
    exact hq2 _ _ ⟨_, rfl, by unfold cyB; rw [e1, Bool.false_and]; rfl, rfl⟩
theorem t91 (n w : Nat) (hw : w ≤ 8) (H : AHeap) : ∃ v H', ARun Go.Proofs.Try.prog 0 91 [.int .u64 n, .int .i64 w] H v H' ∧ OB 5 H H' v (be w n) := by
  refine walk2 f91_ok f91_n ?_
  intro Q hq1 hq2
  simp (disch := (first | assumption | omega | (simp only [List.length_cons, List.length_nil] <;> omega) | (simp only [alloc_n, set_n] <;> omega) | (simp (disch := (first | assumption | omega | (simp only [alloc_n, set_n] <;> omega))) only [row_alloc, row_set]; assumption))) only [f91, W_block, ANs, A3s, AOp.map, ↓reduceIte, Nat.reduceAdd, Nat.reduceEqDiff, reduceCtorEq, initFr, Nat.reduceLT, clsA, List.take, List.drop, Nat.reduceLeDiff, Nat.reduceMul, Nat.reduceSub, reduceIte, ANc, A3c]
  refine callK (t106 n w hw H) ?_
  rintro v K ⟨a, k, f⟩
  simp (disch := (first | assumption | omega | (simp only [List.length_cons, List.length_nil] <;> omega) | (simp only [alloc_n, set_n] <;> omega) | (simp (disch := (first | assumption | omega | (simp only [alloc_n, set_n] <;> omega))) only [row_alloc, row_set]; assumption))) only [W_block, ANs, A3s, AOp.map, ↓reduceIte, Nat.reduceAdd, Nat.reduceEqDiff, reduceCtorEq, initFr, Nat.reduceLT, clsA, List.take, List.drop, Nat.reduceLeDiff, Nat.reduceMul, Nat.reduceSub, reduceIte, ANc, A3c]
  exact hq2 _ _ ⟨_, rfl, ⟨by rw [be_length]; exact a, k, f⟩⟩
theorem t92 {H K : AHeap} {v : Value} {l : List UInt8} (h : OB 5 H K v l) (hl : l.length ≤ 100000000) : ∃ w K', ARun Go.Proofs.Try.prog 0 92 [v] K w K' ∧ OB 5 H K' w (chk l) := by
  refine walk2 f92_ok f92_n ?_
  intro Q hq1 hq2
  simp (disch := (first | assumption | omega | (simp only [List.length_cons, List.length_nil] <;> omega) | (simp only [alloc_n, set_n] <;> omega) | (simp (disch := (first | assumption | omega | (simp only [alloc_n, set_n] <;> omega))) only [row_alloc, row_set]; assumption))) only [f92, W_block, ANs, A3s, AOp.map, ↓reduceIte, Nat.reduceAdd, Nat.reduceEqDiff, reduceCtorEq, initFr, Nat.reduceLT, clsA, List.take, List.drop, Nat.reduceLeDiff, Nat.reduceMul, Nat.reduceSub, reduceIte, ANc, A3c]
  refine callK (t107 h.bs (by omega)) ?_
  rintro _ K1 ⟨rfl, k1⟩
  have hc := crc_lt l
  have hw : IntKind.u64.wrap (crc l : Nat) = (crc l : Nat) := by rw [wrap_u64]; omega
  simp (disch := (first | assumption | omega | (simp only [List.length_cons, List.length_nil] <;> omega) | (simp only [alloc_n, set_n] <;> omega) | (simp (disch := (first | assumption | omega | (simp only [alloc_n, set_n] <;> omega))) only [row_alloc, row_set]; assumption))) only [W_block, ANs, A3s, AOp.map, ↓reduceIte, Nat.reduceAdd, Nat.reduceEqDiff, reduceCtorEq, initFr, Nat.reduceLT, clsA, List.take, List.drop, Nat.reduceLeDiff, Nat.reduceMul, Nat.reduceSub, reduceIte, ANc, A3c, hw]
  refine callK (t91 (crc l) 4 (by omega) K1) ?_
  rintro v2 K2 o2
  simp (disch := (first | assumption | omega | (simp only [List.length_cons, List.length_nil] <;> omega) | (simp only [alloc_n, set_n] <;> omega) | (simp (disch := (first | assumption | omega | (simp only [alloc_n, set_n] <;> omega))) only [row_alloc, row_set]; assumption))) only [W_block, ANs, A3s, AOp.map, ↓reduceIte, Nat.reduceAdd, Nat.reduceEqDiff, reduceCtorEq, initFr, Nat.reduceLT, clsA, List.take, List.drop, Nat.reduceLeDiff, Nat.reduceMul, Nat.reduceSub, reduceIte, ANc, A3c]
  refine (h.keeps (k1.trans o2.k)).appR o2.bs (by rw [be_length]; omega) ?_
  intro v3 K3 o3
  simp (disch := (first | assumption | omega | (simp only [List.length_cons, List.length_nil] <;> omega) | (simp only [alloc_n, set_n] <;> omega) | (simp (disch := (first | assumption | omega | (simp only [alloc_n, set_n] <;> omega))) only [row_alloc, row_set]; assumption))) only [W_block, ANs, A3s, AOp.map, ↓reduceIte, Nat.reduceAdd, Nat.reduceEqDiff, reduceCtorEq, initFr, Nat.reduceLT, clsA, List.take, List.drop, Nat.reduceLeDiff, Nat.reduceMul, Nat.reduceSub, reduceIte, ANc, A3c]
  exact hq2 _ _ ⟨_, rfl, o3⟩
end Go.AM.Fd

set_option linter.unusedSimpArgs false
set_option linter.unusedVariables false
namespace Go.AM.Fd
open Go.Proofs Go.AM.F
theorem fillu1 (a : Int) : fillA [.int .u8 0] [(0, 1, .int .u8 a)] = some [.int .u8 a] := rfl
theorem fillu2 (a b : Int) : fillA [.int .u8 0, .int .u8 0] [(0, 1, .int .u8 a), (1, 1, .int .u8 b)] = some [.int .u8 a, .int .u8 b] := rfl
theorem fillu3 (a b c : Int) : fillA [.int .u8 0, .int .u8 0, .int .u8 0] [(0, 1, .int .u8 a), (1, 1, .int .u8 b), (2, 1, .int .u8 c)] = some [.int .u8 a, .int .u8 b, .int .u8 c] := rfl
theorem cy_nat {n : Int} (h : cyB n = true) : IntKind.u64.wrap n = ((n.toNat : Nat) : Int) := by
  have := cyB_iff.1 h
  rw [wrap_u64]; omega
theorem sq_nat {n : Int} (h : sqB n = true) : IntKind.u64.wrap n = ((n.toNat : Nat) : Int) := by
  have := sqB_iff.1 h
  rw [wrap_u64]; omega
theorem u64w {n : Nat} (h : n < 18446744073709551616) : IntKind.u64.wrap (n : Int) = (n : Int) := by rw [wrap_u64]; omega
theorem cOuG (x : Ou) : (cOu x)[0]? = some (.int .u8 (x.ch : Nat)) ∧ (cOu x)[1]? = some (.int .i64 x.cy) ∧ (cOu x)[2]? = some (.int .i64 x.ep) ∧ (cOu x)[3]? = some (.int .u64 (x.pr : Nat)) ∧ (cOu x)[4]? = some (.int .u32 (x.pt : Nat)) := ⟨rfl, rfl, rfl, rfl, rfl⟩
theorem cStG {x : St} (h : x.t.length = 64) : (cSt x)[0]? = some (.int .u64 (x.a : Nat)) ∧ (cSt x)[1]? = some (.int .u64 (x.b : Nat)) ∧ (cSt x)[2]? = some (.int .u64 (x.c : Nat)) ∧ (cSt x)[67]? = some (.int .u32 (x.p : Nat)) := ⟨rfl, rfl, rfl, cSt_67 h⟩
theorem cStT {x : St} (h : x.t.length = 64) {i : Nat} (hi : i < 64) : (cSt x)[3 + i]? = some (.int .u8 ((x.t[i]'(by omega)).toNat : Nat)) := by
  have e := cSt_t h
  have : ((cSt x).drop 3)[i]? = some (.int .u8 ((x.t[i]'(by omega)).toNat : Nat)) := by
    have h2 : (((cSt x).drop 3).take 64)[i]? = (cellsOf x.t)[i]? := by rw [e]
    rw [List.getElem?_take_of_lt hi] at h2
    rw [h2, cells_get (by omega)]
  rwa [List.getElem?_drop] at this
theorem cLoG {x : Lo} (h : x.s.t.length = 64) : (cLo x)[0]? = some (.int .i64 x.e) ∧ (cLo x)[1]? = some (.int .i64 x.c) := ⟨rfl, rfl⟩
def strB (l : List UInt8) : Value := .string ⟨l.toArray⟩
theorem a_lenB (l : List UInt8) (H : AHeap) : asem (.len true (strB l)) H = some (.int .i64 (l.length : Nat), H) := by
  have : (⟨l.toArray⟩ : ByteArray).size = l.length := by simp [ByteArray.size]
  show some (Value.int .i64 ((⟨l.toArray⟩ : ByteArray).size : Nat), H) = _
  rw [this]
theorem cLiG (v : Value) (x : Li) : (cLi v x)[0]? = some (.int .u8 (x.f : Nat)) ∧ (cLi v x)[1]? = some (.int .u8 (x.t : Nat)) ∧ (cLi v x)[2]? = some (.int .i64 x.q) ∧ (cLi v x)[3]? = some (.int .i64 x.k) ∧ (cLi v x)[4]? = some v := ⟨rfl, rfl, rfl, rfl, rfl⟩
theorem cI6G (v : Value) (x : I6) : (cI6 v x)[0]? = some (.int .u8 (x.ch : Nat)) ∧ (cI6 v x)[1]? = some (.int .i64 x.cy) ∧ (cI6 v x)[2]? = some (.int .u64 (x.oc : Nat)) ∧ (cI6 v x)[3]? = some (.int .u32 (x.no : Nat)) ∧ (cI6 v x)[4]? = some (.int .u32 (x.re : Nat)) ∧ (cI6 v x)[5]? = some v := ⟨rfl, rfl, rfl, rfl, rfl, rfl⟩
theorem t49 (x : Ou) (hx : rgOu x) (H : AHeap) : ∃ v H', ARun Go.Proofs.Try.prog 0 49 [.agg (cOu x).toArray] H v H' ∧ OB 5 H H' v (fOu x) := by
  refine walk2 f49_ok f49_n ?_
  intro Q hq1 hq2
  have lx : (cOu x).length = 5 := rfl
  have ox : (cOu x).all Value.oneCell' = true := rfl
  have kH := (Keeps.refl H).alloc (.cells true false 5 (cOu x) 45)
  have ch := hx.1
  have hpr := hx.2
  have hpt := hx.3
  simp (disch := (first | assumption | omega | (simp only [List.length_cons, List.length_nil] <;> omega) | (simp only [alloc_n, set_n] <;> omega) | (simp (disch := (first | assumption | omega | (simp only [alloc_n, set_n] <;> omega))) only [row_alloc, row_set]; assumption))) only [f49, W_block, ANs, A3s, AOp.map, ↓reduceIte, Nat.reduceAdd, Nat.reduceEqDiff, reduceCtorEq, initFr, Nat.reduceLT, clsA, List.take, List.drop, Nat.reduceLeDiff, Nat.reduceMul, Nat.reduceSub, reduceIte, ANc, A3c, ox, (cOuG x).2.1]
  refine callK (t90 _ _) ?_
  rintro _ _ ⟨rfl, rfl⟩
  cases h1 : cyB x.cy with
  | false =>
    simp (disch := (first | assumption | omega | (simp only [List.length_cons, List.length_nil] <;> omega) | (simp only [alloc_n, set_n] <;> omega) | (simp (disch := (first | assumption | omega | (simp only [alloc_n, set_n] <;> omega))) only [row_alloc, row_set]; assumption))) only [W_block, ANs, A3s, AOp.map, ↓reduceIte, Nat.reduceAdd, Nat.reduceEqDiff, reduceCtorEq, initFr, Nat.reduceLT, clsA, List.take, List.drop, Nat.reduceLeDiff, Nat.reduceMul, Nat.reduceSub, reduceIte, ANc, A3c]
    refine hq2 _ _ ⟨_, rfl, ?_⟩
    have e : fOu x = [] := by unfold fOu okOu; rw [h1]; rfl
    rw [e]
    exact (OB.nil _ _).base kH
  | true =>
    simp (disch := (first | assumption | omega | (simp only [List.length_cons, List.length_nil] <;> omega) | (simp only [alloc_n, set_n] <;> omega) | (simp (disch := (first | assumption | omega | (simp only [alloc_n, set_n] <;> omega))) only [row_alloc, row_set]; assumption))) only [W_block, ANs, A3s, AOp.map, ↓reduceIte, Nat.reduceAdd, Nat.reduceEqDiff, reduceCtorEq, initFr, Nat.reduceLT, clsA, List.take, List.drop, Nat.reduceLeDiff, Nat.reduceMul, Nat.reduceSub, reduceIte, ANc, A3c, (cOuG x).2.2.1]
    refine callK (t90 _ _) ?_
    rintro _ _ ⟨rfl, rfl⟩
    cases h2 : cyB x.ep with
    | false =>
      simp (disch := (first | assumption | omega | (simp only [List.length_cons, List.length_nil] <;> omega) | (simp only [alloc_n, set_n] <;> omega) | (simp (disch := (first | assumption | omega | (simp only [alloc_n, set_n] <;> omega))) only [row_alloc, row_set]; assumption))) only [W_block, ANs, A3s, AOp.map, ↓reduceIte, Nat.reduceAdd, Nat.reduceEqDiff, reduceCtorEq, initFr, Nat.reduceLT, clsA, List.take, List.drop, Nat.reduceLeDiff, Nat.reduceMul, Nat.reduceSub, reduceIte, ANc, A3c]
      refine hq2 _ _ ⟨_, rfl, ?_⟩
      have e : fOu x = [] := by unfold fOu okOu; rw [h1, h2]; rfl
      rw [e]
      exact (OB.nil _ _).base kH
    | true =>
      obtain ⟨H1, hH1⟩ : ∃ X, X = H.alloc (.cells true false 5 (cOu x) 45) := ⟨_, rfl⟩
      have gx : H1.get H.n = some (.cells true false 5 (cOu x) 45) := by rw [hH1]; exact AHeap.get_alloc_new _ _
      have px := AHeap.get_lt gx
      rw [← hH1] at kH ⊢
      simp (disch := (first | assumption | omega | (simp only [List.length_cons, List.length_nil] <;> omega) | (simp only [alloc_n, set_n] <;> omega) | (simp (disch := (first | assumption | omega | (simp only [alloc_n, set_n] <;> omega))) only [row_alloc, row_set]; assumption))) only [W_block, ANs, A3s, AOp.map, ↓reduceIte, Nat.reduceAdd, Nat.reduceEqDiff, reduceCtorEq, initFr, Nat.reduceLT, clsA, List.take, List.drop, Nat.reduceLeDiff, Nat.reduceMul, Nat.reduceSub, reduceIte, ANc, A3c, gx, (cOuG x).1, (cOuG x).2.1, (cOuG x).2.2.1, (cOuG x).2.2.2.1, (cOuG x).2.2.2.2, fillu2]
      obtain ⟨K1, hK1⟩ : ∃ X, X = H1.alloc (.cells true false 1 [.int .u8 2, .int .u8 (x.ch : Nat)] 5) := ⟨_, rfl⟩
      have o1 : OB 5 H1 K1 (slc (H1.n) 0 2 2) [UInt8.ofNat 2, UInt8.ofNat x.ch] := by rw [hK1]; exact OB.lit (Keeps.refl H1) (cells2 (show 2 < 256 by omega) ch) rfl rfl false
      rw [← hK1]
      have k1 := o1.k
      simp (disch := (first | assumption | omega | (simp only [List.length_cons, List.length_nil] <;> omega) | (simp only [alloc_n, set_n] <;> omega) | (simp (disch := (first | assumption | omega | (simp only [alloc_n, set_n] <;> omega))) only [row_alloc, row_set, Keeps.row k1]; assumption))) only [Keeps.get k1, Keeps.row k1, W_block, ANs, A3s, AOp.map, ↓reduceIte, Nat.reduceAdd, Nat.reduceEqDiff, reduceCtorEq, initFr, Nat.reduceLT, clsA, List.take, List.drop, Nat.reduceLeDiff, Nat.reduceMul, Nat.reduceSub, reduceIte, ANc, A3c, gx, (cOuG x).1, (cOuG x).2.1, (cOuG x).2.2.1, (cOuG x).2.2.2.1, (cOuG x).2.2.2.2, cy_nat h1]
      refine callK (t91 (x.cy.toNat) 8 (by omega) _) ?_
      rintro w1 L1 p1
      simp (disch := (first | assumption | omega | (simp only [List.length_cons, List.length_nil] <;> omega) | (simp only [alloc_n, set_n] <;> omega) | (simp (disch := (first | assumption | omega | (simp only [alloc_n, set_n] <;> omega))) only [row_alloc, row_set, Keeps.row k1]; assumption))) only [Keeps.get k1, Keeps.row k1, W_block, ANs, A3s, AOp.map, ↓reduceIte, Nat.reduceAdd, Nat.reduceEqDiff, reduceCtorEq, initFr, Nat.reduceLT, clsA, List.take, List.drop, Nat.reduceLeDiff, Nat.reduceMul, Nat.reduceSub, reduceIte, ANc, A3c, gx, (cOuG x).1, (cOuG x).2.1, (cOuG x).2.2.1, (cOuG x).2.2.2.1, (cOuG x).2.2.2.2]
      refine (o1.keeps p1.k).appR p1.bs (by simp only [List.length_append, be_length, List.length_cons, List.length_nil]; omega) ?_
      intro v2 K2 o2
      have k2 := o2.k
      simp (disch := (first | assumption | omega | (simp only [List.length_cons, List.length_nil] <;> omega) | (simp only [alloc_n, set_n] <;> omega) | (simp (disch := (first | assumption | omega | (simp only [alloc_n, set_n] <;> omega))) only [row_alloc, row_set, Keeps.row k2]; assumption))) only [Keeps.get k2, Keeps.row k2, W_block, ANs, A3s, AOp.map, ↓reduceIte, Nat.reduceAdd, Nat.reduceEqDiff, reduceCtorEq, initFr, Nat.reduceLT, clsA, List.take, List.drop, Nat.reduceLeDiff, Nat.reduceMul, Nat.reduceSub, reduceIte, ANc, A3c, gx, (cOuG x).1, (cOuG x).2.1, (cOuG x).2.2.1, (cOuG x).2.2.2.1, (cOuG x).2.2.2.2, cy_nat h2]
      refine callK (t91 (x.ep.toNat) 8 (by omega) _) ?_
      rintro w2 L2 p2
      simp (disch := (first | assumption | omega | (simp only [List.length_cons, List.length_nil] <;> omega) | (simp only [alloc_n, set_n] <;> omega) | (simp (disch := (first | assumption | omega | (simp only [alloc_n, set_n] <;> omega))) only [row_alloc, row_set, Keeps.row k2]; assumption))) only [Keeps.get k2, Keeps.row k2, W_block, ANs, A3s, AOp.map, ↓reduceIte, Nat.reduceAdd, Nat.reduceEqDiff, reduceCtorEq, initFr, Nat.reduceLT, clsA, List.take, List.drop, Nat.reduceLeDiff, Nat.reduceMul, Nat.reduceSub, reduceIte, ANc, A3c, gx, (cOuG x).1, (cOuG x).2.1, (cOuG x).2.2.1, (cOuG x).2.2.2.1, (cOuG x).2.2.2.2]
      refine (o2.keeps p2.k).appR p2.bs (by simp only [List.length_append, be_length, List.length_cons, List.length_nil]; omega) ?_
      intro v3 K3 o3
      have k3 := o3.k
      simp (disch := (first | assumption | omega | (simp only [List.length_cons, List.length_nil] <;> omega) | (simp only [alloc_n, set_n] <;> omega) | (simp (disch := (first | assumption | omega | (simp only [alloc_n, set_n] <;> omega))) only [row_alloc, row_set, Keeps.row k3]; assumption))) only [Keeps.get k3, Keeps.row k3, W_block, ANs, A3s, AOp.map, ↓reduceIte, Nat.reduceAdd, Nat.reduceEqDiff, reduceCtorEq, initFr, Nat.reduceLT, clsA, List.take, List.drop, Nat.reduceLeDiff, Nat.reduceMul, Nat.reduceSub, reduceIte, ANc, A3c, gx, (cOuG x).1, (cOuG x).2.1, (cOuG x).2.2.1, (cOuG x).2.2.2.1, (cOuG x).2.2.2.2]
      refine callK (t91 (x.pr) 8 (by omega) _) ?_
      rintro w3 L3 p3
      simp (disch := (first | assumption | omega | (simp only [List.length_cons, List.length_nil] <;> omega) | (simp only [alloc_n, set_n] <;> omega) | (simp (disch := (first | assumption | omega | (simp only [alloc_n, set_n] <;> omega))) only [row_alloc, row_set, Keeps.row k3]; assumption))) only [Keeps.get k3, Keeps.row k3, W_block, ANs, A3s, AOp.map, ↓reduceIte, Nat.reduceAdd, Nat.reduceEqDiff, reduceCtorEq, initFr, Nat.reduceLT, clsA, List.take, List.drop, Nat.reduceLeDiff, Nat.reduceMul, Nat.reduceSub, reduceIte, ANc, A3c, gx, (cOuG x).1, (cOuG x).2.1, (cOuG x).2.2.1, (cOuG x).2.2.2.1, (cOuG x).2.2.2.2]
      refine (o3.keeps p3.k).appR p3.bs (by simp only [List.length_append, be_length, List.length_cons, List.length_nil]; omega) ?_
      intro v4 K4 o4
      have k4 := o4.k
      simp (disch := (first | assumption | omega | (simp only [List.length_cons, List.length_nil] <;> omega) | (simp only [alloc_n, set_n] <;> omega) | (simp (disch := (first | assumption | omega | (simp only [alloc_n, set_n] <;> omega))) only [row_alloc, row_set, Keeps.row k4]; assumption))) only [Keeps.get k4, Keeps.row k4, W_block, ANs, A3s, AOp.map, ↓reduceIte, Nat.reduceAdd, Nat.reduceEqDiff, reduceCtorEq, initFr, Nat.reduceLT, clsA, List.take, List.drop, Nat.reduceLeDiff, Nat.reduceMul, Nat.reduceSub, reduceIte, ANc, A3c, gx, (cOuG x).1, (cOuG x).2.1, (cOuG x).2.2.1, (cOuG x).2.2.2.1, (cOuG x).2.2.2.2, u64w (show x.pt < 18446744073709551616 by omega)]
      refine callK (t91 (x.pt) 4 (by omega) _) ?_
      rintro w4 L4 p4
      simp (disch := (first | assumption | omega | (simp only [List.length_cons, List.length_nil] <;> omega) | (simp only [alloc_n, set_n] <;> omega) | (simp (disch := (first | assumption | omega | (simp only [alloc_n, set_n] <;> omega))) only [row_alloc, row_set, Keeps.row k4]; assumption))) only [Keeps.get k4, Keeps.row k4, W_block, ANs, A3s, AOp.map, ↓reduceIte, Nat.reduceAdd, Nat.reduceEqDiff, reduceCtorEq, initFr, Nat.reduceLT, clsA, List.take, List.drop, Nat.reduceLeDiff, Nat.reduceMul, Nat.reduceSub, reduceIte, ANc, A3c, gx, (cOuG x).1, (cOuG x).2.1, (cOuG x).2.2.1, (cOuG x).2.2.2.1, (cOuG x).2.2.2.2]
      refine (o4.keeps p4.k).appR p4.bs (by simp only [List.length_append, be_length, List.length_cons, List.length_nil]; omega) ?_
      intro v5 K5 o5
      have k5 := o5.k
      simp (disch := (first | assumption | omega | (simp only [List.length_cons, List.length_nil] <;> omega) | (simp only [alloc_n, set_n] <;> omega) | (simp (disch := (first | assumption | omega | (simp only [alloc_n, set_n] <;> omega))) only [row_alloc, row_set, Keeps.row k5]; assumption))) only [Keeps.get k5, Keeps.row k5, W_block, ANs, A3s, AOp.map, ↓reduceIte, Nat.reduceAdd, Nat.reduceEqDiff, reduceCtorEq, initFr, Nat.reduceLT, clsA, List.take, List.drop, Nat.reduceLeDiff, Nat.reduceMul, Nat.reduceSub, reduceIte, ANc, A3c, gx, (cOuG x).1, (cOuG x).2.1, (cOuG x).2.2.1, (cOuG x).2.2.2.1, (cOuG x).2.2.2.2]
      refine callK (t92 o5 (by simp only [List.length_append, be_length, List.length_cons, List.length_nil]; omega)) ?_
      rintro v9 K9 o9
      simp (disch := (first | assumption | omega | (simp only [List.length_cons, List.length_nil] <;> omega) | (simp only [alloc_n, set_n] <;> omega) | (simp (disch := (first | assumption | omega | (simp only [alloc_n, set_n] <;> omega))) only [row_alloc, row_set, Keeps.row k5]; assumption))) only [Keeps.get k5, Keeps.row k5, W_block, ANs, A3s, AOp.map, ↓reduceIte, Nat.reduceAdd, Nat.reduceEqDiff, reduceCtorEq, initFr, Nat.reduceLT, clsA, List.take, List.drop, Nat.reduceLeDiff, Nat.reduceMul, Nat.reduceSub, reduceIte, ANc, A3c, gx, (cOuG x).1, (cOuG x).2.1, (cOuG x).2.2.1, (cOuG x).2.2.2.1, (cOuG x).2.2.2.2]
      refine hq2 _ _ ⟨_, rfl, ?_⟩
      have e : fOu x = chk ([UInt8.ofNat 2, UInt8.ofNat x.ch] ++ be 8 x.cy.toNat ++ be 8 x.ep.toNat ++ be 8 x.pr ++ be 4 x.pt) := by
        unfold fOu
        rw [if_pos (by unfold okOu; rw [h1, h2]; rfl)]
        unfold enOu
        simp only [be1, List.append_assoc, List.cons_append, List.nil_append]
        rfl
      rw [e]
      exact o9.base kH
theorem t93 (x : St) (hx : rgSt x) (H : AHeap) : ∃ v H', ARun Go.Proofs.Try.prog 0 93 [.agg (cSt x).toArray] H v H' ∧ OB 5 H H' v (enSt x) := by
  refine walk2 f93_ok f93_n ?_
  intro Q hq1 hq2
  have lx := cSt_len hx.1
  have ox := cSt_one x
  have kH := (Keeps.refl H).alloc (.cells true false 68 (cSt x) 51)
  have ht := hx.1
  have ha := hx.2
  have hb := hx.3
  have hc := hx.4
  have hp := hx.5
  simp (disch := (first | assumption | omega | (simp only [List.length_cons, List.length_nil] <;> omega) | (simp only [alloc_n, set_n] <;> omega) | (simp (disch := (first | assumption | omega | (simp only [alloc_n, set_n] <;> omega))) only [row_alloc, row_set]; assumption))) only [f93, W_block, ANs, A3s, AOp.map, ↓reduceIte, Nat.reduceAdd, Nat.reduceEqDiff, reduceCtorEq, initFr, Nat.reduceLT, clsA, List.take, List.drop, Nat.reduceLeDiff, Nat.reduceMul, Nat.reduceSub, reduceIte, ANc, A3c, ox]
  obtain ⟨H1, hH1⟩ : ∃ X, X = H.alloc (.cells true false 68 (cSt x) 51) := ⟨_, rfl⟩
  have gx : H1.get H.n = some (.cells true false 68 (cSt x) 51) := by rw [hH1]; exact AHeap.get_alloc_new _ _
  have px := AHeap.get_lt gx
  rw [← hH1] at kH ⊢
  simp (disch := (first | assumption | omega | (simp only [List.length_cons, List.length_nil] <;> omega) | (simp only [alloc_n, set_n] <;> omega) | (simp (disch := (first | assumption | omega | (simp only [alloc_n, set_n] <;> omega))) only [row_alloc, row_set]; assumption))) only [W_block, ANs, A3s, AOp.map, ↓reduceIte, Nat.reduceAdd, Nat.reduceEqDiff, reduceCtorEq, initFr, Nat.reduceLT, clsA, List.take, List.drop, Nat.reduceLeDiff, Nat.reduceMul, Nat.reduceSub, reduceIte, ANc, A3c, gx, (cStG hx.1).1, (cStG hx.1).2.1, (cStG hx.1).2.2.1, (cStG hx.1).2.2.2]
  refine callK (t91 (x.a) 8 (by omega) _) ?_
  rintro v1 K1 o1
  have k1 := o1.k
  simp (disch := (first | assumption | omega | (simp only [List.length_cons, List.length_nil] <;> omega) | (simp only [alloc_n, set_n] <;> omega) | (simp (disch := (first | assumption | omega | (simp only [alloc_n, set_n] <;> omega))) only [row_alloc, row_set, Keeps.row k1]; assumption))) only [Keeps.get k1, Keeps.row k1, W_block, ANs, A3s, AOp.map, ↓reduceIte, Nat.reduceAdd, Nat.reduceEqDiff, reduceCtorEq, initFr, Nat.reduceLT, clsA, List.take, List.drop, Nat.reduceLeDiff, Nat.reduceMul, Nat.reduceSub, reduceIte, ANc, A3c, gx, (cStG hx.1).1, (cStG hx.1).2.1, (cStG hx.1).2.2.1, (cStG hx.1).2.2.2]
  refine callK (t91 (x.b) 8 (by omega) _) ?_
  rintro w1 L1 p1
  simp (disch := (first | assumption | omega | (simp only [List.length_cons, List.length_nil] <;> omega) | (simp only [alloc_n, set_n] <;> omega) | (simp (disch := (first | assumption | omega | (simp only [alloc_n, set_n] <;> omega))) only [row_alloc, row_set, Keeps.row k1]; assumption))) only [Keeps.get k1, Keeps.row k1, W_block, ANs, A3s, AOp.map, ↓reduceIte, Nat.reduceAdd, Nat.reduceEqDiff, reduceCtorEq, initFr, Nat.reduceLT, clsA, List.take, List.drop, Nat.reduceLeDiff, Nat.reduceMul, Nat.reduceSub, reduceIte, ANc, A3c, gx, (cStG hx.1).1, (cStG hx.1).2.1, (cStG hx.1).2.2.1, (cStG hx.1).2.2.2]
  refine (o1.keeps p1.k).appR p1.bs (by simp only [List.length_append, be_length, List.length_cons, List.length_nil]; omega) ?_
  intro v2 K2 o2
  have k2 := o2.k
  simp (disch := (first | assumption | omega | (simp only [List.length_cons, List.length_nil] <;> omega) | (simp only [alloc_n, set_n] <;> omega) | (simp (disch := (first | assumption | omega | (simp only [alloc_n, set_n] <;> omega))) only [row_alloc, row_set, Keeps.row k2]; assumption))) only [Keeps.get k2, Keeps.row k2, W_block, ANs, A3s, AOp.map, ↓reduceIte, Nat.reduceAdd, Nat.reduceEqDiff, reduceCtorEq, initFr, Nat.reduceLT, clsA, List.take, List.drop, Nat.reduceLeDiff, Nat.reduceMul, Nat.reduceSub, reduceIte, ANc, A3c, gx, (cStG hx.1).1, (cStG hx.1).2.1, (cStG hx.1).2.2.1, (cStG hx.1).2.2.2]
  refine callK (t91 (x.c) 8 (by omega) _) ?_
  rintro w2 L2 p2
  simp (disch := (first | assumption | omega | (simp only [List.length_cons, List.length_nil] <;> omega) | (simp only [alloc_n, set_n] <;> omega) | (simp (disch := (first | assumption | omega | (simp only [alloc_n, set_n] <;> omega))) only [row_alloc, row_set, Keeps.row k2]; assumption))) only [Keeps.get k2, Keeps.row k2, W_block, ANs, A3s, AOp.map, ↓reduceIte, Nat.reduceAdd, Nat.reduceEqDiff, reduceCtorEq, initFr, Nat.reduceLT, clsA, List.take, List.drop, Nat.reduceLeDiff, Nat.reduceMul, Nat.reduceSub, reduceIte, ANc, A3c, gx, (cStG hx.1).1, (cStG hx.1).2.1, (cStG hx.1).2.2.1, (cStG hx.1).2.2.2]
  refine (o2.keeps p2.k).appR p2.bs (by simp only [List.length_append, be_length, List.length_cons, List.length_nil]; omega) ?_
  intro v3 K3 o3
  have k3 := o3.k
  simp (disch := (first | assumption | omega | (simp only [List.length_cons, List.length_nil] <;> omega) | (simp only [alloc_n, set_n] <;> omega) | (simp (disch := (first | assumption | omega | (simp only [alloc_n, set_n] <;> omega))) only [row_alloc, row_set, Keeps.row k3]; assumption))) only [Keeps.get k3, Keeps.row k3, W_block, ANs, A3s, AOp.map, ↓reduceIte, Nat.reduceAdd, Nat.reduceEqDiff, reduceCtorEq, initFr, Nat.reduceLT, clsA, List.take, List.drop, Nat.reduceLeDiff, Nat.reduceMul, Nat.reduceSub, reduceIte, ANc, A3c, gx, (cStG hx.1).1, (cStG hx.1).2.1, (cStG hx.1).2.2.1, (cStG hx.1).2.2.2]
  refine W_loop2 (fun q fr K => ∃ (i : Nat) (v e : Value), i ≤ 64 ∧ q = 64 - i ∧ OB 5 H1 K v (be 8 x.a ++ be 8 x.b ++ be 8 x.c ++ x.t.take i) ∧ fr = [.agg (cSt x).toArray, ptr H.n 0, .slice none 0 0, v, .int .i64 i, e]) 64 ⟨0, v3, undef, by omega, rfl, by simpa using o3, rfl⟩ ?_
  rintro Q' q fr K ⟨i, v, e, hi, rfl, o4, rfl⟩ hnx hex hrt
  have k4 := o4.k
  by_cases hc : i < 64
  · simp (disch := (first | assumption | omega | (simp only [List.length_cons, List.length_nil] <;> omega) | (simp only [alloc_n, set_n] <;> omega) | (simp (disch := (first | assumption | omega | (simp only [alloc_n, set_n] <;> omega))) only [row_alloc, row_set, Keeps.row k4]; assumption))) only [Keeps.get k4, Keeps.row k4, W_block, ANs, A3s, AOp.map, ↓reduceIte, Nat.reduceAdd, Nat.reduceEqDiff, reduceCtorEq, initFr, Nat.reduceLT, clsA, List.take, List.drop, Nat.reduceLeDiff, Nat.reduceMul, Nat.reduceSub, reduceIte, ANc, A3c, gx, cStT ht hc]
    have hb8 : (x.t[i]'(by omega)).toNat < 256 := UInt8.toNat_lt _
    have o5 : OB 5 H1 (K.alloc (.cells true false 1 [.int .u8 ((x.t[i]'(by omega)).toNat : Nat)] 5)) (slc K.n 0 1 1) [UInt8.ofNat (x.t[i]'(by omega)).toNat] := OB.lit k4 (cells1 hb8) rfl rfl false
    refine (o4.keeps ((Keeps.refl K).alloc _)).appR o5.bs (by simp only [List.length_append, be_length, List.length_cons, List.length_nil, List.length_take]; omega) ?_
    intro v6 K6 o6
    simp (disch := (first | assumption | omega | (simp only [List.length_cons, List.length_nil] <;> omega) | (simp only [alloc_n, set_n] <;> omega) | (simp (disch := (first | assumption | omega | (simp only [alloc_n, set_n] <;> omega))) only [row_alloc, row_set]; assumption))) only [W_block, ANs, A3s, AOp.map, ↓reduceIte, Nat.reduceAdd, Nat.reduceEqDiff, reduceCtorEq, initFr, Nat.reduceLT, clsA, List.take, List.drop, Nat.reduceLeDiff, Nat.reduceMul, Nat.reduceSub, reduceIte, ANc, A3c, wrap_succ (n := i) (by omega)]
    refine hnx _ _ _ ⟨i + 1, v6, _, by omega, rfl, ?_, rfl⟩ (by omega)
    rw [List.take_succ_eq_append_getElem (by omega)]
    simp only [List.append_assoc, UInt8.ofNat_toNat] at o6 ⊢
    exact o6
  · simp (disch := (first | assumption | omega | (simp only [List.length_cons, List.length_nil] <;> omega) | (simp only [alloc_n, set_n] <;> omega) | (simp (disch := (first | assumption | omega | (simp only [alloc_n, set_n] <;> omega))) only [row_alloc, row_set]; assumption))) only [W_block, ANs, A3s, AOp.map, ↓reduceIte, Nat.reduceAdd, Nat.reduceEqDiff, reduceCtorEq, initFr, Nat.reduceLT, clsA, List.take, List.drop, Nat.reduceLeDiff, Nat.reduceMul, Nat.reduceSub, reduceIte, ANc, A3c]
    refine hex _ _ _ ?_
    have hi64 : i = 64 := by omega
    subst hi64
    rw [show x.t.take 64 = x.t from List.take_of_length_le (by omega)] at o4
    simp (disch := (first | assumption | omega | (simp only [List.length_cons, List.length_nil] <;> omega) | (simp only [alloc_n, set_n] <;> omega) | (simp (disch := (first | assumption | omega | (simp only [alloc_n, set_n] <;> omega))) only [row_alloc, row_set, Keeps.row k4]; assumption))) only [Keeps.get k4, Keeps.row k4, W_block, ANs, A3s, AOp.map, ↓reduceIte, Nat.reduceAdd, Nat.reduceEqDiff, reduceCtorEq, initFr, Nat.reduceLT, clsA, List.take, List.drop, Nat.reduceLeDiff, Nat.reduceMul, Nat.reduceSub, reduceIte, ANc, A3c, gx, (cStG hx.1).1, (cStG hx.1).2.1, (cStG hx.1).2.2.1, (cStG hx.1).2.2.2, u64w (show x.p < 18446744073709551616 by omega)]
    refine callK (t91 (x.p) 4 (by omega) _) ?_
    rintro w5 L5 p5
    simp (disch := (first | assumption | omega | (simp only [List.length_cons, List.length_nil] <;> omega) | (simp only [alloc_n, set_n] <;> omega) | (simp (disch := (first | assumption | omega | (simp only [alloc_n, set_n] <;> omega))) only [row_alloc, row_set]; assumption))) only [W_block, ANs, A3s, AOp.map, ↓reduceIte, Nat.reduceAdd, Nat.reduceEqDiff, reduceCtorEq, initFr, Nat.reduceLT, clsA, List.take, List.drop, Nat.reduceLeDiff, Nat.reduceMul, Nat.reduceSub, reduceIte, ANc, A3c]
    refine (o4.keeps p5.k).appR p5.bs (by simp only [List.length_append, be_length]; omega) ?_
    intro v6 K6 o6
    simp (disch := (first | assumption | omega | (simp only [List.length_cons, List.length_nil] <;> omega) | (simp only [alloc_n, set_n] <;> omega) | (simp (disch := (first | assumption | omega | (simp only [alloc_n, set_n] <;> omega))) only [row_alloc, row_set]; assumption))) only [W_block, ANs, A3s, AOp.map, ↓reduceIte, Nat.reduceAdd, Nat.reduceEqDiff, reduceCtorEq, initFr, Nat.reduceLT, clsA, List.take, List.drop, Nat.reduceLeDiff, Nat.reduceMul, Nat.reduceSub, reduceIte, ANc, A3c]
    refine hq2 _ _ ⟨_, rfl, ?_⟩
    have ee : enSt x = be 8 x.a ++ be 8 x.b ++ be 8 x.c ++ x.t ++ be 4 x.p := by simp only [enSt, List.append_assoc]
    rw [ee]
    exact o6.base kH
theorem t50 (x : St) (hx : rgSt x) (H : AHeap) : ∃ v H', ARun Go.Proofs.Try.prog 0 50 [.agg (cSt x).toArray] H v H' ∧ OB 5 H H' v (fSt x) := by
  refine walk2 f50_ok f50_n ?_
  intro Q hq1 hq2
  have lx := cSt_len hx.1
  have ox := cSt_one x
  have kH := (Keeps.refl H).alloc (.cells true false 68 (cSt x) 51)
  simp (disch := (first | assumption | omega | (simp only [List.length_cons, List.length_nil] <;> omega) | (simp only [alloc_n, set_n] <;> omega) | (simp (disch := (first | assumption | omega | (simp only [alloc_n, set_n] <;> omega))) only [row_alloc, row_set]; assumption))) only [f50, W_block, ANs, A3s, AOp.map, ↓reduceIte, Nat.reduceAdd, Nat.reduceEqDiff, reduceCtorEq, initFr, Nat.reduceLT, clsA, List.take, List.drop, Nat.reduceLeDiff, Nat.reduceMul, Nat.reduceSub, reduceIte, ANc, A3c, ox]
  obtain ⟨H1, hH1⟩ : ∃ X, X = H.alloc (.cells true false 68 (cSt x) 51) := ⟨_, rfl⟩
  have gx : H1.get H.n = some (.cells true false 68 (cSt x) 51) := by rw [hH1]; exact AHeap.get_alloc_new _ _
  have px := AHeap.get_lt gx
  rw [← hH1] at kH ⊢
  obtain ⟨K1, hK1⟩ : ∃ X, X = H1.alloc (.cells true false 1 [.int .u8 3] 5) := ⟨_, rfl⟩
  have hn1 : H1.n = H.n + 1 := by rw [hH1]; rfl
  have o1 : OB 5 H1 K1 (slc (H.n + 1) 0 1 1) [UInt8.ofNat 3] := by rw [hK1, ← hn1]; exact OB.lit (Keeps.refl H1) (cells1 (show 3 < 256 by omega)) rfl rfl false
  rw [← hK1]
  have k1 := o1.k
  refine callK (t93 x hx _) ?_
  rintro w1 L1 p1
  simp (disch := (first | assumption | omega | (simp only [List.length_cons, List.length_nil] <;> omega) | (simp only [alloc_n, set_n] <;> omega) | (simp (disch := (first | assumption | omega | (simp only [alloc_n, set_n] <;> omega))) only [row_alloc, row_set]; assumption))) only [W_block, ANs, A3s, AOp.map, ↓reduceIte, Nat.reduceAdd, Nat.reduceEqDiff, reduceCtorEq, initFr, Nat.reduceLT, clsA, List.take, List.drop, Nat.reduceLeDiff, Nat.reduceMul, Nat.reduceSub, reduceIte, ANc, A3c]
  have hl := enSt_len hx.1
  refine (o1.keeps p1.k).appR p1.bs (by rw [hl]; simp) ?_
  intro v2 K2 o2
  simp (disch := (first | assumption | omega | (simp only [List.length_cons, List.length_nil] <;> omega) | (simp only [alloc_n, set_n] <;> omega) | (simp (disch := (first | assumption | omega | (simp only [alloc_n, set_n] <;> omega))) only [row_alloc, row_set]; assumption))) only [W_block, ANs, A3s, AOp.map, ↓reduceIte, Nat.reduceAdd, Nat.reduceEqDiff, reduceCtorEq, initFr, Nat.reduceLT, clsA, List.take, List.drop, Nat.reduceLeDiff, Nat.reduceMul, Nat.reduceSub, reduceIte, ANc, A3c]
  refine callK (t92 o2 (by rw [List.length_append, hl]; simp)) ?_
  rintro v3 K3 o3
  simp (disch := (first | assumption | omega | (simp only [List.length_cons, List.length_nil] <;> omega) | (simp only [alloc_n, set_n] <;> omega) | (simp (disch := (first | assumption | omega | (simp only [alloc_n, set_n] <;> omega))) only [row_alloc, row_set]; assumption))) only [W_block, ANs, A3s, AOp.map, ↓reduceIte, Nat.reduceAdd, Nat.reduceEqDiff, reduceCtorEq, initFr, Nat.reduceLT, clsA, List.take, List.drop, Nat.reduceLeDiff, Nat.reduceMul, Nat.reduceSub, reduceIte, ANc, A3c]
  exact hq2 _ _ ⟨_, rfl, o3.base kH⟩
theorem t51 (x : Lo) (hx : rgSt x.s) (H : AHeap) : ∃ v H', ARun Go.Proofs.Try.prog 0 51 [.agg (cLo x).toArray] H v H' ∧ OB 5 H H' v (fLo x) := by
  refine walk2 f51_ok f51_n ?_
  intro Q hq1 hq2
  have lx := cLo_len hx.1
  have ox := cLo_one x
  have kH := (Keeps.refl H).alloc (.cells true false 70 (cLo x) 60)
  simp (disch := (first | assumption | omega | (simp only [List.length_cons, List.length_nil] <;> omega) | (simp only [alloc_n, set_n] <;> omega) | (simp (disch := (first | assumption | omega | (simp only [alloc_n, set_n] <;> omega))) only [row_alloc, row_set]; assumption))) only [f51, W_block, ANs, A3s, AOp.map, ↓reduceIte, Nat.reduceAdd, Nat.reduceEqDiff, reduceCtorEq, initFr, Nat.reduceLT, clsA, List.take, List.drop, Nat.reduceLeDiff, Nat.reduceMul, Nat.reduceSub, reduceIte, ANc, A3c, ox, (cLoG hx.1).1]
  refine callK (t90 _ _) ?_
  rintro _ _ ⟨rfl, rfl⟩
  cases h1 : cyB x.e with
  | false =>
    simp (disch := (first | assumption | omega | (simp only [List.length_cons, List.length_nil] <;> omega) | (simp only [alloc_n, set_n] <;> omega) | (simp (disch := (first | assumption | omega | (simp only [alloc_n, set_n] <;> omega))) only [row_alloc, row_set]; assumption))) only [W_block, ANs, A3s, AOp.map, ↓reduceIte, Nat.reduceAdd, Nat.reduceEqDiff, reduceCtorEq, initFr, Nat.reduceLT, clsA, List.take, List.drop, Nat.reduceLeDiff, Nat.reduceMul, Nat.reduceSub, reduceIte, ANc, A3c]
    refine hq2 _ _ ⟨_, rfl, ?_⟩
    have e : fLo x = [] := by unfold fLo okLo; rw [h1]; rfl
    rw [e]
    exact (OB.nil _ _).base kH
  | true =>
    simp (disch := (first | assumption | omega | (simp only [List.length_cons, List.length_nil] <;> omega) | (simp only [alloc_n, set_n] <;> omega) | (simp (disch := (first | assumption | omega | (simp only [alloc_n, set_n] <;> omega))) only [row_alloc, row_set]; assumption))) only [W_block, ANs, A3s, AOp.map, ↓reduceIte, Nat.reduceAdd, Nat.reduceEqDiff, reduceCtorEq, initFr, Nat.reduceLT, clsA, List.take, List.drop, Nat.reduceLeDiff, Nat.reduceMul, Nat.reduceSub, reduceIte, ANc, A3c, (cLoG hx.1).2]
    refine callK (t90 _ _) ?_
    rintro _ _ ⟨rfl, rfl⟩
    cases h2 : cyB x.c with
    | false =>
      simp (disch := (first | assumption | omega | (simp only [List.length_cons, List.length_nil] <;> omega) | (simp only [alloc_n, set_n] <;> omega) | (simp (disch := (first | assumption | omega | (simp only [alloc_n, set_n] <;> omega))) only [row_alloc, row_set]; assumption))) only [W_block, ANs, A3s, AOp.map, ↓reduceIte, Nat.reduceAdd, Nat.reduceEqDiff, reduceCtorEq, initFr, Nat.reduceLT, clsA, List.take, List.drop, Nat.reduceLeDiff, Nat.reduceMul, Nat.reduceSub, reduceIte, ANc, A3c]
      refine hq2 _ _ ⟨_, rfl, ?_⟩
      have e : fLo x = [] := by unfold fLo okLo; rw [h1, h2]; rfl
      rw [e]
      exact (OB.nil _ _).base kH
    | true =>
      obtain ⟨H1, hH1⟩ : ∃ X, X = H.alloc (.cells true false 70 (cLo x) 60) := ⟨_, rfl⟩
      have gx : H1.get H.n = some (.cells true false 70 (cLo x) 60) := by rw [hH1]; exact AHeap.get_alloc_new _ _
      have px := AHeap.get_lt gx
      rw [← hH1] at kH ⊢
      simp (disch := (first | assumption | omega | (simp only [List.length_cons, List.length_nil] <;> omega) | (simp only [alloc_n, set_n] <;> omega) | (simp (disch := (first | assumption | omega | (simp only [alloc_n, set_n] <;> omega))) only [row_alloc, row_set]; assumption))) only [W_block, ANs, A3s, AOp.map, ↓reduceIte, Nat.reduceAdd, Nat.reduceEqDiff, reduceCtorEq, initFr, Nat.reduceLT, clsA, List.take, List.drop, Nat.reduceLeDiff, Nat.reduceMul, Nat.reduceSub, reduceIte, ANc, A3c, gx, (cLoG hx.1).1, (cLoG hx.1).2, fillu1]
      obtain ⟨K1, hK1⟩ : ∃ X, X = H1.alloc (.cells true false 1 [.int .u8 4] 5) := ⟨_, rfl⟩
      have o1 : OB 5 H1 K1 (slc (H1.n) 0 1 1) [UInt8.ofNat 4] := by rw [hK1]; exact OB.lit (Keeps.refl H1) (cells1 (show 4 < 256 by omega)) rfl rfl false
      rw [← hK1]
      have k1 := o1.k
      simp (disch := (first | assumption | omega | (simp only [List.length_cons, List.length_nil] <;> omega) | (simp only [alloc_n, set_n] <;> omega) | (simp (disch := (first | assumption | omega | (simp only [alloc_n, set_n] <;> omega))) only [row_alloc, row_set, Keeps.row k1]; assumption))) only [Keeps.get k1, Keeps.row k1, W_block, ANs, A3s, AOp.map, ↓reduceIte, Nat.reduceAdd, Nat.reduceEqDiff, reduceCtorEq, initFr, Nat.reduceLT, clsA, List.take, List.drop, Nat.reduceLeDiff, Nat.reduceMul, Nat.reduceSub, reduceIte, ANc, A3c, gx, (cLoG hx.1).1, (cLoG hx.1).2, cy_nat h1]
      refine callK (t91 (x.e.toNat) 8 (by omega) _) ?_
      rintro w1 L1 p1
      simp (disch := (first | assumption | omega | (simp only [List.length_cons, List.length_nil] <;> omega) | (simp only [alloc_n, set_n] <;> omega) | (simp (disch := (first | assumption | omega | (simp only [alloc_n, set_n] <;> omega))) only [row_alloc, row_set, Keeps.row k1]; assumption))) only [Keeps.get k1, Keeps.row k1, W_block, ANs, A3s, AOp.map, ↓reduceIte, Nat.reduceAdd, Nat.reduceEqDiff, reduceCtorEq, initFr, Nat.reduceLT, clsA, List.take, List.drop, Nat.reduceLeDiff, Nat.reduceMul, Nat.reduceSub, reduceIte, ANc, A3c, gx, (cLoG hx.1).1, (cLoG hx.1).2]
      refine (o1.keeps p1.k).appR p1.bs (by simp only [List.length_append, be_length, List.length_cons, List.length_nil]; omega) ?_
      intro v2 K2 o2
      have k2 := o2.k
      simp (disch := (first | assumption | omega | (simp only [List.length_cons, List.length_nil] <;> omega) | (simp only [alloc_n, set_n] <;> omega) | (simp (disch := (first | assumption | omega | (simp only [alloc_n, set_n] <;> omega))) only [row_alloc, row_set, Keeps.row k2]; assumption))) only [Keeps.get k2, Keeps.row k2, W_block, ANs, A3s, AOp.map, ↓reduceIte, Nat.reduceAdd, Nat.reduceEqDiff, reduceCtorEq, initFr, Nat.reduceLT, clsA, List.take, List.drop, Nat.reduceLeDiff, Nat.reduceMul, Nat.reduceSub, reduceIte, ANc, A3c, gx, (cLoG hx.1).1, (cLoG hx.1).2, cy_nat h2]
      refine callK (t91 (x.c.toNat) 8 (by omega) _) ?_
      rintro w2 L2 p2
      simp (disch := (first | assumption | omega | (simp only [List.length_cons, List.length_nil] <;> omega) | (simp only [alloc_n, set_n] <;> omega) | (simp (disch := (first | assumption | omega | (simp only [alloc_n, set_n] <;> omega))) only [row_alloc, row_set, Keeps.row k2]; assumption))) only [Keeps.get k2, Keeps.row k2, W_block, ANs, A3s, AOp.map, ↓reduceIte, Nat.reduceAdd, Nat.reduceEqDiff, reduceCtorEq, initFr, Nat.reduceLT, clsA, List.take, List.drop, Nat.reduceLeDiff, Nat.reduceMul, Nat.reduceSub, reduceIte, ANc, A3c, gx, (cLoG hx.1).1, (cLoG hx.1).2]
      refine (o2.keeps p2.k).appR p2.bs (by simp only [List.length_append, be_length, List.length_cons, List.length_nil]; omega) ?_
      intro v3 K3 o3
      have k3 := o3.k
      have hne : (cLo x).length ≠ 68 := by omega
      simp (disch := (first | assumption | omega | (simp only [List.length_cons, List.length_nil] <;> omega) | (simp only [alloc_n, set_n] <;> omega) | (simp (disch := (first | assumption | omega | (simp only [alloc_n, set_n] <;> omega))) only [row_alloc, row_set, Keeps.row k3]; assumption))) only [Keeps.get k3, Keeps.row k3, W_block, ANs, A3s, AOp.map, ↓reduceIte, Nat.reduceAdd, Nat.reduceEqDiff, reduceCtorEq, initFr, Nat.reduceLT, clsA, List.take, List.drop, Nat.reduceLeDiff, Nat.reduceMul, Nat.reduceSub, reduceIte, ANc, A3c, gx, lx, cLo_s hx.1]
      refine callK (t93 x.s hx _) ?_
      rintro w3 L3 p3
      simp (disch := (first | assumption | omega | (simp only [List.length_cons, List.length_nil] <;> omega) | (simp only [alloc_n, set_n] <;> omega) | (simp (disch := (first | assumption | omega | (simp only [alloc_n, set_n] <;> omega))) only [row_alloc, row_set]; assumption))) only [W_block, ANs, A3s, AOp.map, ↓reduceIte, Nat.reduceAdd, Nat.reduceEqDiff, reduceCtorEq, initFr, Nat.reduceLT, clsA, List.take, List.drop, Nat.reduceLeDiff, Nat.reduceMul, Nat.reduceSub, reduceIte, ANc, A3c]
      have hl := enSt_len hx.1
      refine (o3.keeps p3.k).appR p3.bs (by simp only [List.length_append, be_length, List.length_cons, List.length_nil]; omega) ?_
      intro v4 K4 o4
      simp (disch := (first | assumption | omega | (simp only [List.length_cons, List.length_nil] <;> omega) | (simp only [alloc_n, set_n] <;> omega) | (simp (disch := (first | assumption | omega | (simp only [alloc_n, set_n] <;> omega))) only [row_alloc, row_set]; assumption))) only [W_block, ANs, A3s, AOp.map, ↓reduceIte, Nat.reduceAdd, Nat.reduceEqDiff, reduceCtorEq, initFr, Nat.reduceLT, clsA, List.take, List.drop, Nat.reduceLeDiff, Nat.reduceMul, Nat.reduceSub, reduceIte, ANc, A3c]
      refine callK (t92 o4 (by simp only [List.length_append, be_length, List.length_cons, List.length_nil]; omega)) ?_
      rintro v5 K5 o5
      simp (disch := (first | assumption | omega | (simp only [List.length_cons, List.length_nil] <;> omega) | (simp only [alloc_n, set_n] <;> omega) | (simp (disch := (first | assumption | omega | (simp only [alloc_n, set_n] <;> omega))) only [row_alloc, row_set]; assumption))) only [W_block, ANs, A3s, AOp.map, ↓reduceIte, Nat.reduceAdd, Nat.reduceEqDiff, reduceCtorEq, initFr, Nat.reduceLT, clsA, List.take, List.drop, Nat.reduceLeDiff, Nat.reduceMul, Nat.reduceSub, reduceIte, ANc, A3c]
      refine hq2 _ _ ⟨_, rfl, ?_⟩
      have e : fLo x = chk ([UInt8.ofNat 4] ++ be 8 x.e.toNat ++ be 8 x.c.toNat ++ enSt x.s) := by
        unfold fLo
        rw [if_pos (by unfold okLo; rw [h1, h2]; rfl)]
        unfold enLo
        simp only [List.append_assoc, List.cons_append, List.nil_append]
        rfl
      rw [e]
      exact o5.base kH
theorem t52 (x : Li) (hx : rgLi x) (H : AHeap) (hl : x.B.length ≤ 1000000) : ∃ v H', ARun Go.Proofs.Try.prog 0 52 [.agg (cLi (strB x.B) x).toArray] H v H' ∧ OB 5 H H' v (fLi x) := by
  refine walk2 f52_ok f52_n ?_
  intro Q hq1 hq2
  have lx : (cLi (strB x.B) x).length = 5 := rfl
  have ox : (cLi (strB x.B) x).all Value.oneCell' = true := rfl
  have kH := (Keeps.refl H).alloc (.cells true false 5 (cLi (strB x.B) x) 69)
  obtain ⟨H1, hH1⟩ : ∃ X, X = H.alloc (.cells true false 5 (cLi (strB x.B) x) 69) := ⟨_, rfl⟩
  have gx : H1.get H.n = some (.cells true false 5 (cLi (strB x.B) x) 69) := by rw [hH1]; exact AHeap.get_alloc_new _ _
  have px := AHeap.get_lt gx
  by_cases hok : okLi x = true
  rotate_left
  · have e : fLi x = [] := by unfold fLi; rw [if_neg hok]
    have hno : x.q < 0 ∨ 4611686018427387904 < x.q ∨ x.k < 0 ∨ 4611686018427387904 < x.k ∨ (2048 : Int) < (x.B.length : Int) := by
      by_cases h0 : x.q < 0 ∨ 4611686018427387904 < x.q ∨ x.k < 0 ∨ 4611686018427387904 < x.k ∨ (2048 : Int) < (x.B.length : Int)
      · exact h0
      · exact absurd (okLi_iff.2 (by omega)) hok
    by_cases c1 : x.q < 0
    · simp (disch := (first | assumption | omega | (simp only [List.length_cons, List.length_nil] <;> omega) | (simp only [alloc_n, set_n] <;> omega) | (simp (disch := (first | assumption | omega | (simp only [alloc_n, set_n] <;> omega))) only [row_alloc, row_set]; assumption))) only [f52, W_block, ANs, A3s, AOp.map, ↓reduceIte, Nat.reduceAdd, Nat.reduceEqDiff, reduceCtorEq, initFr, Nat.reduceLT, clsA, List.take, List.drop, Nat.reduceLeDiff, Nat.reduceMul, Nat.reduceSub, reduceIte, ANc, A3c, ox, (cLiG (strB x.B) x).1, (cLiG (strB x.B) x).2.1, (cLiG (strB x.B) x).2.2.1, (cLiG (strB x.B) x).2.2.2.1, (cLiG (strB x.B) x).2.2.2.2]
      exact hq2 _ _ ⟨_, rfl, by rw [e]; exact (OB.nil _ _).base kH⟩
    by_cases c2 : 4611686018427387904 < x.q
    · simp (disch := (first | assumption | omega | (simp only [List.length_cons, List.length_nil] <;> omega) | (simp only [alloc_n, set_n] <;> omega) | (simp (disch := (first | assumption | omega | (simp only [alloc_n, set_n] <;> omega))) only [row_alloc, row_set]; assumption))) only [f52, W_block, ANs, A3s, AOp.map, ↓reduceIte, Nat.reduceAdd, Nat.reduceEqDiff, reduceCtorEq, initFr, Nat.reduceLT, clsA, List.take, List.drop, Nat.reduceLeDiff, Nat.reduceMul, Nat.reduceSub, reduceIte, ANc, A3c, ox, (cLiG (strB x.B) x).1, (cLiG (strB x.B) x).2.1, (cLiG (strB x.B) x).2.2.1, (cLiG (strB x.B) x).2.2.2.1, (cLiG (strB x.B) x).2.2.2.2]
      exact hq2 _ _ ⟨_, rfl, by rw [e]; exact (OB.nil _ _).base kH⟩
    by_cases c3 : x.k < 0
    · simp (disch := (first | assumption | omega | (simp only [List.length_cons, List.length_nil] <;> omega) | (simp only [alloc_n, set_n] <;> omega) | (simp (disch := (first | assumption | omega | (simp only [alloc_n, set_n] <;> omega))) only [row_alloc, row_set]; assumption))) only [f52, W_block, ANs, A3s, AOp.map, ↓reduceIte, Nat.reduceAdd, Nat.reduceEqDiff, reduceCtorEq, initFr, Nat.reduceLT, clsA, List.take, List.drop, Nat.reduceLeDiff, Nat.reduceMul, Nat.reduceSub, reduceIte, ANc, A3c, ox, (cLiG (strB x.B) x).1, (cLiG (strB x.B) x).2.1, (cLiG (strB x.B) x).2.2.1, (cLiG (strB x.B) x).2.2.2.1, (cLiG (strB x.B) x).2.2.2.2]
      exact hq2 _ _ ⟨_, rfl, by rw [e]; exact (OB.nil _ _).base kH⟩
    by_cases c4 : 4611686018427387904 < x.k
    · simp (disch := (first | assumption | omega | (simp only [List.length_cons, List.length_nil] <;> omega) | (simp only [alloc_n, set_n] <;> omega) | (simp (disch := (first | assumption | omega | (simp only [alloc_n, set_n] <;> omega))) only [row_alloc, row_set]; assumption))) only [f52, W_block, ANs, A3s, AOp.map, ↓reduceIte, Nat.reduceAdd, Nat.reduceEqDiff, reduceCtorEq, initFr, Nat.reduceLT, clsA, List.take, List.drop, Nat.reduceLeDiff, Nat.reduceMul, Nat.reduceSub, reduceIte, ANc, A3c, ox, (cLiG (strB x.B) x).1, (cLiG (strB x.B) x).2.1, (cLiG (strB x.B) x).2.2.1, (cLiG (strB x.B) x).2.2.2.1, (cLiG (strB x.B) x).2.2.2.2]
      exact hq2 _ _ ⟨_, rfl, by rw [e]; exact (OB.nil _ _).base kH⟩
    have c5 : (2048 : Int) < (x.B.length : Int) := by omega
    simp (disch := (first | assumption | omega | (simp only [List.length_cons, List.length_nil] <;> omega) | (simp only [alloc_n, set_n] <;> omega) | (simp (disch := (first | assumption | omega | (simp only [alloc_n, set_n] <;> omega))) only [row_alloc, row_set]; assumption))) only [f52, W_block, ANs, A3s, AOp.map, ↓reduceIte, Nat.reduceAdd, Nat.reduceEqDiff, reduceCtorEq, initFr, Nat.reduceLT, clsA, List.take, List.drop, Nat.reduceLeDiff, Nat.reduceMul, Nat.reduceSub, reduceIte, ANc, A3c, ox, (cLiG (strB x.B) x).1, (cLiG (strB x.B) x).2.1, (cLiG (strB x.B) x).2.2.1, (cLiG (strB x.B) x).2.2.2.1, (cLiG (strB x.B) x).2.2.2.2, a_lenB]
    exact hq2 _ _ ⟨_, rfl, by rw [e]; exact (OB.nil _ _).base kH⟩
  obtain ⟨⟨c1, c2⟩, ⟨c3, c4⟩, c5⟩ := okLi_iff.1 hok
  have h1 : sqB x.q = true := sqB_iff.2 ⟨c1, c2⟩
  have h2 : sqB x.k = true := sqB_iff.2 ⟨c3, c4⟩
  have c5' : ¬ (2048 : Int) < (x.B.length : Int) := by omega
  have n1 : ¬ x.q < 0 := by omega
  have n2 : ¬ 4611686018427387904 < x.q := by omega
  have n3 : ¬ x.k < 0 := by omega
  have n4 : ¬ 4611686018427387904 < x.k := by omega
  simp (disch := (first | assumption | omega | (simp only [List.length_cons, List.length_nil] <;> omega) | (simp only [alloc_n, set_n] <;> omega) | (simp (disch := (first | assumption | omega | (simp only [alloc_n, set_n] <;> omega))) only [row_alloc, row_set]; assumption))) only [f52, W_block, ANs, A3s, AOp.map, ↓reduceIte, Nat.reduceAdd, Nat.reduceEqDiff, reduceCtorEq, initFr, Nat.reduceLT, clsA, List.take, List.drop, Nat.reduceLeDiff, Nat.reduceMul, Nat.reduceSub, reduceIte, ANc, A3c, ox, (cLiG (strB x.B) x).1, (cLiG (strB x.B) x).2.1, (cLiG (strB x.B) x).2.2.1, (cLiG (strB x.B) x).2.2.2.1, (cLiG (strB x.B) x).2.2.2.2, a_lenB]
  rw [← hH1] at kH ⊢
  simp (disch := (first | assumption | omega | (simp only [List.length_cons, List.length_nil] <;> omega) | (simp only [alloc_n, set_n] <;> omega) | (simp (disch := (first | assumption | omega | (simp only [alloc_n, set_n] <;> omega))) only [row_alloc, row_set]; assumption))) only [W_block, ANs, A3s, AOp.map, ↓reduceIte, Nat.reduceAdd, Nat.reduceEqDiff, reduceCtorEq, initFr, Nat.reduceLT, clsA, List.take, List.drop, Nat.reduceLeDiff, Nat.reduceMul, Nat.reduceSub, reduceIte, ANc, A3c, gx, (cLiG (strB x.B) x).1, (cLiG (strB x.B) x).2.1, (cLiG (strB x.B) x).2.2.1, (cLiG (strB x.B) x).2.2.2.1, (cLiG (strB x.B) x).2.2.2.2, fillu3]
  have hn1 : H1.n = H.n + 1 := by rw [hH1]; rfl
  obtain ⟨K1, hK1⟩ : ∃ X, X = H1.alloc (.cells true false 1 [.int .u8 5, .int .u8 (x.f : Nat), .int .u8 (x.t : Nat)] 5) := ⟨_, rfl⟩
  have o1 : OB 5 H1 K1 (slc (H.n + 1) 0 3 3) [UInt8.ofNat 5, UInt8.ofNat x.f, UInt8.ofNat x.t] := by rw [hK1, ← hn1]; exact OB.lit (Keeps.refl H1) (cells3 (show 5 < 256 by omega) hx.1 hx.2) rfl rfl false
  rw [← hK1]
  have k1 := o1.k
  simp (disch := (first | assumption | omega | (simp only [List.length_cons, List.length_nil] <;> omega) | (simp only [alloc_n, set_n] <;> omega) | (simp (disch := (first | assumption | omega | (simp only [alloc_n, set_n] <;> omega))) only [row_alloc, row_set, Keeps.row k1]; assumption))) only [Keeps.get k1, Keeps.row k1, W_block, ANs, A3s, AOp.map, ↓reduceIte, Nat.reduceAdd, Nat.reduceEqDiff, reduceCtorEq, initFr, Nat.reduceLT, clsA, List.take, List.drop, Nat.reduceLeDiff, Nat.reduceMul, Nat.reduceSub, reduceIte, ANc, A3c, gx, (cLiG (strB x.B) x).1, (cLiG (strB x.B) x).2.1, (cLiG (strB x.B) x).2.2.1, (cLiG (strB x.B) x).2.2.2.1, (cLiG (strB x.B) x).2.2.2.2, sq_nat h1]
  refine callK (t91 (x.q.toNat) 8 (by omega) _) ?_
  rintro w1 L1 p1
  simp (disch := (first | assumption | omega | (simp only [List.length_cons, List.length_nil] <;> omega) | (simp only [alloc_n, set_n] <;> omega) | (simp (disch := (first | assumption | omega | (simp only [alloc_n, set_n] <;> omega))) only [row_alloc, row_set, Keeps.row k1]; assumption))) only [Keeps.get k1, Keeps.row k1, W_block, ANs, A3s, AOp.map, ↓reduceIte, Nat.reduceAdd, Nat.reduceEqDiff, reduceCtorEq, initFr, Nat.reduceLT, clsA, List.take, List.drop, Nat.reduceLeDiff, Nat.reduceMul, Nat.reduceSub, reduceIte, ANc, A3c, gx, (cLiG (strB x.B) x).1, (cLiG (strB x.B) x).2.1, (cLiG (strB x.B) x).2.2.1, (cLiG (strB x.B) x).2.2.2.1, (cLiG (strB x.B) x).2.2.2.2]
  refine (o1.keeps p1.k).appR p1.bs (by simp only [List.length_append, be_length, List.length_cons, List.length_nil]; omega) ?_
  intro v2 K2 o2
  have k2 := o2.k
  simp (disch := (first | assumption | omega | (simp only [List.length_cons, List.length_nil] <;> omega) | (simp only [alloc_n, set_n] <;> omega) | (simp (disch := (first | assumption | omega | (simp only [alloc_n, set_n] <;> omega))) only [row_alloc, row_set, Keeps.row k2]; assumption))) only [Keeps.get k2, Keeps.row k2, W_block, ANs, A3s, AOp.map, ↓reduceIte, Nat.reduceAdd, Nat.reduceEqDiff, reduceCtorEq, initFr, Nat.reduceLT, clsA, List.take, List.drop, Nat.reduceLeDiff, Nat.reduceMul, Nat.reduceSub, reduceIte, ANc, A3c, gx, (cLiG (strB x.B) x).1, (cLiG (strB x.B) x).2.1, (cLiG (strB x.B) x).2.2.1, (cLiG (strB x.B) x).2.2.2.1, (cLiG (strB x.B) x).2.2.2.2, sq_nat h2]
  refine callK (t91 (x.k.toNat) 8 (by omega) _) ?_
  rintro w2 L2 p2
  simp (disch := (first | assumption | omega | (simp only [List.length_cons, List.length_nil] <;> omega) | (simp only [alloc_n, set_n] <;> omega) | (simp (disch := (first | assumption | omega | (simp only [alloc_n, set_n] <;> omega))) only [row_alloc, row_set, Keeps.row k2]; assumption))) only [Keeps.get k2, Keeps.row k2, W_block, ANs, A3s, AOp.map, ↓reduceIte, Nat.reduceAdd, Nat.reduceEqDiff, reduceCtorEq, initFr, Nat.reduceLT, clsA, List.take, List.drop, Nat.reduceLeDiff, Nat.reduceMul, Nat.reduceSub, reduceIte, ANc, A3c, gx, (cLiG (strB x.B) x).1, (cLiG (strB x.B) x).2.1, (cLiG (strB x.B) x).2.2.1, (cLiG (strB x.B) x).2.2.2.1, (cLiG (strB x.B) x).2.2.2.2]
  refine (o2.keeps p2.k).appR p2.bs (by simp only [List.length_append, be_length, List.length_cons, List.length_nil]; omega) ?_
  intro v3 K3 o3
  have k3 := o3.k
  simp (disch := (first | assumption | omega | (simp only [List.length_cons, List.length_nil] <;> omega) | (simp only [alloc_n, set_n] <;> omega) | (simp (disch := (first | assumption | omega | (simp only [alloc_n, set_n] <;> omega))) only [row_alloc, row_set, Keeps.row k3]; assumption))) only [Keeps.get k3, Keeps.row k3, W_block, ANs, A3s, AOp.map, ↓reduceIte, Nat.reduceAdd, Nat.reduceEqDiff, reduceCtorEq, initFr, Nat.reduceLT, clsA, List.take, List.drop, Nat.reduceLeDiff, Nat.reduceMul, Nat.reduceSub, reduceIte, ANc, A3c, gx, (cLiG (strB x.B) x).1, (cLiG (strB x.B) x).2.1, (cLiG (strB x.B) x).2.2.1, (cLiG (strB x.B) x).2.2.2.1, (cLiG (strB x.B) x).2.2.2.2, a_lenB, u64w (show x.B.length < 18446744073709551616 by omega)]
  refine callK (t91 (x.B.length) 2 (by omega) _) ?_
  rintro w3 L3 p3
  simp (disch := (first | assumption | omega | (simp only [List.length_cons, List.length_nil] <;> omega) | (simp only [alloc_n, set_n] <;> omega) | (simp (disch := (first | assumption | omega | (simp only [alloc_n, set_n] <;> omega))) only [row_alloc, row_set, Keeps.row k3]; assumption))) only [Keeps.get k3, Keeps.row k3, W_block, ANs, A3s, AOp.map, ↓reduceIte, Nat.reduceAdd, Nat.reduceEqDiff, reduceCtorEq, initFr, Nat.reduceLT, clsA, List.take, List.drop, Nat.reduceLeDiff, Nat.reduceMul, Nat.reduceSub, reduceIte, ANc, A3c, gx, (cLiG (strB x.B) x).1, (cLiG (strB x.B) x).2.1, (cLiG (strB x.B) x).2.2.1, (cLiG (strB x.B) x).2.2.2.1, (cLiG (strB x.B) x).2.2.2.2]
  refine (o3.keeps p3.k).appR p3.bs (by simp only [List.length_append, be_length, List.length_cons, List.length_nil]; omega) ?_
  intro v4 K4 o4
  have k4 := o4.k
  simp (disch := (first | assumption | omega | (simp only [List.length_cons, List.length_nil] <;> omega) | (simp only [alloc_n, set_n] <;> omega) | (simp (disch := (first | assumption | omega | (simp only [alloc_n, set_n] <;> omega))) only [row_alloc, row_set, Keeps.row k4]; assumption))) only [Keeps.get k4, Keeps.row k4, W_block, ANs, A3s, AOp.map, ↓reduceIte, Nat.reduceAdd, Nat.reduceEqDiff, reduceCtorEq, initFr, Nat.reduceLT, clsA, List.take, List.drop, Nat.reduceLeDiff, Nat.reduceMul, Nat.reduceSub, reduceIte, ANc, A3c, gx, (cLiG (strB x.B) x).1, (cLiG (strB x.B) x).2.1, (cLiG (strB x.B) x).2.2.1, (cLiG (strB x.B) x).2.2.2.1, (cLiG (strB x.B) x).2.2.2.2]
  refine o4.appsR (m := x.B) (by simp only [List.length_append, be_length, List.length_cons, List.length_nil]; omega) ?_
  intro v5 K5 o5
  simp (disch := (first | assumption | omega | (simp only [List.length_cons, List.length_nil] <;> omega) | (simp only [alloc_n, set_n] <;> omega) | (simp (disch := (first | assumption | omega | (simp only [alloc_n, set_n] <;> omega))) only [row_alloc, row_set]; assumption))) only [W_block, ANs, A3s, AOp.map, ↓reduceIte, Nat.reduceAdd, Nat.reduceEqDiff, reduceCtorEq, initFr, Nat.reduceLT, clsA, List.take, List.drop, Nat.reduceLeDiff, Nat.reduceMul, Nat.reduceSub, reduceIte, ANc, A3c]
  refine callK (t92 o5 (by simp only [List.length_append, be_length, List.length_cons, List.length_nil]; omega)) ?_
  rintro v6 K6 o6
  simp (disch := (first | assumption | omega | (simp only [List.length_cons, List.length_nil] <;> omega) | (simp only [alloc_n, set_n] <;> omega) | (simp (disch := (first | assumption | omega | (simp only [alloc_n, set_n] <;> omega))) only [row_alloc, row_set]; assumption))) only [W_block, ANs, A3s, AOp.map, ↓reduceIte, Nat.reduceAdd, Nat.reduceEqDiff, reduceCtorEq, initFr, Nat.reduceLT, clsA, List.take, List.drop, Nat.reduceLeDiff, Nat.reduceMul, Nat.reduceSub, reduceIte, ANc, A3c]
  refine hq2 _ _ ⟨_, rfl, ?_⟩
  have e : fLi x = chk ([UInt8.ofNat 5, UInt8.ofNat x.f, UInt8.ofNat x.t] ++ be 8 x.q.toNat ++ be 8 x.k.toNat ++ be 2 x.B.length ++ x.B) := by
    unfold fLi
    rw [if_pos hok]
    unfold enLi
    simp only [be1, List.append_assoc, List.cons_append, List.nil_append]
    rfl
  rw [e]
  exact o6.base kH
theorem t48 (x : I6) (hx : rgI6 x) {H : AHeap} {vc : Value} (hC0 : Sl H 2 vc (CC x.cs)) (hl : x.cs.length ≤ 1000000) : ∃ v H', ARun Go.Proofs.Try.prog 0 48 [.agg (cI6 vc x).toArray] H v H' ∧ OB 5 H H' v (fI6 x) := by
  refine walk2 f48_ok f48_n ?_
  intro Q hq1 hq2
  have hone := hC0.one
  have lx : (cI6 vc x).length = 6 := rfl
  have ox : (cI6 vc x).all Value.oneCell' = true := by simp only [cI6, List.all_cons, List.all_nil, hone]; rfl
  have kH := (Keeps.refl H).alloc (.cells true false 6 (cI6 vc x) 34)
  have his := hC0.is
  have hlen := hC0.len
  rw [CC, List.length_map] at hlen
  have ch := hx.1
  have hoc := hx.2
  have hno := hx.3
  have hre := hx.4
  simp (disch := (first | assumption | omega | (simp only [List.length_cons, List.length_nil] <;> omega) | (simp only [alloc_n, set_n] <;> omega) | (simp (disch := (first | assumption | omega | (simp only [alloc_n, set_n] <;> omega))) only [row_alloc, row_set]; assumption))) only [f48, W_block, ANs, A3s, AOp.map, ↓reduceIte, Nat.reduceAdd, Nat.reduceEqDiff, reduceCtorEq, initFr, Nat.reduceLT, clsA, List.take, List.drop, Nat.reduceLeDiff, Nat.reduceMul, Nat.reduceSub, reduceIte, ANc, A3c, ox, (cI6G vc x).2.1]
  refine callK (t90 _ _) ?_
  rintro _ _ ⟨rfl, rfl⟩
  cases h1 : cyB x.cy with
  | false =>
    simp (disch := (first | assumption | omega | (simp only [List.length_cons, List.length_nil] <;> omega) | (simp only [alloc_n, set_n] <;> omega) | (simp (disch := (first | assumption | omega | (simp only [alloc_n, set_n] <;> omega))) only [row_alloc, row_set]; assumption))) only [W_block, ANs, A3s, AOp.map, ↓reduceIte, Nat.reduceAdd, Nat.reduceEqDiff, reduceCtorEq, initFr, Nat.reduceLT, clsA, List.take, List.drop, Nat.reduceLeDiff, Nat.reduceMul, Nat.reduceSub, reduceIte, ANc, A3c]
    refine hq2 _ _ ⟨_, rfl, ?_⟩
    have e : fI6 x = [] := by unfold fI6 okI6; rw [h1]; rfl
    rw [e]
    exact (OB.nil _ _).base kH
  | true =>
  by_cases h2 : (8 : Int) < (x.cs.length : Int)
  · simp (disch := (first | assumption | omega | (simp only [List.length_cons, List.length_nil] <;> omega) | (simp only [alloc_n, set_n] <;> omega) | (simp (disch := (first | assumption | omega | (simp only [alloc_n, set_n] <;> omega))) only [row_alloc, row_set]; assumption))) only [W_block, ANs, A3s, AOp.map, ↓reduceIte, Nat.reduceAdd, Nat.reduceEqDiff, reduceCtorEq, initFr, Nat.reduceLT, clsA, List.take, List.drop, Nat.reduceLeDiff, Nat.reduceMul, Nat.reduceSub, reduceIte, ANc, A3c, (cI6G vc x).2.2.2.2.2, hlen]
    refine hq2 _ _ ⟨_, rfl, ?_⟩
    have e : fI6 x = [] := by
      unfold fI6 okI6
      rw [h1, show decide (x.cs.length ≤ 8) = false from by simp; omega]; rfl
    rw [e]
    exact (OB.nil _ _).base kH
  simp (disch := (first | assumption | omega | (simp only [List.length_cons, List.length_nil] <;> omega) | (simp only [alloc_n, set_n] <;> omega) | (simp (disch := (first | assumption | omega | (simp only [alloc_n, set_n] <;> omega))) only [row_alloc, row_set]; assumption))) only [W_block, ANs, A3s, AOp.map, ↓reduceIte, Nat.reduceAdd, Nat.reduceEqDiff, reduceCtorEq, initFr, Nat.reduceLT, clsA, List.take, List.drop, Nat.reduceLeDiff, Nat.reduceMul, Nat.reduceSub, reduceIte, ANc, A3c, (cI6G vc x).2.2.2.2.2, hlen]
  obtain ⟨H1, hH1⟩ : ∃ X, X = H.alloc (.cells true false 6 (cI6 vc x) 34) := ⟨_, rfl⟩
  have gx : H1.get H.n = some (.cells true false 6 (cI6 vc x) 34) := by rw [hH1]; exact AHeap.get_alloc_new _ _
  have px := AHeap.get_lt gx
  rw [← hH1] at kH ⊢
  have hC := hC0.keeps kH
  have wl : IntKind.u8.wrap (x.cs.length : Int) = (x.cs.length : Int) := by rw [wrap_u8]; omega
  simp (disch := (first | assumption | omega | (simp only [List.length_cons, List.length_nil] <;> omega) | (simp only [alloc_n, set_n] <;> omega) | (simp (disch := (first | assumption | omega | (simp only [alloc_n, set_n] <;> omega))) only [row_alloc, row_set]; assumption))) only [W_block, ANs, A3s, AOp.map, ↓reduceIte, Nat.reduceAdd, Nat.reduceEqDiff, reduceCtorEq, initFr, Nat.reduceLT, clsA, List.take, List.drop, Nat.reduceLeDiff, Nat.reduceMul, Nat.reduceSub, reduceIte, ANc, A3c, gx, (cI6G vc x).1, (cI6G vc x).2.1, (cI6G vc x).2.2.1, (cI6G vc x).2.2.2.1, (cI6G vc x).2.2.2.2.1, (cI6G vc x).2.2.2.2.2, hlen, fillu2]
  obtain ⟨K1, hK1⟩ : ∃ X, X = H1.alloc (.cells true false 1 [.int .u8 1, .int .u8 (x.ch : Nat)] 5) := ⟨_, rfl⟩
  have o1 : OB 5 H1 K1 (slc (H1.n) 0 2 2) [UInt8.ofNat 1, UInt8.ofNat x.ch] := by rw [hK1]; exact OB.lit (Keeps.refl H1) (cells2 (show 1 < 256 by omega) ch) rfl rfl false
  rw [← hK1]
  have k1 := o1.k
  simp (disch := (first | assumption | omega | (simp only [List.length_cons, List.length_nil] <;> omega) | (simp only [alloc_n, set_n] <;> omega) | (simp (disch := (first | assumption | omega | (simp only [alloc_n, set_n] <;> omega))) only [row_alloc, row_set, Keeps.row k1]; assumption))) only [Keeps.get k1, Keeps.row k1, W_block, ANs, A3s, AOp.map, ↓reduceIte, Nat.reduceAdd, Nat.reduceEqDiff, reduceCtorEq, initFr, Nat.reduceLT, clsA, List.take, List.drop, Nat.reduceLeDiff, Nat.reduceMul, Nat.reduceSub, reduceIte, ANc, A3c, gx, (cI6G vc x).1, (cI6G vc x).2.1, (cI6G vc x).2.2.1, (cI6G vc x).2.2.2.1, (cI6G vc x).2.2.2.2.1, (cI6G vc x).2.2.2.2.2, hlen, cy_nat h1]
  refine callK (t91 (x.cy.toNat) 8 (by omega) _) ?_
  rintro w1 L1 p1
  simp (disch := (first | assumption | omega | (simp only [List.length_cons, List.length_nil] <;> omega) | (simp only [alloc_n, set_n] <;> omega) | (simp (disch := (first | assumption | omega | (simp only [alloc_n, set_n] <;> omega))) only [row_alloc, row_set, Keeps.row k1]; assumption))) only [Keeps.get k1, Keeps.row k1, W_block, ANs, A3s, AOp.map, ↓reduceIte, Nat.reduceAdd, Nat.reduceEqDiff, reduceCtorEq, initFr, Nat.reduceLT, clsA, List.take, List.drop, Nat.reduceLeDiff, Nat.reduceMul, Nat.reduceSub, reduceIte, ANc, A3c, gx, (cI6G vc x).1, (cI6G vc x).2.1, (cI6G vc x).2.2.1, (cI6G vc x).2.2.2.1, (cI6G vc x).2.2.2.2.1, (cI6G vc x).2.2.2.2.2, hlen]
  refine (o1.keeps p1.k).appR p1.bs (by simp only [List.length_append, be_length, List.length_cons, List.length_nil]; omega) ?_
  intro v2 K2 o2
  have k2 := o2.k
  simp (disch := (first | assumption | omega | (simp only [List.length_cons, List.length_nil] <;> omega) | (simp only [alloc_n, set_n] <;> omega) | (simp (disch := (first | assumption | omega | (simp only [alloc_n, set_n] <;> omega))) only [row_alloc, row_set, Keeps.row k2]; assumption))) only [Keeps.get k2, Keeps.row k2, W_block, ANs, A3s, AOp.map, ↓reduceIte, Nat.reduceAdd, Nat.reduceEqDiff, reduceCtorEq, initFr, Nat.reduceLT, clsA, List.take, List.drop, Nat.reduceLeDiff, Nat.reduceMul, Nat.reduceSub, reduceIte, ANc, A3c, gx, (cI6G vc x).1, (cI6G vc x).2.1, (cI6G vc x).2.2.1, (cI6G vc x).2.2.2.1, (cI6G vc x).2.2.2.2.1, (cI6G vc x).2.2.2.2.2, hlen]
  refine callK (t91 (x.oc) 8 (by omega) _) ?_
  rintro w2 L2 p2
  simp (disch := (first | assumption | omega | (simp only [List.length_cons, List.length_nil] <;> omega) | (simp only [alloc_n, set_n] <;> omega) | (simp (disch := (first | assumption | omega | (simp only [alloc_n, set_n] <;> omega))) only [row_alloc, row_set, Keeps.row k2]; assumption))) only [Keeps.get k2, Keeps.row k2, W_block, ANs, A3s, AOp.map, ↓reduceIte, Nat.reduceAdd, Nat.reduceEqDiff, reduceCtorEq, initFr, Nat.reduceLT, clsA, List.take, List.drop, Nat.reduceLeDiff, Nat.reduceMul, Nat.reduceSub, reduceIte, ANc, A3c, gx, (cI6G vc x).1, (cI6G vc x).2.1, (cI6G vc x).2.2.1, (cI6G vc x).2.2.2.1, (cI6G vc x).2.2.2.2.1, (cI6G vc x).2.2.2.2.2, hlen]
  refine (o2.keeps p2.k).appR p2.bs (by simp only [List.length_append, be_length, List.length_cons, List.length_nil]; omega) ?_
  intro v3 K3 o3
  have k3 := o3.k
  simp (disch := (first | assumption | omega | (simp only [List.length_cons, List.length_nil] <;> omega) | (simp only [alloc_n, set_n] <;> omega) | (simp (disch := (first | assumption | omega | (simp only [alloc_n, set_n] <;> omega))) only [row_alloc, row_set, Keeps.row k3]; assumption))) only [Keeps.get k3, Keeps.row k3, W_block, ANs, A3s, AOp.map, ↓reduceIte, Nat.reduceAdd, Nat.reduceEqDiff, reduceCtorEq, initFr, Nat.reduceLT, clsA, List.take, List.drop, Nat.reduceLeDiff, Nat.reduceMul, Nat.reduceSub, reduceIte, ANc, A3c, gx, (cI6G vc x).1, (cI6G vc x).2.1, (cI6G vc x).2.2.1, (cI6G vc x).2.2.2.1, (cI6G vc x).2.2.2.2.1, (cI6G vc x).2.2.2.2.2, hlen, u64w (show x.no < 18446744073709551616 by omega)]
  refine callK (t91 (x.no) 4 (by omega) _) ?_
  rintro w3 L3 p3
  simp (disch := (first | assumption | omega | (simp only [List.length_cons, List.length_nil] <;> omega) | (simp only [alloc_n, set_n] <;> omega) | (simp (disch := (first | assumption | omega | (simp only [alloc_n, set_n] <;> omega))) only [row_alloc, row_set, Keeps.row k3]; assumption))) only [Keeps.get k3, Keeps.row k3, W_block, ANs, A3s, AOp.map, ↓reduceIte, Nat.reduceAdd, Nat.reduceEqDiff, reduceCtorEq, initFr, Nat.reduceLT, clsA, List.take, List.drop, Nat.reduceLeDiff, Nat.reduceMul, Nat.reduceSub, reduceIte, ANc, A3c, gx, (cI6G vc x).1, (cI6G vc x).2.1, (cI6G vc x).2.2.1, (cI6G vc x).2.2.2.1, (cI6G vc x).2.2.2.2.1, (cI6G vc x).2.2.2.2.2, hlen]
  refine (o3.keeps p3.k).appR p3.bs (by simp only [List.length_append, be_length, List.length_cons, List.length_nil]; omega) ?_
  intro v4 K4 o4
  have k4 := o4.k
  simp (disch := (first | assumption | omega | (simp only [List.length_cons, List.length_nil] <;> omega) | (simp only [alloc_n, set_n] <;> omega) | (simp (disch := (first | assumption | omega | (simp only [alloc_n, set_n] <;> omega))) only [row_alloc, row_set, Keeps.row k4]; assumption))) only [Keeps.get k4, Keeps.row k4, W_block, ANs, A3s, AOp.map, ↓reduceIte, Nat.reduceAdd, Nat.reduceEqDiff, reduceCtorEq, initFr, Nat.reduceLT, clsA, List.take, List.drop, Nat.reduceLeDiff, Nat.reduceMul, Nat.reduceSub, reduceIte, ANc, A3c, gx, (cI6G vc x).1, (cI6G vc x).2.1, (cI6G vc x).2.2.1, (cI6G vc x).2.2.2.1, (cI6G vc x).2.2.2.2.1, (cI6G vc x).2.2.2.2.2, hlen, u64w (show x.re < 18446744073709551616 by omega)]
  refine callK (t91 (x.re) 4 (by omega) _) ?_
  rintro w4 L4 p4
  simp (disch := (first | assumption | omega | (simp only [List.length_cons, List.length_nil] <;> omega) | (simp only [alloc_n, set_n] <;> omega) | (simp (disch := (first | assumption | omega | (simp only [alloc_n, set_n] <;> omega))) only [row_alloc, row_set, Keeps.row k4]; assumption))) only [Keeps.get k4, Keeps.row k4, W_block, ANs, A3s, AOp.map, ↓reduceIte, Nat.reduceAdd, Nat.reduceEqDiff, reduceCtorEq, initFr, Nat.reduceLT, clsA, List.take, List.drop, Nat.reduceLeDiff, Nat.reduceMul, Nat.reduceSub, reduceIte, ANc, A3c, gx, (cI6G vc x).1, (cI6G vc x).2.1, (cI6G vc x).2.2.1, (cI6G vc x).2.2.2.1, (cI6G vc x).2.2.2.2.1, (cI6G vc x).2.2.2.2.2, hlen]
  refine (o4.keeps p4.k).appR p4.bs (by simp only [List.length_append, be_length, List.length_cons, List.length_nil]; omega) ?_
  intro v5 K5 o5
  have k5 := o5.k
  simp (disch := (first | assumption | omega | (simp only [List.length_cons, List.length_nil] <;> omega) | (simp only [alloc_n, set_n] <;> omega) | (simp (disch := (first | assumption | omega | (simp only [alloc_n, set_n] <;> omega))) only [row_alloc, row_set, Keeps.row k5]; assumption))) only [Keeps.get k5, Keeps.row k5, W_block, ANs, A3s, AOp.map, ↓reduceIte, Nat.reduceAdd, Nat.reduceEqDiff, reduceCtorEq, initFr, Nat.reduceLT, clsA, List.take, List.drop, Nat.reduceLeDiff, Nat.reduceMul, Nat.reduceSub, reduceIte, ANc, A3c, gx, (cI6G vc x).1, (cI6G vc x).2.1, (cI6G vc x).2.2.1, (cI6G vc x).2.2.2.1, (cI6G vc x).2.2.2.2.1, (cI6G vc x).2.2.2.2.2, hlen, wl]
  have o6 : OB 5 H1 (K5.alloc (.cells true false 1 [.int .u8 (x.cs.length : Nat)] 5)) (slc K5.n 0 1 1) [UInt8.ofNat x.cs.length] := OB.lit k5 (cells1 (show x.cs.length < 256 by omega)) rfl rfl false
  refine (o5.keeps ((Keeps.refl K5).alloc _)).appR o6.bs (by simp only [List.length_append, be_length, List.length_cons, List.length_nil]; omega) ?_
  intro v7 K7 o7
  have k7 := o7.k
  simp (disch := (first | assumption | omega | (simp only [List.length_cons, List.length_nil] <;> omega) | (simp only [alloc_n, set_n] <;> omega) | (simp (disch := (first | assumption | omega | (simp only [alloc_n, set_n] <;> omega))) only [row_alloc, row_set, Keeps.row k7]; assumption))) only [Keeps.get k7, Keeps.row k7, W_block, ANs, A3s, AOp.map, ↓reduceIte, Nat.reduceAdd, Nat.reduceEqDiff, reduceCtorEq, initFr, Nat.reduceLT, clsA, List.take, List.drop, Nat.reduceLeDiff, Nat.reduceMul, Nat.reduceSub, reduceIte, ANc, A3c, gx, (cI6G vc x).1, (cI6G vc x).2.1, (cI6G vc x).2.2.1, (cI6G vc x).2.2.2.1, (cI6G vc x).2.2.2.2.1, (cI6G vc x).2.2.2.2.2, hlen]
  refine W_loop2 (fun q fr K => ∃ (i : Nat) (v pc e f : Value), i ≤ x.cs.length ∧ q = x.cs.length - i ∧ (∀ j (hj : j < x.cs.length), j < i → cmB x.cs[j] = true) ∧ OB 5 H1 K v ([UInt8.ofNat 1, UInt8.ofNat x.ch] ++ be 8 x.cy.toNat ++ be 8 x.oc ++ be 4 x.no ++ be 4 x.re ++ [UInt8.ofNat x.cs.length] ++ enCs (x.cs.take i)) ∧
    fr = [.agg (cI6 vc x).toArray, ptr H.n 0, .slice none 0 0, v, .int .i64 i, pc, .bool false, e, f]) x.cs.length ⟨0, v7, undef, undef, undef, by omega, rfl, by intro j _ h; omega, by simpa [enCs] using o7, rfl⟩ ?_
  rintro Q' q fr K ⟨i, v, pc, e, f, hi, rfl, hall, o8, rfl⟩ hnx hex hrt
  have k8 := o8.k
  by_cases hc : i < x.cs.length
  · obtain ⟨hnn, hrow⟩ := (hC.keeps k8).at_ (by omega) (i := i) (by simpa [CC] using hc)
    simp only [CC, List.getElem_map] at hrow
    obtain ⟨y, hy⟩ : ∃ y, y = x.cs[i] := ⟨_, rfl⟩
    rw [← hy] at hrow
    simp (disch := (first | assumption | omega | (simp only [List.length_cons, List.length_nil] <;> omega) | (simp only [alloc_n, set_n] <;> omega) | (simp (disch := (first | assumption | omega | (simp only [alloc_n, set_n] <;> omega))) only [row_alloc, row_set, Keeps.row k8]; assumption))) only [Keeps.get k8, Keeps.row k8, W_block, ANs, A3s, AOp.map, ↓reduceIte, Nat.reduceAdd, Nat.reduceEqDiff, reduceCtorEq, initFr, Nat.reduceLT, clsA, List.take, List.drop, Nat.reduceLeDiff, Nat.reduceMul, Nat.reduceSub, reduceIte, ANc, A3c, gx, (cI6G vc x).1, (cI6G vc x).2.1, (cI6G vc x).2.2.1, (cI6G vc x).2.2.2.1, (cI6G vc x).2.2.2.2.1, (cI6G vc x).2.2.2.2.2, hlen]
    by_cases hb : cmB y = true
    rotate_left
    · have e : fI6 x = [] := by
        unfold fI6
        rw [if_neg]
        intro h
        have := (okI6_iff.1 h).2.2 x.cs[i] (List.getElem_mem hc)
        rw [← hy] at this
        exact hb (cmB_iff.2 this)
      have hno : (y.1 : Int) < 1 ∨ 3 < (y.1 : Int) ∨ y.2 < 0 ∨ 63 < y.2 := by
        by_cases h0 : (y.1 : Int) < 1 ∨ 3 < (y.1 : Int) ∨ y.2 < 0 ∨ 63 < y.2
        · exact h0
        · exact absurd (cmB_iff.2 (by omega)) hb
      by_cases c1 : (y.1 : Int) < 1
      · simp (disch := (first | assumption | omega | (simp only [List.length_cons, List.length_nil] <;> omega) | (simp only [alloc_n, set_n] <;> omega) | (simp (disch := (first | assumption | omega | (simp only [alloc_n, set_n] <;> omega))) only [row_alloc, row_set, Keeps.row k8]; assumption))) only [Keeps.get k8, Keeps.row k8, W_block, ANs, A3s, AOp.map, ↓reduceIte, Nat.reduceAdd, Nat.reduceEqDiff, reduceCtorEq, initFr, Nat.reduceLT, clsA, List.take, List.drop, Nat.reduceLeDiff, Nat.reduceMul, Nat.reduceSub, reduceIte, ANc, A3c, gx, (cI6G vc x).1, (cI6G vc x).2.1, (cI6G vc x).2.2.1, (cI6G vc x).2.2.2.1, (cI6G vc x).2.2.2.2.1, (cI6G vc x).2.2.2.2.2, hlen]
        refine hrt _ _ ?_
        simp (disch := (first | assumption | omega | (simp only [List.length_cons, List.length_nil] <;> omega) | (simp only [alloc_n, set_n] <;> omega) | (simp (disch := (first | assumption | omega | (simp only [alloc_n, set_n] <;> omega))) only [row_alloc, row_set]; assumption))) only [W_block, ANs, A3s, AOp.map, ↓reduceIte, Nat.reduceAdd, Nat.reduceEqDiff, reduceCtorEq, initFr, Nat.reduceLT, clsA, List.take, List.drop, Nat.reduceLeDiff, Nat.reduceMul, Nat.reduceSub, reduceIte, ANc, A3c]
        refine hq2 _ _ ⟨_, rfl, ?_⟩
        rw [e]
        exact (OB.nil _ _).base (kH.trans (k8.alloc _))
      by_cases c2 : 3 < (y.1 : Int)
      · simp (disch := (first | assumption | omega | (simp only [List.length_cons, List.length_nil] <;> omega) | (simp only [alloc_n, set_n] <;> omega) | (simp (disch := (first | assumption | omega | (simp only [alloc_n, set_n] <;> omega))) only [row_alloc, row_set, Keeps.row k8]; assumption))) only [Keeps.get k8, Keeps.row k8, W_block, ANs, A3s, AOp.map, ↓reduceIte, Nat.reduceAdd, Nat.reduceEqDiff, reduceCtorEq, initFr, Nat.reduceLT, clsA, List.take, List.drop, Nat.reduceLeDiff, Nat.reduceMul, Nat.reduceSub, reduceIte, ANc, A3c, gx, (cI6G vc x).1, (cI6G vc x).2.1, (cI6G vc x).2.2.1, (cI6G vc x).2.2.2.1, (cI6G vc x).2.2.2.2.1, (cI6G vc x).2.2.2.2.2, hlen]
        refine hrt _ _ ?_
        simp (disch := (first | assumption | omega | (simp only [List.length_cons, List.length_nil] <;> omega) | (simp only [alloc_n, set_n] <;> omega) | (simp (disch := (first | assumption | omega | (simp only [alloc_n, set_n] <;> omega))) only [row_alloc, row_set]; assumption))) only [W_block, ANs, A3s, AOp.map, ↓reduceIte, Nat.reduceAdd, Nat.reduceEqDiff, reduceCtorEq, initFr, Nat.reduceLT, clsA, List.take, List.drop, Nat.reduceLeDiff, Nat.reduceMul, Nat.reduceSub, reduceIte, ANc, A3c]
        refine hq2 _ _ ⟨_, rfl, ?_⟩
        rw [e]
        exact (OB.nil _ _).base (kH.trans (k8.alloc _))
      by_cases c3 : y.2 < 0
      · simp (disch := (first | assumption | omega | (simp only [List.length_cons, List.length_nil] <;> omega) | (simp only [alloc_n, set_n] <;> omega) | (simp (disch := (first | assumption | omega | (simp only [alloc_n, set_n] <;> omega))) only [row_alloc, row_set, Keeps.row k8]; assumption))) only [Keeps.get k8, Keeps.row k8, W_block, ANs, A3s, AOp.map, ↓reduceIte, Nat.reduceAdd, Nat.reduceEqDiff, reduceCtorEq, initFr, Nat.reduceLT, clsA, List.take, List.drop, Nat.reduceLeDiff, Nat.reduceMul, Nat.reduceSub, reduceIte, ANc, A3c, gx, (cI6G vc x).1, (cI6G vc x).2.1, (cI6G vc x).2.2.1, (cI6G vc x).2.2.2.1, (cI6G vc x).2.2.2.2.1, (cI6G vc x).2.2.2.2.2, hlen]
        refine hrt _ _ ?_
        simp (disch := (first | assumption | omega | (simp only [List.length_cons, List.length_nil] <;> omega) | (simp only [alloc_n, set_n] <;> omega) | (simp (disch := (first | assumption | omega | (simp only [alloc_n, set_n] <;> omega))) only [row_alloc, row_set]; assumption))) only [W_block, ANs, A3s, AOp.map, ↓reduceIte, Nat.reduceAdd, Nat.reduceEqDiff, reduceCtorEq, initFr, Nat.reduceLT, clsA, List.take, List.drop, Nat.reduceLeDiff, Nat.reduceMul, Nat.reduceSub, reduceIte, ANc, A3c]
        refine hq2 _ _ ⟨_, rfl, ?_⟩
        rw [e]
        exact (OB.nil _ _).base (kH.trans (k8.alloc _))
      have c4 : 63 < y.2 := by omega
      simp (disch := (first | assumption | omega | (simp only [List.length_cons, List.length_nil] <;> omega) | (simp only [alloc_n, set_n] <;> omega) | (simp (disch := (first | assumption | omega | (simp only [alloc_n, set_n] <;> omega))) only [row_alloc, row_set, Keeps.row k8]; assumption))) only [Keeps.get k8, Keeps.row k8, W_block, ANs, A3s, AOp.map, ↓reduceIte, Nat.reduceAdd, Nat.reduceEqDiff, reduceCtorEq, initFr, Nat.reduceLT, clsA, List.take, List.drop, Nat.reduceLeDiff, Nat.reduceMul, Nat.reduceSub, reduceIte, ANc, A3c, gx, (cI6G vc x).1, (cI6G vc x).2.1, (cI6G vc x).2.2.1, (cI6G vc x).2.2.2.1, (cI6G vc x).2.2.2.2.1, (cI6G vc x).2.2.2.2.2, hlen]
      refine hrt _ _ ?_
      simp (disch := (first | assumption | omega | (simp only [List.length_cons, List.length_nil] <;> omega) | (simp only [alloc_n, set_n] <;> omega) | (simp (disch := (first | assumption | omega | (simp only [alloc_n, set_n] <;> omega))) only [row_alloc, row_set]; assumption))) only [W_block, ANs, A3s, AOp.map, ↓reduceIte, Nat.reduceAdd, Nat.reduceEqDiff, reduceCtorEq, initFr, Nat.reduceLT, clsA, List.take, List.drop, Nat.reduceLeDiff, Nat.reduceMul, Nat.reduceSub, reduceIte, ANc, A3c]
      refine hq2 _ _ ⟨_, rfl, ?_⟩
      rw [e]
      exact (OB.nil _ _).base (kH.trans (k8.alloc _))
    obtain ⟨c1, c2, c3, c4⟩ := cmB_iff.1 hb
    have w2 : IntKind.u8.wrap y.2 = ((y.2.toNat : Nat) : Int) := by rw [wrap_u8]; omega
    simp (disch := (first | assumption | omega | (simp only [List.length_cons, List.length_nil] <;> omega) | (simp only [alloc_n, set_n] <;> omega) | (simp (disch := (first | assumption | omega | (simp only [alloc_n, set_n] <;> omega))) only [row_alloc, row_set, Keeps.row k8]; assumption))) only [Keeps.get k8, Keeps.row k8, W_block, ANs, A3s, AOp.map, ↓reduceIte, Nat.reduceAdd, Nat.reduceEqDiff, reduceCtorEq, initFr, Nat.reduceLT, clsA, List.take, List.drop, Nat.reduceLeDiff, Nat.reduceMul, Nat.reduceSub, reduceIte, ANc, A3c, gx, (cI6G vc x).1, (cI6G vc x).2.1, (cI6G vc x).2.2.1, (cI6G vc x).2.2.2.1, (cI6G vc x).2.2.2.2.1, (cI6G vc x).2.2.2.2.2, hlen, fillu2, w2]
    have o9 : OB 5 H1 ((K.alloc (.cells true false 2 [.int .u8 (y.1 : Nat), .int .i64 y.2] 108)).alloc (.cells true false 1 [.int .u8 (y.1 : Nat), .int .u8 (y.2.toNat : Nat)] 5)) (slc (K.n + 1) 0 2 2) [UInt8.ofNat y.1, UInt8.ofNat y.2.toNat] :=
      OB.lit (k8.alloc _) (cells2 (by omega) (by omega)) rfl rfl false
    refine (o8.keeps (((Keeps.refl K).alloc _).alloc _)).appR o9.bs (by simp only [List.length_append, be_length, List.length_cons, List.length_nil, enCs_len, List.length_take]; omega) ?_
    intro v10 K10 o10
    simp (disch := (first | assumption | omega | (simp only [List.length_cons, List.length_nil] <;> omega) | (simp only [alloc_n, set_n] <;> omega) | (simp (disch := (first | assumption | omega | (simp only [alloc_n, set_n] <;> omega))) only [row_alloc, row_set]; assumption))) only [W_block, ANs, A3s, AOp.map, ↓reduceIte, Nat.reduceAdd, Nat.reduceEqDiff, reduceCtorEq, initFr, Nat.reduceLT, clsA, List.take, List.drop, Nat.reduceLeDiff, Nat.reduceMul, Nat.reduceSub, reduceIte, ANc, A3c, wrap_succ (n := i) (by omega)]
    refine hnx _ _ _ ⟨i + 1, v10, _, _, _, by omega, rfl, ?_, ?_, rfl⟩ (by omega)
    · intro j hj hji
      by_cases hjk : j < i
      · exact hall j hj hjk
      · have : j = i := by omega
        subst this
        rw [← hy]; exact hb
    · rw [List.take_succ_eq_append_getElem hc, enCs_app, ← hy]
      have e1 : enCs [y] = [UInt8.ofNat y.1, UInt8.ofNat y.2.toNat] := by simp [enCs, be1]
      rw [e1]
      simp only [List.append_assoc] at o10 ⊢
      exact o10
  · simp (disch := (first | assumption | omega | (simp only [List.length_cons, List.length_nil] <;> omega) | (simp only [alloc_n, set_n] <;> omega) | (simp (disch := (first | assumption | omega | (simp only [alloc_n, set_n] <;> omega))) only [row_alloc, row_set, Keeps.row k8]; assumption))) only [Keeps.get k8, Keeps.row k8, W_block, ANs, A3s, AOp.map, ↓reduceIte, Nat.reduceAdd, Nat.reduceEqDiff, reduceCtorEq, initFr, Nat.reduceLT, clsA, List.take, List.drop, Nat.reduceLeDiff, Nat.reduceMul, Nat.reduceSub, reduceIte, ANc, A3c, gx, (cI6G vc x).1, (cI6G vc x).2.1, (cI6G vc x).2.2.1, (cI6G vc x).2.2.2.1, (cI6G vc x).2.2.2.2.1, (cI6G vc x).2.2.2.2.2, hlen]
    refine hex _ _ _ ?_
    have hil : i = x.cs.length := by omega
    subst hil
    rw [List.take_of_length_le (Nat.le_refl _)] at o8
    simp (disch := (first | assumption | omega | (simp only [List.length_cons, List.length_nil] <;> omega) | (simp only [alloc_n, set_n] <;> omega) | (simp (disch := (first | assumption | omega | (simp only [alloc_n, set_n] <;> omega))) only [row_alloc, row_set]; assumption))) only [W_block, ANs, A3s, AOp.map, ↓reduceIte, Nat.reduceAdd, Nat.reduceEqDiff, reduceCtorEq, initFr, Nat.reduceLT, clsA, List.take, List.drop, Nat.reduceLeDiff, Nat.reduceMul, Nat.reduceSub, reduceIte, ANc, A3c]
    refine callK (t92 o8 (by simp only [List.length_append, be_length, List.length_cons, List.length_nil, enCs_len]; omega)) ?_
    rintro v10 K10 o10
    simp (disch := (first | assumption | omega | (simp only [List.length_cons, List.length_nil] <;> omega) | (simp only [alloc_n, set_n] <;> omega) | (simp (disch := (first | assumption | omega | (simp only [alloc_n, set_n] <;> omega))) only [row_alloc, row_set]; assumption))) only [W_block, ANs, A3s, AOp.map, ↓reduceIte, Nat.reduceAdd, Nat.reduceEqDiff, reduceCtorEq, initFr, Nat.reduceLT, clsA, List.take, List.drop, Nat.reduceLeDiff, Nat.reduceMul, Nat.reduceSub, reduceIte, ANc, A3c]
    refine hq2 _ _ ⟨_, rfl, ?_⟩
    have e : fI6 x = chk ([UInt8.ofNat 1, UInt8.ofNat x.ch] ++ be 8 x.cy.toNat ++ be 8 x.oc ++ be 4 x.no ++ be 4 x.re ++ [UInt8.ofNat x.cs.length] ++ enCs x.cs) := by
      unfold fI6
      rw [if_pos (okI6_iff.2 ⟨cyB_iff.1 h1, by omega, fun c hc => by
        obtain ⟨j, hj, rfl⟩ := List.mem_iff_getElem.1 hc
        exact cmB_iff.1 (hall j hj hj)⟩)]
      unfold enI6
      simp only [be1, List.append_assoc, List.cons_append, List.nil_append]
      rfl
    rw [e]
    exact o10.base kH
end Go.AM.Fd

set_option linter.unusedSimpArgs false
set_option linter.unusedVariables false
namespace Go.AM.Fd
open Go.Proofs Go.AM.F
theorem geOu_of {x : Ou} (hr : rgOu x) {b : List UInt8} (hb : b ≠ []) (h : fOu x = b) : geOu b = some x := by
  unfold fOu at h
  split at h
  · rename_i hok
    subst h
    unfold geOu
    have e : frm 2 (chk (2 :: enOu x)) = true := frm_chk (k := 2) _
    rw [if_pos e, bd_chk, pdOu_d hok hr]
  · exact absurd h.symm hb
def GotB (c : List Value) (ok : Bool) : Value := .tuple #[.agg c.toArray, .bool ok]
theorem GotB.nv {ρ : Nat → Option Nat} {c : List Value} (h : c.all plain1 = true) (ok : Bool) : NV ρ (GotB c ok) (GotB c ok) :=
  NV.tuple_of (.cons (NV.agg_of (NL.plain h)) (.cons (.bool ok) .nil))
theorem cOuL (x : Ou) : (cOu x).length = 5 := rfl
theorem cOuO (x : Ou) : (cOu x).all Value.oneCell' = true := rfl
end Go.AM.Fd

set_option linter.unusedSimpArgs false
set_option linter.unusedVariables false
namespace Go.AM.Fd
open Go.Proofs Go.AM.F
def cLs (x : Li) : List Value := cLi (strB x.B) x
theorem cLsL (x : Li) : (cLs x).length = 5 := rfl
theorem cLsO (x : Li) : (cLs x).all Value.oneCell' = true := rfl
theorem cLs_plain (x : Li) : (cLs x).all plain1 = true := rfl
theorem fillLs (f t : Nat) (q k : Int) (B : List UInt8) : fillA [.int .u8 0, .int .u8 0, .int .i64 0, .int .i64 0, .string ByteArray.empty] [(0, 1, .int .u8 (f : Nat)), (1, 1, .int .u8 (t : Nat)), (2, 1, .int .i64 q), (3, 1, .int .i64 k), (4, 1, .string ⟨B.toArray⟩)] = some (cLs ⟨f, t, q, k, B⟩) := rfl
end Go.AM.Fd

set_option linter.unusedSimpArgs false
set_option linter.unusedVariables false
namespace Go.AM.Fd
open Go.Proofs Go.AM.F
theorem cI6L (v : Value) (x : I6) : (cI6 v x).length = 6 := rfl
end Go.AM.Fd
