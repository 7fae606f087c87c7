/- Part of the proof. -/
import Derived.Test.YtngnahfbgilapaaGGets05
set_option linter.unusedSimpArgs false
set_option linter.unusedVariables false
set_option linter.unusedSimpArgs false
set_option linter.unusedVariables false
namespace Go.AM.Fd
open Go.Proofs Go.AM.F
def tR (b : List UInt8) (s i : Nat) : List UInt8 := (List.range i).map (fun j => UInt8.ofNat (na b (s + j) 1)) ++ List.replicate (64 - i) 0
def deR (b : List UInt8) (s : Nat) : St := ⟨na b s 8, na b (s + 8) 8, na b (s + 16) 8, tR b (s + 24) 64, na b (s + 88) 4⟩
theorem tR_len (b : List UInt8) (s : Nat) {i : Nat} (h : i ≤ 64) : (tR b s i).length = 64 := by simp [tR]; omega
theorem tR_set (b : List UInt8) (s : Nat) {i : Nat} (h : i < 64) : (tR b s i).set i (UInt8.ofNat (na b (s + i) 1)) = tR b s (i + 1) := by
  unfold tR
  rw [List.set_append_right _ _ (by simp)]
  simp only [List.length_map, List.length_range, Nat.sub_self]
  rw [show 64 - i = (64 - (i + 1)) + 1 by omega, List.replicate_succ, List.set_cons_zero, List.range_succ, List.map_append]
  simp
theorem tR_in {b : List UInt8} {s : Nat} (h : s + 64 ≤ b.length) : tR b s 64 = (b.drop s).take 64 := by
  apply List.ext_getElem?
  intro i
  by_cases hi : i < 64
  · rw [List.getElem?_take_of_lt hi, List.getElem?_drop]
    unfold tR
    rw [List.getElem?_append_left (by simpa using hi)]
    simp only [List.getElem?_map, List.getElem?_range hi, Option.map_some]
    rw [na_one (by omega), List.getElem?_eq_getElem (by omega)]
    simp
  · rw [List.getElem?_eq_none (by rw [tR_len _ _ (Nat.le_refl _)]; omega), List.getElem?_eq_none (by rw [List.length_take]; omega)]
theorem deR_rg (b : List UInt8) (s : Nat) : rgSt (deR b s) := ⟨tR_len b _ (Nat.le_refl _), na8 b _, na8 b _, na8 b _, na4 b _⟩
theorem deR_in {b : List UInt8} {s : Nat} (h : s + 92 + 5 ≤ b.length) : deR b (s + 1) = deSt (bd b) s := by
  unfold deR deSt
  rw [na_bd (s := s) (by omega), show s + 1 + 8 = s + 8 + 1 by omega, na_bd (s := s + 8) (by omega), show s + 1 + 16 = s + 16 + 1 by omega, na_bd (s := s + 16) (by omega), show s + 1 + 88 = s + 88 + 1 by omega, na_bd (s := s + 88) (by omega)]
  rw [tR_in (by omega), tmr_in (by rw [bd_len]; omega)]
  unfold bd
  rw [List.drop_take, List.take_take, List.drop_drop, Nat.min_eq_left (by omega), show 1 + (s + 24) = s + 1 + 24 by omega]
theorem fillS4 (a b c p : Nat) : fillA Z68 [(0, 1, .int .u64 (a : Nat)), (1, 1, .int .u64 (b : Nat)), (2, 1, .int .u64 (c : Nat)), (67, 1, .int .u32 (p : Nat))] = some (cSt ⟨a, b, c, Z64, p⟩) := rfl
theorem cSt_setT {x : St} {i n : Nat} (hi : i < x.t.length) (hn : n < 256) : (cSt x).set (3 + i) (.int .u8 (n : Nat)) = cSt { x with t := x.t.set i (UInt8.ofNat n) } := by
  have e : (Value.int .u8 (n : Nat)) = .int .u8 ((UInt8.ofNat n).toNat : Nat) := by
    congr 1
    simp only [UInt8.toNat_ofNat']
    omega
  unfold cSt
  rw [show 3 + i = i + 1 + 1 + 1 by omega, List.set_cons_succ, List.set_cons_succ, List.set_cons_succ, List.set_append_left _ _ (by rw [cellsOf_length]; exact hi), e, cells_set]
theorem cSt_plain (x : St) : (cSt x).all plain1 = true := by
  have : (cellsOf x.t).all plain1 = true := by
    rw [List.all_eq_true]
    intro v hv
    simp only [cellsOf, List.mem_map] at hv
    obtain ⟨b, _, rfl⟩ := hv
    rfl
  simp only [cSt, List.all_cons, List.all_append, this]
  rfl
theorem cLo_plain (x : Lo) : (cLo x).all plain1 = true := by
  simp only [cLo, List.all_cons, cSt_plain]
  rfl
theorem t71 {H : AHeap} {v : Value} {b : List UInt8} (hb : BQ H v b) (s : Nat) (hs : s ≤ 1000) (hl : b.length ≤ 1000000000) : ∃ w H', ARun Go.Proofs.Try.prog 0 71 [v, .int .i64 (s : Nat)] H w H' ∧ w = .agg (cSt (deR b s)).toArray ∧ H' = H := by
  suffices h : ∃ w H', ARun Go.Proofs.Try.prog 0 71 [v, .int .i64 (s : Nat)] H w H' ∧ w = .agg (cSt (deR b s)).toArray ∧ Keeps H H' by
    obtain ⟨_, _, a, rfl, k⟩ := h
    exact ⟨_, _, a.gc0 k (.inr (NV.agg_of (NL.plain (cSt_plain _)))), rfl, rfl⟩
  refine walk2 f71_ok f71_n ?_
  intro Q hq1 hq2
  have hr : ∀ fr H', resO f71.res fr H' = (celln 68 (fr.getD 2 undef) H') := fun fr H' => resC 2 68 fr
  have lz : Z68.length = 68 := rfl
  have ozz : Z68.all Value.oneCell' = true := rfl
  have k0 := (Keeps.refl H).alloc (.cells true false 68 Z68 51)
  have w8 : IntKind.i64.wrap ((s : Int) + 8) = ((s + 8 : Nat) : Int) := by rw [wrap_i64 (by omega) (by omega)]; push_cast; rfl
  have w16 : IntKind.i64.wrap ((s : Int) + 16) = ((s + 16 : Nat) : Int) := by rw [wrap_i64 (by omega) (by omega)]; push_cast; rfl
  have w88 : IntKind.i64.wrap ((s : Int) + 88) = ((s + 88 : Nat) : Int) := by rw [wrap_i64 (by omega) (by omega)]; push_cast; rfl
  have w24 : IntKind.i64.wrap ((s : Int) + 24) = ((s + 24 : Nat) : Int) := by rw [wrap_i64 (by omega) (by omega)]; push_cast; rfl
  have w4 : IntKind.u32.wrap (na b (s + 88) 4 : Nat) = (na b (s + 88) 4 : Nat) := by have := na4 b (s + 88); rw [wrap_u32]; omega
  simp (disch := (first | assumption | omega | (simp only [List.length_cons, List.length_nil] <;> omega) | (simp only [alloc_n, set_n] <;> omega) | (simp (disch := (first | assumption | omega | (simp only [alloc_n, set_n] <;> omega))) only [row_alloc, row_set]; assumption))) only [f71, W_block, ANs, A3s, AOp.map, ↓reduceIte, Nat.reduceAdd, Nat.reduceEqDiff, reduceCtorEq, initFr, Nat.reduceLT, clsA, List.take, List.drop, Nat.reduceLeDiff, Nat.reduceMul, Nat.reduceSub, reduceIte, ANc, A3c, ozz]
  refine callK (t67 (hb.keeps k0) s 8 (by omega) (by omega) hl) ?_
  rintro _ _ ⟨rfl, rfl⟩
  simp (disch := (first | assumption | omega | (simp only [List.length_cons, List.length_nil] <;> omega) | (simp only [alloc_n, set_n] <;> omega) | (simp (disch := (first | assumption | omega | (simp only [alloc_n, set_n] <;> omega))) only [row_alloc, row_set]; assumption))) only [W_block, ANs, A3s, AOp.map, ↓reduceIte, Nat.reduceAdd, Nat.reduceEqDiff, reduceCtorEq, initFr, Nat.reduceLT, clsA, List.take, List.drop, Nat.reduceLeDiff, Nat.reduceMul, Nat.reduceSub, reduceIte, ANc, A3c, w8]
  refine callK (t67 (hb.keeps k0) (s + 8) 8 (by omega) (by omega) hl) ?_
  rintro _ _ ⟨rfl, rfl⟩
  simp (disch := (first | assumption | omega | (simp only [List.length_cons, List.length_nil] <;> omega) | (simp only [alloc_n, set_n] <;> omega) | (simp (disch := (first | assumption | omega | (simp only [alloc_n, set_n] <;> omega))) only [row_alloc, row_set]; assumption))) only [W_block, ANs, A3s, AOp.map, ↓reduceIte, Nat.reduceAdd, Nat.reduceEqDiff, reduceCtorEq, initFr, Nat.reduceLT, clsA, List.take, List.drop, Nat.reduceLeDiff, Nat.reduceMul, Nat.reduceSub, reduceIte, ANc, A3c, w16]
  refine callK (t67 (hb.keeps k0) (s + 16) 8 (by omega) (by omega) hl) ?_
  rintro _ _ ⟨rfl, rfl⟩
  simp (disch := (first | assumption | omega | (simp only [List.length_cons, List.length_nil] <;> omega) | (simp only [alloc_n, set_n] <;> omega) | (simp (disch := (first | assumption | omega | (simp only [alloc_n, set_n] <;> omega))) only [row_alloc, row_set]; assumption))) only [W_block, ANs, A3s, AOp.map, ↓reduceIte, Nat.reduceAdd, Nat.reduceEqDiff, reduceCtorEq, initFr, Nat.reduceLT, clsA, List.take, List.drop, Nat.reduceLeDiff, Nat.reduceMul, Nat.reduceSub, reduceIte, ANc, A3c, w88]
  refine callK (t67 (hb.keeps k0) (s + 88) 4 (by omega) (by omega) hl) ?_
  rintro _ _ ⟨rfl, rfl⟩
  have lS : ∀ a b c p : Nat, (cSt ⟨a, b, c, Z64, p⟩).length = 68 := fun a b c p => cSt_len (x := ⟨a, b, c, Z64, p⟩) rfl
  simp (disch := (first | assumption | omega | (simp only [List.length_cons, List.length_nil] <;> omega) | (simp only [alloc_n, set_n] <;> omega) | (simp (disch := (first | assumption | omega | (simp only [alloc_n, set_n] <;> omega))) only [row_alloc, row_set]; assumption))) only [W_block, ANs, A3s, AOp.map, ↓reduceIte, Nat.reduceAdd, Nat.reduceEqDiff, reduceCtorEq, initFr, Nat.reduceLT, clsA, List.take, List.drop, Nat.reduceLeDiff, Nat.reduceMul, Nat.reduceSub, reduceIte, ANc, A3c, w4, fillS4, ozz, lS, cSt_one]
  refine W_loop2 (fun q fr K => ∃ (i : Nat) (e : Value), i ≤ 64 ∧ q = 64 - i ∧ K = (H.alloc (.cells true false 68 Z68 51)).alloc (.cells true false 68 (cSt ⟨na b s 8, na b (s + 8) 8, na b (s + 16) 8, tR b (s + 24) i, na b (s + 88) 4⟩) 51) ∧ fr = [v, .int .i64 (s : Nat), ptr H.n 0, ptr (H.n + 1) 0, .int .i64 i, e]) 64 ⟨0, undef, by omega, rfl, rfl, rfl⟩ ?_
  rintro Q' q fr K ⟨i, e, hi, rfl, rfl, rfl⟩ hnx hex hrt
  by_cases hc : i < 64
  · have wi : IntKind.i64.wrap (((s + 24 : Nat) : Int) + (i : Int)) = ((s + 24 + i : Nat) : Int) := by rw [wrap_i64 (by omega) (by omega)]; push_cast; rfl
    simp (disch := (first | assumption | omega | (simp only [List.length_cons, List.length_nil] <;> omega) | (simp only [alloc_n, set_n] <;> omega) | (simp (disch := (first | assumption | omega | (simp only [alloc_n, set_n] <;> omega))) only [row_alloc, row_set]; assumption))) only [W_block, ANs, A3s, AOp.map, ↓reduceIte, Nat.reduceAdd, Nat.reduceEqDiff, reduceCtorEq, initFr, Nat.reduceLT, clsA, List.take, List.drop, Nat.reduceLeDiff, Nat.reduceMul, Nat.reduceSub, reduceIte, ANc, A3c, w24, wi]
    refine callK (t67 ((hb.keeps k0).keeps ((Keeps.refl _).alloc _)) (s + 24 + i) 1 (by omega) (by omega) hl) ?_
    rintro _ _ ⟨rfl, rfl⟩
    have h1 := na1 b (s + 24 + i)
    have wu : IntKind.u8.wrap (na b (s + 24 + i) 1 : Nat) = (na b (s + 24 + i) 1 : Nat) := by rw [wrap_u8]; omega
    have lt := tR_len b (s + 24) hi
    have ll := cSt_len (x := ⟨na b s 8, na b (s + 8) 8, na b (s + 16) 8, tR b (s + 24) i, na b (s + 88) 4⟩) lt
    simp (disch := (first | assumption | omega | (simp only [List.length_cons, List.length_nil] <;> omega) | (simp only [alloc_n, set_n] <;> omega) | (simp (disch := (first | assumption | omega | (simp only [alloc_n, set_n] <;> omega))) only [row_alloc, row_set]; assumption))) only [W_block, ANs, A3s, AOp.map, ↓reduceIte, Nat.reduceAdd, Nat.reduceEqDiff, reduceCtorEq, initFr, Nat.reduceLT, clsA, List.take, List.drop, Nat.reduceLeDiff, Nat.reduceMul, Nat.reduceSub, reduceIte, ANc, A3c, wu, wrap_succ (n := i) (by omega)]
    refine hnx _ _ _ ⟨i + 1, _, by omega, rfl, ?_, rfl⟩ (by omega)
    rw [cSt_setT (x := ⟨na b s 8, na b (s + 8) 8, na b (s + 16) 8, tR b (s + 24) i, na b (s + 88) 4⟩) (by rw [lt]; exact hc) h1]
    simp only [tR_set b (s + 24) hc]
  · have hi64 : i = 64 := by omega
    subst hi64
    simp (disch := (first | assumption | omega | (simp only [List.length_cons, List.length_nil] <;> omega) | (simp only [alloc_n, set_n] <;> omega) | (simp (disch := (first | assumption | omega | (simp only [alloc_n, set_n] <;> omega))) only [row_alloc, row_set]; assumption))) only [W_block, ANs, A3s, AOp.map, ↓reduceIte, Nat.reduceAdd, Nat.reduceEqDiff, reduceCtorEq, initFr, Nat.reduceLT, clsA, List.take, List.drop, Nat.reduceLeDiff, Nat.reduceMul, Nat.reduceSub, reduceIte, ANc, A3c]
    refine hex _ _ _ ?_
    have ll : (cSt (deR b s)).length = 68 := cSt_len (deR_rg b s).1
    have oo := cSt_one (deR b s)
    have ed : (⟨na b s 8, na b (s + 8) 8, na b (s + 16) 8, tR b (s + 24) 64, na b (s + 88) 4⟩ : St) = deR b s := rfl
    rw [ed]
    simp (disch := (first | assumption | omega | (simp only [List.length_cons, List.length_nil] <;> omega) | (simp only [alloc_n, set_n] <;> omega) | (simp (disch := (first | assumption | omega | (simp only [alloc_n, set_n] <;> omega))) only [row_alloc, row_set]; assumption))) only [W_block, ANs, A3s, AOp.map, ↓reduceIte, Nat.reduceAdd, Nat.reduceEqDiff, reduceCtorEq, initFr, Nat.reduceLT, clsA, List.take, List.drop, Nat.reduceLeDiff, Nat.reduceMul, Nat.reduceSub, reduceIte, ANc, A3c, oo, lz]
    refine hq2 _ _ ⟨_, by rw [hr]; simp (disch := (first | assumption | omega | (simp only [List.length_cons, List.length_nil] <;> omega) | (simp only [alloc_n, set_n] <;> omega) | (simp (disch := (first | assumption | omega | (simp only [alloc_n, set_n] <;> omega))) only [row_alloc, row_set]; assumption))) only [W_block, ANs, A3s, AOp.map, ↓reduceIte, Nat.reduceAdd, Nat.reduceEqDiff, reduceCtorEq, initFr, Nat.reduceLT, clsA, List.take, List.drop, Nat.reduceLeDiff, Nat.reduceMul, Nat.reduceSub, reduceIte, ANc, A3c], rfl, ?_⟩
    ((repeat (first | exact Keeps.refl _ | assumption | refine Keeps.alloc ?_ _ | (refine Keeps.set ?_ (by first | omega | (simp only [alloc_n, set_n] <;> omega)) (by first | omega | (simp only [alloc_n, set_n] <;> omega)) _) | (refine Keeps.trans' (by assumption) ?_))))
end Go.AM.Fd

set_option linter.unusedSimpArgs false
set_option linter.unusedVariables false
namespace Go.AM.Fd
open Go.Proofs Go.AM.F
def tSt (o : Option St) : Value := match o with
  | some x => GotB (cSt x) true
  | none => GotB (cSt St0) false
def tLo (o : Option Lo) : Value := match o with
  | some x => GotB (cLo x) true
  | none => GotB (cLo Lo0) false
def cLs (x : Li) : List Value := cLi (strB x.B) x
def tLi (o : Option Li) : Value := match o with
  | some x => GotB (cLs x) true
  | none => GotB (cLs Li0) false
theorem cLsL (x : Li) : (cLs x).length = 5 := rfl
theorem cLsO (x : Li) : (cLs x).all Value.oneCell' = true := rfl
theorem cLs_plain (x : Li) : (cLs x).all plain1 = true := rfl
theorem fillLs (f t : Nat) (q k : Int) (B : List UInt8) : fillA [.int .u8 0, .int .u8 0, .int .i64 0, .int .i64 0, .string ByteArray.empty] [(0, 1, .int .u8 (f : Nat)), (1, 1, .int .u8 (t : Nat)), (2, 1, .int .i64 q), (3, 1, .int .i64 k), (4, 1, .string ⟨B.toArray⟩)] = some (cLs ⟨f, t, q, k, B⟩) := rfl
theorem t20 {H : AHeap} {v : Value} {b : List UInt8} (hb : BQ H v b) (hl : b.length ≤ 1000000) : ∃ w H', ARun Go.Proofs.Try.prog 0 20 [v] H w H' ∧ w = tSt (geSt b) ∧ H' = H := by
  suffices h : ∃ w H', ARun Go.Proofs.Try.prog 0 20 [v] H w H' ∧ w = tSt (geSt b) ∧ Keeps H H' by
    obtain ⟨_, _, a, rfl, k⟩ := h
    refine ⟨_, _, a.gc0 k (.inr ?_), rfl, rfl⟩
    cases geSt b <;> exact GotB.nv (cSt_plain _) _
  refine walk2 f20_ok f20_n ?_
  intro Q hq1 hq2
  have hr : ∀ fr H', resO f20.res fr H' = (celln 68 (fr.getD 1 undef) H').map fun c => .tuple #[c, fr.getD 2 undef] := fun fr H' => resCT 68 1 2 fr
  have lz : (Z68 : List Value).length = 68 := rfl
  have ozz : (Z68 : List Value).all Value.oneCell' = true := rfl
  have k0 := (Keeps.refl H).alloc (.cells true false 68 (Z68) 51)
  obtain ⟨x, hx⟩ : ∃ x, x = deR b 1 := ⟨_, rfl⟩
  have hrg : rgSt x := by rw [hx]; exact deR_rg _ _
  have lx : (cSt x).length = 68 := cSt_len hrg.1
  have ox := cSt_one x
  simp (disch := (first | assumption | omega | (simp only [List.length_cons, List.length_nil] <;> omega) | (simp only [alloc_n, set_n] <;> omega) | (simp (disch := (first | assumption | omega | (simp only [alloc_n, set_n] <;> omega))) only [row_alloc, row_set]; assumption))) only [f20, W_block, ANs, A3s, AOp.map, ↓reduceIte, Nat.reduceAdd, Nat.reduceEqDiff, reduceCtorEq, initFr, Nat.reduceLT, clsA, List.take, List.drop, Nat.reduceLeDiff, Nat.reduceMul, Nat.reduceSub, reduceIte, ANc, A3c, ozz]
  refine callK (t71 (hb.keeps k0) 1 (by omega) (by omega)) ?_
  rintro _ _ ⟨rfl, rfl⟩
  rw [← hx]
  simp (disch := (first | assumption | omega | (simp only [List.length_cons, List.length_nil] <;> omega) | (simp only [alloc_n, set_n] <;> omega) | (simp (disch := (first | assumption | omega | (simp only [alloc_n, set_n] <;> omega))) only [row_alloc, row_set]; assumption))) only [W_block, ANs, A3s, AOp.map, ↓reduceIte, Nat.reduceAdd, Nat.reduceEqDiff, reduceCtorEq, initFr, Nat.reduceLT, clsA, List.take, List.drop, Nat.reduceLeDiff, Nat.reduceMul, Nat.reduceSub, reduceIte, ANc, A3c, ozz, lz, ox, lx]
  refine callK (t50 x hrg _) ?_
  rintro v2 K2 o2
  have k2 := o2.k
  have kC := k0.trans ((Keeps.refl _).alloc (.cells true false 68 (cSt x) 51))
  have tk := tbk (hb.bs.keeps kC) k2
  have n2 := k2.n
  simp only [alloc_n] at n2
  have kb := kC.trans k2
  have hb2 := hb.bs.keeps kb
  by_cases heq : fSt x = b
  · have e1 : decide (fSt x = b) = true := by simp [heq]
    have hg := geSt_of hrg heq
    simp (disch := (first | assumption | omega | (simp only [List.length_cons, List.length_nil] <;> omega) | (simp only [alloc_n, set_n] <;> omega) | (simp (disch := (first | assumption | omega | (simp only [alloc_n, set_n] <;> omega))) only [row_alloc, row_set, Keeps.row k2]; assumption))) only [Keeps.get k2, Keeps.row k2, W_block, ANs, A3s, AOp.map, ↓reduceIte, Nat.reduceAdd, Nat.reduceEqDiff, reduceCtorEq, initFr, Nat.reduceLT, clsA, List.take, List.drop, Nat.reduceLeDiff, Nat.reduceMul, Nat.reduceSub, reduceIte, ANc, A3c, a_b2sB o2.bs, a_b2sB hb2, touch_b2s, ite_self, bytes_eq, e1, ox, lx, ozz, lz]
    refine ⟨tk, ?_⟩
    refine hq2 _ _ ⟨_, by rw [hr]; simp (disch := (first | assumption | omega | (simp only [List.length_cons, List.length_nil] <;> omega) | (simp only [alloc_n, set_n] <;> omega) | (simp (disch := (first | assumption | omega | (simp only [alloc_n, set_n] <;> omega))) only [row_alloc, row_set, Keeps.row k2]; assumption))) only [Keeps.get k2, Keeps.row k2, W_block, ANs, A3s, AOp.map, ↓reduceIte, Nat.reduceAdd, Nat.reduceEqDiff, reduceCtorEq, initFr, Nat.reduceLT, clsA, List.take, List.drop, Nat.reduceLeDiff, Nat.reduceMul, Nat.reduceSub, reduceIte, ANc, A3c, lx]; rfl, by rw [hg]; rfl, ?_⟩
    exact kb.set (Nat.le_refl _) (by omega) _
  · have e1 : decide (fSt x = b) = false := by simp [heq]
    have hg : geSt b = none := by
      cases hg : geSt b with
      | none => rfl
      | some y =>
        obtain ⟨h1, h2, h3, h4⟩ := geSt_some hg
        have hxy : x = y := by
          rw [hx, h3]
          exact deR_in (s := 0) (by omega)
        subst hxy
        exact absurd h1 heq
    simp (disch := (first | assumption | omega | (simp only [List.length_cons, List.length_nil] <;> omega) | (simp only [alloc_n, set_n] <;> omega) | (simp (disch := (first | assumption | omega | (simp only [alloc_n, set_n] <;> omega))) only [row_alloc, row_set, Keeps.row k2]; assumption))) only [Keeps.get k2, Keeps.row k2, W_block, ANs, A3s, AOp.map, ↓reduceIte, Nat.reduceAdd, Nat.reduceEqDiff, reduceCtorEq, initFr, Nat.reduceLT, clsA, List.take, List.drop, Nat.reduceLeDiff, Nat.reduceMul, Nat.reduceSub, reduceIte, ANc, A3c, a_b2sB o2.bs, a_b2sB hb2, touch_b2s, ite_self, bytes_eq, e1, ox, lx, ozz, lz]
    refine ⟨tk, ?_⟩
    refine hq2 _ _ ⟨_, by rw [hr]; simp (disch := (first | assumption | omega | (simp only [List.length_cons, List.length_nil] <;> omega) | (simp only [alloc_n, set_n] <;> omega) | (simp (disch := (first | assumption | omega | (simp only [alloc_n, set_n] <;> omega))) only [row_alloc, row_set, Keeps.row k2]; assumption))) only [Keeps.get k2, Keeps.row k2, W_block, ANs, A3s, AOp.map, ↓reduceIte, Nat.reduceAdd, Nat.reduceEqDiff, reduceCtorEq, initFr, Nat.reduceLT, clsA, List.take, List.drop, Nat.reduceLeDiff, Nat.reduceMul, Nat.reduceSub, reduceIte, ANc, A3c, ozz, lz]; rfl, by rw [hg]; rfl, ?_⟩
    exact kb.set (Nat.le_refl _) (by omega) _
theorem t22 {H : AHeap} {v : Value} {b : List UInt8} (hb : BQ H v b) (hl : b.length ≤ 1000000) : ∃ w H', ARun Go.Proofs.Try.prog 0 22 [v] H w H' ∧ w = tLo (geLo b) ∧ H' = H := by
  suffices h : ∃ w H', ARun Go.Proofs.Try.prog 0 22 [v] H w H' ∧ w = tLo (geLo b) ∧ Keeps H H' by
    obtain ⟨_, _, a, rfl, k⟩ := h
    refine ⟨_, _, a.gc0 k (.inr ?_), rfl, rfl⟩
    cases geLo b <;> exact GotB.nv (cLo_plain _) _
  refine walk2 f22_ok f22_n ?_
  intro Q hq1 hq2
  have hr : ∀ fr H', resO f22.res fr H' = (celln 70 (fr.getD 1 undef) H').map fun c => .tuple #[c, fr.getD 2 undef] := fun fr H' => resCT 70 1 2 fr
  have lz : (Z70 : List Value).length = 70 := rfl
  have ozz : (Z70 : List Value).all Value.oneCell' = true := rfl
  have k0 := (Keeps.refl H).alloc (.cells true false 70 (Z70) 60)
  have hs := hb.bs.sl
  have his := hs.is
  have hlen := hs.len
  rw [List.length_map] at hlen
  obtain ⟨x, hx⟩ : ∃ x, x = (⟨sg (na b 1 8), sg (na b 9 8), deR b 17⟩ : Lo) := ⟨_, rfl⟩
  have hrg : rgSt x.s := by rw [hx]; exact deR_rg _ _
  have lx : (cLo x).length = 70 := cLo_len hrg.1
  have ox := cLo_one x
  simp (disch := (first | assumption | omega | (simp only [List.length_cons, List.length_nil] <;> omega) | (simp only [alloc_n, set_n] <;> omega) | (simp (disch := (first | assumption | omega | (simp only [alloc_n, set_n] <;> omega))) only [row_alloc, row_set]; assumption))) only [f22, W_block, ANs, A3s, AOp.map, ↓reduceIte, Nat.reduceAdd, Nat.reduceEqDiff, reduceCtorEq, initFr, Nat.reduceLT, clsA, List.take, List.drop, Nat.reduceLeDiff, Nat.reduceMul, Nat.reduceSub, reduceIte, ANc, A3c, ozz]
  refine callK (t67 (hb.keeps k0) 1 8 (by omega) (by omega) (by omega)) ?_
  rintro _ _ ⟨rfl, rfl⟩
  simp (disch := (first | assumption | omega | (simp only [List.length_cons, List.length_nil] <;> omega) | (simp only [alloc_n, set_n] <;> omega) | (simp (disch := (first | assumption | omega | (simp only [alloc_n, set_n] <;> omega))) only [row_alloc, row_set]; assumption))) only [W_block, ANs, A3s, AOp.map, ↓reduceIte, Nat.reduceAdd, Nat.reduceEqDiff, reduceCtorEq, initFr, Nat.reduceLT, clsA, List.take, List.drop, Nat.reduceLeDiff, Nat.reduceMul, Nat.reduceSub, reduceIte, ANc, A3c]
  refine callK (t67 (hb.keeps k0) 9 8 (by omega) (by omega) (by omega)) ?_
  rintro _ _ ⟨rfl, rfl⟩
  simp (disch := (first | assumption | omega | (simp only [List.length_cons, List.length_nil] <;> omega) | (simp only [alloc_n, set_n] <;> omega) | (simp (disch := (first | assumption | omega | (simp only [alloc_n, set_n] <;> omega))) only [row_alloc, row_set]; assumption))) only [W_block, ANs, A3s, AOp.map, ↓reduceIte, Nat.reduceAdd, Nat.reduceEqDiff, reduceCtorEq, initFr, Nat.reduceLT, clsA, List.take, List.drop, Nat.reduceLeDiff, Nat.reduceMul, Nat.reduceSub, reduceIte, ANc, A3c]
  refine callK (t71 (hb.keeps k0) 17 (by omega) (by omega)) ?_
  rintro _ _ ⟨rfl, rfl⟩
  simp (disch := (first | assumption | omega | (simp only [List.length_cons, List.length_nil] <;> omega) | (simp only [alloc_n, set_n] <;> omega) | (simp (disch := (first | assumption | omega | (simp only [alloc_n, set_n] <;> omega))) only [row_alloc, row_set]; assumption))) only [W_block, ANs, A3s, AOp.map, ↓reduceIte, Nat.reduceAdd, Nat.reduceEqDiff, reduceCtorEq, initFr, Nat.reduceLT, clsA, List.take, List.drop, Nat.reduceLeDiff, Nat.reduceMul, Nat.reduceSub, reduceIte, ANc, A3c, fillLo (s := deR b 17) (deR_rg b 17).1, ozz]
  rw [show (⟨IntKind.i64.wrap (na b 1 8), IntKind.i64.wrap (na b 9 8), deR b 17⟩ : Lo) = x from hx.symm]
  simp (disch := (first | assumption | omega | (simp only [List.length_cons, List.length_nil] <;> omega) | (simp only [alloc_n, set_n] <;> omega) | (simp (disch := (first | assumption | omega | (simp only [alloc_n, set_n] <;> omega))) only [row_alloc, row_set]; assumption))) only [W_block, ANs, A3s, AOp.map, ↓reduceIte, Nat.reduceAdd, Nat.reduceEqDiff, reduceCtorEq, initFr, Nat.reduceLT, clsA, List.take, List.drop, Nat.reduceLeDiff, Nat.reduceMul, Nat.reduceSub, reduceIte, ANc, A3c, ozz, lz, ox, lx]
  refine callK (t51 x hrg _) ?_
  rintro v2 K2 o2
  have k2 := o2.k
  have kC := k0.trans ((Keeps.refl _).alloc (.cells true false 70 (cLo x) 60))
  have tk := tbk (hb.bs.keeps kC) k2
  have n2 := k2.n
  simp only [alloc_n] at n2
  have kb := kC.trans k2
  have hb2 := hb.bs.keeps kb
  by_cases hb0 : b = []
  · have hg : geLo b = none := by
      cases hg : geLo b with
      | none => rfl
      | some y => have := (geLo_some hg).2.2.2; rw [hb0] at this; simp at this
    by_cases heq : fLo x = b
    · have e1 : decide (fLo x = b) = true := by simp [heq]
      have hb00 : b.length = 0 := by rw [hb0]; rfl
      simp (disch := (first | assumption | omega | (simp only [List.length_cons, List.length_nil] <;> omega) | (simp only [alloc_n, set_n] <;> omega) | (simp (disch := (first | assumption | omega | (simp only [alloc_n, set_n] <;> omega))) only [row_alloc, row_set, Keeps.row k2]; assumption))) only [Keeps.get k2, Keeps.row k2, W_block, ANs, A3s, AOp.map, ↓reduceIte, Nat.reduceAdd, Nat.reduceEqDiff, reduceCtorEq, initFr, Nat.reduceLT, clsA, List.take, List.drop, Nat.reduceLeDiff, Nat.reduceMul, Nat.reduceSub, reduceIte, ANc, A3c, a_b2sB o2.bs, a_b2sB hb2, touch_b2s, ite_self, bytes_eq, e1, ox, lx, ozz, lz, hlen]
      refine ⟨tk, ?_⟩
      refine hq2 _ _ ⟨_, by rw [hr]; simp (disch := (first | assumption | omega | (simp only [List.length_cons, List.length_nil] <;> omega) | (simp only [alloc_n, set_n] <;> omega) | (simp (disch := (first | assumption | omega | (simp only [alloc_n, set_n] <;> omega))) only [row_alloc, row_set, Keeps.row k2]; assumption))) only [Keeps.get k2, Keeps.row k2, W_block, ANs, A3s, AOp.map, ↓reduceIte, Nat.reduceAdd, Nat.reduceEqDiff, reduceCtorEq, initFr, Nat.reduceLT, clsA, List.take, List.drop, Nat.reduceLeDiff, Nat.reduceMul, Nat.reduceSub, reduceIte, ANc, A3c, ozz, lz]; rfl, by rw [hg]; rfl, ?_⟩
      exact kb.set (Nat.le_refl _) (by omega) _
    · have e1 : decide (fLo x = b) = false := by simp [heq]
      simp (disch := (first | assumption | omega | (simp only [List.length_cons, List.length_nil] <;> omega) | (simp only [alloc_n, set_n] <;> omega) | (simp (disch := (first | assumption | omega | (simp only [alloc_n, set_n] <;> omega))) only [row_alloc, row_set, Keeps.row k2]; assumption))) only [Keeps.get k2, Keeps.row k2, W_block, ANs, A3s, AOp.map, ↓reduceIte, Nat.reduceAdd, Nat.reduceEqDiff, reduceCtorEq, initFr, Nat.reduceLT, clsA, List.take, List.drop, Nat.reduceLeDiff, Nat.reduceMul, Nat.reduceSub, reduceIte, ANc, A3c, a_b2sB o2.bs, a_b2sB hb2, touch_b2s, ite_self, bytes_eq, e1, ox, lx, ozz, lz, hlen]
      refine ⟨tk, ?_⟩
      refine hq2 _ _ ⟨_, by rw [hr]; simp (disch := (first | assumption | omega | (simp only [List.length_cons, List.length_nil] <;> omega) | (simp only [alloc_n, set_n] <;> omega) | (simp (disch := (first | assumption | omega | (simp only [alloc_n, set_n] <;> omega))) only [row_alloc, row_set, Keeps.row k2]; assumption))) only [Keeps.get k2, Keeps.row k2, W_block, ANs, A3s, AOp.map, ↓reduceIte, Nat.reduceAdd, Nat.reduceEqDiff, reduceCtorEq, initFr, Nat.reduceLT, clsA, List.take, List.drop, Nat.reduceLeDiff, Nat.reduceMul, Nat.reduceSub, reduceIte, ANc, A3c, ozz, lz]; rfl, by rw [hg]; rfl, ?_⟩
      exact kb.set (Nat.le_refl _) (by omega) _
  have hbl : 0 < b.length := List.length_pos_iff.2 hb0
  by_cases heq : fLo x = b
  · have e1 : decide (fLo x = b) = true := by simp [heq]
    have hg := geLo_of hrg hb0 heq
    simp (disch := (first | assumption | omega | (simp only [List.length_cons, List.length_nil] <;> omega) | (simp only [alloc_n, set_n] <;> omega) | (simp (disch := (first | assumption | omega | (simp only [alloc_n, set_n] <;> omega))) only [row_alloc, row_set, Keeps.row k2]; assumption))) only [Keeps.get k2, Keeps.row k2, W_block, ANs, A3s, AOp.map, ↓reduceIte, Nat.reduceAdd, Nat.reduceEqDiff, reduceCtorEq, initFr, Nat.reduceLT, clsA, List.take, List.drop, Nat.reduceLeDiff, Nat.reduceMul, Nat.reduceSub, reduceIte, ANc, A3c, a_b2sB o2.bs, a_b2sB hb2, touch_b2s, ite_self, bytes_eq, e1, ox, lx, ozz, lz, hlen]
    refine ⟨tk, ?_⟩
    refine hq2 _ _ ⟨_, by rw [hr]; simp (disch := (first | assumption | omega | (simp only [List.length_cons, List.length_nil] <;> omega) | (simp only [alloc_n, set_n] <;> omega) | (simp (disch := (first | assumption | omega | (simp only [alloc_n, set_n] <;> omega))) only [row_alloc, row_set, Keeps.row k2]; assumption))) only [Keeps.get k2, Keeps.row k2, W_block, ANs, A3s, AOp.map, ↓reduceIte, Nat.reduceAdd, Nat.reduceEqDiff, reduceCtorEq, initFr, Nat.reduceLT, clsA, List.take, List.drop, Nat.reduceLeDiff, Nat.reduceMul, Nat.reduceSub, reduceIte, ANc, A3c, lx]; rfl, by rw [hg]; rfl, ?_⟩
    exact kb.set (Nat.le_refl _) (by omega) _
  · have e1 : decide (fLo x = b) = false := by simp [heq]
    have hg : geLo b = none := by
      cases hg : geLo b with
      | none => rfl
      | some y =>
        obtain ⟨h1, h2, h3, h4⟩ := geLo_some hg
        have hxy : x = y := by
          rw [hx, h3]
          unfold deLo
          rw [← na_bd (s := 0) (by omega), ← na_bd (s := 8) (by omega), ← deR_in (s := 16) (by omega)]
        subst hxy
        exact absurd h1 heq
    simp (disch := (first | assumption | omega | (simp only [List.length_cons, List.length_nil] <;> omega) | (simp only [alloc_n, set_n] <;> omega) | (simp (disch := (first | assumption | omega | (simp only [alloc_n, set_n] <;> omega))) only [row_alloc, row_set, Keeps.row k2]; assumption))) only [Keeps.get k2, Keeps.row k2, W_block, ANs, A3s, AOp.map, ↓reduceIte, Nat.reduceAdd, Nat.reduceEqDiff, reduceCtorEq, initFr, Nat.reduceLT, clsA, List.take, List.drop, Nat.reduceLeDiff, Nat.reduceMul, Nat.reduceSub, reduceIte, ANc, A3c, a_b2sB o2.bs, a_b2sB hb2, touch_b2s, ite_self, bytes_eq, e1, ox, lx, ozz, lz]
    refine ⟨tk, ?_⟩
    refine hq2 _ _ ⟨_, by rw [hr]; simp (disch := (first | assumption | omega | (simp only [List.length_cons, List.length_nil] <;> omega) | (simp only [alloc_n, set_n] <;> omega) | (simp (disch := (first | assumption | omega | (simp only [alloc_n, set_n] <;> omega))) only [row_alloc, row_set, Keeps.row k2]; assumption))) only [Keeps.get k2, Keeps.row k2, W_block, ANs, A3s, AOp.map, ↓reduceIte, Nat.reduceAdd, Nat.reduceEqDiff, reduceCtorEq, initFr, Nat.reduceLT, clsA, List.take, List.drop, Nat.reduceLeDiff, Nat.reduceMul, Nat.reduceSub, reduceIte, ANc, A3c, ozz, lz]; rfl, by rw [hg]; rfl, ?_⟩
    exact kb.set (Nat.le_refl _) (by omega) _
theorem t25 {H : AHeap} {v : Value} {b : List UInt8} (hb : BQ H v b) (hl : b.length ≤ 1000000) : ∃ w H', ARun Go.Proofs.Try.prog 0 25 [v] H w H' ∧ w = tLi (geLi b) ∧ H' = H := by
  suffices h : ∃ w H', ARun Go.Proofs.Try.prog 0 25 [v] H w H' ∧ w = tLi (geLi b) ∧ Keeps H H' by
    obtain ⟨_, _, a, rfl, k⟩ := h
    refine ⟨_, _, a.gc0 k (.inr ?_), rfl, rfl⟩
    cases geLi b <;> exact GotB.nv (cLs_plain _) _
  refine walk2 f25_ok f25_n ?_
  intro Q hq1 hq2
  have hr : ∀ fr H', resO f25.res fr H' = (celln 5 (fr.getD 1 undef) H').map fun c => .tuple #[c, fr.getD 2 undef] := fun fr H' => resCT 5 1 2 fr
  have lz : ([.int .u8 0, .int .u8 0, .int .i64 0, .int .i64 0, .string ByteArray.empty] : List Value).length = 5 := rfl
  have ozz : ([.int .u8 0, .int .u8 0, .int .i64 0, .int .i64 0, .string ByteArray.empty] : List Value).all Value.oneCell' = true := rfl
  have k0 := (Keeps.refl H).alloc (.cells true false 5 ([.int .u8 0, .int .u8 0, .int .i64 0, .int .i64 0, .string ByteArray.empty]) 69)
  have hs := hb.bs.sl
  have his := hs.is
  have hlen := hs.len
  rw [List.length_map] at hlen
  by_cases h0 : b.length < 25
  · simp (disch := (first | assumption | omega | (simp only [List.length_cons, List.length_nil] <;> omega) | (simp only [alloc_n, set_n] <;> omega) | (simp (disch := (first | assumption | omega | (simp only [alloc_n, set_n] <;> omega))) only [row_alloc, row_set]; assumption))) only [f25, W_block, ANs, A3s, AOp.map, ↓reduceIte, Nat.reduceAdd, Nat.reduceEqDiff, reduceCtorEq, initFr, Nat.reduceLT, clsA, List.take, List.drop, Nat.reduceLeDiff, Nat.reduceMul, Nat.reduceSub, reduceIte, ANc, A3c, hlen, ozz]
    refine hq2 _ _ ⟨_, by rw [hr]; simp (disch := (first | assumption | omega | (simp only [List.length_cons, List.length_nil] <;> omega) | (simp only [alloc_n, set_n] <;> omega) | (simp (disch := (first | assumption | omega | (simp only [alloc_n, set_n] <;> omega))) only [row_alloc, row_set]; assumption))) only [W_block, ANs, A3s, AOp.map, ↓reduceIte, Nat.reduceAdd, Nat.reduceEqDiff, reduceCtorEq, initFr, Nat.reduceLT, clsA, List.take, List.drop, Nat.reduceLeDiff, Nat.reduceMul, Nat.reduceSub, reduceIte, ANc, A3c, ozz, lz]; rfl, ?_, k0⟩
    cases hg : geLi b with
    | none => rfl
    | some y => have := (geLi_some hg).2.2.2; omega
  obtain ⟨hnn, hrow⟩ := hs.at_ (by omega) (i := 1) (by rw [List.length_map]; omega)
  obtain ⟨_, hrow2⟩ := hs.at_ (by omega) (i := 2) (by rw [List.length_map]; omega)
  rw [List.getElem_map] at hrow hrow2
  have hbn := hs.bn_le (by intro e; simp at e; subst e; simp at h0) (by omega)
  rw [← na_one (by omega)] at hrow hrow2
  have hw : IntKind.i64.wrap ((b.length : Int) - 4) = ((b.length - 4 : Nat) : Int) := by rw [wrap_i64 (by omega) (by omega)]; omega
  obtain ⟨x, hx⟩ : ∃ x, x = (⟨na b 1 1, na b 2 1, sg (na b 3 8), sg (na b 11 8), (b.drop 21).take (b.length - 4 - 21)⟩ : Li) := ⟨_, rfl⟩
  have hrg : rgLi x := by rw [hx]; exact ⟨na1 _ _, na1 _ _⟩
  have hxl : x.B.length ≤ 1000000 := by rw [hx]; simp only [List.length_take, List.length_drop]; omega
  have lx : (cLs x).length = 5 := rfl
  have ox := cLsO x
  simp (disch := (first | assumption | omega | (simp only [List.length_cons, List.length_nil] <;> omega) | (simp only [alloc_n, set_n] <;> omega) | (simp (disch := (first | assumption | omega | (simp only [alloc_n, set_n] <;> omega))) only [row_alloc, row_set]; assumption))) only [f25, W_block, ANs, A3s, AOp.map, ↓reduceIte, Nat.reduceAdd, Nat.reduceEqDiff, reduceCtorEq, initFr, Nat.reduceLT, clsA, List.take, List.drop, Nat.reduceLeDiff, Nat.reduceMul, Nat.reduceSub, reduceIte, ANc, A3c, hlen, ozz, Int.reduceToNat]
  refine callK (t67 (hb.keeps k0) 3 8 (by omega) (by omega) (by omega)) ?_
  rintro _ _ ⟨rfl, rfl⟩
  simp (disch := (first | assumption | omega | (simp only [List.length_cons, List.length_nil] <;> omega) | (simp only [alloc_n, set_n] <;> omega) | (simp (disch := (first | assumption | omega | (simp only [alloc_n, set_n] <;> omega))) only [row_alloc, row_set]; assumption))) only [W_block, ANs, A3s, AOp.map, ↓reduceIte, Nat.reduceAdd, Nat.reduceEqDiff, reduceCtorEq, initFr, Nat.reduceLT, clsA, List.take, List.drop, Nat.reduceLeDiff, Nat.reduceMul, Nat.reduceSub, reduceIte, ANc, A3c, hlen, ozz, Int.reduceToNat, ite_self]
  refine callK (t67 (hb.keeps k0) 11 8 (by omega) (by omega) (by omega)) ?_
  rintro _ _ ⟨rfl, rfl⟩
  obtain ⟨u, s1, q1⟩ := (hb.keeps k0).mid (k := .i64) (k' := .i64) 21 (b.length - 4) (by omega) (by omega)
  have s1' : asem (.slsl 1 v (some (.int .i64 21)) (some (.int .i64 (b.length - 4 : Nat))) none) (H.alloc (.cells true false 5 [.int .u8 0, .int .u8 0, .int .i64 0, .int .i64 0, .string ByteArray.empty] 69)) = some (u, H.alloc (.cells true false 5 [.int .u8 0, .int .u8 0, .int .i64 0, .int .i64 0, .string ByteArray.empty] 69)) := s1
  have tv := tbk (hb.bs.keeps k0) (Keeps.refl _)
  have tu := tbk q1.bs (Keeps.refl _)
  simp (disch := (first | assumption | omega | (simp only [List.length_cons, List.length_nil] <;> omega) | (simp only [alloc_n, set_n] <;> omega) | (simp (disch := (first | assumption | omega | (simp only [alloc_n, set_n] <;> omega))) only [row_alloc, row_set]; assumption))) only [W_block, ANs, A3s, AOp.map, ↓reduceIte, Nat.reduceAdd, Nat.reduceEqDiff, reduceCtorEq, initFr, Nat.reduceLT, clsA, List.take, List.drop, Nat.reduceLeDiff, Nat.reduceMul, Nat.reduceSub, reduceIte, ANc, A3c, hlen, ozz, Int.reduceToNat, ite_self, hw, s1', a_b2sB q1.bs, touch_b2s, touch_sl, fillLs, cLsL, cLsO, tv.1, tv.2, tu.1, tu.2]
  rw [show (⟨na b 1 1, na b 2 1, IntKind.i64.wrap (na b 3 8), IntKind.i64.wrap (na b 11 8), (b.drop 21).take (b.length - 4 - 21)⟩ : Li) = x from hx.symm]
  simp (disch := (first | assumption | omega | (simp only [List.length_cons, List.length_nil] <;> omega) | (simp only [alloc_n, set_n] <;> omega) | (simp (disch := (first | assumption | omega | (simp only [alloc_n, set_n] <;> omega))) only [row_alloc, row_set]; assumption))) only [W_block, ANs, A3s, AOp.map, ↓reduceIte, Nat.reduceAdd, Nat.reduceEqDiff, reduceCtorEq, initFr, Nat.reduceLT, clsA, List.take, List.drop, Nat.reduceLeDiff, Nat.reduceMul, Nat.reduceSub, reduceIte, ANc, A3c]
  refine callK (t52 x hrg _ hxl) ?_
  rintro v2 K2 o2
  have k2 := o2.k
  have kC := k0.trans ((Keeps.refl _).alloc (.cells true false 5 (cLs x) 69))
  have tk := tbk (hb.bs.keeps kC) k2
  have n2 := k2.n
  simp only [alloc_n] at n2
  have kb := kC.trans k2
  have hb2 := hb.bs.keeps kb
  by_cases heq : fLi x = b
  · have e1 : decide (fLi x = b) = true := by simp [heq]
    have hg := geLi_of hrg (by intro e; rw [e] at h0; simp at h0) heq
    simp (disch := (first | assumption | omega | (simp only [List.length_cons, List.length_nil] <;> omega) | (simp only [alloc_n, set_n] <;> omega) | (simp (disch := (first | assumption | omega | (simp only [alloc_n, set_n] <;> omega))) only [row_alloc, row_set, Keeps.row k2]; assumption))) only [Keeps.get k2, Keeps.row k2, W_block, ANs, A3s, AOp.map, ↓reduceIte, Nat.reduceAdd, Nat.reduceEqDiff, reduceCtorEq, initFr, Nat.reduceLT, clsA, List.take, List.drop, Nat.reduceLeDiff, Nat.reduceMul, Nat.reduceSub, reduceIte, ANc, A3c, a_b2sB o2.bs, a_b2sB hb2, touch_b2s, ite_self, bytes_eq, e1, ox, lx, ozz, lz]
    refine ⟨tk, ?_⟩
    refine hq2 _ _ ⟨_, by rw [hr]; simp (disch := (first | assumption | omega | (simp only [List.length_cons, List.length_nil] <;> omega) | (simp only [alloc_n, set_n] <;> omega) | (simp (disch := (first | assumption | omega | (simp only [alloc_n, set_n] <;> omega))) only [row_alloc, row_set, Keeps.row k2]; assumption))) only [Keeps.get k2, Keeps.row k2, W_block, ANs, A3s, AOp.map, ↓reduceIte, Nat.reduceAdd, Nat.reduceEqDiff, reduceCtorEq, initFr, Nat.reduceLT, clsA, List.take, List.drop, Nat.reduceLeDiff, Nat.reduceMul, Nat.reduceSub, reduceIte, ANc, A3c, lx]; rfl, by rw [hg]; rfl, ?_⟩
    exact kb.set (Nat.le_refl _) (by omega) _
  · have e1 : decide (fLi x = b) = false := by simp [heq]
    have hg : geLi b = none := by
      cases hg : geLi b with
      | none => rfl
      | some y =>
        obtain ⟨h1, h2, h3, h4⟩ := geLi_some hg
        have hxy : x = y := by
          have ef : y.f = na b 1 1 := by rw [h3]; exact (na_bd (s := 0) (by omega)).symm
          have et : y.t = na b 2 1 := by rw [h3]; exact (na_bd (s := 1) (by omega)).symm
          have eq : y.q = sg (na b 3 8) := by rw [h3]; show sg (na (bd b) 2 8) = _; rw [← na_bd (s := 2) (by omega)]
          have ek : y.k = sg (na b 11 8) := by rw [h3]; show sg (na (bd b) 10 8) = _; rw [← na_bd (s := 10) (by omega)]
          have eB : y.B = (b.drop 21).take (b.length - 4 - 21) := by
            have e1 : y.B = seg (bd b) 20 (na (bd b) 18 2) := by rw [h3]; rfl
            rw [e1] at h4 ⊢
            generalize na (bd b) 18 2 = n at h4 ⊢
            unfold seg at h4 ⊢
            split
            · rename_i hc
              rw [if_pos hc, List.length_nil] at h4
              rw [show b.length - 4 - 21 = 0 by omega, List.take_zero]
            · rename_i hc
              rw [if_neg hc, List.length_take, List.length_drop, bd_len] at h4
              rw [bd_len] at hc
              unfold bd
              rw [List.drop_take, List.take_take, List.drop_drop]
              congr 1
              omega
          rw [hx, ← ef, ← et, ← eq, ← ek, ← eB]
        subst hxy
        exact absurd h1 heq
    simp (disch := (first | assumption | omega | (simp only [List.length_cons, List.length_nil] <;> omega) | (simp only [alloc_n, set_n] <;> omega) | (simp (disch := (first | assumption | omega | (simp only [alloc_n, set_n] <;> omega))) only [row_alloc, row_set, Keeps.row k2]; assumption))) only [Keeps.get k2, Keeps.row k2, W_block, ANs, A3s, AOp.map, ↓reduceIte, Nat.reduceAdd, Nat.reduceEqDiff, reduceCtorEq, initFr, Nat.reduceLT, clsA, List.take, List.drop, Nat.reduceLeDiff, Nat.reduceMul, Nat.reduceSub, reduceIte, ANc, A3c, a_b2sB o2.bs, a_b2sB hb2, touch_b2s, ite_self, bytes_eq, e1, ox, lx, ozz, lz]
    refine ⟨tk, ?_⟩
    refine hq2 _ _ ⟨_, by rw [hr]; simp (disch := (first | assumption | omega | (simp only [List.length_cons, List.length_nil] <;> omega) | (simp only [alloc_n, set_n] <;> omega) | (simp (disch := (first | assumption | omega | (simp only [alloc_n, set_n] <;> omega))) only [row_alloc, row_set, Keeps.row k2]; assumption))) only [Keeps.get k2, Keeps.row k2, W_block, ANs, A3s, AOp.map, ↓reduceIte, Nat.reduceAdd, Nat.reduceEqDiff, reduceCtorEq, initFr, Nat.reduceLT, clsA, List.take, List.drop, Nat.reduceLeDiff, Nat.reduceMul, Nat.reduceSub, reduceIte, ANc, A3c, ozz, lz]; rfl, by rw [hg]; rfl, ?_⟩
    exact kb.set (Nat.le_refl _) (by omega) _
end Go.AM.Fd

set_option linter.unusedSimpArgs false
set_option linter.unusedVariables false
namespace Go.AM.Fd
open Go.Proofs Go.AM.F
theorem cI6L (v : Value) (x : I6) : (cI6 v x).length = 6 := rfl
def I6B (H H' : AHeap) (w : Value) (o : Option I6) : Prop := ∃ vc, Fresh H.n vc ∧ match o with
  | some x => w = GotB (cI6 vc x) true ∧ AP H' 108 2 vc x.cs.length (CC x.cs).flatten
  | none => w = GotB (cI6 (.slice none 0 0) I60) false
theorem geI6_few {b : List UInt8} {y : I6} (h : geI6 b = some y) : y.cs.length ≤ 8 ∧ y.cs.length = na b 26 1 := by
  obtain ⟨h1, h2, h3, h4⟩ := geI6_some h
  constructor
  · unfold fI6 at h1
    split at h1
    · rename_i hok; exact (okI6_iff.1 hok).2.1
    · rw [← h1] at h4; simp only [List.length_nil] at h4; omega
  · have e : y.cs.length = na (bd b) 25 1 := by
      have this : y.cs.length = (deI6 (bd b)).cs.length := congrArg (fun z : I6 => z.cs.length) h3
      rw [this]
      show (deCs (bd b) (na (bd b) 25 1)).length = _
      rw [deCs_len]
    rw [e, ← na_bd (s := 25) (by omega)]
theorem t13 {H : AHeap} {v : Value} {b : List UInt8} (hb : BQ H v b) (hl : b.length ≤ 1000000) : ∃ w H', ARun Go.Proofs.Try.prog 0 13 [v] H w H' ∧ Keeps H H' ∧ I6B H H' w (geI6 b) := by
  refine walk2 f13_ok f13_n ?_
  intro Q hq1 hq2
  have hr : ∀ fr H', resO f13.res fr H' = (celln 6 (fr.getD 1 undef) H').map fun c => .tuple #[c, fr.getD 2 undef] := fun fr H' => resCT 6 1 2 fr
  have hs := hb.bs.sl
  have his := hs.is
  have hlen := hs.len
  rw [List.length_map] at hlen
  have lz : (cI6 (.slice none 0 0) I60).length = 6 := rfl
  have ozz : (cI6 (.slice none 0 0) I60).all Value.oneCell' = true := rfl
  have k0 := (Keeps.refl H).alloc (.cells true false 6 (cI6 (.slice none 0 0) I60) 34)
  by_cases h0 : b.length < 31
  · simp (disch := (first | assumption | omega | (simp only [List.length_cons, List.length_nil] <;> omega) | (simp only [alloc_n, set_n] <;> omega) | (simp (disch := (first | assumption | omega | (simp only [alloc_n, set_n] <;> omega))) only [row_alloc, row_set]; assumption))) only [f13, W_block, ANs, A3s, AOp.map, ↓reduceIte, Nat.reduceAdd, Nat.reduceEqDiff, reduceCtorEq, initFr, Nat.reduceLT, clsA, List.take, List.drop, Nat.reduceLeDiff, Nat.reduceMul, Nat.reduceSub, reduceIte, ANc, A3c, hlen, ozz]
    refine hq2 _ _ ⟨_, by rw [hr]; simp (disch := (first | assumption | omega | (simp only [List.length_cons, List.length_nil] <;> omega) | (simp only [alloc_n, set_n] <;> omega) | (simp (disch := (first | assumption | omega | (simp only [alloc_n, set_n] <;> omega))) only [row_alloc, row_set]; assumption))) only [W_block, ANs, A3s, AOp.map, ↓reduceIte, Nat.reduceAdd, Nat.reduceEqDiff, reduceCtorEq, initFr, Nat.reduceLT, clsA, List.take, List.drop, Nat.reduceLeDiff, Nat.reduceMul, Nat.reduceSub, reduceIte, ANc, A3c, ozz, lz]; rfl, k0, .slice none 0 0, fun b hb => (by cases hb), ?_⟩
    cases hg : geI6 b with
    | none => rfl
    | some y => have := (geI6_some hg).2.2.2; omega
  obtain ⟨hnn, hrow⟩ := hs.at_ (by omega) (i := 1) (by rw [List.length_map]; omega)
  obtain ⟨_, hrow2⟩ := hs.at_ (by omega) (i := 26) (by rw [List.length_map]; omega)
  rw [List.getElem_map] at hrow hrow2
  have hbn := hs.bn_le (by intro e; simp at e; subst e; simp at h0) (by omega)
  rw [← na_one (by omega)] at hrow hrow2
  have kz : Keeps H (H.alloc (.cells true false 6 [.int .u8 0, .int .i64 0, .int .u64 0, .int .u32 0, .int .u32 0, .slice none 0 0] 34)) := (Keeps.refl H).alloc _
  simp (disch := (first | assumption | omega | (simp only [List.length_cons, List.length_nil] <;> omega) | (simp only [alloc_n, set_n] <;> omega) | (simp (disch := (first | assumption | omega | (simp only [alloc_n, set_n] <;> omega))) only [row_alloc, row_set]; assumption))) only [f13, W_block, ANs, A3s, AOp.map, ↓reduceIte, Nat.reduceAdd, Nat.reduceEqDiff, reduceCtorEq, initFr, Nat.reduceLT, clsA, List.take, List.drop, Nat.reduceLeDiff, Nat.reduceMul, Nat.reduceSub, reduceIte, ANc, A3c, hlen, ozz, Int.reduceToNat]
  refine callK (t67 (hb.keeps kz) 2 8 (by omega) (by omega) (by omega)) ?_
  rintro _ _ ⟨rfl, rfl⟩
  simp (disch := (first | assumption | omega | (simp only [List.length_cons, List.length_nil] <;> omega) | (simp only [alloc_n, set_n] <;> omega) | (simp (disch := (first | assumption | omega | (simp only [alloc_n, set_n] <;> omega))) only [row_alloc, row_set]; assumption))) only [W_block, ANs, A3s, AOp.map, ↓reduceIte, Nat.reduceAdd, Nat.reduceEqDiff, reduceCtorEq, initFr, Nat.reduceLT, clsA, List.take, List.drop, Nat.reduceLeDiff, Nat.reduceMul, Nat.reduceSub, reduceIte, ANc, A3c, hlen, ozz, Int.reduceToNat, ite_self]
  refine callK (t67 (hb.keeps kz) 10 8 (by omega) (by omega) (by omega)) ?_
  rintro _ _ ⟨rfl, rfl⟩
  simp (disch := (first | assumption | omega | (simp only [List.length_cons, List.length_nil] <;> omega) | (simp only [alloc_n, set_n] <;> omega) | (simp (disch := (first | assumption | omega | (simp only [alloc_n, set_n] <;> omega))) only [row_alloc, row_set]; assumption))) only [W_block, ANs, A3s, AOp.map, ↓reduceIte, Nat.reduceAdd, Nat.reduceEqDiff, reduceCtorEq, initFr, Nat.reduceLT, clsA, List.take, List.drop, Nat.reduceLeDiff, Nat.reduceMul, Nat.reduceSub, reduceIte, ANc, A3c, hlen, ozz, Int.reduceToNat, ite_self]
  refine callK (t67 (hb.keeps kz) 18 4 (by omega) (by omega) (by omega)) ?_
  rintro _ _ ⟨rfl, rfl⟩
  simp (disch := (first | assumption | omega | (simp only [List.length_cons, List.length_nil] <;> omega) | (simp only [alloc_n, set_n] <;> omega) | (simp (disch := (first | assumption | omega | (simp only [alloc_n, set_n] <;> omega))) only [row_alloc, row_set]; assumption))) only [W_block, ANs, A3s, AOp.map, ↓reduceIte, Nat.reduceAdd, Nat.reduceEqDiff, reduceCtorEq, initFr, Nat.reduceLT, clsA, List.take, List.drop, Nat.reduceLeDiff, Nat.reduceMul, Nat.reduceSub, reduceIte, ANc, A3c, hlen, ozz, Int.reduceToNat, ite_self]
  refine callK (t67 (hb.keeps kz) 22 4 (by omega) (by omega) (by omega)) ?_
  rintro _ _ ⟨rfl, rfl⟩
  have w1 : IntKind.u32.wrap (na b 18 4 : Nat) = (na b 18 4 : Nat) := by have := na4 b 18; rw [wrap_u32]; omega
  have w2 : IntKind.u32.wrap (na b 22 4 : Nat) = (na b 22 4 : Nat) := by have := na4 b 22; rw [wrap_u32]; omega
  obtain ⟨n, hn⟩ : ∃ n, n = na b 26 1 := ⟨_, rfl⟩
  have hn256 := na1 b 26
  rw [← hn] at hrow2 hn256
  have w3 : IntKind.i64.wrap (n : Int) = (n : Int) := wrap_nat (by omega)
  have w5 : IntKind.i64.wrap (2 * (n : Int)) = ((2 * n : Nat) : Int) := by rw [wrap_i64 (by omega) (by omega)]; push_cast; rfl
  have w6 : IntKind.i64.wrap (31 + ((2 * n : Nat) : Int)) = ((31 + 2 * n : Nat) : Int) := by rw [wrap_i64 (by omega) (by omega)]; push_cast; rfl
  obtain ⟨x, hx⟩ : ∃ x, x = (⟨na b 1 1, sg (na b 2 8), na b 10 8, na b 18 4, na b 22 4, deCs (bd b) n⟩ : I6) := ⟨_, rfl⟩
  have cx : ∀ vc, cI6 vc x = [.int .u8 (na b 1 1 : Nat), .int .i64 (IntKind.i64.wrap (na b 2 8)), .int .u64 (na b 10 8 : Nat), .int .u32 (na b 18 4 : Nat), .int .u32 (na b 22 4 : Nat), vc] := fun vc => by rw [hx]; rfl
  by_cases h1 : 8 < n
  · simp (disch := (first | assumption | omega | (simp only [List.length_cons, List.length_nil] <;> omega) | (simp only [alloc_n, set_n] <;> omega) | (simp (disch := (first | assumption | omega | (simp only [alloc_n, set_n] <;> omega))) only [row_alloc, row_set]; assumption))) only [W_block, ANs, A3s, AOp.map, ↓reduceIte, Nat.reduceAdd, Nat.reduceEqDiff, reduceCtorEq, initFr, Nat.reduceLT, clsA, List.take, List.drop, Nat.reduceLeDiff, Nat.reduceMul, Nat.reduceSub, reduceIte, ANc, A3c, hlen, ozz, Int.reduceToNat, ite_self, fill4, fill6, cI6, w1, w2, w3]
    refine hq2 _ _ ⟨_, by rw [hr]; simp (disch := (first | assumption | omega | (simp only [List.length_cons, List.length_nil] <;> omega) | (simp only [alloc_n, set_n] <;> omega) | (simp (disch := (first | assumption | omega | (simp only [alloc_n, set_n] <;> omega))) only [row_alloc, row_set]; assumption))) only [W_block, ANs, A3s, AOp.map, ↓reduceIte, Nat.reduceAdd, Nat.reduceEqDiff, reduceCtorEq, initFr, Nat.reduceLT, clsA, List.take, List.drop, Nat.reduceLeDiff, Nat.reduceMul, Nat.reduceSub, reduceIte, ANc, A3c, ozz, lz]; rfl, ?_, .slice none 0 0, fun b hb => (by cases hb), ?_⟩
    · ((repeat (first | exact Keeps.refl _ | assumption | refine Keeps.alloc ?_ _ | (refine Keeps.set ?_ (by first | omega | (simp only [alloc_n, set_n] <;> omega)) (by first | omega | (simp only [alloc_n, set_n] <;> omega)) _) | (refine Keeps.trans' (by assumption) ?_))))
    · cases hg : geI6 b with
      | none => rfl
      | some y => have := geI6_few hg; omega
  by_cases h2 : b.length = 31 + 2 * n
  rotate_left
  · simp (disch := (first | assumption | omega | (simp only [List.length_cons, List.length_nil] <;> omega) | (simp only [alloc_n, set_n] <;> omega) | (simp (disch := (first | assumption | omega | (simp only [alloc_n, set_n] <;> omega))) only [row_alloc, row_set]; assumption))) only [W_block, ANs, A3s, AOp.map, ↓reduceIte, Nat.reduceAdd, Nat.reduceEqDiff, reduceCtorEq, initFr, Nat.reduceLT, clsA, List.take, List.drop, Nat.reduceLeDiff, Nat.reduceMul, Nat.reduceSub, reduceIte, ANc, A3c, hlen, ozz, Int.reduceToNat, ite_self, fill4, fill6, cI6, w1, w2, w3, w5, w6]
    refine hq2 _ _ ⟨_, by rw [hr]; simp (disch := (first | assumption | omega | (simp only [List.length_cons, List.length_nil] <;> omega) | (simp only [alloc_n, set_n] <;> omega) | (simp (disch := (first | assumption | omega | (simp only [alloc_n, set_n] <;> omega))) only [row_alloc, row_set]; assumption))) only [W_block, ANs, A3s, AOp.map, ↓reduceIte, Nat.reduceAdd, Nat.reduceEqDiff, reduceCtorEq, initFr, Nat.reduceLT, clsA, List.take, List.drop, Nat.reduceLeDiff, Nat.reduceMul, Nat.reduceSub, reduceIte, ANc, A3c, ozz, lz]; rfl, ?_, .slice none 0 0, fun b hb => (by cases hb), ?_⟩
    · ((repeat (first | exact Keeps.refl _ | assumption | refine Keeps.alloc ?_ _ | (refine Keeps.set ?_ (by first | omega | (simp only [alloc_n, set_n] <;> omega)) (by first | omega | (simp only [alloc_n, set_n] <;> omega)) _) | (refine Keeps.trans' (by assumption) ?_))))
    · cases hg : geI6 b with
      | none => rfl
      | some y => have := geI6_few hg; have := (geI6_some hg).2.2.2; omega
  have hd : x = deI6 (bd b) := by
    rw [hx]
    unfold deI6
    rw [← na_bd (s := 0) (by omega), ← na_bd (s := 1) (by omega), ← na_bd (s := 9) (by omega), ← na_bd (s := 17) (by omega), ← na_bd (s := 21) (by omega), ← na_bd (s := 25) (by omega), ← hn]
  have hrg : rgI6 x := by rw [hd]; exact deI6_rg _
  have hxc : x.cs = deCs (bd b) n := by rw [hx]
  simp (disch := (first | assumption | omega | (simp only [List.length_cons, List.length_nil] <;> omega) | (simp only [alloc_n, set_n] <;> omega) | (simp (disch := (first | assumption | omega | (simp only [alloc_n, set_n] <;> omega))) only [row_alloc, row_set]; assumption))) only [W_block, ANs, A3s, AOp.map, ↓reduceIte, Nat.reduceAdd, Nat.reduceEqDiff, reduceCtorEq, initFr, Nat.reduceLT, clsA, List.take, List.drop, Nat.reduceLeDiff, Nat.reduceMul, Nat.reduceSub, reduceIte, ANc, A3c, hlen, ozz, Int.reduceToNat, ite_self, fill4, fill6, cI6, w1, w2, w3, w5, w6]
  refine W_loop2 (fun q fr K => ∃ (i : Nat) (vc e f : Value), i ≤ n ∧ q = n - i ∧ Keeps H K ∧ K.get H.n = some (.cells true false 6 (cI6 (.slice none 0 0) I60) 34) ∧ K.get (H.n + 1) = some (.cells true false 6 (cI6 vc x) 34) ∧ AP K 108 2 vc i (CC (deCs (bd b) i)).flatten ∧ Fresh (H.n + 2) vc ∧
    fr = [v, ptr H.n 0, .bool false, ptr (H.n + 1) 0, .int .i64 (n : Nat), .int .i64 (i : Nat), .bool false, .bool false, e, f]) n ⟨0, .slice none 0 0, undef, undef, by omega, rfl, by ((repeat (first | exact Keeps.refl _ | assumption | refine Keeps.alloc ?_ _ | (refine Keeps.set ?_ (by first | omega | (simp only [alloc_n, set_n] <;> omega)) (by first | omega | (simp only [alloc_n, set_n] <;> omega)) _) | (refine Keeps.trans' (by assumption) ?_)))), ?_, by rw [cx]; exact AHeap.get_alloc_new _ _, .inl ⟨rfl, rfl, rfl⟩, fun b hb => (by cases hb), rfl⟩ ?_
  · exact (AHeap.get_alloc_old _ _ (by rw [alloc_n]; omega)).trans (AHeap.get_alloc_new _ _)
  rintro Q' q fr K ⟨i, vc, e, f, hi, rfl, kK, g0, gk, ap, fv, rfl⟩ hnx hex hrt
  have hkn := AHeap.get_lt gk
  by_cases hc : i < n
  · have wm : IntKind.i64.wrap (2 * (i : Int)) = ((2 * i : Nat) : Int) := by rw [wrap_i64 (by omega) (by omega)]; push_cast; rfl
    have w27 : IntKind.i64.wrap (27 + ((2 * i : Nat) : Int)) = ((27 + 2 * i : Nat) : Int) := by rw [wrap_i64 (by omega) (by omega)]; push_cast; rfl
    have w28 : IntKind.i64.wrap (28 + ((2 * i : Nat) : Int)) = ((28 + 2 * i : Nat) : Int) := by rw [wrap_i64 (by omega) (by omega)]; push_cast; rfl
    obtain ⟨_, hr1⟩ := (hs.keeps kK).at_ (by omega) (i := 27 + 2 * i) (by rw [List.length_map]; omega)
    obtain ⟨_, hr2⟩ := (hs.keeps kK).at_ (by omega) (i := 28 + 2 * i) (by rw [List.length_map]; omega)
    rw [List.getElem_map, ← na_one (by omega)] at hr1 hr2
    have w7 : IntKind.i64.wrap (na b (28 + 2 * i) 1 : Nat) = (na b (28 + 2 * i) 1 : Nat) := by
      have := na1 b (28 + 2 * i)
      exact wrap_i64 (by omega) (by omega)
    simp (disch := (first | assumption | omega | (simp only [List.length_cons, List.length_nil] <;> omega) | (simp only [alloc_n, set_n] <;> omega) | (simp (disch := (first | assumption | omega | (simp only [alloc_n, set_n] <;> omega))) only [row_alloc, row_set]; assumption))) only [W_block, ANs, A3s, AOp.map, ↓reduceIte, Nat.reduceAdd, Nat.reduceEqDiff, reduceCtorEq, initFr, Nat.reduceLT, clsA, List.take, List.drop, Nat.reduceLeDiff, Nat.reduceMul, Nat.reduceSub, reduceIte, ANc, A3c, gk, cx, wm, w27, w28, hlen, fillC, fillP, w7]
    obtain ⟨e7, he7⟩ : ∃ e7 : List Value, e7 = [.int .u8 (na b (27 + 2 * i) 1 : Nat), .int .i64 (na b (28 + 2 * i) 1 : Nat)] := ⟨_, rfl⟩
    rw [← he7]
    have apn : AP (K.alloc (.cells true false 2 e7 108)) 108 2 vc i (CC (deCs (bd b) i)).flatten := ap.keeps ((Keeps.refl _).alloc _)
    refine appGD apn ⟨_, _, rfl⟩ (elems_new rfl (by rw [he7]; rfl)) (by rw [he7]; rfl) (by omega) ?_
    intro v9 H9 ap9 c9 hb9
    have n9 := c9.n
    simp only [alloc_n, set_n] at n9 hb9
    have fv9 : Fresh (H.n + 2) v9 := fun y hy => by
      rcases hb9 with e | e
      · exact fv y (by rw [← e]; exact hy)
      · rw [e] at hy; cases hy; omega
    have g9 : ∀ y, y < H.n + 2 → H9.get y = K.get y := fun y hy => by
      rw [c9.get _ (by rw [alloc_n]; omega) (fun hz => by have := fv y (mem_blkL.1 hz); omega), AHeap.get_alloc_old _ _ (by omega)]
    have gk9 := (g9 (H.n + 1) (by omega)).trans gk
    have g09 := (g9 H.n (by omega)).trans g0
    have ho9 : v9.oneCell' = true := by obtain ⟨a, e⟩ := ap9.shape; rw [e]; rfl
    simp (disch := (first | assumption | omega | (simp only [List.length_cons, List.length_nil] <;> omega) | (simp only [alloc_n, set_n] <;> omega) | (simp (disch := (first | assumption | omega | (simp only [alloc_n, set_n] <;> omega))) only [row_alloc, row_set]; assumption))) only [W_block, ANs, A3s, AOp.map, ↓reduceIte, Nat.reduceAdd, Nat.reduceEqDiff, reduceCtorEq, initFr, Nat.reduceLT, clsA, List.take, List.drop, Nat.reduceLeDiff, Nat.reduceMul, Nat.reduceSub, reduceIte, ANc, A3c, gk9, cx, ho9, wrap_succ (n := i) (by omega)]
    refine hnx _ _ _ ⟨i + 1, v9, _, _, by omega, rfl, ?_, by rw [AHeap.get_set_other _ (by omega) (by omega)]; exact g09, by rw [cx]; exact AHeap.get_set_same gk9 _, ?_, fv9, rfl⟩ (by omega)
    · refine ⟨by rw [set_n]; have := kK.n; omega, fun y hy => ?_⟩
      rw [AHeap.get_set_other _ (by omega) (by omega), g9 _ (by omega), kK.get y hy]
    · have e9 : (CC (deCs (bd b) (i + 1))).flatten = (CC (deCs (bd b) i)).flatten ++ e7 := by
        rw [deCs_succ, he7]
        unfold CC
        rw [List.map_append, List.flatten_append]
        simp only [List.map_cons, List.map_nil, List.flatten_cons, List.flatten_nil, List.append_nil]
        rw [← na_bd (s := 26 + 2 * i) (by omega), ← na_bd (s := 27 + 2 * i) (by omega), show 26 + 2 * i + 1 = 27 + 2 * i by omega, show 27 + 2 * i + 1 = 28 + 2 * i by omega]
      rw [e9]
      exact ap9.chg (Chg.set H9 (by omega) _) (fun y hy => by have := fv9 y (mem_blkL.1 hy); simp; omega)
  · have hin : i = n := by omega
    subst hin
    simp (disch := (first | assumption | omega | (simp only [List.length_cons, List.length_nil] <;> omega) | (simp only [alloc_n, set_n] <;> omega) | (simp (disch := (first | assumption | omega | (simp only [alloc_n, set_n] <;> omega))) only [row_alloc, row_set]; assumption))) only [W_block, ANs, A3s, AOp.map, ↓reduceIte, Nat.reduceAdd, Nat.reduceEqDiff, reduceCtorEq, initFr, Nat.reduceLT, clsA, List.take, List.drop, Nat.reduceLeDiff, Nat.reduceMul, Nat.reduceSub, reduceIte, ANc, A3c]
    refine hex _ _ _ ?_
    have hsl : Sl K 2 vc (CC x.cs) := by
      rw [hxc]
      refine ap.sl (fun r hr => ?_) (by simp [CC, deCs_len])
      simp only [CC, List.mem_map] at hr
      obtain ⟨_, _, rfl⟩ := hr
      rfl
    have hone := hsl.one
    have lx : (cI6 vc x).length = 6 := rfl
    have ox : (cI6 vc x).all Value.oneCell' = true := by simp only [cI6, List.all_cons, List.all_nil, hone]; rfl
    simp (disch := (first | assumption | omega | (simp only [List.length_cons, List.length_nil] <;> omega) | (simp only [alloc_n, set_n] <;> omega) | (simp (disch := (first | assumption | omega | (simp only [alloc_n, set_n] <;> omega))) only [row_alloc, row_set]; assumption))) only [W_block, ANs, A3s, AOp.map, ↓reduceIte, Nat.reduceAdd, Nat.reduceEqDiff, reduceCtorEq, initFr, Nat.reduceLT, clsA, List.take, List.drop, Nat.reduceLeDiff, Nat.reduceMul, Nat.reduceSub, reduceIte, ANc, A3c, gk, lx]
    refine callK (t48 x hrg hsl (by rw [hxc, deCs_len]; omega)) ?_
    rintro v2 K2 o2
    have k2 := o2.k
    have n2 := k2.n
    have hb1 := hb.bs.keeps kK
    have tk := tbk hb1 k2
    have hb2 := hb1.keeps k2
    have kb := kK.trans k2
    by_cases heq : fI6 x = b
    · have e1 : decide (fI6 x = b) = true := by simp [heq]
      have hg := geI6_of hrg (by intro e; rw [e] at h0; simp at h0) heq
      simp (disch := (first | assumption | omega | (simp only [List.length_cons, List.length_nil] <;> omega) | (simp only [alloc_n, set_n] <;> omega) | (simp (disch := (first | assumption | omega | (simp only [alloc_n, set_n] <;> omega))) only [row_alloc, row_set, Keeps.row k2]; assumption))) only [Keeps.get k2, Keeps.row k2, W_block, ANs, A3s, AOp.map, ↓reduceIte, Nat.reduceAdd, Nat.reduceEqDiff, reduceCtorEq, initFr, Nat.reduceLT, clsA, List.take, List.drop, Nat.reduceLeDiff, Nat.reduceMul, Nat.reduceSub, reduceIte, ANc, A3c, a_b2sB o2.bs, a_b2sB hb2, touch_b2s, ite_self, bytes_eq, e1, ox, lx, ozz, lz, gk, g0, tk.1, tk.2]
      refine hq2 _ _ ⟨_, by rw [hr]; simp (disch := (first | assumption | omega | (simp only [List.length_cons, List.length_nil] <;> omega) | (simp only [alloc_n, set_n] <;> omega) | (simp (disch := (first | assumption | omega | (simp only [alloc_n, set_n] <;> omega))) only [row_alloc, row_set, Keeps.row k2]; assumption))) only [Keeps.get k2, Keeps.row k2, W_block, ANs, A3s, AOp.map, ↓reduceIte, Nat.reduceAdd, Nat.reduceEqDiff, reduceCtorEq, initFr, Nat.reduceLT, clsA, List.take, List.drop, Nat.reduceLeDiff, Nat.reduceMul, Nat.reduceSub, reduceIte, ANc, A3c, lx, g0]; rfl, kb.set (Nat.le_refl _) (by omega) _, vc, fun y hy => by have := fv y hy; omega, ?_⟩
      rw [hg]
      refine ⟨rfl, ?_⟩
      rw [hxc, deCs_len]
      exact (ap.keeps k2).chg (Chg.set K2 (by omega) _) (fun y hy => by have := fv y (mem_blkL.1 hy); simp; omega)
    · have e1 : decide (fI6 x = b) = false := by simp [heq]
      have hg : geI6 b = none := by
        cases hg : geI6 b with
        | none => rfl
        | some y =>
          obtain ⟨p1, p2, p3, p4⟩ := geI6_some hg
          rw [← hd] at p3
          subst p3
          exact absurd p1 heq
      simp (disch := (first | assumption | omega | (simp only [List.length_cons, List.length_nil] <;> omega) | (simp only [alloc_n, set_n] <;> omega) | (simp (disch := (first | assumption | omega | (simp only [alloc_n, set_n] <;> omega))) only [row_alloc, row_set, Keeps.row k2]; assumption))) only [Keeps.get k2, Keeps.row k2, W_block, ANs, A3s, AOp.map, ↓reduceIte, Nat.reduceAdd, Nat.reduceEqDiff, reduceCtorEq, initFr, Nat.reduceLT, clsA, List.take, List.drop, Nat.reduceLeDiff, Nat.reduceMul, Nat.reduceSub, reduceIte, ANc, A3c, a_b2sB o2.bs, a_b2sB hb2, touch_b2s, ite_self, bytes_eq, e1, ox, lx, ozz, lz, gk, g0, tk.1, tk.2]
      refine hq2 _ _ ⟨_, by rw [hr]; simp (disch := (first | assumption | omega | (simp only [List.length_cons, List.length_nil] <;> omega) | (simp only [alloc_n, set_n] <;> omega) | (simp (disch := (first | assumption | omega | (simp only [alloc_n, set_n] <;> omega))) only [row_alloc, row_set, Keeps.row k2]; assumption))) only [Keeps.get k2, Keeps.row k2, W_block, ANs, A3s, AOp.map, ↓reduceIte, Nat.reduceAdd, Nat.reduceEqDiff, reduceCtorEq, initFr, Nat.reduceLT, clsA, List.take, List.drop, Nat.reduceLeDiff, Nat.reduceMul, Nat.reduceSub, reduceIte, ANc, A3c, ozz, lz, g0]; rfl, kb.set (Nat.le_refl _) (by omega) _, .slice none 0 0, fun b hb => (by cases hb), ?_⟩
      rw [hg]
      rfl
end Go.AM.Fd

set_option linter.unusedSimpArgs false
set_option linter.unusedVariables false
namespace Go.AM.Fd
open Go.Proofs Go.AM.F
def sI6 (x y : I6) : Bool := decide (x.ch = y.ch ∧ x.cy = y.cy ∧ x.oc = y.oc ∧ x.no = y.no ∧ x.re = y.re ∧ x.cs = y.cs)
theorem a_eqC (a b c d : Int) (H : AHeap) : asem (.eqs [1, 1] true (.agg #[.int .u8 a, .int .i64 b]) (.agg #[.int .u8 c, .int .i64 d])) H = some (.bool (!((a == c) && ((b == d) && true))), H) := rfl
theorem t14 (x y : I6) {H : AHeap} {vx vy : Value} (hX0 : Sl H 2 vx (CC x.cs)) (hY0 : Sl H 2 vy (CC y.cs)) (hl : x.cs.length ≤ 1000000) (hl2 : y.cs.length ≤ 1000000) :
    ∃ w H', ARun Go.Proofs.Try.prog 0 14 [.agg (cI6 vx x).toArray, .agg (cI6 vy y).toArray] H w H' ∧ w = .bool (sI6 x y) ∧ H' = H := by
  suffices h : ∃ w H', ARun Go.Proofs.Try.prog 0 14 [.agg (cI6 vx x).toArray, .agg (cI6 vy y).toArray] H w H' ∧ w = .bool (sI6 x y) ∧ Keeps H H' by
    obtain ⟨_, _, a, rfl, k⟩ := h
    exact ⟨_, _, a.gc0 k (.inr (.bool _)), rfl, rfl⟩
  refine walk2 f14_ok f14_n ?_
  intro Q hq1 hq2
  have hone := hX0.one
  have hone2 := hY0.one
  have ox : (cI6 vx x).all Value.oneCell' = true := by simp only [cI6, List.all_cons, List.all_nil, hone]; rfl
  have oy : (cI6 vy y).all Value.oneCell' = true := by simp only [cI6, List.all_cons, List.all_nil, hone2]; rfl
  have his := hX0.is
  have hlen := hX0.len
  have his2 := hY0.is
  have hlen2 := hY0.len
  rw [CC, List.length_map] at hlen hlen2
  have k0 := ((Keeps.refl H).alloc (.cells true false 6 (cI6 vx x) 34)).alloc (.cells true false 6 (cI6 vy y) 34)
  have no : ∀ (P : Prop), (¬ P) → (P → sI6 x y = true) → True := fun _ _ _ => trivial
  by_cases c1 : x.ch = y.ch
  rotate_left
  · simp (disch := (first | assumption | omega | (simp only [List.length_cons, List.length_nil] <;> omega) | (simp only [alloc_n, set_n] <;> omega) | (simp (disch := (first | assumption | omega | (simp only [alloc_n, set_n] <;> omega))) only [row_alloc, row_set]; assumption))) only [f14, W_block, ANs, A3s, AOp.map, ↓reduceIte, Nat.reduceAdd, Nat.reduceEqDiff, reduceCtorEq, initFr, Nat.reduceLT, clsA, List.take, List.drop, Nat.reduceLeDiff, Nat.reduceMul, Nat.reduceSub, reduceIte, ANc, A3c, ox, oy, cI6G vx x, cI6G vy y]
    exact hq2 _ _ ⟨_, rfl, by rw [show sI6 x y = false from by simp [sI6, c1]]; rfl, k0⟩
  by_cases c2 : x.cy = y.cy
  rotate_left
  · simp (disch := (first | assumption | omega | (simp only [List.length_cons, List.length_nil] <;> omega) | (simp only [alloc_n, set_n] <;> omega) | (simp (disch := (first | assumption | omega | (simp only [alloc_n, set_n] <;> omega))) only [row_alloc, row_set]; assumption))) only [f14, W_block, ANs, A3s, AOp.map, ↓reduceIte, Nat.reduceAdd, Nat.reduceEqDiff, reduceCtorEq, initFr, Nat.reduceLT, clsA, List.take, List.drop, Nat.reduceLeDiff, Nat.reduceMul, Nat.reduceSub, reduceIte, ANc, A3c, ox, oy, cI6G vx x, cI6G vy y]
    exact hq2 _ _ ⟨_, rfl, by rw [show sI6 x y = false from by simp [sI6, c2]]; rfl, k0⟩
  by_cases c3 : x.oc = y.oc
  rotate_left
  · simp (disch := (first | assumption | omega | (simp only [List.length_cons, List.length_nil] <;> omega) | (simp only [alloc_n, set_n] <;> omega) | (simp (disch := (first | assumption | omega | (simp only [alloc_n, set_n] <;> omega))) only [row_alloc, row_set]; assumption))) only [f14, W_block, ANs, A3s, AOp.map, ↓reduceIte, Nat.reduceAdd, Nat.reduceEqDiff, reduceCtorEq, initFr, Nat.reduceLT, clsA, List.take, List.drop, Nat.reduceLeDiff, Nat.reduceMul, Nat.reduceSub, reduceIte, ANc, A3c, ox, oy, cI6G vx x, cI6G vy y]
    exact hq2 _ _ ⟨_, rfl, by rw [show sI6 x y = false from by simp [sI6, c3]]; rfl, k0⟩
  by_cases c4 : x.no = y.no
  rotate_left
  · simp (disch := (first | assumption | omega | (simp only [List.length_cons, List.length_nil] <;> omega) | (simp only [alloc_n, set_n] <;> omega) | (simp (disch := (first | assumption | omega | (simp only [alloc_n, set_n] <;> omega))) only [row_alloc, row_set]; assumption))) only [f14, W_block, ANs, A3s, AOp.map, ↓reduceIte, Nat.reduceAdd, Nat.reduceEqDiff, reduceCtorEq, initFr, Nat.reduceLT, clsA, List.take, List.drop, Nat.reduceLeDiff, Nat.reduceMul, Nat.reduceSub, reduceIte, ANc, A3c, ox, oy, cI6G vx x, cI6G vy y]
    exact hq2 _ _ ⟨_, rfl, by rw [show sI6 x y = false from by simp [sI6, c4]]; rfl, k0⟩
  by_cases c5 : x.re = y.re
  rotate_left
  · simp (disch := (first | assumption | omega | (simp only [List.length_cons, List.length_nil] <;> omega) | (simp only [alloc_n, set_n] <;> omega) | (simp (disch := (first | assumption | omega | (simp only [alloc_n, set_n] <;> omega))) only [row_alloc, row_set]; assumption))) only [f14, W_block, ANs, A3s, AOp.map, ↓reduceIte, Nat.reduceAdd, Nat.reduceEqDiff, reduceCtorEq, initFr, Nat.reduceLT, clsA, List.take, List.drop, Nat.reduceLeDiff, Nat.reduceMul, Nat.reduceSub, reduceIte, ANc, A3c, ox, oy, cI6G vx x, cI6G vy y]
    exact hq2 _ _ ⟨_, rfl, by rw [show sI6 x y = false from by simp [sI6, c5]]; rfl, k0⟩
  by_cases c6 : x.cs.length = y.cs.length
  rotate_left
  · simp (disch := (first | assumption | omega | (simp only [List.length_cons, List.length_nil] <;> omega) | (simp only [alloc_n, set_n] <;> omega) | (simp (disch := (first | assumption | omega | (simp only [alloc_n, set_n] <;> omega))) only [row_alloc, row_set]; assumption))) only [f14, W_block, ANs, A3s, AOp.map, ↓reduceIte, Nat.reduceAdd, Nat.reduceEqDiff, reduceCtorEq, initFr, Nat.reduceLT, clsA, List.take, List.drop, Nat.reduceLeDiff, Nat.reduceMul, Nat.reduceSub, reduceIte, ANc, A3c, ox, oy, cI6G vx x, cI6G vy y, hlen, hlen2]
    refine hq2 _ _ ⟨_, rfl, ?_, k0⟩
    rw [show sI6 x y = false from by
      simp only [sI6, decide_eq_false_iff_not]
      intro h
      exact c6 (by rw [h.2.2.2.2.2])]
    rfl
  simp (disch := (first | assumption | omega | (simp only [List.length_cons, List.length_nil] <;> omega) | (simp only [alloc_n, set_n] <;> omega) | (simp (disch := (first | assumption | omega | (simp only [alloc_n, set_n] <;> omega))) only [row_alloc, row_set]; assumption))) only [f14, W_block, ANs, A3s, AOp.map, ↓reduceIte, Nat.reduceAdd, Nat.reduceEqDiff, reduceCtorEq, initFr, Nat.reduceLT, clsA, List.take, List.drop, Nat.reduceLeDiff, Nat.reduceMul, Nat.reduceSub, reduceIte, ANc, A3c, ox, oy, cI6G vx x, cI6G vy y, hlen, hlen2]
  obtain ⟨K, hK⟩ : ∃ K, K = (H.alloc (.cells true false 6 (cI6 vx x) 34)).alloc (.cells true false 6 (cI6 vy y) 34) := ⟨_, rfl⟩
  rw [← hK] at k0 ⊢
  have gx : K.get H.n = some (.cells true false 6 (cI6 vx x) 34) := by rw [hK]; exact (AHeap.get_alloc_old _ _ (by rw [alloc_n]; omega)).trans (AHeap.get_alloc_new _ _)
  have gy : K.get (H.n + 1) = some (.cells true false 6 (cI6 vy y) 34) := by rw [hK]; exact AHeap.get_alloc_new _ _
  have hX := hX0.keeps k0
  have hY := hY0.keeps k0
  refine W_loop2 (fun q fr K' => ∃ (i : Nat) (e f : Value), i ≤ x.cs.length ∧ q = x.cs.length - i ∧ K' = K ∧ (∀ j (h : j < x.cs.length), j < i → x.cs[j] = y.cs[j]) ∧
    fr = [.agg (cI6 vx x).toArray, .agg (cI6 vy y).toArray, ptr H.n 0, ptr (H.n + 1) 0, .bool false, .int .i64 (i : Nat), .bool false, e, f]) x.cs.length ⟨0, undef, undef, by omega, rfl, rfl, by intro j _ h; omega, rfl⟩ ?_
  rintro Q' q fr _ ⟨i, e, f, hi, rfl, rfl, hall, rfl⟩ hnx hex hrt
  by_cases hc : i < x.cs.length
  · obtain ⟨hn1, hr1⟩ := hX.at_ (by omega) (i := i) (by simpa [CC] using hc)
    obtain ⟨hn2, hr2⟩ := hY.at_ (by omega) (i := i) (by simp only [CC, List.length_map]; omega)
    simp only [CC, List.getElem_map] at hr1 hr2
    by_cases he : x.cs[i] = y.cs[i]
    · have e1 : (((x.cs[i].1 : Nat) : Int) == ((y.cs[i].1 : Nat) : Int)) = true := by simp [he]
      have e2 : (x.cs[i].2 == y.cs[i].2) = true := by simp [he]
      simp (disch := (first | assumption | omega | (simp only [List.length_cons, List.length_nil] <;> omega) | (simp only [alloc_n, set_n] <;> omega) | (simp (disch := (first | assumption | omega | (simp only [alloc_n, set_n] <;> omega))) only [row_alloc, row_set]; assumption))) only [W_block, ANs, A3s, AOp.map, ↓reduceIte, Nat.reduceAdd, Nat.reduceEqDiff, reduceCtorEq, initFr, Nat.reduceLT, clsA, List.take, List.drop, Nat.reduceLeDiff, Nat.reduceMul, Nat.reduceSub, reduceIte, ANc, A3c, gx, gy, cI6G vx x, cI6G vy y, hlen, a_eqC, e1, e2, wrap_succ (n := i) (by omega)]
      refine hnx _ _ _ ⟨i + 1, _, _, by omega, rfl, rfl, ?_, rfl⟩ (by omega)
      intro j hj hji
      by_cases hjk : j < i
      · exact hall j hj hjk
      · have : j = i := by omega
        subst this; exact he
    · have e1 : (((x.cs[i].1 : Nat) : Int) == ((y.cs[i].1 : Nat) : Int) && (x.cs[i].2 == y.cs[i].2 && true)) = false := by
        cases h : (((x.cs[i].1 : Nat) : Int) == ((y.cs[i].1 : Nat) : Int) && (x.cs[i].2 == y.cs[i].2 && true)) with
        | false => rfl
        | true =>
          exfalso
          simp only [Bool.and_true, Bool.and_eq_true, beq_iff_eq] at h
          exact he (Prod.ext (by omega) h.2)
      have e2 : ∀ X, asem (.eqs [1, 1] true (.agg #[.int .u8 (x.cs[i].1 : Nat), .int .i64 x.cs[i].2]) (.agg #[.int .u8 (y.cs[i].1 : Nat), .int .i64 y.cs[i].2])) X = some (.bool true, X) := fun X => by rw [a_eqC, e1]; rfl
      simp (disch := (first | assumption | omega | (simp only [List.length_cons, List.length_nil] <;> omega) | (simp only [alloc_n, set_n] <;> omega) | (simp (disch := (first | assumption | omega | (simp only [alloc_n, set_n] <;> omega))) only [row_alloc, row_set]; assumption))) only [W_block, ANs, A3s, AOp.map, ↓reduceIte, Nat.reduceAdd, Nat.reduceEqDiff, reduceCtorEq, initFr, Nat.reduceLT, clsA, List.take, List.drop, Nat.reduceLeDiff, Nat.reduceMul, Nat.reduceSub, reduceIte, ANc, A3c, gx, gy, cI6G vx x, cI6G vy y, hlen, e2]
      refine hrt _ _ ?_
      simp (disch := (first | assumption | omega | (simp only [List.length_cons, List.length_nil] <;> omega) | (simp only [alloc_n, set_n] <;> omega) | (simp (disch := (first | assumption | omega | (simp only [alloc_n, set_n] <;> omega))) only [row_alloc, row_set]; assumption))) only [W_block, ANs, A3s, AOp.map, ↓reduceIte, Nat.reduceAdd, Nat.reduceEqDiff, reduceCtorEq, initFr, Nat.reduceLT, clsA, List.take, List.drop, Nat.reduceLeDiff, Nat.reduceMul, Nat.reduceSub, reduceIte, ANc, A3c]
      refine hq2 _ _ ⟨_, rfl, ?_, k0⟩
      rw [show sI6 x y = false from by
        simp only [sI6, decide_eq_false_iff_not]
        intro h
        apply he
        simp only [h.2.2.2.2.2]]
      rfl
  · simp (disch := (first | assumption | omega | (simp only [List.length_cons, List.length_nil] <;> omega) | (simp only [alloc_n, set_n] <;> omega) | (simp (disch := (first | assumption | omega | (simp only [alloc_n, set_n] <;> omega))) only [row_alloc, row_set]; assumption))) only [W_block, ANs, A3s, AOp.map, ↓reduceIte, Nat.reduceAdd, Nat.reduceEqDiff, reduceCtorEq, initFr, Nat.reduceLT, clsA, List.take, List.drop, Nat.reduceLeDiff, Nat.reduceMul, Nat.reduceSub, reduceIte, ANc, A3c, gx, gy, cI6G vx x, cI6G vy y, hlen]
    refine hex _ _ _ ?_
    simp (disch := (first | assumption | omega | (simp only [List.length_cons, List.length_nil] <;> omega) | (simp only [alloc_n, set_n] <;> omega) | (simp (disch := (first | assumption | omega | (simp only [alloc_n, set_n] <;> omega))) only [row_alloc, row_set]; assumption))) only [W_block, ANs, A3s, AOp.map, ↓reduceIte, Nat.reduceAdd, Nat.reduceEqDiff, reduceCtorEq, initFr, Nat.reduceLT, clsA, List.take, List.drop, Nat.reduceLeDiff, Nat.reduceMul, Nat.reduceSub, reduceIte, ANc, A3c]
    refine hq2 _ _ ⟨_, rfl, ?_, k0⟩
    rw [show sI6 x y = true from by
      simp only [sI6, decide_eq_true_eq]
      refine ⟨c1, c2, c3, c4, c5, List.ext_getElem c6 (fun j h1 h2 => hall j h1 (by omega))⟩]
    rfl
theorem fillb5 (a b c d e : Bool) : fillA [.bool false, .bool false, .bool false, .bool false, .bool false] [(0, 1, .bool a), (1, 1, .bool b), (2, 1, .bool c), (3, 1, .bool d), (4, 1, .bool e)] = some [.bool a, .bool b, .bool c, .bool d, .bool e] := rfl
theorem tup2 (c : List Value) (ok : Bool) : GotB c ok = .tuple #[.agg c.toArray, .bool ok] := rfl
theorem t29 {H : AHeap} {v : Value} {b : List UInt8} (hb : BQ H v b) (hl : b.length ≤ 1000000) : ∃ w H', ARun Go.Proofs.Try.prog 0 29 [v] H w H' ∧ w = .int .u8 (kiB b : Nat) ∧ H' = H := by
  suffices h : ∃ w H', ARun Go.Proofs.Try.prog 0 29 [v] H w H' ∧ w = .int .u8 (kiB b : Nat) ∧ Keeps H H' by
    obtain ⟨_, _, a, rfl, k⟩ := h
    exact ⟨_, _, a.gc0 k (.inr (.int _ _)), rfl, rfl⟩
  refine walk2 f29_ok f29_n ?_
  intro Q hq1 hq2
  have lz6 : ([.int .u8 0, .int .i64 0, .int .u64 0, .int .u32 0, .int .u32 0, .slice none 0 0] : List Value).length = 6 := rfl
  simp (disch := (first | assumption | omega | (simp only [List.length_cons, List.length_nil] <;> omega) | (simp only [alloc_n, set_n] <;> omega) | (simp (disch := (first | assumption | omega | (simp only [alloc_n, set_n] <;> omega))) only [row_alloc, row_set]; assumption))) only [f29, W_block, ANs, A3s, AOp.map, ↓reduceIte, Nat.reduceAdd, Nat.reduceEqDiff, reduceCtorEq, initFr, Nat.reduceLT, clsA, List.take, List.drop, Nat.reduceLeDiff, Nat.reduceMul, Nat.reduceSub, reduceIte, ANc, A3c]
  refine callK (t13 hb hl) ?_
  rintro w1 K1 ⟨k1, vc, fv, hw1⟩
  obtain ⟨c1, hc1, hl1, ho1⟩ : ∃ c1 : List Value, w1 = GotB c1 (geI6 b).isSome ∧ c1.length = 6 ∧ c1.all Value.oneCell' = true := by
    cases hg : geI6 b with
    | none => rw [hg] at hw1; exact ⟨_, hw1, rfl, rfl⟩
    | some x =>
      rw [hg] at hw1
      obtain ⟨e1, e2⟩ := hw1
      refine ⟨_, e1, rfl, ?_⟩
      obtain ⟨a, ha⟩ := e2.shape
      simp only [cI6, List.all_cons, List.all_nil, ha]
      rfl
  subst hc1
  have n1 := k1.n
  simp (disch := (first | assumption | omega | (simp only [List.length_cons, List.length_nil] <;> omega) | (simp only [alloc_n, set_n] <;> omega) | (simp (disch := (first | assumption | omega | (simp only [alloc_n, set_n] <;> omega))) only [row_alloc, row_set]; assumption))) only [W_block, ANs, A3s, AOp.map, ↓reduceIte, Nat.reduceAdd, Nat.reduceEqDiff, reduceCtorEq, initFr, Nat.reduceLT, clsA, List.take, List.drop, Nat.reduceLeDiff, Nat.reduceMul, Nat.reduceSub, reduceIte, ANc, A3c, tup2, hl1, ho1]
  have kb1 := k1.alloc (.cells true false 6 c1 34)
  refine callK (t17 (hb.keeps kb1) (by omega)) ?_
  rintro _ _ ⟨rfl, rfl⟩
  obtain ⟨c2, hc2, hl2, ho2⟩ : ∃ c2 : List Value, tOu (geOu b) = GotB c2 (geOu b).isSome ∧ c2.length = 5 ∧ c2.all Value.oneCell' = true := by
    cases geOu b <;> exact ⟨_, rfl, rfl, rfl⟩
  rw [hc2]
  simp (disch := (first | assumption | omega | (simp only [List.length_cons, List.length_nil] <;> omega) | (simp only [alloc_n, set_n] <;> omega) | (simp (disch := (first | assumption | omega | (simp only [alloc_n, set_n] <;> omega))) only [row_alloc, row_set]; assumption))) only [W_block, ANs, A3s, AOp.map, ↓reduceIte, Nat.reduceAdd, Nat.reduceEqDiff, reduceCtorEq, initFr, Nat.reduceLT, clsA, List.take, List.drop, Nat.reduceLeDiff, Nat.reduceMul, Nat.reduceSub, reduceIte, ANc, A3c, tup2, hl2, ho2]
  have kb2 := kb1.alloc (.cells true false 5 c2 45)
  refine callK (t20 (hb.keeps kb2) (by omega)) ?_
  rintro _ _ ⟨rfl, rfl⟩
  obtain ⟨c3, hc3, hl3, ho3⟩ : ∃ c3 : List Value, tSt (geSt b) = GotB c3 (geSt b).isSome ∧ c3.length = 68 ∧ c3.all Value.oneCell' = true := by
    cases hg : geSt b with
    | none => exact ⟨_, rfl, rfl, rfl⟩
    | some x => exact ⟨_, rfl, cSt_len (geSt_some hg).2.1.1, cSt_one x⟩
  rw [hc3]
  have oz3 : Z68.all Value.oneCell' = true := rfl
  have lz3 : Z68.length = 68 := rfl
  simp (disch := (first | assumption | omega | (simp only [List.length_cons, List.length_nil] <;> omega) | (simp only [alloc_n, set_n] <;> omega) | (simp (disch := (first | assumption | omega | (simp only [alloc_n, set_n] <;> omega))) only [row_alloc, row_set]; assumption))) only [W_block, ANs, A3s, AOp.map, ↓reduceIte, Nat.reduceAdd, Nat.reduceEqDiff, reduceCtorEq, initFr, Nat.reduceLT, clsA, List.take, List.drop, Nat.reduceLeDiff, Nat.reduceMul, Nat.reduceSub, reduceIte, ANc, A3c, tup2, hl3, ho3, oz3]
  have kb3 := kb2.alloc (.cells true false 68 c3 51)
  refine callK (t22 (hb.keeps kb3) (by omega)) ?_
  rintro _ _ ⟨rfl, rfl⟩
  obtain ⟨c4, hc4, hl4, ho4⟩ : ∃ c4 : List Value, tLo (geLo b) = GotB c4 (geLo b).isSome ∧ c4.length = 70 ∧ c4.all Value.oneCell' = true := by
    cases hg : geLo b with
    | none => exact ⟨_, rfl, rfl, rfl⟩
    | some x => exact ⟨_, rfl, cLo_len (geLo_some hg).2.1.1, cLo_one x⟩
  rw [hc4]
  have oz4 : Z70.all Value.oneCell' = true := rfl
  have lz4 : Z70.length = 70 := rfl
  simp (disch := (first | assumption | omega | (simp only [List.length_cons, List.length_nil] <;> omega) | (simp only [alloc_n, set_n] <;> omega) | (simp (disch := (first | assumption | omega | (simp only [alloc_n, set_n] <;> omega))) only [row_alloc, row_set]; assumption))) only [W_block, ANs, A3s, AOp.map, ↓reduceIte, Nat.reduceAdd, Nat.reduceEqDiff, reduceCtorEq, initFr, Nat.reduceLT, clsA, List.take, List.drop, Nat.reduceLeDiff, Nat.reduceMul, Nat.reduceSub, reduceIte, ANc, A3c, tup2, hl4, ho4, oz4]
  have kb4 := kb3.alloc (.cells true false 70 c4 60)
  refine callK (t25 (hb.keeps kb4) (by omega)) ?_
  rintro _ _ ⟨rfl, rfl⟩
  obtain ⟨c5, hc5, hl5, ho5⟩ : ∃ c5 : List Value, tLi (geLi b) = GotB c5 (geLi b).isSome ∧ c5.length = 5 ∧ c5.all Value.oneCell' = true := by
    cases geLi b <;> exact ⟨_, rfl, rfl, rfl⟩
  rw [hc5]
  simp (disch := (first | assumption | omega | (simp only [List.length_cons, List.length_nil] <;> omega) | (simp only [alloc_n, set_n] <;> omega) | (simp (disch := (first | assumption | omega | (simp only [alloc_n, set_n] <;> omega))) only [row_alloc, row_set]; assumption))) only [W_block, ANs, A3s, AOp.map, ↓reduceIte, Nat.reduceAdd, Nat.reduceEqDiff, reduceCtorEq, initFr, Nat.reduceLT, clsA, List.take, List.drop, Nat.reduceLeDiff, Nat.reduceMul, Nat.reduceSub, reduceIte, ANc, A3c, tup2, hl5, ho5, fillb5]
  have kb5 := kb4.alloc (.cells true false 5 c5 69)
  have kb6 := kb5.alloc (.cells true false 1 [.bool (geI6 b).isSome, .bool (geOu b).isSome, .bool (geSt b).isSome, .bool (geLo b).isSome, .bool (geLi b).isSome] 4)
  obtain ⟨K, hK⟩ : ∃ K, K = (((((K1.alloc (.cells true false 6 c1 34)).alloc (.cells true false 5 c2 45)).alloc (.cells true false 68 c3 51)).alloc (.cells true false 70 c4 60)).alloc (.cells true false 5 c5 69)).alloc (.cells true false 1 [.bool (geI6 b).isSome, .bool (geOu b).isSome, .bool (geSt b).isSome, .bool (geLo b).isSome, .bool (geLi b).isSome] 4) := ⟨_, rfl⟩
  rw [← hK] at kb6 ⊢
  have gK : K.get (K1.n + 5) = some (.cells true false 1 [.bool (geI6 b).isSome, .bool (geOu b).isSome, .bool (geSt b).isSome, .bool (geLo b).isSome, .bool (geLi b).isSome] 4) := by rw [hK]; exact AHeap.get_alloc_new _ _
  obtain ⟨b1, h1⟩ : ∃ x, x = (geI6 b).isSome := ⟨_, rfl⟩
  obtain ⟨b2, h2⟩ : ∃ x, x = (geOu b).isSome := ⟨_, rfl⟩
  obtain ⟨b3, h3⟩ : ∃ x, x = (geSt b).isSome := ⟨_, rfl⟩
  obtain ⟨b4, h4⟩ : ∃ x, x = (geLo b).isSome := ⟨_, rfl⟩
  obtain ⟨b5, h5⟩ : ∃ x, x = (geLi b).isSome := ⟨_, rfl⟩
  have hk : kiB b = if b1 then 1 else if b2 then 2 else if b3 then 3 else if b4 then 4 else if b5 then 5 else 0 := by rw [h1, h2, h3, h4, h5]; rfl
  rw [← h1, ← h2, ← h3, ← h4, ← h5] at gK ⊢
  refine W_loop2 (fun q fr K' => ∃ (i : Nat) (e f : Value), i ≤ 5 ∧ q = 5 - i ∧ Keeps H K' ∧ K'.get (K1.n + 5) = some (.cells true false 1 [.bool b1, .bool b2, .bool b3, .bool b4, .bool b5] 4) ∧ (∀ j, j < i → [b1, b2, b3, b4, b5][j]? = some false) ∧
    fr = [v, .int .u8 0, .bool b1, .bool b2, .bool b3, .bool b4, .bool b5, slc (K1.n + 1 + 1 + 1 + 1 + 1) 0 5 5, .int .i64 (i : Nat), e, f]) 5 ⟨0, undef, undef, by omega, rfl, kb6, gK, by intro j h; omega, rfl⟩ ?_
  rintro Q' q fr K' ⟨i, e, f, hi, rfl, kk, gk, hall, rfl⟩ hnx hex hrt
  by_cases hc : i < 5
  · rcases (show i = 0 ∨ i = 1 ∨ i = 2 ∨ i = 3 ∨ i = 4 by omega) with rfl | rfl | rfl | rfl | rfl
    · cases hb : b1 with
      | true =>
        have ek : kiB b = 1 := by rw [hk, hb]; rfl
        simp (disch := (first | assumption | omega | (simp only [List.length_cons, List.length_nil] <;> omega) | (simp only [alloc_n, set_n] <;> omega) | (simp (disch := (first | assumption | omega | (simp only [alloc_n, set_n] <;> omega))) only [row_alloc, row_set]; assumption))) only [W_block, ANs, A3s, AOp.map, ↓reduceIte, Nat.reduceAdd, Nat.reduceEqDiff, reduceCtorEq, initFr, Nat.reduceLT, clsA, List.take, List.drop, Nat.reduceLeDiff, Nat.reduceMul, Nat.reduceSub, reduceIte, ANc, A3c, gk, hb]
        refine hrt _ _ ?_
        simp (disch := (first | assumption | omega | (simp only [List.length_cons, List.length_nil] <;> omega) | (simp only [alloc_n, set_n] <;> omega) | (simp (disch := (first | assumption | omega | (simp only [alloc_n, set_n] <;> omega))) only [row_alloc, row_set]; assumption))) only [W_block, ANs, A3s, AOp.map, ↓reduceIte, Nat.reduceAdd, Nat.reduceEqDiff, reduceCtorEq, initFr, Nat.reduceLT, clsA, List.take, List.drop, Nat.reduceLeDiff, Nat.reduceMul, Nat.reduceSub, reduceIte, ANc, A3c]
        exact hq2 _ _ ⟨_, rfl, by rw [ek]; rfl, kk⟩
      | false =>
        simp (disch := (first | assumption | omega | (simp only [List.length_cons, List.length_nil] <;> omega) | (simp only [alloc_n, set_n] <;> omega) | (simp (disch := (first | assumption | omega | (simp only [alloc_n, set_n] <;> omega))) only [row_alloc, row_set]; assumption))) only [W_block, ANs, A3s, AOp.map, ↓reduceIte, Nat.reduceAdd, Nat.reduceEqDiff, reduceCtorEq, initFr, Nat.reduceLT, clsA, List.take, List.drop, Nat.reduceLeDiff, Nat.reduceMul, Nat.reduceSub, reduceIte, ANc, A3c, gk, hb]
        refine hnx _ _ _ ⟨1, _, _, by omega, rfl, kk, gk, ?_, by rw [hb]; rfl⟩ (by omega)
        intro j hj
        by_cases hjk : j < 0
        · exact hall j hjk
        · have : j = 0 := by omega
          subst this; simp [hb]
    · have p0 : b1 = false := by simpa using hall 0 (by omega)
      cases hb : b2 with
      | true =>
        have ek : kiB b = 2 := by rw [hk, p0, hb]; rfl
        simp (disch := (first | assumption | omega | (simp only [List.length_cons, List.length_nil] <;> omega) | (simp only [alloc_n, set_n] <;> omega) | (simp (disch := (first | assumption | omega | (simp only [alloc_n, set_n] <;> omega))) only [row_alloc, row_set]; assumption))) only [W_block, ANs, A3s, AOp.map, ↓reduceIte, Nat.reduceAdd, Nat.reduceEqDiff, reduceCtorEq, initFr, Nat.reduceLT, clsA, List.take, List.drop, Nat.reduceLeDiff, Nat.reduceMul, Nat.reduceSub, reduceIte, ANc, A3c, gk, hb]
        refine hrt _ _ ?_
        simp (disch := (first | assumption | omega | (simp only [List.length_cons, List.length_nil] <;> omega) | (simp only [alloc_n, set_n] <;> omega) | (simp (disch := (first | assumption | omega | (simp only [alloc_n, set_n] <;> omega))) only [row_alloc, row_set]; assumption))) only [W_block, ANs, A3s, AOp.map, ↓reduceIte, Nat.reduceAdd, Nat.reduceEqDiff, reduceCtorEq, initFr, Nat.reduceLT, clsA, List.take, List.drop, Nat.reduceLeDiff, Nat.reduceMul, Nat.reduceSub, reduceIte, ANc, A3c]
        exact hq2 _ _ ⟨_, rfl, by rw [ek]; rfl, kk⟩
      | false =>
        simp (disch := (first | assumption | omega | (simp only [List.length_cons, List.length_nil] <;> omega) | (simp only [alloc_n, set_n] <;> omega) | (simp (disch := (first | assumption | omega | (simp only [alloc_n, set_n] <;> omega))) only [row_alloc, row_set]; assumption))) only [W_block, ANs, A3s, AOp.map, ↓reduceIte, Nat.reduceAdd, Nat.reduceEqDiff, reduceCtorEq, initFr, Nat.reduceLT, clsA, List.take, List.drop, Nat.reduceLeDiff, Nat.reduceMul, Nat.reduceSub, reduceIte, ANc, A3c, gk, hb]
        refine hnx _ _ _ ⟨2, _, _, by omega, rfl, kk, gk, ?_, by rw [hb]; rfl⟩ (by omega)
        intro j hj
        by_cases hjk : j < 1
        · exact hall j hjk
        · have : j = 1 := by omega
          subst this; simp [hb]
    · have p0 : b1 = false := by simpa using hall 0 (by omega)
      have p1 : b2 = false := by simpa using hall 1 (by omega)
      cases hb : b3 with
      | true =>
        have ek : kiB b = 3 := by rw [hk, p0, p1, hb]; rfl
        simp (disch := (first | assumption | omega | (simp only [List.length_cons, List.length_nil] <;> omega) | (simp only [alloc_n, set_n] <;> omega) | (simp (disch := (first | assumption | omega | (simp only [alloc_n, set_n] <;> omega))) only [row_alloc, row_set]; assumption))) only [W_block, ANs, A3s, AOp.map, ↓reduceIte, Nat.reduceAdd, Nat.reduceEqDiff, reduceCtorEq, initFr, Nat.reduceLT, clsA, List.take, List.drop, Nat.reduceLeDiff, Nat.reduceMul, Nat.reduceSub, reduceIte, ANc, A3c, gk, hb]
        refine hrt _ _ ?_
        simp (disch := (first | assumption | omega | (simp only [List.length_cons, List.length_nil] <;> omega) | (simp only [alloc_n, set_n] <;> omega) | (simp (disch := (first | assumption | omega | (simp only [alloc_n, set_n] <;> omega))) only [row_alloc, row_set]; assumption))) only [W_block, ANs, A3s, AOp.map, ↓reduceIte, Nat.reduceAdd, Nat.reduceEqDiff, reduceCtorEq, initFr, Nat.reduceLT, clsA, List.take, List.drop, Nat.reduceLeDiff, Nat.reduceMul, Nat.reduceSub, reduceIte, ANc, A3c]
        exact hq2 _ _ ⟨_, rfl, by rw [ek]; rfl, kk⟩
      | false =>
        simp (disch := (first | assumption | omega | (simp only [List.length_cons, List.length_nil] <;> omega) | (simp only [alloc_n, set_n] <;> omega) | (simp (disch := (first | assumption | omega | (simp only [alloc_n, set_n] <;> omega))) only [row_alloc, row_set]; assumption))) only [W_block, ANs, A3s, AOp.map, ↓reduceIte, Nat.reduceAdd, Nat.reduceEqDiff, reduceCtorEq, initFr, Nat.reduceLT, clsA, List.take, List.drop, Nat.reduceLeDiff, Nat.reduceMul, Nat.reduceSub, reduceIte, ANc, A3c, gk, hb]
        refine hnx _ _ _ ⟨3, _, _, by omega, rfl, kk, gk, ?_, by rw [hb]; rfl⟩ (by omega)
        intro j hj
        by_cases hjk : j < 2
        · exact hall j hjk
        · have : j = 2 := by omega
          subst this; simp [hb]
    · have p0 : b1 = false := by simpa using hall 0 (by omega)
      have p1 : b2 = false := by simpa using hall 1 (by omega)
      have p2 : b3 = false := by simpa using hall 2 (by omega)
      cases hb : b4 with
      | true =>
        have ek : kiB b = 4 := by rw [hk, p0, p1, p2, hb]; rfl
        simp (disch := (first | assumption | omega | (simp only [List.length_cons, List.length_nil] <;> omega) | (simp only [alloc_n, set_n] <;> omega) | (simp (disch := (first | assumption | omega | (simp only [alloc_n, set_n] <;> omega))) only [row_alloc, row_set]; assumption))) only [W_block, ANs, A3s, AOp.map, ↓reduceIte, Nat.reduceAdd, Nat.reduceEqDiff, reduceCtorEq, initFr, Nat.reduceLT, clsA, List.take, List.drop, Nat.reduceLeDiff, Nat.reduceMul, Nat.reduceSub, reduceIte, ANc, A3c, gk, hb]
        refine hrt _ _ ?_
        simp (disch := (first | assumption | omega | (simp only [List.length_cons, List.length_nil] <;> omega) | (simp only [alloc_n, set_n] <;> omega) | (simp (disch := (first | assumption | omega | (simp only [alloc_n, set_n] <;> omega))) only [row_alloc, row_set]; assumption))) only [W_block, ANs, A3s, AOp.map, ↓reduceIte, Nat.reduceAdd, Nat.reduceEqDiff, reduceCtorEq, initFr, Nat.reduceLT, clsA, List.take, List.drop, Nat.reduceLeDiff, Nat.reduceMul, Nat.reduceSub, reduceIte, ANc, A3c]
        exact hq2 _ _ ⟨_, rfl, by rw [ek]; rfl, kk⟩
      | false =>
        simp (disch := (first | assumption | omega | (simp only [List.length_cons, List.length_nil] <;> omega) | (simp only [alloc_n, set_n] <;> omega) | (simp (disch := (first | assumption | omega | (simp only [alloc_n, set_n] <;> omega))) only [row_alloc, row_set]; assumption))) only [W_block, ANs, A3s, AOp.map, ↓reduceIte, Nat.reduceAdd, Nat.reduceEqDiff, reduceCtorEq, initFr, Nat.reduceLT, clsA, List.take, List.drop, Nat.reduceLeDiff, Nat.reduceMul, Nat.reduceSub, reduceIte, ANc, A3c, gk, hb]
        refine hnx _ _ _ ⟨4, _, _, by omega, rfl, kk, gk, ?_, by rw [hb]; rfl⟩ (by omega)
        intro j hj
        by_cases hjk : j < 3
        · exact hall j hjk
        · have : j = 3 := by omega
          subst this; simp [hb]
    · have p0 : b1 = false := by simpa using hall 0 (by omega)
      have p1 : b2 = false := by simpa using hall 1 (by omega)
      have p2 : b3 = false := by simpa using hall 2 (by omega)
      have p3 : b4 = false := by simpa using hall 3 (by omega)
      cases hb : b5 with
      | true =>
        have ek : kiB b = 5 := by rw [hk, p0, p1, p2, p3, hb]; rfl
        simp (disch := (first | assumption | omega | (simp only [List.length_cons, List.length_nil] <;> omega) | (simp only [alloc_n, set_n] <;> omega) | (simp (disch := (first | assumption | omega | (simp only [alloc_n, set_n] <;> omega))) only [row_alloc, row_set]; assumption))) only [W_block, ANs, A3s, AOp.map, ↓reduceIte, Nat.reduceAdd, Nat.reduceEqDiff, reduceCtorEq, initFr, Nat.reduceLT, clsA, List.take, List.drop, Nat.reduceLeDiff, Nat.reduceMul, Nat.reduceSub, reduceIte, ANc, A3c, gk, hb]
        refine hrt _ _ ?_
        simp (disch := (first | assumption | omega | (simp only [List.length_cons, List.length_nil] <;> omega) | (simp only [alloc_n, set_n] <;> omega) | (simp (disch := (first | assumption | omega | (simp only [alloc_n, set_n] <;> omega))) only [row_alloc, row_set]; assumption))) only [W_block, ANs, A3s, AOp.map, ↓reduceIte, Nat.reduceAdd, Nat.reduceEqDiff, reduceCtorEq, initFr, Nat.reduceLT, clsA, List.take, List.drop, Nat.reduceLeDiff, Nat.reduceMul, Nat.reduceSub, reduceIte, ANc, A3c]
        exact hq2 _ _ ⟨_, rfl, by rw [ek]; rfl, kk⟩
      | false =>
        simp (disch := (first | assumption | omega | (simp only [List.length_cons, List.length_nil] <;> omega) | (simp only [alloc_n, set_n] <;> omega) | (simp (disch := (first | assumption | omega | (simp only [alloc_n, set_n] <;> omega))) only [row_alloc, row_set]; assumption))) only [W_block, ANs, A3s, AOp.map, ↓reduceIte, Nat.reduceAdd, Nat.reduceEqDiff, reduceCtorEq, initFr, Nat.reduceLT, clsA, List.take, List.drop, Nat.reduceLeDiff, Nat.reduceMul, Nat.reduceSub, reduceIte, ANc, A3c, gk, hb]
        refine hnx _ _ _ ⟨5, _, _, by omega, rfl, kk, gk, ?_, by rw [hb]; rfl⟩ (by omega)
        intro j hj
        by_cases hjk : j < 4
        · exact hall j hjk
        · have : j = 4 := by omega
          subst this; simp [hb]
  · have hi5 : i = 5 := by omega
    subst hi5
    have p0 : b1 = false := by simpa using hall 0 (by omega)
    have p1 : b2 = false := by simpa using hall 1 (by omega)
    have p2 : b3 = false := by simpa using hall 2 (by omega)
    have p3 : b4 = false := by simpa using hall 3 (by omega)
    have p4 : b5 = false := by simpa using hall 4 (by omega)
    have ek : kiB b = 0 := by rw [hk, p0, p1, p2, p3, p4]; rfl
    simp (disch := (first | assumption | omega | (simp only [List.length_cons, List.length_nil] <;> omega) | (simp only [alloc_n, set_n] <;> omega) | (simp (disch := (first | assumption | omega | (simp only [alloc_n, set_n] <;> omega))) only [row_alloc, row_set]; assumption))) only [W_block, ANs, A3s, AOp.map, ↓reduceIte, Nat.reduceAdd, Nat.reduceEqDiff, reduceCtorEq, initFr, Nat.reduceLT, clsA, List.take, List.drop, Nat.reduceLeDiff, Nat.reduceMul, Nat.reduceSub, reduceIte, ANc, A3c]
    refine hex _ _ _ ?_
    simp (disch := (first | assumption | omega | (simp only [List.length_cons, List.length_nil] <;> omega) | (simp only [alloc_n, set_n] <;> omega) | (simp (disch := (first | assumption | omega | (simp only [alloc_n, set_n] <;> omega))) only [row_alloc, row_set]; assumption))) only [W_block, ANs, A3s, AOp.map, ↓reduceIte, Nat.reduceAdd, Nat.reduceEqDiff, reduceCtorEq, initFr, Nat.reduceLT, clsA, List.take, List.drop, Nat.reduceLeDiff, Nat.reduceMul, Nat.reduceSub, reduceIte, ANc, A3c]
    exact hq2 _ _ ⟨_, rfl, by rw [ek]; rfl, kk⟩
end Go.AM.Fd

set_option maxRecDepth 100000
namespace Go.AM.F
def O68 : List Nat := [1, 1, 1, 1, 1, 1, 1, 1, 1, 1, 1, 1, 1, 1, 1, 1, 1, 1, 1, 1, 1, 1, 1, 1, 1, 1, 1, 1, 1, 1, 1, 1, 1, 1, 1, 1, 1, 1, 1, 1, 1, 1, 1, 1, 1, 1, 1, 1, 1, 1, 1, 1, 1, 1, 1, 1, 1, 1, 1, 1, 1, 1, 1, 1, 1, 1, 1, 1]
def O70 : List Nat := [1, 1, 1, 1, 1, 1, 1, 1, 1, 1, 1, 1, 1, 1, 1, 1, 1, 1, 1, 1, 1, 1, 1, 1, 1, 1, 1, 1, 1, 1, 1, 1, 1, 1, 1, 1, 1, 1, 1, 1, 1, 1, 1, 1, 1, 1, 1, 1, 1, 1, 1, 1, 1, 1, 1, 1, 1, 1, 1, 1, 1, 1, 1, 1, 1, 1, 1, 1, 1, 1]
def f3 : AFunc := ⟨[0, 2, 3, 4, 5, 6, 7, 8, 9, 10, 11, 12, 13, 14, 15, 16, 17, 18, 19, 20, 21, 22, 23, 24, 25, 26, 27, 28, 29, 32, 140],
  .seq (.reg [
    ⟨.mov (.c (.bool false)), .fr 1, none⟩]) <|
    .seq (.seq (.reg [
    ⟨.mov (.fr 0), .tm, none⟩,
    ⟨.len false (.tm 0), .tm, none⟩,
    ⟨.bin .gtr (.tm 0) (.c (.int .i64 3000)), .fr 29, none⟩]) <|
    .cond (.fr 29)
      (.seq (.reg [
      ⟨.callf 11 [], .tm, none⟩,
      ⟨.mov (.tm 0), .fr 1, none⟩]) <|
      .ret)
      (.skip)) <|
    .seq (.reg [
    ⟨.mov (.fr 0), .tm, none⟩,
    ⟨.b2s (.tm 0), .tm, none⟩,
    ⟨.s2b 5 (.tm 0), .tm, none⟩,
    ⟨.mov (.tm 0), .fr 2, none⟩]) <|
    .seq (.reg [
    ⟨.mov (.fr 2), .tm, none⟩,
    ⟨.callf 12 [(.tm 0)], .tm, none⟩,
    ⟨.mov (.tm 0), .tm, none⟩,
    ⟨.extract (.tm 0) 0, .tm, none⟩,
    ⟨.extract (.tm 1) 1, .tm, none⟩,
    ⟨.new 30 6 [(.int .u8 0), (.int .i64 0), (.int .u64 0), (.int .u32 0), (.int .u32 0), (.slice none 0 0)], .fr 3, none⟩,
    ⟨.storen 6 (.fr 3) (.tm 1), .no, none⟩,
    ⟨.mov (.tm 0), .fr 4, none⟩]) <|
    .seq (.reg [
    ⟨.mov (.fr 0), .tm, none⟩,
    ⟨.callf 13 [(.tm 0)], .tm, none⟩,
    ⟨.mov (.tm 0), .tm, none⟩,
    ⟨.extract (.tm 0) 0, .tm, none⟩,
    ⟨.extract (.tm 1) 1, .tm, none⟩,
    ⟨.new 34 6 [(.int .u8 0), (.int .i64 0), (.int .u64 0), (.int .u32 0), (.int .u32 0), (.slice none 0 0)], .fr 5, none⟩,
    ⟨.storen 6 (.fr 5) (.tm 1), .no, none⟩,
    ⟨.mov (.tm 0), .fr 6, none⟩]) <|
    .seq (.dreg [
    (⟨.loadn 6 (.fr 3), .tm, none⟩, []),
    (⟨.callf 15 [(.tm 0)], .tm, none⟩, []),
    (⟨.loadn 6 (.fr 5), .tm, none⟩, [1]),
    (⟨.callf 14 [(.tm 1), (.tm 0)], .tm, none⟩, []),
    (⟨.mov (.tm 0), .tm, none⟩, []),
    (⟨.mov (.fr 4), .tm, some ((.tm 0), true)⟩, []),
    (⟨.bin .eql (.tm 0) (.c (.int .i64 0)), .tm, some ((.tm 1), true)⟩, []),
    (⟨.mov (.fr 6), .tm, some ((.tm 2), true)⟩, []),
    (⟨.eqv 0 false (.tm 1) (.tm 0), .tm, some ((.tm 3), true)⟩, []),
    (⟨.pick (.tm 4) (.tm 0) (.c (.bool false)), .tm, none⟩, []),
    (⟨.mov (.tm 0), .fr 7, none⟩, [])]) <|
    .seq (.reg [
    ⟨.mov (.fr 2), .tm, none⟩,
    ⟨.callf 16 [(.tm 0)], .tm, none⟩,
    ⟨.mov (.tm 0), .tm, none⟩,
    ⟨.extract (.tm 0) 0, .tm, none⟩,
    ⟨.extract (.tm 1) 1, .tm, none⟩,
    ⟨.new 42 5 [(.int .u8 0), (.int .i64 0), (.int .i64 0), (.int .u64 0), (.int .u32 0)], .fr 8, none⟩,
    ⟨.storen 5 (.fr 8) (.tm 1), .no, none⟩,
    ⟨.mov (.tm 0), .fr 9, none⟩]) <|
    .seq (.reg [
    ⟨.mov (.fr 0), .tm, none⟩,
    ⟨.callf 17 [(.tm 0)], .tm, none⟩,
    ⟨.mov (.tm 0), .tm, none⟩,
    ⟨.extract (.tm 0) 0, .tm, none⟩,
    ⟨.extract (.tm 1) 1, .tm, none⟩,
    ⟨.new 45 5 [(.int .u8 0), (.int .i64 0), (.int .i64 0), (.int .u64 0), (.int .u32 0)], .fr 10, none⟩,
    ⟨.storen 5 (.fr 10) (.tm 1), .no, none⟩,
    ⟨.mov (.tm 0), .fr 11, none⟩]) <|
    .seq (.dreg [
    (⟨.loadn 5 (.fr 8), .tm, none⟩, []),
    (⟨.callf 18 [(.tm 0)], .tm, none⟩, []),
    (⟨.loadn 5 (.fr 10), .tm, none⟩, [1]),
    (⟨.eqs [1, 1, 1, 1, 1] false (.tm 1) (.tm 0), .tm, none⟩, []),
    (⟨.mov (.tm 0), .tm, none⟩, []),
    (⟨.mov (.fr 9), .tm, some ((.tm 0), true)⟩, []),
    (⟨.bin .eql (.tm 0) (.c (.int .i64 0)), .tm, some ((.tm 1), true)⟩, []),
    (⟨.mov (.fr 11), .tm, some ((.tm 2), true)⟩, []),
    (⟨.eqv 0 false (.tm 1) (.tm 0), .tm, some ((.tm 3), true)⟩, []),
    (⟨.pick (.tm 4) (.tm 0) (.c (.bool false)), .tm, none⟩, []),
    (⟨.mov (.tm 0), .fr 12, none⟩, [])]) <|
    .seq (.reg [
    ⟨.mov (.fr 2), .tm, none⟩,
    ⟨.callf 19 [(.tm 0)], .tm, none⟩,
    ⟨.mov (.tm 0), .tm, none⟩,
    ⟨.extract (.tm 0) 0, .tm, none⟩,
    ⟨.extract (.tm 1) 1, .tm, none⟩,
    ⟨.new 51 68 Z68, .fr 13, none⟩,
    ⟨.storen 68 (.fr 13) (.tm 1), .no, none⟩,
    ⟨.mov (.tm 0), .fr 14, none⟩]) <|
    .seq (.reg [
    ⟨.mov (.fr 0), .tm, none⟩,
    ⟨.callf 20 [(.tm 0)], .tm, none⟩,
    ⟨.mov (.tm 0), .tm, none⟩,
    ⟨.extract (.tm 0) 0, .tm, none⟩,
    ⟨.extract (.tm 1) 1, .tm, none⟩,
    ⟨.new 51 68 Z68, .fr 15, none⟩,
    ⟨.storen 68 (.fr 15) (.tm 1), .no, none⟩,
    ⟨.mov (.tm 0), .fr 16, none⟩]) <|
    .seq (.reg [
    ⟨.loadn 68 (.fr 13), .tm, none⟩,
    ⟨.loadn 68 (.fr 15), .tm, none⟩,
    ⟨.eqs O68 false (.tm 1) (.tm 0), .tm, none⟩,
    ⟨.mov (.tm 0), .tm, none⟩,
    ⟨.mov (.fr 14), .tm, some ((.tm 0), true)⟩,
    ⟨.bin .eql (.tm 0) (.c (.int .i64 0)), .tm, some ((.tm 1), true)⟩,
    ⟨.mov (.fr 16), .tm, some ((.tm 2), true)⟩,
    ⟨.eqv 0 false (.tm 1) (.tm 0), .tm, some ((.tm 3), true)⟩,
    ⟨.pick (.tm 4) (.tm 0) (.c (.bool false)), .tm, none⟩,
    ⟨.mov (.tm 0), .fr 17, none⟩]) <|
    .seq (.reg [
    ⟨.mov (.fr 2), .tm, none⟩,
    ⟨.callf 21 [(.tm 0)], .tm, none⟩,
    ⟨.mov (.tm 0), .tm, none⟩,
    ⟨.extract (.tm 0) 0, .tm, none⟩,
    ⟨.extract (.tm 1) 1, .tm, none⟩,
    ⟨.new 57 70 Z70, .fr 18, none⟩,
    ⟨.storen 70 (.fr 18) (.tm 1), .no, none⟩,
    ⟨.mov (.tm 0), .fr 19, none⟩]) <|
    .seq (.reg [
    ⟨.mov (.fr 0), .tm, none⟩,
    ⟨.callf 22 [(.tm 0)], .tm, none⟩,
    ⟨.mov (.tm 0), .tm, none⟩,
    ⟨.extract (.tm 0) 0, .tm, none⟩,
    ⟨.extract (.tm 1) 1, .tm, none⟩,
    ⟨.new 60 70 Z70, .fr 20, none⟩,
    ⟨.storen 70 (.fr 20) (.tm 1), .no, none⟩,
    ⟨.mov (.tm 0), .fr 21, none⟩]) <|
    .seq (.dreg [
    (⟨.loadn 70 (.fr 18), .tm, none⟩, []),
    (⟨.callf 23 [(.tm 0)], .tm, none⟩, []),
    (⟨.loadn 70 (.fr 20), .tm, none⟩, [1]),
    (⟨.eqs O70 false (.tm 1) (.tm 0), .tm, none⟩, []),
    (⟨.mov (.tm 0), .tm, none⟩, []),
    (⟨.mov (.fr 19), .tm, some ((.tm 0), true)⟩, []),
    (⟨.bin .eql (.tm 0) (.c (.int .i64 0)), .tm, some ((.tm 1), true)⟩, []),
    (⟨.mov (.fr 21), .tm, some ((.tm 2), true)⟩, []),
    (⟨.eqv 0 false (.tm 1) (.tm 0), .tm, some ((.tm 3), true)⟩, []),
    (⟨.pick (.tm 4) (.tm 0) (.c (.bool false)), .tm, none⟩, []),
    (⟨.mov (.tm 0), .fr 22, none⟩, [])]) <|
    .seq (.reg [
    ⟨.mov (.fr 2), .tm, none⟩,
    ⟨.callf 24 [(.tm 0)], .tm, none⟩,
    ⟨.mov (.tm 0), .tm, none⟩,
    ⟨.extract (.tm 0) 0, .tm, none⟩,
    ⟨.extract (.tm 1) 1, .tm, none⟩,
    ⟨.new 65 5 [(.int .u8 0), (.int .u8 0), (.int .i64 0), (.int .i64 0), (.slice none 0 0)], .fr 23, none⟩,
    ⟨.storen 5 (.fr 23) (.tm 1), .no, none⟩,
    ⟨.mov (.tm 0), .fr 24, none⟩]) <|
    .seq (.reg [
    ⟨.mov (.fr 0), .tm, none⟩,
    ⟨.callf 25 [(.tm 0)], .tm, none⟩,
    ⟨.mov (.tm 0), .tm, none⟩,
    ⟨.extract (.tm 0) 0, .tm, none⟩,
    ⟨.extract (.tm 1) 1, .tm, none⟩,
    ⟨.new 69 5 [(.int .u8 0), (.int .u8 0), (.int .i64 0), (.int .i64 0), (.string ByteArray.empty)], .fr 25, none⟩,
    ⟨.storen 5 (.fr 25) (.tm 1), .no, none⟩,
    ⟨.mov (.tm 0), .fr 26, none⟩]) <|
    .seq (.dreg [
    (⟨.loadn 5 (.fr 23), .tm, none⟩, []),
    (⟨.callf 26 [(.tm 0)], .tm, none⟩, []),
    (⟨.loadn 5 (.fr 25), .tm, none⟩, [1]),
    (⟨.eqs [1, 1, 1, 1, 2] false (.tm 1) (.tm 0), .tm, none⟩, []),
    (⟨.mov (.tm 0), .tm, none⟩, []),
    (⟨.mov (.fr 24), .tm, some ((.tm 0), true)⟩, []),
    (⟨.bin .eql (.tm 0) (.c (.int .i64 0)), .tm, some ((.tm 1), true)⟩, []),
    (⟨.mov (.fr 26), .tm, some ((.tm 2), true)⟩, []),
    (⟨.eqv 0 false (.tm 1) (.tm 0), .tm, some ((.tm 3), true)⟩, []),
    (⟨.pick (.tm 4) (.tm 0) (.c (.bool false)), .tm, none⟩, []),
    (⟨.mov (.tm 0), .fr 27, none⟩, [])]) <|
    .seq (.seq (.reg [
    ⟨.mov (.c (.int .i64 0)), .fr 28, none⟩]) <|
    .block 0 (.loop (.seq (.seq (.reg [
        ⟨.mov (.fr 28), .tm, none⟩,
        ⟨.faddr 4 (.fr 23), .tm, none⟩,
        ⟨.load1 (.tm 0), .tm, none⟩,
        ⟨.len false (.tm 0), .tm, none⟩,
        ⟨.bin .lss (.tm 3) (.tm 0), .fr 30, none⟩]) <|
        .cond (.fr 30)
          (.skip)
          (.exit 0)) <|
        .seq (.block 1 (.dreg [
          (⟨.faddr 4 (.fr 23), .tm, none⟩, []),
          (⟨.load1 (.tm 0), .tm, none⟩, []),
          (⟨.mov (.fr 28), .tm, none⟩, []),
          (⟨.faddr 4 (.fr 23), .tm, none⟩, []),
          (⟨.load1 (.tm 0), .tm, none⟩, []),
          (⟨.mov (.fr 28), .tm, none⟩, []),
          (⟨.iaddr 1 (.tm 1) (.tm 0), .tm, none⟩, []),
          (⟨.load1 (.tm 0), .tm, none⟩, []),
          (⟨.bin .add (.tm 0) (.c (.int .u8 1)), .tm, none⟩, []),
          (⟨.iaddr 1 (.tm 7) (.tm 6), .tm, none⟩, []),
          (⟨.store1 (.tm 0) (.tm 1), .no, none⟩, [])])) <|
        .reg [
        ⟨.mov (.fr 28), .tm, none⟩,
        ⟨.bin .add (.tm 0) (.c (.int .i64 1)), .tm, none⟩,
        ⟨.mov (.tm 0), .fr 28, none⟩]))) <|
    .seq (.reg [
    ⟨.mov (.fr 7), .tm, none⟩,
    ⟨.mov (.tm 0), .tm, none⟩,
    ⟨.mov (.fr 12), .tm, some ((.tm 0), true)⟩,
    ⟨.pick (.tm 1) (.tm 0) (.c (.bool false)), .tm, none⟩,
    ⟨.mov (.tm 0), .tm, none⟩,
    ⟨.mov (.fr 17), .tm, some ((.tm 0), true)⟩,
    ⟨.pick (.tm 1) (.tm 0) (.c (.bool false)), .tm, none⟩,
    ⟨.mov (.tm 0), .tm, none⟩,
    ⟨.mov (.fr 22), .tm, some ((.tm 0), true)⟩,
    ⟨.pick (.tm 1) (.tm 0) (.c (.bool false)), .tm, none⟩,
    ⟨.mov (.tm 0), .tm, none⟩,
    ⟨.mov (.fr 27), .tm, some ((.tm 0), true)⟩,
    ⟨.pick (.tm 1) (.tm 0) (.c (.bool false)), .tm, none⟩,
    ⟨.mov (.tm 0), .tm, none⟩,
    ⟨.mov (.fr 4), .tm, some ((.tm 0), true)⟩,
    ⟨.mov (.fr 9), .tm, some ((.tm 1), true)⟩,
    ⟨.mov (.fr 14), .tm, some ((.tm 2), true)⟩,
    ⟨.mov (.fr 19), .tm, some ((.tm 3), true)⟩,
    ⟨.mov (.fr 24), .tm, some ((.tm 4), true)⟩,
    ⟨.callf 27 [(.tm 4), (.tm 3), (.tm 2), (.tm 1), (.tm 0)], .tm, some ((.tm 5), true)⟩,
    ⟨.pick (.tm 6) (.tm 0) (.c (.bool false)), .tm, none⟩,
    ⟨.mov (.tm 0), .tm, none⟩,
    ⟨.mov (.fr 2), .tm, some ((.tm 0), true)⟩,
    ⟨.callf 28 [(.tm 0)], .tm, some ((.tm 1), true)⟩,
    ⟨.mov (.fr 0), .tm, some ((.tm 2), true)⟩,
    ⟨.callf 29 [(.tm 0)], .tm, some ((.tm 3), true)⟩,
    ⟨.bin .eql (.tm 2) (.tm 0), .tm, some ((.tm 4), true)⟩,
    ⟨.pick (.tm 5) (.tm 0) (.c (.bool false)), .tm, none⟩,
    ⟨.mov (.tm 0), .tm, none⟩,
    ⟨.mov (.fr 2), .tm, some ((.tm 0), true)⟩,
    ⟨.b2s (.tm 0), .tm, some ((.tm 1), true)⟩,
    ⟨.mov (.fr 0), .tm, some ((.tm 2), true)⟩,
    ⟨.b2s (.tm 0), .tm, some ((.tm 3), true)⟩,
    ⟨.bin .eql (.tm 2) (.tm 0), .tm, some ((.tm 4), true)⟩,
    ⟨.pick (.tm 5) (.tm 0) (.c (.bool false)), .tm, none⟩,
    ⟨.mov (.tm 0), .tm, none⟩,
    ⟨.callf 11 [], .tm, some ((.tm 0), true)⟩,
    ⟨.pick (.tm 1) (.tm 0) (.c (.bool false)), .tm, none⟩,
    ⟨.mov (.tm 0), .fr 1, none⟩]) <|
    .ret, [.t 1]⟩
def f5 : AFunc := ⟨[0, 1, 2, 3, 4, 5, 6, 7, 8, 9, 10, 11, 12, 13, 14, 15, 16, 20, 23, 55, 69, 73],
  .seq (.reg [
    ⟨.box 30 6 (.fr 0), .fr 5, none⟩,
    ⟨.box 42 5 (.fr 1), .fr 6, none⟩,
    ⟨.box 51 68 (.fr 2), .fr 7, none⟩,
    ⟨.box 57 70 (.fr 3), .fr 8, none⟩,
    ⟨.box 65 5 (.fr 4), .fr 9, none⟩,
    ⟨.mov (.c (.bool false)), .fr 10, none⟩]) <|
    .seq (.seq (.reg [
    ⟨.loadn 6 (.fr 5), .tm, none⟩,
    ⟨.loadn 5 (.fr 9), .tm, none⟩,
    ⟨.callf 43 [(.tm 1), (.tm 0)], .tm, none⟩,
    ⟨.un .not (.tm 0), .fr 17, none⟩]) <|
    .cond (.fr 17)
      (.seq (.reg [
      ⟨.callf 11 [], .tm, none⟩,
      ⟨.mov (.tm 0), .fr 10, none⟩]) <|
      .ret)
      (.skip)) <|
    .seq (.seq (.reg [
    ⟨.mov (.c (.int .i64 0)), .fr 11, none⟩]) <|
    .block 0 (.loop (.seq (.seq (.reg [
        ⟨.mov (.fr 11), .tm, none⟩,
        ⟨.bin .lss (.tm 0) (.c (.int .i64 2)), .fr 18, none⟩]) <|
        .cond (.fr 18)
          (.skip)
          (.exit 0)) <|
        .seq (.block 1 (.seq (.dreg [
          (⟨.loadn 6 (.fr 5), .tm, none⟩, []),
          (⟨.callf 44 [(.tm 0)], .tm, none⟩, []),
          (⟨.loadn 5 (.fr 6), .tm, none⟩, [1]),
          (⟨.callf 45 [(.tm 0)], .tm, none⟩, []),
          (⟨.loadn 68 (.fr 7), .tm, none⟩, [1, 3]),
          (⟨.callf 46 [(.tm 0)], .tm, none⟩, []),
          (⟨.loadn 70 (.fr 8), .tm, none⟩, [1, 3, 5]),
          (⟨.callf 47 [(.tm 0)], .tm, none⟩, []),
          (⟨.loadn 5 (.fr 9), .tm, none⟩, [1, 3, 5, 7]),
          (⟨.callf 36 [(.tm 0)], .tm, none⟩, []),
          (⟨.bslice 22 1 5 [(.slice none 0 0), (.slice none 0 0), (.slice none 0 0), (.slice none 0 0), (.slice none 0 0)] [(0, 1, (.tm 8)), (1, 1, (.tm 6)), (2, 1, (.tm 4)), (3, 1, (.tm 2)), (4, 1, (.tm 0))], .tm, none⟩, []),
          (⟨.mov (.tm 0), .fr 12, none⟩, [])]) <|
          .seq (.dreg [
          (⟨.loadn 6 (.fr 5), .tm, none⟩, []),
          (⟨.callf 15 [(.tm 0)], .tm, none⟩, []),
          (⟨.callf 48 [(.tm 0)], .tm, none⟩, []),
          (⟨.loadn 5 (.fr 6), .tm, none⟩, [1, 2]),
          (⟨.callf 18 [(.tm 0)], .tm, none⟩, []),
          (⟨.callf 49 [(.tm 0)], .tm, none⟩, []),
          (⟨.loadn 68 (.fr 7), .tm, none⟩, [1, 2, 4, 5]),
          (⟨.callf 50 [(.tm 0)], .tm, none⟩, []),
          (⟨.loadn 70 (.fr 8), .tm, none⟩, [1, 2, 4, 5, 7]),
          (⟨.callf 23 [(.tm 0)], .tm, none⟩, []),
          (⟨.callf 51 [(.tm 0)], .tm, none⟩, []),
          (⟨.loadn 5 (.fr 9), .tm, none⟩, [1, 2, 4, 5, 7, 9, 10]),
          (⟨.callf 26 [(.tm 0)], .tm, none⟩, []),
          (⟨.callf 52 [(.tm 0)], .tm, none⟩, []),
          (⟨.bslice 22 1 5 [(.slice none 0 0), (.slice none 0 0), (.slice none 0 0), (.slice none 0 0), (.slice none 0 0)] [(0, 1, (.tm 11)), (1, 1, (.tm 8)), (2, 1, (.tm 6)), (3, 1, (.tm 3)), (4, 1, (.tm 0))], .tm, none⟩, []),
          (⟨.mov (.tm 0), .fr 13, none⟩, [])]) <|
          .seq (.reg [
          ⟨.mov (.c (.int .i64 0)), .fr 14, none⟩]) <|
          .block 2 (.loop (.seq (.seq (.reg [
              ⟨.mov (.fr 14), .tm, none⟩,
              ⟨.mov (.fr 12), .tm, none⟩,
              ⟨.len false (.tm 0), .tm, none⟩,
              ⟨.bin .lss (.tm 2) (.tm 0), .fr 19, none⟩]) <|
              .cond (.fr 19)
                (.skip)
                (.exit 2)) <|
              .seq (.block 3 (.seq (.reg [
                ⟨.mov (.fr 12), .tm, none⟩,
                ⟨.mov (.fr 14), .tm, none⟩,
                ⟨.iaddr 1 (.tm 1) (.tm 0), .tm, none⟩,
                ⟨.load1 (.tm 0), .tm, none⟩,
                ⟨.mov (.tm 0), .fr 15, none⟩]) <|
                .seq (.seq (.dreg [
                (⟨.mov (.fr 15), .tm, none⟩, []),
                (⟨.b2s (.tm 0), .tm, none⟩, []),
                (⟨.mov (.fr 13), .tm, none⟩, []),
                (⟨.mov (.fr 14), .tm, none⟩, []),
                (⟨.iaddr 1 (.tm 1) (.tm 0), .tm, none⟩, []),
                (⟨.load1 (.tm 0), .tm, none⟩, []),
                (⟨.b2s (.tm 0), .tm, none⟩, []),
                (⟨.bin .neq (.tm 5) (.tm 0), .fr 20, none⟩, [])]) <|
                .cond (.fr 20)
                  (.seq (.reg [
                  ⟨.mov (.c (.bool false)), .fr 10, none⟩]) <|
                  .ret)
                  (.skip)) <|
                .seq (.reg [
                ⟨.mov (.c (.int .i64 0)), .fr 16, none⟩]) <|
                .block 4 (.loop (.seq (.seq (.reg [
                    ⟨.mov (.fr 16), .tm, none⟩,
                    ⟨.mov (.fr 15), .tm, none⟩,
                    ⟨.len false (.tm 0), .tm, none⟩,
                    ⟨.bin .lss (.tm 2) (.tm 0), .fr 21, none⟩]) <|
                    .cond (.fr 21)
                      (.skip)
                      (.exit 4)) <|
                    .seq (.block 5 (.reg [
                      ⟨.mov (.fr 15), .tm, none⟩,
                      ⟨.mov (.fr 16), .tm, none⟩,
                      ⟨.mov (.fr 15), .tm, none⟩,
                      ⟨.mov (.fr 16), .tm, none⟩,
                      ⟨.iaddr 1 (.tm 1) (.tm 0), .tm, none⟩,
                      ⟨.load1 (.tm 0), .tm, none⟩,
                      ⟨.bin .add (.tm 0) (.c (.int .u8 1)), .tm, none⟩,
                      ⟨.iaddr 1 (.tm 6) (.tm 5), .tm, none⟩,
                      ⟨.store1 (.tm 0) (.tm 1), .no, none⟩])) <|
                    .reg [
                    ⟨.mov (.fr 16), .tm, none⟩,
                    ⟨.bin .add (.tm 0) (.c (.int .i64 1)), .tm, none⟩,
                    ⟨.mov (.tm 0), .fr 16, none⟩])))) <|
              .reg [
              ⟨.mov (.fr 14), .tm, none⟩,
              ⟨.bin .add (.tm 0) (.c (.int .i64 1)), .tm, none⟩,
              ⟨.mov (.tm 0), .fr 14, none⟩])))) <|
        .reg [
        ⟨.mov (.fr 11), .tm, none⟩,
        ⟨.bin .add (.tm 0) (.c (.int .i64 1)), .tm, none⟩,
        ⟨.mov (.tm 0), .fr 11, none⟩]))) <|
    .seq (.reg [
    ⟨.callf 11 [], .tm, none⟩,
    ⟨.mov (.tm 0), .fr 10, none⟩]) <|
    .ret, [.t 10]⟩
def f6 : AFunc := ⟨[0, 1, 2, 3, 4, 5, 6, 7, 8, 9, 10, 12, 13, 14, 15, 16, 17, 18, 19, 28, 56, 80, 99, 123, 149],
  .seq (.reg [
    ⟨.box 30 6 (.fr 0), .fr 6, none⟩,
    ⟨.box 42 5 (.fr 1), .fr 7, none⟩,
    ⟨.box 51 68 (.fr 2), .fr 8, none⟩,
    ⟨.box 57 70 (.fr 3), .fr 9, none⟩,
    ⟨.box 65 5 (.fr 4), .fr 10, none⟩,
    ⟨.mov (.c (.bool false)), .fr 11, none⟩]) <|
    .seq (.seq (.reg [
    ⟨.loadn 6 (.fr 6), .tm, none⟩,
    ⟨.loadn 5 (.fr 10), .tm, none⟩,
    ⟨.callf 43 [(.tm 1), (.tm 0)], .tm, none⟩,
    ⟨.un .not (.tm 0), .tm, none⟩,
    ⟨.mov (.tm 0), .tm, none⟩,
    ⟨.mov (.fr 5), .tm, some ((.tm 0), false)⟩,
    ⟨.len false (.tm 0), .tm, some ((.tm 1), false)⟩,
    ⟨.bin .gtr (.tm 0) (.c (.int .i64 3000)), .tm, some ((.tm 2), false)⟩,
    ⟨.pick (.tm 3) (.c (.bool true)) (.tm 0), .fr 19, none⟩]) <|
    .cond (.fr 19)
      (.seq (.reg [
      ⟨.callf 11 [], .tm, none⟩,
      ⟨.mov (.tm 0), .fr 11, none⟩]) <|
      .ret)
      (.skip)) <|
    .seq (.reg [
    ⟨.loadn 6 (.fr 6), .tm, none⟩,
    ⟨.callf 44 [(.tm 0)], .tm, none⟩,
    ⟨.mov (.tm 0), .fr 12, none⟩]) <|
    .seq (.reg [
    ⟨.mov (.fr 12), .tm, none⟩,
    ⟨.callf 12 [(.tm 0)], .tm, none⟩,
    ⟨.mov (.tm 0), .tm, none⟩,
    ⟨.extract (.tm 0) 0, .tm, none⟩,
    ⟨.extract (.tm 1) 1, .tm, none⟩,
    ⟨.new 30 6 [(.int .u8 0), (.int .i64 0), (.int .u64 0), (.int .u32 0), (.int .u32 0), (.slice none 0 0)], .fr 13, none⟩,
    ⟨.storen 6 (.fr 13) (.tm 1), .no, none⟩,
    ⟨.mov (.tm 0), .fr 14, none⟩]) <|
    .seq (.seq (.dreg [
    (⟨.mov (.fr 12), .tm, none⟩, []),
    (⟨.len false (.tm 0), .tm, none⟩, []),
    (⟨.bin .gtr (.tm 0) (.c (.int .i64 0)), .tm, none⟩, []),
    (⟨.mov (.tm 0), .tm, none⟩, []),
    (⟨.mov (.fr 14), .tm, some ((.tm 0), true)⟩, []),
    (⟨.bin .neq (.tm 0) (.c (.int .i64 0)), .tm, some ((.tm 1), true)⟩, []),
    (⟨.mov (.tm 0), .tm, some ((.tm 2), true)⟩, []),
    (⟨.loadn 6 (.fr 13), .tm, some ((.tm 0), false)⟩, []),
    (⟨.callf 15 [(.tm 0)], .tm, some ((.tm 1), false)⟩, []),
    (⟨.loadn 6 (.fr 6), .tm, some ((.tm 2), false)⟩, [8]),
    (⟨.callf 15 [(.tm 0)], .tm, some ((.tm 3), false)⟩, []),
    (⟨.callf 14 [(.tm 2), (.tm 0)], .tm, some ((.tm 4), false)⟩, []),
    (⟨.un .not (.tm 0), .tm, some ((.tm 5), false)⟩, []),
    (⟨.pick (.tm 6) (.c (.bool true)) (.tm 0), .tm, some ((.tm 9), true)⟩, []),
    (⟨.mov (.tm 0), .tm, some ((.tm 10), true)⟩, []),
    (⟨.mov (.fr 12), .tm, some ((.tm 0), false)⟩, []),
    (⟨.callf 28 [(.tm 0)], .tm, some ((.tm 1), false)⟩, []),
    (⟨.bin .neq (.tm 0) (.c (.int .u8 1)), .tm, some ((.tm 2), false)⟩, []),
    (⟨.pick (.tm 3) (.c (.bool true)) (.tm 0), .tm, some ((.tm 14), true)⟩, []),
    (⟨.pick (.tm 15) (.tm 0) (.c (.bool false)), .fr 20, none⟩, [])]) <|
    .cond (.fr 20)
      (.seq (.reg [
      ⟨.mov (.c (.bool false)), .fr 11, none⟩]) <|
      .ret)
      (.skip)) <|
    .seq (.reg [
    ⟨.loadn 5 (.fr 7), .tm, none⟩,
    ⟨.callf 45 [(.tm 0)], .tm, none⟩,
    ⟨.mov (.tm 0), .fr 12, none⟩]) <|
    .seq (.reg [
    ⟨.mov (.fr 12), .tm, none⟩,
    ⟨.callf 16 [(.tm 0)], .tm, none⟩,
    ⟨.mov (.tm 0), .tm, none⟩,
    ⟨.extract (.tm 0) 0, .tm, none⟩,
    ⟨.extract (.tm 1) 1, .tm, none⟩,
    ⟨.new 42 5 [(.int .u8 0), (.int .i64 0), (.int .i64 0), (.int .u64 0), (.int .u32 0)], .fr 15, none⟩,
    ⟨.storen 5 (.fr 15) (.tm 1), .no, none⟩,
    ⟨.mov (.tm 0), .fr 14, none⟩]) <|
    .seq (.seq (.reg [
    ⟨.mov (.fr 12), .tm, none⟩,
    ⟨.len false (.tm 0), .tm, none⟩,
    ⟨.bin .gtr (.tm 0) (.c (.int .i64 0)), .tm, none⟩,
    ⟨.mov (.tm 0), .tm, none⟩,
    ⟨.mov (.fr 14), .tm, some ((.tm 0), true)⟩,
    ⟨.bin .neq (.tm 0) (.c (.int .i64 0)), .tm, some ((.tm 1), true)⟩,
    ⟨.mov (.tm 0), .tm, some ((.tm 2), true)⟩,
    ⟨.loadn 5 (.fr 15), .tm, some ((.tm 0), false)⟩,
    ⟨.loadn 5 (.fr 7), .tm, some ((.tm 1), false)⟩,
    ⟨.eqs [1, 1, 1, 1, 1] true (.tm 1) (.tm 0), .tm, some ((.tm 2), false)⟩,
    ⟨.pick (.tm 3) (.c (.bool true)) (.tm 0), .tm, some ((.tm 6), true)⟩,
    ⟨.mov (.tm 0), .tm, some ((.tm 7), true)⟩,
    ⟨.mov (.fr 12), .tm, some ((.tm 0), false)⟩,
    ⟨.callf 28 [(.tm 0)], .tm, some ((.tm 1), false)⟩,
    ⟨.bin .neq (.tm 0) (.c (.int .u8 2)), .tm, some ((.tm 2), false)⟩,
    ⟨.pick (.tm 3) (.c (.bool true)) (.tm 0), .tm, some ((.tm 11), true)⟩,
    ⟨.pick (.tm 12) (.tm 0) (.c (.bool false)), .fr 21, none⟩]) <|
    .cond (.fr 21)
      (.seq (.reg [
      ⟨.mov (.c (.bool false)), .fr 11, none⟩]) <|
      .ret)
      (.skip)) <|
    .seq (.reg [
    ⟨.loadn 68 (.fr 8), .tm, none⟩,
    ⟨.callf 46 [(.tm 0)], .tm, none⟩,
    ⟨.mov (.tm 0), .fr 12, none⟩]) <|
    .seq (.reg [
    ⟨.mov (.fr 12), .tm, none⟩,
    ⟨.callf 19 [(.tm 0)], .tm, none⟩,
    ⟨.mov (.tm 0), .tm, none⟩,
    ⟨.extract (.tm 0) 0, .tm, none⟩,
    ⟨.extract (.tm 1) 1, .tm, none⟩,
    ⟨.new 51 68 Z68, .fr 16, none⟩,
    ⟨.storen 68 (.fr 16) (.tm 1), .no, none⟩,
    ⟨.mov (.tm 0), .fr 14, none⟩]) <|
    .seq (.seq (.reg [
    ⟨.mov (.fr 14), .tm, none⟩,
    ⟨.bin .neq (.tm 0) (.c (.int .i64 0)), .tm, none⟩,
    ⟨.mov (.tm 0), .tm, none⟩,
    ⟨.loadn 68 (.fr 16), .tm, some ((.tm 0), false)⟩,
    ⟨.loadn 68 (.fr 8), .tm, some ((.tm 1), false)⟩,
    ⟨.eqs O68 true (.tm 1) (.tm 0), .tm, some ((.tm 2), false)⟩,
    ⟨.pick (.tm 3) (.c (.bool true)) (.tm 0), .tm, none⟩,
    ⟨.mov (.tm 0), .tm, none⟩,
    ⟨.mov (.fr 12), .tm, some ((.tm 0), false)⟩,
    ⟨.callf 28 [(.tm 0)], .tm, some ((.tm 1), false)⟩,
    ⟨.bin .neq (.tm 0) (.c (.int .u8 3)), .tm, some ((.tm 2), false)⟩,
    ⟨.pick (.tm 3) (.c (.bool true)) (.tm 0), .fr 22, none⟩]) <|
    .cond (.fr 22)
      (.seq (.reg [
      ⟨.mov (.c (.bool false)), .fr 11, none⟩]) <|
      .ret)
      (.skip)) <|
    .seq (.reg [
    ⟨.loadn 70 (.fr 9), .tm, none⟩,
    ⟨.callf 47 [(.tm 0)], .tm, none⟩,
    ⟨.mov (.tm 0), .fr 12, none⟩]) <|
    .seq (.reg [
    ⟨.mov (.fr 12), .tm, none⟩,
    ⟨.callf 21 [(.tm 0)], .tm, none⟩,
    ⟨.mov (.tm 0), .tm, none⟩,
    ⟨.extract (.tm 0) 0, .tm, none⟩,
    ⟨.extract (.tm 1) 1, .tm, none⟩,
    ⟨.new 57 70 Z70, .fr 17, none⟩,
    ⟨.storen 70 (.fr 17) (.tm 1), .no, none⟩,
    ⟨.mov (.tm 0), .fr 14, none⟩]) <|
    .seq (.seq (.reg [
    ⟨.mov (.fr 12), .tm, none⟩,
    ⟨.len false (.tm 0), .tm, none⟩,
    ⟨.bin .gtr (.tm 0) (.c (.int .i64 0)), .tm, none⟩,
    ⟨.mov (.tm 0), .tm, none⟩,
    ⟨.mov (.fr 14), .tm, some ((.tm 0), true)⟩,
    ⟨.bin .neq (.tm 0) (.c (.int .i64 0)), .tm, some ((.tm 1), true)⟩,
    ⟨.mov (.tm 0), .tm, some ((.tm 2), true)⟩,
    ⟨.loadn 70 (.fr 17), .tm, some ((.tm 0), false)⟩,
    ⟨.loadn 70 (.fr 9), .tm, some ((.tm 1), false)⟩,
    ⟨.eqs O70 true (.tm 1) (.tm 0), .tm, some ((.tm 2), false)⟩,
    ⟨.pick (.tm 3) (.c (.bool true)) (.tm 0), .tm, some ((.tm 6), true)⟩,
    ⟨.mov (.tm 0), .tm, some ((.tm 7), true)⟩,
    ⟨.mov (.fr 12), .tm, some ((.tm 0), false)⟩,
    ⟨.callf 28 [(.tm 0)], .tm, some ((.tm 1), false)⟩,
    ⟨.bin .neq (.tm 0) (.c (.int .u8 4)), .tm, some ((.tm 2), false)⟩,
    ⟨.pick (.tm 3) (.c (.bool true)) (.tm 0), .tm, some ((.tm 11), true)⟩,
    ⟨.pick (.tm 12) (.tm 0) (.c (.bool false)), .fr 23, none⟩]) <|
    .cond (.fr 23)
      (.seq (.reg [
      ⟨.mov (.c (.bool false)), .fr 11, none⟩]) <|
      .ret)
      (.skip)) <|
    .seq (.reg [
    ⟨.loadn 5 (.fr 10), .tm, none⟩,
    ⟨.callf 36 [(.tm 0)], .tm, none⟩,
    ⟨.mov (.tm 0), .fr 12, none⟩]) <|
    .seq (.reg [
    ⟨.mov (.fr 12), .tm, none⟩,
    ⟨.callf 24 [(.tm 0)], .tm, none⟩,
    ⟨.mov (.tm 0), .tm, none⟩,
    ⟨.extract (.tm 0) 0, .tm, none⟩,
    ⟨.extract (.tm 1) 1, .tm, none⟩,
    ⟨.new 65 5 [(.int .u8 0), (.int .u8 0), (.int .i64 0), (.int .i64 0), (.slice none 0 0)], .fr 18, none⟩,
    ⟨.storen 5 (.fr 18) (.tm 1), .no, none⟩,
    ⟨.mov (.tm 0), .fr 14, none⟩]) <|
    .seq (.seq (.dreg [
    (⟨.mov (.fr 12), .tm, none⟩, []),
    (⟨.len false (.tm 0), .tm, none⟩, []),
    (⟨.bin .gtr (.tm 0) (.c (.int .i64 0)), .tm, none⟩, []),
    (⟨.mov (.tm 0), .tm, none⟩, []),
    (⟨.mov (.fr 14), .tm, some ((.tm 0), true)⟩, []),
    (⟨.bin .neq (.tm 0) (.c (.int .i64 0)), .tm, some ((.tm 1), true)⟩, []),
    (⟨.mov (.tm 0), .tm, some ((.tm 2), true)⟩, []),
    (⟨.loadn 5 (.fr 18), .tm, some ((.tm 0), false)⟩, []),
    (⟨.callf 26 [(.tm 0)], .tm, some ((.tm 1), false)⟩, []),
    (⟨.loadn 5 (.fr 10), .tm, some ((.tm 2), false)⟩, [8]),
    (⟨.callf 26 [(.tm 0)], .tm, some ((.tm 3), false)⟩, []),
    (⟨.eqs [1, 1, 1, 1, 2] true (.tm 2) (.tm 0), .tm, some ((.tm 4), false)⟩, []),
    (⟨.pick (.tm 5) (.c (.bool true)) (.tm 0), .tm, some ((.tm 8), true)⟩, []),
    (⟨.mov (.tm 0), .tm, some ((.tm 9), true)⟩, []),
    (⟨.mov (.fr 12), .tm, some ((.tm 0), false)⟩, []),
    (⟨.callf 28 [(.tm 0)], .tm, some ((.tm 1), false)⟩, []),
    (⟨.bin .neq (.tm 0) (.c (.int .u8 5)), .tm, some ((.tm 2), false)⟩, []),
    (⟨.pick (.tm 3) (.c (.bool true)) (.tm 0), .tm, some ((.tm 13), true)⟩, []),
    (⟨.pick (.tm 14) (.tm 0) (.c (.bool false)), .fr 24, none⟩, [])]) <|
    .cond (.fr 24)
      (.seq (.reg [
      ⟨.mov (.c (.bool false)), .fr 11, none⟩]) <|
      .ret)
      (.skip)) <|
    .seq (.reg [
    ⟨.mov (.fr 5), .tm, none⟩,
    ⟨.callf 53 [(.tm 0)], .tm, none⟩,
    ⟨.mov (.tm 0), .tm, none⟩,
    ⟨.callf 11 [], .tm, some ((.tm 0), true)⟩,
    ⟨.pick (.tm 1) (.tm 0) (.c (.bool false)), .tm, none⟩,
    ⟨.mov (.tm 0), .fr 11, none⟩]) <|
    .ret, [.t 11]⟩
def f11 : AFunc := ⟨[0, 1, 2, 3],
  .seq (.reg [
    ⟨.mov (.c (.bool false)), .fr 0, none⟩]) <|
    .seq (.reg [
    ⟨.build [(.int .u64 0), (.int .u32 0)] [(0, 1, (.c (.int .u64 4))), (1, 1, (.c (.int .u32 5)))], .tm, none⟩,
    ⟨.build [(.int .u8 0), (.int .i64 0), (.int .i64 0), (.int .u64 0), (.int .u32 0)] [(0, 1, (.c (.int .u8 1))), (1, 1, (.c (.int .i64 2))), (2, 1, (.c (.int .i64 3))), (3, 2, (.tm 0))], .tm, none⟩,
    ⟨.callf 45 [(.tm 0)], .tm, none⟩,
    ⟨.mov (.tm 0), .fr 1, none⟩]) <|
    .seq (.reg [
    ⟨.mov (.fr 1), .tm, none⟩,
    ⟨.callf 16 [(.tm 0)], .tm, none⟩,
    ⟨.mov (.tm 0), .tm, none⟩,
    ⟨.extract (.tm 0) 0, .tm, none⟩,
    ⟨.extract (.tm 1) 1, .tm, none⟩,
    ⟨.new 42 5 [(.int .u8 0), (.int .i64 0), (.int .i64 0), (.int .u64 0), (.int .u32 0)], .fr 2, none⟩,
    ⟨.storen 5 (.fr 2) (.tm 1), .no, none⟩,
    ⟨.mov (.tm 0), .fr 3, none⟩]) <|
    .seq (.reg [
    ⟨.mov (.fr 1), .tm, none⟩,
    ⟨.len false (.tm 0), .tm, none⟩,
    ⟨.bin .eql (.tm 0) (.c (.int .i64 34)), .tm, none⟩,
    ⟨.mov (.tm 0), .tm, none⟩,
    ⟨.mov (.fr 3), .tm, some ((.tm 0), true)⟩,
    ⟨.bin .eql (.tm 0) (.c (.int .i64 0)), .tm, some ((.tm 1), true)⟩,
    ⟨.pick (.tm 2) (.tm 0) (.c (.bool false)), .tm, none⟩,
    ⟨.mov (.tm 0), .tm, none⟩,
    ⟨.faddr 2 (.fr 2), .tm, some ((.tm 0), true)⟩,
    ⟨.load1 (.tm 0), .tm, some ((.tm 1), true)⟩,
    ⟨.bin .eql (.tm 0) (.c (.int .i64 3)), .tm, some ((.tm 2), true)⟩,
    ⟨.pick (.tm 3) (.tm 0) (.c (.bool false)), .tm, none⟩,
    ⟨.mov (.tm 0), .tm, none⟩,
    ⟨.faddr 3 (.fr 2), .tm, some ((.tm 0), true)⟩,
    ⟨.faddr 0 (.tm 0), .tm, some ((.tm 1), true)⟩,
    ⟨.load1 (.tm 0), .tm, some ((.tm 2), true)⟩,
    ⟨.bin .eql (.tm 0) (.c (.int .u64 4)), .tm, some ((.tm 3), true)⟩,
    ⟨.pick (.tm 4) (.tm 0) (.c (.bool false)), .tm, none⟩,
    ⟨.mov (.tm 0), .tm, none⟩,
    ⟨.mov (.fr 1), .tm, some ((.tm 0), true)⟩,
    ⟨.callf 28 [(.tm 0)], .tm, some ((.tm 1), true)⟩,
    ⟨.bin .eql (.tm 0) (.c (.int .u8 2)), .tm, some ((.tm 2), true)⟩,
    ⟨.pick (.tm 3) (.tm 0) (.c (.bool false)), .tm, none⟩,
    ⟨.mov (.tm 0), .fr 0, none⟩]) <|
    .ret, [.t 0]⟩
def f15 : AFunc := ⟨[0, 1, 2],
  .seq (.reg [
    ⟨.box 30 6 (.fr 0), .fr 1, none⟩,
    ⟨.new 34 6 [(.int .u8 0), (.int .i64 0), (.int .u64 0), (.int .u32 0), (.int .u32 0), (.slice none 0 0)], .fr 2, none⟩]) <|
    .seq (.reg [
    ⟨.faddr 0 (.fr 1), .tm, none⟩,
    ⟨.load1 (.tm 0), .tm, none⟩,
    ⟨.faddr 1 (.fr 1), .tm, none⟩,
    ⟨.load1 (.tm 0), .tm, none⟩,
    ⟨.faddr 2 (.fr 1), .tm, none⟩,
    ⟨.loadn 4 (.tm 0), .tm, none⟩,
    ⟨.build [(.int .u8 0), (.int .i64 0), (.int .u64 0), (.int .u32 0), (.int .u32 0), (.slice none 0 0)] [(0, 1, (.tm 4)), (1, 1, (.tm 2)), (2, 4, (.tm 0))], .tm, none⟩,
    ⟨.storen 6 (.fr 2) (.tm 0), .no, none⟩]) <|
    .ret, [.cn 6 2]⟩
def f18 : AFunc := ⟨[0, 1, 2],
  .seq (.reg [
    ⟨.box 42 5 (.fr 0), .fr 1, none⟩,
    ⟨.new 45 5 [(.int .u8 0), (.int .i64 0), (.int .i64 0), (.int .u64 0), (.int .u32 0)], .fr 2, none⟩]) <|
    .seq (.reg [
    ⟨.faddr 0 (.fr 1), .tm, none⟩,
    ⟨.load1 (.tm 0), .tm, none⟩,
    ⟨.faddr 1 (.fr 1), .tm, none⟩,
    ⟨.load1 (.tm 0), .tm, none⟩,
    ⟨.faddr 2 (.fr 1), .tm, none⟩,
    ⟨.load1 (.tm 0), .tm, none⟩,
    ⟨.faddr 3 (.fr 1), .tm, none⟩,
    ⟨.loadn 2 (.tm 0), .tm, none⟩,
    ⟨.build [(.int .u8 0), (.int .i64 0), (.int .i64 0), (.int .u64 0), (.int .u32 0)] [(0, 1, (.tm 6)), (1, 1, (.tm 4)), (2, 1, (.tm 2)), (3, 2, (.tm 0))], .tm, none⟩,
    ⟨.storen 5 (.fr 2) (.tm 0), .no, none⟩]) <|
    .ret, [.cn 5 2]⟩
def f23 : AFunc := ⟨[0, 1, 2],
  .seq (.reg [
    ⟨.box 57 70 (.fr 0), .fr 1, none⟩,
    ⟨.new 60 70 Z70, .fr 2, none⟩]) <|
    .seq (.reg [
    ⟨.faddr 0 (.fr 1), .tm, none⟩,
    ⟨.load1 (.tm 0), .tm, none⟩,
    ⟨.faddr 1 (.fr 1), .tm, none⟩,
    ⟨.load1 (.tm 0), .tm, none⟩,
    ⟨.faddr 2 (.fr 1), .tm, none⟩,
    ⟨.loadn 68 (.tm 0), .tm, none⟩,
    ⟨.build Z70 [(0, 1, (.tm 4)), (1, 1, (.tm 2)), (2, 68, (.tm 0))], .tm, none⟩,
    ⟨.storen 70 (.fr 2) (.tm 0), .no, none⟩]) <|
    .ret, [.cn 70 2]⟩
def f26 : AFunc := ⟨[0, 1, 2],
  .seq (.reg [
    ⟨.box 65 5 (.fr 0), .fr 1, none⟩,
    ⟨.new 69 5 [(.int .u8 0), (.int .u8 0), (.int .i64 0), (.int .i64 0), (.string ByteArray.empty)], .fr 2, none⟩]) <|
    .seq (.reg [
    ⟨.faddr 0 (.fr 1), .tm, none⟩,
    ⟨.load1 (.tm 0), .tm, none⟩,
    ⟨.faddr 1 (.fr 1), .tm, none⟩,
    ⟨.load1 (.tm 0), .tm, none⟩,
    ⟨.faddr 2 (.fr 1), .tm, none⟩,
    ⟨.load1 (.tm 0), .tm, none⟩,
    ⟨.faddr 3 (.fr 1), .tm, none⟩,
    ⟨.load1 (.tm 0), .tm, none⟩,
    ⟨.faddr 4 (.fr 1), .tm, none⟩,
    ⟨.load1 (.tm 0), .tm, none⟩,
    ⟨.b2s (.tm 0), .tm, none⟩,
    ⟨.build [(.int .u8 0), (.int .u8 0), (.int .i64 0), (.int .i64 0), (.string ByteArray.empty)] [(0, 1, (.tm 9)), (1, 1, (.tm 7)), (2, 1, (.tm 5)), (3, 1, (.tm 3)), (4, 1, (.tm 0))], .tm, none⟩,
    ⟨.storen 5 (.fr 2) (.tm 0), .no, none⟩]) <|
    .ret, [.cn 5 2]⟩
def f27 : AFunc := ⟨[0, 1, 2, 3, 4, 10, 11, 12, 22, 36],
  .seq (.reg [
    ⟨.mov (.c (.bool false)), .fr 5, none⟩]) <|
    .seq (.reg [
    ⟨.mov (.fr 0), .tm, none⟩,
    ⟨.mov (.fr 1), .tm, none⟩,
    ⟨.mov (.fr 2), .tm, none⟩,
    ⟨.mov (.fr 3), .tm, none⟩,
    ⟨.mov (.fr 4), .tm, none⟩,
    ⟨.bslice 31 1 5 [(.int .i64 0), (.int .i64 0), (.int .i64 0), (.int .i64 0), (.int .i64 0)] [(0, 1, (.tm 4)), (1, 1, (.tm 3)), (2, 1, (.tm 2)), (3, 1, (.tm 1)), (4, 1, (.tm 0))], .tm, none⟩,
    ⟨.mov (.tm 0), .fr 6, none⟩]) <|
    .seq (.seq (.reg [
    ⟨.mov (.c (.int .i64 0)), .fr 7, none⟩]) <|
    .block 0 (.loop (.seq (.seq (.reg [
        ⟨.mov (.fr 7), .tm, none⟩,
        ⟨.mov (.fr 6), .tm, none⟩,
        ⟨.len false (.tm 0), .tm, none⟩,
        ⟨.bin .lss (.tm 2) (.tm 0), .fr 8, none⟩]) <|
        .cond (.fr 8)
          (.skip)
          (.exit 0)) <|
        .seq (.block 1 (.seq (.reg [
          ⟨.mov (.fr 6), .tm, none⟩,
          ⟨.mov (.fr 7), .tm, none⟩,
          ⟨.iaddr 1 (.tm 1) (.tm 0), .tm, none⟩,
          ⟨.load1 (.tm 0), .tm, none⟩,
          ⟨.bin .neq (.tm 0) (.c (.int .i64 0)), .tm, none⟩,
          ⟨.mov (.tm 0), .tm, none⟩,
          ⟨.mov (.fr 6), .tm, some ((.tm 0), true)⟩,
          ⟨.mov (.fr 7), .tm, some ((.tm 1), true)⟩,
          ⟨.iaddr 1 (.tm 1) (.tm 0), .tm, some ((.tm 2), true)⟩,
          ⟨.load1 (.tm 0), .tm, some ((.tm 3), true)⟩,
          ⟨.bin .neq (.tm 0) (.c (.int .i64 130)), .tm, some ((.tm 4), true)⟩,
          ⟨.pick (.tm 5) (.tm 0) (.c (.bool false)), .fr 9, none⟩]) <|
          .cond (.fr 9)
            (.seq (.reg [
            ⟨.mov (.c (.bool false)), .fr 5, none⟩]) <|
            .ret)
            (.skip))) <|
        .reg [
        ⟨.mov (.fr 7), .tm, none⟩,
        ⟨.bin .add (.tm 0) (.c (.int .i64 1)), .tm, none⟩,
        ⟨.mov (.tm 0), .fr 7, none⟩]))) <|
    .seq (.reg [
    ⟨.mov (.c (.bool true)), .fr 5, none⟩]) <|
    .ret, [.t 5]⟩
theorem f3_ok : compF Go.Proofs.Try.prog 0 [0, 2, 3, 4, 5, 6, 7, 8, 9, 10, 11, 12, 13, 14, 15, 16, 17, 18, 19, 20, 21, 22, 23, 24, 25, 26, 27, 28, 29, 32, 140] 3 = some f3 := by kernel_rfl
theorem f3_n : argsOK Go.Proofs.Try.prog 3 1 = true := by kernel_rfl
theorem f11_ok : compF Go.Proofs.Try.prog 0 [0, 1, 2, 3] 11 = some f11 := by kernel_rfl
theorem f11_n : argsOK Go.Proofs.Try.prog 11 0 = true := by kernel_rfl
theorem f15_ok : compF Go.Proofs.Try.prog 0 [0, 1, 2] 15 = some f15 := by kernel_rfl
theorem f15_n : argsOK Go.Proofs.Try.prog 15 1 = true := by kernel_rfl
theorem f18_ok : compF Go.Proofs.Try.prog 0 [0, 1, 2] 18 = some f18 := by kernel_rfl
theorem f18_n : argsOK Go.Proofs.Try.prog 18 1 = true := by kernel_rfl
theorem f23_ok : compF Go.Proofs.Try.prog 0 [0, 1, 2] 23 = some f23 := by kernel_rfl
theorem f23_n : argsOK Go.Proofs.Try.prog 23 1 = true := by kernel_rfl
theorem f26_ok : compF Go.Proofs.Try.prog 0 [0, 1, 2] 26 = some f26 := by kernel_rfl
theorem f26_n : argsOK Go.Proofs.Try.prog 26 1 = true := by kernel_rfl
theorem f27_ok : compF Go.Proofs.Try.prog 0 [0, 1, 2, 3, 4, 10, 11, 12, 22, 36] 27 = some f27 := by kernel_rfl
theorem f27_n : argsOK Go.Proofs.Try.prog 27 5 = true := by kernel_rfl
end Go.AM.F

set_option linter.unusedSimpArgs false
set_option linter.unusedVariables false
namespace Go.AM.Fd
open Go.Proofs Go.AM.F
theorem GotV.nv {ρ : Nat → Option Nat} {c : List Value} (h : c.all plain1 = true) (e : Int) : NV ρ (GotV c e) (GotV c e) :=
  NV.tuple_of (.cons (NV.agg_of (NL.plain h)) (.cons (.int _ e) .nil))
def er (ok : Bool) : Int := if ok then 0 else 130
theorem er_b (ok : Bool) : (er ok == 0) = ok := by cases ok <;> rfl
theorem e16 {H : AHeap} {v : Value} {b : List UInt8} (hb : BQ H v b) (hl : b.length ≤ 1000000) : ∃ w H', ARun Go.Proofs.Try.prog 0 16 [v] H w H' ∧ w = GotV (cOu ((geOu b).getD Ou0)) (er (geOu b).isSome) ∧ H' = H := by
  obtain ⟨w, H', a, k, e⟩ := t16 hb (by omega)
  have e2 : w = GotV (cOu ((geOu b).getD Ou0)) (er (geOu b).isSome) := by rw [e]; cases geOu b <;> rfl
  subst e2
  exact ⟨_, _, a.gc0 k (.inr (GotV.nv rfl _)), rfl, rfl⟩
theorem e19 {H : AHeap} {v : Value} {b : List UInt8} (hb : BQ H v b) (hl : b.length ≤ 1000000) : ∃ w H', ARun Go.Proofs.Try.prog 0 19 [v] H w H' ∧ w = GotV (cSt ((geSt b).getD St0)) (er (geSt b).isSome) ∧ H' = H := by
  obtain ⟨w, H', a, k, e⟩ := t19 hb (by omega)
  have e2 : w = GotV (cSt ((geSt b).getD St0)) (er (geSt b).isSome) := by rw [e]; cases geSt b <;> rfl
  subst e2
  exact ⟨_, _, a.gc0 k (.inr (GotV.nv (cSt_plain _) _)), rfl, rfl⟩
theorem e21 {H : AHeap} {v : Value} {b : List UInt8} (hb : BQ H v b) (hl : b.length ≤ 1000000) : ∃ w H', ARun Go.Proofs.Try.prog 0 21 [v] H w H' ∧ w = GotV (cLo ((geLo b).getD Lo0)) (er (geLo b).isSome) ∧ H' = H := by
  obtain ⟨w, H', a, k, e⟩ := t21 hb (by omega)
  have e2 : w = GotV (cLo ((geLo b).getD Lo0)) (er (geLo b).isSome) := by rw [e]; cases geLo b <;> rfl
  subst e2
  exact ⟨_, _, a.gc0 k (.inr (GotV.nv (cLo_plain _) _)), rfl, rfl⟩
theorem e12 {H : AHeap} {v : Value} {b : List UInt8} (hb : BQ H v b) (hl : b.length ≤ 1000000) : ∃ w H', ARun Go.Proofs.Try.prog 0 12 [v] H w H' ∧ ∃ vc, w = GotV (cI6 vc ((geI6 b).getD I60)) (er (geI6 b).isSome) ∧ Keeps H H' ∧ Fresh H.n vc ∧ AP H' 108 2 vc ((geI6 b).getD I60).cs.length (CC ((geI6 b).getD I60).cs).flatten := by
  obtain ⟨w, H', a, k, vc, f, e⟩ := t12 hb (by omega)
  refine ⟨w, H', a, ?_⟩
  cases hg : geI6 b with
  | none =>
    rw [hg] at e
    exact ⟨.slice none 0 0, e, k, fun b hb => (by cases hb), .inl ⟨rfl, rfl, rfl⟩⟩
  | some x =>
    rw [hg] at e
    exact ⟨vc, e.1, k, f, e.2⟩
theorem e24 {H : AHeap} {v : Value} {b : List UInt8} (hb : BQ H v b) (hl : b.length ≤ 1000000) : ∃ w H', ARun Go.Proofs.Try.prog 0 24 [v] H w H' ∧ ∃ vb, w = GotV (cLi vb ((geLi b).getD Li0)) (er (geLi b).isSome) ∧ Keeps H H' ∧ Fresh H.n vb ∧ AP H' 5 1 vb ((geLi b).getD Li0).B.length (cellsOf ((geLi b).getD Li0).B) := by
  obtain ⟨w, H', a, k, vc, f, e⟩ := t24 hb (by omega)
  refine ⟨w, H', a, ?_⟩
  cases hg : geLi b with
  | none =>
    rw [hg] at e
    exact ⟨.slice none 0 0, e, k, fun b hb => (by cases hb), .inl ⟨rfl, rfl, rfl⟩⟩
  | some x =>
    rw [hg] at e
    exact ⟨vc, e.1, k, f, e.2⟩
theorem d17 {H : AHeap} {v : Value} {b : List UInt8} (hb : BQ H v b) (hl : b.length ≤ 1000000) : ∃ w H', ARun Go.Proofs.Try.prog 0 17 [v] H w H' ∧ w = GotB (cOu ((geOu b).getD Ou0)) (geOu b).isSome ∧ H' = H := by
  obtain ⟨w, H', a, e, k⟩ := t17 hb (by omega)
  exact ⟨w, H', a, by rw [e]; cases geOu b <;> rfl, k⟩
theorem d20 {H : AHeap} {v : Value} {b : List UInt8} (hb : BQ H v b) (hl : b.length ≤ 1000000) : ∃ w H', ARun Go.Proofs.Try.prog 0 20 [v] H w H' ∧ w = GotB (cSt ((geSt b).getD St0)) (geSt b).isSome ∧ H' = H := by
  obtain ⟨w, H', a, e, k⟩ := t20 hb (by omega)
  exact ⟨w, H', a, by rw [e]; cases geSt b <;> rfl, k⟩
theorem d22 {H : AHeap} {v : Value} {b : List UInt8} (hb : BQ H v b) (hl : b.length ≤ 1000000) : ∃ w H', ARun Go.Proofs.Try.prog 0 22 [v] H w H' ∧ w = GotB (cLo ((geLo b).getD Lo0)) (geLo b).isSome ∧ H' = H := by
  obtain ⟨w, H', a, e, k⟩ := t22 hb (by omega)
  exact ⟨w, H', a, by rw [e]; cases geLo b <;> rfl, k⟩
theorem d25 {H : AHeap} {v : Value} {b : List UInt8} (hb : BQ H v b) (hl : b.length ≤ 1000000) : ∃ w H', ARun Go.Proofs.Try.prog 0 25 [v] H w H' ∧ w = GotB (cLs ((geLi b).getD Li0)) (geLi b).isSome ∧ H' = H := by
  obtain ⟨w, H', a, e, k⟩ := t25 hb (by omega)
  exact ⟨w, H', a, by rw [e]; cases geLi b <;> rfl, k⟩
theorem d13 {H : AHeap} {v : Value} {b : List UInt8} (hb : BQ H v b) (hl : b.length ≤ 1000000) : ∃ w H', ARun Go.Proofs.Try.prog 0 13 [v] H w H' ∧ ∃ vc, w = GotB (cI6 vc ((geI6 b).getD I60)) (geI6 b).isSome ∧ Keeps H H' ∧ Fresh H.n vc ∧ AP H' 108 2 vc ((geI6 b).getD I60).cs.length (CC ((geI6 b).getD I60).cs).flatten := by
  obtain ⟨w, H', a, k, vc, f, e⟩ := t13 hb (by omega)
  refine ⟨w, H', a, ?_⟩
  cases hg : geI6 b with
  | none =>
    rw [hg] at e
    exact ⟨.slice none 0 0, e, k, fun b hb => (by cases hb), .inl ⟨rfl, rfl, rfl⟩⟩
  | some x =>
    rw [hg] at e
    exact ⟨vc, e.1, k, f, e.2⟩
theorem Stood.arg {ng : Nat} {H : AHeap} {v : Value} {l : List Value} : Stood ng (v :: l) H v := by
  intro σ w args' _ ha
  cases ha with
  | cons h _ => exact ⟨_, h⟩
theorem fill642 (a : Int) (b : Int) (c d e : Int) (v : Value) : fillA [.int .u8 0, .int .i64 0, .int .u64 0, .int .u32 0, .int .u32 0, .slice none 0 0] [(0, 1, .int .u8 a), (1, 1, .int .i64 b), (2, 4, .agg #[.int .u64 c, .int .u32 d, .int .u32 e, v])] = some [.int .u8 a, .int .i64 b, .int .u64 c, .int .u32 d, .int .u32 e, v] := rfl
theorem t15 (x : I6) {H : AHeap} {vx : Value} (h1 : vx.oneCell' = true) : ∃ w H', ARun Go.Proofs.Try.prog 0 15 [.agg (cI6 vx x).toArray] H w H' ∧ w = .agg (cI6 vx x).toArray ∧ H' = H := by
  suffices h : ∃ w H', ARun Go.Proofs.Try.prog 0 15 [.agg (cI6 vx x).toArray] H w H' ∧ w = .agg (cI6 vx x).toArray ∧ Keeps H H' by
    obtain ⟨_, _, a, rfl, k⟩ := h
    exact ⟨_, _, a.gc0 k (.inl Stood.arg), rfl, rfl⟩
  refine walk2 f15_ok f15_n ?_
  intro Q hq1 hq2
  have hr : ∀ fr H', resO f15.res fr H' = (celln 6 (fr.getD 2 undef) H') := fun fr H' => resC 2 6 fr
  have ox : (cI6 vx x).all Value.oneCell' = true := by simp only [cI6, List.all_cons, List.all_nil, h1]; rfl
  have ce := cI6G vx x
  have d4 : ((cI6 vx x).drop 2).take 4 = [.int .u64 (x.oc : Nat), .int .u32 (x.no : Nat), .int .u32 (x.re : Nat), vx] := rfl
  have hne : (cI6 vx x).length ≠ 4 := by rw [cI6L]; omega
  simp (disch := (first | assumption | omega | (simp only [List.length_cons, List.length_nil] <;> omega) | (simp only [alloc_n, set_n] <;> omega) | (simp (disch := (first | assumption | omega | (simp only [alloc_n, set_n] <;> omega))) only [row_alloc, row_set]; assumption))) only [f15, W_block, ANs, A3s, AOp.map, ↓reduceIte, Nat.reduceAdd, Nat.reduceEqDiff, reduceCtorEq, initFr, Nat.reduceLT, clsA, List.take, List.drop, Nat.reduceLeDiff, Nat.reduceMul, Nat.reduceSub, reduceIte, ANc, A3c, ox, ce, d4, cI6L, fill642, h1]
  refine hq2 _ _ ⟨_, by rw [hr]; simp (disch := (first | assumption | omega | (simp only [List.length_cons, List.length_nil] <;> omega) | (simp only [alloc_n, set_n] <;> omega) | (simp (disch := (first | assumption | omega | (simp only [alloc_n, set_n] <;> omega))) only [row_alloc, row_set]; assumption))) only [W_block, ANs, A3s, AOp.map, ↓reduceIte, Nat.reduceAdd, Nat.reduceEqDiff, reduceCtorEq, initFr, Nat.reduceLT, clsA, List.take, List.drop, Nat.reduceLeDiff, Nat.reduceMul, Nat.reduceSub, reduceIte, ANc, A3c]; (try rfl), rfl, ?_⟩
  ((repeat (first | exact Keeps.refl _ | assumption | refine Keeps.alloc ?_ _ | (refine Keeps.set ?_ (by first | omega | (simp only [alloc_n, set_n] <;> omega)) (by first | omega | (simp only [alloc_n, set_n] <;> omega)) _) | (refine Keeps.trans' (by assumption) ?_))))
theorem fill5o (a b c d e : Int) : fillA [.int .u8 0, .int .i64 0, .int .i64 0, .int .u64 0, .int .u32 0] [(0, 1, .int .u8 a), (1, 1, .int .i64 b), (2, 1, .int .i64 c), (3, 2, .agg #[.int .u64 d, .int .u32 e])] = some [.int .u8 a, .int .i64 b, .int .i64 c, .int .u64 d, .int .u32 e] := rfl
theorem t18 (x : Ou) (H : AHeap) : ∃ w H', ARun Go.Proofs.Try.prog 0 18 [.agg (cOu x).toArray] H w H' ∧ w = .agg (cOu x).toArray ∧ H' = H := by
  suffices h : ∃ w H', ARun Go.Proofs.Try.prog 0 18 [.agg (cOu x).toArray] H w H' ∧ w = .agg (cOu x).toArray ∧ Keeps H H' by
    obtain ⟨_, _, a, rfl, k⟩ := h
    exact ⟨_, _, a.gc0 k (.inl Stood.arg), rfl, rfl⟩
  refine walk2 f18_ok f18_n ?_
  intro Q hq1 hq2
  have hr : ∀ fr H', resO f18.res fr H' = (celln 5 (fr.getD 2 undef) H') := fun fr H' => resC 2 5 fr
  have d4 : ((cOu x).drop 3).take 2 = [.int .u64 (x.pr : Nat), .int .u32 (x.pt : Nat)] := rfl
  have hne : (cOu x).length ≠ 2 := by rw [cOuL]; omega
  simp (disch := (first | assumption | omega | (simp only [List.length_cons, List.length_nil] <;> omega) | (simp only [alloc_n, set_n] <;> omega) | (simp (disch := (first | assumption | omega | (simp only [alloc_n, set_n] <;> omega))) only [row_alloc, row_set]; assumption))) only [f18, W_block, ANs, A3s, AOp.map, ↓reduceIte, Nat.reduceAdd, Nat.reduceEqDiff, reduceCtorEq, initFr, Nat.reduceLT, clsA, List.take, List.drop, Nat.reduceLeDiff, Nat.reduceMul, Nat.reduceSub, reduceIte, ANc, A3c, cOuO, cOuG x, d4, cOuL, fill5o]
  refine hq2 _ _ ⟨_, by rw [hr]; simp (disch := (first | assumption | omega | (simp only [List.length_cons, List.length_nil] <;> omega) | (simp only [alloc_n, set_n] <;> omega) | (simp (disch := (first | assumption | omega | (simp only [alloc_n, set_n] <;> omega))) only [row_alloc, row_set]; assumption))) only [W_block, ANs, A3s, AOp.map, ↓reduceIte, Nat.reduceAdd, Nat.reduceEqDiff, reduceCtorEq, initFr, Nat.reduceLT, clsA, List.take, List.drop, Nat.reduceLeDiff, Nat.reduceMul, Nat.reduceSub, reduceIte, ANc, A3c]; (try rfl), rfl, ?_⟩
  ((repeat (first | exact Keeps.refl _ | assumption | refine Keeps.alloc ?_ _ | (refine Keeps.set ?_ (by first | omega | (simp only [alloc_n, set_n] <;> omega)) (by first | omega | (simp only [alloc_n, set_n] <;> omega)) _) | (refine Keeps.trans' (by assumption) ?_))))
theorem t23 (x : Lo) (hx : x.s.t.length = 64) (H : AHeap) : ∃ w H', ARun Go.Proofs.Try.prog 0 23 [.agg (cLo x).toArray] H w H' ∧ w = .agg (cLo x).toArray ∧ H' = H := by
  suffices h : ∃ w H', ARun Go.Proofs.Try.prog 0 23 [.agg (cLo x).toArray] H w H' ∧ w = .agg (cLo x).toArray ∧ Keeps H H' by
    obtain ⟨_, _, a, rfl, k⟩ := h
    exact ⟨_, _, a.gc0 k (.inl Stood.arg), rfl, rfl⟩
  refine walk2 f23_ok f23_n ?_
  intro Q hq1 hq2
  have hr : ∀ fr H', resO f23.res fr H' = (celln 70 (fr.getD 2 undef) H') := fun fr H' => resC 2 70 fr
  have lx := cLo_len hx
  have ox := cLo_one x
  have oz : Z70.all Value.oneCell' = true := rfl
  have lz : Z70.length = 70 := rfl
  have hne : (cLo x).length ≠ 68 := by omega
  simp (disch := (first | assumption | omega | (simp only [List.length_cons, List.length_nil] <;> omega) | (simp only [alloc_n, set_n] <;> omega) | (simp (disch := (first | assumption | omega | (simp only [alloc_n, set_n] <;> omega))) only [row_alloc, row_set]; assumption))) only [f23, W_block, ANs, A3s, AOp.map, ↓reduceIte, Nat.reduceAdd, Nat.reduceEqDiff, reduceCtorEq, initFr, Nat.reduceLT, clsA, List.take, List.drop, Nat.reduceLeDiff, Nat.reduceMul, Nat.reduceSub, reduceIte, ANc, A3c, ox, (cLoG hx).1, (cLoG hx).2, cLo_s hx, lx, fillLo (e := x.e) (c := x.c) (s := x.s) hx, oz, lz]
  refine hq2 _ _ ⟨_, by rw [hr]; simp (disch := (first | assumption | omega | (simp only [List.length_cons, List.length_nil] <;> omega) | (simp only [alloc_n, set_n] <;> omega) | (simp (disch := (first | assumption | omega | (simp only [alloc_n, set_n] <;> omega))) only [row_alloc, row_set]; assumption))) only [W_block, ANs, A3s, AOp.map, ↓reduceIte, Nat.reduceAdd, Nat.reduceEqDiff, reduceCtorEq, initFr, Nat.reduceLT, clsA, List.take, List.drop, Nat.reduceLeDiff, Nat.reduceMul, Nat.reduceSub, reduceIte, ANc, A3c]; (try rfl), rfl, ?_⟩
  ((repeat (first | exact Keeps.refl _ | assumption | refine Keeps.alloc ?_ _ | (refine Keeps.set ?_ (by first | omega | (simp only [alloc_n, set_n] <;> omega)) (by first | omega | (simp only [alloc_n, set_n] <;> omega)) _) | (refine Keeps.trans' (by assumption) ?_))))
theorem t26 (x : Li) {H : AHeap} {vb : Value} (hB : BS H vb x.B) : ∃ w H', ARun Go.Proofs.Try.prog 0 26 [.agg (cLi vb x).toArray] H w H' ∧ w = .agg (cLs x).toArray ∧ H' = H := by
  suffices h : ∃ w H', ARun Go.Proofs.Try.prog 0 26 [.agg (cLi vb x).toArray] H w H' ∧ w = .agg (cLs x).toArray ∧ Keeps H H' by
    obtain ⟨_, _, a, rfl, k⟩ := h
    exact ⟨_, _, a.gc0 k (.inr (NV.agg_of (NL.plain (cLs_plain x)))), rfl, rfl⟩
  refine walk2 f26_ok f26_n ?_
  intro Q hq1 hq2
  have hr : ∀ fr H', resO f26.res fr H' = (celln 5 (fr.getD 2 undef) H') := fun fr H' => resC 2 5 fr
  have hone := hB.sl.one
  have lx : (cLi vb x).length = 5 := rfl
  have ox : (cLi vb x).all Value.oneCell' = true := by simp only [cLi, List.all_cons, List.all_nil, hone]; rfl
  have k2 := ((Keeps.refl H).alloc (.cells true false 5 (cLi vb x) 65)).alloc (.cells true false 5 [.int .u8 0, .int .u8 0, .int .i64 0, .int .i64 0, .string ByteArray.empty] 69)
  simp (disch := (first | assumption | omega | (simp only [List.length_cons, List.length_nil] <;> omega) | (simp only [alloc_n, set_n] <;> omega) | (simp (disch := (first | assumption | omega | (simp only [alloc_n, set_n] <;> omega))) only [row_alloc, row_set]; assumption))) only [f26, W_block, ANs, A3s, AOp.map, ↓reduceIte, Nat.reduceAdd, Nat.reduceEqDiff, reduceCtorEq, initFr, Nat.reduceLT, clsA, List.take, List.drop, Nat.reduceLeDiff, Nat.reduceMul, Nat.reduceSub, reduceIte, ANc, A3c, ox, cLiG vb x, a_b2sB (hB.keeps k2), fillLs, cLsL, cLsO]
  refine hq2 _ _ ⟨_, by rw [hr]; simp (disch := (first | assumption | omega | (simp only [List.length_cons, List.length_nil] <;> omega) | (simp only [alloc_n, set_n] <;> omega) | (simp (disch := (first | assumption | omega | (simp only [alloc_n, set_n] <;> omega))) only [row_alloc, row_set]; assumption))) only [W_block, ANs, A3s, AOp.map, ↓reduceIte, Nat.reduceAdd, Nat.reduceEqDiff, reduceCtorEq, initFr, Nat.reduceLT, clsA, List.take, List.drop, Nat.reduceLeDiff, Nat.reduceMul, Nat.reduceSub, reduceIte, ANc, A3c, cLsL]; (try rfl), rfl, ?_⟩
  ((repeat (first | exact Keeps.refl _ | assumption | refine Keeps.alloc ?_ _ | (refine Keeps.set ?_ (by first | omega | (simp only [alloc_n, set_n] <;> omega)) (by first | omega | (simp only [alloc_n, set_n] <;> omega)) _) | (refine Keeps.trans' (by assumption) ?_))))
theorem filli5 (a b c d e : Int) : fillA [.int .i64 0, .int .i64 0, .int .i64 0, .int .i64 0, .int .i64 0] [(0, 1, .int .i64 a), (1, 1, .int .i64 b), (2, 1, .int .i64 c), (3, 1, .int .i64 d), (4, 1, .int .i64 e)] = some [.int .i64 a, .int .i64 b, .int .i64 c, .int .i64 d, .int .i64 e] := rfl
theorem t27 (a b c d e : Bool) (H : AHeap) : ∃ w H', ARun Go.Proofs.Try.prog 0 27 [.int .i64 (er a), .int .i64 (er b), .int .i64 (er c), .int .i64 (er d), .int .i64 (er e)] H w H' ∧ w = .bool true ∧ H' = H := by
  suffices h : ∃ w H', ARun Go.Proofs.Try.prog 0 27 [.int .i64 (er a), .int .i64 (er b), .int .i64 (er c), .int .i64 (er d), .int .i64 (er e)] H w H' ∧ w = .bool true ∧ Keeps H H' by
    obtain ⟨_, _, a, rfl, k⟩ := h
    exact ⟨_, _, a.gc0 k (.inr (.bool _)), rfl, rfl⟩
  refine walk2 f27_ok f27_n ?_
  intro Q hq1 hq2
  simp (disch := (first | assumption | omega | (simp only [List.length_cons, List.length_nil] <;> omega) | (simp only [alloc_n, set_n] <;> omega) | (simp (disch := (first | assumption | omega | (simp only [alloc_n, set_n] <;> omega))) only [row_alloc, row_set]; assumption))) only [f27, W_block, ANs, A3s, AOp.map, ↓reduceIte, Nat.reduceAdd, Nat.reduceEqDiff, reduceCtorEq, initFr, Nat.reduceLT, clsA, List.take, List.drop, Nat.reduceLeDiff, Nat.reduceMul, Nat.reduceSub, reduceIte, ANc, A3c, filli5]
  have k0 := (Keeps.refl H).alloc (.cells true false 1 [.int .i64 (er a), .int .i64 (er b), .int .i64 (er c), .int .i64 (er d), .int .i64 (er e)] 31)
  refine W_loop2 (fun q fr K => ∃ (i : Nat) (x y : Value), i ≤ 5 ∧ q = 5 - i ∧ K = H.alloc (.cells true false 1 [.int .i64 (er a), .int .i64 (er b), .int .i64 (er c), .int .i64 (er d), .int .i64 (er e)] 31) ∧
    fr = [.int .i64 (er a), .int .i64 (er b), .int .i64 (er c), .int .i64 (er d), .int .i64 (er e), .bool false, slc H.n 0 5 5, .int .i64 (i : Nat), x, y]) 5 ⟨0, undef, undef, by omega, rfl, rfl, rfl⟩ ?_
  rintro Q' q fr _ ⟨i, x, y, hi, rfl, rfl, rfl⟩ hnx hex hrt
  have key : ∀ o : Bool, ((er o != 0) = false) ∨ ((er o != 0) = true ∧ (er o != 130) = false) := by intro o; cases o <;> decide
  by_cases hc : i < 5
  · obtain ⟨o, ho⟩ : ∃ o : Bool, [Value.int .i64 (er a), .int .i64 (er b), .int .i64 (er c), .int .i64 (er d), .int .i64 (er e)][i]? = some (.int .i64 (er o)) := by
      rcases (show i = 0 ∨ i = 1 ∨ i = 2 ∨ i = 3 ∨ i = 4 by omega) with rfl | rfl | rfl | rfl | rfl <;> exact ⟨_, rfl⟩
    rcases key o with h1 | ⟨h1, h2⟩
    · simp (disch := (first | assumption | omega | (simp only [List.length_cons, List.length_nil] <;> omega) | (simp only [alloc_n, set_n] <;> omega) | (simp (disch := (first | assumption | omega | (simp only [alloc_n, set_n] <;> omega))) only [row_alloc, row_set]; assumption))) only [W_block, ANs, A3s, AOp.map, ↓reduceIte, Nat.reduceAdd, Nat.reduceEqDiff, reduceCtorEq, initFr, Nat.reduceLT, clsA, List.take, List.drop, Nat.reduceLeDiff, Nat.reduceMul, Nat.reduceSub, reduceIte, ANc, A3c, ho, h1, wrap_succ (n := i) (by omega)]
      exact hnx _ _ _ ⟨i + 1, _, _, by omega, rfl, rfl, rfl⟩ (by omega)
    · simp (disch := (first | assumption | omega | (simp only [List.length_cons, List.length_nil] <;> omega) | (simp only [alloc_n, set_n] <;> omega) | (simp (disch := (first | assumption | omega | (simp only [alloc_n, set_n] <;> omega))) only [row_alloc, row_set]; assumption))) only [W_block, ANs, A3s, AOp.map, ↓reduceIte, Nat.reduceAdd, Nat.reduceEqDiff, reduceCtorEq, initFr, Nat.reduceLT, clsA, List.take, List.drop, Nat.reduceLeDiff, Nat.reduceMul, Nat.reduceSub, reduceIte, ANc, A3c, ho, h1, h2, wrap_succ (n := i) (by omega)]
      exact hnx _ _ _ ⟨i + 1, _, _, by omega, rfl, rfl, rfl⟩ (by omega)
  · simp (disch := (first | assumption | omega | (simp only [List.length_cons, List.length_nil] <;> omega) | (simp only [alloc_n, set_n] <;> omega) | (simp (disch := (first | assumption | omega | (simp only [alloc_n, set_n] <;> omega))) only [row_alloc, row_set]; assumption))) only [W_block, ANs, A3s, AOp.map, ↓reduceIte, Nat.reduceAdd, Nat.reduceEqDiff, reduceCtorEq, initFr, Nat.reduceLT, clsA, List.take, List.drop, Nat.reduceLeDiff, Nat.reduceMul, Nat.reduceSub, reduceIte, ANc, A3c]
    refine hex _ _ _ ?_
    simp (disch := (first | assumption | omega | (simp only [List.length_cons, List.length_nil] <;> omega) | (simp only [alloc_n, set_n] <;> omega) | (simp (disch := (first | assumption | omega | (simp only [alloc_n, set_n] <;> omega))) only [row_alloc, row_set]; assumption))) only [W_block, ANs, A3s, AOp.map, ↓reduceIte, Nat.reduceAdd, Nat.reduceEqDiff, reduceCtorEq, initFr, Nat.reduceLT, clsA, List.take, List.drop, Nat.reduceLeDiff, Nat.reduceMul, Nat.reduceSub, reduceIte, ANc, A3c]
    exact hq2 _ _ ⟨_, rfl, rfl, k0⟩
end Go.AM.Fd

set_option linter.unusedSimpArgs false
set_option linter.unusedVariables false
namespace Go.AM.Fd
open Go.Proofs Go.AM.F
theorem frm_of_ou {b : List UInt8} {x : Ou} (h : geOu b = some x) : frm 2 b = true := by
  unfold geOu at h; split at h; assumption; cases h
theorem frm_other {k k' : Nat} {b : List UInt8} (h : frm k b = true) (hk : k < 256) (hk' : k' < 256) (hne : k' ≠ k) : frm k' b = false := by
  cases h' : frm k' b with
  | false => rfl
  | true => exact absurd (frm_k h' h hk' hk) hne
theorem ki_ou {b : List UInt8} {x : Ou} (h : geOu b = some x) : kiB b = 2 := by
  have f := frm_of_ou h
  have h1 : geI6 b = none := by unfold geI6; rw [frm_other f (by omega) (k' := 1) (by omega) (by omega)]; rfl
  unfold kiB; rw [h1, h]; rfl
theorem t11 (H : AHeap) : ∃ w H', ARun Go.Proofs.Try.prog 0 11 [] H w H' ∧ w = .bool true ∧ H' = H := by
  suffices h : ∃ w H', ARun Go.Proofs.Try.prog 0 11 [] H w H' ∧ w = .bool true ∧ Keeps H H' by
    obtain ⟨_, _, a, rfl, k⟩ := h
    exact ⟨_, _, a.gc0 k (.inr (.bool _)), rfl, rfl⟩
  refine walk2 f11_ok f11_n ?_
  intro Q hq1 hq2
  obtain ⟨x, hx⟩ : ∃ x, x = (⟨1, 2, 3, 4, 5⟩ : Ou) := ⟨_, rfl⟩
  have hrg : rgOu x := by rw [hx]; exact ⟨by decide, by decide, by decide⟩
  have hok : okOu x = true := by rw [hx]; rfl
  have cx : cOu x = [.int .u8 1, .int .i64 2, .int .i64 3, .int .u64 4, .int .u32 5] := by rw [hx]; rfl
  have f2 : fillA [.int .u64 0, .int .u32 0] [(0, 1, .int .u64 4), (1, 1, .int .u32 5)] = some [.int .u64 4, .int .u32 5] := rfl
  have f5 : fillA [.int .u8 0, .int .i64 0, .int .i64 0, .int .u64 0, .int .u32 0] [(0, 1, .int .u8 1), (1, 1, .int .i64 2), (2, 1, .int .i64 3), (3, 2, .agg #[.int .u64 4, .int .u32 5])] = some (cOu x) := by rw [cx]; rfl
  have hfl : (fOu x).length = 34 := by unfold fOu; rw [if_pos hok, chk_len, List.length_cons, enOu_len]
  have hne : fOu x ≠ [] := by intro e; rw [e] at hfl; simp at hfl
  have hg := geOu_of hrg hne rfl
  have hk := ki_ou hg
  simp (disch := (first | assumption | omega | (simp only [List.length_cons, List.length_nil] <;> omega) | (simp only [alloc_n, set_n] <;> omega) | (simp (disch := (first | assumption | omega | (simp only [alloc_n, set_n] <;> omega))) only [row_alloc, row_set]; assumption))) only [f11, W_block, ANs, A3s, AOp.map, ↓reduceIte, Nat.reduceAdd, Nat.reduceEqDiff, reduceCtorEq, initFr, Nat.reduceLT, clsA, List.take, List.drop, Nat.reduceLeDiff, Nat.reduceMul, Nat.reduceSub, reduceIte, ANc, A3c, f2, f5]
  refine callK (t45 x hrg H) ?_
  rintro v1 K1 ⟨a1, k1, fr1⟩
  have q1 := a1.bq
  have hs := q1.bs.sl
  have his := hs.is
  have hlen := hs.len
  rw [List.length_map, hfl] at hlen
  simp (disch := (first | assumption | omega | (simp only [List.length_cons, List.length_nil] <;> omega) | (simp only [alloc_n, set_n] <;> omega) | (simp (disch := (first | assumption | omega | (simp only [alloc_n, set_n] <;> omega))) only [row_alloc, row_set]; assumption))) only [W_block, ANs, A3s, AOp.map, ↓reduceIte, Nat.reduceAdd, Nat.reduceEqDiff, reduceCtorEq, initFr, Nat.reduceLT, clsA, List.take, List.drop, Nat.reduceLeDiff, Nat.reduceMul, Nat.reduceSub, reduceIte, ANc, A3c]
  refine callK (e16 q1 (by omega)) ?_
  rintro _ _ ⟨rfl, rfl⟩
  rw [hg]
  have hsome : er (some x).isSome = 0 := rfl
  simp (disch := (first | assumption | omega | (simp only [List.length_cons, List.length_nil] <;> omega) | (simp only [alloc_n, set_n] <;> omega) | (simp (disch := (first | assumption | omega | (simp only [alloc_n, set_n] <;> omega))) only [row_alloc, row_set]; assumption))) only [W_block, ANs, A3s, AOp.map, ↓reduceIte, Nat.reduceAdd, Nat.reduceEqDiff, reduceCtorEq, initFr, Nat.reduceLT, clsA, List.take, List.drop, Nat.reduceLeDiff, Nat.reduceMul, Nat.reduceSub, reduceIte, ANc, A3c, GotV, Option.getD_some, hsome, cOuL, cOuO, hlen, cx]
  refine callK (t28 (q1.keeps ((Keeps.refl _).alloc _)) (by omega)) ?_
  rintro _ _ ⟨rfl, rfl⟩
  rw [hk]
  simp (disch := (first | assumption | omega | (simp only [List.length_cons, List.length_nil] <;> omega) | (simp only [alloc_n, set_n] <;> omega) | (simp (disch := (first | assumption | omega | (simp only [alloc_n, set_n] <;> omega))) only [row_alloc, row_set]; assumption))) only [W_block, ANs, A3s, AOp.map, ↓reduceIte, Nat.reduceAdd, Nat.reduceEqDiff, reduceCtorEq, initFr, Nat.reduceLT, clsA, List.take, List.drop, Nat.reduceLeDiff, Nat.reduceMul, Nat.reduceSub, reduceIte, ANc, A3c]
  exact hq2 _ _ ⟨_, rfl, rfl, k1.trans ((Keeps.refl _).alloc _)⟩
theorem eqCs_int : ∀ c : List Value, (∀ v ∈ c, ∃ k n, v = .int k n) → eqCs (List.replicate c.length 1) c c = some true
  | [], _ => rfl
  | v :: c, h => by
    obtain ⟨k, n, rfl⟩ := h v (List.mem_cons_self ..)
    have ih := eqCs_int c (fun v hv => h v (List.mem_cons_of_mem _ hv))
    simp only [List.length_cons, List.replicate_succ, eqCs, ih]
    simp [eqC]
theorem a_eqsR {cs : List Nat} {c : List Value} (h : eqCs cs c c = some true) (H : AHeap) : asem (.eqs cs false (.agg c.toArray) (.agg c.toArray)) H = some (.bool true, H) := by
  simp only [asem, h]; rfl
theorem cellsOf_int (l : List UInt8) : ∀ v ∈ cellsOf l, ∃ k n, v = Value.int k n := by
  intro v hv
  simp only [cellsOf, List.mem_map] at hv
  obtain ⟨b, _, rfl⟩ := hv
  exact ⟨_, _, rfl⟩
theorem cSt_int (x : St) : ∀ v ∈ cSt x, ∃ k n, v = Value.int k n := by
  intro v hv
  simp only [cSt, List.mem_cons, List.mem_append, List.mem_nil_iff, or_false] at hv
  rcases hv with rfl | rfl | rfl | h | rfl
  · exact ⟨_, _, rfl⟩
  · exact ⟨_, _, rfl⟩
  · exact ⟨_, _, rfl⟩
  · exact cellsOf_int _ v h
  · exact ⟨_, _, rfl⟩
theorem cLo_int (x : Lo) : ∀ v ∈ cLo x, ∃ k n, v = Value.int k n := by
  intro v hv
  simp only [cLo, List.mem_cons] at hv
  rcases hv with rfl | rfl | h
  · exact ⟨_, _, rfl⟩
  · exact ⟨_, _, rfl⟩
  · exact cSt_int _ v h
theorem eqOu (x : Ou) : eqCs [1, 1, 1, 1, 1] (cOu x) (cOu x) = some true := by simp [eqCs, eqC, cOu]
theorem eqSt {x : St} (h : x.t.length = 64) : eqCs O68 (cSt x) (cSt x) = some true := by
  have := eqCs_int (cSt x) (cSt_int x)
  rw [cSt_len h] at this; exact this
theorem eqLo {x : Lo} (h : x.s.t.length = 64) : eqCs O70 (cLo x) (cLo x) = some true := by
  have := eqCs_int (cLo x) (cLo_int x)
  rw [cLo_len h] at this; exact this
theorem eqLs (x : Li) : eqCs [1, 1, 1, 1, 2] (cLs x) (cLs x) = some true := by simp [eqCs, eqC, cLs, cLi, strB]
theorem sI6_refl (x : I6) : sI6 x x = true := by simp [sI6]
theorem gotSt_len (b : List UInt8) : ((geSt b).getD St0).t.length = 64 := by
  cases h : geSt b with
  | none => rfl
  | some y => exact (geSt_some h).2.1.1
theorem gotLo_len (b : List UInt8) : ((geLo b).getD Lo0).s.t.length = 64 := by
  cases h : geLo b with
  | none => rfl
  | some y => exact (geLo_some h).2.1.1
end Go.AM.Fd

set_option linter.unusedSimpArgs false
set_option linter.unusedVariables false
namespace Go.AM.Fd
open Go.Proofs Go.AM.F
theorem bq_new (H : AHeap) (room : Bool) (l : List UInt8) (n : Nat) (hn : n = l.length) : BQ (H.alloc (.cells true room 1 (cellsOf l) 5)) (slc H.n 0 n n) l := by
  subst hn
  exact (AP.bq (.inr ⟨H.n, room, rfl, by rw [cellsOf_length, Nat.mul_one], AHeap.get_alloc_new H _⟩) : BQ _ _ l)
theorem apSl {H : AHeap} {v : Value} {cs : List (Nat × Int)} (a : AP H 108 2 v cs.length (CC cs).flatten) : Sl H 2 v (CC cs) := by
  refine a.sl (fun r hr => ?_) (by simp [CC])
  simp only [CC, List.mem_map] at hr
  obtain ⟨_, _, rfl⟩ := hr
  rfl
set_option maxHeartbeats 1000000 in
theorem t3 {H : AHeap} {v : Value} {b : List UInt8} (hb : BQ H v b) : ∃ w H', ARun Go.Proofs.Try.prog 0 3 [v] H w H' ∧ w = .bool true := by
  refine walk2 f3_ok f3_n ?_
  intro Q hq1 hq2
  have hs := hb.bs.sl
  have his := hs.is
  have hlen := hs.len
  rw [List.length_map] at hlen
  by_cases h0 : 3000 < b.length
  · simp (disch := (first | assumption | omega | (simp only [List.length_cons, List.length_nil] <;> omega) | (simp only [alloc_n, set_n] <;> omega) | (simp (disch := (first | assumption | omega | (simp only [alloc_n, set_n] <;> omega))) only [row_alloc, row_set]; assumption))) only [f3, W_block, ANs, A3s, AOp.map, ↓reduceIte, Nat.reduceAdd, Nat.reduceEqDiff, reduceCtorEq, initFr, Nat.reduceLT, clsA, List.take, List.drop, Nat.reduceLeDiff, Nat.reduceMul, Nat.reduceSub, reduceIte, ANc, A3c, hlen]
    refine callK (t11 _) ?_
    rintro _ _ ⟨rfl, rfl⟩
    simp (disch := (first | assumption | omega | (simp only [List.length_cons, List.length_nil] <;> omega) | (simp only [alloc_n, set_n] <;> omega) | (simp (disch := (first | assumption | omega | (simp only [alloc_n, set_n] <;> omega))) only [row_alloc, row_set]; assumption))) only [W_block, ANs, A3s, AOp.map, ↓reduceIte, Nat.reduceAdd, Nat.reduceEqDiff, reduceCtorEq, initFr, Nat.reduceLT, clsA, List.take, List.drop, Nat.reduceLeDiff, Nat.reduceMul, Nat.reduceSub, reduceIte, ANc, A3c]
    exact hq2 _ _ ⟨_, rfl, rfl⟩
  simp (disch := (first | assumption | omega | (simp only [List.length_cons, List.length_nil] <;> omega) | (simp only [alloc_n, set_n] <;> omega) | (simp (disch := (first | assumption | omega | (simp only [alloc_n, set_n] <;> omega))) only [row_alloc, row_set]; assumption))) only [f3, W_block, ANs, A3s, AOp.map, ↓reduceIte, Nat.reduceAdd, Nat.reduceEqDiff, reduceCtorEq, initFr, Nat.reduceLT, clsA, List.take, List.drop, Nat.reduceLeDiff, Nat.reduceMul, Nat.reduceSub, reduceIte, ANc, A3c, hlen, a_b2sB hb.bs, a_s2bl]
  have hown := bq_new H true b _ rfl
  have kB := (Keeps.refl H).alloc (.cells true true 1 (cellsOf b) 5)
  obtain ⟨B0, hB0⟩ : ∃ X, X = H.alloc (.cells true true 1 (cellsOf b) 5) := ⟨_, rfl⟩
  rw [← hB0] at hown kB ⊢
  have hbB := hb.keeps kB
  have tvO := hown.tbl
  -- inputs
  refine callK (e12 hown (by omega)) ?_
  rintro _ K1 ⟨vc1, rfl, k1, fc1, ac1⟩
  obtain ⟨y6, hy6⟩ : ∃ y, y = (geI6 b).getD I60 := ⟨_, rfl⟩
  obtain ⟨b6, hb6⟩ : ∃ y, y = (geI6 b).isSome := ⟨_, rfl⟩
  rw [← hy6] at ac1 ⊢
  rw [← hb6]
  have h1c := (apSl ac1).one
  have o6 : (cI6 vc1 y6).all Value.oneCell' = true := by simp only [cI6, List.all_cons, List.all_nil, h1c]; rfl
  simp (disch := (first | assumption | omega | (simp only [List.length_cons, List.length_nil] <;> omega) | (simp only [alloc_n, set_n] <;> omega) | (simp (disch := (first | assumption | omega | (simp only [alloc_n, set_n] <;> omega))) only [row_alloc, row_set]; assumption))) only [W_block, ANs, A3s, AOp.map, ↓reduceIte, Nat.reduceAdd, Nat.reduceEqDiff, reduceCtorEq, initFr, Nat.reduceLT, clsA, List.take, List.drop, Nat.reduceLeDiff, Nat.reduceMul, Nat.reduceSub, reduceIte, ANc, A3c, GotV, cI6L, o6]
  have kk1 := k1.alloc (.cells true false 6 (cI6 vc1 y6) 30)
  refine callK (d13 (hbB.keeps kk1) (by omega)) ?_
  rintro _ K2 ⟨vc2, rfl, k2, fc2, ac2⟩
  rw [← hy6] at ac2 ⊢
  rw [← hb6]
  have h2c := (apSl ac2).one
  have o62 : (cI6 vc2 y6).all Value.oneCell' = true := by simp only [cI6, List.all_cons, List.all_nil, h2c]; rfl
  have n1 := k1.n
  have n2 := k2.n
  simp only [alloc_n] at n2
  have l6 : (cI6 vc1 y6).length = 6 := rfl
  have l62 : (cI6 vc2 y6).length = 6 := rfl
  simp (disch := (first | assumption | omega | (simp only [List.length_cons, List.length_nil] <;> omega) | (simp only [alloc_n, set_n] <;> omega) | (simp (disch := (first | assumption | omega | (simp only [alloc_n, set_n] <;> omega))) only [row_alloc, row_set, Keeps.row k2]; assumption))) only [Keeps.get k2, Keeps.row k2, W_block, ANs, A3s, AOp.map, ↓reduceIte, Nat.reduceAdd, Nat.reduceEqDiff, reduceCtorEq, initFr, Nat.reduceLT, clsA, List.take, List.drop, Nat.reduceLeDiff, Nat.reduceMul, Nat.reduceSub, reduceIte, ANc, A3c, GotB, cI6L, o62]
  refine callP (t15 y6 h1c) ?_
  simp (disch := (first | assumption | omega | (simp only [List.length_cons, List.length_nil] <;> omega) | (simp only [alloc_n, set_n] <;> omega) | (simp (disch := (first | assumption | omega | (simp only [alloc_n, set_n] <;> omega))) only [row_alloc, row_set, Keeps.row k2]; assumption))) only [Keeps.get k2, Keeps.row k2, W_block, ANs, A3s, AOp.map, ↓reduceIte, Nat.reduceAdd, Nat.reduceEqDiff, reduceCtorEq, initFr, Nat.reduceLT, clsA, List.take, List.drop, Nat.reduceLeDiff, Nat.reduceMul, Nat.reduceSub, reduceIte, ANc, A3c, ite_self]
  have kk2 := k2.alloc (.cells true false 6 (cI6 vc2 y6) 34)
  have sl1 := (apSl ac1).keeps (((Keeps.refl K1).alloc (.cells true false 6 (cI6 vc1 y6) 30)).trans kk2)
  have sl2 := (apSl ac2).keeps ((Keeps.refl K2).alloc (.cells true false 6 (cI6 vc2 y6) 34))
  have hcs : y6.cs.length ≤ 1000000 := by
    rw [hy6]
    cases hg : geI6 b with
    | none => simp [I60]
    | some y => have := geI6_few hg; simp only [Option.getD_some]; omega
  refine callP (t14 y6 y6 sl1 sl2 hcs hcs) ?_
  have kB2 : Keeps B0 (K2.alloc (.cells true false 6 (cI6 vc2 y6) 34)) := kk1.trans kk2
  simp (disch := (first | assumption | omega | (simp only [List.length_cons, List.length_nil] <;> omega) | (simp only [alloc_n, set_n] <;> omega) | (simp (disch := (first | assumption | omega | (simp only [alloc_n, set_n] <;> omega))) only [row_alloc, row_set, Keeps.row k2]; assumption))) only [Keeps.get k2, Keeps.row k2, W_block, ANs, A3s, AOp.map, ↓reduceIte, Nat.reduceAdd, Nat.reduceEqDiff, reduceCtorEq, initFr, Nat.reduceLT, clsA, List.take, List.drop, Nat.reduceLeDiff, Nat.reduceMul, Nat.reduceSub, reduceIte, ANc, A3c, ite_self, sI6_refl, er_b]
  -- outputs
  obtain ⟨K3, hK3⟩ : ∃ X, X = K2.alloc (.cells true false 6 (cI6 vc2 y6) 34) := ⟨_, rfl⟩
  rw [← hK3] at kB2 ⊢
  refine callP (e16 (hown.keeps kB2) (by omega)) ?_
  obtain ⟨yo, hyo⟩ : ∃ y, y = (geOu b).getD Ou0 := ⟨_, rfl⟩
  obtain ⟨bo, hbo⟩ : ∃ y, y = (geOu b).isSome := ⟨_, rfl⟩
  rw [← hyo, ← hbo]
  simp (disch := (first | assumption | omega | (simp only [List.length_cons, List.length_nil] <;> omega) | (simp only [alloc_n, set_n] <;> omega) | (simp (disch := (first | assumption | omega | (simp only [alloc_n, set_n] <;> omega))) only [row_alloc, row_set]; assumption))) only [W_block, ANs, A3s, AOp.map, ↓reduceIte, Nat.reduceAdd, Nat.reduceEqDiff, reduceCtorEq, initFr, Nat.reduceLT, clsA, List.take, List.drop, Nat.reduceLeDiff, Nat.reduceMul, Nat.reduceSub, reduceIte, ANc, A3c, GotV, cOuL, cOuO]
  refine callP (d17 (hbB.keeps (kB2.alloc _)) (by omega)) ?_
  rw [← hyo, ← hbo]
  have lo := cOuL yo
  simp (disch := (first | assumption | omega | (simp only [List.length_cons, List.length_nil] <;> omega) | (simp only [alloc_n, set_n] <;> omega) | (simp (disch := (first | assumption | omega | (simp only [alloc_n, set_n] <;> omega))) only [row_alloc, row_set]; assumption))) only [W_block, ANs, A3s, AOp.map, ↓reduceIte, Nat.reduceAdd, Nat.reduceEqDiff, reduceCtorEq, initFr, Nat.reduceLT, clsA, List.take, List.drop, Nat.reduceLeDiff, Nat.reduceMul, Nat.reduceSub, reduceIte, ANc, A3c, GotB, cOuL, cOuO]
  refine callP (t18 yo _) ?_
  simp (disch := (first | assumption | omega | (simp only [List.length_cons, List.length_nil] <;> omega) | (simp only [alloc_n, set_n] <;> omega) | (simp (disch := (first | assumption | omega | (simp only [alloc_n, set_n] <;> omega))) only [row_alloc, row_set]; assumption))) only [W_block, ANs, A3s, AOp.map, ↓reduceIte, Nat.reduceAdd, Nat.reduceEqDiff, reduceCtorEq, initFr, Nat.reduceLT, clsA, List.take, List.drop, Nat.reduceLeDiff, Nat.reduceMul, Nat.reduceSub, reduceIte, ANc, A3c, ite_self, a_eqsR (eqOu yo), er_b]
  -- states
  have kB3 := (kB2.alloc (.cells true false 5 (cOu yo) 42)).alloc (.cells true false 5 (cOu yo) 45)
  obtain ⟨K4, hK4⟩ : ∃ X, X = (K3.alloc (.cells true false 5 (cOu yo) 42)).alloc (.cells true false 5 (cOu yo) 45) := ⟨_, rfl⟩
  rw [← hK4] at kB3 ⊢
  refine callP (e19 (hown.keeps kB3) (by omega)) ?_
  have lst := gotSt_len b
  have llo := gotLo_len b
  obtain ⟨ys, hys⟩ : ∃ y, y = (geSt b).getD St0 := ⟨_, rfl⟩
  obtain ⟨bs, hbs⟩ : ∃ y, y = (geSt b).isSome := ⟨_, rfl⟩
  rw [← hys] at lst
  rw [← hys, ← hbs]
  have lz3 : Z68.length = 68 := rfl
  have oz3 : Z68.all Value.oneCell' = true := rfl
  have ls := cSt_len lst
  have os := cSt_one ys
  simp (disch := (first | assumption | omega | (simp only [List.length_cons, List.length_nil] <;> omega) | (simp only [alloc_n, set_n] <;> omega) | (simp (disch := (first | assumption | omega | (simp only [alloc_n, set_n] <;> omega))) only [row_alloc, row_set]; assumption))) only [W_block, ANs, A3s, AOp.map, ↓reduceIte, Nat.reduceAdd, Nat.reduceEqDiff, reduceCtorEq, initFr, Nat.reduceLT, clsA, List.take, List.drop, Nat.reduceLeDiff, Nat.reduceMul, Nat.reduceSub, reduceIte, ANc, A3c, GotV, ls, os, oz3]
  refine callP (d20 (hbB.keeps (kB3.alloc _)) (by omega)) ?_
  rw [← hys, ← hbs]
  simp (disch := (first | assumption | omega | (simp only [List.length_cons, List.length_nil] <;> omega) | (simp only [alloc_n, set_n] <;> omega) | (simp (disch := (first | assumption | omega | (simp only [alloc_n, set_n] <;> omega))) only [row_alloc, row_set]; assumption))) only [W_block, ANs, A3s, AOp.map, ↓reduceIte, Nat.reduceAdd, Nat.reduceEqDiff, reduceCtorEq, initFr, Nat.reduceLT, clsA, List.take, List.drop, Nat.reduceLeDiff, Nat.reduceMul, Nat.reduceSub, reduceIte, ANc, A3c, GotB, ls, os, oz3, a_eqsR (eqSt lst), er_b]
  -- records
  have kB4 := (kB3.alloc (.cells true false 68 (cSt ys) 51)).alloc (.cells true false 68 (cSt ys) 51)
  obtain ⟨K5, hK5⟩ : ∃ X, X = (K4.alloc (.cells true false 68 (cSt ys) 51)).alloc (.cells true false 68 (cSt ys) 51) := ⟨_, rfl⟩
  rw [← hK5] at kB4 ⊢
  refine callP (e21 (hown.keeps kB4) (by omega)) ?_
  obtain ⟨yl, hyl⟩ : ∃ y, y = (geLo b).getD Lo0 := ⟨_, rfl⟩
  obtain ⟨bl, hbl⟩ : ∃ y, y = (geLo b).isSome := ⟨_, rfl⟩
  rw [← hyl] at llo
  rw [← hyl, ← hbl]
  have lz4 : Z70.length = 70 := rfl
  have oz4 : Z70.all Value.oneCell' = true := rfl
  have ll := cLo_len llo
  have ol := cLo_one yl
  simp (disch := (first | assumption | omega | (simp only [List.length_cons, List.length_nil] <;> omega) | (simp only [alloc_n, set_n] <;> omega) | (simp (disch := (first | assumption | omega | (simp only [alloc_n, set_n] <;> omega))) only [row_alloc, row_set]; assumption))) only [W_block, ANs, A3s, AOp.map, ↓reduceIte, Nat.reduceAdd, Nat.reduceEqDiff, reduceCtorEq, initFr, Nat.reduceLT, clsA, List.take, List.drop, Nat.reduceLeDiff, Nat.reduceMul, Nat.reduceSub, reduceIte, ANc, A3c, GotV, ll, ol, oz4]
  refine callP (d22 (hbB.keeps (kB4.alloc _)) (by omega)) ?_
  rw [← hyl, ← hbl]
  simp (disch := (first | assumption | omega | (simp only [List.length_cons, List.length_nil] <;> omega) | (simp only [alloc_n, set_n] <;> omega) | (simp (disch := (first | assumption | omega | (simp only [alloc_n, set_n] <;> omega))) only [row_alloc, row_set]; assumption))) only [W_block, ANs, A3s, AOp.map, ↓reduceIte, Nat.reduceAdd, Nat.reduceEqDiff, reduceCtorEq, initFr, Nat.reduceLT, clsA, List.take, List.drop, Nat.reduceLeDiff, Nat.reduceMul, Nat.reduceSub, reduceIte, ANc, A3c, GotB, ll, ol, oz4]
  refine callP (t23 yl llo _) ?_
  simp (disch := (first | assumption | omega | (simp only [List.length_cons, List.length_nil] <;> omega) | (simp only [alloc_n, set_n] <;> omega) | (simp (disch := (first | assumption | omega | (simp only [alloc_n, set_n] <;> omega))) only [row_alloc, row_set]; assumption))) only [W_block, ANs, A3s, AOp.map, ↓reduceIte, Nat.reduceAdd, Nat.reduceEqDiff, reduceCtorEq, initFr, Nat.reduceLT, clsA, List.take, List.drop, Nat.reduceLeDiff, Nat.reduceMul, Nat.reduceSub, reduceIte, ANc, A3c, ite_self, a_eqsR (eqLo llo), er_b]
  -- messages
  have kB5 := (kB4.alloc (.cells true false 70 (cLo yl) 57)).alloc (.cells true false 70 (cLo yl) 60)
  obtain ⟨K6, hK6⟩ : ∃ X, X = (K5.alloc (.cells true false 70 (cLo yl) 57)).alloc (.cells true false 70 (cLo yl) 60) := ⟨_, rfl⟩
  rw [← hK6] at kB5 ⊢
  refine callK (e24 (hown.keeps kB5) (by omega)) ?_
  rintro _ K7 ⟨vb, rfl, k7, fb, ab⟩
  obtain ⟨ym, hym⟩ : ∃ y, y = (geLi b).getD Li0 := ⟨_, rfl⟩
  obtain ⟨bm, hbm⟩ : ∃ y, y = (geLi b).isSome := ⟨_, rfl⟩
  rw [← hym] at ab ⊢
  rw [← hbm]
  have h1b := ab.bs.sl.one
  have om : (cLi vb ym).all Value.oneCell' = true := by simp only [cLi, List.all_cons, List.all_nil, h1b]; rfl
  have lm : (cLi vb ym).length = 5 := rfl
  have kB7 := kB5.trans k7
  simp (disch := (first | assumption | omega | (simp only [List.length_cons, List.length_nil] <;> omega) | (simp only [alloc_n, set_n] <;> omega) | (simp (disch := (first | assumption | omega | (simp only [alloc_n, set_n] <;> omega))) only [row_alloc, row_set]; assumption))) only [W_block, ANs, A3s, AOp.map, ↓reduceIte, Nat.reduceAdd, Nat.reduceEqDiff, reduceCtorEq, initFr, Nat.reduceLT, clsA, List.take, List.drop, Nat.reduceLeDiff, Nat.reduceMul, Nat.reduceSub, reduceIte, ANc, A3c, GotV, lm, om]
  refine callP (d25 (hbB.keeps (kB7.alloc _)) (by omega)) ?_
  rw [← hym, ← hbm]
  have lls := cLsL ym
  simp (disch := (first | assumption | omega | (simp only [List.length_cons, List.length_nil] <;> omega) | (simp only [alloc_n, set_n] <;> omega) | (simp (disch := (first | assumption | omega | (simp only [alloc_n, set_n] <;> omega))) only [row_alloc, row_set]; assumption))) only [W_block, ANs, A3s, AOp.map, ↓reduceIte, Nat.reduceAdd, Nat.reduceEqDiff, reduceCtorEq, initFr, Nat.reduceLT, clsA, List.take, List.drop, Nat.reduceLeDiff, Nat.reduceMul, Nat.reduceSub, reduceIte, ANc, A3c, GotB, cLsL, cLsO]
  have kB8 := (kB7.alloc (.cells true false 5 (cLi vb ym) 65)).alloc (.cells true false 5 (cLs ym) 69)
  refine callP (t26 ym (ab.bs.keeps (((Keeps.refl K7).alloc (.cells true false 5 (cLi vb ym) 65)).alloc (.cells true false 5 (cLs ym) 69)))) ?_
  simp (disch := (first | assumption | omega | (simp only [List.length_cons, List.length_nil] <;> omega) | (simp only [alloc_n, set_n] <;> omega) | (simp (disch := (first | assumption | omega | (simp only [alloc_n, set_n] <;> omega))) only [row_alloc, row_set]; assumption))) only [W_block, ANs, A3s, AOp.map, ↓reduceIte, Nat.reduceAdd, Nat.reduceEqDiff, reduceCtorEq, initFr, Nat.reduceLT, clsA, List.take, List.drop, Nat.reduceLeDiff, Nat.reduceMul, Nat.reduceSub, reduceIte, ANc, A3c, ite_self, a_eqsR (eqLs ym), er_b]
  have a8 := ab.keeps (((Keeps.refl K7).alloc (.cells true false 5 (cLi vb ym) 65)).alloc (.cells true false 5 (cLs ym) 69))
  have g8 : ((K7.alloc (.cells true false 5 (cLi vb ym) 65)).alloc (.cells true false 5 (cLs ym) 69)).get K7.n = some (.cells true false 5 (cLi vb ym) 65) := (AHeap.get_alloc_old _ _ (by rw [alloc_n]; omega)).trans (AHeap.get_alloc_new _ _)
  obtain ⟨K8, hK8⟩ : ∃ X, X = (K7.alloc (.cells true false 5 (cLi vb ym) 65)).alloc (.cells true false 5 (cLs ym) 69) := ⟨_, rfl⟩
  rw [← hK8] at kB8 a8 g8 ⊢
  have lB := ab
  have lvb : ∀ y ∈ blkL vb, B0.n ≤ y ∧ y < K7.n := fun y hy => ⟨by have := fb y (mem_blkL.1 hy); have := kB5.n; omega, ab.lt (mem_blkL.1 hy)⟩
  have hml : ym.B.length ≤ 1000000 := by
    rw [hym]
    cases hg : geLi b with
    | none => simp [Li0]
    | some y => have := (geLi_some hg).2.2.2; simp only [Option.getD_some]; omega
  refine W_loop2 (fun q fr K => ∃ (j : Nat) (l' : List UInt8) (e : Value), j ≤ ym.B.length ∧ q = ym.B.length - j ∧ l'.length = ym.B.length ∧ AP K 5 1 vb ym.B.length (cellsOf l') ∧ K.get K7.n = some (.cells true false 5 (cLi vb ym) 65) ∧ Chg (blkL vb) K8 K ∧
    fr = [v, .bool false, slc H.n 0 b.length b.length, ptr K1.n 0, .int .i64 (er b6), ptr K2.n 0, .bool b6, .bool true, ptr K3.n 0, .int .i64 (er bo), ptr (K3.n + 1) 0, .bool bo, .bool true, ptr K4.n 0, .int .i64 (er bs), ptr (K4.n + 1) 0, .bool bs, .bool true, ptr K5.n 0, .int .i64 (er bl), ptr (K5.n + 1) 0, .bool bl, .bool true, ptr K7.n 0, .int .i64 (er bm), ptr (K7.n + 1) 0, .bool bm, .bool true, .int .i64 (j : Nat), .bool false, e]) ym.B.length ⟨0, ym.B, undef, by omega, rfl, rfl, a8, g8, Chg.refl _ _, rfl⟩ ?_
  rintro Q' q fr K ⟨j, l', e, hj, rfl, hl', aK, gK, cK, rfl⟩ hnx hex hrt
  by_cases hc : j < ym.B.length
  · rcases aK with ⟨_, h0', _⟩ | ⟨bb, room, rfl, h1', g1⟩
    · omega
    have hbb := lvb bb (mem_blkL.2 rfl)
    have hj' : j < l'.length := by omega
    have p1 := AHeap.get_lt g1
    simp (disch := (first | assumption | omega | (simp only [List.length_cons, List.length_nil] <;> omega) | (simp only [alloc_n, set_n] <;> omega) | (simp (disch := (first | assumption | omega | (simp only [alloc_n, set_n] <;> omega))) only [row_alloc, row_set]; assumption))) only [W_block, ANs, A3s, AOp.map, ↓reduceIte, Nat.reduceAdd, Nat.reduceEqDiff, reduceCtorEq, initFr, Nat.reduceLT, clsA, List.take, List.drop, Nat.reduceLeDiff, Nat.reduceMul, Nat.reduceSub, reduceIte, ANc, A3c, gK, cLiG (slc bb 0 ym.B.length ym.B.length) ym, g1, cells_get hj', inc_byte, cellsOf_length, cells_set, wrap_succ (n := j) (by omega)]
    refine hnx _ _ _ ⟨j + 1, l'.set j (UInt8.ofNat (l'[j].toNat + 1)), _, by omega, rfl, by rw [List.length_set]; exact hl', .inr ⟨bb, room, rfl, by rw [cellsOf_length, List.length_set]; omega, AHeap.get_set_same g1 _⟩, ?_, ?_, rfl⟩ (by omega)
    · rw [AHeap.get_set_other _ (by omega) p1]; exact gK
    · exact cK.trans (Chg.set K p1 _) (fun x hx => .inl (by simp at hx; subst hx; exact mem_blkL.2 rfl))
  · have his2 := aK.bs.sl.is
    have hlen2 := aK.bs.sl.len
    rw [List.length_map, hl'] at hlen2
    simp (disch := (first | assumption | omega | (simp only [List.length_cons, List.length_nil] <;> omega) | (simp only [alloc_n, set_n] <;> omega) | (simp (disch := (first | assumption | omega | (simp only [alloc_n, set_n] <;> omega))) only [row_alloc, row_set]; assumption))) only [W_block, ANs, A3s, AOp.map, ↓reduceIte, Nat.reduceAdd, Nat.reduceEqDiff, reduceCtorEq, initFr, Nat.reduceLT, clsA, List.take, List.drop, Nat.reduceLeDiff, Nat.reduceMul, Nat.reduceSub, reduceIte, ANc, A3c, gK, cLiG vb ym, hlen2]
    refine hex _ _ _ ?_
    have kE : Keeps B0 K := kB8.chg_trans cK (fun x hx => (lvb x hx).1)
    simp (disch := (first | assumption | omega | (simp only [List.length_cons, List.length_nil] <;> omega) | (simp only [alloc_n, set_n] <;> omega) | (simp (disch := (first | assumption | omega | (simp only [alloc_n, set_n] <;> omega))) only [row_alloc, row_set]; assumption))) only [W_block, ANs, A3s, AOp.map, ↓reduceIte, Nat.reduceAdd, Nat.reduceEqDiff, reduceCtorEq, initFr, Nat.reduceLT, clsA, List.take, List.drop, Nat.reduceLeDiff, Nat.reduceMul, Nat.reduceSub, reduceIte, ANc, A3c]
    refine callP (t27 b6 bo bs bl bm K) ?_
    simp (disch := (first | assumption | omega | (simp only [List.length_cons, List.length_nil] <;> omega) | (simp only [alloc_n, set_n] <;> omega) | (simp (disch := (first | assumption | omega | (simp only [alloc_n, set_n] <;> omega))) only [row_alloc, row_set]; assumption))) only [W_block, ANs, A3s, AOp.map, ↓reduceIte, Nat.reduceAdd, Nat.reduceEqDiff, reduceCtorEq, initFr, Nat.reduceLT, clsA, List.take, List.drop, Nat.reduceLeDiff, Nat.reduceMul, Nat.reduceSub, reduceIte, ANc, A3c]
    refine callP (t28 (hown.keeps kE) (by omega)) ?_
    simp (disch := (first | assumption | omega | (simp only [List.length_cons, List.length_nil] <;> omega) | (simp only [alloc_n, set_n] <;> omega) | (simp (disch := (first | assumption | omega | (simp only [alloc_n, set_n] <;> omega))) only [row_alloc, row_set]; assumption))) only [W_block, ANs, A3s, AOp.map, ↓reduceIte, Nat.reduceAdd, Nat.reduceEqDiff, reduceCtorEq, initFr, Nat.reduceLT, clsA, List.take, List.drop, Nat.reduceLeDiff, Nat.reduceMul, Nat.reduceSub, reduceIte, ANc, A3c]
    refine callP (t29 (hbB.keeps kE) (by omega)) ?_
    simp (disch := (first | assumption | omega | (simp only [List.length_cons, List.length_nil] <;> omega) | (simp only [alloc_n, set_n] <;> omega) | (simp (disch := (first | assumption | omega | (simp only [alloc_n, set_n] <;> omega))) only [row_alloc, row_set]; assumption))) only [W_block, ANs, A3s, AOp.map, ↓reduceIte, Nat.reduceAdd, Nat.reduceEqDiff, reduceCtorEq, initFr, Nat.reduceLT, clsA, List.take, List.drop, Nat.reduceLeDiff, Nat.reduceMul, Nat.reduceSub, reduceIte, ANc, A3c, a_b2sB (hown.keeps kE).bs, a_b2sB (hbB.keeps kE).bs]
    refine callP (t11 K) ?_
    simp (disch := (first | assumption | omega | (simp only [List.length_cons, List.length_nil] <;> omega) | (simp only [alloc_n, set_n] <;> omega) | (simp (disch := (first | assumption | omega | (simp only [alloc_n, set_n] <;> omega))) only [row_alloc, row_set]; assumption))) only [W_block, ANs, A3s, AOp.map, ↓reduceIte, Nat.reduceAdd, Nat.reduceEqDiff, reduceCtorEq, initFr, Nat.reduceLT, clsA, List.take, List.drop, Nat.reduceLeDiff, Nat.reduceMul, Nat.reduceSub, reduceIte, ANc, A3c]
    exact hq2 _ _ ⟨_, rfl, rfl⟩
theorem AVbq {H : AHeap} {v : Value} (h : AV Go.Proofs.Try.prog H.get 22 v) : ∃ l, BQ H v l := by
  have h1 := h.one (by kernel_rfl)
  have h2 := h.1
  rw [h1] at h2
  exact h2.bq Go.Proofs.Try.underlying22 Go.Proofs.Try.underlying5 (by kernel_rfl)
theorem lawGets : ∀ H args, NoOwn H → AVs Go.Proofs.Try.prog H.get [22] args → ∃ H', ARun Go.Proofs.Try.prog 0 3 args H (.bool true) H' := by
  intro H args _ h
  match args, h with
  | [v0], ⟨h0, _⟩ =>
    obtain ⟨b, hb⟩ := AVbq h0
    obtain ⟨w, H', a, rfl⟩ := t3 hb
    exact ⟨H', a⟩
end Go.AM.Fd
