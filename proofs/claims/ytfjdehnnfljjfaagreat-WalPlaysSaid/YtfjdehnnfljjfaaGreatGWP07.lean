/- Part of the proof. -/
import Derived.Test.YtfjdehnnfljjfaaGreatGWP06
set_option linter.unusedSimpArgs false
set_option linter.unusedVariables false
set_option linter.unusedSimpArgs false
set_option linter.unusedVariables false
namespace Go.AM.Fd
open Nat (reduceAdd reduceEqDiff reduceLT reduceLeDiff reduceMul reduceSub)
open Go.Proofs Go.AM.F
def rsW (i : Nat) : List (List UInt8) := (List.range i).map fun j => [UInt8.ofNat j]
set_option maxRecDepth 20000 in
theorem t10 (K : AHeap) : ∃ w K', ARun Go.Proofs.Tryz.prog 0 10 [] K w K' ∧ w = .bool true := by
  refine walk2 f10_ok f10_n ?_
  intro Q hq1 hq2
  simp (disch := first | assumption | omega | (simp only [LN] <;> omega) | (simp (disch := first | assumption | omega | (simp only [LN] <;> omega)) only [row_alloc, row_set]; assumption)) only [f10, W_block, P3, ↓reduceIte, reduceAdd, reduceEqDiff, reduceCtorEq, initFr, reduceLT, clsA, reduceLeDiff, reduceMul, reduceSub, reduceIte]
  refine callK (t11 K 5) ?_
  rintro _ K1 ⟨k1, b, sb, rfl, hd, hfd⟩
  simp (disch := first | assumption | omega | (simp only [LN] <;> omega) | (simp (disch := first | assumption | omega | (simp only [LN] <;> omega)) only [row_alloc, row_set]; assumption)) only [W_block, P3, ↓reduceIte, reduceAdd, reduceEqDiff, reduceCtorEq, initFr, reduceLT, clsA, reduceLeDiff, reduceMul, reduceSub, reduceIte]
  refine callK (t13 hd (by show 0 < 999999; omega) (by show 0 < 999999; omega)) ?_
  rintro _ K2 ho
  have e5 := open5
  generalize padB (headB 1 1) = x0 at *
  unfold OpenR at ho
  rw [e5] at ho
  obtain ⟨lb, v', ab', rv, items, rfl, hlb, hL, u⟩ := ho
  have d0 : (((3 : Nat) : Int) != 3) = false := rfl
  have hD1 : Free (D1W x0) ∧ (D1W x0).bl.length = 5 ∧ (D1W x0).st ≤ 2 ∧ (D1W x0).op = [] := ⟨⟨rfl, rfl⟩, rfl, by show 2 ≤ 2; omega, rfl⟩
  generalize D1W x0 = D at *
  obtain ⟨hf, h5, hst, hop⟩ := hD1
  simp (disch := first | assumption | omega | (simp only [LN] <;> omega) | (simp (disch := first | assumption | omega | (simp only [LN] <;> omega)) only [row_alloc, row_set]; assumption)) only [W_block, P3, ↓reduceIte, reduceAdd, reduceEqDiff, reduceCtorEq, initFr, reduceLT, clsA, reduceLeDiff, reduceMul, reduceSub, reduceIte]
  refine callK (t29 hL) ?_
  rintro _ X ⟨rfl, hX⟩
  have h53 : D.bl.length - 2 = 3 := by omega
  rw [hX, h53]
  simp (disch := first | assumption | omega | (simp only [LN] <;> omega) | (simp (disch := first | assumption | omega | (simp only [LN] <;> omega)) only [row_alloc, row_set]; assumption)) only [ P3, ↓reduceIte, reduceAdd, reduceEqDiff, reduceCtorEq, initFr, reduceLT, clsA, reduceLeDiff, reduceMul, reduceSub, reduceIte, d0]
  rw [W_block]
  refine W_loop2 (fun q fr K => ∃ i D v ab rv items y10 y11, fr = [.bool false, ptr lb 0, .int .i64 0, .int .i64 ((i : Nat) : Int), undef, undef, undef, undef, undef, .bool false, y10, y11] ∧ LgR K lb b sb v ab rv items D ⟨1, 1, rsW i, 0⟩ ∧ Free D ∧ D.bl.length = 5 ∧ D.st ≤ 2 + 2 * i ∧ D.op = [] ∧ i ≤ 3 ∧ q = 3 - i) 3 ⟨0, D, v', ab', rv, items, _, _, rfl, hL, hf, h5, by omega, hop, by omega, rfl⟩ ?_
  clear hL hf h5 hst hop h53
  rintro Q2 q fr K3 ⟨i, D, v, ab, rv, items, y10, y11, rfl, hL, hf, h5, hst, hop, hi, rfl⟩ hnx hx hret
  have lrs : (rsW i).length = i := by simp [rsW]
  by_cases hlt : i < 3
  · have d1 : (i : Int) < 3 := by omega
    have hw : IntKind.i64.wrap ((i : Int) + 1) = ((i + 1 : Nat) : Int) := by rw [wrap_i64 (by omega) (by omega)]; simp
    have hu : IntKind.u8.wrap (i : Int) = (i : Nat) := by rw [wrap_u8]; omega
    obtain ⟨a1, a2, a3, a4, a5⟩ := app_free (L := ⟨1, 1, rsW i, 0⟩) hf (by omega) rfl (by show (rsW i).length < _; omega) (l := [UInt8.ofNat i]) (by simp)
    have hrs : rsW (i + 1) = rsW i ++ [[UInt8.ofNat i]] := by simp [rsW, List.range_succ]
    have hfb : ∀ c : Int, fillA [.int .u8 0] [(0, 1, .int .u8 c)] = some [.int .u8 c] := fun c => rfl
    have hcell : cellsOf [UInt8.ofNat i] = [.int .u8 ((i : Nat) : Int)] := by
      have : i % 256 = i := by omega
      simp [cellsOf, this]
    simp (disch := first | assumption | omega | (simp only [LN] <;> omega) | (simp (disch := first | assumption | omega | (simp only [LN] <;> omega)) only [row_alloc, row_set]; assumption)) only [W_block, P3, ↓reduceIte, reduceAdd, reduceEqDiff, reduceCtorEq, initFr, reduceLT, clsA, reduceLeDiff, reduceMul, reduceSub, reduceIte, hu, hfb]
    have ka := (Keeps.refl K3).alloc (.cells true false 1 [.int .u8 ((i : Nat) : Int)] 5)
    have hb : BS (K3.alloc (.cells true false 1 [.int .u8 ((i : Nat) : Int)] 5)) (slc K3.n 0 1 1) [UInt8.ofNat i] := ⟨⟨_, _, rfl⟩, by rw [hcell]; exact elems_new (n := 1) rfl rfl⟩
    refine callK (t31 (hL.keeps ka) (by omega) (by rw [hop]; simp) hb (by simp)) ?_
    rintro _ K5 ⟨rfl, v2, ab2, rv2, it2, h2, u2⟩
    rw [a1] at h2
    rw [a1, ← hrs] at *
    have dn : ((0 : Int) != 0) = false := rfl
    simp (disch := first | assumption | omega | (simp only [LN] <;> omega) | (simp (disch := first | assumption | omega | (simp only [LN] <;> omega)) only [row_alloc, row_set]; assumption)) only [W_block, P3, ↓reduceIte, reduceAdd, reduceEqDiff, reduceCtorEq, initFr, reduceLT, clsA, reduceLeDiff, reduceMul, reduceSub, reduceIte, dn]
    rw [hw]
    exact hnx _ _ _ ⟨i + 1, _, _, _, _, _, _, _, rfl, h2, a2, by rw [a3]; exact h5, by rw [a4]; omega, a5, by omega, rfl⟩ (by omega)
  · have d1 : ¬ (i : Int) < 3 := by omega
    have e3 : i = 3 := by omega
    subst e3
    simp (disch := first | assumption | omega | (simp only [LN] <;> omega) | (simp (disch := first | assumption | omega | (simp only [LN] <;> omega)) only [row_alloc, row_set]; assumption)) only [W_block, P3, ↓reduceIte, reduceAdd, reduceEqDiff, reduceCtorEq, initFr, reduceLT, clsA, reduceLeDiff, reduceMul, reduceSub, reduceIte]
    refine hx 0 _ _ (show W Go.Proofs.Tryz.prog 0 _ Q _ _ from ?_)
    simp (disch := first | assumption | omega | (simp only [LN] <;> omega) | (simp (disch := first | assumption | omega | (simp only [LN] <;> omega)) only [row_alloc, row_set]; assumption)) only [W_block, P3, ↓reduceIte, reduceAdd, reduceEqDiff, reduceCtorEq, initFr, reduceLT, clsA, reduceLeDiff, reduceMul, reduceSub, reduceIte]
    have ea : appW D ⟨1, 1, rsW 3, 0⟩ [] = (D, ⟨1, 1, rsW 3, 0⟩, 150) := by
      unfold appW
      rw [if_neg (by simp), if_neg (by simp), if_pos (by show _ ≤ (rsW 3).length; omega)]
    refine callK (t31 hL (by omega) (by rw [hop]; simp) (BS.nil K3) (by simp)) ?_
    rintro _ K5 ⟨rfl, v2, ab2, rv2, it2, h2, u2⟩
    rw [ea] at h2 ⊢
    simp (disch := first | assumption | omega | (simp only [LN] <;> omega) | (simp (disch := first | assumption | omega | (simp only [LN] <;> omega)) only [row_alloc, row_set]; assumption)) only [W_block, P3, ↓reduceIte, reduceAdd, reduceEqDiff, reduceCtorEq, initFr, reduceLT, clsA, reduceLeDiff, reduceMul, reduceSub, reduceIte]
    obtain ⟨b1, b2, b3, b4, b5⟩ := trunc_free (L := ⟨1, 1, rsW 3, 0⟩) hf (by omega) rfl (k := 3) (by show 1 ≤ 3; omega) (by show 3 ≤ 1 + (rsW 3).length; omega)
    refine callK (t32 h2 (by simp only; omega) (by simp only [hop]; simp) (by show 1 < _; omega) (by show 1 + (rsW 3).length ≤ _; omega) ((3 : Nat) : Int)) ?_
    rintro _ K6 ⟨rfl, v3, ab3, rv3, it3, h3, u3⟩
    have hr3 : (rsW 3).drop (3 - 1) = [[2]] := rfl
    simp only [hr3] at b1
    rw [b1] at h3 ⊢
    generalize (truncW D ⟨1, 1, rsW 3, 0⟩ ((3 : Nat) : Int)).1 = D2 at *
    have hfb : fillA [.int .u8 0] [(0, 1, .int .u8 100)] = some [.int .u8 100] := rfl
    simp (disch := first | assumption | omega | (simp only [LN] <;> omega) | (simp (disch := first | assumption | omega | (simp only [LN] <;> omega)) only [row_alloc, row_set]; assumption)) only [W_block, P3, ↓reduceIte, reduceAdd, reduceEqDiff, reduceCtorEq, initFr, reduceLT, clsA, reduceLeDiff, reduceMul, reduceSub, reduceIte, hfb]
    obtain ⟨K7, hK7⟩ : ∃ Y, Y = K6.alloc (.cells true false 1 [.int .u8 100] 5) := ⟨_, rfl⟩
    have ka : Keeps K6 K7 := by rw [hK7]; exact (Keeps.refl K6).alloc _
    have g7 : K7.get K6.n = some (.cells true false 1 [.int .u8 100] 5) := by rw [hK7]; exact AHeap.get_alloc_new K6 _
    rw [← hK7]
    have hmk : asem (.mark (slc K6.n 0 1 1)) K7 = some (slc K6.n 0 1 1, K7) := by
      simp only [asem, slc, g7]
    have hb8 : BS K7 (slc K6.n 0 1 1) [100] := ⟨⟨_, _, rfl⟩, by simp only [elemsA, slc, g7]; rfl⟩
    obtain ⟨c1, c2, c3, c4, c5⟩ := app_free (L := ⟨2, 3, [[2]], 0⟩) b2 (by omega) rfl (by show 1 < _; omega) (l := [100]) (by simp)
    simp (disch := first | assumption | omega | (simp only [LN] <;> omega) | (simp (disch := first | assumption | omega | (simp only [LN] <;> omega)) only [row_alloc, row_set]; assumption)) only [W_block, P3, ↓reduceIte, reduceAdd, reduceEqDiff, reduceCtorEq, initFr, reduceLT, clsA, reduceLeDiff, reduceMul, reduceSub, reduceIte, hmk]
    refine callK (t31 (h3.keeps ka) (by omega) (by rw [b5]; simp) hb8 (by simp)) ?_
    rintro _ K9 ⟨rfl, v4, ab4, rv4, it4, h4, u4⟩
    rw [c1] at h4 ⊢
    have hL2 : LgR K9 lb b sb v4 ab4 rv4 it4 (appW D2 ⟨2, 3, [[2]], 0⟩ [100]).1 ⟨2, 3, [[2], [100]], 0⟩ := h4
    simp (disch := first | assumption | omega | (simp only [LN] <;> omega) | (simp (disch := first | assumption | omega | (simp only [LN] <;> omega)) only [row_alloc, row_set]; assumption)) only [W_block, P3, ↓reduceIte, reduceAdd, reduceEqDiff, reduceCtorEq, initFr, reduceLT, clsA, reduceLeDiff, reduceMul, reduceSub, reduceIte]
    refine callK (t26 hL2 ((4 : Nat) : Int) (by omega) (by omega)) ?_
    rintro _ K10 ⟨k10, y, rfl, ap, fy⟩
    have hin : ((3 : Nat) : Int) ≤ ((4 : Nat) : Int) ∧ ((4 : Nat) : Int) < (((⟨2, 3, [[2], [100]], 0⟩ : Lg).next : Nat) : Int) := by
      show ((3 : Nat) : Int) ≤ ((4 : Nat) : Int) ∧ ((4 : Nat) : Int) < ((5 : Nat) : Int)
      omega
    have hin2 : (((⟨2, 3, [[2], [100]], 0⟩ : Lg).first : Nat) : Int) ≤ ((4 : Nat) : Int) ∧ ((4 : Nat) : Int) < (((⟨2, 3, [[2], [100]], 0⟩ : Lg).next : Nat) : Int) := hin
    rw [if_pos hin2] at ap
    rw [decide_eq_true hin2]
    have hap : AP K10 5 1 y ([100] : List UInt8).length (cellsOf [100]) := ap
    have hL3 := hL2.keeps k10
    have e2 : asem (.b2s y) K10 = some (.string ⟨#[100]⟩, K10) := a_b2sB hap.bs
    simp (disch := first | assumption | omega | (simp only [LN] <;> omega) | (simp (disch := first | assumption | omega | (simp only [LN] <;> omega)) only [row_alloc, row_set]; assumption)) only [W_block, P3, ↓reduceIte, reduceAdd, reduceEqDiff, reduceCtorEq, initFr, reduceLT, clsA, reduceLeDiff, reduceMul, reduceSub, reduceIte]
    refine callK (t27 hL3) ?_
    rintro _ X ⟨rfl, hX⟩
    rw [hX]
    simp (disch := first | assumption | omega | (simp only [LN] <;> omega) | (simp (disch := first | assumption | omega | (simp only [LN] <;> omega)) only [row_alloc, row_set]; assumption)) only [W_block, P3, ↓reduceIte, reduceAdd, reduceEqDiff, reduceCtorEq, initFr, reduceLT, clsA, reduceLeDiff, reduceMul, reduceSub, reduceIte]
    refine callK (t28 hL3) ?_
    rintro _ X ⟨rfl, hX⟩
    have hn5 : (⟨2, 3, [[2], [100]], 0⟩ : Lg).next = 5 := rfl
    rw [hX, hn5]
    simp (disch := first | assumption | omega | (simp only [LN] <;> omega) | (simp (disch := first | assumption | omega | (simp only [LN] <;> omega)) only [row_alloc, row_set]; assumption)) only [W_block, P3, ↓reduceIte, reduceAdd, reduceEqDiff, reduceCtorEq, initFr, reduceLT, clsA, reduceLeDiff, reduceMul, reduceSub, reduceIte, e2]
    exact hq2 _ _ ⟨_, rfl, rfl⟩
theorem lawWPlays : ∀ H args, NoOwn H → AVs Go.Proofs.Tryz.prog H.get [3, 22] args → ∃ H', ARun Go.Proofs.Tryz.prog 0 3 args H (.bool true) H' := by
  intro H args _ h
  match args, h with
  | [e, v], ⟨h1, h2, _⟩ =>
    obtain ⟨n, rfl, _⟩ := h1.int_inv (k := .i64) (by kernel_rfl)
    obtain ⟨l, hc⟩ := av_calls h2
    obtain ⟨_, K, r, rfl⟩ := t3 hc n (fun K => t10 K)
    exact ⟨K, r⟩
end Go.AM.Fd
