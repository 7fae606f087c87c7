/- Part of the proof. -/
import Derived.Test.YtijnnihkbebkkaaDoorGKnown03
set_option linter.unusedSimpArgs false
set_option linter.unusedVariables false
set_option linter.unusedSimpArgs false
set_option linter.unusedVariables false
namespace Go.AM.Fd
open Nat (reduceAdd reduceEqDiff reduceLT reduceLeDiff reduceMul reduceSub)
open Go.Proofs Go.AM.F
theorem c3 (H : AHeap) (r : Int) : ∃ w K, ARun Go.Proofs.Tryd.prog 3 3 [.int .i32 r] H w K ∧ w = .bool true := by
  refine walk2 f3_ok f3_n ?_
  intro Q hq1 hq2
  simp (disch := first | assumption | omega | (simp only [LN] <;> omega) | (simp (disch := first | assumption | omega | (simp only [LN] <;> omega)) only [row_alloc, row_set]; assumption)) only [f3, W_block, P3, ↓reduceIte, reduceAdd, reduceEqDiff, reduceCtorEq, initFr, reduceLT, clsA, reduceLeDiff, reduceMul, reduceSub, reduceIte]
  refine callK (t10 H r) ?_
  rintro _ K ⟨rfl, rfl⟩
  simp (disch := first | assumption | omega | (simp only [LN] <;> omega) | (simp (disch := first | assumption | omega | (simp only [LN] <;> omega)) only [row_alloc, row_set]; assumption)) only [W_block, P3, ↓reduceIte, reduceAdd, reduceEqDiff, reduceCtorEq, initFr, reduceLT, clsA, reduceLeDiff, reduceMul, reduceSub, reduceIte]
  refine callK (t11 K r) ?_
  rintro _ K ⟨rfl, rfl⟩
  have he : (sgn r == sgn r) = true := by simp
  simp (disch := first | assumption | omega | (simp only [LN] <;> omega) | (simp (disch := first | assumption | omega | (simp only [LN] <;> omega)) only [row_alloc, row_set]; assumption)) only [W_block, P3, ↓reduceIte, reduceAdd, reduceEqDiff, reduceCtorEq, initFr, reduceLT, clsA, reduceLeDiff, reduceMul, reduceSub, reduceIte, he]
  refine callK (t12 K) ?_
  rintro _ K ⟨rfl, rfl⟩
  simp (disch := first | assumption | omega | (simp only [LN] <;> omega) | (simp (disch := first | assumption | omega | (simp only [LN] <;> omega)) only [row_alloc, row_set]; assumption)) only [W_block, P3, ↓reduceIte, reduceAdd, reduceEqDiff, reduceCtorEq, initFr, reduceLT, clsA, reduceLeDiff, reduceMul, reduceSub, reduceIte]
  exact hq2 _ _ ⟨_, rfl, rfl⟩
theorem c4 (H : AHeap) (l : List UInt8) : ∃ w K, ARun Go.Proofs.Tryd.prog 3 4 [.string ⟨l.toArray⟩] H w K ∧ w = .bool true := by
  refine walk2 f4_ok f4_n ?_
  intro Q hq1 hq2
  by_cases hl : 500 < l.length
  · have h1 : (500 : Int) < ((l.length : Nat) : Int) := by omega
    simp (disch := first | assumption | omega | (simp only [LN] <;> omega) | (simp (disch := first | assumption | omega | (simp only [LN] <;> omega)) only [row_alloc, row_set]; assumption)) only [f4, W_block, P3, ↓reduceIte, reduceAdd, reduceEqDiff, reduceCtorEq, initFr, reduceLT, clsA, reduceLeDiff, reduceMul, reduceSub, reduceIte]
    refine callK (t12 H) ?_
    rintro _ K ⟨rfl, rfl⟩
    simp (disch := first | assumption | omega | (simp only [LN] <;> omega) | (simp (disch := first | assumption | omega | (simp only [LN] <;> omega)) only [row_alloc, row_set]; assumption)) only [W_block, P3, ↓reduceIte, reduceAdd, reduceEqDiff, reduceCtorEq, initFr, reduceLT, clsA, reduceLeDiff, reduceMul, reduceSub, reduceIte]
    exact hq2 _ _ ⟨_, rfl, rfl⟩
  · have h1 : ¬ (500 : Int) < ((l.length : Nat) : Int) := by omega
    simp (disch := first | assumption | omega | (simp only [LN] <;> omega) | (simp (disch := first | assumption | omega | (simp only [LN] <;> omega)) only [row_alloc, row_set]; assumption)) only [f4, W_block, P3, ↓reduceIte, reduceAdd, reduceEqDiff, reduceCtorEq, initFr, reduceLT, clsA, reduceLeDiff, reduceMul, reduceSub, reduceIte]
    refine callK (t13 H l (by omega)) ?_
    rintro _ K ⟨rfl, rfl⟩
    simp (disch := first | assumption | omega | (simp only [LN] <;> omega) | (simp (disch := first | assumption | omega | (simp only [LN] <;> omega)) only [row_alloc, row_set]; assumption)) only [W_block, P3, ↓reduceIte, reduceAdd, reduceEqDiff, reduceCtorEq, initFr, reduceLT, clsA, reduceLeDiff, reduceMul, reduceSub, reduceIte]
    refine callK (t14 K l (by omega)) ?_
    rintro _ K ⟨rfl, rfl⟩
    have he : (rightB l == rightB l) = true := by simp
    simp (disch := first | assumption | omega | (simp only [LN] <;> omega) | (simp (disch := first | assumption | omega | (simp only [LN] <;> omega)) only [row_alloc, row_set]; assumption)) only [W_block, P3, ↓reduceIte, reduceAdd, reduceEqDiff, reduceCtorEq, initFr, reduceLT, clsA, reduceLeDiff, reduceMul, reduceSub, reduceIte, he]
    refine callK (t12 K) ?_
    rintro _ K ⟨rfl, rfl⟩
    simp (disch := first | assumption | omega | (simp only [LN] <;> omega) | (simp (disch := first | assumption | omega | (simp only [LN] <;> omega)) only [row_alloc, row_set]; assumption)) only [W_block, P3, ↓reduceIte, reduceAdd, reduceEqDiff, reduceCtorEq, initFr, reduceLT, clsA, reduceLeDiff, reduceMul, reduceSub, reduceIte]
    exact hq2 _ _ ⟨_, rfl, rfl⟩
theorem c5 (H : AHeap) (l : List UInt8) : ∃ w K, ARun Go.Proofs.Tryd.prog 3 5 [.string ⟨l.toArray⟩] H w K ∧ w = .bool true := by
  refine walk2 f5_ok f5_n ?_
  intro Q hq1 hq2
  by_cases hl : 2000 < l.length
  · have h1 : (2000 : Int) < ((l.length : Nat) : Int) := by omega
    simp (disch := first | assumption | omega | (simp only [LN] <;> omega) | (simp (disch := first | assumption | omega | (simp only [LN] <;> omega)) only [row_alloc, row_set]; assumption)) only [f5, W_block, P3, ↓reduceIte, reduceAdd, reduceEqDiff, reduceCtorEq, initFr, reduceLT, clsA, reduceLeDiff, reduceMul, reduceSub, reduceIte]
    refine callK (t12 H) ?_
    rintro _ K ⟨rfl, rfl⟩
    simp (disch := first | assumption | omega | (simp only [LN] <;> omega) | (simp (disch := first | assumption | omega | (simp only [LN] <;> omega)) only [row_alloc, row_set]; assumption)) only [W_block, P3, ↓reduceIte, reduceAdd, reduceEqDiff, reduceCtorEq, initFr, reduceLT, clsA, reduceLeDiff, reduceMul, reduceSub, reduceIte]
    exact hq2 _ _ ⟨_, rfl, rfl⟩
  · have h1 : ¬ (2000 : Int) < ((l.length : Nat) : Int) := by omega
    have hwl := wordsB_len (aheadB l)
    have hal := ahead_len l
    simp (disch := first | assumption | omega | (simp only [LN] <;> omega) | (simp (disch := first | assumption | omega | (simp only [LN] <;> omega)) only [row_alloc, row_set]; assumption)) only [f5, W_block, P3, ↓reduceIte, reduceAdd, reduceEqDiff, reduceCtorEq, initFr, reduceLT, clsA, reduceLeDiff, reduceMul, reduceSub, reduceIte]
    refine callK (t15 H l (by omega)) ?_
    rintro w1 K1 ⟨k1, hw1⟩
    cases hok : okW (aheadB l) with
    | true =>
      rw [hok] at hw1
      simp only [if_true] at hw1
      obtain ⟨v1, rfl, a1, _⟩ := hw1
      simp (disch := first | assumption | omega | (simp only [LN] <;> omega) | (simp (disch := first | assumption | omega | (simp only [LN] <;> omega)) only [row_alloc, row_set]; assumption)) only [W_block, P3, ↓reduceIte, reduceAdd, reduceEqDiff, reduceCtorEq, initFr, reduceLT, clsA, reduceLeDiff, reduceMul, reduceSub, reduceIte]
      refine callK (t16 K1 l (by omega)) ?_
      rintro w2 K2 ⟨k2, hw2⟩
      rw [hok] at hw2
      simp only [if_true] at hw2
      obtain ⟨v2, rfl, a2, _⟩ := hw2
      simp (disch := first | assumption | omega | (simp only [LN] <;> omega) | (simp (disch := first | assumption | omega | (simp only [LN] <;> omega)) only [row_alloc, row_set]; assumption)) only [W_block, P3, ↓reduceIte, reduceAdd, reduceEqDiff, reduceCtorEq, initFr, reduceLT, clsA, reduceLeDiff, reduceMul, reduceSub, reduceIte]
      refine callK (t17 (AP.tl (a1.keeps k2)) (AP.tl a2) (by omega)) ?_
      rintro _ K3 ⟨rfl, rfl⟩
      have he : decide (wordsB (aheadB l) = wordsB (aheadB l)) = true := by simp
      simp (disch := first | assumption | omega | (simp only [LN] <;> omega) | (simp (disch := first | assumption | omega | (simp only [LN] <;> omega)) only [row_alloc, row_set]; assumption)) only [W_block, P3, ↓reduceIte, reduceAdd, reduceEqDiff, reduceCtorEq, initFr, reduceLT, clsA, reduceLeDiff, reduceMul, reduceSub, reduceIte, he]
      refine callK (t12 _) ?_
      rintro _ K ⟨rfl, rfl⟩
      simp (disch := first | assumption | omega | (simp only [LN] <;> omega) | (simp (disch := first | assumption | omega | (simp only [LN] <;> omega)) only [row_alloc, row_set]; assumption)) only [W_block, P3, ↓reduceIte, reduceAdd, reduceEqDiff, reduceCtorEq, initFr, reduceLT, clsA, reduceLeDiff, reduceMul, reduceSub, reduceIte]
      exact hq2 _ _ ⟨_, rfl, rfl⟩
    | false =>
      rw [hok] at hw1
      simp only [Bool.false_eq_true, if_false] at hw1
      subst hw1
      simp (disch := first | assumption | omega | (simp only [LN] <;> omega) | (simp (disch := first | assumption | omega | (simp only [LN] <;> omega)) only [row_alloc, row_set]; assumption)) only [W_block, P3, ↓reduceIte, reduceAdd, reduceEqDiff, reduceCtorEq, initFr, reduceLT, clsA, reduceLeDiff, reduceMul, reduceSub, reduceIte]
      refine callK (t16 K1 l (by omega)) ?_
      rintro w2 K2 ⟨k2, hw2⟩
      rw [hok] at hw2
      simp only [Bool.false_eq_true, if_false] at hw2
      subst hw2
      simp (disch := first | assumption | omega | (simp only [LN] <;> omega) | (simp (disch := first | assumption | omega | (simp only [LN] <;> omega)) only [row_alloc, row_set]; assumption)) only [W_block, P3, ↓reduceIte, reduceAdd, reduceEqDiff, reduceCtorEq, initFr, reduceLT, clsA, reduceLeDiff, reduceMul, reduceSub, reduceIte]
      refine callK (t17 (TL.nil K2) (TL.nil K2) (by simp)) ?_
      rintro _ K3 ⟨rfl, rfl⟩
      have he : decide (([] : List (List UInt8)) = []) = true := by simp
      simp (disch := first | assumption | omega | (simp only [LN] <;> omega) | (simp (disch := first | assumption | omega | (simp only [LN] <;> omega)) only [row_alloc, row_set]; assumption)) only [W_block, P3, ↓reduceIte, reduceAdd, reduceEqDiff, reduceCtorEq, initFr, reduceLT, clsA, reduceLeDiff, reduceMul, reduceSub, reduceIte, he]
      refine callK (t12 _) ?_
      rintro _ K ⟨rfl, rfl⟩
      simp (disch := first | assumption | omega | (simp only [LN] <;> omega) | (simp (disch := first | assumption | omega | (simp only [LN] <;> omega)) only [row_alloc, row_set]; assumption)) only [W_block, P3, ↓reduceIte, reduceAdd, reduceEqDiff, reduceCtorEq, initFr, reduceLT, clsA, reduceLeDiff, reduceMul, reduceSub, reduceIte]
      exact hq2 _ _ ⟨_, rfl, rfl⟩
end Go.AM.Fd

set_option linter.unusedSimpArgs false
set_option linter.unusedVariables false
namespace Go.AM.Fd
open Nat (reduceAdd reduceEqDiff reduceLT reduceLeDiff reduceMul reduceSub)
open Go.Proofs Go.AM.F
noncomputable def cntF : Func := (Go.Proofs.Tryd.prog.funcs[44]?).getD default
theorem cnt_f : Go.Proofs.Tryd.prog.funcs[44]? = some cntF := by kernel_rfl
theorem cnt_n : (cntF.name == "runtime.NumGoroutine") = false := by kernel_rfl
theorem cnt_b : cntF.body.isNone = true := by kernel_rfl
theorem cnt_x : Extern.findNext cntF = none := by kernel_rfl
theorem cnt_e : Extern.find cntF = some Extern.BytealgCount.count := by kernel_rfl
theorem t44 (H : AHeap) (l : List UInt8) (c : Nat) : ∃ w H', ARun Go.Proofs.Tryd.prog 3 44 [.string ⟨l.toArray⟩, .int .u8 (c : Int)] H w H' ∧ w = .int .i64 ((cB (UInt8.ofNat c) l : Nat) : Int) ∧ H' = H := by
  refine ⟨_, _, arun_ext cnt_f cnt_n cnt_b cnt_x cnt_e (fun σ => .int .i64 ((cB (UInt8.ofNat c) l : Nat) : Int)) ?_, rfl, rfl⟩
  intro σ w args' hv
  cases hv with
  | cons a hv =>
    cases hv with
    | cons b hv =>
      cases hv
      cases a
      cases b
      exact run_count_string (P := Go.Proofs.Tryd.prog) l (c : Int) w
theorem t37 (H : AHeap) (l : List UInt8) (c : UInt8) : ∃ w H', ARun Go.Proofs.Tryd.prog 3 37 [.string ⟨l.toArray⟩, .string ⟨[c].toArray⟩] H w H' ∧ w = .int .i64 ((cB c l : Nat) : Int) ∧ H' = H := by
  refine walk2 f37_ok f37_n ?_
  intro Q hq1 hq2
  have e0 : (((1 : Nat) : Int) == 0) = false := by simp
  have e1 : (((1 : Nat) : Int) == 1) = true := by simp
  have e2 : [c].getD 0 0 = c := rfl
  have hl : 0 < [c].length := by simp
  simp (disch := first | assumption | omega | (simp only [LN] <;> omega) | (simp (disch := first | assumption | omega | (simp only [LN] <;> omega)) only [row_alloc, row_set]; assumption)) only [f37, W_block, P3, ↓reduceIte, reduceAdd, reduceEqDiff, reduceCtorEq, initFr, reduceLT, clsA, reduceLeDiff, reduceMul, reduceSub, reduceIte, a_idxS0, e0, e1, e2]
  refine callK (t44 H l c.toNat) ?_
  rintro _ K ⟨rfl, rfl⟩
  simp (disch := first | assumption | omega | (simp only [LN] <;> omega) | (simp (disch := first | assumption | omega | (simp only [LN] <;> omega)) only [row_alloc, row_set]; assumption)) only [W_block, P3, ↓reduceIte, reduceAdd, reduceEqDiff, reduceCtorEq, initFr, reduceLT, clsA, reduceLeDiff, reduceMul, reduceSub, reduceIte, UInt8.ofNat_toNat]
  exact hq2 _ _ ⟨_, rfl, rfl, rfl⟩
theorem splitB_two {c : UInt8} {l : List UInt8} (h : 2 ≤ (splitB c l).length) : ∃ i, ixB c l = some i := by
  cases hi : ixB c l with
  | some i => exact ⟨i, rfl⟩
  | none => rw [splitB_ix, hi] at h; simp at h
theorem splitB_one {c : UInt8} {l : List UInt8} (h : (splitB c l).length = 1) : splitB c l = [l] := by
  cases hi : ixB c l with
  | none => rw [splitB_ix, hi]
  | some i => rw [splitB_ix, hi] at h; simp at h; exact absurd h (splitB_ne _ _)
theorem rep_flat (n : Nat) (v : Value) : (List.replicate n [v]).flatten = List.replicate n v := by
  induction n with
  | zero => rfl
  | succ n ih => simp [List.replicate_succ, ih]
theorem txs_set {pre : List (List UInt8)} {x : List UInt8} {m : Nat} {v : Value} : (txs pre ++ List.replicate (m + 1) v).set pre.length (.string ⟨x.toArray⟩) = txs (pre ++ [x]) ++ List.replicate m v := by
  rw [List.set_append_right _ _ (by rw [txs_len]; omega), txs_len, Nat.sub_self, List.replicate_succ, List.set_cons_zero]
  simp [txs]
theorem t31 (H : AHeap) (l : List UInt8) (c : UInt8) (hl : l.length ≤ 1000000) : ∃ w K, ARun Go.Proofs.Tryd.prog 3 31 [.string ⟨l.toArray⟩, .string ⟨[c].toArray⟩, .int .i64 0, .int .i64 (-1)] H w K ∧
    Keeps H K ∧ AP K 9 1 w (splitB c l).length (txs (splitB c l)) ∧ Fresh H.n w := by
  refine walk2 f31_ok f31_n ?_
  intro Q hq1 hq2
  have hcn := splitB_cB c l
  have hcl := cB_le c l
  have e9 : decide ([c] = ([] : List UInt8)) = false := by simp
  simp (disch := first | assumption | omega | (simp only [LN] <;> omega) | (simp (disch := first | assumption | omega | (simp only [LN] <;> omega)) only [row_alloc, row_set]; assumption)) only [ f31, P3, ↓reduceIte, reduceAdd, reduceEqDiff, reduceCtorEq, initFr, reduceLT, clsA, reduceLeDiff, reduceMul, reduceSub, reduceIte, str_emp, bytes_eq, e9]
  refine callK (t37 H l c) ?_
  rintro _ K ⟨rfl, rfl⟩
  obtain ⟨n, hn⟩ : ∃ n, (splitB c l).length = n := ⟨_, rfl⟩
  rw [hn] at hcn
  have w1 : IntKind.i64.wrap (((cB c l : Nat) : Int) + 1) = ((n : Nat) : Int) := by rw [wrap_i64 (by omega) (by omega)]; omega
  have w2 : IntKind.i64.wrap (((l.length : Nat) : Int) + 1) = ((l.length + 1 : Nat) : Int) := by rw [wrap_i64 (by omega) (by omega)]; omega
  have w3 : min ((n : Nat) : Int) ((l.length + 1 : Nat) : Int) = ((n : Nat) : Int) := by omega
  have w4 : IntKind.i64.wrap (((n : Nat) : Int) - 1) = ((n - 1 : Nat) : Int) := by rw [wrap_i64 (by omega) (by omega)]; omega
  have hmk : asem (.mksl 9 1 16 [.string ⟨([] : List UInt8).toArray⟩] (.int .i64 ((n : Nat) : Int)) (.int .i64 ((n : Nat) : Int))) K = some (slc K.n 0 n n, K.alloc (.cells true false 1 (List.replicate n (.string ⟨([] : List UInt8).toArray⟩)) 9)) := by
    simp only [asem]
    rw [if_pos ⟨by omega, by omega, by omega, by omega, rfl, rfl⟩, Int.toNat_natCast, rep_flat]
  simp (disch := first | assumption | omega | (simp only [LN] <;> omega) | (simp (disch := first | assumption | omega | (simp only [LN] <;> omega)) only [row_alloc, row_set]; assumption)) only [ P3, ↓reduceIte, reduceAdd, reduceEqDiff, reduceCtorEq, initFr, reduceLT, clsA, reduceLeDiff, reduceMul, reduceSub, reduceIte, str_emp, w1, w2, w3, w4, hmk]
  rw [W_block]
  refine W_loop2 (fun k fr M => ∃ i sc pre x7 x11 x12, fr = [.string ⟨sc.toArray⟩, .string ⟨[c].toArray⟩, .int .i64 0, .int .i64 ((n - 1 : Nat) : Int), .slice none 0 0, slc K.n 0 n n, .int .i64 ((i : Nat) : Int), x7, .bool false, .bool false, .bool true, x11, x12] ∧ Keeps K M ∧
      M.get K.n = some (.cells true false 1 (txs pre ++ List.replicate (n - i) (.string ⟨([] : List UInt8).toArray⟩)) 9) ∧ splitB c l = pre ++ splitB c sc ∧ pre.length = i ∧ i + 1 ≤ n ∧ sc.length ≤ l.length ∧ k = n - i) n
    ⟨0, l, [], _, _, _, rfl, (Keeps.refl K).alloc _, AHeap.get_alloc_new _ _, rfl, rfl, by omega, Nat.le_refl _, rfl⟩ ?_
  rintro Q' k fr M ⟨i, sc, pre, x7, x11, x12, rfl, hk, hget, hsp, hpl, hi, hsl, rfl⟩ hn' hx hret
  have hlen : (splitB c sc).length = n - i := by
    have := congrArg List.length hsp
    rw [hn, List.length_append, hpl] at this
    omega
  have hb := AHeap.get_lt hget
  have w5 : IntKind.i64.wrap (((i : Nat) : Int) + 1) = ((i + 1 : Nat) : Int) := by rw [wrap_i64 (by omega) (by omega)]; omega
  obtain ⟨d, hd⟩ : ∃ d, n - i = d + 1 := ⟨n - i - 1, by omega⟩
  have hll : i < (txs pre ++ List.replicate (n - i) (Value.string ⟨([] : List UInt8).toArray⟩)).length := by rw [List.length_append, txs_len, List.length_replicate]; omega
  have c2 : (0 : Int) ≤ ((i : Nat) : Int) := by omega
  have c3 : ((i : Nat) : Int) < ((n : Nat) : Int) := by omega
  by_cases hlt : i + 1 < n
  · have c1 : ((i : Nat) : Int) < ((n - 1 : Nat) : Int) := by omega
    obtain ⟨m, hm⟩ := splitB_two (c := c) (l := sc) (by omega)
    have hml := ixB_le hm
    have e : ixI c sc = (m : Int) := by unfold ixI; rw [hm]
    have c4 : ¬ ((m : Nat) : Int) < 0 := by omega
    have w6 : IntKind.i64.wrap (((m : Nat) : Int) + 0) = ((m : Nat) : Int) := by rw [wrap_i64 (by omega) (by omega)]; simp
    have w7 : IntKind.i64.wrap (((m : Nat) : Int) + ((1 : Nat) : Int)) = ((m + 1 : Nat) : Int) := by rw [wrap_i64 (by omega) (by omega)]; omega
    have hm1 : m ≤ sc.length := by omega
    have hm2 : m + 1 ≤ sc.length := by omega
    have hsp1 : splitB c sc = sc.take m :: splitB c (sc.drop (m + 1)) := by rw [splitB_ix, hm]
    rw [hsp1] at hsp
    simp (disch := first | assumption | omega | (simp only [LN] <;> omega) | (simp (disch := first | assumption | omega | (simp only [LN] <;> omega)) only [row_alloc, row_set]; assumption)) only [W_block, P3, ↓reduceIte, reduceAdd, reduceEqDiff, reduceCtorEq, initFr, reduceLT, clsA, reduceLeDiff, reduceMul, reduceSub, reduceIte]
    refine callK (t35 M sc c) ?_
    rintro _ K2 ⟨rfl, rfl⟩
    simp (disch := first | assumption | omega | (simp only [LN] <;> omega) | (simp (disch := first | assumption | omega | (simp only [LN] <;> omega)) only [row_alloc, row_set]; assumption)) only [W_block, P3, ↓reduceIte, reduceAdd, reduceEqDiff, reduceCtorEq, initFr, reduceLT, clsA, reduceLeDiff, reduceMul, reduceSub, reduceIte, e, w6, w7, a_slsP, a_slsT, hget, Int.toNat_natCast, Nat.mul_one, Nat.zero_add, w5]
    refine hn' _ _ _ ⟨i + 1, sc.drop (m + 1), pre ++ [sc.take m], _, _, _, rfl, hk.set (Nat.le_refl _) hb _, ?_, by rw [hsp]; simp, by simp [hpl], by omega, by simp; omega, rfl⟩ (by omega)
    rw [AHeap.get_set_same hget, hd, show n - (i + 1) = d by omega]
    subst hpl
    rw [txs_set]
  · have c1 : ¬ ((i : Nat) : Int) < ((n - 1 : Nat) : Int) := by omega
    have hin : i + 1 = n := by omega
    have hd0 : d = 0 := by omega
    subst hd0
    have hsp1 := splitB_one (c := c) (l := sc) (by omega)
    rw [hsp1] at hsp
    have hnew : (txs pre ++ List.replicate (n - i) (Value.string ⟨([] : List UInt8).toArray⟩)).set i (.string ⟨sc.toArray⟩) = txs (splitB c l) := by
      rw [hd, ← hpl, txs_set, hsp]; simp
    have hsl2 : asem (.slsl 1 (slc K.n 0 n n) none (some (.int .i64 ((i + 1 : Nat) : Int))) none) (M.set K.n (.cells true false 1 (txs (splitB c l)) 9)) = some (slc K.n 0 n n, M.set K.n (.cells true false 1 (txs (splitB c l)) 9)) := by
      rw [hin]
      exact a_slsl (AHeap.get_set_same hget _) (m := n) (hh := n) (l := 0) rfl (by simp [bndA]) rfl |>.trans (by simp)
    simp (disch := first | assumption | omega | (simp only [LN] <;> omega) | (simp (disch := first | assumption | omega | (simp only [LN] <;> omega)) only [row_alloc, row_set]; assumption)) only [W_block, P3, ↓reduceIte, reduceAdd, reduceEqDiff, reduceCtorEq, initFr, reduceLT, clsA, reduceLeDiff, reduceMul, reduceSub, reduceIte]
    refine hx 0 _ _ ?_
    simp (disch := first | assumption | omega | (simp only [LN] <;> omega) | (simp (disch := first | assumption | omega | (simp only [LN] <;> omega)) only [row_alloc, row_set]; assumption)) only [W_block, P3, ↓reduceIte, reduceAdd, reduceEqDiff, reduceCtorEq, initFr, reduceLT, clsA, reduceLeDiff, reduceMul, reduceSub, reduceIte, hget, Int.toNat_natCast, Nat.mul_one, Nat.zero_add, hnew, w5, hsl2]
    refine hq2 _ _ ⟨_, rfl, hk.set (Nat.le_refl _) hb _, .inr ⟨K.n, false, ?_, by rw [txs_len, hn]; omega, AHeap.get_set_same hget _⟩, (fun b hb => by have h2 : some K.n = some b := hb; cases h2; exact Nat.le_refl _)⟩
    rw [hn]; rfl
theorem t27 (H : AHeap) (l : List UInt8) (c : UInt8) (hl : l.length ≤ 1000000) : ∃ w K, ARun Go.Proofs.Tryd.prog 3 27 [.string ⟨l.toArray⟩, .string ⟨[c].toArray⟩] H w K ∧ Keeps H K ∧ AP K 9 1 w (splitB c l).length (txs (splitB c l)) ∧ Fresh H.n w := by
  refine walk2 f27_ok f27_n ?_
  intro Q hq1 hq2
  simp (disch := first | assumption | omega | (simp only [LN] <;> omega) | (simp (disch := first | assumption | omega | (simp only [LN] <;> omega)) only [row_alloc, row_set]; assumption)) only [f27, W_block, P3, ↓reduceIte, reduceAdd, reduceEqDiff, reduceCtorEq, initFr, reduceLT, clsA, reduceLeDiff, reduceMul, reduceSub, reduceIte]
  refine callK (t31 H l c hl) ?_
  rintro w K h
  simp (disch := first | assumption | omega | (simp only [LN] <;> omega) | (simp (disch := first | assumption | omega | (simp only [LN] <;> omega)) only [row_alloc, row_set]; assumption)) only [W_block, P3, ↓reduceIte, reduceAdd, reduceEqDiff, reduceCtorEq, initFr, reduceLT, clsA, reduceLeDiff, reduceMul, reduceSub, reduceIte]
  exact hq2 _ _ ⟨_, rfl, h⟩
theorem t20 (H : AHeap) (l : List UInt8) (hl : l.length ≤ 1000000) : ∃ w K, ARun Go.Proofs.Tryd.prog 3 20 [.string ⟨l.toArray⟩] H w K ∧ Keeps H K ∧ AP K 9 1 w (splitB 10 l).length (txs (splitB 10 l)) ∧ Fresh H.n w := by
  refine walk2 f20_ok f20_n ?_
  intro Q hq1 hq2
  simp (disch := first | assumption | omega | (simp only [LN] <;> omega) | (simp (disch := first | assumption | omega | (simp only [LN] <;> omega)) only [row_alloc, row_set]; assumption)) only [f20, W_block, P3, ↓reduceIte, reduceAdd, reduceEqDiff, reduceCtorEq, initFr, reduceLT, clsA, reduceLeDiff, reduceMul, reduceSub, reduceIte]
  refine callK (t27 H l 10 hl) ?_
  rintro w K h
  simp (disch := first | assumption | omega | (simp only [LN] <;> omega) | (simp (disch := first | assumption | omega | (simp only [LN] <;> omega)) only [row_alloc, row_set]; assumption)) only [W_block, P3, ↓reduceIte, reduceAdd, reduceEqDiff, reduceCtorEq, initFr, reduceLT, clsA, reduceLeDiff, reduceMul, reduceSub, reduceIte]
  exact hq2 _ _ ⟨_, rfl, h⟩
end Go.AM.Fd

set_option linter.unusedSimpArgs false
set_option linter.unusedVariables false
namespace Go.AM.Fd
open Nat (reduceAdd reduceEqDiff reduceLT reduceLeDiff reduceMul reduceSub)
open Go.Proofs Go.AM.F
theorem t21 (H : AHeap) (s : List UInt8) (hl : s.length ≤ 1000000) : ∃ w K, ARun Go.Proofs.Tryd.prog 3 21 [.string ⟨s.toArray⟩] H w K ∧ Keeps H K ∧ AP K 9 1 w (splitB 10 s).length (txs (splitB 10 s)) ∧ Fresh H.n w := by
  refine walk2 f21_ok f21_n ?_
  intro Q hq1 hq2
  simp (disch := first | assumption | omega | (simp only [LN] <;> omega) | (simp (disch := first | assumption | omega | (simp only [LN] <;> omega)) only [row_alloc, row_set]; assumption)) only [ f21, P3, ↓reduceIte, reduceAdd, reduceEqDiff, reduceCtorEq, initFr, reduceLT, clsA, reduceLeDiff, reduceMul, reduceSub, reduceIte]
  rw [W_block]
  refine W_loop2 (fun k fr M => ∃ i f ts v x5 x6, fr = [.string ⟨s.toArray⟩, .slice none 0 0, v, .int .i64 ((f : Nat) : Int), .int .i64 ((i : Nat) : Int), x5, x6] ∧
      Keeps H M ∧ AP M 9 1 v ts.length (txs ts) ∧ Fresh H.n v ∧ f ≤ i ∧ i ≤ s.length ∧ k = s.length - i ∧ ts.length ≤ i ∧ (∀ j, f ≤ j → j < i → s.getD j 0 ≠ 10) ∧ splitB 10 s = ts ++ splitB 10 (s.drop f)) s.length
    ⟨0, 0, [], _, _, _, rfl, Keeps.refl H, .inl ⟨rfl, rfl, rfl⟩, (fun b hb => by cases hb), Nat.le_refl _, by omega, rfl, by simp, fun j h1 h2 => absurd h2 (by omega), by simp⟩ ?_
  rintro Q2 k fr M ⟨i, f, ts, v, x5, x6, rfl, km, ha, hfr, hfi, hi, rfl, htl, hns, hws⟩ hn2 hx2 hret2
  have hw : IntKind.i64.wrap ((i : Int) + 1) = ((i + 1 : Nat) : Int) := by rw [wrap_i64 (by omega) (by omega)]; simp
  have hkn := km.n
  by_cases hlt : i < s.length
  · have h3 : (i : Int) < ((s.length : Nat) : Int) := by omega
    have e0 : ((((s.getD i 0).toNat : Nat) : Int) == 10) = (s.getD i 0 == 10) := u8_eqi (s.getD i 0) 10 (by omega)
    by_cases he : s.getD i 0 = 10
    · have e1 : (s.getD i 0 == 10) = true := by simpa using he
      rw [e1] at e0
      have hix := ixB_drop hfi hlt he hns
      have hsp : splitB 10 (s.drop f) = (s.take i).drop f :: splitB 10 (s.drop (i + 1)) := by
        rw [splitB_ix, hix]
        simp only
        rw [List.drop_drop, show f + (i - f + 1) = i + 1 by omega, List.drop_take]
      have hfl : fillA [.string ByteArray.empty] [(0, 1, .string ⟨((s.take i).drop f).toArray⟩)] = some [.string ⟨((s.take i).drop f).toArray⟩] := rfl
      have k4 := (Keeps.refl M).alloc (.cells true false 1 [.string ⟨((s.take i).drop f).toArray⟩] 9)
      simp (disch := first | assumption | omega | (simp only [LN] <;> omega) | (simp (disch := first | assumption | omega | (simp only [LN] <;> omega)) only [row_alloc, row_set]; assumption)) only [W_block, P3, ↓reduceIte, reduceAdd, reduceEqDiff, reduceCtorEq, initFr, reduceLT, clsA, reduceLeDiff, reduceMul, reduceSub, reduceIte, a_idxS, e0, a_slsM, hfl]
      refine appG (ha.keeps k4) ⟨_, _, rfl⟩ (elems_new rfl rfl) rfl (by omega) ?_
      intro v' M2 a2 c2 b2
      simp (disch := first | assumption | omega | (simp only [LN] <;> omega) | (simp (disch := first | assumption | omega | (simp only [LN] <;> omega)) only [row_alloc, row_set]; assumption)) only [W_block, P3, ↓reduceIte, reduceAdd, reduceEqDiff, reduceCtorEq, initFr, reduceLT, clsA, reduceLeDiff, reduceMul, reduceSub, reduceIte, hw]
      have hk2 : Keeps H M2 := (km.trans k4).chg_trans c2 (hfr.L)
      refine hn2 _ _ _ ⟨i + 1, i + 1, ts ++ [(s.take i).drop f], v', _, _, rfl, hk2, ?_, hfr.app (by simp [AHeap.alloc]; omega) b2, Nat.le_refl _, by omega, rfl, by simp; omega, fun j h1 h2 => absurd h2 (by omega), ?_⟩ (by omega)
      · simpa [txs_app] using a2
      · rw [hws, hsp]; simp
    · have e1 : (s.getD i 0 == 10) = false := by simpa using he
      rw [e1] at e0
      simp (disch := first | assumption | omega | (simp only [LN] <;> omega) | (simp (disch := first | assumption | omega | (simp only [LN] <;> omega)) only [row_alloc, row_set]; assumption)) only [W_block, P3, ↓reduceIte, reduceAdd, reduceEqDiff, reduceCtorEq, initFr, reduceLT, clsA, reduceLeDiff, reduceMul, reduceSub, reduceIte, a_idxS, e0, hw]
      refine hn2 _ _ _ ⟨i + 1, f, ts, v, _, _, rfl, km, ha, hfr, by omega, by omega, rfl, by omega, fun j h1 h2 => ?_, hws⟩ (by omega)
      rcases Nat.lt_or_ge j i with h | h
      · exact hns j h1 h
      · rw [show j = i by omega]; exact he
  · have h3 : ¬ (i : Int) < ((s.length : Nat) : Int) := by omega
    have hsp : splitB 10 (s.drop f) = [s.drop f] := by
      rw [splitB_ix, ixB_drop_no (fun j h1 h2 => hns j h1 (by omega))]
    have hfs : f ≤ s.length := by omega
    have hfl : fillA [.string ByteArray.empty] [(0, 1, .string ⟨(s.drop f).toArray⟩)] = some [.string ⟨(s.drop f).toArray⟩] := rfl
    have k4 := (Keeps.refl M).alloc (.cells true false 1 [.string ⟨(s.drop f).toArray⟩] 9)
    simp (disch := first | assumption | omega | (simp only [LN] <;> omega) | (simp (disch := first | assumption | omega | (simp only [LN] <;> omega)) only [row_alloc, row_set]; assumption)) only [W_block, P3, ↓reduceIte, reduceAdd, reduceEqDiff, reduceCtorEq, initFr, reduceLT, clsA, reduceLeDiff, reduceMul, reduceSub, reduceIte]
    refine hx2 0 _ _ ?_
    simp (disch := first | assumption | omega | (simp only [LN] <;> omega) | (simp (disch := first | assumption | omega | (simp only [LN] <;> omega)) only [row_alloc, row_set]; assumption)) only [W_block, P3, ↓reduceIte, reduceAdd, reduceEqDiff, reduceCtorEq, initFr, reduceLT, clsA, reduceLeDiff, reduceMul, reduceSub, reduceIte, a_slsT, hfl]
    refine appG (ha.keeps k4) ⟨_, _, rfl⟩ (elems_new rfl rfl) rfl (by omega) ?_
    intro v' M2 a2 c2 b2
    simp (disch := first | assumption | omega | (simp only [LN] <;> omega) | (simp (disch := first | assumption | omega | (simp only [LN] <;> omega)) only [row_alloc, row_set]; assumption)) only [W_block, P3, ↓reduceIte, reduceAdd, reduceEqDiff, reduceCtorEq, initFr, reduceLT, clsA, reduceLeDiff, reduceMul, reduceSub, reduceIte]
    have hk2 : Keeps H M2 := (km.trans k4).chg_trans c2 (hfr.L)
    refine hq2 _ _ ⟨_, rfl, hk2, ?_, hfr.app (by simp [AHeap.alloc]; omega) b2⟩
    rw [hws, hsp]
    simpa [txs_app, txs, tupV] using a2
def joinB {α : Type} (c : α) : List (List α) → List α
  | [] => []
  | [t] => t
  | t :: u :: r => t ++ c :: joinB c (u :: r)
theorem join_split (c : UInt8) : ∀ l : List UInt8, joinB c (splitB c l) = l
  | [] => rfl
  | x :: l => by
    have ih := join_split c l
    simp only [splitB]
    split
    · rename_i h
      subst h
      cases hs : splitB x l with
      | nil => exact absurd hs (splitB_ne x l)
      | cons p r => rw [hs] at ih; simp [joinB, ih]
    · split
      · rename_i p r hs
        rw [hs] at ih
        cases r with
        | nil => simp only [joinB] at ih ⊢; rw [ih]
        | cons q r => simp only [joinB] at ih ⊢; rw [← ih]; rfl
      · rename_i hs; exact absurd hs (splitB_ne c l)
theorem joinB_snoc {α : Type} (c : α) : ∀ (a : List (List α)) (t : List α), a ≠ [] → joinB c (a ++ [t]) = joinB c a ++ c :: t
  | [], t, h => absurd rfl h
  | [x], t, _ => rfl
  | x :: y :: r, t, _ => by
    have := joinB_snoc c (y :: r) t (by simp)
    simp only [List.cons_append, joinB] at this ⊢
    rw [this]; simp
theorem joinB_len {α : Type} (c : α) : ∀ (a b : List (List α)), (joinB c a).length ≤ (joinB c (a ++ b)).length
  | [], b => by simp [joinB]
  | [x], [] => by simp
  | [x], y :: r => by simp [joinB]
  | x :: y :: r, b => by
    have := joinB_len c (y :: r) b
    simp only [List.cons_append, joinB, List.length_append, List.length_cons] at this ⊢
    omega
end Go.AM.Fd

set_option linter.unusedSimpArgs false
set_option linter.unusedVariables false
namespace Go.AM.Fd
open Nat (reduceAdd reduceEqDiff reduceLT reduceLeDiff reduceMul reduceSub)
open Go.Proofs Go.AM.F
theorem take_join {ts : List (List UInt8)} {i : Nat} (h : i < ts.length) : joinB 10 (ts.take (i + 1)) = (if i = 0 then [] else joinB 10 (ts.take i) ++ [10]) ++ ts.getD i [] := by
  rw [List.take_add_one, List.getElem?_eq_getElem h]
  simp only [Option.toList_some, List.getD, List.getElem?_eq_getElem h, Option.getD_some]
  by_cases h0 : i = 0
  · subst h0; simp [joinB]
  · rw [if_neg h0, joinB_snoc]
    · simp
    · intro e
      have h2 : (ts.take i).length = 0 := by rw [e]; rfl
      rw [List.length_take] at h2; omega
theorem c8 (H : AHeap) (l : List UInt8) : ∃ w K, ARun Go.Proofs.Tryd.prog 3 8 [.string ⟨l.toArray⟩] H w K ∧ w = .bool true := by
  refine walk2 f8_ok f8_n ?_
  intro Q hq1 hq2
  by_cases hl : 2000 < l.length
  · have h1 : (2000 : Int) < ((l.length : Nat) : Int) := by omega
    simp (disch := first | assumption | omega | (simp only [LN] <;> omega) | (simp (disch := first | assumption | omega | (simp only [LN] <;> omega)) only [row_alloc, row_set]; assumption)) only [f8, W_block, P3, ↓reduceIte, reduceAdd, reduceEqDiff, reduceCtorEq, initFr, reduceLT, clsA, reduceLeDiff, reduceMul, reduceSub, reduceIte]
    refine callK (t12 H) ?_
    rintro _ K ⟨rfl, rfl⟩
    simp (disch := first | assumption | omega | (simp only [LN] <;> omega) | (simp (disch := first | assumption | omega | (simp only [LN] <;> omega)) only [row_alloc, row_set]; assumption)) only [W_block, P3, ↓reduceIte, reduceAdd, reduceEqDiff, reduceCtorEq, initFr, reduceLT, clsA, reduceLeDiff, reduceMul, reduceSub, reduceIte]
    exact hq2 _ _ ⟨_, rfl, rfl⟩
  · have h1 : ¬ (2000 : Int) < ((l.length : Nat) : Int) := by omega
    simp (disch := first | assumption | omega | (simp only [LN] <;> omega) | (simp (disch := first | assumption | omega | (simp only [LN] <;> omega)) only [row_alloc, row_set]; assumption)) only [ f8, P3, ↓reduceIte, reduceAdd, reduceEqDiff, reduceCtorEq, initFr, reduceLT, clsA, reduceLeDiff, reduceMul, reduceSub, reduceIte]
    refine callK (t20 H l (by omega)) ?_
    rintro vl K ⟨hk, ha, hfr⟩
    have htl := AP.tl ha
    have hsl := splitB_len 10 l
    have ll := htl.len
    have il := Sl.is htl
    have hjs := join_split 10 l
    obtain ⟨ts, hts⟩ : ∃ ts, splitB 10 l = ts := ⟨_, rfl⟩
    rw [hts] at htl hsl ll hjs ha
    simp (disch := first | assumption | omega | (simp only [LN] <;> omega) | (simp (disch := first | assumption | omega | (simp only [LN] <;> omega)) only [row_alloc, row_set]; assumption)) only [ P3, ↓reduceIte, reduceAdd, reduceEqDiff, reduceCtorEq, initFr, reduceLT, clsA, reduceLeDiff, reduceMul, reduceSub, reduceIte]
    rw [W_block]
    refine W_loop2 (fun k fr M => ∃ i t x6 x7, fr = [.string ⟨l.toArray⟩, .bool false, vl, .string ⟨t.toArray⟩, .int .i64 ((i : Nat) : Int), .bool false, x6, x7] ∧ M = K ∧ i ≤ ts.length ∧ t = joinB 10 (ts.take i) ∧ k = ts.length - i) ts.length
      ⟨0, [], _, _, rfl, rfl, by omega, rfl, rfl⟩ ?_
    rintro Q' k fr M ⟨i, t, x6, x7, rfl, rfl, hi, rfl, rfl⟩ hn hx hret
    have hjl : (joinB 10 (ts.take i)).length ≤ l.length := by
      have := joinB_len 10 (ts.take i) (ts.drop i)
      rw [List.take_append_drop, hjs] at this
      exact this
    by_cases hlt : i < ts.length
    · obtain ⟨na, ra⟩ := htl.at_ hlt
      unfold tRow at ra
      have hj1 := take_join hlt
      have hjl1 : (joinB 10 (ts.take (i + 1))).length ≤ l.length := by
        have := joinB_len 10 (ts.take (i + 1)) (ts.drop (i + 1))
        rw [List.take_append_drop, hjs] at this
        exact this
      have c0 : (0 : Int) ≤ ((i : Nat) : Int) := by omega
      have c1 : ((i : Nat) : Int) < ((ts.length : Nat) : Int) := by omega
      have c2 : ((i : Nat) : Int) < ((lenS vl : Nat) : Int) := by omega
      have hw : IntKind.i64.wrap ((i : Int) + 1) = ((i + 1 : Nat) : Int) := by rw [wrap_i64 (by omega) (by omega)]; simp
      obtain ⟨u, hu⟩ : ∃ u, ts.getD i [] = u := ⟨_, rfl⟩
      rw [hu] at ra hj1
      by_cases hz : i = 0
      · subst hz
        rw [if_pos rfl] at hj1
        have c3 : ¬ (0 : Int) < (((0 : Nat) : Int)) := by omega
        have hul : u.length ≤ l.length := by rw [hj1] at hjl1; simpa using hjl1
        have hb : binA .add (.string ⟨(joinB 10 []).toArray⟩) (.string ⟨u.toArray⟩) = some (.string ⟨u.toArray⟩) := by
          rw [b_addS (by simp only [joinB, List.length_nil]; omega)]; simp [joinB]
        simp (disch := first | assumption | omega | (simp only [LN] <;> omega) | (simp (disch := first | assumption | omega | (simp only [LN] <;> omega)) only [row_alloc, row_set]; assumption)) only [W_block, P3, ↓reduceIte, reduceAdd, reduceEqDiff, reduceCtorEq, initFr, reduceLT, clsA, reduceLeDiff, reduceMul, reduceSub, reduceIte, ll, ra, na, a_load1v, hb, hw]
        exact hn _ _ _ ⟨1, u, _, _, rfl, rfl, by omega, by rw [hj1]; rfl, rfl⟩ (by omega)
      · rw [if_neg hz] at hj1
        have c3 : (0 : Int) < ((i : Nat) : Int) := by omega
        have hlen : (joinB 10 (ts.take i)).length + 1 + u.length ≤ l.length := by
          have := congrArg List.length hj1
          simp at this
          omega
        have hb1 : binA .add (.string ⟨(joinB 10 (ts.take i)).toArray⟩) (.string ⟨[10].toArray⟩) = some (.string ⟨(joinB 10 (ts.take i) ++ [10]).toArray⟩) := b_addS (by simp; omega)
        have hb2 : binA .add (.string ⟨(joinB 10 (ts.take i) ++ [10]).toArray⟩) (.string ⟨u.toArray⟩) = some (.string ⟨(joinB 10 (ts.take i) ++ [10] ++ u).toArray⟩) := b_addS (by simp; omega)
        simp (disch := first | assumption | omega | (simp only [LN] <;> omega) | (simp (disch := first | assumption | omega | (simp only [LN] <;> omega)) only [row_alloc, row_set]; assumption)) only [W_block, P3, ↓reduceIte, reduceAdd, reduceEqDiff, reduceCtorEq, initFr, reduceLT, clsA, reduceLeDiff, reduceMul, reduceSub, reduceIte, ll, ra, na, a_load1v, hb1, hb2, hw]
        exact hn _ _ _ ⟨i + 1, _, _, _, rfl, rfl, by omega, by rw [hj1], rfl⟩ (by omega)
    · have c1 : ¬ ((i : Nat) : Int) < ((ts.length : Nat) : Int) := by omega
      simp (disch := first | assumption | omega | (simp only [LN] <;> omega) | (simp (disch := first | assumption | omega | (simp only [LN] <;> omega)) only [row_alloc, row_set]; assumption)) only [W_block, P3, ↓reduceIte, reduceAdd, reduceEqDiff, reduceCtorEq, initFr, reduceLT, clsA, reduceLeDiff, reduceMul, reduceSub, reduceIte, ll]
      refine hx 0 _ _ ?_
      simp (disch := first | assumption | omega | (simp only [LN] <;> omega) | (simp (disch := first | assumption | omega | (simp only [LN] <;> omega)) only [row_alloc, row_set]; assumption)) only [W_block, P3, ↓reduceIte, reduceAdd, reduceEqDiff, reduceCtorEq, initFr, reduceLT, clsA, reduceLeDiff, reduceMul, reduceSub, reduceIte]
      refine callK (t21 M l (by omega)) ?_
      rintro v2 K2 ⟨hk2, ha2, _⟩
      rw [hts] at ha2
      simp (disch := first | assumption | omega | (simp only [LN] <;> omega) | (simp (disch := first | assumption | omega | (simp only [LN] <;> omega)) only [row_alloc, row_set]; assumption)) only [W_block, P3, ↓reduceIte, reduceAdd, reduceEqDiff, reduceCtorEq, initFr, reduceLT, clsA, reduceLeDiff, reduceMul, reduceSub, reduceIte]
      refine callK (t17 (htl.keeps hk2) (AP.tl ha2) (by omega)) ?_
      rintro _ K3 ⟨rfl, rfl⟩
      have he : decide (ts = ts) = true := by simp
      have he2 : decide (joinB 10 (ts.take i) = l) = true := by
        rw [List.take_of_length_le (by omega), hjs]; simp
      simp (disch := first | assumption | omega | (simp only [LN] <;> omega) | (simp (disch := first | assumption | omega | (simp only [LN] <;> omega)) only [row_alloc, row_set]; assumption)) only [W_block, P3, ↓reduceIte, reduceAdd, reduceEqDiff, reduceCtorEq, initFr, reduceLT, clsA, reduceLeDiff, reduceMul, reduceSub, reduceIte, he, bytes_eq, he2]
      refine callK (t12 _) ?_
      rintro _ K4 ⟨rfl, rfl⟩
      simp (disch := first | assumption | omega | (simp only [LN] <;> omega) | (simp (disch := first | assumption | omega | (simp only [LN] <;> omega)) only [row_alloc, row_set]; assumption)) only [W_block, P3, ↓reduceIte, reduceAdd, reduceEqDiff, reduceCtorEq, initFr, reduceLT, clsA, reduceLeDiff, reduceMul, reduceSub, reduceIte]
      exact hq2 _ _ ⟨_, rfl, rfl⟩
end Go.AM.Fd

set_option linter.unusedSimpArgs false
set_option linter.unusedVariables false
namespace Go.AM.Fd
open Go.Proofs Go.AM.F
theorem get_at (l : List UInt8) (i : Nat) : ((⟨l.toArray⟩ : ByteArray).get! i) = l.getD i 0 := by
  show l.toArray[i]! = _
  by_cases h : i < l.length
  · simp [List.getD, List.getElem?_eq_getElem h, h]
  · simp [List.getD, List.getElem?_eq_none (by omega : l.length ≤ i), h]
    rfl
def decL (l : List UInt8) : Nat × Nat :=
  let a (k : Nat) : Nat := (l.getD k 0).toNat
  let cont (k : Nat) : Bool := k < l.length && a k / 64 == 2
  let b0 := a 0
  if b0 < 0x80 then (b0, 1)
  else if b0 / 32 == 6 && cont 1 then
    let c := (b0 % 32) * 64 + a 1 % 64
    if c ≥ 0x80 then (c, 2) else (65533, 1)
  else if b0 / 16 == 14 && cont 1 && cont 2 then
    let c := (b0 % 16) * 4096 + (a 1 % 64) * 64 + a 2 % 64
    if c ≥ 0x800 && Utf8.valid c then (c, 3) else (65533, 1)
  else if b0 / 8 == 30 && cont 1 && cont 2 && cont 3 then
    let c := (b0 % 8) * 262144 + (a 1 % 64) * 4096 + (a 2 % 64) * 64 + a 3 % 64
    if c ≥ 0x10000 && Utf8.valid c then (c, 4) else (65533, 1)
  else (65533, 1)
theorem decB_L (l : List UInt8) (p : Nat) : decB l p = decL (l.drop p) := by
  unfold decB decL Utf8.decode
  have h1 : ∀ k, ((⟨l.toArray⟩ : ByteArray).get! (p + k)) = (l.drop p).getD k 0 := fun k => by
    rw [get_at]; simp only [List.getD, List.getElem?_drop]
  have h2 : ∀ k, decide (p + k < (⟨l.toArray⟩ : ByteArray).size) = decide (k < (l.drop p).length) := fun k => by
    rw [str_size, List.length_drop, decide_eq_decide]; omega
  simp only [h1, h2, Utf8.runeError]
structure GC (c : List UInt8) : Prop where
  ne : c ≠ []
  dec : ∃ r, (∀ rest, decL (c ++ rest) = (r, c.length)) ∧ 32 ≤ r ∧ (r = 65533 → c = [239, 191, 189])
  asc : (∃ b : UInt8, c = [b]) ∨ ∀ b ∈ c, 128 ≤ b.toNat
theorem dec1 {b0 : UInt8} (t : List UInt8) (h : b0.toNat < 128) : decL (b0 :: t) = (b0.toNat, 1) := by
  unfold decL
  simp only [List.getD_cons_zero]
  rw [if_pos h]
theorem dec2 {b0 b1 : UInt8} (t : List UInt8) (h0 : ¬ b0.toNat < 128) (h1 : (b0.toNat / 32 == 6) = true) (h2 : (b1.toNat / 64 == 2) = true) (h3 : (b0.toNat % 32) * 64 + b1.toNat % 64 ≥ 128) :
    decL (b0 :: b1 :: t) = ((b0.toNat % 32) * 64 + b1.toNat % 64, 2) := by
  unfold decL
  simp only [List.getD_cons_zero, List.getD_cons_succ]
  rw [if_neg h0, if_pos (by simp only [h1, h2, Bool.and_true, Bool.true_and, decide_eq_true_eq]; simp), if_pos h3]
theorem dec3 {b0 b1 b2 : UInt8} (t : List UInt8) (h0 : ¬ b0.toNat < 128) (h1 : (b0.toNat / 16 == 14) = true) (h2 : (b1.toNat / 64 == 2) = true) (h3 : (b2.toNat / 64 == 2) = true)
    (h4 : (decide ((b0.toNat % 16) * 4096 + (b1.toNat % 64) * 64 + b2.toNat % 64 ≥ 2048) && Utf8.valid ((b0.toNat % 16) * 4096 + (b1.toNat % 64) * 64 + b2.toNat % 64 : Nat)) = true) :
    decL (b0 :: b1 :: b2 :: t) = ((b0.toNat % 16) * 4096 + (b1.toNat % 64) * 64 + b2.toNat % 64, 3) := by
  have hx : (b0.toNat / 32 == 6) = false := by simp at h1 ⊢; omega
  unfold decL
  simp only [List.getD_cons_zero, List.getD_cons_succ]
  rw [if_neg h0, if_neg (by simp [hx]), if_pos (by simp only [h1, h2, h3, Bool.and_true, Bool.true_and, Bool.and_eq_true, decide_eq_true_eq]; constructor <;> simp), if_pos h4]
theorem dec_fffd (t : List UInt8) : decL (239 :: 191 :: 189 :: t) = (65533, 3) := dec3 (b0 := 239) (b1 := 191) (b2 := 189) t (by decide) (by decide) (by decide) (by decide) (by decide)
theorem gc_fffd : GC [239, 191, 189] := ⟨by simp, ⟨65533, fun rest => dec_fffd rest, by omega, fun _ => rfl⟩, .inr (by decide)⟩
theorem dec4 {b0 b1 b2 b3 : UInt8} (t : List UInt8) (h0 : ¬ b0.toNat < 128) (h1 : (b0.toNat / 8 == 30) = true) (h2 : (b1.toNat / 64 == 2) = true) (h3 : (b2.toNat / 64 == 2) = true) (h5 : (b3.toNat / 64 == 2) = true)
    (h4 : (decide ((b0.toNat % 8) * 262144 + (b1.toNat % 64) * 4096 + (b2.toNat % 64) * 64 + b3.toNat % 64 ≥ 65536) && Utf8.valid ((b0.toNat % 8) * 262144 + (b1.toNat % 64) * 4096 + (b2.toNat % 64) * 64 + b3.toNat % 64 : Nat)) = true) :
    decL (b0 :: b1 :: b2 :: b3 :: t) = ((b0.toNat % 8) * 262144 + (b1.toNat % 64) * 4096 + (b2.toNat % 64) * 64 + b3.toNat % 64, 4) := by
  have hx : (b0.toNat / 32 == 6) = false := by simp at h1 ⊢; omega
  have hy : (b0.toNat / 16 == 14) = false := by simp at h1 ⊢; omega
  unfold decL
  simp only [List.getD_cons_zero, List.getD_cons_succ]
  rw [if_neg h0, if_neg (by simp [hx]), if_neg (by simp [hy]), if_pos (by simp only [h1, h2, h3, h5, Bool.and_true, Bool.true_and, Bool.and_eq_true, decide_eq_true_eq]; refine ⟨⟨?_, ?_⟩, ?_⟩ <;> simp), if_pos h4]
theorem cont_at {l : List UInt8} {k : Nat} (h : (decide (k < l.length) && ((l.getD k 0).toNat / 64 == 2)) = true) : k < l.length ∧ ((l.getD k 0).toNat / 64 == 2) = true := by
  simpa [Bool.and_eq_true] using h
theorem two_of {b0 : UInt8} {t : List UInt8} (h : 2 < (b0 :: t).length) : ∃ b1 b2 t', t = b1 :: b2 :: t' := by
  match t with
  | b1 :: b2 :: t => exact ⟨b1, b2, t, rfl⟩
  | [x] => simp at h
  | [] => simp at h
theorem three_of {b0 : UInt8} {t : List UInt8} (h : 3 < (b0 :: t).length) : ∃ b1 b2 b3 t', t = b1 :: b2 :: b3 :: t' := by
  match t with
  | b1 :: b2 :: b3 :: t => exact ⟨b1, b2, b3, t, rfl⟩
  | [x, y] => simp at h
  | [x] => simp at h
  | [] => simp at h
theorem good_head {l : List UInt8} (hne : l ≠ []) (h32 : 32 ≤ (decL l).1) (hw : (decL l).1 = 65533 → [239, 191, 189].isPrefixOf l = true) : ∃ c rest, l = c ++ rest ∧ GC c ∧ c.length = (decL l).2 := by
  by_cases hr : (decL l).1 = 65533
  · obtain ⟨t, rfl⟩ := List.isPrefixOf_iff_prefix.1 (hw hr)
    exact ⟨[239, 191, 189], t, rfl, gc_fffd, by rw [show ([239, 191, 189] ++ t : List UInt8) = 239 :: 191 :: 189 :: t from rfl, dec_fffd]; rfl⟩
  · obtain ⟨r, w, hd⟩ : ∃ r w, decL l = (r, w) := ⟨_, _, rfl⟩
    rw [hd] at h32 hr ⊢
    simp only at h32 hr ⊢
    obtain ⟨b0, t, rfl⟩ : ∃ b0 t, l = b0 :: t := by
      cases l with
      | nil => exact absurd rfl hne
      | cons b t => exact ⟨b, t, rfl⟩
    unfold decL at hd
    simp only at hd
    split at hd
    · rename_i h0
      simp only [Prod.mk.injEq] at hd
      obtain ⟨rfl, rfl⟩ := hd
      simp only [List.getD_cons_zero] at h0 h32
      exact ⟨[b0], t, rfl, ⟨by simp, ⟨b0.toNat, fun rest => dec1 rest h0, h32, fun e => by omega⟩, .inl ⟨b0, rfl⟩⟩, rfl⟩
    · rename_i h0
      split at hd
      · rename_i h1
        rw [Bool.and_eq_true] at h1
        obtain ⟨k1, q1⟩ := cont_at h1.2
        split at hd
        · rename_i h3
          simp only [Prod.mk.injEq] at hd
          obtain ⟨rfl, rfl⟩ := hd
          obtain ⟨b1, t, rfl⟩ : ∃ b1 t', t = b1 :: t' := by
            cases t with
            | nil => simp at k1
            | cons b t => exact ⟨b, t, rfl⟩
          simp only [List.getD_cons_zero, List.getD_cons_succ] at h0 h1 q1 h3 h32 hr ⊢
          refine ⟨[b0, b1], t, rfl, ⟨by simp, ⟨_, fun rest => dec2 rest h0 h1.1 q1 h3, h32, fun e => absurd e hr⟩, .inr ?_⟩, rfl⟩
          intro b hb
          simp only [List.mem_cons, List.not_mem_nil, or_false] at hb
          rcases hb with rfl | rfl
          · omega
          · simp at q1; omega
        · simp only [Prod.mk.injEq] at hd; exact absurd hd.1.symm hr
      · split at hd
        · rename_i h1
          simp only [Bool.and_eq_true (a := _ && _)] at h1
          rw [Bool.and_eq_true] at h1
          obtain ⟨k1, q1⟩ := cont_at h1.1.2
          obtain ⟨k2, q2⟩ := cont_at h1.2
          split at hd
          · rename_i h3
            simp only [Prod.mk.injEq] at hd
            obtain ⟨e1, rfl⟩ := hd
            obtain ⟨b1, b2, t, rfl⟩ : ∃ b1 b2 t', t = b1 :: b2 :: t' := by
              exact two_of k2
            simp only [List.getD_cons_zero, List.getD_cons_succ] at h0 h1 q1 q2 h3 e1 ⊢
            refine ⟨[b0, b1, b2], t, rfl, ⟨by simp, ⟨r, fun rest => by rw [← e1]; exact dec3 rest h0 h1.1.1 q1 q2 h3, h32, fun e => absurd e hr⟩, .inr ?_⟩, rfl⟩
            intro b hb
            simp only [List.mem_cons, List.not_mem_nil, or_false] at hb
            rcases hb with rfl | rfl | rfl
            · omega
            · simp at q1; omega
            · simp at q2; omega
          · simp only [Prod.mk.injEq] at hd; exact absurd hd.1.symm hr
        · split at hd
          · rename_i h1
            rw [Bool.and_eq_true, Bool.and_eq_true, Bool.and_eq_true] at h1
            obtain ⟨k1, q1⟩ := cont_at h1.1.1.2
            obtain ⟨k2, q2⟩ := cont_at h1.1.2
            obtain ⟨k3, q3⟩ := cont_at h1.2
            split at hd
            · rename_i h3
              simp only [Prod.mk.injEq] at hd
              obtain ⟨e1, rfl⟩ := hd
              obtain ⟨b1, b2, b3, t, rfl⟩ : ∃ b1 b2 b3 t', t = b1 :: b2 :: b3 :: t' := by
                exact three_of k3
              simp only [List.getD_cons_zero, List.getD_cons_succ] at h0 h1 q1 q2 q3 h3 e1 ⊢
              refine ⟨[b0, b1, b2, b3], t, rfl, ⟨by simp, ⟨r, fun rest => by rw [← e1]; exact dec4 rest h0 h1.1.1.1 q1 q2 q3 h3, h32, fun e => absurd e hr⟩, .inr ?_⟩, rfl⟩
              intro b hb
              simp only [List.mem_cons, List.not_mem_nil, or_false] at hb
              rcases hb with rfl | rfl | rfl | rfl
              · omega
              · simp at q1; omega
              · simp at q2; omega
              · simp at q3; omega
            · simp only [Prod.mk.injEq] at hd; exact absurd hd.1.symm hr
          · simp only [Prod.mk.injEq] at hd; exact absurd hd.1.symm hr
end Go.AM.Fd

set_option linter.unusedSimpArgs false
set_option linter.unusedVariables false
namespace Go.AM.Fd
open Go.Proofs Go.AM.F
inductive OkL : List UInt8 → Prop
  | nil : OkL []
  | cons {c l : List UInt8} (h : GC c) (t : OkL l) : OkL (c ++ l)
theorem OkL.app {a b : List UInt8} (h : OkL a) (k : OkL b) : OkL (a ++ b) := by
  induction h with
  | nil => exact k
  | cons h _ ih => rw [List.append_assoc]; exact .cons h ih
theorem gc_blank : GC [32] := ⟨by simp, ⟨32, fun rest => dec1 rest (by decide), by omega, fun e => by omega⟩, .inl ⟨32, rfl⟩⟩
theorem OkL.blank : OkL [32] := by simpa using OkL.cons gc_blank .nil
theorem ok_step {l : List UInt8} {p : Nat} (hp : p < l.length) (h : okC l (p, ((decB l p).1 : Int)) = true) : ∃ c rest, l.drop p = c ++ rest ∧ GC c ∧ c.length = (decB l p).2 ∧ l.drop (p + (decB l p).2) = rest := by
  unfold okC at h
  simp only [Bool.and_eq_true, Bool.not_eq_true', decide_eq_false_iff_not, Bool.and_eq_false_imp, beq_iff_eq, Bool.not_eq_false'] at h
  have hne : l.drop p ≠ [] := by
    intro e
    have := congrArg List.length e
    rw [List.length_drop] at this; simp at this; omega
  have e := decB_L l p
  obtain ⟨c, rest, h1, h2, h3⟩ := good_head hne (by rw [← e]; omega) (fun e2 => by
    have := h.2 (by rw [e]; omega)
    exact this)
  rw [← e] at h3
  refine ⟨c, rest, h1, h2, h3, ?_⟩
  rw [← List.drop_drop, h1, ← h3, List.drop_left]
theorem okl_of {l : List UInt8} : ∀ (n p : Nat), l.length - p ≤ n → (runF l p).all (okC l) = true → OkL (l.drop p)
  | 0, p, hn, _ => by rw [List.drop_of_length_le (by omega)]; exact .nil
  | n + 1, p, hn, h => by
    by_cases hp : p < l.length
    · rw [runF_step hp, List.all_cons, Bool.and_eq_true] at h
      obtain ⟨c, rest, h1, h2, h3, h4⟩ := ok_step hp h.1
      have h0 := decB_pos (l := l) (p := p)
      rw [h1, ← h4]
      exact .cons h2 (okl_of n _ (by omega) h.2)
    · rw [List.drop_of_length_le (by omega)]; exact .nil
theorem okW_l {l : List UInt8} (h : okW l = true) : OkL l := by
  have := okl_of l.length 0 (by omega) h
  simpa using this
theorem okl_to {l : List UInt8} (h : OkL l) : ∀ pre : List UInt8, (runF (pre ++ l) pre.length).all (okC (pre ++ l)) = true := by
  induction h with
  | nil => intro pre; rw [runF_end (by simp)]; rfl
  | @cons c l h t ih =>
    intro pre
    obtain ⟨r, h1, h2, h3⟩ := h.dec
    have hc : 0 < c.length := List.length_pos_iff.2 h.ne
    have hd : decB (pre ++ (c ++ l)) pre.length = (r, c.length) := by rw [decB_L, List.drop_left]; exact h1 l
    rw [runF_step (by simp; omega), hd, List.all_cons, Bool.and_eq_true]
    refine ⟨?_, ?_⟩
    · unfold okC
      by_cases hr : r = 65533
      · have hw : wholeB (pre ++ (c ++ l)) pre.length = true := by
          unfold wholeB
          rw [List.drop_left, h3 hr, List.isPrefixOf_iff_prefix]
          exact ⟨l, rfl⟩
        simp only [hw]; simp; omega
      · simp; omega
    · have := ih (pre ++ c)
      rw [List.length_append, List.append_assoc] at this
      exact this
theorem l_okW {l : List UInt8} (h : OkL l) : okW l = true := by
  have := okl_to h []
  simpa [okW] using this
theorem splitB_pre {c : UInt8} : ∀ {a : List UInt8} (l : List UInt8), c ∉ a → ∃ p r, splitB c l = p :: r ∧ splitB c (a ++ l) = (a ++ p) :: r
  | [], l, _ => by
    cases h : splitB c l with
    | nil => exact absurd h (splitB_ne c l)
    | cons p r => exact ⟨p, r, rfl, by simpa using h⟩
  | x :: a, l, h => by
    simp only [List.mem_cons, not_or] at h
    obtain ⟨p, r, h1, h2⟩ := splitB_pre l h.2
    refine ⟨p, r, h1, ?_⟩
    simp only [List.cons_append, splitB, if_neg (Ne.symm h.1), h2]
theorem splitB_whole {c : UInt8} {a : List UInt8} (h : c ∉ a) : splitB c a = [a] := by
  obtain ⟨p, r, h1, h2⟩ := splitB_pre [] h
  cases h1
  simpa using h2
theorem splitB_mem {c : UInt8} : ∀ {l w : List UInt8}, w ∈ splitB c l → c ∉ w ∧ ∀ b ∈ w, b ∈ l
  | [], w, h => by simp [splitB] at h; subst h; simp
  | x :: l, w, h => by
    simp only [splitB] at h
    split at h
    · rcases List.mem_cons.1 h with rfl | h
      · simp
      · obtain ⟨h1, h2⟩ := splitB_mem h; exact ⟨h1, fun b hb => by simp [h2 b hb]⟩
    · rename_i hx
      split at h
      · rename_i p r hs
        rcases List.mem_cons.1 h with rfl | h
        · obtain ⟨h1, h2⟩ := splitB_mem (l := l) (c := c) (w := p) (by rw [hs]; simp)
          refine ⟨by simp only [List.mem_cons, not_or]; exact ⟨Ne.symm hx, h1⟩, fun b hb => ?_⟩
          rcases List.mem_cons.1 hb with rfl | hb
          · simp
          · simp [h2 b hb]
        · obtain ⟨h1, h2⟩ := splitB_mem (l := l) (c := c) (w := w) (by rw [hs]; simp [h]); exact ⟨h1, fun b hb => by simp [h2 b hb]⟩
      · rename_i hs; exact absurd hs (splitB_ne c l)
theorem OkL.split {l : List UInt8} (h : OkL l) : ∀ w ∈ splitB 32 l, OkL w := by
  induction h with
  | nil => intro w hw; simp [splitB] at hw; subst hw; exact .nil
  | @cons c l h t ih =>
    intro w hw
    by_cases hc : 32 ∈ c
    · have : c = [32] := by
        rcases h.asc with ⟨b, rfl⟩ | h2
        · simp at hc; rw [hc]
        · have := h2 32 hc; simp at this
      subst this
      have e : splitB 32 ([32] ++ l) = [] :: splitB 32 l := by simp [splitB]
      rw [e] at hw
      rcases List.mem_cons.1 hw with rfl | hw
      · exact .nil
      · exact ih w hw
    · obtain ⟨p, r, h1, h2⟩ := splitB_pre l hc
      rw [h2] at hw
      rcases List.mem_cons.1 hw with rfl | hw
      · exact .cons h (ih p (by rw [h1]; simp))
      · exact ih w (by rw [h1]; simp [hw])
theorem ixB_app {c : UInt8} : ∀ {a : List UInt8} (l : List UInt8), c ∉ a → ixB c (a ++ c :: l) = some a.length
  | [], l, _ => by simp [ixB]
  | x :: a, l, h => by
    simp only [List.mem_cons, not_or] at h
    simp only [List.cons_append, ixB, if_neg (Ne.symm h.1), ixB_app l h.2]; simp
theorem ixB_nin {c : UInt8} : ∀ {a : List UInt8}, c ∉ a → ixB c a = none
  | [], _ => rfl
  | x :: a, h => by
    simp only [List.mem_cons, not_or] at h
    simp only [ixB, if_neg (Ne.symm h.1), ixB_nin h.2]; rfl
theorem ahead_no (l : List UInt8) : 35 ∉ aheadB l := by
  unfold aheadB
  cases h : ixB 35 l with
  | none => exact ixB_none h
  | some i =>
    intro hm
    obtain ⟨j, hj, he⟩ := List.getElem_of_mem hm
    rw [List.length_take] at hj
    have := (ixB_some h).2.2 j (by omega)
    apply this
    simp only [List.getElem_take] at he
    simp [List.getD, List.getElem?_eq_getElem (show j < l.length by omega), he]
def rejoin (ws : List (List UInt8)) : List UInt8 := (ws.map fun w => 32 :: w).flatten
theorem rejoin_snoc (ws : List (List UInt8)) (w : List UInt8) : rejoin (ws ++ [w]) = rejoin ws ++ 32 :: w := by simp [rejoin]
theorem rejoin_split : ∀ (ws : List (List UInt8)), (∀ w ∈ ws, w ≠ [] ∧ 32 ∉ w) → splitB 32 (rejoin ws ++ [32]) = [] :: (ws ++ [[]])
  | [], _ => by simp [rejoin, splitB]
  | w :: ws, h => by
    have hw := h w (by simp)
    have ih := rejoin_split ws (fun x hx => h x (by simp [hx]))
    have e : rejoin (w :: ws) ++ [32] = 32 :: (w ++ (rejoin ws ++ [32])) := by simp [rejoin]
    obtain ⟨p, r, h1, h2⟩ := splitB_pre (rejoin ws ++ [32]) hw.2
    rw [ih] at h1
    cases h1
    rw [e]
    simp only [splitB, if_true]
    rw [h2]; simp
theorem filt_id : ∀ (ws : List (List UInt8)), (∀ w ∈ ws, w ≠ []) → (ws.filter fun t => !t.isEmpty) = ws
  | [], _ => rfl
  | w :: ws, h => by
    have hw := h w (by simp)
    rw [List.filter_cons, filt_id ws (fun x hx => h x (by simp [hx]))]
    cases w with
    | nil => exact absurd rfl hw
    | cons x w => rfl
theorem words_mem {l w : List UInt8} (h : w ∈ wordsB l) : w ≠ [] ∧ 32 ∉ w ∧ (∀ b ∈ w, b ∈ l) := by
  unfold wordsB at h
  rw [List.mem_filter] at h
  have := splitB_mem h.1
  refine ⟨?_, this.1, this.2⟩
  intro e; subst e; simp at h
theorem again {l : List UInt8} (h : okW (aheadB l) = true) : okW (aheadB (rejoin (wordsB (aheadB l)) ++ [32, 35, 32, 120])) = true ∧ wordsB (aheadB (rejoin (wordsB (aheadB l)) ++ [32, 35, 32, 120])) = wordsB (aheadB l) := by
  obtain ⟨s, hs⟩ : ∃ s, aheadB l = s := ⟨_, rfl⟩
  have h35 : 35 ∉ s := by rw [← hs]; exact ahead_no l
  rw [hs] at h ⊢
  have hws : ∀ w ∈ wordsB s, w ≠ [] ∧ 32 ∉ w ∧ (∀ b ∈ w, b ∈ s) := fun w hw => words_mem hw
  have hokl : ∀ w ∈ wordsB s, OkL w := fun w hw => (okW_l h).split w (by unfold wordsB at hw; exact (List.mem_filter.1 hw).1)
  obtain ⟨ws, hW⟩ : ∃ ws, wordsB s = ws := ⟨_, rfl⟩
  rw [hW] at hws hokl ⊢
  have hno : 35 ∉ rejoin ws ++ [32] := by
    intro hm
    rw [List.mem_append] at hm
    rcases hm with hm | hm
    · unfold rejoin at hm
      rw [List.mem_flatten] at hm
      obtain ⟨x, hx, hm⟩ := hm
      obtain ⟨w, hw, rfl⟩ := List.mem_map.1 hx
      rcases List.mem_cons.1 hm with e | hm
      · simp at e
      · exact h35 ((hws w hw).2.2 35 hm)
    · simp at hm
  have ha : aheadB (rejoin ws ++ [32, 35, 32, 120]) = rejoin ws ++ [32] := by
    unfold aheadB
    rw [show rejoin ws ++ [32, 35, 32, 120] = (rejoin ws ++ [32]) ++ 35 :: [32, 120] by simp, ixB_app _ hno]
    simp only
    rw [List.take_left]
  rw [ha]
  constructor
  · apply l_okW
    refine OkL.app ?_ OkL.blank
    clear hno ha hW hws
    induction ws with
    | nil => exact .nil
    | cons w ws ih =>
      have e : rejoin (w :: ws) = [32] ++ (w ++ rejoin ws) := by simp [rejoin]
      rw [e]
      exact OkL.app .blank (OkL.app (hokl w (by simp)) (ih (fun x hx => hokl x (by simp [hx]))))
  · unfold wordsB
    rw [rejoin_split ws (fun w hw => ⟨(hws w hw).1, (hws w hw).2.1⟩)]
    rw [List.filter_cons, List.filter_append, filt_id ws (fun w hw => (hws w hw).1)]
    simp
theorem sgn_bytes {l : List UInt8} : ∀ (n p : Nat), l.length - p ≤ n → (runF l p).all (fun x => sgn x.2) = true → ∀ b ∈ l.drop p, b.toNat < 128 → sgn (b.toNat : Int) = true
  | 0, p, hn, _ => by rw [List.drop_of_length_le (by omega)]; simp
  | n + 1, p, hn, h => by
    by_cases hp : p < l.length
    · rw [runF_step hp, List.all_cons, Bool.and_eq_true] at h
      have hok : okC l (p, ((decB l p).1 : Int)) = true := by
        have h1 := h.1
        unfold sgn at h1
        simp only [Bool.and_eq_true, decide_eq_true_eq, bne_iff_ne, ne_eq] at h1
        unfold okC
        simp only [Bool.and_eq_true, Bool.not_eq_true', decide_eq_false_iff_not, Bool.and_eq_false_imp, beq_iff_eq]
        exact ⟨by omega, fun e => absurd e h1.2⟩
      obtain ⟨c, rest, h1, h2, h3, h4⟩ := ok_step hp hok
      have h0 := decB_pos (l := l) (p := p)
      have ih := sgn_bytes n (p + (decB l p).2) (by omega) h.2
      rw [h4] at ih
      rw [h1]
      intro b hb hlt
      rcases List.mem_append.1 hb with hb | hb
      · rcases h2.asc with ⟨b0, rfl⟩ | h5
        · simp at hb; subst hb
          have hd : decB l p = (b.toNat, 1) := by rw [decB_L, h1]; exact dec1 rest hlt
          have := h.1
          rw [hd] at this; exact this
        · have := h5 b hb; omega
      · exact ih b hb hlt
    · rw [List.drop_of_length_le (by omega)]; simp
theorem right_words {l : List UInt8} (h : rightB l = true) : okW (aheadB l) = true ∧ wordsB (aheadB l) = [l] := by
  unfold rightB at h
  simp only [Bool.and_eq_true, decide_eq_true_eq] at h
  have hb := sgn_bytes l.length 0 (by omega) h.1.1
  rw [List.drop_zero] at hb
  have h35 : 35 ∉ l := fun hm => by have := hb 35 hm (by decide); revert this; decide
  have h32 : 32 ∉ l := fun hm => by have := hb 32 hm (by decide); revert this; decide
  have ha : aheadB l = l := by unfold aheadB; rw [ixB_nin h35]
  rw [ha]
  constructor
  · unfold okW
    rw [List.all_eq_true] at h ⊢
    intro x hx
    have h1 := h.1.1 x hx
    unfold sgn at h1
    simp only [Bool.and_eq_true, decide_eq_true_eq, bne_iff_ne, ne_eq] at h1
    unfold okC
    simp only [Bool.and_eq_true, Bool.not_eq_true', decide_eq_false_iff_not, Bool.and_eq_false_imp, beq_iff_eq]
    exact ⟨by omega, fun e => absurd e h1.2⟩
  · unfold wordsB
    rw [splitB_whole h32]
    cases l with
    | nil => have := h.1.2; rw [runF_end (by simp)] at this; simp at this
    | cons x l => rfl
end Go.AM.Fd

set_option linter.unusedSimpArgs false
set_option linter.unusedVariables false
namespace Go.AM.Fd
open Nat (reduceAdd reduceEqDiff reduceLT reduceLeDiff reduceMul reduceSub)
open Go.Proofs Go.AM.F
theorem rejoin_len (c : UInt8) : ∀ l : List UInt8, (rejoin (splitB c l)).length = l.length + 1
  | [] => by simp [rejoin, splitB]
  | x :: l => by
    have ih := rejoin_len c l
    simp only [splitB]
    split
    · simp [rejoin] at ih ⊢; omega
    · split
      · rename_i p r hs; rw [hs] at ih; simp [rejoin] at ih ⊢; omega
      · rename_i hs; exact absurd hs (splitB_ne c l)
theorem rejoin_filter (p : List UInt8 → Bool) : ∀ ws : List (List UInt8), (rejoin (ws.filter p)).length ≤ (rejoin ws).length
  | [] => by simp [rejoin]
  | w :: ws => by
    have ih := rejoin_filter p ws
    rw [List.filter_cons]
    split
    · simp [rejoin] at ih ⊢; omega
    · simp [rejoin] at ih ⊢; omega
theorem rejoin_words (l : List UInt8) : (rejoin (wordsB l)).length ≤ l.length + 1 := by
  have h1 := rejoin_filter (fun t => !t.isEmpty) (splitB 32 l)
  have h2 := rejoin_len 32 l
  unfold wordsB
  omega
theorem rejoin_take {ws : List (List UInt8)} {i : Nat} (h : i < ws.length) : rejoin (ws.take (i + 1)) = rejoin (ws.take i) ++ [32] ++ ws.getD i [] := by
  rw [List.take_add_one, List.getElem?_eq_getElem h]
  simp only [Option.toList_some, List.getD, List.getElem?_eq_getElem h, Option.getD_some]
  rw [rejoin_snoc]; simp
theorem rejoin_le {ws : List (List UInt8)} (i : Nat) : (rejoin (ws.take i)).length ≤ (rejoin ws).length := by
  have : rejoin ws = rejoin (ws.take i) ++ rejoin (ws.drop i) := by
    unfold rejoin
    rw [← List.flatten_append, ← List.map_append, List.take_append_drop]
  rw [this, List.length_append]; omega
theorem getD_mem {w : List UInt8} {d : Nat} (h : d < w.length) : w.getD d 0 ∈ w := by
  simp only [List.getD, List.getElem?_eq_getElem h, Option.getD_some]
  exact List.getElem_mem h
theorem c6 (H : AHeap) (l : List UInt8) : ∃ w K, ARun Go.Proofs.Tryd.prog 3 6 [.string ⟨l.toArray⟩] H w K ∧ w = .bool true := by
  refine walk2 f6_ok f6_n ?_
  intro Q hq1 hq2
  by_cases hl : 2000 < l.length
  · have h1 : (2000 : Int) < ((l.length : Nat) : Int) := by omega
    simp (disch := first | assumption | omega | (simp only [LN] <;> omega) | (simp (disch := first | assumption | omega | (simp only [LN] <;> omega)) only [row_alloc, row_set]; assumption)) only [f6, W_block, P3, ↓reduceIte, reduceAdd, reduceEqDiff, reduceCtorEq, initFr, reduceLT, clsA, reduceLeDiff, reduceMul, reduceSub, reduceIte]
    refine callK (t12 H) ?_
    rintro _ K ⟨rfl, rfl⟩
    simp (disch := first | assumption | omega | (simp only [LN] <;> omega) | (simp (disch := first | assumption | omega | (simp only [LN] <;> omega)) only [row_alloc, row_set]; assumption)) only [W_block, P3, ↓reduceIte, reduceAdd, reduceEqDiff, reduceCtorEq, initFr, reduceLT, clsA, reduceLeDiff, reduceMul, reduceSub, reduceIte]
    exact hq2 _ _ ⟨_, rfl, rfl⟩
  have h1 : ¬ (2000 : Int) < ((l.length : Nat) : Int) := by omega
  have hal := ahead_len l
  show AM.W Go.Proofs.Tryd.prog 3 f6.body Q [.string ⟨l.toArray⟩, undef, undef, undef, undef, undef, undef, undef, undef, undef, undef, undef, undef, undef, undef, undef, undef, undef, undef] H
  refine W_part 3 (fun fr K => ∃ x2 x3 x12 x13, fr = [.string ⟨l.toArray⟩, .bool false, x2, x3, undef, undef, undef, undef, undef, undef, undef, .bool false, x12, x13, undef, undef, undef, undef, undef]) rfl ?_ ?_
  · intro Q' k1 k2 k3
    simp (disch := first | assumption | omega | (simp only [LN] <;> omega) | (simp (disch := first | assumption | omega | (simp only [LN] <;> omega)) only [row_alloc, row_set]; assumption)) only [f6, cpre, W_block, P3, ↓reduceIte, reduceAdd, reduceEqDiff, reduceCtorEq, initFr, reduceLT, clsA, reduceLeDiff, reduceMul, reduceSub, reduceIte]
    refine callK (t13 H l (by omega)) ?_
    rintro _ K ⟨rfl, rfl⟩
    cases hr : rightB l with
    | false =>
      simp (disch := first | assumption | omega | (simp only [LN] <;> omega) | (simp (disch := first | assumption | omega | (simp only [LN] <;> omega)) only [row_alloc, row_set]; assumption)) only [W_block, P3, ↓reduceIte, reduceAdd, reduceEqDiff, reduceCtorEq, initFr, reduceLT, clsA, reduceLeDiff, reduceMul, reduceSub, reduceIte]
      exact k1 _ _ ⟨_, _, _, _, rfl⟩
    | true =>
      obtain ⟨ho, hw⟩ := right_words hr
      simp (disch := first | assumption | omega | (simp only [LN] <;> omega) | (simp (disch := first | assumption | omega | (simp only [LN] <;> omega)) only [row_alloc, row_set]; assumption)) only [W_block, P3, ↓reduceIte, reduceAdd, reduceEqDiff, reduceCtorEq, initFr, reduceLT, clsA, reduceLeDiff, reduceMul, reduceSub, reduceIte]
      refine callK (t15 K l (by omega)) ?_
      rintro w K2 ⟨kk, hres⟩
      rw [ho, hw] at hres
      simp only [if_true] at hres
      obtain ⟨v1, rfl, av, _⟩ := hres
      rcases av with ⟨_, hz, _⟩ | ⟨b, room, rfl, _, hget⟩
      · simp at hz
      have e1 : ((([l].length : Nat) : Int) != 1) = false := by simp
      have hc : cellO (K2.get b) 0 = some (.string ⟨l.toArray⟩) := by rw [hget]; rfl
      have hd : decide (l = l) = true := by simp
      simp (disch := first | assumption | omega | (simp only [LN] <;> omega) | (simp (disch := first | assumption | omega | (simp only [LN] <;> omega)) only [row_alloc, row_set]; assumption)) only [W_block, P3, ↓reduceIte, reduceAdd, reduceEqDiff, reduceCtorEq, initFr, reduceLT, clsA, reduceLeDiff, reduceMul, reduceSub, reduceIte, e1, hc, bytes_eq, hd]
      exact k1 _ _ ⟨_, _, _, _, rfl⟩
  · rintro fr K ⟨x2, x3, x12, x13, rfl⟩
    simp (disch := first | assumption | omega | (simp only [LN] <;> omega) | (simp (disch := first | assumption | omega | (simp only [LN] <;> omega)) only [row_alloc, row_set]; assumption)) only [f6, cpost, W_block, P3, ↓reduceIte, reduceAdd, reduceEqDiff, reduceCtorEq, initFr, reduceLT, clsA, reduceLeDiff, reduceMul, reduceSub, reduceIte]
    refine callK (t15 K l (by omega)) ?_
    rintro w K1 ⟨k1, hw⟩
    cases ho : okW (aheadB l) with
    | false =>
      rw [ho] at hw
      simp only [Bool.false_eq_true, if_false] at hw
      subst hw
      simp (disch := first | assumption | omega | (simp only [LN] <;> omega) | (simp (disch := first | assumption | omega | (simp only [LN] <;> omega)) only [row_alloc, row_set]; assumption)) only [W_block, P3, ↓reduceIte, reduceAdd, reduceEqDiff, reduceCtorEq, initFr, reduceLT, clsA, reduceLeDiff, reduceMul, reduceSub, reduceIte]
      refine callK (t12 _) ?_
      rintro _ K ⟨rfl, rfl⟩
      simp (disch := first | assumption | omega | (simp only [LN] <;> omega) | (simp (disch := first | assumption | omega | (simp only [LN] <;> omega)) only [row_alloc, row_set]; assumption)) only [W_block, P3, ↓reduceIte, reduceAdd, reduceEqDiff, reduceCtorEq, initFr, reduceLT, clsA, reduceLeDiff, reduceMul, reduceSub, reduceIte]
      exact hq2 _ _ ⟨_, rfl, rfl⟩
    | true =>
      rw [ho] at hw
      simp only [if_true] at hw
      obtain ⟨vw, rfl, av, _⟩ := hw
      obtain ⟨ag1, ag2⟩ := again ho
      have hwl := wordsB_len (aheadB l)
      have h35 := ahead_no l
      have hmem : ∀ w ∈ wordsB (aheadB l), w ≠ [] ∧ 32 ∉ w ∧ 35 ∉ w := fun w hw => by
        obtain ⟨m1, m2, m3⟩ := words_mem hw
        exact ⟨m1, m2, fun h => h35 (m3 35 h)⟩
      have hrl := rejoin_words (aheadB l)
      obtain ⟨ws, hws⟩ : ∃ ws, wordsB (aheadB l) = ws := ⟨_, rfl⟩
      rw [hws] at av hwl hmem ag1 ag2 hrl
      have htl := AP.tl av
      have ll := htl.len
      have il := Sl.is htl
      simp (disch := first | assumption | omega | (simp only [LN] <;> omega) | (simp (disch := first | assumption | omega | (simp only [LN] <;> omega)) only [row_alloc, row_set]; assumption)) only [ P3, ↓reduceIte, reduceAdd, reduceEqDiff, reduceCtorEq, initFr, reduceLT, clsA, reduceLeDiff, reduceMul, reduceSub, reduceIte]
      rw [W_block]
      refine W_loop2 (fun k fr M => ∃ i x8 x15 x16 x17 x18, fr = [.string ⟨l.toArray⟩, .bool false, x2, x3, vw, .int .i64 0, .string ⟨(rejoin (ws.take i)).toArray⟩, .int .i64 ((i : Nat) : Int), x8, undef, undef, .bool false, x12, x13, .bool false, x15, x16, x17, x18] ∧ M = K1 ∧ i ≤ ws.length ∧ k = ws.length - i) ws.length
        ⟨0, _, _, _, _, _, rfl, rfl, by omega, rfl⟩ ?_
      rintro Q' k fr M ⟨i, x8, x15, x16, x17, x18, rfl, rfl, hi, rfl⟩ hn hx hret
      by_cases hlt : i < ws.length
      · obtain ⟨na, ra⟩ := htl.at_ hlt
        unfold tRow at ra
        have hrt := rejoin_take hlt
        have hle := rejoin_le (ws := ws) (i + 1)
        have c0 : (0 : Int) ≤ ((i : Nat) : Int) := by omega
        have c1 : ((i : Nat) : Int) < ((ws.length : Nat) : Int) := by omega
        have c2 : ((i : Nat) : Int) < ((lenS vw : Nat) : Int) := by omega
        have hwi : IntKind.i64.wrap ((i : Int) + 1) = ((i + 1 : Nat) : Int) := by rw [wrap_i64 (by omega) (by omega)]; simp
        have hmw : ws.getD i [] ∈ ws := by
          simp only [List.getD, List.getElem?_eq_getElem hlt, Option.getD_some]; exact List.getElem_mem hlt
        obtain ⟨w, hw⟩ : ∃ w, ws.getD i [] = w := ⟨_, rfl⟩
        rw [hw] at ra hrt hmw
        obtain ⟨m1, m2, m3⟩ := hmem w hmw
        have hlen : (rejoin (ws.take i)).length + 1 + w.length ≤ 2001 := by
          have h2 := congrArg List.length hrt
          rw [List.length_append, List.length_append] at h2
          simp only [List.length_cons, List.length_nil] at h2
          omega
        simp (disch := first | assumption | omega | (simp only [LN] <;> omega) | (simp (disch := first | assumption | omega | (simp only [LN] <;> omega)) only [row_alloc, row_set]; assumption)) only [ P3, ↓reduceIte, reduceAdd, reduceEqDiff, reduceCtorEq, initFr, reduceLT, clsA, reduceLeDiff, reduceMul, reduceSub, reduceIte, ll]
        rw [W_block]
        simp (disch := first | assumption | omega | (simp only [LN] <;> omega) | (simp (disch := first | assumption | omega | (simp only [LN] <;> omega)) only [row_alloc, row_set]; assumption)) only [ P3, ↓reduceIte, reduceAdd, reduceEqDiff, reduceCtorEq, initFr, reduceLT, clsA, reduceLeDiff, reduceMul, reduceSub, reduceIte]
        rw [W_block]
        refine W_loop2 (fun k fr N => ∃ d y16 y17, fr = [.string ⟨l.toArray⟩, .bool false, x2, x3, vw, .int .i64 0, .string ⟨(rejoin (ws.take i)).toArray⟩, .int .i64 ((i : Nat) : Int), .int .i64 ((d : Nat) : Int), undef, undef, .bool false, x12, x13, .bool false, .bool true, y16, y17, x18] ∧ N = M ∧ d ≤ w.length ∧ k = w.length - d) w.length
          ⟨0, _, _, rfl, rfl, by omega, rfl⟩ ?_
        rintro Q3 k fr N ⟨d, y16, y17, rfl, rfl, hd, rfl⟩ hn3 hx3 hret3
        by_cases hdn : d < w.length
        · have d1 : ((d : Nat) : Int) < ((w.length : Nat) : Int) := by omega
          have hwd : IntKind.i64.wrap ((d : Int) + 1) = ((d + 1 : Nat) : Int) := by rw [wrap_i64 (by omega) (by omega)]; simp
          have hgm := getD_mem hdn
          have e1 : ((((w.getD d 0).toNat : Nat) : Int) == 32) = false := by
            have : ((((w.getD d 0).toNat : Nat) : Int) == 32) = (w.getD d 0 == 32) := u8_eqi (w.getD d 0) 32 (by omega)
            rw [this, beq_eq_false_iff_ne]
            intro e; rw [e] at hgm; exact m2 hgm
          have e2 : ((((w.getD d 0).toNat : Nat) : Int) == 35) = false := by
            have : ((((w.getD d 0).toNat : Nat) : Int) == 35) = (w.getD d 0 == 35) := u8_eqi (w.getD d 0) 35 (by omega)
            rw [this, beq_eq_false_iff_ne]
            intro e; rw [e] at hgm; exact m3 hgm
          simp (disch := first | assumption | omega | (simp only [LN] <;> omega) | (simp (disch := first | assumption | omega | (simp only [LN] <;> omega)) only [row_alloc, row_set]; assumption)) only [W_block, P3, ↓reduceIte, reduceAdd, reduceEqDiff, reduceCtorEq, initFr, reduceLT, clsA, reduceLeDiff, reduceMul, reduceSub, reduceIte, ra, na, a_load1v, a_idxS, e1, e2, hwd]
          exact hn3 _ _ _ ⟨d + 1, _, _, rfl, rfl, by omega, rfl⟩ (by omega)
        · have d1 : ¬ ((d : Nat) : Int) < ((w.length : Nat) : Int) := by omega
          simp (disch := first | assumption | omega | (simp only [LN] <;> omega) | (simp (disch := first | assumption | omega | (simp only [LN] <;> omega)) only [row_alloc, row_set]; assumption)) only [W_block, P3, ↓reduceIte, reduceAdd, reduceEqDiff, reduceCtorEq, initFr, reduceLT, clsA, reduceLeDiff, reduceMul, reduceSub, reduceIte, ra, na, a_load1v]
          refine hx3 2 _ _ ?_
          have e3 : decide (w = []) = false := by simpa using m1
          have hb1 : binA .add (.string ⟨(rejoin (ws.take i)).toArray⟩) (.string ⟨[32].toArray⟩) = some (.string ⟨(rejoin (ws.take i) ++ [32]).toArray⟩) := b_addS (by simp; omega)
          have hb2 : binA .add (.string ⟨(rejoin (ws.take i) ++ [32]).toArray⟩) (.string ⟨w.toArray⟩) = some (.string ⟨(rejoin (ws.take i) ++ [32] ++ w).toArray⟩) := b_addS (by simp; omega)
          simp (disch := first | assumption | omega | (simp only [LN] <;> omega) | (simp (disch := first | assumption | omega | (simp only [LN] <;> omega)) only [row_alloc, row_set]; assumption)) only [W_block, P3, ↓reduceIte, reduceAdd, reduceEqDiff, reduceCtorEq, initFr, reduceLT, clsA, reduceLeDiff, reduceMul, reduceSub, reduceIte, ra, na, a_load1v, str_emp, bytes_eq, e3, hb1, hb2, hwi]
          exact hn _ _ _ ⟨i + 1, _, _, _, _, _, by rw [hrt], rfl, by omega, rfl⟩ (by omega)
      · have c1 : ¬ ((i : Nat) : Int) < ((ws.length : Nat) : Int) := by omega
        simp (disch := first | assumption | omega | (simp only [LN] <;> omega) | (simp (disch := first | assumption | omega | (simp only [LN] <;> omega)) only [row_alloc, row_set]; assumption)) only [W_block, P3, ↓reduceIte, reduceAdd, reduceEqDiff, reduceCtorEq, initFr, reduceLT, clsA, reduceLeDiff, reduceMul, reduceSub, reduceIte, ll]
        refine hx 0 _ _ ?_
        rw [List.take_of_length_le (by omega : ws.length ≤ i)]
        have hb3 : binA .add (.string ⟨(rejoin ws).toArray⟩) (.string ⟨[32, 35, 32, 120].toArray⟩) = some (.string ⟨(rejoin ws ++ [32, 35, 32, 120]).toArray⟩) := b_addS (by simp; omega)
        simp (disch := first | assumption | omega | (simp only [LN] <;> omega) | (simp (disch := first | assumption | omega | (simp only [LN] <;> omega)) only [row_alloc, row_set]; assumption)) only [W_block, P3, ↓reduceIte, reduceAdd, reduceEqDiff, reduceCtorEq, initFr, reduceLT, clsA, reduceLeDiff, reduceMul, reduceSub, reduceIte, hb3]
        refine callK (t15 M (rejoin ws ++ [32, 35, 32, 120]) (by simp; omega)) ?_
        rintro w2 K2 ⟨k2, hw2⟩
        rw [ag1, ag2] at hw2
        simp only [if_true] at hw2
        obtain ⟨v2, rfl, av2, _⟩ := hw2
        simp (disch := first | assumption | omega | (simp only [LN] <;> omega) | (simp (disch := first | assumption | omega | (simp only [LN] <;> omega)) only [row_alloc, row_set]; assumption)) only [W_block, P3, ↓reduceIte, reduceAdd, reduceEqDiff, reduceCtorEq, initFr, reduceLT, clsA, reduceLeDiff, reduceMul, reduceSub, reduceIte]
        refine callK (t17 (htl.keeps k2) (AP.tl av2) (by omega)) ?_
        rintro _ K3 ⟨rfl, rfl⟩
        have he : decide (ws = ws) = true := by simp
        simp (disch := first | assumption | omega | (simp only [LN] <;> omega) | (simp (disch := first | assumption | omega | (simp only [LN] <;> omega)) only [row_alloc, row_set]; assumption)) only [W_block, P3, ↓reduceIte, reduceAdd, reduceEqDiff, reduceCtorEq, initFr, reduceLT, clsA, reduceLeDiff, reduceMul, reduceSub, reduceIte, he]
        refine callK (t12 _) ?_
        rintro _ K4 ⟨rfl, rfl⟩
        simp (disch := first | assumption | omega | (simp only [LN] <;> omega) | (simp (disch := first | assumption | omega | (simp only [LN] <;> omega)) only [row_alloc, row_set]; assumption)) only [W_block, P3, ↓reduceIte, reduceAdd, reduceEqDiff, reduceCtorEq, initFr, reduceLT, clsA, reduceLeDiff, reduceMul, reduceSub, reduceIte]
        exact hq2 _ _ ⟨_, rfl, rfl⟩
end Go.AM.Fd

set_option linter.unusedSimpArgs false
set_option linter.unusedVariables false
namespace Go.AM.Fd
open Nat (reduceAdd reduceEqDiff reduceLT reduceLeDiff reduceMul reduceSub)
open Go.Proofs Go.AM.F
theorem fold_join : ∀ (ts : List (List UInt8)) (acc : List (List (List UInt8))), acc ≠ [] → joinB [58] (ts.foldl grp acc).reverse = joinB [58] acc.reverse ++ ts
  | [], acc, _ => by simp
  | t :: ts, acc, h => by
    rw [List.foldl_cons]
    have hne : grp acc t ≠ [] := by
      unfold grp; split
      · simp
      · split <;> simp
    rw [fold_join ts _ hne]
    have : joinB [58] (grp acc t).reverse = joinB [58] acc.reverse ++ [t] := by
      unfold grp
      split
      · rename_i ht
        rw [List.reverse_cons, joinB_snoc _ _ _ (by simpa using h), ht]
      · cases acc with
        | nil => exact absurd rfl h
        | cons g r =>
          simp only [List.reverse_cons]
          by_cases hr : r = []
          · subst hr; simp [joinB]
          · rw [joinB_snoc _ _ _ (by simpa using hr), joinB_snoc _ _ _ (by simpa using hr)]; simp
    rw [this]; simp
theorem join_groups (ts : List (List UInt8)) : joinB [58] (groupsB ts) = ts := by
  unfold groupsB
  rw [fold_join ts [[]] (by simp)]
  simp [joinB]
theorem fold_len : ∀ (ts : List (List UInt8)) (acc : List (List (List UInt8))), (ts.foldl grp acc).length ≤ acc.length + ts.length + 1
  | [], acc => by simp
  | t :: ts, acc => by
    have h1 := fold_len ts (grp acc t)
    have h2 : (grp acc t).length ≤ acc.length + 1 := by
      unfold grp; split
      · simp
      · split <;> simp
    rw [List.foldl_cons, List.length_cons]; omega
theorem groups_len (ts : List (List UInt8)) : (groupsB ts).length ≤ ts.length + 2 := by
  unfold groupsB
  rw [List.length_reverse]
  have := fold_len ts [[]]
  simp at this ⊢; omega
structure GI (H : AHeap) (v : Value) (W : List Row) : Prop where
  out : AP H 25 1 v W.length (W.map (·.1))
  row : ∀ i (h : i < W.length), AP H 9 1 W[i].1 W[i].2.length (txs W[i].2)
  ap : ∀ w ∈ W, ∀ b, blk v = some b → blk w.1 ≠ some b
theorem GS.gi {N : Nat} {H : AHeap} {v : Value} {ws : List Row} (h : GS N H v ws ws) : GI H v ws.reverse := by
  refine ⟨?_, ?_, ?_⟩
  · have := h.out
    simpa [outC] using this
  · intro i hi
    have hm : ws.reverse[i] ∈ ws := List.mem_reverse.1 (List.getElem_mem hi)
    exact h.1.all (thG ws.reverse[i]) (by simp only [List.mem_cons, List.mem_map]; exact .inr ⟨_, hm, rfl⟩)
  · intro w hw b hb e
    have hm : w ∈ ws := by simpa using hw
    exact (List.pairwise_cons.1 h.1.ap).1 (thG w) (List.mem_map.2 ⟨w, hm, rfl⟩) b (mem_blkL.2 hb) (mem_blkL.2 e)
theorem GI.keeps {H K : AHeap} {v : Value} {W : List Row} (h : GI H v W) (k : Keeps H K) : GI K v W := ⟨h.out.keeps k, fun i hi => (h.row i hi).keeps k, h.ap⟩
theorem GI.at_ {H : AHeap} {v : Value} {W : List Row} (h : GI H v W) {i : Nat} (hi : i < W.length) : nnS v = true ∧ lenS v = W.length ∧ rowA H 1 v i = some [W[i].1] := by
  rcases h.out with ⟨_, hz, _⟩ | ⟨b, room, rfl, hlen, hget⟩
  · omega
  · refine ⟨rfl, rfl, ?_⟩
    simp only [rowA, slc, rangeA, hget]
    rw [if_pos (by simp; omega)]
    congr 1
    rw [Nat.zero_add, Nat.mul_one, List.drop_eq_getElem_cons (by simpa using hi)]
    simp
theorem AP.lenS {H : AHeap} {e esz : Nat} {v : Value} {n : Nat} {c : List Value} (h : AP H e esz v n c) : Go.AM.lenS v = n ∧ isS v = true := by
  obtain ⟨a, rfl⟩ := h.shape; exact ⟨rfl, rfl⟩
theorem take_joinG {gs : List (List (List UInt8))} {i : Nat} (h : i < gs.length) : joinB [58] (gs.take (i + 1)) = (if i = 0 then [] else joinB [58] (gs.take i) ++ [[58]]) ++ gs[i] := by
  rw [List.take_add_one, List.getElem?_eq_getElem h]
  simp only [Option.toList_some]
  by_cases h0 : i = 0
  · subst h0; simp [joinB]
  · rw [if_neg h0, joinB_snoc]
    · simp
    · intro e
      have h2 : (gs.take i).length = 0 := by rw [e]; rfl
      rw [List.length_take] at h2; omega
theorem txs_flat (ts : List (List UInt8)) : (ts.map tRow).flatten = txs ts := by
  induction ts with
  | nil => rfl
  | cons t ts ih => simp only [List.map_cons, List.flatten_cons, ih]; rfl
structure GW (K M : AHeap) (S : List Nat) (v : Value) (W : List Row) : Prop where
  chg : Chg S K M
  out : AP M 25 1 v W.length (W.map (·.1))
  row : ∀ i (h : i < W.length), ∃ c, AP M 9 1 W[i].1 W[i].2.length c
theorem GW.put {K M : AHeap} {S : List Nat} {v : Value} {W : List Row} (h : GW K M S v W) {b : Nat} {room : Bool} {c : List Value} (hg : M.get b = some (.cells true room 1 c 9)) (hS : b ∈ S) (hv : blk v ≠ some b) (k : Nat) (x : Value) : GW K (M.set b (.cells true room 1 (c.set k x) 9)) S v W := by
  have hb := AHeap.get_lt hg
  refine ⟨h.chg.set' (.inr hS) hb _, h.out.chg (Chg.set M hb _) (fun y hy e => hv (by simp at e; subst e; exact mem_blkL.1 hy)), fun i hi => ?_⟩
  obtain ⟨c2, h2⟩ := h.row i hi
  rcases h2 with ⟨h3, h4, h5⟩ | ⟨b2, room2, h3, h4, h5⟩
  · exact ⟨c2, .inl ⟨h3, h4, h5⟩⟩
  · by_cases e : b2 = b
    · subst e
      rw [hg] at h5; cases h5
      exact ⟨_, .inr ⟨b2, room, h3, by rw [List.length_set]; exact h4, AHeap.get_set_same hg _⟩⟩
    · exact ⟨c2, .inr ⟨b2, room2, h3, h4, by rw [AHeap.get_set_other M e hb]; exact h5⟩⟩
theorem GW.at_ {K M : AHeap} {S : List Nat} {v : Value} {W : List Row} (h : GW K M S v W) {i : Nat} (hi : i < W.length) : nnS v = true ∧ lenS v = W.length ∧ rowA M 1 v i = some [W[i].1] := by
  rcases h.out with ⟨_, hz, _⟩ | ⟨b, room, rfl, hlen, hget⟩
  · omega
  · refine ⟨rfl, rfl, ?_⟩
    simp only [rowA, slc, rangeA, hget]
    rw [if_pos (by simp; omega)]
    congr 1
    rw [Nat.zero_add, Nat.mul_one, List.drop_eq_getElem_cons (by simpa using hi)]
    simp
theorem t7 {H : AHeap} {vl : Value} {ts : List (List UInt8)} (htl : TL H vl ts) : ∃ w K, ARun Go.Proofs.Tryd.prog 3 7 [vl] H w K ∧ w = .bool true := by
  have ll := htl.len
  have il := Sl.is htl
  refine walk2 f7_ok f7_n ?_
  intro Q hq1 hq2
  by_cases hl : 300 < ts.length
  · have h1 : (300 : Int) < ((ts.length : Nat) : Int) := by omega
    simp (disch := first | assumption | omega | (simp only [LN] <;> omega) | (simp (disch := first | assumption | omega | (simp only [LN] <;> omega)) only [row_alloc, row_set]; assumption)) only [f7, W_block, P3, ↓reduceIte, reduceAdd, reduceEqDiff, reduceCtorEq, initFr, reduceLT, clsA, reduceLeDiff, reduceMul, reduceSub, reduceIte, ll]
    refine callK (t12 H) ?_
    rintro _ K ⟨rfl, rfl⟩
    simp (disch := first | assumption | omega | (simp only [LN] <;> omega) | (simp (disch := first | assumption | omega | (simp only [LN] <;> omega)) only [row_alloc, row_set]; assumption)) only [W_block, P3, ↓reduceIte, reduceAdd, reduceEqDiff, reduceCtorEq, initFr, reduceLT, clsA, reduceLeDiff, reduceMul, reduceSub, reduceIte]
    exact hq2 _ _ ⟨_, rfl, rfl⟩
  have h1 : ¬ (300 : Int) < ((ts.length : Nat) : Int) := by omega
  simp (disch := first | assumption | omega | (simp only [LN] <;> omega) | (simp (disch := first | assumption | omega | (simp only [LN] <;> omega)) only [row_alloc, row_set]; assumption)) only [ f7, P3, ↓reduceIte, reduceAdd, reduceEqDiff, reduceCtorEq, initFr, reduceLT, clsA, reduceLeDiff, reduceMul, reduceSub, reduceIte, ll]
  rw [W_block]
  refine W_loop2 (fun k fr M => ∃ i x11 x12, fr = [vl, .bool false, .int .i64 ((i : Nat) : Int), undef, undef, undef, undef, undef, undef, undef, .bool false, x11, x12, undef, undef, undef, undef, undef, undef] ∧ M = H ∧ i ≤ ts.length ∧ k = ts.length - i) ts.length
    ⟨0, _, _, rfl, rfl, by omega, rfl⟩ ?_
  rintro Q' k fr M ⟨i, x11, x12, rfl, rfl, hi, rfl⟩ hn hx hret
  by_cases hlt : i < ts.length
  · obtain ⟨na, ra⟩ := htl.at_ hlt
    unfold tRow at ra
    have c0 : (0 : Int) ≤ ((i : Nat) : Int) := by omega
    have c1 : ((i : Nat) : Int) < ((ts.length : Nat) : Int) := by omega
    have c2 : ((i : Nat) : Int) < ((lenS vl : Nat) : Int) := by omega
    have hw : IntKind.i64.wrap ((i : Int) + 1) = ((i + 1 : Nat) : Int) := by rw [wrap_i64 (by omega) (by omega)]; simp
    by_cases h40 : 40 < (ts.getD i []).length
    · have c3 : (40 : Int) < (((ts.getD i []).length : Nat) : Int) := by omega
      simp (disch := first | assumption | omega | (simp only [LN] <;> omega) | (simp (disch := first | assumption | omega | (simp only [LN] <;> omega)) only [row_alloc, row_set]; assumption)) only [W_block, P3, ↓reduceIte, reduceAdd, reduceEqDiff, reduceCtorEq, initFr, reduceLT, clsA, reduceLeDiff, reduceMul, reduceSub, reduceIte, ll, ra, na, a_load1v]
      refine callK (t12 M) ?_
      rintro _ K ⟨rfl, rfl⟩
      simp (disch := first | assumption | omega | (simp only [LN] <;> omega) | (simp (disch := first | assumption | omega | (simp only [LN] <;> omega)) only [row_alloc, row_set]; assumption)) only [W_block, P3, ↓reduceIte, reduceAdd, reduceEqDiff, reduceCtorEq, initFr, reduceLT, clsA, reduceLeDiff, reduceMul, reduceSub, reduceIte]
      exact hret _ _ (hq2 _ _ ⟨_, rfl, rfl⟩)
    · have c3 : ¬ (40 : Int) < (((ts.getD i []).length : Nat) : Int) := by omega
      simp (disch := first | assumption | omega | (simp only [LN] <;> omega) | (simp (disch := first | assumption | omega | (simp only [LN] <;> omega)) only [row_alloc, row_set]; assumption)) only [W_block, P3, ↓reduceIte, reduceAdd, reduceEqDiff, reduceCtorEq, initFr, reduceLT, clsA, reduceLeDiff, reduceMul, reduceSub, reduceIte, ll, ra, na, a_load1v, hw]
      exact hn _ _ _ ⟨i + 1, _, _, rfl, rfl, by omega, rfl⟩ (by omega)
  have c1 : ¬ ((i : Nat) : Int) < ((ts.length : Nat) : Int) := by omega
  simp (disch := first | assumption | omega | (simp only [LN] <;> omega) | (simp (disch := first | assumption | omega | (simp only [LN] <;> omega)) only [row_alloc, row_set]; assumption)) only [W_block, P3, ↓reduceIte, reduceAdd, reduceEqDiff, reduceCtorEq, initFr, reduceLT, clsA, reduceLeDiff, reduceMul, reduceSub, reduceIte, ll]
  refine hx 0 _ _ ?_
  obtain ⟨i', hi0⟩ : ∃ i', i = i' := ⟨_, rfl⟩
  rw [hi0]
  clear hn hret hx
  -- the law's own copy
  have hel : elemsA M 1 vl = some (txs ts) := by
    have h2 := htl.el
    rw [txs_flat] at h2; exact h2
  obtain ⟨va, vk, hvl⟩ := htl.sh
  rw [List.length_map] at hvl
  simp (disch := first | assumption | omega | (simp only [LN] <;> omega) | (simp (disch := first | assumption | omega | (simp only [LN] <;> omega)) only [row_alloc, row_set]; assumption)) only [ P3, ↓reduceIte, reduceAdd, reduceEqDiff, reduceCtorEq, initFr, reduceLT, clsA, reduceLeDiff, reduceMul, reduceSub, reduceIte]
  refine appG (n := 0) (c := []) (.inl ⟨rfl, rfl, rfl⟩) ⟨_, _, hvl⟩ hel (by rw [txs_len]; omega) (by omega) ?_
  intro ow K1 ao ch1 bo
  rw [List.nil_append, Nat.zero_add] at ao
  have k1 : Keeps M K1 := ch1.keeps (by simp [blkL, blk])
  have hgl := groups_len ts
  have hjg := join_groups ts
  simp (disch := first | assumption | omega | (simp only [LN] <;> omega) | (simp (disch := first | assumption | omega | (simp only [LN] <;> omega)) only [row_alloc, row_set]; assumption)) only [ P3, ↓reduceIte, reduceAdd, reduceEqDiff, reduceCtorEq, initFr, reduceLT, clsA, reduceLeDiff, reduceMul, reduceSub, reduceIte]
  refine callK (t18 (AP.tl ao) (by omega)) ?_
  rintro gv K2 ⟨k2, wg, hG, hgs⟩
  simp (disch := first | assumption | omega | (simp only [LN] <;> omega) | (simp (disch := first | assumption | omega | (simp only [LN] <;> omega)) only [row_alloc, row_set]; assumption)) only [ P3, ↓reduceIte, reduceAdd, reduceEqDiff, reduceCtorEq, initFr, reduceLT, clsA, reduceLeDiff, reduceMul, reduceSub, reduceIte]
  refine callK (t19 ((htl.keeps k1).keeps k2) (by omega)) ?_
  rintro hv2 K3 ⟨k3, wh, hH, hhs⟩
  obtain ⟨W, hW⟩ : ∃ W, wg.reverse = W := ⟨_, rfl⟩
  obtain ⟨V, hV⟩ : ∃ V, wh.reverse = V := ⟨_, rfl⟩
  have gi := hG.gi
  have hi' := hH.gi
  rw [hW] at gi
  rw [hV] at hi'
  have eW : W.map (·.2) = groupsB ts := by rw [← hW, List.map_reverse]; exact hgs
  have eV : V.map (·.2) = groupsB ts := by rw [← hV, List.map_reverse]; exact hhs
  have lW : W.length = (groupsB ts).length := by rw [← eW, List.length_map]
  have lV : V.length = (groupsB ts).length := by rw [← eV, List.length_map]
  have gi3 := gi.keeps k3
  obtain ⟨ls1, is1⟩ := AP.lenS gi3.out
  obtain ⟨ls2, is2⟩ := AP.lenS hi'.out
  have e1 : (((W.length : Nat) : Int) != ((V.length : Nat) : Int)) = false := by rw [lW, lV]; simp
  simp (disch := first | assumption | omega | (simp only [LN] <;> omega) | (simp (disch := first | assumption | omega | (simp only [LN] <;> omega)) only [row_alloc, row_set]; assumption)) only [ P3, ↓reduceIte, reduceAdd, reduceEqDiff, reduceCtorEq, initFr, reduceLT, clsA, reduceLeDiff, reduceMul, reduceSub, reduceIte, ls1, ls2, e1]
  rw [W_block]
  refine W_loop2 (fun k fr N => ∃ i rv rt y11 x13 x14 x15 x16, fr = [vl, .bool false, .int .i64 ((i' : Nat) : Int), ow, gv, hv2, rv, .int .i64 ((i : Nat) : Int), undef, undef, .bool false, y11, x12, x13, x14, x15, x16, undef, undef] ∧ Keeps K3 N ∧
      AP N 9 1 rv rt.length (txs rt) ∧ Fresh K3.n rv ∧ rt = joinB [58] ((groupsB ts).take i) ∧ i ≤ W.length ∧ k = W.length - i) W.length
    ⟨0, _, [], _, _, _, _, _, rfl, Keeps.refl K3, .inl ⟨rfl, rfl, rfl⟩, (fun b hb => by cases hb), rfl, by omega, rfl⟩ ?_
  rintro Q' k fr N ⟨i, rv, rt, y11, x13, x14, x15, x16, rfl, hkN, ar, fr3, hrt, hi, rfl⟩ hn hx hret
  have hkn := hkN.n
  have hrl : rt.length ≤ ts.length := by
    have := joinB_len [58] ((groupsB ts).take i) ((groupsB ts).drop i)
    rw [List.take_append_drop, hjg] at this
    rw [hrt]; exact this
  by_cases hlt : i < W.length
  · have giN := gi3.keeps hkN
    have hiN := hi'.keeps hkN
    obtain ⟨n1, s1, r1⟩ := giN.at_ hlt
    have hltV : i < V.length := by omega
    obtain ⟨n2, s2, r2⟩ := hiN.at_ hltV
    have hltG : i < (groupsB ts).length := by omega
    have c0 : (0 : Int) ≤ ((i : Nat) : Int) := by omega
    have c1 : ((i : Nat) : Int) < ((W.length : Nat) : Int) := by omega
    have c2 : ((i : Nat) : Int) < ((lenS gv : Nat) : Int) := by omega
    have c3 : ((i : Nat) : Int) < ((lenS hv2 : Nat) : Int) := by omega
    have hw : IntKind.i64.wrap ((i : Int) + 1) = ((i + 1 : Nat) : Int) := by rw [wrap_i64 (by omega) (by omega)]; simp
    obtain ⟨g, hg⟩ : ∃ g, (groupsB ts)[i] = g := ⟨_, rfl⟩
    have eWi : W[i].2 = g := by
      have : (W.map (·.2))[i]'(by simpa using hlt) = g := by simp only [eW, hg]
      simpa using this
    have eVi : V[i].2 = g := by
      have : (V.map (·.2))[i]'(by simpa using hltV) = g := by simp only [eV, hg]
      simpa using this
    have hj1 := take_joinG hltG
    rw [← hrt, hg] at hj1
    have hjl : (joinB [58] ((groupsB ts).take (i + 1))).length ≤ ts.length := by
      have := joinB_len [58] ((groupsB ts).take (i + 1)) ((groupsB ts).drop (i + 1))
      rw [List.take_append_drop, hjg] at this
      exact this
    have a1 := giN.row i hlt
    have a2 := hiN.row i hltV
    rw [eWi] at a1
    rw [eVi] at a2
    obtain ⟨u1, hu1⟩ : ∃ u, W[i].1 = u := ⟨_, rfl⟩
    obtain ⟨u2, hu2⟩ : ∃ u, V[i].1 = u := ⟨_, rfl⟩
    rw [hu1] at r1 a1
    rw [hu2] at r2 a2
    obtain ⟨q1, q2⟩ := AP.lenS a1
    simp (disch := first | assumption | omega | (simp only [LN] <;> omega) | (simp (disch := first | assumption | omega | (simp only [LN] <;> omega)) only [row_alloc, row_set]; assumption)) only [W_block, P3, ↓reduceIte, reduceAdd, reduceEqDiff, reduceCtorEq, initFr, reduceLT, clsA, reduceLeDiff, reduceMul, reduceSub, reduceIte, ls1, r1, r2, n1, n2, a_load1v]
    have hgl2 : g.length ≤ ts.length := by
      have h2 := hjl
      rw [hj1, List.length_append] at h2
      omega
    obtain ⟨_, H9, r, rfl, h9⟩ := t17 (AP.tl a1) (AP.tl a2) (by omega)
    obtain rfl := h9.symm
    refine ⟨_, _, r, trivial, ?_⟩
    clear r
    have he : decide (g = g) = true := by simp
    by_cases hz : i = 0
    · subst hz
      have c4 : ¬ (0 : Int) < (((0 : Nat) : Int)) := by omega
      have hrt0 : rt = [] := by rw [hrt]; rfl
      subst hrt0
      simp (disch := first | assumption | omega | (simp only [LN] <;> omega) | (simp (disch := first | assumption | omega | (simp only [LN] <;> omega)) only [row_alloc, row_set]; assumption)) only [W_block, P3, ↓reduceIte, reduceAdd, reduceEqDiff, reduceCtorEq, initFr, reduceLT, clsA, reduceLeDiff, reduceMul, reduceSub, reduceIte, he, ls1, r1, n1, a_load1v]
      obtain ⟨sa, hsa⟩ := a1.shape
      refine appG ar ⟨_, _, hsa⟩ a1.elems (by rw [txs_len]; omega) (by simp; omega) ?_
      intro rv' N2 a3 ch3 b3
      simp (disch := first | assumption | omega | (simp only [LN] <;> omega) | (simp (disch := first | assumption | omega | (simp only [LN] <;> omega)) only [row_alloc, row_set]; assumption)) only [W_block, P3, ↓reduceIte, reduceAdd, reduceEqDiff, reduceCtorEq, initFr, reduceLT, clsA, reduceLeDiff, reduceMul, reduceSub, reduceIte, hw]
      refine hn _ _ _ ⟨1, rv', g, _, _, _, _, _, rfl, hkN.chg_trans ch3 fr3.L, by simpa [txs] using a3, fr3.app hkn b3, by rw [hj1]; simp, by omega, rfl⟩ (by omega)
    · have c4 : (0 : Int) < ((i : Nat) : Int) := by omega
      rw [if_neg hz] at hj1
      have hfl : fillA [.string ByteArray.empty] [(0, 1, .string ⟨#[58]⟩)] = some [.string ⟨[58].toArray⟩] := rfl
      have ho1 : [Value.string ⟨[58].toArray⟩].all Value.oneCell' = true := rfl
      have k4 := (Keeps.refl N).alloc (.cells true false 1 [.string ⟨[58].toArray⟩] 9)
      have hrl2 : rt.length + 1 + g.length ≤ ts.length := by
        have h2 := hjl
        rw [hj1, List.length_append, List.length_append] at h2
        simpa using h2
      simp (disch := first | assumption | omega | (simp only [LN] <;> omega) | (simp (disch := first | assumption | omega | (simp only [LN] <;> omega)) only [row_alloc, row_set]; assumption)) only [W_block, P3, ↓reduceIte, reduceAdd, reduceEqDiff, reduceCtorEq, initFr, reduceLT, clsA, reduceLeDiff, reduceMul, reduceSub, reduceIte, he, hfl, ho1]
      refine appG (ar.keeps k4) ⟨_, _, rfl⟩ (elems_new rfl rfl) rfl (by omega) ?_
      intro rv1 N1 a4 ch4 b4
      have hk1 : Keeps K3 N1 := (hkN.trans k4).chg_trans ch4 fr3.L
      have fr4 : Fresh K3.n rv1 := fr3.app (by simp [AHeap.alloc]; omega) b4
      obtain ⟨n1', s1', r1'⟩ := (gi3.keeps hk1).at_ hlt
      have a1' := (gi3.keeps hk1).row i hlt
      rw [eWi] at a1'
      rw [hu1] at r1' a1'
      simp (disch := first | assumption | omega | (simp only [LN] <;> omega) | (simp (disch := first | assumption | omega | (simp only [LN] <;> omega)) only [row_alloc, row_set]; assumption)) only [W_block, P3, ↓reduceIte, reduceAdd, reduceEqDiff, reduceCtorEq, initFr, reduceLT, clsA, reduceLeDiff, reduceMul, reduceSub, reduceIte, ls1, r1', n1, a_load1v]
      obtain ⟨sa, hsa⟩ := a1'.shape
      refine appG a4 ⟨_, _, hsa⟩ a1'.elems (by rw [txs_len]; omega) (by omega) ?_
      intro rv' N2 a3 ch3 b3
      simp (disch := first | assumption | omega | (simp only [LN] <;> omega) | (simp (disch := first | assumption | omega | (simp only [LN] <;> omega)) only [row_alloc, row_set]; assumption)) only [W_block, P3, ↓reduceIte, reduceAdd, reduceEqDiff, reduceCtorEq, initFr, reduceLT, clsA, reduceLeDiff, reduceMul, reduceSub, reduceIte, hw]
      refine hn _ _ _ ⟨i + 1, rv', rt ++ [[58]] ++ g, _, _, _, _, _, rfl, hk1.chg_trans ch3 fr4.L, ?_, fr4.app hk1.n b3, by rw [hj1], by omega, rfl⟩ (by omega)
      have : txs (rt ++ [[58]] ++ g) = txs rt ++ [.string ⟨[58].toArray⟩] ++ txs g := by simp [txs]
      rw [this]
      simpa [Nat.add_assoc, Nat.add_comm 1] using a3
  · have c1 : ¬ ((i : Nat) : Int) < ((W.length : Nat) : Int) := by omega
    have hrt2 : rt = ts := by rw [hrt, List.take_of_length_le (by omega), hjg]
    subst hrt2
    obtain ⟨S, hS⟩ : ∃ S, W.flatMap (fun w => blkL w.1) = S := ⟨_, rfl⟩
    have hSm : ∀ y ∈ S, K1.n ≤ y ∧ y < K2.n := by
      intro y hy
      rw [← hS, List.mem_flatMap] at hy
      obtain ⟨w, hw, hy⟩ := hy
      obtain ⟨m, hm, rfl⟩ := List.getElem_of_mem hw
      refine ⟨?_, (gi.row m hm).lt (mem_blkL.1 hy)⟩
      refine hG.2.2 W[m] ?_ y (mem_blkL.1 hy)
      have h9 : W[m] ∈ wg.reverse := by rw [hW]; exact List.getElem_mem hm
      exact List.mem_reverse.1 h9
    have hgv : ∀ y ∈ S, blk gv ≠ some y := by
      intro y hy e
      rw [← hS, List.mem_flatMap] at hy
      obtain ⟨w, hw, hy⟩ := hy
      exact gi.ap w hw y e (mem_blkL.1 hy)
    have giN := gi3.keeps hkN
    simp (disch := first | assumption | omega | (simp only [LN] <;> omega) | (simp (disch := first | assumption | omega | (simp only [LN] <;> omega)) only [row_alloc, row_set]; assumption)) only [W_block, P3, ↓reduceIte, reduceAdd, reduceEqDiff, reduceCtorEq, initFr, reduceLT, clsA, reduceLeDiff, reduceMul, reduceSub, reduceIte, ls1]
    refine hx 2 _ _ ?_
    clear hn hret hx
    simp (disch := first | assumption | omega | (simp only [LN] <;> omega) | (simp (disch := first | assumption | omega | (simp only [LN] <;> omega)) only [row_alloc, row_set]; assumption)) only [ P3, ↓reduceIte, reduceAdd, reduceEqDiff, reduceCtorEq, initFr, reduceLT, clsA, reduceLeDiff, reduceMul, reduceSub, reduceIte]
    rw [W_block]
    refine W_loop2 (fun k fr X => ∃ a z9 z17 z18, fr = [vl, .bool false, .int .i64 ((i' : Nat) : Int), ow, gv, hv2, rv, .int .i64 ((i : Nat) : Int), .int .i64 ((a : Nat) : Int), z9, .bool false, y11, x12, x13, .bool false, x15, x16, z17, z18] ∧ GW N X S gv W ∧ a ≤ W.length ∧ k = W.length - a) W.length
      ⟨0, _, _, _, rfl, ⟨Chg.refl _ _, giN.out, fun m hm => ⟨_, giN.row m hm⟩⟩, by omega, rfl⟩ ?_
    rintro Q' k fr X ⟨a, z9, z17, z18, rfl, gw, hal, rfl⟩ hn hx hret
    by_cases hlt2 : a < W.length
    · have c5 : ((a : Nat) : Int) < ((W.length : Nat) : Int) := by omega
      have hwa : IntKind.i64.wrap ((a : Int) + 1) = ((a + 1 : Nat) : Int) := by rw [wrap_i64 (by omega) (by omega)]; simp
      have hrow : ∃ n, W[a].2.length = n ∧ n ≤ rt.length + 2 := by
        refine ⟨_, rfl, ?_⟩
        have hga : a < (groupsB rt).length := by omega
        have eWa : W[a].2 = (groupsB rt)[a] := by
          have : (W.map (·.2))[a]'(by simpa using hlt2) = (groupsB rt)[a] := by simp only [eW]
          simpa using this
        have h2 := joinB_len [58] ((groupsB rt).take (a + 1)) ((groupsB rt).drop (a + 1))
        rw [List.take_append_drop, hjg, take_joinG hga, List.length_append] at h2
        rw [eWa]; omega
      obtain ⟨n, hn1, hn2⟩ := hrow
      obtain ⟨u1, hu1⟩ : ∃ u, W[a].1 = u := ⟨_, rfl⟩
      simp (disch := first | assumption | omega | (simp only [LN] <;> omega) | (simp (disch := first | assumption | omega | (simp only [LN] <;> omega)) only [row_alloc, row_set]; assumption)) only [ P3, ↓reduceIte, reduceAdd, reduceEqDiff, reduceCtorEq, initFr, reduceLT, clsA, reduceLeDiff, reduceMul, reduceSub, reduceIte, ls1]
      rw [W_block]
      simp (disch := first | assumption | omega | (simp only [LN] <;> omega) | (simp (disch := first | assumption | omega | (simp only [LN] <;> omega)) only [row_alloc, row_set]; assumption)) only [ P3, ↓reduceIte, reduceAdd, reduceEqDiff, reduceCtorEq, initFr, reduceLT, clsA, reduceLeDiff, reduceMul, reduceSub, reduceIte]
      rw [W_block]
      refine W_loop2 (fun k fr Y => ∃ d z18, fr = [vl, .bool false, .int .i64 ((i' : Nat) : Int), ow, gv, hv2, rv, .int .i64 ((i : Nat) : Int), .int .i64 ((a : Nat) : Int), .int .i64 ((d : Nat) : Int), .bool false, y11, x12, x13, .bool false, x15, x16, .bool true, z18] ∧ GW N Y S gv W ∧ d ≤ n ∧ k = n - d) n
        ⟨0, _, rfl, gw, by omega, rfl⟩ ?_
      rintro Q3 k fr Y ⟨d, z18, rfl, gy, hd, rfl⟩ hn3 hx3 hret3
      obtain ⟨g1, g2, g3⟩ := gy.at_ hlt2
      obtain ⟨c, ga⟩ := gy.row a hlt2
      rw [hu1] at g3 ga
      rw [hn1] at ga
      obtain ⟨q1, q2⟩ := AP.lenS ga
      have a0 : (0 : Int) ≤ ((a : Nat) : Int) := by omega
      have a1 : ((a : Nat) : Int) < ((lenS gv : Nat) : Int) := by omega
      by_cases hdn : d < n
      · rcases ga with ⟨_, hz, _⟩ | ⟨b, room, rfl, hlen, hget⟩
        · omega
        · have d0 : (0 : Int) ≤ ((d : Nat) : Int) := by omega
          have d1 : ((d : Nat) : Int) < ((n : Nat) : Int) := by omega
          have d2 : d < c.length := by omega
          have hw : IntKind.i64.wrap ((d : Int) + 1) = ((d + 1 : Nat) : Int) := by rw [wrap_i64 (by omega) (by omega)]; simp
          have hbS : b ∈ S := by
            rw [← hS, List.mem_flatMap]
            exact ⟨W[a], List.getElem_mem hlt2, by rw [hu1]; exact mem_blkL.2 rfl⟩
          simp (disch := first | assumption | omega | (simp only [LN] <;> omega) | (simp (disch := first | assumption | omega | (simp only [LN] <;> omega)) only [row_alloc, row_set]; assumption)) only [W_block, P3, ↓reduceIte, reduceAdd, reduceEqDiff, reduceCtorEq, initFr, reduceLT, clsA, reduceLeDiff, reduceMul, reduceSub, reduceIte, g1, g3, a_load1v, Int.toNat_natCast, Nat.mul_one, Nat.zero_add, hget, hw]
          exact hn3 _ _ _ ⟨d + 1, _, rfl, gy.put hget hbS (hgv b hbS) d _, by omega, rfl⟩ (by omega)
      · have d1 : ¬ ((d : Nat) : Int) < ((n : Nat) : Int) := by omega
        simp (disch := first | assumption | omega | (simp only [LN] <;> omega) | (simp (disch := first | assumption | omega | (simp only [LN] <;> omega)) only [row_alloc, row_set]; assumption)) only [W_block, P3, ↓reduceIte, reduceAdd, reduceEqDiff, reduceCtorEq, initFr, reduceLT, clsA, reduceLeDiff, reduceMul, reduceSub, reduceIte, g1, g3, a_load1v, q1]
        refine hx3 6 _ _ ?_
        simp (disch := first | assumption | omega | (simp only [LN] <;> omega) | (simp (disch := first | assumption | omega | (simp only [LN] <;> omega)) only [row_alloc, row_set]; assumption)) only [W_block, P3, ↓reduceIte, reduceAdd, reduceEqDiff, reduceCtorEq, initFr, reduceLT, clsA, reduceLeDiff, reduceMul, reduceSub, reduceIte, hwa]
        exact hn _ _ _ ⟨a + 1, _, _, _, rfl, gy, by omega, rfl⟩ (by omega)
    · have c5 : ¬ ((a : Nat) : Int) < ((W.length : Nat) : Int) := by omega
      simp (disch := first | assumption | omega | (simp only [LN] <;> omega) | (simp (disch := first | assumption | omega | (simp only [LN] <;> omega)) only [row_alloc, row_set]; assumption)) only [W_block, P3, ↓reduceIte, reduceAdd, reduceEqDiff, reduceCtorEq, initFr, reduceLT, clsA, reduceLeDiff, reduceMul, reduceSub, reduceIte, ls1]
      refine hx 4 _ _ ?_
      have hfar : ∀ y, (y < K1.n ∨ K3.n ≤ y) → y ∉ S := fun y h hm => by
        have := hSm y hm
        have := k3.n
        omega
      have t1 : TL X rv rt := AP.tl (ar.chg gw.chg (fun y hy => hfar y (.inr (fr3 y (mem_blkL.1 hy)))))
      have t2 : TL X ow rt := AP.tl ((((ao.keeps k2).keeps k3).keeps hkN).chg gw.chg (fun y hy => hfar y (.inl (ao.lt (mem_blkL.1 hy)))))
      have kN : Keeps M N := ((k1.trans k2).trans k3).trans hkN
      have t3 : TL X vl rt := Sl.get' htl (fun b hb hlt => (gw.chg.get b (Nat.lt_of_lt_of_le hlt kN.n) (hfar b (.inl (Nat.lt_of_lt_of_le hlt k1.n)))).trans (kN.get b hlt))
      simp (disch := first | assumption | omega | (simp only [LN] <;> omega) | (simp (disch := first | assumption | omega | (simp only [LN] <;> omega)) only [row_alloc, row_set]; assumption)) only [W_block, P3, ↓reduceIte, reduceAdd, reduceEqDiff, reduceCtorEq, initFr, reduceLT, clsA, reduceLeDiff, reduceMul, reduceSub, reduceIte]
      refine callK (t17 t1 t3 (by omega)) ?_
      rintro _ K8 ⟨rfl, rfl⟩
      have he : decide (rt = rt) = true := by simp
      simp (disch := first | assumption | omega | (simp only [LN] <;> omega) | (simp (disch := first | assumption | omega | (simp only [LN] <;> omega)) only [row_alloc, row_set]; assumption)) only [W_block, P3, ↓reduceIte, reduceAdd, reduceEqDiff, reduceCtorEq, initFr, reduceLT, clsA, reduceLeDiff, reduceMul, reduceSub, reduceIte, he]
      refine callK (t17 t2 t3 (by omega)) ?_
      rintro _ K9 ⟨rfl, rfl⟩
      simp (disch := first | assumption | omega | (simp only [LN] <;> omega) | (simp (disch := first | assumption | omega | (simp only [LN] <;> omega)) only [row_alloc, row_set]; assumption)) only [W_block, P3, ↓reduceIte, reduceAdd, reduceEqDiff, reduceCtorEq, initFr, reduceLT, clsA, reduceLeDiff, reduceMul, reduceSub, reduceIte, he]
      refine callK (t12 _) ?_
      rintro _ K ⟨rfl, rfl⟩
      simp (disch := first | assumption | omega | (simp only [LN] <;> omega) | (simp (disch := first | assumption | omega | (simp only [LN] <;> omega)) only [row_alloc, row_set]; assumption)) only [W_block, P3, ↓reduceIte, reduceAdd, reduceEqDiff, reduceCtorEq, initFr, reduceLT, clsA, reduceLeDiff, reduceMul, reduceSub, reduceIte]
      exact hq2 _ _ ⟨_, rfl, rfl⟩
end Go.AM.Fd

set_option maxRecDepth 100000
namespace Go.AM.F
def f9 : AFunc := ⟨[0, 1, 3, 5, 31, 32, 33, 34, 35, 62],
 .seq (.reg [
 ⟨.mov (.c (.bool false)), .fr 0, none⟩]) <|
 .seq (.seq (.reg [
 ⟨.mov (.c (.int .i32 (-1))), .fr 1, none⟩]) <|
 .block 0 (.loop (.seq (.seq (.reg [
 ⟨.mov (.fr 1), .tm, none⟩,
 ⟨.bin .lss (.tm 0) (.c (.int .i32 200)), .fr 3, none⟩]) <|
 .cond (.fr 3)
 (.skip)
 (.exit 0)) <|
 .seq (.block 1 (.seq (.reg [
 ⟨.mov (.fr 1), .tm, none⟩,
 ⟨.callf 3 [(.tm 0)], .tm, none⟩,
 ⟨.un .not (.tm 0), .tm, none⟩,
 ⟨.mov (.tm 0), .tm, none⟩,
 ⟨.mov (.fr 1), .tm, some ((.tm 0), false)⟩,
 ⟨.i2str (.tm 0), .tm, some ((.tm 1), false)⟩,
 ⟨.bin .add (.c (.string ⟨#[97]⟩)) (.tm 0), .tm, some ((.tm 2), false)⟩,
 ⟨.callf 4 [(.tm 0)], .tm, some ((.tm 3), false)⟩,
 ⟨.un .not (.tm 0), .tm, some ((.tm 4), false)⟩,
 ⟨.pick (.tm 5) (.c (.bool true)) (.tm 0), .tm, none⟩,
 ⟨.mov (.tm 0), .tm, none⟩,
 ⟨.mov (.fr 1), .tm, some ((.tm 0), false)⟩,
 ⟨.i2str (.tm 0), .tm, some ((.tm 1), false)⟩,
 ⟨.bin .add (.c (.string ⟨#[97]⟩)) (.tm 0), .tm, some ((.tm 2), false)⟩,
 ⟨.bin .add (.tm 0) (.c (.string ⟨#[98]⟩)), .tm, some ((.tm 3), false)⟩,
 ⟨.callf 5 [(.tm 0)], .tm, some ((.tm 4), false)⟩,
 ⟨.un .not (.tm 0), .tm, some ((.tm 5), false)⟩,
 ⟨.pick (.tm 6) (.c (.bool true)) (.tm 0), .tm, none⟩,
 ⟨.mov (.tm 0), .tm, none⟩,
 ⟨.mov (.fr 1), .tm, some ((.tm 0), false)⟩,
 ⟨.i2str (.tm 0), .tm, some ((.tm 1), false)⟩,
 ⟨.callf 6 [(.tm 0)], .tm, some ((.tm 2), false)⟩,
 ⟨.un .not (.tm 0), .tm, some ((.tm 3), false)⟩,
 ⟨.pick (.tm 4) (.c (.bool true)) (.tm 0), .fr 4, none⟩]) <|
 .cond (.fr 4)
 (.seq (.reg [
 ⟨.mov (.c (.bool false)), .fr 0, none⟩]) <|
 .ret)
 (.skip))) <|
 .reg [
 ⟨.mov (.fr 1), .tm, none⟩,
 ⟨.bin .add (.tm 0) (.c (.int .i32 1)), .tm, none⟩,
 ⟨.mov (.tm 0), .fr 1, none⟩]))) <|
 .seq (.seq (.reg [
 ⟨.bslice 9 1 23 [(.string ByteArray.empty), (.string ByteArray.empty), (.string ByteArray.empty), (.string ByteArray.empty), (.string ByteArray.empty), (.string ByteArray.empty), (.string ByteArray.empty), (.string ByteArray.empty), (.string ByteArray.empty), (.string ByteArray.empty), (.string ByteArray.empty), (.string ByteArray.empty), (.string ByteArray.empty), (.string ByteArray.empty), (.string ByteArray.empty), (.string ByteArray.empty), (.string ByteArray.empty), (.string ByteArray.empty), (.string ByteArray.empty), (.string ByteArray.empty), (.string ByteArray.empty), (.string ByteArray.empty), (.string ByteArray.empty)] [(0, 1, (.c (.string ByteArray.empty))), (1, 1, (.c (.string ⟨#[32]⟩))), (2, 1, (.c (.string ⟨#[35]⟩))), (3, 1, (.c (.string ⟨#[58]⟩))), (4, 1, (.c (.string ⟨#[97]⟩))), (5, 1, (.c (.string ⟨#[71, 108, 101, 105, 115, 95, 55]⟩))), (6, 1, (.c (.string ⟨#[97, 32, 98]⟩))), (7, 1, (.c (.string ⟨#[195, 132, 112, 102, 101, 108]⟩))), (8, 1, (.c (.string ⟨#[97, 98, 99, 100, 101, 102, 103, 104, 105, 106, 107, 108, 109, 110, 111, 112]⟩))), (9, 1, (.c (.string ⟨#[97, 98, 99, 100, 101, 102, 103, 104, 105, 106, 107, 108, 109, 110, 111, 112, 113]⟩))), (10, 1, (.c (.string ⟨#[195, 164, 195, 164, 195, 164, 195, 164, 195, 164, 195, 164, 195, 164, 195, 164, 195, 164, 195, 164, 195, 164, 195, 164, 195, 164, 195, 164, 195, 164, 195, 164]⟩))), (11, 1, (.c (.string ⟨#[255]⟩))), (12, 1, (.c (.string ⟨#[97, 255, 98]⟩))), (13, 1, (.c (.string ⟨#[97, 32, 35, 32, 255]⟩))), (14, 1, (.c (.string ⟨#[239, 191, 189]⟩))), (15, 1, (.c (.string ⟨#[97, 239, 191, 189, 32, 98]⟩))), (16, 1, (.c (.string ⟨#[239, 191]⟩))), (17, 1, (.c (.string ⟨#[10]⟩))), (18, 1, (.c (.string ⟨#[97, 10, 98, 10]⟩))), (19, 1, (.c (.string ⟨#[10, 10]⟩))), (20, 1, (.c (.string ⟨#[32, 114, 111, 117, 116, 101, 32, 82, 49, 32, 32, 58, 32, 83, 50, 32, 35, 32, 120]⟩))), (21, 1, (.c (.string ⟨#[240, 159, 152, 128]⟩))), (22, 1, (.c (.string ⟨#[237, 160, 128]⟩)))], .fr 5, none⟩,
 ⟨.len false (.fr 5), .fr 6, none⟩,
 ⟨.mov (.c (.int .i64 0)), .fr 7, none⟩]) <|
 .block 2 (.loop (.seq (.reg [
 ⟨.bin .lss (.fr 7) (.fr 6), .fr 8, none⟩]) <|
 .seq (.cond (.fr 8)
 (.skip)
 (.exit 2)) <|
 .seq (.block 3 (.seq (.reg [
 ⟨.iaddr 1 (.fr 5) (.fr 7), .tm, none⟩,
 ⟨.load1 (.tm 0), .tm, none⟩,
 ⟨.mov (.tm 0), .fr 2, none⟩]) <|
 .seq (.reg [
 ⟨.mov (.fr 2), .tm, none⟩,
 ⟨.callf 4 [(.tm 0)], .tm, none⟩,
 ⟨.un .not (.tm 0), .tm, none⟩,
 ⟨.mov (.tm 0), .tm, none⟩,
 ⟨.mov (.fr 2), .tm, some ((.tm 0), false)⟩,
 ⟨.callf 8 [(.tm 0)], .tm, some ((.tm 1), false)⟩,
 ⟨.un .not (.tm 0), .tm, some ((.tm 2), false)⟩,
 ⟨.pick (.tm 3) (.c (.bool true)) (.tm 0), .tm, none⟩,
 ⟨.mov (.tm 0), .tm, none⟩,
 ⟨.mov (.fr 2), .tm, some ((.tm 0), false)⟩,
 ⟨.callf 5 [(.tm 0)], .tm, some ((.tm 1), false)⟩,
 ⟨.un .not (.tm 0), .tm, some ((.tm 2), false)⟩,
 ⟨.pick (.tm 3) (.c (.bool true)) (.tm 0), .tm, none⟩,
 ⟨.mov (.tm 0), .tm, none⟩,
 ⟨.mov (.fr 2), .tm, some ((.tm 0), false)⟩,
 ⟨.callf 6 [(.tm 0)], .tm, some ((.tm 1), false)⟩,
 ⟨.un .not (.tm 0), .tm, some ((.tm 2), false)⟩,
 ⟨.pick (.tm 3) (.c (.bool true)) (.tm 0), .tm, none⟩,
 ⟨.mov (.tm 0), .tm, none⟩,
 ⟨.mov (.fr 2), .tm, some ((.tm 0), false)⟩,
 ⟨.mov (.fr 2), .tm, some ((.tm 1), false)⟩,
 ⟨.bslice 9 1 3 [(.string ByteArray.empty), (.string ByteArray.empty), (.string ByteArray.empty)] [(0, 1, (.tm 1)), (1, 1, (.c (.string ⟨#[58]⟩))), (2, 1, (.tm 0))], .tm, some ((.tm 2), false)⟩,
 ⟨.callf 7 [(.tm 0)], .tm, some ((.tm 3), false)⟩,
 ⟨.un .not (.tm 0), .tm, some ((.tm 4), false)⟩,
 ⟨.pick (.tm 5) (.c (.bool true)) (.tm 0), .fr 9, none⟩]) <|
 .cond (.fr 9)
 (.seq (.reg [
 ⟨.mov (.c (.bool false)), .fr 0, none⟩]) <|
 .ret)
 (.skip))) <|
 .reg [
 ⟨.bin .add (.fr 7) (.c (.int .i64 1)), .tm, none⟩,
 ⟨.mov (.tm 0), .fr 7, none⟩]))) <|
 .seq (.reg [
 ⟨.callf 7 [(.c (.slice none 0 0))], .tm, none⟩,
 ⟨.mov (.tm 0), .tm, none⟩,
 ⟨.bslice 9 1 1 [(.string ByteArray.empty)] [(0, 1, (.c (.string ⟨#[58]⟩)))], .tm, some ((.tm 0), true)⟩,
 ⟨.callf 7 [(.tm 0)], .tm, some ((.tm 1), true)⟩,
 ⟨.pick (.tm 2) (.tm 0) (.c (.bool false)), .tm, none⟩,
 ⟨.mov (.tm 0), .tm, none⟩,
 ⟨.bslice 9 1 5 [(.string ByteArray.empty), (.string ByteArray.empty), (.string ByteArray.empty), (.string ByteArray.empty), (.string ByteArray.empty)] [(0, 1, (.c (.string ⟨#[97]⟩))), (1, 1, (.c (.string ⟨#[58]⟩))), (2, 1, (.c (.string ⟨#[98]⟩))), (3, 1, (.c (.string ⟨#[99]⟩))), (4, 1, (.c (.string ⟨#[58]⟩)))], .tm, some ((.tm 0), true)⟩,
 ⟨.callf 7 [(.tm 0)], .tm, some ((.tm 1), true)⟩,
 ⟨.pick (.tm 2) (.tm 0) (.c (.bool false)), .tm, none⟩,
 ⟨.mov (.tm 0), .tm, none⟩,
 ⟨.callf 3 [(.c (.int .i32 1114111))], .tm, some ((.tm 0), true)⟩,
 ⟨.pick (.tm 1) (.tm 0) (.c (.bool false)), .tm, none⟩,
 ⟨.mov (.tm 0), .tm, none⟩,
 ⟨.callf 3 [(.c (.int .i32 1114112))], .tm, some ((.tm 0), true)⟩,
 ⟨.pick (.tm 1) (.tm 0) (.c (.bool false)), .tm, none⟩,
 ⟨.mov (.tm 0), .tm, none⟩,
 ⟨.callf 3 [(.c (.int .i32 (-2147483648)))], .tm, some ((.tm 0), true)⟩,
 ⟨.pick (.tm 1) (.tm 0) (.c (.bool false)), .tm, none⟩,
 ⟨.mov (.tm 0), .tm, none⟩,
 ⟨.callf 12 [], .tm, some ((.tm 0), true)⟩,
 ⟨.pick (.tm 1) (.tm 0) (.c (.bool false)), .tm, none⟩,
 ⟨.mov (.tm 0), .fr 0, none⟩]) <|
 .ret, [.t 0]⟩
theorem f9_ok : compF Go.Proofs.Tryd.prog 3 [0, 1, 3, 5, 31, 32, 33, 34, 35, 62] 9 = some f9 := by kernel_rfl
theorem f9_n : argsOK Go.Proofs.Tryd.prog 9 0 = true := by kernel_rfl
end Go.AM.F

set_option linter.unusedSimpArgs false
set_option linter.unusedVariables false
namespace Go.AM
def AO.unown : AO → AO
  | .dead => .dead
  | .cells _ room esz c e => .cells false room esz c e
  | .obj _ o => .obj false o
  | .loop _ st pe L => .loop false st pe L
def AHeap.unown (H : AHeap) : AHeap := ⟨H.n, H.l.map AO.unown⟩
theorem AHeap.unown_n (H : AHeap) : H.unown.n = H.n := _root_.id rfl
theorem AHeap.unown_get (H : AHeap) (b : Nat) : H.unown.get b = (H.get b).map AO.unown := by
  unfold AHeap.get AHeap.unown
  split <;> simp
theorem AO.unown_own (o : AO) : o.unown.own = false := by cases o <;> rfl
theorem AHeap.unown_no (H : AHeap) : NoOwn H.unown := fun b o h => by
  rw [AHeap.unown_get] at h
  cases hb : H.get b with
  | none => rw [hb] at h; cases h
  | some x => rw [hb] at h; cases h; exact AO.unown_own x
theorem OR.unown {σ : Sg} {w : World} {i : BI} {o : AO} (h : OR σ w i o) : OR σ w i o.unown := by
  cases o with
  | dead => trivial
  | cells own room esz c e =>
    obtain ⟨a1, a2, a3, a4, a5, c', fr, a6, a7, a8, a9⟩ := h
    exact ⟨a1, a2, a3, a4, a5, c', fr, a6, a7, a8, fun h => by cases h⟩
  | obj own o => exact h
  | loop own st pe L => exact h
theorem HR.unown {ng : Nat} {σ : Sg} {H : AHeap} {w : World} (h : HR ng σ H.get w) : HR ng σ H.unown.get w := by
  refine ⟨fun b i hb => ?_, fun b1 b2 i1 i2 o1 o2 _ _ _ g1 _ hw => ?_, h.lt, h.glob⟩
  · obtain ⟨o, h1, h2⟩ := h.obj b i hb
    exact ⟨o.unown, by rw [AHeap.unown_get, h1]; rfl, h2.unown⟩
  · rw [H.unown_no b1 o1 g1] at hw; cases hw
def over (H H' : AHeap) : AHeap := ⟨H'.n, (List.range (H'.n - H.n)).map (fun i => (H'.l[i]?).getD .dead) ++ H.l⟩
theorem over_old {H H' : AHeap} (hn : H.n ≤ H'.n) {b : Nat} (hb : b < H.n) : (over H H').get b = H.get b := by
  unfold AHeap.get over
  simp only
  rw [if_pos (by omega), if_pos hb, List.getElem?_append_right (by simp; omega)]
  simp only [List.length_map, List.length_range]
  rw [show H'.n - 1 - b - (H'.n - H.n) = H.n - 1 - b by omega]
theorem over_new {H H' : AHeap} {b : Nat} (hb : H.n ≤ b) (hb2 : b < H'.n) {o : AO} (h : H'.get b = some o) : (over H H').get b = some o := by
  unfold AHeap.get over at *
  simp only
  rw [if_pos hb2] at h ⊢
  rw [List.getElem?_append_left (by simp; omega)]
  simp only [List.getElem?_map]
  rw [List.getElem?_range (by omega)]
  simp [h]
theorem over_keeps {H H' : AHeap} (hn : H.n ≤ H'.n) : Keeps H (over H H') := ⟨hn, fun b hb => over_old hn hb⟩
variable {P : Program} {ng : Nat} {f : FuncId} {args : List Value} {H H' : AHeap} {v : Value}
theorem ARun.over (h : ARun P ng f args H.unown v H') : ARun P ng f args H v (AM.over H H') ∧ Keeps H (AM.over H H') := by
  obtain ⟨h0, h1, h2⟩ := h
  rw [AHeap.unown_n] at h1
  refine ⟨⟨h0, h1, fun σ w args' hr ha => ?_⟩, over_keeps h1⟩
  refine (h2 σ w args' hr.unown ha).mono ?_
  rintro e w' ⟨v', σ', rfl, k1, k2, k3⟩
  have hk : ∀ k, k < w.heap.size → w'.heap[k]? = w.heap[k]? := fun k hk => k2.keep k hk (fun b i o hb ho hw => by rw [H.unown_no b o ho] at hw; cases hw)
  have old : ∀ b i, σ b = some i → b < H.n := fun b i hb => by
    obtain ⟨o, g, _⟩ := hr.obj b i hb
    exact AHeap.get_lt g
  have back : ∀ b i, b < H.n → σ' b = some i → σ b = some i := fun b i hb hs => by
    cases hsb : σ b with
    | none =>
      have := (k2.new b i hsb hs).1.1
      rw [AHeap.unown_n] at this; omega
    | some j => have := k2.sub b j hsb; rw [hs] at this; exact this.symm
  have fresh : ∀ b i, H.n ≤ b → σ' b = some i → w.heap.size ≤ i.c := fun b i hb hs => by
    have hsb : σ b = none := by
      cases hsb : σ b with
      | none => rfl
      | some j => have := old b j hsb; omega
    rcases (k2.new b i hsb hs).2 with h | ⟨b0, i0, o0, _, e2, e3, _⟩
    · exact h
    · rw [H.unown_no b0 o0 e2] at e3; cases e3
  have obj : ∀ b i, σ' b = some i → (b < H.n ∧ σ b = some i ∧ i.c < w.heap.size) ∨ (H.n ≤ b ∧ w.heap.size ≤ i.c ∧ ∃ o, H'.get b = some o ∧ (AM.over H H').get b = some o ∧ OR σ' w' i o) := fun b i hs => by
    by_cases hb : b < H.n
    · have := back b i hb hs
      exact .inl ⟨hb, this, hr.lt b i this⟩
    · obtain ⟨o, g1, g2⟩ := k1.obj b i hs
      exact .inr ⟨by omega, fresh b i (by omega) hs, o, g1, over_new (by omega) (AHeap.get_lt g1) g1, g2⟩
  refine ⟨v', σ', rfl, ⟨?_, ?_, k1.lt, k1.glob⟩, ⟨k2.sub, ?_, ?_, ?_, ?_, k2.size, h1, k2.os, k2.tape, k2.output⟩, k3⟩
  · intro b i hs
    rcases obj b i hs with ⟨hb, hs0, _⟩ | ⟨_, _, o, _, g2, g3⟩
    · obtain ⟨o, g1, g2⟩ := hr.obj b i hs0
      exact ⟨o, by rw [over_old h1 hb]; exact g1, (g2.congr (fun _ => hk _ (hr.lt b i hs0))).mono k2.sub⟩
    · exact ⟨o, g2, g3⟩
  · intro b1 b2 i1 i2 o1 o2 hne s1 s2 g1 g2 hw hl
    rcases obj b1 i1 s1 with ⟨hb1, t1, l1⟩ | ⟨hb1, l1, p1, q1, q2, q3⟩
    · rcases obj b2 i2 s2 with ⟨hb2, t2, l2⟩ | ⟨hb2, l2, p2, r1, r2, r3⟩
      · rw [over_old h1 hb1] at g1
        rw [over_old h1 hb2] at g2
        exact hr.inj b1 b2 i1 i2 o1 o2 hne t1 t2 g1 g2 hw hl
      · omega
    · rcases obj b2 i2 s2 with ⟨hb2, t2, l2⟩ | ⟨hb2, l2, p2, r1, r2, r3⟩
      · omega
      · rw [q2] at g1; cases g1
        rw [r2] at g2; cases g2
        exact k1.inj b1 b2 i1 i2 _ _ hne s1 s2 q1 r1 hw hl
  · intro b i hb hs
    have := k2.new b i hb hs
    rw [AHeap.unown_n] at this
    rcases obj b i hs with ⟨_, hs0, _⟩ | ⟨_, l, _⟩
    · rw [hb] at hs0; cases hs0
    · exact ⟨this.1, .inl l⟩
  · intro b i o' hb ho hw
    obtain ⟨o, g1, _⟩ := hr.obj b i hb
    rw [over_old h1 (old b i hb), g1] at ho
    cases ho
    exact ⟨_, g1, hw⟩
  · intro b i o' hb ho hw
    obtain ⟨o, g1, _⟩ := hr.obj b i hb
    rw [over_old h1 (old b i hb), g1] at ho
    cases ho
    exact ⟨_, g1, hw⟩
  · intro k hlt _
    exact hk k hlt
theorem ARun.pure (h : ARun P ng f args H.unown v H') (hv : plain1 v = true) : ARun P ng f args H v H := by
  obtain ⟨h1, h2⟩ := h.over
  exact h1.gc0 h2 (.inr (NV.plain hv))
end Go.AM

set_option linter.unusedSimpArgs false
set_option linter.unusedVariables false
namespace Go.AM.Fd
open Nat (reduceAdd reduceEqDiff reduceLT reduceLeDiff reduceMul reduceSub)
open Go.Proofs Go.AM.F
theorem q3 (H : AHeap) (r : Int) : ARun Go.Proofs.Tryd.prog 3 3 [.int .i32 r] H (.bool true) H := by
  obtain ⟨_, K, a, rfl⟩ := c3 H.unown r; exact a.pure rfl
theorem q4 (H : AHeap) (l : List UInt8) : ARun Go.Proofs.Tryd.prog 3 4 [.string ⟨l.toArray⟩] H (.bool true) H := by
  obtain ⟨_, K, a, rfl⟩ := c4 H.unown l; exact a.pure rfl
theorem q5 (H : AHeap) (l : List UInt8) : ARun Go.Proofs.Tryd.prog 3 5 [.string ⟨l.toArray⟩] H (.bool true) H := by
  obtain ⟨_, K, a, rfl⟩ := c5 H.unown l; exact a.pure rfl
theorem q6 (H : AHeap) (l : List UInt8) : ARun Go.Proofs.Tryd.prog 3 6 [.string ⟨l.toArray⟩] H (.bool true) H := by
  obtain ⟨_, K, a, rfl⟩ := c6 H.unown l; exact a.pure rfl
theorem q8 (H : AHeap) (l : List UInt8) : ARun Go.Proofs.Tryd.prog 3 8 [.string ⟨l.toArray⟩] H (.bool true) H := by
  obtain ⟨_, K, a, rfl⟩ := c8 H.unown l; exact a.pure rfl
theorem elems_unown {H : AHeap} {esz : Nat} {v : Value} {c : List Value} (h : elemsA H esz v = some c) : elemsA H.unown esz v = some c := by
  unfold elemsA at *
  split at h
  · exact h
  · rename_i b o n k
    cases hg : H.get b with
    | none => rw [hg] at h; cases h
    | some x =>
      rw [hg] at h
      have e : H.unown.get b = some x.unown := by rw [AHeap.unown_get, hg]; rfl
      simp only [e]
      cases x <;> first | exact h | (cases h; done)
  · exact h
  · exact h
theorem q7 {H : AHeap} {vl : Value} {ts : List (List UInt8)} (h : TL H vl ts) : ARun Go.Proofs.Tryd.prog 3 7 [vl] H (.bool true) H := by
  have h2 : TL H.unown vl ts := ⟨h.sh, h.row, elems_unown h.el⟩
  obtain ⟨_, K, a, rfl⟩ := t7 h2; exact a.pure rfl
theorem enc_len (r : Int) : ∃ e : List UInt8, Utf8.encode r = ⟨e.toArray⟩ ∧ e.length ≤ 4 := by
  unfold Utf8.encode
  simp only
  generalize (if Utf8.valid r = true then r.toNat else Utf8.runeError) = c
  split
  · exact ⟨[_], rfl, by simp⟩
  · split
    · exact ⟨[_, _], rfl, by simp⟩
    · split
      · exact ⟨[_, _, _], rfl, by simp⟩
      · exact ⟨[_, _, _, _], rfl, by simp⟩
theorem wrap_i32 {n : Int} (h1 : -2147483648 ≤ n) (h2 : n ≤ 2147483647) : IntKind.i32.wrap n = n := by
  simp only [IntKind.wrap, IntKind.bits, IntKind.signed]
  simp
  split <;> omega
theorem a_i2s {H : AHeap} (r : Int) : ∃ e : List UInt8, asem (.i2str (.int .i32 r)) H = some (.string ⟨e.toArray⟩, H) ∧ e.length ≤ 4 := by
  obtain ⟨e, h1, h2⟩ := enc_len r
  exact ⟨e, by simp only [asem, h1], h2⟩
def TT : List (List UInt8) := [[], [32], [35], [58], [97], [71, 108, 101, 105, 115, 95, 55], [97, 32, 98], [195, 132, 112, 102, 101, 108], [97, 98, 99, 100, 101, 102, 103, 104, 105, 106, 107, 108, 109, 110, 111, 112], [97, 98, 99, 100, 101, 102, 103, 104, 105, 106, 107, 108, 109, 110, 111, 112, 113], [195, 164, 195, 164, 195, 164, 195, 164, 195, 164, 195, 164, 195, 164, 195, 164, 195, 164, 195, 164, 195, 164, 195, 164, 195, 164, 195, 164, 195, 164, 195, 164], [255], [97, 255, 98], [97, 32, 35, 32, 255], [239, 191, 189], [97, 239, 191, 189, 32, 98], [239, 191], [10], [97, 10, 98, 10], [10, 10], [32, 114, 111, 117, 116, 101, 32, 82, 49, 32, 32, 58, 32, 83, 50, 32, 35, 32, 120], [240, 159, 152, 128], [237, 160, 128]]
theorem t9 (H : AHeap) : ∃ w K, ARun Go.Proofs.Tryd.prog 3 9 [] H w K ∧ w = .bool true := by
  refine walk2 f9_ok f9_n ?_
  intro Q hq1 hq2
  simp (disch := first | assumption | omega | (simp only [LN] <;> omega) | (simp (disch := first | assumption | omega | (simp only [LN] <;> omega)) only [row_alloc, row_set]; assumption)) only [ f9, P3, ↓reduceIte, reduceAdd, reduceEqDiff, reduceCtorEq, initFr, reduceLT, clsA, reduceLeDiff, reduceMul, reduceSub, reduceIte]
  rw [W_block]
  refine W_loop2 (fun k fr M => ∃ (m : Nat) (x3 x4 : Value), fr = [.bool false, .int .i32 ((m : Int) - 1), undef, x3, x4, undef, undef, undef, undef, undef] ∧ M = H ∧ m ≤ 201 ∧ k = 201 - m) 201
    ⟨0, _, _, rfl, rfl, by omega, rfl⟩ ?_
  rintro Q' k fr M ⟨m, x3, x4, rfl, rfl, hm, rfl⟩ hn hx hret
  by_cases hlt : m < 201
  · have c1 : (m : Int) - 1 < 200 := by omega
    obtain ⟨e, he, hel⟩ := a_i2s (H := M) ((m : Int) - 1)
    have hw : IntKind.i32.wrap ((m : Int) - 1 + 1) = ((m + 1 : Nat) : Int) - 1 := by rw [wrap_i32 (by omega) (by omega)]; omega
    have hb1 : binA .add (.string ⟨[97].toArray⟩) (.string ⟨e.toArray⟩) = some (.string ⟨([97] ++ e).toArray⟩) := b_addS (by simp; omega)
    have hb2 : binA .add (.string ⟨(97 :: e).toArray⟩) (.string ⟨[98].toArray⟩) = some (.string ⟨(97 :: e ++ [98]).toArray⟩) := b_addS (by simp; omega)
    simp (disch := first | assumption | omega | (simp only [LN] <;> omega) | (simp (disch := first | assumption | omega | (simp only [LN] <;> omega)) only [row_alloc, row_set]; assumption)) only [W_block, P3, ↓reduceIte, reduceAdd, reduceEqDiff, reduceCtorEq, initFr, reduceLT, clsA, reduceLeDiff, reduceMul, reduceSub, reduceIte]
    refine callP ⟨_, _, q3 _ _, rfl, rfl⟩ ?_
    simp (disch := first | assumption | omega | (simp only [LN] <;> omega) | (simp (disch := first | assumption | omega | (simp only [LN] <;> omega)) only [row_alloc, row_set]; assumption)) only [W_block, P3, ↓reduceIte, reduceAdd, reduceEqDiff, reduceCtorEq, initFr, reduceLT, clsA, reduceLeDiff, reduceMul, reduceSub, reduceIte, he, hb1]
    refine callP ⟨_, _, q4 _ _, rfl, rfl⟩ ?_
    simp (disch := first | assumption | omega | (simp only [LN] <;> omega) | (simp (disch := first | assumption | omega | (simp only [LN] <;> omega)) only [row_alloc, row_set]; assumption)) only [W_block, P3, ↓reduceIte, reduceAdd, reduceEqDiff, reduceCtorEq, initFr, reduceLT, clsA, reduceLeDiff, reduceMul, reduceSub, reduceIte, he, hb1, hb2]
    refine callP ⟨_, _, q5 _ _, rfl, rfl⟩ ?_
    simp (disch := first | assumption | omega | (simp only [LN] <;> omega) | (simp (disch := first | assumption | omega | (simp only [LN] <;> omega)) only [row_alloc, row_set]; assumption)) only [W_block, P3, ↓reduceIte, reduceAdd, reduceEqDiff, reduceCtorEq, initFr, reduceLT, clsA, reduceLeDiff, reduceMul, reduceSub, reduceIte, he]
    refine callP ⟨_, _, q6 _ _, rfl, rfl⟩ ?_
    simp (disch := first | assumption | omega | (simp only [LN] <;> omega) | (simp (disch := first | assumption | omega | (simp only [LN] <;> omega)) only [row_alloc, row_set]; assumption)) only [W_block, P3, ↓reduceIte, reduceAdd, reduceEqDiff, reduceCtorEq, initFr, reduceLT, clsA, reduceLeDiff, reduceMul, reduceSub, reduceIte, hw]
    exact hn _ _ _ ⟨m + 1, _, _, rfl, rfl, by omega, rfl⟩ (by omega)
  · have c1 : ¬ (m : Int) - 1 < 200 := by omega
    simp (disch := first | assumption | omega | (simp only [LN] <;> omega) | (simp (disch := first | assumption | omega | (simp only [LN] <;> omega)) only [row_alloc, row_set]; assumption)) only [W_block, P3, ↓reduceIte, reduceAdd, reduceEqDiff, reduceCtorEq, initFr, reduceLT, clsA, reduceLeDiff, reduceMul, reduceSub, reduceIte]
    refine hx 0 _ _ ?_
    have hf : fillA [(.string ByteArray.empty), (.string ByteArray.empty), (.string ByteArray.empty), (.string ByteArray.empty), (.string ByteArray.empty), (.string ByteArray.empty), (.string ByteArray.empty), (.string ByteArray.empty), (.string ByteArray.empty), (.string ByteArray.empty), (.string ByteArray.empty), (.string ByteArray.empty), (.string ByteArray.empty), (.string ByteArray.empty), (.string ByteArray.empty), (.string ByteArray.empty), (.string ByteArray.empty), (.string ByteArray.empty), (.string ByteArray.empty), (.string ByteArray.empty), (.string ByteArray.empty), (.string ByteArray.empty), (.string ByteArray.empty)] [(0, 1, (.string ByteArray.empty)), (1, 1, (.string ⟨#[32]⟩)), (2, 1, (.string ⟨#[35]⟩)), (3, 1, (.string ⟨#[58]⟩)), (4, 1, (.string ⟨#[97]⟩)), (5, 1, (.string ⟨#[71, 108, 101, 105, 115, 95, 55]⟩)), (6, 1, (.string ⟨#[97, 32, 98]⟩)), (7, 1, (.string ⟨#[195, 132, 112, 102, 101, 108]⟩)), (8, 1, (.string ⟨#[97, 98, 99, 100, 101, 102, 103, 104, 105, 106, 107, 108, 109, 110, 111, 112]⟩)), (9, 1, (.string ⟨#[97, 98, 99, 100, 101, 102, 103, 104, 105, 106, 107, 108, 109, 110, 111, 112, 113]⟩)), (10, 1, (.string ⟨#[195, 164, 195, 164, 195, 164, 195, 164, 195, 164, 195, 164, 195, 164, 195, 164, 195, 164, 195, 164, 195, 164, 195, 164, 195, 164, 195, 164, 195, 164, 195, 164]⟩)), (11, 1, (.string ⟨#[255]⟩)), (12, 1, (.string ⟨#[97, 255, 98]⟩)), (13, 1, (.string ⟨#[97, 32, 35, 32, 255]⟩)), (14, 1, (.string ⟨#[239, 191, 189]⟩)), (15, 1, (.string ⟨#[97, 239, 191, 189, 32, 98]⟩)), (16, 1, (.string ⟨#[239, 191]⟩)), (17, 1, (.string ⟨#[10]⟩)), (18, 1, (.string ⟨#[97, 10, 98, 10]⟩)), (19, 1, (.string ⟨#[10, 10]⟩)), (20, 1, (.string ⟨#[32, 114, 111, 117, 116, 101, 32, 82, 49, 32, 32, 58, 32, 83, 50, 32, 35, 32, 120]⟩)), (21, 1, (.string ⟨#[240, 159, 152, 128]⟩)), (22, 1, (.string ⟨#[237, 160, 128]⟩))] = some (txs TT) := rfl
    have ho : (txs TT).all Value.oneCell' = true := by decide
    have hl : (txs TT).length = 23 := rfl
    simp (disch := first | assumption | omega | (simp only [LN] <;> omega) | (simp (disch := first | assumption | omega | (simp only [LN] <;> omega)) only [row_alloc, row_set]; assumption)) only [ P3, ↓reduceIte, reduceAdd, reduceEqDiff, reduceCtorEq, initFr, reduceLT, clsA, reduceLeDiff, reduceMul, reduceSub, reduceIte, hf, ho, hl]
    rw [W_block]
    have htl : TL (M.alloc (.cells true false 1 (txs TT) 9)) (slc M.n 0 23 23) TT := tl_new (ts := TT)
    obtain ⟨K, hK⟩ : ∃ K, M.alloc (.cells true false 1 (txs TT) 9) = K := ⟨_, rfl⟩
    rw [hK] at htl ⊢
    refine W_loop2 (fun k fr N => ∃ (i : Nat) (y2 y4 y8 y9 : Value), fr = [.bool false, .int .i32 ((m : Int) - 1), y2, .bool false, y4, slc M.n 0 23 23, .int .i64 23, .int .i64 ((i : Nat) : Int), y8, y9] ∧ Keeps K N ∧ i ≤ 23 ∧ k = 23 - i) 23
      ⟨0, _, _, _, _, rfl, Keeps.refl K, by omega, rfl⟩ ?_
    rintro Q2 k fr N ⟨i, y2, y4, y8, y9, rfl, hk, hi, rfl⟩ hn2 hx2 hret2
    have hget : N.get M.n = some (.cells true false 1 (txs TT) 9) := hk.at_ (by rw [← hK]; exact AHeap.get_alloc_new _ _)
    by_cases hlt : i < 23
    · have c0 : (0 : Int) ≤ ((i : Nat) : Int) := by omega
      have c1 : ((i : Nat) : Int) < 23 := by omega
      have c2 : ((i : Nat) : Int) < ((23 : Nat) : Int) := by omega
      have hwi : IntKind.i64.wrap ((i : Int) + 1) = ((i + 1 : Nat) : Int) := by rw [wrap_i64 (by omega) (by omega)]; simp
      obtain ⟨w, hw⟩ : ∃ w, TT.getD i [] = w := ⟨_, rfl⟩
      have hc : (txs TT)[i]? = some (.string ⟨w.toArray⟩) := by
        have : i < TT.length := hlt
        rw [← hw]
        simp [txs, List.getD, List.getElem?_eq_getElem this]
      have hf3 : fillA [.string ByteArray.empty, .string ByteArray.empty, .string ByteArray.empty] [(0, 1, .string ⟨w.toArray⟩), (1, 1, .string ⟨#[58]⟩), (2, 1, .string ⟨w.toArray⟩)] = some (txs [w, [58], w]) := rfl
      have ho3 : (txs [w, [58], w]).all Value.oneCell' = true := rfl
      have hl3 : (txs [w, [58], w]).length = 3 := rfl
      simp (disch := first | assumption | omega | (simp only [LN] <;> omega) | (simp (disch := first | assumption | omega | (simp only [LN] <;> omega)) only [row_alloc, row_set]; assumption)) only [W_block, P3, ↓reduceIte, reduceAdd, reduceEqDiff, reduceCtorEq, initFr, reduceLT, clsA, reduceLeDiff, reduceMul, reduceSub, reduceIte, hget, hc, Int.toNat_natCast, Nat.mul_one, Nat.zero_add]
      refine callP ⟨_, _, q4 _ _, rfl, rfl⟩ ?_
      simp (disch := first | assumption | omega | (simp only [LN] <;> omega) | (simp (disch := first | assumption | omega | (simp only [LN] <;> omega)) only [row_alloc, row_set]; assumption)) only [W_block, P3, ↓reduceIte, reduceAdd, reduceEqDiff, reduceCtorEq, initFr, reduceLT, clsA, reduceLeDiff, reduceMul, reduceSub, reduceIte]
      refine callP ⟨_, _, q8 _ _, rfl, rfl⟩ ?_
      simp (disch := first | assumption | omega | (simp only [LN] <;> omega) | (simp (disch := first | assumption | omega | (simp only [LN] <;> omega)) only [row_alloc, row_set]; assumption)) only [W_block, P3, ↓reduceIte, reduceAdd, reduceEqDiff, reduceCtorEq, initFr, reduceLT, clsA, reduceLeDiff, reduceMul, reduceSub, reduceIte]
      refine callP ⟨_, _, q5 _ _, rfl, rfl⟩ ?_
      simp (disch := first | assumption | omega | (simp only [LN] <;> omega) | (simp (disch := first | assumption | omega | (simp only [LN] <;> omega)) only [row_alloc, row_set]; assumption)) only [W_block, P3, ↓reduceIte, reduceAdd, reduceEqDiff, reduceCtorEq, initFr, reduceLT, clsA, reduceLeDiff, reduceMul, reduceSub, reduceIte]
      refine callP ⟨_, _, q6 _ _, rfl, rfl⟩ ?_
      simp (disch := first | assumption | omega | (simp only [LN] <;> omega) | (simp (disch := first | assumption | omega | (simp only [LN] <;> omega)) only [row_alloc, row_set]; assumption)) only [W_block, P3, ↓reduceIte, reduceAdd, reduceEqDiff, reduceCtorEq, initFr, reduceLT, clsA, reduceLeDiff, reduceMul, reduceSub, reduceIte, hf3, ho3, hl3]
      refine callP ⟨_, _, q7 (tl_new (ts := [w, [58], w])), rfl, rfl⟩ ?_
      simp (disch := first | assumption | omega | (simp only [LN] <;> omega) | (simp (disch := first | assumption | omega | (simp only [LN] <;> omega)) only [row_alloc, row_set]; assumption)) only [W_block, P3, ↓reduceIte, reduceAdd, reduceEqDiff, reduceCtorEq, initFr, reduceLT, clsA, reduceLeDiff, reduceMul, reduceSub, reduceIte, hwi]
      exact hn2 _ _ _ ⟨i + 1, _, _, _, _, rfl, hk.alloc _, by omega, rfl⟩ (by omega)
    · have c1 : ¬ ((i : Nat) : Int) < 23 := by omega
      simp (disch := first | assumption | omega | (simp only [LN] <;> omega) | (simp (disch := first | assumption | omega | (simp only [LN] <;> omega)) only [row_alloc, row_set]; assumption)) only [W_block, P3, ↓reduceIte, reduceAdd, reduceEqDiff, reduceCtorEq, initFr, reduceLT, clsA, reduceLeDiff, reduceMul, reduceSub, reduceIte]
      refine hx2 2 _ _ ?_
      simp (disch := first | assumption | omega | (simp only [LN] <;> omega) | (simp (disch := first | assumption | omega | (simp only [LN] <;> omega)) only [row_alloc, row_set]; assumption)) only [W_block, P3, ↓reduceIte, reduceAdd, reduceEqDiff, reduceCtorEq, initFr, reduceLT, clsA, reduceLeDiff, reduceMul, reduceSub, reduceIte]
      refine callP ⟨_, _, q7 (TL.nil N), rfl, rfl⟩ ?_
      have hf1 : fillA [.string ByteArray.empty] [(0, 1, .string ⟨#[58]⟩)] = some (txs [[58]]) := rfl
      have ho1 : (txs [[58]]).all Value.oneCell' = true := rfl
      have hl1 : (txs [[58]]).length = 1 := rfl
      simp (disch := first | assumption | omega | (simp only [LN] <;> omega) | (simp (disch := first | assumption | omega | (simp only [LN] <;> omega)) only [row_alloc, row_set]; assumption)) only [W_block, P3, ↓reduceIte, reduceAdd, reduceEqDiff, reduceCtorEq, initFr, reduceLT, clsA, reduceLeDiff, reduceMul, reduceSub, reduceIte, hf1, ho1, hl1]
      refine callP ⟨_, _, q7 (tl_new (ts := [[58]])), rfl, rfl⟩ ?_
      have hf5 : fillA [.string ByteArray.empty, .string ByteArray.empty, .string ByteArray.empty, .string ByteArray.empty, .string ByteArray.empty] [(0, 1, .string ⟨#[97]⟩), (1, 1, .string ⟨#[58]⟩), (2, 1, .string ⟨#[98]⟩), (3, 1, .string ⟨#[99]⟩), (4, 1, .string ⟨#[58]⟩)] = some (txs G1) := rfl
      have ho5 : (txs G1).all Value.oneCell' = true := rfl
      have hl5 : (txs G1).length = 5 := rfl
      simp (disch := first | assumption | omega | (simp only [LN] <;> omega) | (simp (disch := first | assumption | omega | (simp only [LN] <;> omega)) only [row_alloc, row_set]; assumption)) only [W_block, P3, ↓reduceIte, reduceAdd, reduceEqDiff, reduceCtorEq, initFr, reduceLT, clsA, reduceLeDiff, reduceMul, reduceSub, reduceIte, hf5, ho5, hl5]
      refine callP ⟨_, _, q7 (tl_new (ts := G1)), rfl, rfl⟩ ?_
      simp (disch := first | assumption | omega | (simp only [LN] <;> omega) | (simp (disch := first | assumption | omega | (simp only [LN] <;> omega)) only [row_alloc, row_set]; assumption)) only [W_block, P3, ↓reduceIte, reduceAdd, reduceEqDiff, reduceCtorEq, initFr, reduceLT, clsA, reduceLeDiff, reduceMul, reduceSub, reduceIte]
      refine callP ⟨_, _, q3 _ _, rfl, rfl⟩ ?_
      simp (disch := first | assumption | omega | (simp only [LN] <;> omega) | (simp (disch := first | assumption | omega | (simp only [LN] <;> omega)) only [row_alloc, row_set]; assumption)) only [W_block, P3, ↓reduceIte, reduceAdd, reduceEqDiff, reduceCtorEq, initFr, reduceLT, clsA, reduceLeDiff, reduceMul, reduceSub, reduceIte]
      refine callP ⟨_, _, q3 _ _, rfl, rfl⟩ ?_
      simp (disch := first | assumption | omega | (simp only [LN] <;> omega) | (simp (disch := first | assumption | omega | (simp only [LN] <;> omega)) only [row_alloc, row_set]; assumption)) only [W_block, P3, ↓reduceIte, reduceAdd, reduceEqDiff, reduceCtorEq, initFr, reduceLT, clsA, reduceLeDiff, reduceMul, reduceSub, reduceIte]
      refine callP ⟨_, _, q3 _ _, rfl, rfl⟩ ?_
      simp (disch := first | assumption | omega | (simp only [LN] <;> omega) | (simp (disch := first | assumption | omega | (simp only [LN] <;> omega)) only [row_alloc, row_set]; assumption)) only [W_block, P3, ↓reduceIte, reduceAdd, reduceEqDiff, reduceCtorEq, initFr, reduceLT, clsA, reduceLeDiff, reduceMul, reduceSub, reduceIte]
      refine callK (t12 _) ?_
      rintro _ K9 ⟨rfl, rfl⟩
      simp (disch := first | assumption | omega | (simp only [LN] <;> omega) | (simp (disch := first | assumption | omega | (simp only [LN] <;> omega)) only [row_alloc, row_set]; assumption)) only [W_block, P3, ↓reduceIte, reduceAdd, reduceEqDiff, reduceCtorEq, initFr, reduceLT, clsA, reduceLeDiff, reduceMul, reduceSub, reduceIte]
      exact hq2 _ _ ⟨_, rfl, rfl⟩
theorem lawKnown : ∀ H args, NoOwn H → AVs Go.Proofs.Tryd.prog H.get [] args → ∃ H', ARun Go.Proofs.Tryd.prog 3 9 args H (.bool true) H' := by
  intro H args hno hargs
  match args, hargs with
  | [], _ =>
    obtain ⟨_, K, a, rfl⟩ := t9 H
    exact ⟨K, a⟩
end Go.AM.Fd
