/- Part of the proof. -/
import Derived.Test.YtkhnmniiopodoaaGIS04
set_option linter.unusedSimpArgs false
set_option linter.unusedVariables false
set_option linter.unusedSimpArgs false
set_option linter.unusedVariables false
set_option maxRecDepth 8000
namespace Go.AM.Fd
open Nat (reduceAdd reduceEqDiff reduceLT reduceLeDiff reduceMul reduceSub)
open Go.Proofs Go.AM.F
theorem mrows_len (L : Ly) : (mrows L).length = L.r.length := by simp [mrows]
theorem mrows_at {L : Ly} {i : Nat} (h : i < L.r.length) {h' : i < (mrows L).length} : (mrows L)[i] = mrow L i := by simp [mrows]
set_option maxHeartbeats 1000000 in
theorem t58 {H : AHeap} {v0 v1 v2 v3 v4 : Value} {L : Ly} {f : Nat → Bool} {fn : Nat} {g : Nat → Nat → Bool} (hs : Sl H 6 v0 (mrows L)) (hl : L.r.length ≤ 64)
    (h1 : v1.oneCell' = true) (h2 : v2.oneCell' = true) (h3 : v3.oneCell' = true) (h4 : v4.oneCell' = true)
    (hF : ∀ (K : AHeap) i, i < L.r.length → ∃ w K', ARun Go.Proofs.Try.prog 0 fn [.agg (mrow L i).toArray] K w K' ∧ w = S32 (g i) ∧ K' = K) :
    ∃ w H', ARun Go.Proofs.Try.prog 0 58 [.agg #[v0, v1, v2, v3, v4], S64 f, .func (.func fn) #[] #[]] H w H' ∧ w = S32 (fun p => (List.range L.r.length).any fun i => f i && g i p) ∧ H' = H := by
  suffices h' : ∃ w H', ARun Go.Proofs.Try.prog 0 58 [.agg #[v0, v1, v2, v3, v4], S64 f, .func (.func fn) #[] #[]] H w H' ∧ w = S32 (fun p => (List.range L.r.length).any fun i => f i && g i p) ∧ Keeps H H' by
    obtain ⟨_, _, a, rfl, k⟩ := h'
    exact ⟨_, _, a.gc0 k (.inr (.int _ _)), rfl, rfl⟩
  refine walk2 f58_ok f58_n ?_
  intro Q hq1 hq2
  have h0 := Sl.one hs
  have is0 := Sl.is hs
  have len := hs.len
  rw [mrows_len] at len
  have k0 := (Keeps.refl H).alloc (.cells true false 5 [v0, v1, v2, v3, v4] 74)
  simp (disch := first | assumption | omega | (simp only [LN] <;> omega) | (simp (disch := first | assumption | omega | (simp only [LN] <;> omega)) only [row_alloc, row_set]; assumption)) only [ f58, P3, ↓reduceIte, reduceAdd, reduceEqDiff, reduceCtorEq, initFr, reduceLT, clsA, reduceLeDiff, reduceMul, reduceSub, reduceIte, h0, h1, h2, h3, h4, is0, len]
  rw [W_block]
  refine W_loop2 (fun q fr K => ∃ i x6 x7 x11 x12, fr = [.agg #[v0, v1, v2, v3, v4], S64 f, .func (.func fn) #[] #[], ptr H.n 0, .int .u32 0, S32 (fun p => (List.range i).any fun i => f i && g i p), x6, x7, v0, .int .i64 ((L.r.length : Nat) : Int), .int .i64 ((i : Nat) : Int), x11, x12] ∧
      Keeps H K ∧ i ≤ L.r.length ∧ q = L.r.length - i) L.r.length
    ⟨0, _, _, _, _, by rw [p_zero]; rfl, k0, by omega, rfl⟩ ?_
  rintro Q' q fr K ⟨i, x6, x7, x11, x12, rfl, kK, hi, rfl⟩ hn' hx' hret
  by_cases hlt : i < L.r.length
  · obtain ⟨na, ra⟩ := (hs.keeps kK).at_ (by omega) (i := i) (by rw [mrows_len]; exact hlt)
    rw [mrows_at hlt] at ra
    have e0 : (0 : Int) ≤ (i : Int) := by omega
    have e1 : (i : Int) < ((L.r.length : Nat) : Int) := by omega
    have hw : IntKind.i64.wrap ((i : Int) + 1) = ((i + 1 : Nat) : Int) := by rw [wrap_i64 (by omega) (by omega)]; simp
    have hasE : hasB f (i : Int) = f i := by
      have a : (i : Int) < 64 := by omega
      simp [hasB, a]
    have hf := fun K => hF K i hlt
    unfold mrow at ra hf
    have kA := (Keeps.refl K).alloc (.cells true false 6 (mrow L i) 89)
    have ext : (S32 fun p => (List.range (i + 1)).any fun i => f i && g i p) = S32 (fun p => ((List.range i).any fun i => f i && g i p) || (f i && g i p)) := by
      congr 1; funext p; rw [List.range_succ, List.any_append]; simp
    unfold mrow at kA
    simp (disch := first | assumption | omega | (simp only [LN] <;> omega) | (simp (disch := first | assumption | omega | (simp only [LN] <;> omega)) only [row_alloc, row_set]; assumption)) only [W_block, P3, ↓reduceIte, reduceAdd, reduceEqDiff, reduceCtorEq, initFr, reduceLT, clsA, reduceLeDiff, reduceMul, reduceSub, reduceIte, e1, len, na, ra, a_loadnvf, o_s64, o_s32, one_s64, one_s32]
    refine callK (t22 f _) ?_
    rintro _ X ⟨rfl, hX⟩
    rw [hX, hasE]
    cases hfi : f i with
    | false =>
      rw [hfi] at ext
      simp (disch := first | assumption | omega | (simp only [LN] <;> omega) | (simp (disch := first | assumption | omega | (simp only [LN] <;> omega)) only [row_alloc, row_set]; assumption)) only [W_block, P3, ↓reduceIte, reduceAdd, reduceEqDiff, reduceCtorEq, initFr, reduceLT, clsA, reduceLeDiff, reduceMul, reduceSub, reduceIte, hw]
      exact hn' _ _ _ ⟨i + 1, _, _, _, _, by rw [ext]; simp; exact ⟨rfl, rfl, rfl, rfl⟩, kK.trans kA, by omega, rfl⟩ (by omega)
    | true =>
      rw [hfi] at ext
      simp (disch := first | assumption | omega | (simp only [LN] <;> omega) | (simp (disch := first | assumption | omega | (simp only [LN] <;> omega)) only [row_alloc, row_set]; assumption)) only [W_block, P3, ↓reduceIte, reduceAdd, reduceEqDiff, reduceCtorEq, initFr, reduceLT, clsA, reduceLeDiff, reduceMul, reduceSub, reduceIte, o_s64, o_s32, one_s64, one_s32, toList_arr, List.nil_append, List.append_nil, st_callv]
      refine callK (hf _) ?_
      rintro _ X ⟨rfl, hX⟩
      rw [hX]
      simp (disch := first | assumption | omega | (simp only [LN] <;> omega) | (simp (disch := first | assumption | omega | (simp only [LN] <;> omega)) only [row_alloc, row_set]; assumption)) only [W_block, P3, ↓reduceIte, reduceAdd, reduceEqDiff, reduceCtorEq, initFr, reduceLT, clsA, reduceLeDiff, reduceMul, reduceSub, reduceIte, hw, p_or, o_s64, o_s32, one_s64, one_s32]
      exact hn' _ _ _ ⟨i + 1, _, _, _, _, by rw [ext]; simp; exact ⟨rfl, rfl, rfl, rfl⟩, kK.trans kA, by omega, rfl⟩ (by omega)
  · have e1 : ¬ ((i : Nat) : Int) < ((L.r.length : Nat) : Int) := by omega
    have hie : i = L.r.length := by omega
    subst hie
    simp (disch := first | assumption | omega | (simp only [LN] <;> omega) | (simp (disch := first | assumption | omega | (simp only [LN] <;> omega)) only [row_alloc, row_set]; assumption)) only [W_block, P3, ↓reduceIte, reduceAdd, reduceEqDiff, reduceCtorEq, initFr, reduceLT, clsA, reduceLeDiff, reduceMul, reduceSub, reduceIte, e1]
    refine hx' _ _ _ ?_
    simp (disch := first | assumption | omega | (simp only [LN] <;> omega) | (simp (disch := first | assumption | omega | (simp only [LN] <;> omega)) only [row_alloc, row_set]; assumption)) only [W_block, P3, ↓reduceIte, reduceAdd, reduceEqDiff, reduceCtorEq, initFr, reduceLT, clsA, reduceLeDiff, reduceMul, reduceSub, reduceIte]
    exact hq2 _ _ ⟨_, rfl, rfl, kK⟩
set_option maxHeartbeats 1000000 in
theorem t61 {H : AHeap} {v0 v1 v2 v3 v4 : Value} {L : Ly} {f : Nat → Bool} {fn : Nat} {g : Nat → Nat → Bool} (hs : Sl H 6 v0 (mrows L)) (hl : L.r.length ≤ 64)
    (h1 : v1.oneCell' = true) (h2 : v2.oneCell' = true) (h3 : v3.oneCell' = true) (h4 : v4.oneCell' = true)
    (hF : ∀ (K : AHeap) i, i < L.r.length → ∃ w K', ARun Go.Proofs.Try.prog 0 fn [.agg (mrow L i).toArray] K w K' ∧ w = S64 (g i) ∧ K' = K) :
    ∃ w H', ARun Go.Proofs.Try.prog 0 61 [.agg #[v0, v1, v2, v3, v4], S64 f, .func (.func fn) #[] #[]] H w H' ∧ w = S64 (fun p => (List.range L.r.length).any fun i => f i && g i p) ∧ H' = H := by
  suffices h' : ∃ w H', ARun Go.Proofs.Try.prog 0 61 [.agg #[v0, v1, v2, v3, v4], S64 f, .func (.func fn) #[] #[]] H w H' ∧ w = S64 (fun p => (List.range L.r.length).any fun i => f i && g i p) ∧ Keeps H H' by
    obtain ⟨_, _, a, rfl, k⟩ := h'
    exact ⟨_, _, a.gc0 k (.inr (.int _ _)), rfl, rfl⟩
  refine walk2 f61_ok f61_n ?_
  intro Q hq1 hq2
  have h0 := Sl.one hs
  have is0 := Sl.is hs
  have len := hs.len
  rw [mrows_len] at len
  have k0 := (Keeps.refl H).alloc (.cells true false 5 [v0, v1, v2, v3, v4] 74)
  simp (disch := first | assumption | omega | (simp only [LN] <;> omega) | (simp (disch := first | assumption | omega | (simp only [LN] <;> omega)) only [row_alloc, row_set]; assumption)) only [ f61, P3, ↓reduceIte, reduceAdd, reduceEqDiff, reduceCtorEq, initFr, reduceLT, clsA, reduceLeDiff, reduceMul, reduceSub, reduceIte, h0, h1, h2, h3, h4, is0, len]
  rw [W_block]
  refine W_loop2 (fun q fr K => ∃ i x6 x7 x11 x12, fr = [.agg #[v0, v1, v2, v3, v4], S64 f, .func (.func fn) #[] #[], ptr H.n 0, .int .u64 0, S64 (fun p => (List.range i).any fun i => f i && g i p), x6, x7, v0, .int .i64 ((L.r.length : Nat) : Int), .int .i64 ((i : Nat) : Int), x11, x12] ∧
      Keeps H K ∧ i ≤ L.r.length ∧ q = L.r.length - i) L.r.length
    ⟨0, _, _, _, _, by rw [s_zero]; rfl, k0, by omega, rfl⟩ ?_
  rintro Q' q fr K ⟨i, x6, x7, x11, x12, rfl, kK, hi, rfl⟩ hn' hx' hret
  by_cases hlt : i < L.r.length
  · obtain ⟨na, ra⟩ := (hs.keeps kK).at_ (by omega) (i := i) (by rw [mrows_len]; exact hlt)
    rw [mrows_at hlt] at ra
    have e0 : (0 : Int) ≤ (i : Int) := by omega
    have e1 : (i : Int) < ((L.r.length : Nat) : Int) := by omega
    have hw : IntKind.i64.wrap ((i : Int) + 1) = ((i + 1 : Nat) : Int) := by rw [wrap_i64 (by omega) (by omega)]; simp
    have hasE : hasB f (i : Int) = f i := by
      have a : (i : Int) < 64 := by omega
      simp [hasB, a]
    have hf := fun K => hF K i hlt
    unfold mrow at ra hf
    have kA := (Keeps.refl K).alloc (.cells true false 6 (mrow L i) 89)
    have ext : (S64 fun p => (List.range (i + 1)).any fun i => f i && g i p) = S64 (fun p => ((List.range i).any fun i => f i && g i p) || (f i && g i p)) := by
      congr 1; funext p; rw [List.range_succ, List.any_append]; simp
    unfold mrow at kA
    simp (disch := first | assumption | omega | (simp only [LN] <;> omega) | (simp (disch := first | assumption | omega | (simp only [LN] <;> omega)) only [row_alloc, row_set]; assumption)) only [W_block, P3, ↓reduceIte, reduceAdd, reduceEqDiff, reduceCtorEq, initFr, reduceLT, clsA, reduceLeDiff, reduceMul, reduceSub, reduceIte, e1, len, na, ra, a_loadnvf, o_s64, o_s32, one_s64, one_s32]
    refine callK (t22 f _) ?_
    rintro _ X ⟨rfl, hX⟩
    rw [hX, hasE]
    cases hfi : f i with
    | false =>
      rw [hfi] at ext
      simp (disch := first | assumption | omega | (simp only [LN] <;> omega) | (simp (disch := first | assumption | omega | (simp only [LN] <;> omega)) only [row_alloc, row_set]; assumption)) only [W_block, P3, ↓reduceIte, reduceAdd, reduceEqDiff, reduceCtorEq, initFr, reduceLT, clsA, reduceLeDiff, reduceMul, reduceSub, reduceIte, hw]
      exact hn' _ _ _ ⟨i + 1, _, _, _, _, by rw [ext]; simp; exact ⟨rfl, rfl, rfl, rfl⟩, kK.trans kA, by omega, rfl⟩ (by omega)
    | true =>
      rw [hfi] at ext
      simp (disch := first | assumption | omega | (simp only [LN] <;> omega) | (simp (disch := first | assumption | omega | (simp only [LN] <;> omega)) only [row_alloc, row_set]; assumption)) only [W_block, P3, ↓reduceIte, reduceAdd, reduceEqDiff, reduceCtorEq, initFr, reduceLT, clsA, reduceLeDiff, reduceMul, reduceSub, reduceIte, o_s64, o_s32, one_s64, one_s32, toList_arr, List.nil_append, List.append_nil, st_callv]
      refine callK (hf _) ?_
      rintro _ X ⟨rfl, hX⟩
      rw [hX]
      simp (disch := first | assumption | omega | (simp only [LN] <;> omega) | (simp (disch := first | assumption | omega | (simp only [LN] <;> omega)) only [row_alloc, row_set]; assumption)) only [W_block, P3, ↓reduceIte, reduceAdd, reduceEqDiff, reduceCtorEq, initFr, reduceLT, clsA, reduceLeDiff, reduceMul, reduceSub, reduceIte, hw, s_or, o_s64, o_s32, one_s64, one_s32]
      exact hn' _ _ _ ⟨i + 1, _, _, _, _, by rw [ext]; simp; exact ⟨rfl, rfl, rfl, rfl⟩, kK.trans kA, by omega, rfl⟩ (by omega)
  · have e1 : ¬ ((i : Nat) : Int) < ((L.r.length : Nat) : Int) := by omega
    have hie : i = L.r.length := by omega
    subst hie
    simp (disch := first | assumption | omega | (simp only [LN] <;> omega) | (simp (disch := first | assumption | omega | (simp only [LN] <;> omega)) only [row_alloc, row_set]; assumption)) only [W_block, P3, ↓reduceIte, reduceAdd, reduceEqDiff, reduceCtorEq, initFr, reduceLT, clsA, reduceLeDiff, reduceMul, reduceSub, reduceIte, e1]
    refine hx' _ _ _ ?_
    simp (disch := first | assumption | omega | (simp only [LN] <;> omega) | (simp (disch := first | assumption | omega | (simp only [LN] <;> omega)) only [row_alloc, row_set]; assumption)) only [W_block, P3, ↓reduceIte, reduceAdd, reduceEqDiff, reduceCtorEq, initFr, reduceLT, clsA, reduceLeDiff, reduceMul, reduceSub, reduceIte]
    exact hq2 _ _ ⟨_, rfl, rfl, kK⟩
def nor (L : Ly) (i : Nat) : Nat → Bool := ndP (nds (ro L i)) false
def rev (L : Ly) (i : Nat) : Nat → Bool := ndP (nds (ro L i)) true
theorem t59 {H : AHeap} (L : Ly) (i : Nat) : ∃ w K', ARun Go.Proofs.Try.prog 0 59 [.agg (mrow L i).toArray] H w K' ∧ w = S32 (nor L i) ∧ K' = H := by
  suffices h' : ∃ w K', ARun Go.Proofs.Try.prog 0 59 [.agg (mrow L i).toArray] H w K' ∧ w = S32 (nor L i) ∧ Keeps H K' by
    obtain ⟨_, _, a, rfl, k⟩ := h'
    exact ⟨_, _, a.gc0 k (.inr (.int _ _)), rfl, rfl⟩
  refine walk2 f59_ok f59_n ?_
  intro Q hq1 hq2
  have k := (Keeps.refl H).alloc (.cells true false 6 (mrow L i) 89)
  unfold mrow at k ⊢
  simp (disch := first | assumption | omega | (simp only [LN] <;> omega) | (simp (disch := first | assumption | omega | (simp only [LN] <;> omega)) only [row_alloc, row_set]; assumption)) only [f59, W_block, P3, ↓reduceIte, reduceAdd, reduceEqDiff, reduceCtorEq, initFr, reduceLT, clsA, reduceLeDiff, reduceMul, reduceSub, reduceIte, o_s64, o_s32, one_s64, one_s32]
  exact hq2 _ _ ⟨_, rfl, rfl, k⟩
theorem t60 {H : AHeap} (L : Ly) (i : Nat) : ∃ w K', ARun Go.Proofs.Try.prog 0 60 [.agg (mrow L i).toArray] H w K' ∧ w = S32 (rev L i) ∧ K' = H := by
  suffices h' : ∃ w K', ARun Go.Proofs.Try.prog 0 60 [.agg (mrow L i).toArray] H w K' ∧ w = S32 (rev L i) ∧ Keeps H K' by
    obtain ⟨_, _, a, rfl, k⟩ := h'
    exact ⟨_, _, a.gc0 k (.inr (.int _ _)), rfl, rfl⟩
  refine walk2 f60_ok f60_n ?_
  intro Q hq1 hq2
  have k := (Keeps.refl H).alloc (.cells true false 6 (mrow L i) 89)
  unfold mrow at k ⊢
  simp (disch := first | assumption | omega | (simp only [LN] <;> omega) | (simp (disch := first | assumption | omega | (simp only [LN] <;> omega)) only [row_alloc, row_set]; assumption)) only [f60, W_block, P3, ↓reduceIte, reduceAdd, reduceEqDiff, reduceCtorEq, initFr, reduceLT, clsA, reduceLeDiff, reduceMul, reduceSub, reduceIte, o_s64, o_s32, one_s64, one_s32]
  exact hq2 _ _ ⟨_, rfl, rfl, k⟩
theorem t62 {H : AHeap} (L : Ly) (i : Nat) : ∃ w K', ARun Go.Proofs.Try.prog 0 62 [.agg (mrow L i).toArray] H w K' ∧ w = S64 (tabP L i) ∧ K' = H := by
  suffices h' : ∃ w K', ARun Go.Proofs.Try.prog 0 62 [.agg (mrow L i).toArray] H w K' ∧ w = S64 (tabP L i) ∧ Keeps H K' by
    obtain ⟨_, _, a, rfl, k⟩ := h'
    exact ⟨_, _, a.gc0 k (.inr (.int _ _)), rfl, rfl⟩
  refine walk2 f62_ok f62_n ?_
  intro Q hq1 hq2
  have k := (Keeps.refl H).alloc (.cells true false 6 (mrow L i) 89)
  unfold mrow at k ⊢
  simp (disch := first | assumption | omega | (simp only [LN] <;> omega) | (simp (disch := first | assumption | omega | (simp only [LN] <;> omega)) only [row_alloc, row_set]; assumption)) only [f62, W_block, P3, ↓reduceIte, reduceAdd, reduceEqDiff, reduceCtorEq, initFr, reduceLT, clsA, reduceLeDiff, reduceMul, reduceSub, reduceIte, o_s64, o_s32, one_s64, one_s32]
  exact hq2 _ _ ⟨_, rfl, rfl, k⟩
def anyR (L : Ly) (f : Nat → Bool) (g : Nat → Nat → Bool) (p : Nat) : Bool := (List.range L.r.length).any fun i => f i && g i p
structure MsR (H : AHeap) (vr vl : Value) (L : Ly) : Prop where
  r : Sl H 6 vr (mrows L)
  l : Sl H 1 vl (mlies L)
theorem MsR.keeps {H K : AHeap} {vr vl : Value} {L : Ly} (h : MsR H vr vl L) (k : Keeps H K) : MsR K vr vl L := ⟨h.r.keeps k, h.l.keeps k⟩
theorem t25 {H : AHeap} {vr vl : Value} {L : Ly} {f : Nat → Bool} (h : MsR H vr vl L) (hl : L.r.length ≤ 64) :
    ∃ w K', ARun Go.Proofs.Try.prog 0 25 [.agg (mcells L vr vl).toArray, S64 f] H w K' ∧ w = .tuple #[S32 (anyR L f (nor L)), S32 (anyR L f (rev L))] ∧ K' = H := by
  suffices h' : ∃ w K', ARun Go.Proofs.Try.prog 0 25 [.agg (mcells L vr vl).toArray, S64 f] H w K' ∧ w = .tuple #[S32 (anyR L f (nor L)), S32 (anyR L f (rev L))] ∧ Keeps H K' by
    obtain ⟨_, _, a, rfl, k⟩ := h'
    exact ⟨_, _, a.gc0 k (.inr (.tuple _ _ rfl (fun i a b => by
      match i, a with
      | 0, _ => exact .int _ _
      | 1, _ => exact .int _ _))), rfl, rfl⟩
  refine walk2 f25_ok f25_n ?_
  intro Q hq1 hq2
  have r1 := Sl.one h.r
  have l1 := Sl.one h.l
  have kA := (Keeps.refl H).alloc (.cells true false 5 (mcells L vr vl) 74)
  have hA := h.keeps kA
  unfold mcells at kA hA ⊢
  simp (disch := first | assumption | omega | (simp only [LN] <;> omega) | (simp (disch := first | assumption | omega | (simp only [LN] <;> omega)) only [row_alloc, row_set]; assumption)) only [f25, W_block, P3, ↓reduceIte, reduceAdd, reduceEqDiff, reduceCtorEq, initFr, reduceLT, clsA, reduceLeDiff, reduceMul, reduceSub, reduceIte, r1, l1, o_s64, o_s32, one_s64, one_s32]
  refine callK (t58 hA.r hl l1 rfl rfl rfl (fun K i _ => t59 L i)) ?_
  rintro _ X ⟨rfl, hX⟩
  rw [hX]
  simp (disch := first | assumption | omega | (simp only [LN] <;> omega) | (simp (disch := first | assumption | omega | (simp only [LN] <;> omega)) only [row_alloc, row_set]; assumption)) only [W_block, P3, ↓reduceIte, reduceAdd, reduceEqDiff, reduceCtorEq, initFr, reduceLT, clsA, reduceLeDiff, reduceMul, reduceSub, reduceIte, r1, l1, o_s64, o_s32, one_s64, one_s32]
  refine callK (t58 hA.r hl l1 rfl rfl rfl (fun K i _ => t60 L i)) ?_
  rintro _ X ⟨rfl, hX⟩
  rw [hX]
  simp (disch := first | assumption | omega | (simp only [LN] <;> omega) | (simp (disch := first | assumption | omega | (simp only [LN] <;> omega)) only [row_alloc, row_set]; assumption)) only [W_block, P3, ↓reduceIte, reduceAdd, reduceEqDiff, reduceCtorEq, initFr, reduceLT, clsA, reduceLeDiff, reduceMul, reduceSub, reduceIte, r1, l1, o_s64, o_s32, one_s64, one_s32]
  exact hq2 _ _ ⟨_, rfl, rfl, kA⟩
theorem t26 {H : AHeap} {vr vl : Value} {L : Ly} {f : Nat → Bool} (h : MsR H vr vl L) (hl : L.r.length ≤ 64) :
    ∃ w K', ARun Go.Proofs.Try.prog 0 26 [.agg (mcells L vr vl).toArray, S64 f] H w K' ∧ w = S64 (anyR L f (tabP L)) ∧ K' = H := by
  suffices h' : ∃ w K', ARun Go.Proofs.Try.prog 0 26 [.agg (mcells L vr vl).toArray, S64 f] H w K' ∧ w = S64 (anyR L f (tabP L)) ∧ Keeps H K' by
    obtain ⟨_, _, a, rfl, k⟩ := h'
    exact ⟨_, _, a.gc0 k (.inr (.int _ _)), rfl, rfl⟩
  refine walk2 f26_ok f26_n ?_
  intro Q hq1 hq2
  have r1 := Sl.one h.r
  have l1 := Sl.one h.l
  have kA := (Keeps.refl H).alloc (.cells true false 5 (mcells L vr vl) 74)
  have hA := h.keeps kA
  unfold mcells at kA hA ⊢
  simp (disch := first | assumption | omega | (simp only [LN] <;> omega) | (simp (disch := first | assumption | omega | (simp only [LN] <;> omega)) only [row_alloc, row_set]; assumption)) only [f26, W_block, P3, ↓reduceIte, reduceAdd, reduceEqDiff, reduceCtorEq, initFr, reduceLT, clsA, reduceLeDiff, reduceMul, reduceSub, reduceIte, r1, l1, o_s64, o_s32, one_s64, one_s32]
  refine callK (t61 hA.r hl l1 rfl rfl rfl (fun K i _ => t62 L i)) ?_
  rintro _ X ⟨rfl, hX⟩
  rw [hX]
  simp (disch := first | assumption | omega | (simp only [LN] <;> omega) | (simp (disch := first | assumption | omega | (simp only [LN] <;> omega)) only [row_alloc, row_set]; assumption)) only [W_block, P3, ↓reduceIte, reduceAdd, reduceEqDiff, reduceCtorEq, initFr, reduceLT, clsA, reduceLeDiff, reduceMul, reduceSub, reduceIte, o_s64]
  exact hq2 _ _ ⟨_, rfl, rfl, kA⟩
def MaR (H : AHeap) (b : Nat) (L : Ly) : Prop := ∃ vr vl own room T, H.get b = some (.cells own room 5 (mcells L vr vl) T) ∧ MsR H vr vl L
theorem MaR.keeps {H K : AHeap} {b : Nat} {L : Ly} (h : MaR H b L) (k : Keeps H K) : MaR K b L := by
  obtain ⟨vr, vl, o, r, T, g, m⟩ := h
  exact ⟨vr, vl, o, r, T, k.at_ g, m.keeps k⟩
def MaF (n : Nat) (H : AHeap) (b : Nat) (L : Ly) : Prop := ∃ vr vl own room T, (n ≤ b ∧ Fresh n vr ∧ Fresh n vl) ∧ H.get b = some (.cells own room 5 (mcells L vr vl) T) ∧ MsR H vr vl L
theorem MaF.r {n : Nat} {H : AHeap} {b : Nat} {L : Ly} (h : MaF n H b L) : MaR H b L := by
  obtain ⟨vr, vl, o, r, T, _, g, m⟩ := h
  exact ⟨vr, vl, o, r, T, g, m⟩
theorem MaF.base {n m : Nat} {H : AHeap} {b : Nat} {L : Ly} (h : MaF n H b L) (hm : m ≤ n) : MaF m H b L := by
  obtain ⟨vr, vl, o, r, T, ⟨f1, f2, f3⟩, g⟩ := h
  exact ⟨vr, vl, o, r, T, ⟨by omega, fun b hb => Nat.le_trans hm (f2 b hb), fun b hb => Nat.le_trans hm (f3 b hb)⟩, g⟩
theorem MaF.same {n : Nat} {H K : AHeap} {b : Nat} {L : Ly} (h : MaF n H b L) (k : ∀ c, n ≤ c → c < H.n → K.get c = H.get c) : MaF n K b L := by
  obtain ⟨vr, vl, o, r, T, ⟨f1, f2, f3⟩, g, m⟩ := h
  exact ⟨vr, vl, o, r, T, ⟨f1, f2, f3⟩, by rw [k b f1 (AHeap.get_lt g)]; exact g, ⟨m.r.get' fun c hc hl => k c (f2 c hc) hl, m.l.get' fun c hc hl => k c (f3 c hc) hl⟩⟩
theorem fill5 (a b c d e : Value) : fillA [.slice none 0 0, .slice none 0 0, .int .u64 0, .int .u32 0, .int .u64 0] [(0, 5, .agg #[a, b, c, d, e])] = some [a, b, c, d, e] := rfl
theorem t21 {H : AHeap} {u : V4} {xs : List RV} {L : Ly} (h : LyR H u xs L) (hf : LyIn 9223372036854775807 L) :
    ∃ w H', ARun Go.Proofs.Try.prog 0 21 [.agg u.l.toArray] H w H' ∧ Keeps H H' ∧ (checkE L ≠ 0 → w = .tuple #[.pointer none, .int .i64 (checkE L)]) ∧
      (checkE L = 0 → ∃ b, w = .tuple #[ptr b 0, .int .i64 0] ∧ MaF H.n H' b L) := by
  refine walk2 f21_ok f21_n ?_
  intro Q hq1 hq2
  have os := Sl.one h.s
  have op := Sl.one h.p
  have og := Sl.one h.g
  have or := Sl.one h.r
  have hul : u.l = [u.s, u.p, u.g, u.r] := rfl
  have kA := (Keeps.refl H).alloc (.cells true false 4 u.l 27)
  have tM := t55 (h.keeps kA) hf
  simp only [hul] at kA tM ⊢
  simp (disch := first | assumption | omega | (simp only [LN] <;> omega) | (simp (disch := first | assumption | omega | (simp only [LN] <;> omega)) only [row_alloc, row_set]; assumption)) only [f21, W_block, P3, ↓reduceIte, reduceAdd, reduceEqDiff, reduceCtorEq, initFr, reduceLT, clsA, reduceLeDiff, reduceMul, reduceSub, reduceIte, os, op, og, or]
  refine callK tM ?_
  rintro _ K1 ⟨k1, e1, e2⟩
  by_cases he : checkE L = 0
  case neg =>
    rw [e1 he]
    have ne : (checkE L != 0) = true := by simp [he]
    simp (disch := first | assumption | omega | (simp only [LN] <;> omega) | (simp (disch := first | assumption | omega | (simp only [LN] <;> omega)) only [row_alloc, row_set]; assumption)) only [W_block, P3, ↓reduceIte, reduceAdd, reduceEqDiff, reduceCtorEq, initFr, reduceLT, clsA, reduceLeDiff, reduceMul, reduceSub, reduceIte, ne]
    exact hq2 _ _ ⟨_, rfl, (kA.trans k1).alloc _, fun _ => rfl, fun e => absurd e he⟩
  case pos =>
  obtain ⟨vr, vl, rfl, sr, sl, fr, fl⟩ := e2 he
  have r1 := Sl.one sr
  have l1 := Sl.one sl
  unfold mcells
  have k2 := ((Keeps.refl K1).alloc (.cells true false 5 (mcells L vr vl) 74)).alloc (.cells true false 5 (mcells L vr vl) 76)
  have g2 := AHeap.get_alloc_new (K1.alloc (.cells true false 5 (mcells L vr vl) 74)) (.cells true false 5 (mcells L vr vl) 76)
  have n1 := kA.n
  have n2 := k1.n
  have nA : (H.alloc (.cells true false 4 u.l 27)).n = H.n + 1 := rfl
  have m2 : MaF H.n ((K1.alloc (.cells true false 5 (mcells L vr vl) 74)).alloc (.cells true false 5 (mcells L vr vl) 76)) (K1.n + 1) L := ⟨vr, vl, _, _, _, ⟨by simp only [alloc_n] at *; omega, fun b hb => Nat.le_trans (by simp only [alloc_n] at *; omega) (fr b hb), fun b hb => Nat.le_trans (by simp only [alloc_n] at *; omega) (fl b hb)⟩, g2, (MsR.mk sr sl).keeps k2⟩
  unfold mcells at k2 m2
  simp (disch := first | assumption | omega | (simp only [LN] <;> omega) | (simp (disch := first | assumption | omega | (simp only [LN] <;> omega)) only [row_alloc, row_set]; assumption)) only [W_block, P3, ↓reduceIte, reduceAdd, reduceEqDiff, reduceCtorEq, initFr, reduceLT, clsA, reduceLeDiff, reduceMul, reduceSub, reduceIte, r1, l1, o_s64, o_s32, one_s64, one_s32, fill5]
  exact hq2 _ _ ⟨_, rfl, (kA.trans k1).trans k2, fun e => absurd he e, fun _ => ⟨_, rfl, m2⟩⟩
end Go.AM.Fd

set_option linter.unusedSimpArgs false
set_option linter.unusedVariables false
set_option maxRecDepth 8000
namespace Go.AM.Fd
open Go.Proofs Go.AM.F
structure Sta where
  lo : Nat → Bool
  us : Nat → Bool
  ca : Nat → Bool
  ti : Nat → Nat
  po : Nat → Bool
def tis (t : Nat → Nat) : List Value := (List.range 64).map fun i => Value.int .u8 (t i : Nat)
def stl (s : Sta) : List Value := S64 s.lo :: S64 s.us :: S64 s.ca :: (tis s.ti ++ [S32 s.po])
theorem tis_len (t : Nat → Nat) : (tis t).length = 64 := by simp [tis]
theorem tis_at {t : Nat → Nat} {i : Nat} (h : i < 64) : (tis t)[i]? = some (.int .u8 (t i : Nat)) := by simp [tis, h]
theorem stl_len (s : Sta) : (stl s).length = 68 := by simp [stl, tis_len]
theorem stl_0 (s : Sta) : (stl s)[0]? = some (S64 s.lo) := rfl
theorem stl_1 (s : Sta) : (stl s)[1]? = some (S64 s.us) := rfl
theorem stl_2 (s : Sta) : (stl s)[2]? = some (S64 s.ca) := rfl
theorem stl_67 (s : Sta) : (stl s)[67]? = some (S32 s.po) := by
  show (tis s.ti ++ [S32 s.po])[64]? = _
  rw [List.getElem?_append_right (by rw [tis_len]; omega), tis_len]; rfl
theorem stl_t (s : Sta) {i : Nat} (h : i < 64) : (stl s)[3 + i]? = some (.int .u8 (s.ti i : Nat)) := by
  rw [Nat.add_comm]
  show (tis s.ti ++ [S32 s.po])[i]? = _
  rw [List.getElem?_append_left (by rw [tis_len]; omega), tis_at h]
theorem set_0 (s : Sta) (f : Nat → Bool) : (stl s).set 0 (S64 f) = stl { s with lo := f } := rfl
theorem set_1 (s : Sta) (f : Nat → Bool) : (stl s).set 1 (S64 f) = stl { s with us := f } := rfl
theorem set_2 (s : Sta) (f : Nat → Bool) : (stl s).set 2 (S64 f) = stl { s with ca := f } := rfl
theorem set_67 (s : Sta) (f : Nat → Bool) : (stl s).set 67 (S32 f) = stl { s with po := f } := by
  show _ :: _ :: _ :: ((tis s.ti ++ [S32 s.po]).set 64 (S32 f)) = _
  rw [List.set_append_right _ _ (by rw [tis_len]; omega), tis_len]; rfl
def upd (t : Nat → Nat) (i n : Nat) (j : Nat) : Nat := if j = i then n else t j
theorem tis_set (t : Nat → Nat) (i n : Nat) : (tis t).set i (.int .u8 (n : Nat)) = tis (upd t i n) := by
  apply List.ext_getElem?
  intro j
  rw [List.getElem?_set, tis_len]
  by_cases e : i = j
  · subst e
    by_cases h : i < 64
    · rw [if_pos rfl, if_pos h, tis_at h]; simp [upd]
    · rw [if_pos rfl, if_neg h]; simp [tis, h]
  · rw [if_neg e]
    have e2 : ¬ j = i := fun x => e x.symm
    by_cases h : j < 64
    · rw [tis_at h, tis_at h]; simp [upd, e2]
    · simp [tis, h]
theorem set_t (s : Sta) {i : Nat} (h : i < 64) (n : Nat) : (stl s).set (3 + i) (.int .u8 (n : Nat)) = stl { s with ti := upd s.ti i n } := by
  rw [Nat.add_comm]
  show _ :: _ :: _ :: ((tis s.ti ++ [S32 s.po]).set i _) = _
  rw [List.set_append_left _ _ (by rw [tis_len]; omega), tis_set]; rfl
theorem set_t0 (s : Sta) {i : Nat} (h : i < 64) : (stl s).set (3 + i) (.int .u8 0) = stl { s with ti := upd s.ti i 0 } := set_t s h 0
theorem set_t20 (s : Sta) {i : Nat} (h : i < 64) : (stl s).set (3 + i) (.int .u8 20) = stl { s with ti := upd s.ti i 20 } := set_t s h 20
theorem stl_arr (s : Sta) : ((stl s).drop 3).take 64 = tis s.ti := by
  show (tis s.ti ++ [S32 s.po]).take 64 = _
  rw [List.take_append_of_le_length (by rw [tis_len]; omega), List.take_of_length_le (by rw [tis_len]; omega)]
theorem tis_one (t : Nat → Nat) : (tis t).all Value.oneCell' = true := by
  rw [List.all_eq_true]; intro x hx
  obtain ⟨i, _, rfl⟩ := List.mem_map.1 hx
  rfl
theorem stl_one (s : Sta) : (stl s).all Value.oneCell' = true := by
  show (true && (true && (true && (tis s.ti ++ [S32 s.po]).all Value.oneCell'))) = true
  rw [List.all_append, tis_one]; rfl
def Sta0 : Sta := ⟨fun _ => false, fun _ => false, fun _ => false, fun _ => 0, fun _ => false⟩
theorem stl_zero : [.int .u64 0, .int .u64 0, .int .u64 0] ++ List.replicate 64 (.int .u8 0) ++ [.int .u32 0] = stl Sta0 := by
  show Value.int .u64 0 :: Value.int .u64 0 :: Value.int .u64 0 :: (List.replicate 64 (.int .u8 0) ++ [.int .u32 0]) = _
  rw [s_zero, p_zero]
  show _ = S64 _ :: S64 _ :: S64 _ :: (tis (fun _ => 0) ++ [S32 _])
  have : tis (fun _ => 0) = List.replicate 64 (.int .u8 0) := by
    unfold tis; rw [List.map_const']; simp
  rw [this]; rfl
theorem rng_stl (s : Sta) (o r : Bool) (T : Nat) : rangeO (some (.cells o r 68 (stl s) T)) 3 64 = some (tis s.ti) := by
  rw [rangeO_c, if_pos (by rw [stl_len]; omega), stl_arr]
theorem a_idxt (H : AHeap) (t : Nat → Nat) (i : Nat) (h : i < 64) : asem (.idxa false 1 64 (.agg (tis t).toArray) (.int .i64 (i : Int))) H = some (.int .u8 (t i : Nat), H) := by
  simp only [asem]
  rw [if_pos ⟨by omega, by omega⟩]
  have : Int.toNat (i : Int) = i := by omega
  simp [this, tis_at h]
def sti (s : Sta) : List Int := ((bitsN s.lo 64 : Nat) : Int) :: ((bitsN s.us 64 : Nat) : Int) :: ((bitsN s.ca 64 : Nat) : Int) :: ((List.range 64).map (fun i => (s.ti i : Int)) ++ [((bitsN s.po 32 : Nat) : Int)])
def staB (s t : Sta) : Bool := decide (sti s = sti t)
theorem eqCs_ints : ∀ (ks : List IntKind) (xs ys : List Int), xs.length = ks.length → ys.length = ks.length → eqCs (List.replicate ks.length 1) (List.zipWith Value.int ks xs) (List.zipWith Value.int ks ys) = some (decide (xs = ys))
  | [], [], [], _, _ => by simp [eqCs]
  | k :: ks, x :: xs, y :: ys, h1, h2 => by
    have ih := eqCs_ints ks xs ys (by simpa using h1) (by simpa using h2)
    simp only [List.length_cons, List.replicate_succ, List.zipWith_cons_cons, eqCs, eqC, if_true, ih]
    congr 1
    rw [Bool.eq_iff_iff]; simp
  | [], _ :: _, _, h, _ => by simp at h
  | [], [], _ :: _, _, h => by simp at h
  | _ :: _, [], _, h, _ => by simp at h
  | _ :: _, _ :: _, [], _, h => by simp at h
def K68 : List IntKind := .u64 :: .u64 :: .u64 :: (List.replicate 64 .u8 ++ [.u32])
theorem zip_rep {k : IntKind} : ∀ (l : List Int), List.zipWith Value.int (List.replicate l.length k) l = l.map (Value.int k)
  | [] => rfl
  | a :: l => by rw [List.length_cons, List.replicate_succ, List.zipWith_cons_cons, zip_rep l]; rfl
theorem stl_zip (s : Sta) : stl s = List.zipWith Value.int K68 (sti s) := by
  have h : ((List.range 64).map (fun i => (s.ti i : Int))).length = 64 := by simp
  have e := zip_rep (k := .u8) ((List.range 64).map (fun i => (s.ti i : Int)))
  rw [h] at e
  show _ :: _ :: _ :: (tis s.ti ++ [S32 s.po]) = _ :: _ :: _ :: List.zipWith Value.int (List.replicate 64 .u8 ++ [.u32]) (_ ++ [_])
  rw [List.zipWith_append (by simp), e]
  simp [tis, S64, S32]
theorem eq_stl (H : AHeap) (neg : Bool) (s t : Sta) : asem (.eqs (List.replicate 68 1) neg (.agg (stl s).toArray) (.agg (stl t).toArray)) H = some (.bool (if neg then !staB s t else staB s t), H) := by
  simp only [asem]
  have := eqCs_ints K68 (sti s) (sti t) (by simp [K68, sti]) (by simp [K68, sti])
  have hk : K68.length = 68 := by simp [K68]
  rw [hk, ← stl_zip, ← stl_zip] at this
  rw [this]; rfl
end Go.AM.Fd

set_option maxRecDepth 100000
set_option maxHeartbeats 0
namespace Go.AM.F
def Z68G : List Value := [(.int .u64 0), (.int .u64 0), (.int .u64 0)] ++ List.replicate 64 (.int .u8 0) ++ [(.int .u32 0)]
def zclG : TypeId → List Value
 | 89 => [(.int .u64 0), (.int .u64 0), (.int .u64 0), (.int .u32 0), (.int .u32 0), (.int .u64 0)]
 | 32 => Z68G
 | 52 => [(.int .u64 0), (.int .u32 0)]
 | 70 => [(.int .u8 0), (.int .i64 0)]
 | 30 => [(.int .u32 0)]
 | _ => []
def zvlG : TypeId → Value
 | _ => undef
def zklG : TypeId → List Nat
 | _ => []
def zrlG : Nat → TypeId → List Value
 | _, _ => []
noncomputable def f30 : AFunc := by
 refine (fun (_ : Cz zclG zvlG zklG zrlG Go.Proofs.Try.prog 0 [0, 1, 2, 3, 7, 8, 9, 10, 11, 12, 13, 18, 19, 29, 79, 117, 136, 143, 183] 30 ?a) => ?a) ?h
 case h =>
 intro zc zv zk zr hc hv hk hr
 conv => lhs; cbv; try simp only [hc, hv, hk, hr, zclG, zvlG, zklG, zrlG]
theorem f30_ok : compF Go.Proofs.Try.prog 0 [0, 1, 2, 3, 7, 8, 9, 10, 11, 12, 13, 18, 19, 29, 79, 117, 136, 143, 183] 30 = some f30 := by kernel_rfl
theorem f30_n : argsOK Go.Proofs.Try.prog 30 4 = true := by kernel_rfl
noncomputable def f31 : AFunc := by
 refine (fun (_ : Cz zclG zvlG zklG zrlG Go.Proofs.Try.prog 0 [0, 1, 4, 5, 6, 7, 8, 9, 10, 11, 18] 31 ?a) => ?a) ?h
 case h =>
 intro zc zv zk zr hc hv hk hr
 conv => lhs; cbv; try simp only [hc, hv, hk, hr, zclG, zvlG, zklG, zrlG]
theorem f31_ok : compF Go.Proofs.Try.prog 0 [0, 1, 4, 5, 6, 7, 8, 9, 10, 11, 18] 31 = some f31 := by kernel_rfl
theorem f31_n : argsOK Go.Proofs.Try.prog 31 2 = true := by kernel_rfl
noncomputable def f32 : AFunc := by
 refine (fun (_ : Cz zclG zvlG zklG zrlG Go.Proofs.Try.prog 0 [0, 1, 2, 4, 5] 32 ?a) => ?a) ?h
 case h =>
 intro zc zv zk zr hc hv hk hr
 conv => lhs; cbv; try simp only [hc, hv, hk, hr, zclG, zvlG, zklG, zrlG]
theorem f32_ok : compF Go.Proofs.Try.prog 0 [0, 1, 2, 4, 5] 32 = some f32 := by kernel_rfl
theorem f32_n : argsOK Go.Proofs.Try.prog 32 3 = true := by kernel_rfl
noncomputable def f33 : AFunc := by
 refine (fun (_ : Cz zclG zvlG zklG zrlG Go.Proofs.Try.prog 0 [0, 1, 2, 4, 5] 33 ?a) => ?a) ?h
 case h =>
 intro zc zv zk zr hc hv hk hr
 conv => lhs; cbv; try simp only [hc, hv, hk, hr, zclG, zvlG, zklG, zrlG]
theorem f33_ok : compF Go.Proofs.Try.prog 0 [0, 1, 2, 4, 5] 33 = some f33 := by kernel_rfl
theorem f33_n : argsOK Go.Proofs.Try.prog 33 3 = true := by kernel_rfl
noncomputable def f34 : AFunc := by
 refine (fun (_ : Cz zclG zvlG zklG zrlG Go.Proofs.Try.prog 0 [0, 1, 4, 5, 6, 7, 8, 9, 10, 11, 18] 34 ?a) => ?a) ?h
 case h =>
 intro zc zv zk zr hc hv hk hr
 conv => lhs; cbv; try simp only [hc, hv, hk, hr, zclG, zvlG, zklG, zrlG]
theorem f34_ok : compF Go.Proofs.Try.prog 0 [0, 1, 4, 5, 6, 7, 8, 9, 10, 11, 18] 34 = some f34 := by kernel_rfl
theorem f34_n : argsOK Go.Proofs.Try.prog 34 2 = true := by kernel_rfl
noncomputable def f35 : AFunc := by
 refine (fun (_ : Cz zclG zvlG zklG zrlG Go.Proofs.Try.prog 0 [0, 1, 4] 35 ?a) => ?a) ?h
 case h =>
 intro zc zv zk zr hc hv hk hr
 conv => lhs; cbv; try simp only [hc, hv, hk, hr, zclG, zvlG, zklG, zrlG]
theorem f35_ok : compF Go.Proofs.Try.prog 0 [0, 1, 4] 35 = some f35 := by kernel_rfl
theorem f35_n : argsOK Go.Proofs.Try.prog 35 2 = true := by kernel_rfl
noncomputable def f37 : AFunc := by
 refine (fun (_ : Cz zclG zvlG zklG zrlG Go.Proofs.Try.prog 0 [0, 1, 2, 3] 37 ?a) => ?a) ?h
 case h =>
 intro zc zv zk zr hc hv hk hr
 conv => lhs; cbv; try simp only [hc, hv, hk, hr, zclG, zvlG, zklG, zrlG]
theorem f37_ok : compF Go.Proofs.Try.prog 0 [0, 1, 2, 3] 37 = some f37 := by kernel_rfl
theorem f37_n : argsOK Go.Proofs.Try.prog 37 1 = true := by kernel_rfl
noncomputable def f38 : AFunc := by
 refine (fun (_ : Cz zclG zvlG zklG zrlG Go.Proofs.Try.prog 0 [0, 1, 2, 3, 5, 6] 38 ?a) => ?a) ?h
 case h =>
 intro zc zv zk zr hc hv hk hr
 conv => lhs; cbv; try simp only [hc, hv, hk, hr, zclG, zvlG, zklG, zrlG]
theorem f38_ok : compF Go.Proofs.Try.prog 0 [0, 1, 2, 3, 5, 6] 38 = some f38 := by kernel_rfl
theorem f38_n : argsOK Go.Proofs.Try.prog 38 4 = true := by kernel_rfl
noncomputable def f67 : AFunc := by
 refine (fun (_ : Cz zclG zvlG zklG zrlG Go.Proofs.Try.prog 0 [0, 1, 4] 67 ?a) => ?a) ?h
 case h =>
 intro zc zv zk zr hc hv hk hr
 conv => lhs; cbv; try simp only [hc, hv, hk, hr, zclG, zvlG, zklG, zrlG]
theorem f67_ok : compF Go.Proofs.Try.prog 0 [0, 1, 4] 67 = some f67 := by kernel_rfl
theorem f67_n : argsOK Go.Proofs.Try.prog 67 2 = true := by kernel_rfl
noncomputable def f14 : AFunc := by
 refine (fun (_ : Cz zclG zvlG zklG zrlG Go.Proofs.Try.prog 0 [0, 1, 2, 4, 5, 6, 7, 8, 9, 10, 11, 12, 13, 14, 15, 17, 19, 20, 21, 22, 24, 33, 34, 35, 36, 41, 81, 82, 83, 84, 96, 97, 98, 99] 14 ?a) => ?a) ?h
 case h =>
 intro zc zv zk zr hc hv hk hr
 conv => lhs; cbv; try simp only [hc, hv, hk, hr, zclG, zvlG, zklG, zrlG]
theorem f14_ok : compF Go.Proofs.Try.prog 0 [0, 1, 2, 4, 5, 6, 7, 8, 9, 10, 11, 12, 13, 14, 15, 17, 19, 20, 21, 22, 24, 33, 34, 35, 36, 41, 81, 82, 83, 84, 96, 97, 98, 99] 14 = some f14 := by kernel_rfl
theorem f14_n : argsOK Go.Proofs.Try.prog 14 3 = true := by kernel_rfl
end Go.AM.F

set_option linter.unusedSimpArgs false
set_option linter.unusedVariables false
set_option maxRecDepth 8000
namespace Go.AM.Fd
open Nat (reduceAdd reduceEqDiff reduceLT reduceLeDiff reduceMul reduceSub)
open Go.Proofs Go.AM.F
theorem Z68F_z : Z68F = stl Sta0 := stl_zero
theorem O68F_r : O68F = List.replicate 68 1 := rfl
theorem plain_stl (s : Sta) : (stl s).all plain1 = true := by
  show (true && (true && (true && (tis s.ti ++ [S32 s.po]).all plain1))) = true
  rw [List.all_append]
  have : (tis s.ti).all plain1 = true := by
    rw [List.all_eq_true]; intro x hx
    obtain ⟨i, _, rfl⟩ := List.mem_map.1 hx
    rfl
  rw [this]; rfl
theorem nv_stl (ρ : Nat → Option Nat) (s : Sta) : NV ρ (.agg (stl s).toArray) (.agg (stl s).toArray) := NV.agg_of (NL.plain (plain_stl s))
def tidyS (L : Ly) (s : Sta) : Sta where
  lo := fun i => s.lo i && lowP L.r.length i
  us := fun i => s.us i && (s.lo i && lowP L.r.length i)
  ca := fun i => s.ca i && (s.lo i && lowP L.r.length i)
  ti := fun i => if s.ca i && (s.lo i && lowP L.r.length i) then min (s.ti i) 20 else 0
  po := fun i => s.po i && lowP L.p.length i
theorem stl_ext {s t : Sta} (h1 : ∀ i, i < 64 → s.lo i = t.lo i) (h2 : ∀ i, i < 64 → s.us i = t.us i) (h3 : ∀ i, i < 64 → s.ca i = t.ca i) (h4 : ∀ i, i < 64 → s.ti i = t.ti i) (h5 : ∀ i, i < 32 → s.po i = t.po i) : stl s = stl t := by
  unfold stl
  rw [s64_ext h1, s64_ext h2, s64_ext h3, s32_ext h5]
  have : tis s.ti = tis t.ti := by
    unfold tis
    apply List.map_congr_left
    intro i hi
    rw [h4 i (List.mem_range.1 hi)]
  rw [this]
theorem has_nat (f : Nat → Bool) {i : Nat} (h : i < 64) : hasB f (i : Int) = f i := by
  have a : (i : Int) < 64 := by omega
  simp [hasB, a]
theorem rng68 (s : Sta) (o r : Bool) (T : Nat) : rangeO (some (.cells o r 68 (stl s) T)) 0 68 = some (stl s) := rng_full (stl_len s)
theorem stn68 (H : AHeap) (b : Nat) (s : Sta) (c : List Value) (hc : c.length = 68) (r : Bool) (T : Nat) : stnO H b 0 68 (stl s) (some (.cells true r 68 c T)) = some (undef, H.set b (.cells true r 68 (stl s) T)) := by
  rw [stn_full hc, if_pos ⟨stl_len s, stl_one s⟩]
theorem stn68s (H : AHeap) (b : Nat) (s t : Sta) (r : Bool) (T : Nat) : stnO H b 0 68 (stl s) (some (.cells true r 68 (stl t) T)) = some (undef, H.set b (.cells true r 68 (stl s) T)) := stn68 H b s _ (stl_len t) r T
def tidT (s : Sta) (L : Ly) (i : Nat) : Sta where
  lo := fun i => s.lo i && lowP L.r.length i
  us := fun i => s.us i && (s.lo i && lowP L.r.length i)
  ca := fun i => s.ca i && (s.lo i && lowP L.r.length i)
  ti := fun j => if j < i then (tidyS L s).ti j else s.ti j
  po := fun i => s.po i && lowP L.p.length i
set_option maxHeartbeats 2000000 in
theorem t9 {H : AHeap} {b : Nat} {L : Ly} (h : MaR H b L) (s : Sta) : ∃ w H', ARun Go.Proofs.Try.prog 0 9 [ptr b 0, .agg (stl s).toArray] H w H' ∧ w = .agg (stl (tidyS L s)).toArray ∧ H' = H := by
  suffices h' : ∃ w H', ARun Go.Proofs.Try.prog 0 9 [ptr b 0, .agg (stl s).toArray] H w H' ∧ w = .agg (stl (tidyS L s)).toArray ∧ Keeps H H' by
    obtain ⟨_, _, a, rfl, k⟩ := h'
    exact ⟨_, _, a.gc0 k (.inr (nv_stl _ _)), rfl, rfl⟩
  refine walk2 f9_ok f9_n ?_
  intro Q hq1 hq2
  obtain ⟨vr, vl, own, room, T, gb, ms⟩ := h
  obtain ⟨K0, hK0⟩ : ∃ X, X = (H.alloc (.cells true false 68 (stl s) 32)).alloc (.cells true false 68 (stl Sta0) 32) := ⟨_, rfl⟩
  have k0 : Keeps H K0 := by rw [hK0]; exact ((Keeps.refl H).alloc _).alloc _
  have n0 : K0.n = H.n + 2 := by rw [hK0]; rfl
  have gs0 : K0.get H.n = some (.cells true false 68 (stl s) 32) := by rw [hK0]; exact ((Keeps.refl _).alloc _).at_ (AHeap.get_alloc_new H _)
  have gw0 : K0.get (H.n + 1) = some (.cells true false 68 (stl Sta0) 32) := by rw [hK0]; exact AHeap.get_alloc_new (H.alloc _) _
  have gb0 := k0.at_ gb
  unfold mcells at gb0
  have hbl := AHeap.get_lt gb
  have hbl2 : b < H.n + 1 := by omega
  have hb1 : ¬ b = H.n := by omega
  have hb2 : ¬ b = H.n + 1 := by omega
  have gb' := gb
  unfold mcells at gb'
  simp (disch := first | assumption | omega | (simp only [LN] <;> omega) | (simp (disch := first | assumption | omega | (simp only [LN] <;> omega)) only [row_alloc, row_set]; assumption)) only [ f9, P3, ↓reduceIte, reduceAdd, reduceEqDiff, reduceCtorEq, initFr, reduceLT, clsA, reduceLeDiff, reduceMul, reduceSub, reduceIte, stl_one, stl_len, Z68F_z, stl_0, stl_1, stl_2, stl_67, set_0, set_1, set_2, set_67, gb', hbl, hbl2, hb1, hb2, s_and, p_and, one_s64, one_s32, o_s64, o_s32, rng_stl]
  rw [W_block]
  obtain ⟨K1, hK1⟩ : ∃ X, X = (H.alloc (.cells true false 68 (stl (tidT s L 0)) 32)).alloc (.cells true false 68 (stl Sta0) 32) := ⟨_, rfl⟩
  have k1 : Keeps H K1 := by rw [hK1]; exact ((Keeps.refl H).alloc _).alloc _
  have gs1 : K1.get H.n = some (.cells true false 68 (stl (tidT s L 0)) 32) := by rw [hK1]; exact ((Keeps.refl _).alloc _).at_ (AHeap.get_alloc_new H _)
  have gw1 : K1.get (H.n + 1) = some (.cells true false 68 (stl Sta0) 32) := by rw [hK1]; exact AHeap.get_alloc_new (H.alloc _) _
  have eT : (⟨fun i => s.lo i && lowP L.r.length i, fun i => s.us i && (s.lo i && lowP L.r.length i), fun i => s.ca i && (s.lo i && lowP L.r.length i), s.ti, fun i => s.po i && lowP L.p.length i⟩ : Sta) = tidT s L 0 := by simp [tidT]
  rw [eT, ← hK1]
  refine W_loop2 (fun q fr K => ∃ i x4 x5 x9 x10, fr = [ptr b 0, .agg (stl s).toArray, ptr H.n 0, ptr (H.n + 1) 0, x4, x5, .bool false, .agg (tis s.ti).toArray, .int .i64 ((i : Nat) : Int), x9, x10] ∧
      Keeps H K ∧ K.get H.n = some (.cells true false 68 (stl (tidT s L i)) 32) ∧ K.get (H.n + 1) = some (.cells true false 68 (stl Sta0) 32) ∧ i ≤ 64 ∧ q = 64 - i) 64
    ⟨0, _, _, _, _, rfl, k1, gs1, gw1, by omega, rfl⟩ ?_
  rintro Q' q fr K ⟨i, x4, x5, x9, x10, rfl, kK, gs, gw, hi, rfl⟩ hn' hx' hret
  have hs1 := AHeap.get_lt gs
  have hw1 := AHeap.get_lt gw
  by_cases hlt : i < 64
  · have e0 : (0 : Int) ≤ (i : Int) := by omega
    have e1 : (i : Int) < 64 := by omega
    have hw : IntKind.i64.wrap ((i : Int) + 1) = ((i + 1 : Nat) : Int) := by rw [wrap_i64 (by omega) (by omega)]; simp
    have ix := a_idxt K s.ti i hlt
    have st0 := set_t0 (tidT s L i) hlt
    have hll : 3 + i < 68 := by omega
    simp (disch := first | assumption | omega | (simp only [LN] <;> omega) | (simp (disch := first | assumption | omega | (simp only [LN] <;> omega)) only [row_alloc, row_set]; assumption)) only [W_block, P3, ↓reduceIte, reduceAdd, reduceEqDiff, reduceCtorEq, initFr, reduceLT, clsA, reduceLeDiff, reduceMul, reduceSub, reduceIte, e0, e1, ix, a_iaddrp, gs, stl_len, st0, hll, Int.toNat_natCast, Nat.mul_one, stl_2]
    refine callK (t22 _ _) ?_
    rintro _ X ⟨rfl, hX⟩
    rw [hX, has_nat _ hlt]
    have hca : (tidT s L i).ca i = (s.ca i && (s.lo i && lowP L.r.length i)) := rfl
    have htt : (tidyS L s).ti i = if s.ca i && (s.lo i && lowP L.r.length i) then min (s.ti i) 20 else 0 := rfl
    rw [← hca] at htt
    have low : ∀ j, j < i → (tidT s L i).ti j = (tidT s L (i + 1)).ti j := fun j hj => by
      show (if j < i then _ else _) = (if j < i + 1 then _ else _)
      rw [if_pos hj, if_pos (by omega)]
    have up : ∀ j, i < j → (tidT s L i).ti j = (tidT s L (i + 1)).ti j := fun j hj => by
      show (if j < i then _ else _) = (if j < i + 1 then _ else _)
      rw [if_neg (by omega), if_neg (by omega)]
    have at_ : (tidT s L (i + 1)).ti i = (tidyS L s).ti i := by
      show (if i < i + 1 then _ else _) = _
      rw [if_pos (by omega)]
    cases hc : (tidT s L i).ca i with
    | false =>
      rw [hc] at htt
      simp (disch := first | assumption | omega | (simp only [LN] <;> omega) | (simp (disch := first | assumption | omega | (simp only [LN] <;> omega)) only [row_alloc, row_set]; assumption)) only [W_block, P3, ↓reduceIte, reduceAdd, reduceEqDiff, reduceCtorEq, initFr, reduceLT, clsA, reduceLeDiff, reduceMul, reduceSub, reduceIte, hw]
      refine hn' _ _ _ ⟨i + 1, _, _, _, _, rfl, kK.set (Nat.le_refl _) hs1 _, ?_, by rw [AHeap.get_set_other K (by omega) hs1]; exact gw, by omega, rfl⟩ (by omega)
      rw [AHeap.get_set_same gs]
      congr 2
      refine stl_ext (fun _ _ => rfl) (fun _ _ => rfl) (fun _ _ => rfl) (fun j _ => ?_) (fun _ _ => rfl)
      show upd _ _ _ j = _
      unfold upd
      by_cases e : j = i
      · subst e; rw [if_pos rfl, at_, htt]; rfl
      · rw [if_neg e]
        rcases Nat.lt_or_gt_of_ne e with h | h
        · exact low j h
        · exact up j h
    | true =>
      rw [hc] at htt
      have hmn : min ((s.ti i : Nat) : Int) 20 = ((min (s.ti i) 20 : Nat) : Int) := by omega
      have st1 := fun t : Sta => set_t t hlt (min (s.ti i) 20)
      have gg : ∀ o, (K.set H.n o).get H.n = some o := fun o => AHeap.get_set_same gs o
      simp (disch := first | assumption | omega | (simp only [LN] <;> omega) | (simp (disch := first | assumption | omega | (simp only [LN] <;> omega)) only [row_alloc, row_set]; assumption)) only [W_block, P3, ↓reduceIte, reduceAdd, reduceEqDiff, reduceCtorEq, initFr, reduceLT, clsA, reduceLeDiff, reduceMul, reduceSub, reduceIte, hw, e0, e1, a_mmn, hmn, a_iaddrp, gg, stl_len, st1, hll, Int.toNat_natCast, Nat.mul_one]
      refine hn' _ _ _ ⟨i + 1, _, _, _, _, rfl, kK.set (Nat.le_refl _) hs1 _, ?_, by rw [AHeap.get_set_other K (by omega) hs1]; exact gw, by omega, rfl⟩ (by omega)
      rw [AHeap.get_set_same gs]
      congr 2
      refine stl_ext (fun _ _ => rfl) (fun _ _ => rfl) (fun _ _ => rfl) (fun j _ => ?_) (fun _ _ => rfl)
      show upd (upd _ _ _) _ _ j = _
      unfold upd
      by_cases e : j = i
      · subst e; rw [if_pos rfl, at_, htt]; rfl
      · rw [if_neg e, if_neg e]
        rcases Nat.lt_or_gt_of_ne e with h | h
        · exact low j h
        · exact up j h
  · have e1 : ¬ ((i : Nat) : Int) < 64 := by omega
    have hie : i = 64 := by omega
    subst hie
    simp (disch := first | assumption | omega | (simp only [LN] <;> omega) | (simp (disch := first | assumption | omega | (simp only [LN] <;> omega)) only [row_alloc, row_set]; assumption)) only [W_block, P3, ↓reduceIte, reduceAdd, reduceEqDiff, reduceCtorEq, initFr, reduceLT, clsA, reduceLeDiff, reduceMul, reduceSub, reduceIte, e1]
    refine hx' _ _ _ ?_
    have ex : stl (tidT s L 64) = stl (tidyS L s) := stl_ext (fun _ _ => rfl) (fun _ _ => rfl) (fun _ _ => rfl) (fun j hj => by
      show (if j < 64 then _ else _) = _
      rw [if_pos hj]) (fun _ _ => rfl)
    rw [ex] at gs
    simp (disch := first | assumption | omega | (simp only [LN] <;> omega) | (simp (disch := first | assumption | omega | (simp only [LN] <;> omega)) only [row_alloc, row_set]; assumption)) only [W_block, P3, ↓reduceIte, reduceAdd, reduceEqDiff, reduceCtorEq, initFr, reduceLT, clsA, reduceLeDiff, reduceMul, reduceSub, reduceIte, gs, gw, rng68, stn68s]
    refine hq2 _ _ ⟨_, ?_, rfl, kK.set (by omega) hw1 _⟩
    show resO [.cn 68 3] _ _ = _
    rw [resC]
    show celln 68 (ptr (H.n + 1) 0) _ = _
    rw [cellnp, rangeA_e, AHeap.get_set_same gw, rng_full (stl_len _)]; rfl
def rgtB (L : Ly) (s : Sta) : Bool := staB (tidyS L s) s && (none64 (fun i => anyR L s.lo (tabP L) i && s.lo i) && none32 (fun p => anyR L s.lo (nor L) p && s.po p) && none32 (fun p => anyR L s.lo (rev L) p && !s.po p))
set_option maxHeartbeats 1000000 in
theorem t11 {H : AHeap} {b : Nat} {L : Ly} (h : MaR H b L) (hl : L.r.length ≤ 64) (s : Sta) : ∃ w H', ARun Go.Proofs.Try.prog 0 11 [ptr b 0, .agg (stl s).toArray] H w H' ∧ w = .bool (rgtB L s) ∧ H' = H := by
  suffices h' : ∃ w H', ARun Go.Proofs.Try.prog 0 11 [ptr b 0, .agg (stl s).toArray] H w H' ∧ w = .bool (rgtB L s) ∧ Keeps H H' by
    obtain ⟨_, _, a, rfl, k⟩ := h'
    exact ⟨_, _, a.gc0 k (.inr (.bool _)), rfl, rfl⟩
  refine walk2 f11_ok f11_n ?_
  intro Q hq1 hq2
  have k0 := (Keeps.refl H).alloc (.cells true false 68 (stl s) 32)
  have gs0 := AHeap.get_alloc_new H (.cells true false 68 (stl s) 32)
  have tT := t9 (h.keeps k0) s
  obtain ⟨vr, vl, own, room, T, gb, ms⟩ := h
  have gb0 := k0.at_ gb
  have ms0 := ms.keeps k0
  have hbl := AHeap.get_lt gb
  have r1 := Sl.one ms.r
  have l1 := Sl.one ms.l
  have eqs0 := fun K neg a b => eq_stl K neg a b
  obtain ⟨K0, hK0⟩ : ∃ X, X = H.alloc (.cells true false 68 (stl s) 32) := ⟨_, rfl⟩
  rw [← hK0] at k0 gs0 tT gb0 ms0
  have n0 : H.n < K0.n := AHeap.get_lt gs0
  simp (disch := first | assumption | omega | (simp only [LN] <;> omega) | (simp (disch := first | assumption | omega | (simp only [LN] <;> omega)) only [row_alloc, row_set]; assumption)) only [ f11, P3, ↓reduceIte, reduceAdd, reduceEqDiff, reduceCtorEq, initFr, reduceLT, clsA, reduceLeDiff, reduceMul, reduceSub, reduceIte, stl_one, stl_len, rng68]
  rw [← hK0]
  refine callK tT ?_
  rintro _ X ⟨rfl, hX⟩
  rw [hX]
  unfold rgtB at hq1 hq2
  cases hsb : staB (tidyS L s) s with
  | false =>
    rw [hsb] at hq1 hq2
    simp (disch := first | assumption | omega | (simp only [LN] <;> omega) | (simp (disch := first | assumption | omega | (simp only [LN] <;> omega)) only [row_alloc, row_set]; assumption)) only [W_block, P3, ↓reduceIte, reduceAdd, reduceEqDiff, reduceCtorEq, initFr, reduceLT, clsA, reduceLeDiff, reduceMul, reduceSub, reduceIte, gs0, rng68, O68F_r, eqs0, n0, hsb]
    exact hq2 _ _ ⟨_, rfl, rfl, k0⟩
  | true =>
  rw [hsb] at hq1 hq2
  have tN := t25 (f := s.lo) ms0 hl
  have tC := t26 (f := s.lo) ms0 hl
  unfold mcells at tN tC gb0
  simp (disch := first | assumption | omega | (simp only [LN] <;> omega) | (simp (disch := first | assumption | omega | (simp only [LN] <;> omega)) only [row_alloc, row_set]; assumption)) only [W_block, P3, ↓reduceIte, reduceAdd, reduceEqDiff, reduceCtorEq, initFr, reduceLT, clsA, reduceLeDiff, reduceMul, reduceSub, reduceIte, gs0, gb0, rng68, O68F_r, eqs0, n0, hsb, stl_0, r1, l1]
  refine callK tN ?_
  rintro _ X ⟨rfl, hX⟩
  rw [hX]
  simp (disch := first | assumption | omega | (simp only [LN] <;> omega) | (simp (disch := first | assumption | omega | (simp only [LN] <;> omega)) only [row_alloc, row_set]; assumption)) only [W_block, P3, ↓reduceIte, reduceAdd, reduceEqDiff, reduceCtorEq, initFr, reduceLT, clsA, reduceLeDiff, reduceMul, reduceSub, reduceIte, gs0, gb0, stl_0, r1, l1]
  refine callK tC ?_
  rintro _ X ⟨rfl, hX⟩
  rw [hX]
  cases h1 : none64 (fun i => anyR L s.lo (tabP L) i && s.lo i) with
  | false =>
    rw [h1] at hq1 hq2
    simp (disch := first | assumption | omega | (simp only [LN] <;> omega) | (simp (disch := first | assumption | omega | (simp only [LN] <;> omega)) only [row_alloc, row_set]; assumption)) only [W_block, P3, ↓reduceIte, reduceAdd, reduceEqDiff, reduceCtorEq, initFr, reduceLT, clsA, reduceLeDiff, reduceMul, reduceSub, reduceIte, gs0, stl_0, stl_67, s_and, s_eq0, h1, n0]
    exact hq2 _ _ ⟨_, rfl, rfl, k0⟩
  | true =>
  rw [h1] at hq1 hq2
  cases h2 : none32 (fun p => anyR L s.lo (nor L) p && s.po p) with
  | false =>
    rw [h2] at hq1 hq2
    simp (disch := first | assumption | omega | (simp only [LN] <;> omega) | (simp (disch := first | assumption | omega | (simp only [LN] <;> omega)) only [row_alloc, row_set]; assumption)) only [W_block, P3, ↓reduceIte, reduceAdd, reduceEqDiff, reduceCtorEq, initFr, reduceLT, clsA, reduceLeDiff, reduceMul, reduceSub, reduceIte, gs0, stl_0, stl_67, s_and, s_eq0, p_and, p_eq0, h1, h2, n0]
    exact hq2 _ _ ⟨_, rfl, rfl, k0⟩
  | true =>
  rw [h2] at hq1 hq2
  simp (disch := first | assumption | omega | (simp only [LN] <;> omega) | (simp (disch := first | assumption | omega | (simp only [LN] <;> omega)) only [row_alloc, row_set]; assumption)) only [W_block, P3, ↓reduceIte, reduceAdd, reduceEqDiff, reduceCtorEq, initFr, reduceLT, clsA, reduceLeDiff, reduceMul, reduceSub, reduceIte, gs0, stl_0, stl_67, s_and, s_eq0, p_and, p_andn, p_eq0, h1, h2, n0]
  exact hq2 _ _ ⟨_, rfl, rfl, k0⟩
end Go.AM.Fd

set_option maxRecDepth 100000
set_option maxHeartbeats 0
namespace Go.AM.F
def zclJ : TypeId → List Value
 | _ => []
def zvlJ : TypeId → Value
 | _ => undef
def zklJ : TypeId → List Nat
 | _ => []
def zrlJ : Nat → TypeId → List Value
 | 1, 3 => [(.int .i64 0)]
 | _, _ => []
noncomputable def f68 : AFunc := by
 refine (fun (_ : Cz zclJ zvlJ zklJ zrlJ Go.Proofs.Try.prog 0 [0, 2] 68 ?a) => ?a) ?h
 case h =>
 intro zc zv zk zr hc hv hk hr
 conv => lhs; cbv; try simp only [hc, hv, hk, hr, zclJ, zvlJ, zklJ, zrlJ]
theorem f68_ok : compF Go.Proofs.Try.prog 0 [0, 2] 68 = some f68 := by kernel_rfl
theorem f68_n : argsOK Go.Proofs.Try.prog 68 1 = true := by kernel_rfl
noncomputable def f97 : AFunc := by
 refine (fun (_ : Cz zclJ zvlJ zklJ zrlJ Go.Proofs.Try.prog 0 [0, 1, 2, 4, 5, 6, 7] 97 ?a) => ?a) ?h
 case h =>
 intro zc zv zk zr hc hv hk hr
 have e0A := (rfl : rfA Go.Proofs.Try.prog 97 0 = rfA Go.Proofs.Try.prog 97 0); conv at e0A => rhs; cbv
 have e0B := (rfl : rfB Go.Proofs.Try.prog 97 0 = rfB Go.Proofs.Try.prog 97 0); conv at e0B => rhs; cbv
 conv => lhs; cbv; try simp only [hc, hv, hk, hr, zclJ, zvlJ, zklJ, zrlJ]; simp only [← e0A, ← e0B]
theorem f97_ok : compF Go.Proofs.Try.prog 0 [0, 1, 2, 4, 5, 6, 7] 97 = some f97 := by kernel_rfl
theorem f97_n : argsOK Go.Proofs.Try.prog 97 2 = true := by kernel_rfl
noncomputable def f97r0a : ACode := by
 refine (fun (_ : CzC zclJ zvlJ zklJ zrlJ Go.Proofs.Try.prog 0 13 [0, 1, 2, 4, 5, 6, 7] (rfA Go.Proofs.Try.prog 97 0) ?a) => ?a) ?h
 case h => intro zc zv zk zr hc hv hk hr; conv => lhs; cbv; try simp only [hc, hv, hk, hr, zclJ, zvlJ, zklJ, zrlJ]
theorem f97r0a_ok : compC Go.Proofs.Try.prog 0 13 [0, 1, 2, 4, 5, 6, 7] (rfA Go.Proofs.Try.prog 97 0) = some f97r0a := by kernel_rfl
noncomputable def f97r0b : ACode := by
 refine (fun (_ : CzC zclJ zvlJ zklJ zrlJ Go.Proofs.Try.prog 0 13 [0, 1, 2, 4, 5, 6, 7] (rfB Go.Proofs.Try.prog 97 0) ?a) => ?a) ?h
 case h => intro zc zv zk zr hc hv hk hr; conv => lhs; cbv; try simp only [hc, hv, hk, hr, zclJ, zvlJ, zklJ, zrlJ]
theorem f97r0b_ok : compC Go.Proofs.Try.prog 0 13 [0, 1, 2, 4, 5, 6, 7] (rfB Go.Proofs.Try.prog 97 0) = some f97r0b := by kernel_rfl
theorem f97r0_n : (noRF (rfA Go.Proofs.Try.prog 97 0) && noRF (rfB Go.Proofs.Try.prog 97 0)) = true := by kernel_rfl
end Go.AM.F

set_option linter.unusedSimpArgs false
set_option linter.unusedVariables false
set_option maxRecDepth 8000
namespace Go.AM.Fd
open Nat (reduceAdd reduceEqDiff reduceLT reduceLeDiff reduceMul reduceSub)
open Go.Proofs Go.AM.F
theorem t69 {H : AHeap} (f : Nat → Bool) : ∃ w H', ARun Go.Proofs.Try.prog 0 69 [S64 f] H w H' ∧ w = .func (.func 98) #[] #[ptr H.n 0] ∧ H' = H.alloc (.cells true false 1 [S64 f] 28) := by
  refine walk2 f69_ok f69_n ?_
  intro Q hq1 hq2
  simp (disch := first | assumption | omega | (simp only [LN] <;> omega) | (simp (disch := first | assumption | omega | (simp only [LN] <;> omega)) only [row_alloc, row_set]; assumption)) only [f69, W_block, P3, ↓reduceIte, reduceAdd, reduceEqDiff, reduceCtorEq, initFr, reduceLT, clsA, reduceLeDiff, reduceMul, reduceSub, reduceIte, cells_s64, one_s64, o_s64]
  exact hq2 _ _ ⟨_, rfl, rfl, rfl⟩
theorem t98 {f : Nat → Bool} {rb xb T : Nat} {o r : Bool} (J : Nat → AHeap → Prop)
    (hx : ∀ k X, J k X → X.get xb = some (.cells o r 1 [S64 f] T))
    (hy : ∀ k X, k < 64 → f k = true → J k X → ∃ w X', AYield Go.Proofs.Try.prog 0 rb [.int .i64 (k : Nat)] X w X' ∧ w = .bool true ∧ J (k + 1) X')
    (hs : ∀ k X, k < 64 → f k = false → J k X → J (k + 1) X)
    {H : AHeap} (h0 : J 0 H) : ∃ w H', ARun Go.Proofs.Try.prog 0 98 [.chan (some rb), ptr xb 0] H w H' ∧ J 64 H' := by
  refine walk2 f98_ok f98_n ?_
  intro Q hq1 hq2
  simp (disch := first | assumption | omega | (simp only [LN] <;> omega) | (simp (disch := first | assumption | omega | (simp only [LN] <;> omega)) only [row_alloc, row_set]; assumption)) only [ f98, P3, ↓reduceIte, reduceAdd, reduceEqDiff, reduceCtorEq, initFr, reduceLT, clsA, reduceLeDiff, reduceMul, reduceSub, reduceIte]
  rw [W_block]
  refine W_loop2 (fun q fr X => ∃ k x2 x4 x5, fr = [.chan (some rb), ptr xb 0, x2, .int .i64 ((k : Nat) : Int), x4, x5] ∧ J k X ∧ k ≤ 64 ∧ q = 64 - k) 64 ⟨0, _, _, _, rfl, h0, by omega, rfl⟩ ?_
  rintro Q' q fr X ⟨k, x2, x4, x5, rfl, hJ, hk, rfl⟩ hn' hx' hret
  by_cases hlt : k < 64
  · have gx := hx k X hJ
    have e1 : (k : Int) < 64 := by omega
    have hw : IntKind.i64.wrap ((k : Int) + 1) = ((k + 1 : Nat) : Int) := by rw [wrap_i64 (by omega) (by omega)]; simp
    simp (disch := first | assumption | omega | (simp only [LN] <;> omega) | (simp (disch := first | assumption | omega | (simp only [LN] <;> omega)) only [row_alloc, row_set]; assumption)) only [W_block, P3, ↓reduceIte, reduceAdd, reduceEqDiff, reduceCtorEq, initFr, reduceLT, clsA, reduceLeDiff, reduceMul, reduceSub, reduceIte, e1, gx]
    refine callK (t22 _ _) ?_
    rintro _ Y ⟨rfl, hY⟩
    rw [hY, has_nat _ hlt]
    cases hf : f k with
    | false =>
      simp (disch := first | assumption | omega | (simp only [LN] <;> omega) | (simp (disch := first | assumption | omega | (simp only [LN] <;> omega)) only [row_alloc, row_set]; assumption)) only [W_block, P3, ↓reduceIte, reduceAdd, reduceEqDiff, reduceCtorEq, initFr, reduceLT, clsA, reduceLeDiff, reduceMul, reduceSub, reduceIte, hw]
      exact hn' _ _ _ ⟨k + 1, _, _, _, rfl, hs k X hlt hf hJ, by omega, rfl⟩ (by omega)
    | true =>
      simp (disch := first | assumption | omega | (simp only [LN] <;> omega) | (simp (disch := first | assumption | omega | (simp only [LN] <;> omega)) only [row_alloc, row_set]; assumption)) only [W_block, P3, ↓reduceIte, reduceAdd, reduceEqDiff, reduceCtorEq, initFr, reduceLT, clsA, reduceLeDiff, reduceMul, reduceSub, reduceIte, st_callvy]
      refine yieldK (hy k X hlt hf hJ) ?_
      rintro _ Y ⟨rfl, hJ2⟩
      simp (disch := first | assumption | omega | (simp only [LN] <;> omega) | (simp (disch := first | assumption | omega | (simp only [LN] <;> omega)) only [row_alloc, row_set]; assumption)) only [W_block, P3, ↓reduceIte, reduceAdd, reduceEqDiff, reduceCtorEq, initFr, reduceLT, clsA, reduceLeDiff, reduceMul, reduceSub, reduceIte, hw]
      exact hn' _ _ _ ⟨k + 1, _, _, _, rfl, hJ2, by omega, rfl⟩ (by omega)
  · have e1 : ¬ ((k : Nat) : Int) < 64 := by omega
    have hke : k = 64 := by omega
    subst hke
    simp (disch := first | assumption | omega | (simp only [LN] <;> omega) | (simp (disch := first | assumption | omega | (simp only [LN] <;> omega)) only [row_alloc, row_set]; assumption)) only [W_block, P3, ↓reduceIte, reduceAdd, reduceEqDiff, reduceCtorEq, initFr, reduceLT, clsA, reduceLeDiff, reduceMul, reduceSub, reduceIte, e1]
    refine hx' _ _ _ ?_
    exact hq1 _ _ ⟨_, rfl, hJ⟩
def anyN (n : Nat) (f : Nat → Bool) (g : Nat → Nat → Bool) (p : Nat) : Bool := (List.range n).any fun i => f i && g i p
theorem anyN_s (n : Nat) (f : Nat → Bool) (g : Nat → Nat → Bool) (p : Nat) : anyN (n + 1) f g p = (anyN n f g p || (f n && g n p)) := by
  unfold anyN; rw [List.range_succ, List.any_append]; simp
structure AJ (K : AHeap) (vb : Nat) (L : LRec) (f : Nat → Bool) (g : Nat → Nat → Bool) (k : Nat) (X : AHeap) : Prop where
  n : K.n < X.n
  keep : ∀ b, b < K.n → b ≠ vb → X.get b = K.get b
  var : X.get vb = some (.cells true false 1 [S64 (anyN k f g)] 28)
  rec_ : X.get K.n = some (.loop true .ready none L)
theorem anyN_low (n : Nat) (hn : n ≤ 64) (f : Nat → Bool) (g : Nat → Nat → Bool) : anyN 64 (fun i => f i && lowP (n : Int) i) g = anyN n f g := by
  funext p
  unfold anyN
  rw [Bool.eq_iff_iff, List.any_eq_true, List.any_eq_true]
  constructor
  · rintro ⟨i, _, h⟩
    simp only [lowP, Bool.and_eq_true, decide_eq_true_eq] at h
    exact ⟨i, List.mem_range.2 (by omega), by simp [h.1.1, h.2]⟩
  · rintro ⟨i, hi, h⟩
    have := List.mem_range.1 hi
    simp only [Bool.and_eq_true] at h
    refine ⟨i, List.mem_range.2 (by omega), ?_⟩
    simp only [lowP, h.1, h.2, Bool.true_and, Bool.and_true, decide_eq_true_eq]
    omega
set_option maxHeartbeats 1000000 in
theorem t96 {H : AHeap} {v : Value} {n : Nat} {g : Nat → Nat → Bool} (hs : Sl H 1 v ((List.range n).map fun i => [S64 (g i)])) (hn : n ≤ 64) (f : Nat → Bool) :
    ∃ w H', ARun Go.Proofs.Try.prog 0 96 [v, S64 f] H w H' ∧ w = S64 (anyN n f g) ∧ H' = H := by
  suffices h' : ∃ w H', ARun Go.Proofs.Try.prog 0 96 [v, S64 f] H w H' ∧ w = S64 (anyN n f g) ∧ Keeps H H' by
    obtain ⟨_, _, a, rfl, k⟩ := h'
    exact ⟨_, _, a.gc0 k (.inr (.int _ _)), rfl, rfl⟩
  refine walk2 f96_ok f96_n ?_
  intro Q hq1 hq2
  have one := Sl.one hs
  have is := Sl.is hs
  have len := hs.len
  simp only [List.length_map, List.length_range] at len
  obtain ⟨K0, hK0⟩ : ∃ X, X = (H.alloc (.cells true false 1 [v] 72)).alloc (.cells true false 1 [.int .u64 0] 28) := ⟨_, rfl⟩
  have k0 : Keeps H K0 := by rw [hK0]; exact ((Keeps.refl H).alloc _).alloc _
  have n0 : K0.n = H.n + 2 := by rw [hK0]; rfl
  have gv0 : K0.get H.n = some (.cells true false 1 [v] 72) := by rw [hK0]; exact ((Keeps.refl _).alloc _).at_ (AHeap.get_alloc_new H _)
  have go0 : K0.get (H.n + 1) = some (.cells true false 1 [.int .u64 0] 28) := by rw [hK0]; exact AHeap.get_alloc_new (H.alloc _) _
  have hc := cells_isS is
  simp (disch := first | assumption | omega | (simp only [LN] <;> omega) | (simp (disch := first | assumption | omega | (simp only [LN] <;> omega)) only [row_alloc, row_set]; assumption)) only [f96, W_block, P3, ↓reduceIte, reduceAdd, reduceEqDiff, reduceCtorEq, initFr, reduceLT, clsA, reduceLeDiff, reduceMul, reduceSub, reduceIte, one, is, len, hc]
  simp only [← hK0]
  refine callK (t93 _) ?_
  rintro _ X ⟨rfl, hX⟩
  rw [hX]
  simp (disch := first | assumption | omega | (simp only [LN] <;> omega) | (simp (disch := first | assumption | omega | (simp only [LN] <;> omega)) only [row_alloc, row_set]; assumption)) only [W_block, P3, ↓reduceIte, reduceAdd, reduceEqDiff, reduceCtorEq, initFr, reduceLT, clsA, reduceLeDiff, reduceMul, reduceSub, reduceIte, s_and]
  refine callK (t69 _) ?_
  rintro _ K ⟨rfl, hK⟩
  have kK : Keeps K0 K := by rw [hK]; exact (Keeps.refl K0).alloc _
  have nK : K.n = H.n + 3 := by rw [hK, alloc_n, n0]
  have gx : K.get (H.n + 2) = some (.cells true false 1 [S64 fun i => f i && lowP (n : Int) i] 28) := by rw [hK, ← n0]; exact AHeap.get_alloc_new K0 _
  have gvK := kK.at_ gv0
  have goK := kK.at_ go0
  simp (disch := first | assumption | omega | (simp only [LN] <;> omega) | (simp (disch := first | assumption | omega | (simp only [LN] <;> omega)) only [row_alloc, row_set]; assumption)) only [ P3, ↓reduceIte, reduceAdd, reduceEqDiff, reduceCtorEq, initFr, reduceLT, clsA, reduceLeDiff, reduceMul, reduceSub, reduceIte]
  rw [W_block]
  refine W_rangeF rfl (bodied_of (by kernel_rfl)) ?_
  obtain ⟨L0, hL0⟩ : ∃ L : LRec, L = ⟨21, [0, 1, 2, 4, 5, 6, 12, 13], [v, S64 f, ptr H.n 0, .int .u64 0, ptr (H.n + 1) 0, undef, .func (.func 98) #[] #[ptr K0.n 0], undef], #[13], rfA Go.Proofs.Try.prog 96 0, rfB Go.Proofs.Try.prog 96 0⟩ := ⟨_, rfl⟩
  have kL := (Keeps.refl K).alloc (.loop true .ready none L0)
  obtain ⟨f', hf'⟩ : ∃ f', f' = fun i => f i && lowP (n : Int) i := ⟨_, rfl⟩
  have j0 : AJ K (H.n + 1) L0 f' g 0 (K.alloc (.loop true .ready none L0)) := ⟨by simp [alloc_n], fun b hb _ => kL.get b hb, by rw [kL.at_ goK, s_zero]; rfl, AHeap.get_alloc_new K _⟩
  have tM := t98 (f := f') (rb := K.n) (xb := H.n + 2) (T := 28) (o := true) (r := false) (AJ K (H.n + 1) L0 f' g)
    (fun k X hJ => by rw [hJ.keep _ (by omega) (by omega), gx, hf']) ?_ (fun k X _ hfk hJ => ⟨hJ.n, hJ.keep, by
      rw [hJ.var]
      have : anyN (k + 1) f' g = anyN k f' g := by funext p; rw [anyN_s, hfk]; simp
      rw [this], hJ.rec_⟩) j0
  · rw [n0, hL0] at *
    obtain ⟨w, X, r, hJ⟩ := tM
    refine ⟨w, X, r, afterR_ready hJ.rec_ ?_⟩
    have hrl := AHeap.get_lt hJ.rec_
    have gv : (X.set K.n .dead).get (H.n + 1) = some (.cells true false 1 [S64 (anyN n f g)] 28) := by rw [AHeap.get_set_other X (by omega) hrl, hJ.var, hf', anyN_low n hn]
    simp (disch := first | assumption | omega | (simp only [LN] <;> omega) | (simp (disch := first | assumption | omega | (simp only [LN] <;> omega)) only [row_alloc, row_set]; assumption)) only [W_block, P3, ↓reduceIte, reduceAdd, reduceEqDiff, reduceCtorEq, initFr, reduceLT, clsA, reduceLeDiff, reduceMul, reduceSub, reduceIte, gv]
    refine hq2 _ _ ⟨_, rfl, rfl, ⟨by rw [set_n]; have := hJ.n; omega, fun b hb => ?_⟩⟩
    rw [AHeap.get_set_other X (by omega) hrl, hJ.keep b (by omega) (by omega)]
    exact (k0.trans kK).get b hb
  · intro k X hk hfk hJ
    have hkn : k < n := by rw [hf'] at hfk; simp [lowP] at hfk; exact hfk.2
    rw [hL0] at hJ ⊢
    refine yield_of (R := fun w H' => w = .bool true ∧ AJ K (H.n + 1) _ f' g (k + 1) H') hJ.rec_ f96r0a_ok f96r0b_ok f96r0_n rfl rfl ?_
    show W Go.Proofs.Try.prog 0 f96r0a _ [v, S64 f, ptr H.n 0, .int .u64 0, ptr (H.n + 1) 0, undef, .func (.func 98) #[] #[ptr K0.n 0], .int .i64 ((k : Nat) : Int)] X
    rw [← hL0] at hJ ⊢
    simp (disch := first | assumption | omega | (simp only [LN] <;> omega) | (simp (disch := first | assumption | omega | (simp only [LN] <;> omega)) only [row_alloc, row_set]; assumption)) only [f96r0a, W_block, P3, ↓reduceIte, reduceAdd, reduceEqDiff, reduceCtorEq, initFr, reduceLT, clsA, reduceLeDiff, reduceMul, reduceSub, reduceIte]
    refine ⟨none, L0, hJ.rec_, ?_⟩
    obtain ⟨X1, hX1⟩ : ∃ Y, Y = X.set K.n (.loop true .busy none L0) := ⟨_, rfl⟩
    have hrl := AHeap.get_lt hJ.rec_
    have n1 : X1.n = X.n := by rw [hX1]; rfl
    have oth : ∀ b, b ≠ K.n → X1.get b = X.get b := fun b hb => by rw [hX1]; exact AHeap.get_set_other X hb hrl _
    have gr1 : X1.get K.n = some (.loop true .busy none L0) := by rw [hX1]; exact AHeap.get_set_same hJ.rec_ _
    have go1 : X1.get (H.n + 1) = some (.cells true false 1 [S64 (anyN k f' g)] 28) := by rw [oth _ (by omega)]; exact hJ.var
    have gv1 : X1.get H.n = some (.cells true false 1 [v] 72) := by rw [oth _ (by omega), hJ.keep _ (by omega) (by omega)]; exact gvK
    have s1 : Sl X1 1 v ((List.range n).map fun i => [S64 (g i)]) := hs.get' (fun b e hb => by
      rw [oth _ (by omega), hJ.keep _ (by omega) (by omega)]; exact (k0.trans kK).get b hb)
    obtain ⟨na, ra⟩ := s1.at_ (by omega) (i := k) (by simpa using hkn)
    have ra' : rowA X1 1 v k = some [S64 (g k)] := by rw [ra]; simp
    have e0 : (0 : Int) ≤ (k : Int) := by omega
    have e1 : (k : Int) < ((n : Nat) : Int) := by omega
    have hol := AHeap.get_lt go1
    rw [← hX1]
    simp (disch := first | assumption | omega | (simp only [LN] <;> omega) | (simp (disch := first | assumption | omega | (simp only [LN] <;> omega)) only [row_alloc, row_set]; assumption)) only [f96r0b, W_block, P3, ↓reduceIte, reduceAdd, reduceEqDiff, reduceCtorEq, initFr, reduceLT, clsA, reduceLeDiff, reduceMul, reduceSub, reduceIte, go1, gv1, na, ra', len, e0, e1, a_load1v, s_or, one_s64, o_s64]
    have c2 : ∀ o, (X1.set (H.n + 1) o).get K.n = some (.loop true .busy none L0) := fun o => by rw [AHeap.get_set_other X1 (by omega) hol]; exact gr1
    unfold roundQ
    rw [c2]
    have hXn := hJ.n
    refine ⟨rfl, ?_, ?_, ?_, AHeap.get_set_same (c2 _) _⟩
    · rw [set_n, set_n]; omega
    · intro b hb hb2
      rw [AHeap.get_set_other _ (by omega) (by rw [set_n]; omega), AHeap.get_set_other X1 hb2 hol, oth b (by omega)]
      exact hJ.keep b hb hb2
    · rw [AHeap.get_set_other _ (by omega) (by rw [set_n]; omega), AHeap.get_set_same go1]
      congr 4
      congr 1
      funext p
      rw [anyN_s, hfk]; simp
def lieU (L : Ly) (f : Nat → Bool) : Nat → Bool := anyN L.p.length (fun i => decide (i < 32) && f i) (lieP L)
theorem t67 {H : AHeap} {b : Nat} {L : Ly} (h : MaR H b L) (hl : L.p.length ≤ 32) (f : Nat → Bool) : ∃ w H', ARun Go.Proofs.Try.prog 0 67 [ptr b 0, S32 f] H w H' ∧ w = S64 (lieU L f) ∧ H' = H := by
  refine walk2 f67_ok f67_n ?_
  intro Q hq1 hq2
  obtain ⟨vr, vl, own, room, T, gb, ms⟩ := h
  have tA := t96 (g := lieP L) ms.l (by omega) (fun i => decide (i < 32) && f i)
  unfold mcells at gb
  simp (disch := first | assumption | omega | (simp only [LN] <;> omega) | (simp (disch := first | assumption | omega | (simp only [LN] <;> omega)) only [row_alloc, row_set]; assumption)) only [f67, W_block, P3, ↓reduceIte, reduceAdd, reduceEqDiff, reduceCtorEq, initFr, reduceLT, clsA, reduceLeDiff, reduceMul, reduceSub, reduceIte, gb, s_up]
  refine callK tA ?_
  rintro _ X ⟨rfl, hX⟩
  rw [hX]
  simp (disch := first | assumption | omega | (simp only [LN] <;> omega) | (simp (disch := first | assumption | omega | (simp only [LN] <;> omega)) only [row_alloc, row_set]; assumption)) only [W_block, P3, ↓reduceIte, reduceAdd, reduceEqDiff, reduceCtorEq, initFr, reduceLT, clsA, reduceLeDiff, reduceMul, reduceSub, reduceIte]
  exact hq2 _ _ ⟨_, rfl, rfl, rfl⟩
end Go.AM.Fd

set_option linter.unusedSimpArgs false
set_option linter.unusedVariables false
set_option maxRecDepth 8000
namespace Go.AM.Fd
open Nat (reduceAdd reduceEqDiff reduceLT reduceLeDiff reduceMul reduceSub)
open Go.Proofs Go.AM.F
structure LJ (K : AHeap) (vb : Nat) (L : LRec) (f : Nat → Bool) (k : Nat) (X : AHeap) : Prop where
  n : K.n < X.n
  keep : ∀ b, b < K.n → b ≠ vb → X.get b = K.get b
  rec_ : X.get K.n = some (.loop true .ready none L)
  var : ∃ sv, X.get vb = some (.cells true false 1 [sv] 47) ∧ AP X 3 1 sv ((List.range k).filter f).length (((List.range k).filter f).map fun i => Value.int .i64 (i : Nat)) ∧ ∀ b, blk sv = some b → K.n < b
theorem fl_yes {f : Nat → Bool} {k : Nat} (h : f k = true) : (List.range (k + 1)).filter f = (List.range k).filter f ++ [k] := by
  rw [List.range_succ, List.filter_append]; simp [h]
theorem fl_no {f : Nat → Bool} {k : Nat} (h : f k = false) : (List.range (k + 1)).filter f = (List.range k).filter f := by
  rw [List.range_succ, List.filter_append]; simp [h]
theorem fl_le (f : Nat → Bool) (k : Nat) : ((List.range k).filter f).length ≤ k := by
  have := List.length_filter_le f (List.range k); simpa using this
theorem AP.sl1 {H : AHeap} {e : Nat} {v : Value} {l : List Value} (h : AP H e 1 v l.length l) : Sl H 1 v (l.map fun x => [x]) := by
  have hf : (l.map fun x => [x]).flatten = l := by
    clear h
    induction l with
    | nil => rfl
    | cons a l ih => simp [ih]
  exact AP.sl (n := l.length) (by rw [hf]; exact h) (by simp) (by simp)
set_option maxHeartbeats 1000000 in
theorem t97 {H : AHeap} {f : Nat → Bool} {xb T : Nat} {o r : Bool} (gx : H.get xb = some (.cells o r 1 [S64 f] T)) :
    ∃ w H', ARun Go.Proofs.Try.prog 0 97 [.slice none 0 0, .func (.func 98) #[] #[ptr xb 0]] H w H' ∧ IL H' w (((List.range 64).filter f).map fun (i : Nat) => (i : Int)) ∧ Keeps H H' ∧ Fresh H.n w := by
  refine walk2 f97_ok f97_n ?_
  intro Q hq1 hq2
  obtain ⟨K, hK⟩ : ∃ X, X = H.alloc (.cells true false 1 [.slice none 0 0] 47) := ⟨_, rfl⟩
  have kK : Keeps H K := by rw [hK]; exact (Keeps.refl H).alloc _
  have nK : K.n = H.n + 1 := by rw [hK]; rfl
  have gv : K.get H.n = some (.cells true false 1 [.slice none 0 0] 47) := by rw [hK]; exact AHeap.get_alloc_new H _
  have hxl := AHeap.get_lt gx
  simp (disch := first | assumption | omega | (simp only [LN] <;> omega) | (simp (disch := first | assumption | omega | (simp only [LN] <;> omega)) only [row_alloc, row_set]; assumption)) only [ f97, P3, ↓reduceIte, reduceAdd, reduceEqDiff, reduceCtorEq, initFr, reduceLT, clsA, reduceLeDiff, reduceMul, reduceSub, reduceIte]
  rw [← hK, W_block]
  refine W_rangeF rfl (bodied_of (by kernel_rfl)) ?_
  obtain ⟨L0, hL0⟩ : ∃ L : LRec, L = ⟨13, [0, 1, 2, 4, 5, 6, 7], [.slice none 0 0, .func (.func 98) #[] #[ptr xb 0], ptr H.n 0, .slice none 0 0, undef, .func (.func 98) #[] #[ptr xb 0], undef], #[7], rfA Go.Proofs.Try.prog 97 0, rfB Go.Proofs.Try.prog 97 0⟩ := ⟨_, rfl⟩
  rw [← hL0]
  have kL := (Keeps.refl K).alloc (.loop true .ready none L0)
  have j0 : LJ K H.n L0 f 0 (K.alloc (.loop true .ready none L0)) := ⟨by simp [alloc_n], fun b hb _ => kL.get b hb, AHeap.get_alloc_new K _, .slice none 0 0, kL.at_ gv, .inl ⟨rfl, rfl, rfl⟩, fun b hb => by cases hb⟩
  have tM := t98 (f := f) (rb := K.n) (xb := xb) (T := T) (o := o) (r := r) (LJ K H.n L0 f)
    (fun k X hJ => by rw [hJ.keep _ (by omega) (by omega)]; exact kK.at_ gx) ?_ (fun k X _ hfk hJ => by
      obtain ⟨sv, v1, v2, v3⟩ := hJ.var
      exact ⟨hJ.n, hJ.keep, hJ.rec_, sv, v1, by rw [fl_no hfk]; exact v2, v3⟩) j0
  · obtain ⟨w, X, r, hJ⟩ := tM
    refine ⟨w, X, r, afterR_ready hJ.rec_ ?_⟩
    have hrl := AHeap.get_lt hJ.rec_
    obtain ⟨sv, v1, v2, v3⟩ := hJ.var
    have gv2 : (X.set K.n .dead).get H.n = some (.cells true false 1 [sv] 47) := by rw [AHeap.get_set_other X (by omega) hrl]; exact v1
    simp (disch := first | assumption | omega | (simp only [LN] <;> omega) | (simp (disch := first | assumption | omega | (simp only [LN] <;> omega)) only [row_alloc, row_set]; assumption)) only [W_block, P3, ↓reduceIte, reduceAdd, reduceEqDiff, reduceCtorEq, initFr, reduceLT, clsA, reduceLeDiff, reduceMul, reduceSub, reduceIte, gv2]
    have ap2 := v2.chg (Chg.set X hrl .dead) (fun b hb => by have := v3 b (mem_blkL.1 hb); simp; omega)
    refine hq2 _ _ ⟨_, rfl, ?_, ⟨by rw [set_n]; have := hJ.n; omega, fun b hb => ?_⟩, fun b hb => by have := v3 b hb; omega⟩
    · have e : (((List.range 64).filter f).map fun (i : Nat) => (i : Int)).map iRow = (((List.range 64).filter f).map fun i => Value.int .i64 (i : Nat)).map fun x => [x] := by
        rw [List.map_map, List.map_map]; rfl
      unfold IL
      rw [e]
      refine AP.sl1 (e := 3) ?_
      rw [List.length_map]; exact ap2
    · rw [AHeap.get_set_other X (by omega) hrl, hJ.keep b (by omega) (by omega)]
      exact kK.get b hb
  · intro k X hk hfk hJ
    rw [hL0] at hJ ⊢
    refine yield_of (R := fun w H' => w = .bool true ∧ LJ K H.n _ f (k + 1) H') hJ.rec_ f97r0a_ok f97r0b_ok f97r0_n rfl rfl ?_
    show W Go.Proofs.Try.prog 0 f97r0a _ [.slice none 0 0, .func (.func 98) #[] #[ptr xb 0], ptr H.n 0, .slice none 0 0, undef, .func (.func 98) #[] #[ptr xb 0], .int .i64 ((k : Nat) : Int)] X
    rw [← hL0] at hJ ⊢
    simp (disch := first | assumption | omega | (simp only [LN] <;> omega) | (simp (disch := first | assumption | omega | (simp only [LN] <;> omega)) only [row_alloc, row_set]; assumption)) only [f97r0a, W_block, P3, ↓reduceIte, reduceAdd, reduceEqDiff, reduceCtorEq, initFr, reduceLT, clsA, reduceLeDiff, reduceMul, reduceSub, reduceIte]
    refine ⟨none, L0, hJ.rec_, ?_⟩
    obtain ⟨X1, hX1⟩ : ∃ Y, Y = X.set K.n (.loop true .busy none L0) := ⟨_, rfl⟩
    have hrl := AHeap.get_lt hJ.rec_
    have n1 : X1.n = X.n := by rw [hX1]; rfl
    have oth : ∀ b, b ≠ K.n → X1.get b = X.get b := fun b hb => by rw [hX1]; exact AHeap.get_set_other X hb hrl _
    have gr1 : X1.get K.n = some (.loop true .busy none L0) := by rw [hX1]; exact AHeap.get_set_same hJ.rec_ _
    obtain ⟨sv, v1, v2, v3⟩ := hJ.var
    have gv1 : X1.get H.n = some (.cells true false 1 [sv] 47) := by rw [oth _ (by omega)]; exact v1
    have ap1 := v2.chg (B := X1) (by rw [hX1]; exact Chg.set X hrl (.loop true .busy none L0)) (fun b hb => by have := v3 b (mem_blkL.1 hb); simp; omega)
    have len := fl_le f k
    have hXn := hJ.n
    have fW : fillA [.int .i64 0] [(0, 1, .int .i64 ((k : Nat) : Int))] = some [.int .i64 ((k : Nat) : Int)] := rfl
    rw [← hX1]
    simp (disch := first | assumption | omega | (simp only [LN] <;> omega) | (simp (disch := first | assumption | omega | (simp only [LN] <;> omega)) only [row_alloc, row_set]; assumption)) only [f97r0b, W_block, P3, ↓reduceIte, reduceAdd, reduceEqDiff, reduceCtorEq, initFr, reduceLT, clsA, reduceLeDiff, reduceMul, reduceSub, reduceIte, gv1, fW]
    obtain ⟨X2, hX2⟩ : ∃ Y, Y = X1.alloc (.cells true false 1 [.int .i64 ((k : Nat) : Int)] 3) := ⟨_, rfl⟩
    have kX2 : Keeps X1 X2 := by rw [hX2]; exact (Keeps.refl X1).alloc _
    have el2 : elemsA X2 1 (slc X1.n 0 1 1) = some [.int .i64 ((k : Nat) : Int)] := by rw [hX2]; exact elems_new rfl rfl
    have n2 : X2.n = X1.n + 1 := by rw [hX2]; rfl
    rw [← hX2]
    refine appG (ap1.keeps kX2) ⟨_, _, rfl⟩ el2 rfl (by omega) ?_
    intro v' K' ap' c' hb'
    have hml : H.n ∉ blkL sv := fun hm => by have := v3 _ (mem_blkL.1 hm); omega
    have hmr : K.n ∉ blkL sv := fun hm => by have := v3 _ (mem_blkL.1 hm); omega
    have gv3 := c'.at_ (kX2.at_ gv1) hml
    have gr3 := c'.at_ (kX2.at_ gr1) hmr
    have o1 : v'.oneCell' = true := by obtain ⟨a, rfl⟩ := ap'.shape; rfl
    have hvl := AHeap.get_lt gv3
    have hbk : ∀ b, blk v' = some b → K.n < b := fun b hb => by
      rcases hb' with e | e
      · exact v3 b (by rw [← e]; exact hb)
      · rw [e] at hb; cases hb; omega
    simp (disch := first | assumption | omega | (simp only [LN] <;> omega) | (simp (disch := first | assumption | omega | (simp only [LN] <;> omega)) only [row_alloc, row_set]; assumption)) only [W_block, P3, ↓reduceIte, reduceAdd, reduceEqDiff, reduceCtorEq, initFr, reduceLT, clsA, reduceLeDiff, reduceMul, reduceSub, reduceIte, gv3, o1]
    have c2 : ∀ o, (K'.set H.n o).get K.n = some (.loop true .busy none L0) := fun o => by rw [AHeap.get_set_other K' (by omega) hvl]; exact gr3
    unfold roundQ
    rw [c2]
    have hKn := c'.n
    refine ⟨rfl, ?_, ?_, AHeap.get_set_same (c2 _) _, v', ?_, ?_, hbk⟩
    · rw [set_n, set_n]; omega
    · intro b hb hb2
      rw [AHeap.get_set_other _ (by omega) (by rw [set_n]; omega), AHeap.get_set_other K' hb2 hvl, c'.get b (by omega) (fun hm => by have := v3 _ (mem_blkL.1 hm); omega), kX2.get b (by omega), oth b (by omega)]
      exact hJ.keep b hb hb2
    · rw [AHeap.get_set_other _ (by omega) (by rw [set_n]; omega), AHeap.get_set_same gv3]
    · rw [fl_yes hfk, List.length_append, List.map_append]
      refine (ap'.chg (Chg.set K' hvl _) (fun b hb => by have := hbk b (mem_blkL.1 hb); simp; omega)).chg (Chg.set _ (by rw [set_n]; omega) _) (fun b hb => by have := hbk b (mem_blkL.1 hb); simp; omega)
theorem t68 {H : AHeap} {f : Nat → Bool} {xb T : Nat} {o r : Bool} (gx : H.get xb = some (.cells o r 1 [S64 f] T)) :
    ∃ w H', ARun Go.Proofs.Try.prog 0 68 [.func (.func 98) #[] #[ptr xb 0]] H w H' ∧ IL H' w (((List.range 64).filter f).map fun (i : Nat) => (i : Int)) ∧ Keeps H H' ∧ Fresh H.n w := by
  refine walk2 f68_ok f68_n ?_
  intro Q hq1 hq2
  simp (disch := first | assumption | omega | (simp only [LN] <;> omega) | (simp (disch := first | assumption | omega | (simp only [LN] <;> omega)) only [row_alloc, row_set]; assumption)) only [f68, W_block, P3, ↓reduceIte, reduceAdd, reduceEqDiff, reduceCtorEq, initFr, reduceLT, clsA, reduceLeDiff, reduceMul, reduceSub, reduceIte]
  refine callK (t97 gx) ?_
  rintro w K ⟨h1, h2, h3⟩
  simp (disch := first | assumption | omega | (simp only [LN] <;> omega) | (simp (disch := first | assumption | omega | (simp only [LN] <;> omega)) only [row_alloc, row_set]; assumption)) only [W_block, P3, ↓reduceIte, reduceAdd, reduceEqDiff, reduceCtorEq, initFr, reduceLT, clsA, reduceLeDiff, reduceMul, reduceSub, reduceIte]
  exact hq2 _ _ ⟨_, rfl, h1, h2, h3⟩
theorem t36 {H : AHeap} (f : Nat → Bool) :
    ∃ w H', ARun Go.Proofs.Try.prog 0 36 [S64 f] H w H' ∧ IL H' w (((List.range 64).filter f).map fun (i : Nat) => (i : Int)) ∧ Keeps H H' ∧ Fresh H.n w := by
  refine walk2 f36_ok f36_n ?_
  intro Q hq1 hq2
  simp (disch := first | assumption | omega | (simp only [LN] <;> omega) | (simp (disch := first | assumption | omega | (simp only [LN] <;> omega)) only [row_alloc, row_set]; assumption)) only [f36, W_block, P3, ↓reduceIte, reduceAdd, reduceEqDiff, reduceCtorEq, initFr, reduceLT, clsA, reduceLeDiff, reduceMul, reduceSub, reduceIte]
  refine callK (t69 _) ?_
  rintro _ K ⟨rfl, hK⟩
  have kK : Keeps H K := by rw [hK]; exact (Keeps.refl H).alloc _
  have gx : K.get H.n = some (.cells true false 1 [S64 f] 28) := by rw [hK]; exact AHeap.get_alloc_new H _
  simp (disch := first | assumption | omega | (simp only [LN] <;> omega) | (simp (disch := first | assumption | omega | (simp only [LN] <;> omega)) only [row_alloc, row_set]; assumption)) only [W_block, P3, ↓reduceIte, reduceAdd, reduceEqDiff, reduceCtorEq, initFr, reduceLT, clsA, reduceLeDiff, reduceMul, reduceSub, reduceIte]
  refine callK (t68 gx) ?_
  rintro w X ⟨h1, h2, h3⟩
  simp (disch := first | assumption | omega | (simp only [LN] <;> omega) | (simp (disch := first | assumption | omega | (simp only [LN] <;> omega)) only [row_alloc, row_set]; assumption)) only [W_block, P3, ↓reduceIte, reduceAdd, reduceEqDiff, reduceCtorEq, initFr, reduceLT, clsA, reduceLeDiff, reduceMul, reduceSub, reduceIte]
  exact hq2 _ _ ⟨_, rfl, h1, kK.trans h2, fun b hb => Nat.le_trans kK.n (h3 b hb)⟩
end Go.AM.Fd

set_option linter.unusedSimpArgs false
set_option linter.unusedVariables false
set_option maxRecDepth 8000
namespace Go.AM.Fd
open Nat (reduceAdd reduceEqDiff reduceLT reduceLeDiff reduceMul reduceSub)
open Go.Proofs Go.AM.F
theorem with_p (p : Nat → Bool) (i : Nat) (hp : p i = true) : (S64 fun j => (decide (j < i) && p j) || oneP (i : Int) j) = S64 fun j => decide (j < i + 1) && p j := by
  apply s64_ext; intro j _
  by_cases e : j = i
  · subst e
    have : j < j + 1 := by omega
    simp [oneP, hp, this]
  · by_cases h : j < i
    · have : j < i + 1 := by omega
      have e2 : ¬ ((j : Int) = (i : Int)) := by omega
      simp [oneP, h, this, e2]
    · have : ¬ j < i + 1 := by omega
      have e2 : ¬ ((j : Int) = (i : Int)) := by omega
      simp [oneP, h, this, e2]
theorem with_n (p : Nat → Bool) (i : Nat) (hp : p i = false) : (S64 fun j => decide (j < i) && p j) = S64 fun j => decide (j < i + 1) && p j := by
  apply s64_ext; intro j _
  by_cases e : j = i
  · subst e; simp [hp]
  · have : decide (j < i) = decide (j < i + 1) := by by_cases h : j < i <;> simp [h] <;> omega
    rw [this]
set_option maxHeartbeats 1000000 in
theorem t31 {H : AHeap} {v : Value} {L : Ly} {p : Nat → Bool} {fn : Nat} {ca : Array Value} (hs : Sl H 6 v (mrows L)) (hl : L.r.length ≤ 64)
    (hF : ∀ (K : AHeap) (i : Nat), Keeps H K → i < L.r.length → ∃ w K', ARun Go.Proofs.Try.prog 0 fn ([.int .i64 (i : Nat), .agg (mrow L i).toArray] ++ ca.toList) K w K' ∧ w = .bool (p i) ∧ K' = K) :
    ∃ w H', ARun Go.Proofs.Try.prog 0 31 [v, .func (.func fn) #[] ca] H w H' ∧ w = S64 (fun i => decide (i < L.r.length) && p i) ∧ H' = H := by
  suffices h' : ∃ w H', ARun Go.Proofs.Try.prog 0 31 [v, .func (.func fn) #[] ca] H w H' ∧ w = S64 (fun i => decide (i < L.r.length) && p i) ∧ Keeps H H' by
    obtain ⟨_, _, a, rfl, k⟩ := h'
    exact ⟨_, _, a.gc0 k (.inr (.int _ _)), rfl, rfl⟩
  refine walk2 f31_ok f31_n ?_
  intro Q hq1 hq2
  have is0 := Sl.is hs
  have len := hs.len
  rw [mrows_len] at len
  simp (disch := first | assumption | omega | (simp only [LN] <;> omega) | (simp (disch := first | assumption | omega | (simp only [LN] <;> omega)) only [row_alloc, row_set]; assumption)) only [ f31, P3, ↓reduceIte, reduceAdd, reduceEqDiff, reduceCtorEq, initFr, reduceLT, clsA, reduceLeDiff, reduceMul, reduceSub, reduceIte, is0, len]
  rw [W_block]
  refine W_loop2 (fun q fr K => ∃ i x4 x5 x9 x10, fr = [v, .func (.func fn) #[] ca, .int .u64 0, S64 (fun j => decide (j < i) && p j), x4, x5, v, .int .i64 ((L.r.length : Nat) : Int), .int .i64 ((i : Nat) : Int), x9, x10] ∧
      Keeps H K ∧ i ≤ L.r.length ∧ q = L.r.length - i) L.r.length
    ⟨0, _, _, _, _, by simp only [Nat.not_lt_zero, decide_false, Bool.false_and]; rw [← s_zero]; rfl, Keeps.refl H, by omega, rfl⟩ ?_
  rintro Q' q fr K ⟨i, x4, x5, x9, x10, rfl, kK, hi, rfl⟩ hn' hx' hret
  by_cases hlt : i < L.r.length
  · obtain ⟨na, ra⟩ := (hs.keeps kK).at_ (by omega) (i := i) (by rw [mrows_len]; exact hlt)
    rw [mrows_at hlt] at ra
    have e0 : (0 : Int) ≤ (i : Int) := by omega
    have e1 : (i : Int) < ((L.r.length : Nat) : Int) := by omega
    have hw : IntKind.i64.wrap ((i : Int) + 1) = ((i + 1 : Nat) : Int) := by rw [wrap_i64 (by omega) (by omega)]; simp
    have kA := (Keeps.refl K).alloc (.cells true false 6 (mrow L i) 89)
    have hf := hF _ i (kK.trans kA) hlt
    unfold mrow at ra hf kA
    simp (disch := first | assumption | omega | (simp only [LN] <;> omega) | (simp (disch := first | assumption | omega | (simp only [LN] <;> omega)) only [row_alloc, row_set]; assumption)) only [W_block, P3, ↓reduceIte, reduceAdd, reduceEqDiff, reduceCtorEq, initFr, reduceLT, clsA, reduceLeDiff, reduceMul, reduceSub, reduceIte, e0, e1, len, na, ra, a_loadnvf, o_s64, o_s32, one_s64, one_s32, toList_arr, List.nil_append, List.append_nil, st_callv]
    refine callK hf ?_
    rintro _ X ⟨rfl, hX⟩
    rw [hX]
    cases hp : p i with
    | false =>
      simp (disch := first | assumption | omega | (simp only [LN] <;> omega) | (simp (disch := first | assumption | omega | (simp only [LN] <;> omega)) only [row_alloc, row_set]; assumption)) only [W_block, P3, ↓reduceIte, reduceAdd, reduceEqDiff, reduceCtorEq, initFr, reduceLT, clsA, reduceLeDiff, reduceMul, reduceSub, reduceIte, hw]
      exact hn' _ _ _ ⟨i + 1, _, _, _, _, by rw [with_n p i hp], kK.trans kA, by omega, rfl⟩ (by omega)
    | true =>
      simp (disch := first | assumption | omega | (simp only [LN] <;> omega) | (simp (disch := first | assumption | omega | (simp only [LN] <;> omega)) only [row_alloc, row_set]; assumption)) only [W_block, P3, ↓reduceIte, reduceAdd, reduceEqDiff, reduceCtorEq, initFr, reduceLT, clsA, reduceLeDiff, reduceMul, reduceSub, reduceIte]
      refine callK (t66 _ _) ?_
      rintro _ X ⟨rfl, hX⟩
      rw [hX]
      simp (disch := first | assumption | omega | (simp only [LN] <;> omega) | (simp (disch := first | assumption | omega | (simp only [LN] <;> omega)) only [row_alloc, row_set]; assumption)) only [W_block, P3, ↓reduceIte, reduceAdd, reduceEqDiff, reduceCtorEq, initFr, reduceLT, clsA, reduceLeDiff, reduceMul, reduceSub, reduceIte, hw]
      exact hn' _ _ _ ⟨i + 1, _, _, _, _, by rw [with_p p i hp], kK.trans kA, by omega, rfl⟩ (by omega)
  · have e1 : ¬ ((i : Nat) : Int) < ((L.r.length : Nat) : Int) := by omega
    have hie : i = L.r.length := by omega
    subst hie
    simp (disch := first | assumption | omega | (simp only [LN] <;> omega) | (simp (disch := first | assumption | omega | (simp only [LN] <;> omega)) only [row_alloc, row_set]; assumption)) only [W_block, P3, ↓reduceIte, reduceAdd, reduceEqDiff, reduceCtorEq, initFr, reduceLT, clsA, reduceLeDiff, reduceMul, reduceSub, reduceIte, e1]
    refine hx' _ _ _ ?_
    simp (disch := first | assumption | omega | (simp only [LN] <;> omega) | (simp (disch := first | assumption | omega | (simp only [LN] <;> omega)) only [row_alloc, row_set]; assumption)) only [W_block, P3, ↓reduceIte, reduceAdd, reduceEqDiff, reduceCtorEq, initFr, reduceLT, clsA, reduceLeDiff, reduceMul, reduceSub, reduceIte]
    exact hq2 _ _ ⟨_, rfl, rfl, kK⟩
theorem t35 {H : AHeap} (i : Value) (t : Nat) : ∃ w H', ARun Go.Proofs.Try.prog 0 35 [i, .int .u8 (t : Nat)] H w H' ∧ w = .bool (decide (t = 0)) ∧ H' = H := by
  refine walk2 f35_ok f35_n ?_
  intro Q hq1 hq2
  have e : (((t : Nat) : Int) == 0) = decide (t = 0) := by rw [Bool.eq_iff_iff]; simp
  simp (disch := first | assumption | omega | (simp only [LN] <;> omega) | (simp (disch := first | assumption | omega | (simp only [LN] <;> omega)) only [row_alloc, row_set]; assumption)) only [f35, W_block, P3, ↓reduceIte, reduceAdd, reduceEqDiff, reduceCtorEq, initFr, reduceLT, clsA, reduceLeDiff, reduceMul, reduceSub, reduceIte, e]
  exact hq2 _ _ ⟨_, rfl, rfl, rfl⟩
set_option maxHeartbeats 1000000 in
theorem t34 {H : AHeap} {b : Nat} {s : Sta} {o r : Bool} {T : Nat} (gb : H.get b = some (.cells o r 68 (stl s) T)) :
    ∃ w H', ARun Go.Proofs.Try.prog 0 34 [slc b 3 64 64, .func (.func 35) #[] #[]] H w H' ∧ w = S64 (fun i => decide (s.ti i = 0)) ∧ H' = H := by
  refine walk2 f34_ok f34_n ?_
  intro Q hq1 hq2
  simp (disch := first | assumption | omega | (simp only [LN] <;> omega) | (simp (disch := first | assumption | omega | (simp only [LN] <;> omega)) only [row_alloc, row_set]; assumption)) only [ f34, P3, ↓reduceIte, reduceAdd, reduceEqDiff, reduceCtorEq, initFr, reduceLT, clsA, reduceLeDiff, reduceMul, reduceSub, reduceIte]
  rw [W_block]
  refine W_loop2 (fun q fr K => ∃ i x4 x5 x9 x10, fr = [slc b 3 64 64, .func (.func 35) #[] #[], .int .u64 0, S64 (fun j => decide (j < i) && decide (s.ti j = 0)), x4, x5, slc b 3 64 64, .int .i64 64, .int .i64 ((i : Nat) : Int), x9, x10] ∧
      K = H ∧ i ≤ 64 ∧ q = 64 - i) 64
    ⟨0, _, _, _, _, by simp only [Nat.not_lt_zero, decide_false, Bool.false_and]; rw [← s_zero]; rfl, rfl, by omega, rfl⟩ ?_
  rintro Q' q fr K ⟨i, x4, x5, x9, x10, rfl, rfl, hi, rfl⟩ hn' hx' hret
  by_cases hlt : i < 64
  · have e0 : (0 : Int) ≤ (i : Int) := by omega
    have e1 : (i : Int) < 64 := by omega
    have e2 : (i : Int) < ((64 : Nat) : Int) := by omega
    have hw : IntKind.i64.wrap ((i : Int) + 1) = ((i + 1 : Nat) : Int) := by rw [wrap_i64 (by omega) (by omega)]; simp
    have st := stl_t s hlt
    simp (disch := first | assumption | omega | (simp only [LN] <;> omega) | (simp (disch := first | assumption | omega | (simp only [LN] <;> omega)) only [row_alloc, row_set]; assumption)) only [W_block, P3, ↓reduceIte, reduceAdd, reduceEqDiff, reduceCtorEq, initFr, reduceLT, clsA, reduceLeDiff, reduceMul, reduceSub, reduceIte, e0, e1, e2, gb, st, Int.toNat_natCast, Nat.mul_one, toList_arr, List.nil_append, List.append_nil, st_callv]
    refine callK (t35 _ _) ?_
    rintro _ X ⟨rfl, hX⟩
    rw [hX]
    cases hp : decide (s.ti i = 0) with
    | false =>
      simp (disch := first | assumption | omega | (simp only [LN] <;> omega) | (simp (disch := first | assumption | omega | (simp only [LN] <;> omega)) only [row_alloc, row_set]; assumption)) only [W_block, P3, ↓reduceIte, reduceAdd, reduceEqDiff, reduceCtorEq, initFr, reduceLT, clsA, reduceLeDiff, reduceMul, reduceSub, reduceIte, hw]
      exact hn' _ _ _ ⟨i + 1, _, _, _, _, by rw [with_n (fun j => decide (s.ti j = 0)) i hp], rfl, by omega, rfl⟩ (by omega)
    | true =>
      simp (disch := first | assumption | omega | (simp only [LN] <;> omega) | (simp (disch := first | assumption | omega | (simp only [LN] <;> omega)) only [row_alloc, row_set]; assumption)) only [W_block, P3, ↓reduceIte, reduceAdd, reduceEqDiff, reduceCtorEq, initFr, reduceLT, clsA, reduceLeDiff, reduceMul, reduceSub, reduceIte]
      refine callK (t66 _ _) ?_
      rintro _ X ⟨rfl, hX⟩
      rw [hX]
      simp (disch := first | assumption | omega | (simp only [LN] <;> omega) | (simp (disch := first | assumption | omega | (simp only [LN] <;> omega)) only [row_alloc, row_set]; assumption)) only [W_block, P3, ↓reduceIte, reduceAdd, reduceEqDiff, reduceCtorEq, initFr, reduceLT, clsA, reduceLeDiff, reduceMul, reduceSub, reduceIte, hw]
      exact hn' _ _ _ ⟨i + 1, _, _, _, _, by rw [with_p (fun j => decide (s.ti j = 0)) i hp], rfl, by omega, rfl⟩ (by omega)
  · have e1 : ¬ ((i : Nat) : Int) < 64 := by omega
    have hie : i = 64 := by omega
    subst hie
    simp (disch := first | assumption | omega | (simp only [LN] <;> omega) | (simp (disch := first | assumption | omega | (simp only [LN] <;> omega)) only [row_alloc, row_set]; assumption)) only [W_block, P3, ↓reduceIte, reduceAdd, reduceEqDiff, reduceCtorEq, initFr, reduceLT, clsA, reduceLeDiff, reduceMul, reduceSub, reduceIte, e1]
    refine hx' _ _ _ ?_
    simp (disch := first | assumption | omega | (simp only [LN] <;> omega) | (simp (disch := first | assumption | omega | (simp only [LN] <;> omega)) only [row_alloc, row_set]; assumption)) only [W_block, P3, ↓reduceIte, reduceAdd, reduceEqDiff, reduceCtorEq, initFr, reduceLT, clsA, reduceLeDiff, reduceMul, reduceSub, reduceIte]
    exact hq2 _ _ ⟨_, rfl, s64_ext fun i hi => by simp [hi], rfl⟩
structure Inp where
  oc : Nat → Bool
  nr : Nat → Bool
  rv : Nat → Bool
def inl (i : Inp) (cv : Value) : List Value := [S64 i.oc, S32 i.nr, S32 i.rv, cv]
theorem t32 {H : AHeap} {L : Ly} {i : Nat} {x : Inp} {cv : Value} {b T : Nat} {o r : Bool} (gb : H.get b = some (.cells o r 4 (inl x cv) T)) :
    ∃ w H', ARun Go.Proofs.Try.prog 0 32 [.int .i64 (i : Nat), .agg (mrow L i).toArray, ptr b 0] H w H' ∧ w = .bool (none64 fun j => trP (ro L i) j && x.oc j) ∧ H' = H := by
  suffices h' : ∃ w H', ARun Go.Proofs.Try.prog 0 32 [.int .i64 (i : Nat), .agg (mrow L i).toArray, ptr b 0] H w H' ∧ w = .bool (none64 fun j => trP (ro L i) j && x.oc j) ∧ Keeps H H' by
    obtain ⟨_, _, a, rfl, k⟩ := h'
    exact ⟨_, _, a.gc0 k (.inr (.bool _)), rfl, rfl⟩
  refine walk2 f32_ok f32_n ?_
  intro Q hq1 hq2
  have kA := (Keeps.refl H).alloc (.cells true false 6 (mrow L i) 89)
  have gA := kA.at_ gb
  have hbl := AHeap.get_lt gb
  unfold mrow at kA gA ⊢
  unfold inl at gb gA
  simp (disch := first | assumption | omega | (simp only [LN] <;> omega) | (simp (disch := first | assumption | omega | (simp only [LN] <;> omega)) only [row_alloc, row_set]; assumption)) only [f32, W_block, P3, ↓reduceIte, reduceAdd, reduceEqDiff, reduceCtorEq, initFr, reduceLT, clsA, reduceLeDiff, reduceMul, reduceSub, reduceIte, gA, gb, hbl, o_s64, o_s32, one_s64, one_s32, s_and, s_eq0]
  exact hq2 _ _ ⟨_, rfl, rfl, kA⟩
theorem t33 {H : AHeap} {L : Ly} {i : Nat} {x : Inp} {cv : Value} {b T : Nat} {o r : Bool} (gb : H.get b = some (.cells o r 4 (inl x cv) T)) :
    ∃ w H', ARun Go.Proofs.Try.prog 0 33 [.int .i64 (i : Nat), .agg (mrow L i).toArray, ptr b 0] H w H' ∧ w = .bool (!none64 fun j => fiP (ro L i) j && x.oc j) ∧ H' = H := by
  suffices h' : ∃ w H', ARun Go.Proofs.Try.prog 0 33 [.int .i64 (i : Nat), .agg (mrow L i).toArray, ptr b 0] H w H' ∧ w = .bool (!none64 fun j => fiP (ro L i) j && x.oc j) ∧ Keeps H H' by
    obtain ⟨_, _, a, rfl, k⟩ := h'
    exact ⟨_, _, a.gc0 k (.inr (.bool _)), rfl, rfl⟩
  refine walk2 f33_ok f33_n ?_
  intro Q hq1 hq2
  have kA := (Keeps.refl H).alloc (.cells true false 6 (mrow L i) 89)
  have gA := kA.at_ gb
  have hbl := AHeap.get_lt gb
  unfold mrow at kA gA ⊢
  unfold inl at gb gA
  simp (disch := first | assumption | omega | (simp only [LN] <;> omega) | (simp (disch := first | assumption | omega | (simp only [LN] <;> omega)) only [row_alloc, row_set]; assumption)) only [f33, W_block, P3, ↓reduceIte, reduceAdd, reduceEqDiff, reduceCtorEq, initFr, reduceLT, clsA, reduceLeDiff, reduceMul, reduceSub, reduceIte, gA, gb, hbl, o_s64, o_s32, one_s64, one_s32, s_and, s_ne0]
  exact hq2 _ _ ⟨_, rfl, rfl, kA⟩
def sideN (x : Inp) (p : Nat) : Bool := x.nr p && !x.rv p
def sideR (x : Inp) (p : Nat) : Bool := x.rv p && !x.nr p
theorem t38 {H : AHeap} {L : Ly} {i : Nat} {f g : Nat → Bool} {b c T T' : Nat} {o r o' r' : Bool} (gb : H.get b = some (.cells o r 1 [S32 f] T)) (gc : H.get c = some (.cells o' r' 1 [S32 g] T')) :
    ∃ w H', ARun Go.Proofs.Try.prog 0 38 [.int .i64 (i : Nat), .agg (mrow L i).toArray, ptr b 0, ptr c 0] H w H' ∧ w = .bool ((none32 fun p => nor L i p && !f p) && (none32 fun p => rev L i p && !g p)) ∧ H' = H := by
  suffices h' : ∃ w H', ARun Go.Proofs.Try.prog 0 38 [.int .i64 (i : Nat), .agg (mrow L i).toArray, ptr b 0, ptr c 0] H w H' ∧ w = .bool ((none32 fun p => nor L i p && !f p) && (none32 fun p => rev L i p && !g p)) ∧ Keeps H H' by
    obtain ⟨_, _, a, rfl, k⟩ := h'
    exact ⟨_, _, a.gc0 k (.inr (.bool _)), rfl, rfl⟩
  refine walk2 f38_ok f38_n ?_
  intro Q hq1 hq2
  have kA := (Keeps.refl H).alloc (.cells true false 6 (mrow L i) 89)
  have gA := kA.at_ gb
  have gB := kA.at_ gc
  have hbl := AHeap.get_lt gb
  have hcl := AHeap.get_lt gc
  unfold nor rev at hq1 hq2
  unfold mrow at kA gA gB ⊢
  cases h1 : (none32 fun p => ndP (nds (ro L i)) false p && !f p) with
  | false =>
    rw [h1] at hq1 hq2
    simp (disch := first | assumption | omega | (simp only [LN] <;> omega) | (simp (disch := first | assumption | omega | (simp only [LN] <;> omega)) only [row_alloc, row_set]; assumption)) only [f38, W_block, P3, ↓reduceIte, reduceAdd, reduceEqDiff, reduceCtorEq, initFr, reduceLT, clsA, reduceLeDiff, reduceMul, reduceSub, reduceIte, gA, gB, gb, gc, hbl, hcl, o_s64, o_s32, one_s64, one_s32, p_andn, p_eq0, h1]
    exact hq2 _ _ ⟨_, rfl, rfl, kA⟩
  | true =>
    rw [h1] at hq1 hq2
    simp (disch := first | assumption | omega | (simp only [LN] <;> omega) | (simp (disch := first | assumption | omega | (simp only [LN] <;> omega)) only [row_alloc, row_set]; assumption)) only [f38, W_block, P3, ↓reduceIte, reduceAdd, reduceEqDiff, reduceCtorEq, initFr, reduceLT, clsA, reduceLeDiff, reduceMul, reduceSub, reduceIte, gA, gB, gb, gc, hbl, hcl, o_s64, o_s32, one_s64, one_s32, p_andn, p_eq0, h1]
    exact hq2 _ _ ⟨_, rfl, rfl, kA⟩
theorem t37 {H : AHeap} {x : Inp} {cv : Value} (hc : isS cv = true) :
    ∃ w H', ARun Go.Proofs.Try.prog 0 37 [.agg (inl x cv).toArray] H w H' ∧ w = .tuple #[S32 (sideN x), S32 (sideR x)] ∧ H' = H := by
  suffices h' : ∃ w H', ARun Go.Proofs.Try.prog 0 37 [.agg (inl x cv).toArray] H w H' ∧ w = .tuple #[S32 (sideN x), S32 (sideR x)] ∧ Keeps H H' by
    obtain ⟨_, _, a, rfl, k⟩ := h'
    exact ⟨_, _, a.gc0 k (.inr (.tuple _ _ rfl (fun i a b => by
      match i, a with
      | 0, _ => exact .int _ _
      | 1, _ => exact .int _ _))), rfl, rfl⟩
  refine walk2 f37_ok f37_n ?_
  intro Q hq1 hq2
  have kA := (Keeps.refl H).alloc (.cells true false 4 (inl x cv) 43)
  have o1 := one_isS hc
  unfold inl at kA ⊢
  simp (disch := first | assumption | omega | (simp only [LN] <;> omega) | (simp (disch := first | assumption | omega | (simp only [LN] <;> omega)) only [row_alloc, row_set]; assumption)) only [f37, W_block, P3, ↓reduceIte, reduceAdd, reduceEqDiff, reduceCtorEq, initFr, reduceLT, clsA, reduceLeDiff, reduceMul, reduceSub, reduceIte, o1, o_s64, o_s32, one_s64, one_s32, p_andn]
  exact hq2 _ _ ⟨_, rfl, rfl, kA⟩
end Go.AM.Fd

set_option maxRecDepth 100000
set_option maxHeartbeats 0
namespace Go.AM.F
def Z68H : List Value := [(.int .u64 0), (.int .u64 0), (.int .u64 0)] ++ List.replicate 64 (.int .u8 0) ++ [(.int .u32 0)]
def O68H : List Nat := List.replicate 68 1
def zclH : TypeId → List Value
 | 32 => Z68H
 | _ => []
def zvlH : TypeId → Value
 | _ => undef
def zklH : TypeId → List Nat
 | 32 => O68H
 | _ => []
def zrlH : Nat → TypeId → List Value
 | _, _ => []
noncomputable def f10 : AFunc := by
 refine (fun (_ : Cz zclH zvlH zklH zrlH Go.Proofs.Try.prog 0 [0, 1, 2, 3, 4, 5, 6, 39, 45] 10 ?a) => ?a) ?h
 case h =>
 intro zc zv zk zr hc hv hk hr
 conv => lhs; cbv; try simp only [hc, hv, hk, hr, zclH, zvlH, zklH, zrlH]
theorem f10_ok : compF Go.Proofs.Try.prog 0 [0, 1, 2, 3, 4, 5, 6, 39, 45] 10 = some f10 := by kernel_rfl
theorem f10_n : argsOK Go.Proofs.Try.prog 10 2 = true := by kernel_rfl
noncomputable def f23 : AFunc := by
 refine (fun (_ : Cz zclH zvlH zklH zrlH Go.Proofs.Try.prog 0 [0, 2, 3, 4, 11] 23 ?a) => ?a) ?h
 case h =>
 intro zc zv zk zr hc hv hk hr
 conv => lhs; cbv; try simp only [hc, hv, hk, hr, zclH, zvlH, zklH, zrlH]
theorem f23_ok : compF Go.Proofs.Try.prog 0 [0, 2, 3, 4, 11] 23 = some f23 := by kernel_rfl
theorem f23_n : argsOK Go.Proofs.Try.prog 23 1 = true := by kernel_rfl
noncomputable def f24 : AFunc := by
 refine (fun (_ : Cz zclH zvlH zklH zrlH Go.Proofs.Try.prog 0 [0, 1, 4] 24 ?a) => ?a) ?h
 case h =>
 intro zc zv zk zr hc hv hk hr
 conv => lhs; cbv; try simp only [hc, hv, hk, hr, zclH, zvlH, zklH, zrlH]
theorem f24_ok : compF Go.Proofs.Try.prog 0 [0, 1, 4] 24 = some f24 := by kernel_rfl
theorem f24_n : argsOK Go.Proofs.Try.prog 24 2 = true := by kernel_rfl
noncomputable def f27 : AFunc := by
 refine (fun (_ : Cz zclH zvlH zklH zrlH Go.Proofs.Try.prog 0 [0, 1, 2, 3, 4, 5, 6, 7, 8, 9, 10, 11, 12, 13, 18, 26, 34, 39, 82] 27 ?a) => ?a) ?h
 case h =>
 intro zc zv zk zr hc hv hk hr
 conv => lhs; cbv; try simp only [hc, hv, hk, hr, zclH, zvlH, zklH, zrlH]
theorem f27_ok : compF Go.Proofs.Try.prog 0 [0, 1, 2, 3, 4, 5, 6, 7, 8, 9, 10, 11, 12, 13, 18, 26, 34, 39, 82] 27 = some f27 := by kernel_rfl
theorem f27_n : argsOK Go.Proofs.Try.prog 27 3 = true := by kernel_rfl
noncomputable def f28 : AFunc := by
 refine (fun (_ : Cz zclH zvlH zklH zrlH Go.Proofs.Try.prog 0 [0, 1, 2, 3] 28 ?a) => ?a) ?h
 case h =>
 intro zc zv zk zr hc hv hk hr
 conv => lhs; cbv; try simp only [hc, hv, hk, hr, zclH, zvlH, zklH, zrlH]
theorem f28_ok : compF Go.Proofs.Try.prog 0 [0, 1, 2, 3] 28 = some f28 := by kernel_rfl
theorem f28_n : argsOK Go.Proofs.Try.prog 28 1 = true := by kernel_rfl
noncomputable def f29 : AFunc := by
 refine (fun (_ : Cz zclH zvlH zklH zrlH Go.Proofs.Try.prog 0 [0, 1, 2, 4] 29 ?a) => ?a) ?h
 case h =>
 intro zc zv zk zr hc hv hk hr
 conv => lhs; cbv; try simp only [hc, hv, hk, hr, zclH, zvlH, zklH, zrlH]
theorem f29_ok : compF Go.Proofs.Try.prog 0 [0, 1, 2, 4] 29 = some f29 := by kernel_rfl
theorem f29_n : argsOK Go.Proofs.Try.prog 29 2 = true := by kernel_rfl
noncomputable def f56 : AFunc := by
 refine (fun (_ : Cz zclH zvlH zklH zrlH Go.Proofs.Try.prog 0 [0, 1, 4, 15] 56 ?a) => ?a) ?h
 case h =>
 intro zc zv zk zr hc hv hk hr
 conv => lhs; cbv; try simp only [hc, hv, hk, hr, zclH, zvlH, zklH, zrlH]
theorem f56_ok : compF Go.Proofs.Try.prog 0 [0, 1, 4, 15] 56 = some f56 := by kernel_rfl
theorem f56_n : argsOK Go.Proofs.Try.prog 56 2 = true := by kernel_rfl
noncomputable def f57 : AFunc := by
 refine (fun (_ : Cz zclH zvlH zklH zrlH Go.Proofs.Try.prog 0 [0, 2, 3, 4, 7] 57 ?a) => ?a) ?h
 case h =>
 intro zc zv zk zr hc hv hk hr
 conv => lhs; cbv; try simp only [hc, hv, hk, hr, zclH, zvlH, zklH, zrlH]
theorem f57_ok : compF Go.Proofs.Try.prog 0 [0, 2, 3, 4, 7] 57 = some f57 := by kernel_rfl
theorem f57_n : argsOK Go.Proofs.Try.prog 57 1 = true := by kernel_rfl
noncomputable def f63 : AFunc := by
 refine (fun (_ : Cz zclH zvlH zklH zrlH Go.Proofs.Try.prog 0 [0, 1, 2, 3] 63 ?a) => ?a) ?h
 case h =>
 intro zc zv zk zr hc hv hk hr
 conv => lhs; cbv; try simp only [hc, hv, hk, hr, zclH, zvlH, zklH, zrlH]
theorem f63_ok : compF Go.Proofs.Try.prog 0 [0, 1, 2, 3] 63 = some f63 := by kernel_rfl
theorem f63_n : argsOK Go.Proofs.Try.prog 63 1 = true := by kernel_rfl
noncomputable def f64 : AFunc := by
 refine (fun (_ : Cz zclH zvlH zklH zrlH Go.Proofs.Try.prog 0 [0, 1, 4, 5, 9, 17] 64 ?a) => ?a) ?h
 case h =>
 intro zc zv zk zr hc hv hk hr
 conv => lhs; cbv; try simp only [hc, hv, hk, hr, zclH, zvlH, zklH, zrlH]
theorem f64_ok : compF Go.Proofs.Try.prog 0 [0, 1, 4, 5, 9, 17] 64 = some f64 := by kernel_rfl
theorem f64_n : argsOK Go.Proofs.Try.prog 64 2 = true := by kernel_rfl
noncomputable def f65 : AFunc := by
 refine (fun (_ : Cz zclH zvlH zklH zrlH Go.Proofs.Try.prog 0 [0, 1, 2, 4, 5, 6, 12, 28, 35] 65 ?a) => ?a) ?h
 case h =>
 intro zc zv zk zr hc hv hk hr
 conv => lhs; cbv; try simp only [hc, hv, hk, hr, zclH, zvlH, zklH, zrlH]
theorem f65_ok : compF Go.Proofs.Try.prog 0 [0, 1, 2, 4, 5, 6, 12, 28, 35] 65 = some f65 := by kernel_rfl
theorem f65_n : argsOK Go.Proofs.Try.prog 65 2 = true := by kernel_rfl
end Go.AM.F

set_option linter.unusedSimpArgs false
set_option linter.unusedVariables false
set_option maxRecDepth 8000
namespace Go.AM.Fd
open Nat (reduceAdd reduceEqDiff reduceLT reduceLeDiff reduceMul reduceSub)
open Go.Proofs Go.AM.F
theorem t57 {H : AHeap} {n : Nat} (hn : n < 64) : ∃ w H', ARun Go.Proofs.Try.prog 0 57 [.int .i64 (n : Nat)] H w H' ∧ w = .int .u64 ((2 ^ n : Nat) : Int) ∧ H' = H := by
  refine walk2 f57_ok f57_n ?_
  intro Q hq1 hq2
  simp (disch := first | assumption | omega | (simp only [LN] <;> omega) | (simp (disch := first | assumption | omega | (simp only [LN] <;> omega)) only [row_alloc, row_set]; assumption)) only [ f57, P3, ↓reduceIte, reduceAdd, reduceEqDiff, reduceCtorEq, initFr, reduceLT, clsA, reduceLeDiff, reduceMul, reduceSub, reduceIte]
  rw [W_block]
  refine W_loop2 (fun q fr K => ∃ i x4, fr = [.int .i64 ((n : Nat) : Int), .int .u64 0, .int .u64 ((2 ^ i : Nat) : Int), .int .i64 ((i : Nat) : Int), x4] ∧ K = H ∧ i ≤ n ∧ q = n - i) n
    ⟨0, _, rfl, rfl, by omega, rfl⟩ ?_
  rintro Q' q fr K ⟨i, x4, rfl, rfl, hi, rfl⟩ hn' hx' hret
  by_cases hlt : i < n
  · have e1 : (i : Int) < ((n : Nat) : Int) := by omega
    have hw : IntKind.i64.wrap ((i : Int) + 1) = ((i + 1 : Nat) : Int) := by rw [wrap_i64 (by omega) (by omega)]; simp
    have hp : 2 ^ (i + 1) < U := pow_u (by omega)
    have hm : IntKind.u64.wrap (((2 ^ i : Nat) : Int) * 2) = ((2 ^ (i + 1) : Nat) : Int) := by
      have : ((2 ^ i : Nat) : Int) * 2 = ((2 ^ (i + 1) : Nat) : Int) := by rw [Nat.pow_succ]; simp
      rw [this, w64 _ hp]
    simp (disch := first | assumption | omega | (simp only [LN] <;> omega) | (simp (disch := first | assumption | omega | (simp only [LN] <;> omega)) only [row_alloc, row_set]; assumption)) only [W_block, P3, ↓reduceIte, reduceAdd, reduceEqDiff, reduceCtorEq, initFr, reduceLT, clsA, reduceLeDiff, reduceMul, reduceSub, reduceIte, e1, hm, hw]
    exact hn' _ _ _ ⟨i + 1, _, rfl, rfl, by omega, rfl⟩ (by omega)
  · have e1 : ¬ ((i : Nat) : Int) < ((n : Nat) : Int) := by omega
    have hie : i = n := by omega
    subst hie
    simp (disch := first | assumption | omega | (simp only [LN] <;> omega) | (simp (disch := first | assumption | omega | (simp only [LN] <;> omega)) only [row_alloc, row_set]; assumption)) only [W_block, P3, ↓reduceIte, reduceAdd, reduceEqDiff, reduceCtorEq, initFr, reduceLT, clsA, reduceLeDiff, reduceMul, reduceSub, reduceIte, e1]
    refine hx' _ _ _ ?_
    simp (disch := first | assumption | omega | (simp only [LN] <;> omega) | (simp (disch := first | assumption | omega | (simp only [LN] <;> omega)) only [row_alloc, row_set]; assumption)) only [W_block, P3, ↓reduceIte, reduceAdd, reduceEqDiff, reduceCtorEq, initFr, reduceLT, clsA, reduceLeDiff, reduceMul, reduceSub, reduceIte]
    exact hq2 _ _ ⟨_, rfl, rfl, rfl⟩
theorem s_quo (f : Nat → Bool) (n : Nat) : binA .quo (S64 f) (.int .u64 ((2 ^ n : Nat) : Int)) = some (S64 fun i => decide (i + n < 64) && f (i + n)) := by
  unfold S64
  have hp : 0 < 2 ^ n := Nat.pow_pos (by omega)
  rw [b_quo _ _ _ (by omega)]
  have : Int.tdiv ((bitsN f 64 : Nat) : Int) ((2 ^ n : Nat) : Int) = ((bitsN f 64 / 2 ^ n : Nat) : Int) := rfl
  rw [this, bit_shr, w64 _ (bitsN_lt _ _)]
theorem s_rem2 (f : Nat → Bool) : binA .rem (S64 f) (.int .u64 2) = some (I1 (f 0)) := by
  unfold S64 I1
  rw [b_rem _ _ _ (by omega)]
  have h1 : Int.tmod ((bitsN f 64 : Nat) : Int) 2 = ((bitsN f 64 % 2 : Nat) : Int) := rfl
  have h2 := bitsN_t f 0 64
  rw [Nat.testBit_zero] at h2
  rw [h1]
  cases hf : f 0 with
  | true => rw [hf] at h2; simp at h2; rw [h2]; rfl
  | false => rw [hf] at h2; simp at h2; rw [h2]; rfl
theorem t24 {H : AHeap} (f : Nat → Bool) (n : Int) : ∃ w H', ARun Go.Proofs.Try.prog 0 24 [S64 f, .int .i64 n] H w H' ∧ w = .bool (hasB f n) ∧ H' = H := by
  refine walk2 f24_ok f24_n ?_
  intro Q hq1 hq2
  unfold hasB at hq1 hq2
  by_cases h1 : 0 ≤ n
  · by_cases h2 : n ≤ 63
    · obtain ⟨m, rfl⟩ : ∃ m : Nat, n = (m : Int) := ⟨n.toNat, by omega⟩
      have h3 : m < 64 := by omega
      simp (disch := first | assumption | omega | (simp only [LN] <;> omega) | (simp (disch := first | assumption | omega | (simp only [LN] <;> omega)) only [row_alloc, row_set]; assumption)) only [f24, W_block, P3, ↓reduceIte, reduceAdd, reduceEqDiff, reduceCtorEq, initFr, reduceLT, clsA, reduceLeDiff, reduceMul, reduceSub, reduceIte, h1, h2]
      refine callK (t57 h3) ?_
      rintro _ X ⟨rfl, hX⟩
      rw [hX]
      simp (disch := first | assumption | omega | (simp only [LN] <;> omega) | (simp (disch := first | assumption | omega | (simp only [LN] <;> omega)) only [row_alloc, row_set]; assumption)) only [W_block, P3, ↓reduceIte, reduceAdd, reduceEqDiff, reduceCtorEq, initFr, reduceLT, clsA, reduceLeDiff, reduceMul, reduceSub, reduceIte, s_quo, s_rem2, i1_eq]
      refine hq2 _ _ ⟨.bool _, rfl, ?_, rfl⟩
      have h4 : (m : Int) < 64 := by omega
      simp; intro _; omega
    · have h4 : ¬ n < 64 := by omega
      simp (disch := first | assumption | omega | (simp only [LN] <;> omega) | (simp (disch := first | assumption | omega | (simp only [LN] <;> omega)) only [row_alloc, row_set]; assumption)) only [f24, W_block, P3, ↓reduceIte, reduceAdd, reduceEqDiff, reduceCtorEq, initFr, reduceLT, clsA, reduceLeDiff, reduceMul, reduceSub, reduceIte, h1, h2]
      exact hq2 _ _ ⟨.bool _, rfl, by simp [h4], rfl⟩
  · simp (disch := first | assumption | omega | (simp only [LN] <;> omega) | (simp (disch := first | assumption | omega | (simp only [LN] <;> omega)) only [row_alloc, row_set]; assumption)) only [f24, W_block, P3, ↓reduceIte, reduceAdd, reduceEqDiff, reduceCtorEq, initFr, reduceLT, clsA, reduceLeDiff, reduceMul, reduceSub, reduceIte, h1]
    exact hq2 _ _ ⟨.bool _, rfl, by simp [h1], rfl⟩
theorem add_or {a b : Nat} (ha : a < U) (hb : b < U) (h : a &&& b = 0) : a + b = a ||| b ∧ a + b < U := by
  have hh : BitVec.ofNat 64 a &&& BitVec.ofNat 64 b = 0#64 := by
    apply BitVec.eq_of_toNat_eq
    rw [BitVec.toNat_and, BitVec.toNat_ofNat, BitVec.toNat_ofNat, Nat.mod_eq_of_lt ha, Nat.mod_eq_of_lt hb, h]; rfl
  have h2 := BitVec.add_eq_or_of_and_eq_zero _ _ hh
  have ho : a ||| b < U := or_u ha hb
  have h3 := congrArg BitVec.toNat h2
  rw [BitVec.toNat_add, BitVec.toNat_or, BitVec.toNat_ofNat, BitVec.toNat_ofNat, Nat.mod_eq_of_lt ha, Nat.mod_eq_of_lt hb] at h3
  have h5 : a + b = a ||| b + 0 := by
    rcases Nat.lt_or_ge (a + b) U with hlt | hge
    · rw [Nat.mod_eq_of_lt hlt] at h3; simpa using h3
    · exfalso
      have hor : a ≤ a ||| b := Nat.left_le_or
      have : (a + b) % 2 ^ 64 = a + b - U := by
        have hu : (2 : Nat) ^ 64 = U := rfl
        rw [hu, Nat.mod_eq_sub_mod hge, Nat.mod_eq_of_lt (by omega)]
      omega
  simp only [Nat.add_zero] at h5
  exact ⟨h5, by rw [h5]; exact ho⟩
theorem s_addp (f : Nat → Bool) {n : Nat} (hn : n < 64) (hf : f n = false) : binA .add (S64 f) (.int .u64 ((2 ^ n : Nat) : Int)) = some (S64 fun i => f i || oneP (n : Nat) i) := by
  unfold S64
  have h0 : bitsN f 64 &&& 2 ^ n = 0 := by
    rw [bit_pow hn, bit_and, ← bit_0 64]
    apply bits_ext; intro m _
    by_cases e : m = n
    · subst e; simp [hf]
    · simp [e]
  obtain ⟨h1, h2⟩ := add_or (bits_u f (by omega)) (pow_u hn) h0
  have e : ((bitsN f 64 : Nat) : Int) + ((2 ^ n : Nat) : Int) = ((bitsN f 64 + 2 ^ n : Nat) : Int) := by simp
  rw [b_add, e, w64 _ h2, h1, bit_pow hn, bit_or]
  congr 4
  congr 1
  funext i
  simp only [oneP, Int.ofNat_inj]
theorem t56 {H : AHeap} (f : Nat → Bool) (n : Int) : ∃ w H', ARun Go.Proofs.Try.prog 0 56 [S64 f, .int .i64 n] H w H' ∧ w = S64 (fun i => f i || oneP n i) ∧ H' = H := by
  refine walk2 f56_ok f56_n ?_
  intro Q hq1 hq2
  by_cases h1 : n < 0
  · simp (disch := first | assumption | omega | (simp only [LN] <;> omega) | (simp (disch := first | assumption | omega | (simp only [LN] <;> omega)) only [row_alloc, row_set]; assumption)) only [f56, W_block, P3, ↓reduceIte, reduceAdd, reduceEqDiff, reduceCtorEq, initFr, reduceLT, clsA, reduceLeDiff, reduceMul, reduceSub, reduceIte, h1]
    refine hq2 _ _ ⟨S64 _, rfl, ?_, rfl⟩
    apply s64_ext; intro i hi
    have : ¬ (i : Int) = n := by omega
    simp [oneP, this]
  · by_cases h2 : 63 < n
    · simp (disch := first | assumption | omega | (simp only [LN] <;> omega) | (simp (disch := first | assumption | omega | (simp only [LN] <;> omega)) only [row_alloc, row_set]; assumption)) only [f56, W_block, P3, ↓reduceIte, reduceAdd, reduceEqDiff, reduceCtorEq, initFr, reduceLT, clsA, reduceLeDiff, reduceMul, reduceSub, reduceIte, h1, h2]
      refine hq2 _ _ ⟨S64 _, rfl, ?_, rfl⟩
      apply s64_ext; intro i hi
      have : ¬ (i : Int) = n := by omega
      simp [oneP, this]
    · obtain ⟨m, rfl⟩ : ∃ m : Nat, n = (m : Int) := ⟨n.toNat, by omega⟩
      have h3 : m < 64 := by omega
      simp (disch := first | assumption | omega | (simp only [LN] <;> omega) | (simp (disch := first | assumption | omega | (simp only [LN] <;> omega)) only [row_alloc, row_set]; assumption)) only [f56, W_block, P3, ↓reduceIte, reduceAdd, reduceEqDiff, reduceCtorEq, initFr, reduceLT, clsA, reduceLeDiff, reduceMul, reduceSub, reduceIte, h1, h2]
      refine callK (t24 _ _) ?_
      rintro _ X ⟨rfl, hX⟩
      rw [hX, has_nat _ h3]
      cases hf : f m with
      | true =>
        simp (disch := first | assumption | omega | (simp only [LN] <;> omega) | (simp (disch := first | assumption | omega | (simp only [LN] <;> omega)) only [row_alloc, row_set]; assumption)) only [W_block, P3, ↓reduceIte, reduceAdd, reduceEqDiff, reduceCtorEq, initFr, reduceLT, clsA, reduceLeDiff, reduceMul, reduceSub, reduceIte]
        refine hq2 _ _ ⟨S64 _, rfl, ?_, rfl⟩
        apply s64_ext; intro i hi
        by_cases e : i = m
        · subst e; simp [hf]
        · have : ¬ (i : Int) = (m : Int) := by omega
          simp [oneP, this]
      | false =>
        have sa := s_addp f h3 hf
        simp (disch := first | assumption | omega | (simp only [LN] <;> omega) | (simp (disch := first | assumption | omega | (simp only [LN] <;> omega)) only [row_alloc, row_set]; assumption)) only [W_block, P3, ↓reduceIte, reduceAdd, reduceEqDiff, reduceCtorEq, initFr, reduceLT, clsA, reduceLeDiff, reduceMul, reduceSub, reduceIte]
        refine callK (t57 h3) ?_
        rintro _ X ⟨rfl, hX⟩
        rw [hX]
        simp (disch := first | assumption | omega | (simp only [LN] <;> omega) | (simp (disch := first | assumption | omega | (simp only [LN] <;> omega)) only [row_alloc, row_set]; assumption)) only [W_block, P3, ↓reduceIte, reduceAdd, reduceEqDiff, reduceCtorEq, initFr, reduceLT, clsA, reduceLeDiff, reduceMul, reduceSub, reduceIte, sa]
        exact hq2 _ _ ⟨_, rfl, rfl, rfl⟩
theorem t23 {H : AHeap} (n : Int) : ∃ w H', ARun Go.Proofs.Try.prog 0 23 [.int .i64 n] H w H' ∧ w = S64 (lowP n) ∧ H' = H := by
  refine walk2 f23_ok f23_n ?_
  intro Q hq1 hq2
  simp (disch := first | assumption | omega | (simp only [LN] <;> omega) | (simp (disch := first | assumption | omega | (simp only [LN] <;> omega)) only [row_alloc, row_set]; assumption)) only [ f23, P3, ↓reduceIte, reduceAdd, reduceEqDiff, reduceCtorEq, initFr, reduceLT, clsA, reduceLeDiff, reduceMul, reduceSub, reduceIte]
  rw [W_block]
  refine W_loop2 (fun q fr K => ∃ i x4, fr = [.int .i64 n, .int .u64 0, S64 (lowP (i : Nat)), .int .i64 ((i : Nat) : Int), x4] ∧ K = H ∧ i ≤ 64 ∧ (i = 0 ∨ (i : Int) ≤ n) ∧ q = 64 - i) 64
    ⟨0, undef, by rw [show S64 (lowP ((0 : Nat) : Int)) = .int .u64 0 from by rw [s_zero]; exact s64_ext fun i _ => by simp [lowP]]; rfl, rfl, by omega, .inl rfl, rfl⟩ ?_
  rintro Q' q fr K ⟨i, x4, rfl, rfl, hi, hin, rfl⟩ hn' hx' hret
  by_cases h1 : (i : Int) < n
  · by_cases h2 : i < 64
    · have e2 : (i : Int) < 64 := by omega
      have hw : IntKind.i64.wrap ((i : Int) + 1) = ((i + 1 : Nat) : Int) := by rw [wrap_i64 (by omega) (by omega)]; simp
      simp (disch := first | assumption | omega | (simp only [LN] <;> omega) | (simp (disch := first | assumption | omega | (simp only [LN] <;> omega)) only [row_alloc, row_set]; assumption)) only [W_block, P3, ↓reduceIte, reduceAdd, reduceEqDiff, reduceCtorEq, initFr, reduceLT, clsA, reduceLeDiff, reduceMul, reduceSub, reduceIte, h1, e2]
      refine callK (t56 _ _) ?_
      rintro _ X ⟨rfl, hX⟩
      rw [hX]
      simp (disch := first | assumption | omega | (simp only [LN] <;> omega) | (simp (disch := first | assumption | omega | (simp only [LN] <;> omega)) only [row_alloc, row_set]; assumption)) only [W_block, P3, ↓reduceIte, reduceAdd, reduceEqDiff, reduceCtorEq, initFr, reduceLT, clsA, reduceLeDiff, reduceMul, reduceSub, reduceIte, hw]
      refine hn' _ _ _ ⟨i + 1, .bool true, ?_, rfl, by omega, .inr (by omega), rfl⟩ (by omega)
      congr 3
      apply s64_ext; intro j _
      by_cases e : j < i
      · have a1 : (j : Int) < (i : Int) := by omega
        have a2 : (j : Int) < ((i + 1 : Nat) : Int) := by omega
        simp [lowP, oneP, a1, a2]; omega
      · by_cases e3 : j = i
        · subst e3; simp [lowP, oneP]; omega
        · have a1 : ¬ (j : Int) < (i : Int) := by omega
          have a2 : ¬ (j : Int) < ((i + 1 : Nat) : Int) := by omega
          have a3 : ¬ (j : Int) = (i : Int) := by omega
          simp [lowP, oneP, a1, a2, a3]; omega
    · have e2 : ¬ (i : Int) < 64 := by omega
      simp (disch := first | assumption | omega | (simp only [LN] <;> omega) | (simp (disch := first | assumption | omega | (simp only [LN] <;> omega)) only [row_alloc, row_set]; assumption)) only [W_block, P3, ↓reduceIte, reduceAdd, reduceEqDiff, reduceCtorEq, initFr, reduceLT, clsA, reduceLeDiff, reduceMul, reduceSub, reduceIte, h1, e2]
      refine hx' _ _ _ ?_
      simp (disch := first | assumption | omega | (simp only [LN] <;> omega) | (simp (disch := first | assumption | omega | (simp only [LN] <;> omega)) only [row_alloc, row_set]; assumption)) only [W_block, P3, ↓reduceIte, reduceAdd, reduceEqDiff, reduceCtorEq, initFr, reduceLT, clsA, reduceLeDiff, reduceMul, reduceSub, reduceIte]
      refine hq2 _ _ ⟨S64 _, rfl, ?_, rfl⟩
      apply s64_ext; intro j hj
      have a1 : (j : Int) < (i : Int) := by omega
      have a2 : (j : Int) < n := by omega
      simp [lowP, a1, a2]
  · simp (disch := first | assumption | omega | (simp only [LN] <;> omega) | (simp (disch := first | assumption | omega | (simp only [LN] <;> omega)) only [row_alloc, row_set]; assumption)) only [W_block, P3, ↓reduceIte, reduceAdd, reduceEqDiff, reduceCtorEq, initFr, reduceLT, clsA, reduceLeDiff, reduceMul, reduceSub, reduceIte, h1]
    refine hx' _ _ _ ?_
    simp (disch := first | assumption | omega | (simp only [LN] <;> omega) | (simp (disch := first | assumption | omega | (simp only [LN] <;> omega)) only [row_alloc, row_set]; assumption)) only [W_block, P3, ↓reduceIte, reduceAdd, reduceEqDiff, reduceCtorEq, initFr, reduceLT, clsA, reduceLeDiff, reduceMul, reduceSub, reduceIte]
    refine hq2 _ _ ⟨S64 _, rfl, ?_, rfl⟩
    apply s64_ext; intro j hj
    simp only [lowP]
    rw [decide_eq_decide]
    omega
end Go.AM.Fd

set_option linter.unusedSimpArgs false
set_option linter.unusedVariables false
set_option maxRecDepth 8000
namespace Go.AM.Fd
open Nat (reduceAdd reduceEqDiff reduceLT reduceLeDiff reduceMul reduceSub)
open Go.Proofs Go.AM.F
theorem t63 {H : AHeap} {x : RV} (h : x.ok H) (hl : x.r.path.length + x.r.ov.length ≤ 1000000) :
    ∃ w H', ARun Go.Proofs.Try.prog 0 63 [.agg x.row.toArray] H w H' ∧ IL H' w (trk x.r) ∧ Keeps H H' ∧ Fresh H.n w := by
  refine walk2 f63_ok f63_n ?_
  intro Q hq1 hq2
  have o1 : one1 (Value.int .i64 x.r.g) = True := by simp [one1, one_int]
  have o2 : one1 (Value.string ⟨x.r.n.toArray⟩) = True := by simp [one1, one_str]
  obtain ⟨a3, a4, a5, a6⟩ := RV.ones h
  have hp := h.p
  have ho := h.o
  have rowx : x.row = [.string ⟨x.r.n.toArray⟩, .int .i64 x.r.g, x.vp, x.vq, x.vo, x.vf] := rfl
  obtain ⟨K, hK⟩ : ∃ X, X = H.alloc (.cells true false 6 x.row 50) := ⟨_, rfl⟩
  have kK : Keeps H K := by rw [hK]; exact (Keeps.refl H).alloc _
  have gK : K.get H.n = some (.cells true false 6 x.row 50) := by rw [hK]; exact AHeap.get_alloc_new H _
  rw [rowx] at hK gK ⊢
  simp (disch := first | assumption | omega | (simp only [LN] <;> omega) | (simp (disch := first | assumption | omega | (simp only [LN] <;> omega)) only [row_alloc, row_set]; assumption)) only [f63, W_block, P3, ↓reduceIte, reduceAdd, reduceEqDiff, reduceCtorEq, initFr, reduceLT, clsA, reduceLeDiff, reduceMul, reduceSub, reduceIte, o1, o2, a3, a4, a5, a6]
  rw [← hK]
  refine OW.appR (OW.nil 3 1 kK) (Sl.keeps hp kK) (by simp; omega) ?_
  intro v K2 ow c2
  have kK2 : Keeps K K2 := by rw [show blkL (Value.slice none 0 0) = [] from rfl] at c2; exact c2.keeps (by simp)
  have gK2 := kK2.at_ gK
  simp (disch := first | assumption | omega | (simp only [LN] <;> omega) | (simp (disch := first | assumption | omega | (simp only [LN] <;> omega)) only [row_alloc, row_set]; assumption)) only [W_block, P3, ↓reduceIte, reduceAdd, reduceEqDiff, reduceCtorEq, initFr, reduceLT, clsA, reduceLeDiff, reduceMul, reduceSub, reduceIte, gK2]
  refine OW.appR ow (Sl.keeps ho (kK.trans kK2)) (by simp; omega) ?_
  intro v2 K3 ow2 c3
  simp (disch := first | assumption | omega | (simp only [LN] <;> omega) | (simp (disch := first | assumption | omega | (simp only [LN] <;> omega)) only [row_alloc, row_set]; assumption)) only [W_block, P3, ↓reduceIte, reduceAdd, reduceEqDiff, reduceCtorEq, initFr, reduceLT, clsA, reduceLeDiff, reduceMul, reduceSub, reduceIte]
  refine hq2 _ _ ⟨v2, rfl, ?_, ow2.k, ow2.f⟩
  have := ow2.sl
  simpa [IL, trk] using this
theorem t28 {H : AHeap} {x : RV} (h : x.ok H) (hl : x.r.pts.length + x.r.fl.length ≤ 1000000) :
    ∃ w H', ARun Go.Proofs.Try.prog 0 28 [.agg x.row.toArray] H w H' ∧ NL H' w (nds x.r) ∧ Keeps H H' ∧ Fresh H.n w := by
  refine walk2 f28_ok f28_n ?_
  intro Q hq1 hq2
  have o1 : one1 (Value.int .i64 x.r.g) = True := by simp [one1, one_int]
  have o2 : one1 (Value.string ⟨x.r.n.toArray⟩) = True := by simp [one1, one_str]
  obtain ⟨a3, a4, a5, a6⟩ := RV.ones h
  have hp := h.q
  have ho := h.f
  have rowx : x.row = [.string ⟨x.r.n.toArray⟩, .int .i64 x.r.g, x.vp, x.vq, x.vo, x.vf] := rfl
  obtain ⟨K, hK⟩ : ∃ X, X = H.alloc (.cells true false 6 x.row 50) := ⟨_, rfl⟩
  have kK : Keeps H K := by rw [hK]; exact (Keeps.refl H).alloc _
  have gK : K.get H.n = some (.cells true false 6 x.row 50) := by rw [hK]; exact AHeap.get_alloc_new H _
  rw [rowx] at hK gK ⊢
  simp (disch := first | assumption | omega | (simp only [LN] <;> omega) | (simp (disch := first | assumption | omega | (simp only [LN] <;> omega)) only [row_alloc, row_set]; assumption)) only [f28, W_block, P3, ↓reduceIte, reduceAdd, reduceEqDiff, reduceCtorEq, initFr, reduceLT, clsA, reduceLeDiff, reduceMul, reduceSub, reduceIte, o1, o2, a3, a4, a5, a6]
  rw [← hK]
  refine OW.appR (OW.nil 68 2 kK) (Sl.keeps hp kK) (by simp; omega) ?_
  intro v K2 ow c2
  have kK2 : Keeps K K2 := by rw [show blkL (Value.slice none 0 0) = [] from rfl] at c2; exact c2.keeps (by simp)
  have gK2 := kK2.at_ gK
  simp (disch := first | assumption | omega | (simp only [LN] <;> omega) | (simp (disch := first | assumption | omega | (simp only [LN] <;> omega)) only [row_alloc, row_set]; assumption)) only [W_block, P3, ↓reduceIte, reduceAdd, reduceEqDiff, reduceCtorEq, initFr, reduceLT, clsA, reduceLeDiff, reduceMul, reduceSub, reduceIte, gK2]
  refine OW.appR ow (Sl.keeps ho (kK.trans kK2)) (by simp; omega) ?_
  intro v2 K3 ow2 c3
  simp (disch := first | assumption | omega | (simp only [LN] <;> omega) | (simp (disch := first | assumption | omega | (simp only [LN] <;> omega)) only [row_alloc, row_set]; assumption)) only [W_block, P3, ↓reduceIte, reduceAdd, reduceEqDiff, reduceCtorEq, initFr, reduceLT, clsA, reduceLeDiff, reduceMul, reduceSub, reduceIte]
  refine hq2 _ _ ⟨v2, rfl, ?_, ow2.k, ow2.f⟩
  have := ow2.sl
  simpa [NL, nds] using this
theorem take_any {l : List Int} {i : Nat} {n : Int} (h : i < l.length) (hp : (l.take i).contains n = false) (hx : (l.getD i 0 == n) = false) : (l.take (i + 1)).contains n = false := by
  rw [List.take_add_one, List.getElem?_eq_getElem h, List.contains_append, hp]
  rw [List.getD_eq_getElem?_getD, List.getElem?_eq_getElem h] at hx
  simp only [Option.getD_some] at hx
  simp only [Option.toList_some, List.contains_cons, List.contains_nil, Bool.or_false, Bool.false_or]
  rw [Bool.eq_false_iff]; intro e
  have := beq_iff_eq.1 e
  simp [this] at hx
theorem t64 {H : AHeap} {v : Value} {l : List Int} (h : IL H v l) (hl : l.length ≤ 1000000) (n : Int) :
    ∃ w H', ARun Go.Proofs.Try.prog 0 64 [v, .int .i64 n] H w H' ∧ w = .bool (l.contains n) ∧ H' = H := by
  refine walk2 f64_ok f64_n ?_
  intro Q hq1 hq2
  have is := Sl.is h
  have len := h.len
  simp (disch := first | assumption | omega | (simp only [LN] <;> omega) | (simp (disch := first | assumption | omega | (simp only [LN] <;> omega)) only [row_alloc, row_set]; assumption)) only [ f64, P3, ↓reduceIte, reduceAdd, reduceEqDiff, reduceCtorEq, initFr, reduceLT, clsA, reduceLeDiff, reduceMul, reduceSub, reduceIte]
  rw [W_block]
  refine W_loop2 (fun q fr K => ∃ i x4 x5, fr = [v, .int .i64 n, .bool false, .int .i64 ((i : Nat) : Int), x4, x5] ∧ K = H ∧ i ≤ l.length ∧ (l.take i).contains n = false ∧ q = l.length - i) l.length
    ⟨0, _, _, rfl, rfl, by omega, by simp, rfl⟩ ?_
  rintro Q' q fr K ⟨i, x4, x5, rfl, rfl, hi, hp, rfl⟩ hn' hx' hret
  by_cases hlt : i < l.length
  · obtain ⟨na, ra⟩ := h.at_ hlt
    have e0 : (0 : Int) ≤ (i : Int) := by omega
    have e1 : (i : Int) < ((l.length : Nat) : Int) := by omega
    have hw : IntKind.i64.wrap ((i : Int) + 1) = ((i + 1 : Nat) : Int) := by rw [wrap_i64 (by omega) (by omega)]; simp
    have hgd : l.getD i 0 ∈ l := by rw [List.getD_eq_getElem?_getD, List.getElem?_eq_getElem hlt]; exact List.getElem_mem hlt
    cases hx : (l.getD i 0 == n) with
    | true =>
      simp (disch := first | assumption | omega | (simp only [LN] <;> omega) | (simp (disch := first | assumption | omega | (simp only [LN] <;> omega)) only [row_alloc, row_set]; assumption)) only [W_block, P3, ↓reduceIte, reduceAdd, reduceEqDiff, reduceCtorEq, initFr, reduceLT, clsA, reduceLeDiff, reduceMul, reduceSub, reduceIte, is, len, e0, e1, na, ra, a_load1v, hx]
      refine hret _ _ ?_
      refine hq2 _ _ ⟨_, rfl, ?_, rfl⟩
      have : l.contains n = true := List.contains_iff_mem.2 (by rw [← beq_iff_eq.1 hx]; exact hgd)
      rw [this]; rfl
    | false =>
      simp (disch := first | assumption | omega | (simp only [LN] <;> omega) | (simp (disch := first | assumption | omega | (simp only [LN] <;> omega)) only [row_alloc, row_set]; assumption)) only [W_block, P3, ↓reduceIte, reduceAdd, reduceEqDiff, reduceCtorEq, initFr, reduceLT, clsA, reduceLeDiff, reduceMul, reduceSub, reduceIte, is, len, e0, e1, na, ra, a_load1v, hx, hw]
      exact hn' _ _ _ ⟨i + 1, _, _, rfl, rfl, by omega, take_any hlt hp hx, rfl⟩ (by omega)
  · have e1 : ¬ ((i : Nat) : Int) < ((l.length : Nat) : Int) := by omega
    have hie : i = l.length := by omega
    subst hie
    rw [List.take_length] at hp
    simp (disch := first | assumption | omega | (simp only [LN] <;> omega) | (simp (disch := first | assumption | omega | (simp only [LN] <;> omega)) only [row_alloc, row_set]; assumption)) only [W_block, P3, ↓reduceIte, reduceAdd, reduceEqDiff, reduceCtorEq, initFr, reduceLT, clsA, reduceLeDiff, reduceMul, reduceSub, reduceIte, is, len, e1]
    refine hx' _ _ _ ?_
    simp (disch := first | assumption | omega | (simp only [LN] <;> omega) | (simp (disch := first | assumption | omega | (simp only [LN] <;> omega)) only [row_alloc, row_set]; assumption)) only [W_block, P3, ↓reduceIte, reduceAdd, reduceEqDiff, reduceCtorEq, initFr, reduceLT, clsA, reduceLeDiff, reduceMul, reduceSub, reduceIte]
    exact hq2 _ _ ⟨_, rfl, by rw [hp]; rfl, rfl⟩
def kO : Option Bool → Int
  | some true => 2
  | some false => 1
  | none => 0
def nkB (l : List (Int × Bool)) (p : Int) : Int := kO (sideO p l)
set_option maxHeartbeats 1000000 in
theorem t65 {H : AHeap} {x : RV} (h : x.ok H) (hl : x.r.pts.length + x.r.fl.length ≤ 1000000) (p : Int) :
    ∃ w H', ARun Go.Proofs.Try.prog 0 65 [.agg x.row.toArray, .int .i64 p] H w H' ∧ w = .int .i64 (nkB (nds x.r) p) ∧ H' = H := by
  suffices h' : ∃ w H', ARun Go.Proofs.Try.prog 0 65 [.agg x.row.toArray, .int .i64 p] H w H' ∧ w = .int .i64 (nkB (nds x.r) p) ∧ Keeps H H' by
    obtain ⟨_, _, a, rfl, k⟩ := h'
    exact ⟨_, _, a.gc0 k (.inr (.int _ _)), rfl, rfl⟩
  refine walk2 f65_ok f65_n ?_
  intro Q hq1 hq2
  have o1 : one1 (Value.int .i64 x.r.g) = True := by simp [one1, one_int]
  have o2 : one1 (Value.string ⟨x.r.n.toArray⟩) = True := by simp [one1, one_str]
  obtain ⟨a3, a4, a5, a6⟩ := RV.ones h
  have rowx : x.row = [.string ⟨x.r.n.toArray⟩, .int .i64 x.r.g, x.vp, x.vq, x.vo, x.vf] := rfl
  have kA := (Keeps.refl H).alloc (.cells true false 6 x.row 50)
  have tN := t28 (h.keeps kA) hl
  rw [rowx] at kA tN ⊢
  simp (disch := first | assumption | omega | (simp only [LN] <;> omega) | (simp (disch := first | assumption | omega | (simp only [LN] <;> omega)) only [row_alloc, row_set]; assumption)) only [f65, W_block, P3, ↓reduceIte, reduceAdd, reduceEqDiff, reduceCtorEq, initFr, reduceLT, clsA, reduceLeDiff, reduceMul, reduceSub, reduceIte, o1, o2, a3, a4, a5, a6]
  refine callK tN ?_
  rintro nv K ⟨hn, kK, fn⟩
  have is := Sl.is hn
  have len := hn.len
  have nl : (nds x.r).length ≤ 1000000 := by simp [nds]; omega
  generalize nds x.r = l at *
  simp (disch := first | assumption | omega | (simp only [LN] <;> omega) | (simp (disch := first | assumption | omega | (simp only [LN] <;> omega)) only [row_alloc, row_set]; assumption)) only [ P3, ↓reduceIte, reduceAdd, reduceEqDiff, reduceCtorEq, initFr, reduceLT, clsA, reduceLeDiff, reduceMul, reduceSub, reduceIte]
  rw [W_block]
  refine W_loop2 (fun q fr X => ∃ i x6 x7 x8, fr = [.agg #[.string ⟨x.r.n.toArray⟩, .int .i64 x.r.g, x.vp, x.vq, x.vo, x.vf], .int .i64 p, ptr H.n 0, .int .i64 0, nv, .int .i64 ((i : Nat) : Int), x6, x7, x8] ∧ X = K ∧ i ≤ l.length ∧ sideO p (l.take i) = none ∧ q = l.length - i) l.length
    ⟨0, _, _, _, rfl, rfl, by omega, rfl, rfl⟩ ?_
  rintro Q' q fr X ⟨i, x6, x7, x8, rfl, rfl, hi, hp, rfl⟩ hn' hx' hret
  by_cases hlt : i < l.length
  · obtain ⟨na, ra⟩ := hn.at_ hlt
    have e0 : (0 : Int) ≤ (i : Int) := by omega
    have e1 : (i : Int) < ((l.length : Nat) : Int) := by omega
    have hw : IntKind.i64.wrap ((i : Int) + 1) = ((i + 1 : Nat) : Int) := by rw [wrap_i64 (by omega) (by omega)]; simp
    obtain ⟨z, hz⟩ : ∃ z, z = l[i] := ⟨_, rfl⟩
    have hgd : l.getD i (0, false) = z := by rw [List.getD_eq_getElem?_getD, List.getElem?_eq_getElem hlt, hz]; rfl
    have hsp : l = l.take i ++ z :: l.drop (i + 1) := by rw [hz, ← List.drop_eq_getElem_cons hlt, List.take_append_drop]
    have htk : l.take (i + 1) = l.take i ++ [z] := by rw [List.take_add_one, List.getElem?_eq_getElem hlt, hz]; rfl
    have hfn : (l.take i).find? (fun x => x.1 == p) = none := by unfold sideO at hp; simpa using hp
    have hyes : (z.1 == p) = true → sideO p l = some z.2 := fun e => by
      have : sideO p (l.take i ++ z :: l.drop (i + 1)) = some z.2 := by
        unfold sideO; rw [List.find?_append, hfn]; simp [e]
      rw [← hsp] at this; exact this
    have hno : (z.1 == p) = false → sideO p (l.take (i + 1)) = none := fun e => by
      unfold sideO; rw [htk, List.find?_append, hfn]; simp [e]
    rw [hgd] at ra
    clear hz hgd hsp htk
    obtain ⟨zp, zb⟩ := z
    simp only at ra hyes hno
    cases hx : (zp == p) with
    | true =>
      have hs := hyes hx
      cases zb with
      | true =>
        simp (disch := first | assumption | omega | (simp only [LN] <;> omega) | (simp (disch := first | assumption | omega | (simp only [LN] <;> omega)) only [row_alloc, row_set]; assumption)) only [W_block, P3, ↓reduceIte, reduceAdd, reduceEqDiff, reduceCtorEq, initFr, reduceLT, clsA, reduceLeDiff, reduceMul, reduceSub, reduceIte, is, len, e0, e1, na, ra, a_load1v, hx]
        refine hret _ _ ?_
        exact hq2 _ _ ⟨_, rfl, by unfold nkB; rw [hs]; rfl, kA.trans kK⟩
      | false =>
        simp (disch := first | assumption | omega | (simp only [LN] <;> omega) | (simp (disch := first | assumption | omega | (simp only [LN] <;> omega)) only [row_alloc, row_set]; assumption)) only [W_block, P3, ↓reduceIte, reduceAdd, reduceEqDiff, reduceCtorEq, initFr, reduceLT, clsA, reduceLeDiff, reduceMul, reduceSub, reduceIte, is, len, e0, e1, na, ra, a_load1v, hx]
        refine hret _ _ ?_
        exact hq2 _ _ ⟨_, rfl, by unfold nkB; rw [hs]; rfl, kA.trans kK⟩
    | false =>
      simp (disch := first | assumption | omega | (simp only [LN] <;> omega) | (simp (disch := first | assumption | omega | (simp only [LN] <;> omega)) only [row_alloc, row_set]; assumption)) only [W_block, P3, ↓reduceIte, reduceAdd, reduceEqDiff, reduceCtorEq, initFr, reduceLT, clsA, reduceLeDiff, reduceMul, reduceSub, reduceIte, is, len, e0, e1, na, ra, a_load1v, hx, hw]
      exact hn' _ _ _ ⟨i + 1, _, _, _, rfl, rfl, by omega, hno hx, rfl⟩ (by omega)
  · have e1 : ¬ ((i : Nat) : Int) < ((l.length : Nat) : Int) := by omega
    have hie : i = l.length := by omega
    subst hie
    rw [List.take_length] at hp
    simp (disch := first | assumption | omega | (simp only [LN] <;> omega) | (simp (disch := first | assumption | omega | (simp only [LN] <;> omega)) only [row_alloc, row_set]; assumption)) only [W_block, P3, ↓reduceIte, reduceAdd, reduceEqDiff, reduceCtorEq, initFr, reduceLT, clsA, reduceLeDiff, reduceMul, reduceSub, reduceIte, is, len, e1]
    refine hx' _ _ _ ?_
    simp (disch := first | assumption | omega | (simp only [LN] <;> omega) | (simp (disch := first | assumption | omega | (simp only [LN] <;> omega)) only [row_alloc, row_set]; assumption)) only [W_block, P3, ↓reduceIte, reduceAdd, reduceEqDiff, reduceCtorEq, initFr, reduceLT, clsA, reduceLeDiff, reduceMul, reduceSub, reduceIte]
    exact hq2 _ _ ⟨_, rfl, by unfold nkB; rw [hp]; rfl, kA.trans kK⟩
theorem kO_pt (x y : Option Bool) (s t : Bool) : (decide (kO x ≠ kO y) && (decide (0 < kO x) && decide (0 < kO y) || decide (0 < kO x) && s || decide (0 < kO y) && t)) = ((x.isSome && y.isSome || x.isSome && s || y.isSome && t) && !(x == y)) := by
  rcases x with _ | _ | _ <;> rcases y with _ | _ | _ <;> cases s <;> cases t <;> decide
theorem cpt_nk (L : Ly) (a b : Ro) (p : Nat) : (decide (nkB (nds a) p ≠ nkB (nds b) p) && (decide (0 < nkB (nds a) p) && decide (0 < nkB (nds b) p) || decide (0 < nkB (nds a) p) && (trk b).contains (L.p.getD p ([], 0)).2 || decide (0 < nkB (nds b) p) && (trk a).contains (L.p.getD p ([], 0)).2)) = cPt L a b p := kO_pt _ _ _ _
set_option maxHeartbeats 2000000 in
theorem t27 {H : AHeap} {u : V4} {xs : List RV} {L : Ly} {a b : RV} (h : LyR H u xs L) (oa : a.ok H) (ob : b.ok H) (la : RoLim L a.r) (lb : RoLim L b.r) (hL : LyLim L) :
    ∃ w H', ARun Go.Proofs.Try.prog 0 27 [.agg u.l.toArray, .agg a.row.toArray, .agg b.row.toArray] H w H' ∧ w = .bool (confB L a.r b.r) ∧ H' = H := by
  suffices h' : ∃ w H', ARun Go.Proofs.Try.prog 0 27 [.agg u.l.toArray, .agg a.row.toArray, .agg b.row.toArray] H w H' ∧ w = .bool (confB L a.r b.r) ∧ Keeps H H' by
    obtain ⟨_, _, r, rfl, k⟩ := h'
    exact ⟨_, _, r.gc0 k (.inr (.bool _)), rfl, rfl⟩
  refine walk2 f27_ok f27_n ?_
  intro Q hq1 hq2
  have lpp := hL.p
  have lP := la.p
  have lO := la.o
  have lQ := la.q
  have lF := la.f
  have mP := lb.p
  have mO := lb.o
  have mQ := lb.q
  have mF := lb.f
  have os := Sl.one h.s
  have op := Sl.one h.p
  have og := Sl.one h.g
  have or := Sl.one h.r
  have ip := Sl.is h.p
  have lenp := h.p.len
  obtain ⟨a3, a4, a5, a6⟩ := RV.ones oa
  obtain ⟨b3, b4, b5, b6⟩ := RV.ones ob
  have a1 : one1 (Value.int .i64 a.r.g) = True := by simp [one1, one_int]
  have a2 : one1 (Value.string ⟨a.r.n.toArray⟩) = True := by simp [one1, one_str]
  have b1 : one1 (Value.int .i64 b.r.g) = True := by simp [one1, one_int]
  have b2 : one1 (Value.string ⟨b.r.n.toArray⟩) = True := by simp [one1, one_str]
  have rowa : a.row = [.string ⟨a.r.n.toArray⟩, .int .i64 a.r.g, a.vp, a.vq, a.vo, a.vf] := rfl
  have rowb : b.row = [.string ⟨b.r.n.toArray⟩, .int .i64 b.r.g, b.vp, b.vq, b.vo, b.vf] := rfl
  have hul : u.l = [u.s, u.p, u.g, u.r] := rfl
  obtain ⟨K0, hK0⟩ : ∃ X, X = box3 H u a b := ⟨_, rfl⟩
  have k0 : Keeps H K0 := by rw [hK0]; exact box3_k H u a b
  have n0 : K0.n = H.n + 3 := by rw [hK0]; rfl
  have gl := box3_l H u a b
  have ga := box3_a H u a b
  have gb := box3_b H u a b
  rw [← hK0] at gl ga gb
  have tA := t63 (oa.keeps k0) (by omega)
  have hK0' := hK0
  unfold box3 at hK0'
  simp only [hul, rowa, rowb] at hK0' gl ga gb tA ⊢
  have yes : confB L a.r b.r = true → ∀ {K : AHeap} {fr : List Value}, Keeps H K → resO f27.res fr K = some (.bool true) → Q .ret fr K := fun e K fr k hr => hq2 _ _ ⟨_, hr, by rw [e], k⟩
  cases hg : (a.r.g == b.r.g) with
  | true =>
    simp (disch := first | assumption | omega | (simp only [LN] <;> omega) | (simp (disch := first | assumption | omega | (simp only [LN] <;> omega)) only [row_alloc, row_set]; assumption)) only [f27, W_block, P3, ↓reduceIte, reduceAdd, reduceEqDiff, reduceCtorEq, initFr, reduceLT, clsA, reduceLeDiff, reduceMul, reduceSub, reduceIte, os, op, og, or, a1, a2, a3, a4, a5, a6, b1, b2, b3, b4, b5, b6, hg]
    simp only [← hK0']
    exact yes (by simp only [confB, hg, Bool.true_or]) k0 rfl
  | false =>
  simp (disch := first | assumption | omega | (simp only [LN] <;> omega) | (simp (disch := first | assumption | omega | (simp only [LN] <;> omega)) only [row_alloc, row_set]; assumption)) only [f27, W_block, P3, ↓reduceIte, reduceAdd, reduceEqDiff, reduceCtorEq, initFr, reduceLT, clsA, reduceLeDiff, reduceMul, reduceSub, reduceIte, os, op, og, or, a1, a2, a3, a4, a5, a6, b1, b2, b3, b4, b5, b6, hg]
  simp only [← hK0']
  refine callK tA ?_
  rintro tv K1 ⟨ht, k1, ft⟩
  have tB := t63 ((ob.keeps k0).keeps k1) (by omega)
  simp only [rowb] at tB
  have gb1 := k1.at_ gb
  have hb1 : H.n + 2 < K1.n := AHeap.get_lt gb1
  have hb0 : H.n + 2 < K0.n := AHeap.get_lt gb
  simp (disch := first | assumption | omega | (simp only [LN] <;> omega) | (simp (disch := first | assumption | omega | (simp only [LN] <;> omega)) only [row_alloc, row_set]; assumption)) only [W_block, P3, ↓reduceIte, reduceAdd, reduceEqDiff, reduceCtorEq, initFr, reduceLT, clsA, reduceLeDiff, reduceMul, reduceSub, reduceIte, gb1, gb, hb1, hb0]
  refine callK tB ?_
  rintro wv K2 ⟨hw, k2, fw⟩
  have hti : IL K2 tv (trk a.r) := ht.keeps k2
  have tl : (trk a.r).length ≤ 32 := by simp [trk]; omega
  have wl : (trk b.r).length ≤ 32 := by simp [trk]; omega
  have lent := hti.len
  have ist := Sl.is hti
  have k12 := k1.trans k2
  have kH := k0.trans k12
  have gl2 := k12.at_ gl
  have ga2 := k12.at_ ga
  have gb2 := k12.at_ gb
  simp (disch := first | assumption | omega | (simp only [LN] <;> omega) | (simp (disch := first | assumption | omega | (simp only [LN] <;> omega)) only [row_alloc, row_set]; assumption)) only [ P3, ↓reduceIte, reduceAdd, reduceEqDiff, reduceCtorEq, initFr, reduceLT, clsA, reduceLeDiff, reduceMul, reduceSub, reduceIte]
  rw [W_block]
  obtain ⟨A1, hA1⟩ : ∃ v : Value, v = .agg #[u.s, u.p, u.g, u.r] := ⟨_, rfl⟩
  obtain ⟨A2, hA2⟩ : ∃ v : Value, v = .agg #[.string ⟨a.r.n.toArray⟩, .int .i64 a.r.g, a.vp, a.vq, a.vo, a.vf] := ⟨_, rfl⟩
  obtain ⟨A4, hA4⟩ : ∃ v : Value, v = .agg #[.string ⟨b.r.n.toArray⟩, .int .i64 b.r.g, b.vp, b.vq, b.vo, b.vf] := ⟨_, rfl⟩
  rw [← hA1, ← hA2, ← hA4]
  refine W_loop2 (fun q fr X => ∃ i x15 x16, fr = [A1, A2, A4, ptr H.n 0, ptr (H.n + 1) 0, ptr (H.n + 2) 0, .bool false, tv, wv, .int .i64 ((i : Nat) : Int), undef, undef, undef, undef, .bool false, x15, x16, undef, undef] ∧ K2 = X ∧ i ≤ (trk a.r).length ∧
      ((trk a.r).take i).any (fun s => (trk b.r).contains s) = false ∧ q = (trk a.r).length - i) (trk a.r).length
    ⟨0, _, _, rfl, rfl, by omega, by simp, rfl⟩ ?_
  rintro Q' q fr X ⟨i, x15, x16, rfl, rfl, hi, hp, rfl⟩ hn' hx' hret
  by_cases hlt : i < (trk a.r).length
  · obtain ⟨na, ra⟩ := hti.at_ hlt
    have e0 : (0 : Int) ≤ (i : Int) := by omega
    have e1 : (i : Int) < (((trk a.r).length : Nat) : Int) := by omega
    have hw' : IntKind.i64.wrap ((i : Int) + 1) = ((i + 1 : Nat) : Int) := by rw [wrap_i64 (by omega) (by omega)]; simp
    have hgd : (trk a.r).getD i 0 = (trk a.r)[i] := by rw [List.getD_eq_getElem?_getD, List.getElem?_eq_getElem hlt]; rfl
    simp (disch := first | assumption | omega | (simp only [LN] <;> omega) | (simp (disch := first | assumption | omega | (simp only [LN] <;> omega)) only [row_alloc, row_set]; assumption)) only [W_block, P3, ↓reduceIte, reduceAdd, reduceEqDiff, reduceCtorEq, initFr, reduceLT, clsA, reduceLeDiff, reduceMul, reduceSub, reduceIte, ist, lent, e0, e1, na, ra, a_load1v]
    refine callK (t64 hw (by omega) _) ?_
    rintro _ X ⟨rfl, hX⟩
    rw [hX]
    cases hc : (trk b.r).contains ((trk a.r).getD i 0) with
    | true =>
      simp (disch := first | assumption | omega | (simp only [LN] <;> omega) | (simp (disch := first | assumption | omega | (simp only [LN] <;> omega)) only [row_alloc, row_set]; assumption)) only [W_block, P3, ↓reduceIte, reduceAdd, reduceEqDiff, reduceCtorEq, initFr, reduceLT, clsA, reduceLeDiff, reduceMul, reduceSub, reduceIte]
      refine hret _ _ ?_
      refine yes ?_ kH rfl
      have : (trk a.r).any (fun s => (trk b.r).contains s) = true := List.any_eq_true.2 ⟨(trk a.r)[i], List.getElem_mem hlt, by rw [← hgd]; exact hc⟩
      simp only [confB, this, Bool.or_true, Bool.true_or]
    | false =>
      simp (disch := first | assumption | omega | (simp only [LN] <;> omega) | (simp (disch := first | assumption | omega | (simp only [LN] <;> omega)) only [row_alloc, row_set]; assumption)) only [W_block, P3, ↓reduceIte, reduceAdd, reduceEqDiff, reduceCtorEq, initFr, reduceLT, clsA, reduceLeDiff, reduceMul, reduceSub, reduceIte, hw']
      refine hn' _ _ _ ⟨i + 1, _, _, rfl, rfl, by omega, ?_, rfl⟩ (by omega)
      rw [List.take_add_one, List.getElem?_eq_getElem hlt, List.any_append, hp]
      rw [hgd] at hc
      simp only [Option.toList_some, List.any_cons, List.any_nil, hc]; rfl
  · have e1 : ¬ ((i : Nat) : Int) < (((trk a.r).length : Nat) : Int) := by omega
    have hie : i = (trk a.r).length := by omega
    subst hie
    rw [List.take_length] at hp
    simp (disch := first | assumption | omega | (simp only [LN] <;> omega) | (simp (disch := first | assumption | omega | (simp only [LN] <;> omega)) only [row_alloc, row_set]; assumption)) only [W_block, P3, ↓reduceIte, reduceAdd, reduceEqDiff, reduceCtorEq, initFr, reduceLT, clsA, reduceLeDiff, reduceMul, reduceSub, reduceIte, ist, lent, e1]
    refine hx' _ _ _ ?_
    simp (disch := first | assumption | omega | (simp only [LN] <;> omega) | (simp (disch := first | assumption | omega | (simp only [LN] <;> omega)) only [row_alloc, row_set]; assumption)) only [ P3, ↓reduceIte, reduceAdd, reduceEqDiff, reduceCtorEq, initFr, reduceLT, clsA, reduceLeDiff, reduceMul, reduceSub, reduceIte]
    rw [W_block]
    refine W_loop2 (fun q fr X => ∃ i x11 x12 x13 x17 x18, fr = [A1, A2, A4, ptr H.n 0, ptr (H.n + 1) 0, ptr (H.n + 2) 0, .bool false, tv, wv, .int .i64 (((trk a.r).length : Nat) : Int), .int .i64 ((i : Nat) : Int), x11, x12, x13, .bool false, .bool false, x16, x17, x18] ∧ K2 = X ∧ i ≤ L.p.length ∧
        (List.range i).any (cPt L a.r b.r) = false ∧ q = L.p.length - i) L.p.length
      ⟨0, _, _, _, _, _, rfl, rfl, by omega, by simp, rfl⟩ ?_
    rintro Q2 q fr X ⟨i, x11, x12, x13, x17, x18, rfl, rfl, hi, hpp, rfl⟩ hn2 hx2 hret2
    by_cases hlt : i < L.p.length
    · obtain ⟨np, rp⟩ := (h.p.keeps kH).at_ hlt
      have e0 : (0 : Int) ≤ (i : Int) := by omega
      have e1 : (i : Int) < ((L.p.length : Nat) : Int) := by omega
      have hw' : IntKind.i64.wrap ((i : Int) + 1) = ((i + 1 : Nat) : Int) := by rw [wrap_i64 (by omega) (by omega)]; simp
      have nA := t65 ((oa.keeps k0).keeps k12) (by omega) (i : Int)
      have nB := t65 ((ob.keeps k0).keeps k12) (by omega) (i : Int)
      simp only [rowa, rowb, ← hA2, ← hA4] at nA nB
      have hb2 := AHeap.get_lt gb2
      have hcp := cpt_nk L a.r b.r i
      simp (disch := first | assumption | omega | (simp only [LN] <;> omega) | (simp (disch := first | assumption | omega | (simp only [LN] <;> omega)) only [row_alloc, row_set]; assumption)) only [W_block, P3, ↓reduceIte, reduceAdd, reduceEqDiff, reduceCtorEq, initFr, reduceLT, clsA, reduceLeDiff, reduceMul, reduceSub, reduceIte, gl2, ga2, ip, lenp, e1, ← hA2]
      refine callK nA ?_
      rintro _ X ⟨rfl, hX⟩
      rw [hX]
      simp (disch := first | assumption | omega | (simp only [LN] <;> omega) | (simp (disch := first | assumption | omega | (simp only [LN] <;> omega)) only [row_alloc, row_set]; assumption)) only [W_block, P3, ↓reduceIte, reduceAdd, reduceEqDiff, reduceCtorEq, initFr, reduceLT, clsA, reduceLeDiff, reduceMul, reduceSub, reduceIte, gb2, hb2, ← hA4]
      refine callK nB ?_
      rintro _ X ⟨rfl, hX⟩
      rw [hX]
      have hpd : (L.p.getD i ([], 0)) = (L.p.getD i ([], 0)) := rfl
      obtain ⟨z, hz⟩ : ∃ z, z = L.p.getD i ([], 0) := ⟨_, rfl⟩
      rw [← hz] at hcp rp
      obtain ⟨x, hx⟩ : ∃ x, x = nkB (nds a.r) (i : Int) := ⟨_, rfl⟩
      obtain ⟨y, hy⟩ : ∃ y, y = nkB (nds b.r) (i : Int) := ⟨_, rfl⟩
      rw [← hx, ← hy] at hcp ⊢
      have hne : decide (x ≠ y) = (x != y) := by rw [Bool.eq_iff_iff]; simp
      rw [hne] at hcp
      have good : cPt L a.r b.r i = false → (List.range (i + 1)).any (cPt L a.r b.r) = false := fun e => by rw [List.range_succ, List.any_append, hpp]; simp [e]
      have bad : cPt L a.r b.r i = true → confB L a.r b.r = true := fun e => by
        have : (List.range L.p.length).any (cPt L a.r b.r) = true := List.any_eq_true.2 ⟨i, List.mem_range.2 hlt, e⟩
        simp only [confB, this, Bool.or_true]
      clear hz hx hy hne
      cases h1 : (x != y) with
      | false =>
        rw [h1] at hcp
        simp (disch := first | assumption | omega | (simp only [LN] <;> omega) | (simp (disch := first | assumption | omega | (simp only [LN] <;> omega)) only [row_alloc, row_set]; assumption)) only [W_block, P3, ↓reduceIte, reduceAdd, reduceEqDiff, reduceCtorEq, initFr, reduceLT, clsA, reduceLeDiff, reduceMul, reduceSub, reduceIte, gl2, ip, lenp, e0, e1, np, rp, a_load1v, hw', h1]
        exact hn2 _ _ _ ⟨i + 1, _, _, _, _, _, rfl, rfl, by omega, good (by rw [← hcp]; rfl), rfl⟩ (by omega)
      | true =>
      cases h2 : decide (0 < x) with
      | true =>
        cases h3 : decide (0 < y) with
        | true =>
          rw [h1, h2, h3] at hcp
          simp (disch := first | assumption | omega | (simp only [LN] <;> omega) | (simp (disch := first | assumption | omega | (simp only [LN] <;> omega)) only [row_alloc, row_set]; assumption)) only [W_block, P3, ↓reduceIte, reduceAdd, reduceEqDiff, reduceCtorEq, initFr, reduceLT, clsA, reduceLeDiff, reduceMul, reduceSub, reduceIte, gl2, ip, lenp, e0, e1, np, rp, a_load1v, h1, h2, h3]
          refine hret2 _ _ ?_
          exact yes (bad (by rw [← hcp]; simp)) kH rfl
        | false =>
          rw [h1, h2, h3] at hcp
          simp (disch := first | assumption | omega | (simp only [LN] <;> omega) | (simp (disch := first | assumption | omega | (simp only [LN] <;> omega)) only [row_alloc, row_set]; assumption)) only [W_block, P3, ↓reduceIte, reduceAdd, reduceEqDiff, reduceCtorEq, initFr, reduceLT, clsA, reduceLeDiff, reduceMul, reduceSub, reduceIte, gl2, ip, lenp, e0, e1, np, rp, a_load1v, h1, h2, h3]
          refine callK (t64 hw (by omega) _) ?_
          rintro _ X ⟨rfl, hX⟩
          rw [hX]
          cases h4 : (trk b.r).contains z.2 with
          | true =>
            rw [h4] at hcp
            simp (disch := first | assumption | omega | (simp only [LN] <;> omega) | (simp (disch := first | assumption | omega | (simp only [LN] <;> omega)) only [row_alloc, row_set]; assumption)) only [W_block, P3, ↓reduceIte, reduceAdd, reduceEqDiff, reduceCtorEq, initFr, reduceLT, clsA, reduceLeDiff, reduceMul, reduceSub, reduceIte, h3]
            refine hret2 _ _ ?_
            exact yes (bad (by rw [← hcp]; simp)) kH rfl
          | false =>
            rw [h4] at hcp
            simp (disch := first | assumption | omega | (simp only [LN] <;> omega) | (simp (disch := first | assumption | omega | (simp only [LN] <;> omega)) only [row_alloc, row_set]; assumption)) only [W_block, P3, ↓reduceIte, reduceAdd, reduceEqDiff, reduceCtorEq, initFr, reduceLT, clsA, reduceLeDiff, reduceMul, reduceSub, reduceIte, h3, hw']
            exact hn2 _ _ _ ⟨i + 1, _, _, _, _, _, rfl, rfl, by omega, good (by rw [← hcp]; simp), rfl⟩ (by omega)
      | false =>
        cases h3 : decide (0 < y) with
        | false =>
          rw [h1, h2, h3] at hcp
          simp (disch := first | assumption | omega | (simp only [LN] <;> omega) | (simp (disch := first | assumption | omega | (simp only [LN] <;> omega)) only [row_alloc, row_set]; assumption)) only [W_block, P3, ↓reduceIte, reduceAdd, reduceEqDiff, reduceCtorEq, initFr, reduceLT, clsA, reduceLeDiff, reduceMul, reduceSub, reduceIte, gl2, ip, lenp, e0, e1, np, rp, a_load1v, h1, h2, h3, hw']
          exact hn2 _ _ _ ⟨i + 1, _, _, _, _, _, rfl, rfl, by omega, good (by rw [← hcp]; simp), rfl⟩ (by omega)
        | true =>
          rw [h1, h2, h3] at hcp
          simp (disch := first | assumption | omega | (simp only [LN] <;> omega) | (simp (disch := first | assumption | omega | (simp only [LN] <;> omega)) only [row_alloc, row_set]; assumption)) only [W_block, P3, ↓reduceIte, reduceAdd, reduceEqDiff, reduceCtorEq, initFr, reduceLT, clsA, reduceLeDiff, reduceMul, reduceSub, reduceIte, gl2, ip, lenp, e0, e1, np, rp, a_load1v, h1, h2, h3]
          refine callK (t64 hti (by omega) _) ?_
          rintro _ X ⟨rfl, hX⟩
          rw [hX]
          cases h4 : (trk a.r).contains z.2 with
          | true =>
            rw [h4] at hcp
            simp (disch := first | assumption | omega | (simp only [LN] <;> omega) | (simp (disch := first | assumption | omega | (simp only [LN] <;> omega)) only [row_alloc, row_set]; assumption)) only [W_block, P3, ↓reduceIte, reduceAdd, reduceEqDiff, reduceCtorEq, initFr, reduceLT, clsA, reduceLeDiff, reduceMul, reduceSub, reduceIte]
            refine hret2 _ _ ?_
            exact yes (bad (by rw [← hcp]; simp)) kH rfl
          | false =>
            rw [h4] at hcp
            simp (disch := first | assumption | omega | (simp only [LN] <;> omega) | (simp (disch := first | assumption | omega | (simp only [LN] <;> omega)) only [row_alloc, row_set]; assumption)) only [W_block, P3, ↓reduceIte, reduceAdd, reduceEqDiff, reduceCtorEq, initFr, reduceLT, clsA, reduceLeDiff, reduceMul, reduceSub, reduceIte, hw']
            exact hn2 _ _ _ ⟨i + 1, _, _, _, _, _, rfl, rfl, by omega, good (by rw [← hcp]; simp), rfl⟩ (by omega)
    · have e1 : ¬ ((i : Nat) : Int) < ((L.p.length : Nat) : Int) := by omega
      have hie : i = L.p.length := by omega
      subst hie
      simp (disch := first | assumption | omega | (simp only [LN] <;> omega) | (simp (disch := first | assumption | omega | (simp only [LN] <;> omega)) only [row_alloc, row_set]; assumption)) only [W_block, P3, ↓reduceIte, reduceAdd, reduceEqDiff, reduceCtorEq, initFr, reduceLT, clsA, reduceLeDiff, reduceMul, reduceSub, reduceIte, gl2, ip, lenp, e1]
      refine hx2 _ _ _ ?_
      simp (disch := first | assumption | omega | (simp only [LN] <;> omega) | (simp (disch := first | assumption | omega | (simp only [LN] <;> omega)) only [row_alloc, row_set]; assumption)) only [W_block, P3, ↓reduceIte, reduceAdd, reduceEqDiff, reduceCtorEq, initFr, reduceLT, clsA, reduceLeDiff, reduceMul, reduceSub, reduceIte]
      exact hq2 _ _ ⟨_, rfl, by simp only [confB, hg, hp, hpp]; rfl, kH⟩
end Go.AM.Fd

set_option linter.unusedSimpArgs false
set_option linter.unusedVariables false
set_option maxRecDepth 8000
namespace Go.AM.Fd
open Nat (reduceAdd reduceEqDiff reduceLT reduceLeDiff reduceMul reduceSub)
open Go.Proofs Go.AM.F
theorem Z68H_z : Z68H = stl Sta0 := stl_zero
theorem fill_set (c : List Value) (o : Nat) (v : Value) (r : List (Nat × Nat × Value)) (hv : v.cells.toList = [v]) (ho : o < c.length) : fillA c ((o, 1, v) :: r) = fillA (c.set o v) r := by
  rw [fill_cons, hv, if_pos ⟨rfl, by omega⟩, List.set_eq_take_append_cons_drop, if_pos ho]
  simp
theorem fill_sta (a b : Nat → Bool) : fillA (stl Sta0) [(0, 1, S64 a), (67, 1, S32 b)] = some (stl ⟨a, fun _ => false, fun _ => false, fun _ => 0, b⟩) := by
  rw [fill_set _ _ _ _ rfl (by rw [stl_len]; omega), set_0, fill_set _ _ _ _ rfl (by rw [stl_len]; omega), set_67]; rfl
theorem t29 {H : AHeap} (s : Sta) {p : Nat} (hp : p < 32) : ∃ w H', ARun Go.Proofs.Try.prog 0 29 [.agg (stl s).toArray, .int .i64 (p : Nat)] H w H' ∧ w = .bool (s.po p) ∧ H' = H := by
  suffices h' : ∃ w H', ARun Go.Proofs.Try.prog 0 29 [.agg (stl s).toArray, .int .i64 (p : Nat)] H w H' ∧ w = .bool (s.po p) ∧ Keeps H H' by
    obtain ⟨_, _, a, rfl, k⟩ := h'
    exact ⟨_, _, a.gc0 k (.inr (.bool _)), rfl, rfl⟩
  refine walk2 f29_ok f29_n ?_
  intro Q hq1 hq2
  have kA := (Keeps.refl H).alloc (.cells true false 68 (stl s) 32)
  simp (disch := first | assumption | omega | (simp only [LN] <;> omega) | (simp (disch := first | assumption | omega | (simp only [LN] <;> omega)) only [row_alloc, row_set]; assumption)) only [f29, W_block, P3, ↓reduceIte, reduceAdd, reduceEqDiff, reduceCtorEq, initFr, reduceLT, clsA, reduceLeDiff, reduceMul, reduceSub, reduceIte, stl_one, stl_len, stl_67, p_shr, p_and1, i1p_eq]
  refine hq2 _ _ ⟨.bool _, rfl, ?_, kA⟩
  simp [hp]
def tidD (s : Sta) (L : Ly) (i : Nat) : Sta where
  lo := fun i => s.lo i && lowP L.r.length i
  us := fun i => s.us i && (s.lo i && lowP L.r.length i)
  ca := fun i => s.ca i && (s.lo i && lowP L.r.length i)
  ti := fun j => if j < i then (tidyS L s).ti j else 0
  po := fun i => s.po i && lowP L.p.length i
set_option maxHeartbeats 2000000 in
theorem t10 {H : AHeap} {u : V4} {xs : List RV} {L : Ly} (h : LyR H u xs L) (hL : LyLim L) (s : Sta) : ∃ w H', ARun Go.Proofs.Try.prog 0 10 [.agg u.l.toArray, .agg (stl s).toArray] H w H' ∧ w = .agg (stl (tidyS L s)).toArray ∧ H' = H := by
  suffices h' : ∃ w H', ARun Go.Proofs.Try.prog 0 10 [.agg u.l.toArray, .agg (stl s).toArray] H w H' ∧ w = .agg (stl (tidyS L s)).toArray ∧ Keeps H H' by
    obtain ⟨_, _, a, rfl, k⟩ := h'
    exact ⟨_, _, a.gc0 k (.inr (nv_stl _ _)), rfl, rfl⟩
  refine walk2 f10_ok f10_n ?_
  intro Q hq1 hq2
  have lr := hL.r
  have lp := hL.p
  have os := Sl.one h.s
  have op := Sl.one h.p
  have og := Sl.one h.g
  have or := Sl.one h.r
  have ir := Sl.is h.r
  have ip := Sl.is h.p
  have lenr := h.r.len
  have lenp := h.p.len
  rw [h.rlen] at lenr
  have hul : u.l = [u.s, u.p, u.g, u.r] := rfl
  obtain ⟨K0, hK0⟩ : ∃ X, X = ((H.alloc (.cells true false 4 [u.s, u.p, u.g, u.r] 27)).alloc (.cells true false 68 (stl s) 32)).alloc (.cells true false 68 (stl Sta0) 32) := ⟨_, rfl⟩
  have k0 : Keeps H K0 := by rw [hK0]; exact (((Keeps.refl H).alloc _).alloc _).alloc _
  have n0 : K0.n = H.n + 3 := by rw [hK0]; rfl
  have gl0 : K0.get H.n = some (.cells true false 4 [u.s, u.p, u.g, u.r] 27) := by rw [hK0]; exact (((Keeps.refl _).alloc _).alloc _).at_ (AHeap.get_alloc_new H _)
  have gs0 : K0.get (H.n + 1) = some (.cells true false 68 (stl s) 32) := by rw [hK0]; exact ((Keeps.refl _).alloc _).at_ (AHeap.get_alloc_new (H.alloc _) _)
  have gw0 : K0.get (H.n + 2) = some (.cells true false 68 (stl Sta0) 32) := by rw [hK0]; exact AHeap.get_alloc_new ((H.alloc _).alloc _) _
  have hs0 := AHeap.get_lt gs0
  have hl0 := AHeap.get_lt gl0
  rw [hul]
  simp (disch := first | assumption | omega | (simp only [LN] <;> omega) | (simp (disch := first | assumption | omega | (simp only [LN] <;> omega)) only [row_alloc, row_set]; assumption)) only [f10, W_block, P3, ↓reduceIte, reduceAdd, reduceEqDiff, reduceCtorEq, initFr, reduceLT, clsA, reduceLeDiff, reduceMul, reduceSub, reduceIte, os, op, og, or, stl_one, stl_len, Z68H_z]
  simp only [← hK0]
  simp (disch := first | assumption | omega | (simp only [LN] <;> omega) | (simp (disch := first | assumption | omega | (simp only [LN] <;> omega)) only [row_alloc, row_set]; assumption)) only [W_block, P3, ↓reduceIte, reduceAdd, reduceEqDiff, reduceCtorEq, initFr, reduceLT, clsA, reduceLeDiff, reduceMul, reduceSub, reduceIte, gl0, gs0, stl_0, ir, lenr]
  refine callK (t23 _) ?_
  rintro _ X ⟨rfl, hX⟩
  rw [hX]
  simp (disch := first | assumption | omega | (simp only [LN] <;> omega) | (simp (disch := first | assumption | omega | (simp only [LN] <;> omega)) only [row_alloc, row_set]; assumption)) only [W_block, P3, ↓reduceIte, reduceAdd, reduceEqDiff, reduceCtorEq, initFr, reduceLT, clsA, reduceLeDiff, reduceMul, reduceSub, reduceIte, gl0, gs0, hl0, hs0, stl_67, ip, lenp, s_and]
  refine ⟨by simp, callK (t23 _) ?_⟩
  rintro _ X ⟨rfl, hX⟩
  rw [hX]
  obtain ⟨K1, hK1⟩ : ∃ X, X = K0.alloc (.cells true false 68 (stl (tidD s L 0)) 32) := ⟨_, rfl⟩
  have k1 : Keeps K0 K1 := by rw [hK1]; exact (Keeps.refl K0).alloc _
  have ga1 : K1.get K0.n = some (.cells true false 68 (stl (tidD s L 0)) 32) := by rw [hK1]; exact AHeap.get_alloc_new K0 _
  have eT : (⟨fun i => s.lo i && lowP L.r.length i, fun i => s.us i && (s.lo i && lowP L.r.length i), fun i => s.ca i && (s.lo i && lowP L.r.length i), fun _ => 0, fun i => s.po i && lowP L.p.length i⟩ : Sta) = tidD s L 0 := by simp [tidD]
  simp (disch := first | assumption | omega | (simp only [LN] <;> omega) | (simp (disch := first | assumption | omega | (simp only [LN] <;> omega)) only [row_alloc, row_set]; assumption)) only [ P3, ↓reduceIte, reduceAdd, reduceEqDiff, reduceCtorEq, initFr, reduceLT, clsA, reduceLeDiff, reduceMul, reduceSub, reduceIte, gl0, gs0, hl0, hs0, stl_0, s_down, p_and]
  refine ⟨by simp, ?_⟩
  simp (disch := first | assumption | omega | (simp only [LN] <;> omega) | (simp (disch := first | assumption | omega | (simp only [LN] <;> omega)) only [row_alloc, row_set]; assumption)) only [ P3, ↓reduceIte, reduceAdd, reduceEqDiff, reduceCtorEq, initFr, reduceLT, clsA, reduceLeDiff, reduceMul, reduceSub, reduceIte, gl0, gs0, hl0, hs0, stl_0, stl_1, stl_2, stl_67, set_1, set_2, s_and, p_and, s_down, fill_sta, stn68s, stl_one, stl_len, one_s64, o_s64]
  rw [eT, ← hK1, W_block]
  have gl1 := k1.at_ gl0
  have gs1 := k1.at_ gs0
  have gw1 := k1.at_ gw0
  have kH1 := k0.trans k1
  refine W_loop2 (fun q fr K => ∃ i x7 x8, fr = [.agg #[u.s, u.p, u.g, u.r], .agg (stl s).toArray, ptr H.n 0, ptr (H.n + 1) 0, ptr (H.n + 2) 0, ptr K0.n 0, .int .i64 ((i : Nat) : Int), x7, x8] ∧
      Chg [K0.n] K1 K ∧ K.get K0.n = some (.cells true false 68 (stl (tidD s L i)) 32) ∧ i ≤ L.r.length ∧ q = L.r.length - i) L.r.length
    ⟨0, _, _, rfl, Chg.refl _ _, ga1, by omega, rfl⟩ ?_
  rintro Q' q fr K ⟨i, x7, x8, rfl, cK, ga, hi, rfl⟩ hn' hx' hret
  have haK := AHeap.get_lt ga
  have gl := cK.at_ gl1 (by simp; omega)
  have gs := cK.at_ gs1 (by simp; omega)
  have gw := cK.at_ gw1 (by simp; omega)
  have hsK := AHeap.get_lt gs
  have hw2 := AHeap.get_lt gw
  by_cases hlt : i < L.r.length
  · have iN : i < 64 := by omega
    have e0 : (0 : Int) ≤ (i : Int) := by omega
    have e1 : (i : Int) < ((L.r.length : Nat) : Int) := by omega
    have e2 : (i : Int) < 64 := by omega
    have hw : IntKind.i64.wrap ((i : Int) + 1) = ((i + 1 : Nat) : Int) := by rw [wrap_i64 (by omega) (by omega)]; simp
    have hll : 3 + i < 68 := by omega
    simp (disch := first | assumption | omega | (simp only [LN] <;> omega) | (simp (disch := first | assumption | omega | (simp only [LN] <;> omega)) only [row_alloc, row_set]; assumption)) only [W_block, P3, ↓reduceIte, reduceAdd, reduceEqDiff, reduceCtorEq, initFr, reduceLT, clsA, reduceLeDiff, reduceMul, reduceSub, reduceIte, gl, ga, stl_2, ir, lenr, e1]
    refine callK (t24 _ _) ?_
    rintro _ X ⟨rfl, hX⟩
    rw [hX, has_nat _ iN]
    have hca : (tidD s L i).ca i = (s.ca i && (s.lo i && lowP L.r.length i)) := rfl
    have htt : (tidyS L s).ti i = if s.ca i && (s.lo i && lowP L.r.length i) then min (s.ti i) 20 else 0 := rfl
    rw [← hca] at htt
    have low : ∀ j, j < i → (tidD s L i).ti j = (tidD s L (i + 1)).ti j := fun j hj => by
      show (if j < i then _ else _) = (if j < i + 1 then _ else _)
      rw [if_pos hj, if_pos (by omega)]
    have up : ∀ j, i < j → (tidD s L i).ti j = (tidD s L (i + 1)).ti j := fun j hj => by
      show (if j < i then _ else _) = (if j < i + 1 then _ else _)
      rw [if_neg (by omega), if_neg (by omega)]
    have here : (tidD s L i).ti i = 0 := by
      show (if i < i then _ else _) = _
      rw [if_neg (by omega)]
    have at_ : (tidD s L (i + 1)).ti i = (tidyS L s).ti i := by
      show (if i < i + 1 then _ else _) = _
      rw [if_pos (by omega)]
    cases hc : (tidD s L i).ca i with
    | false =>
      rw [hc] at htt
      simp (disch := first | assumption | omega | (simp only [LN] <;> omega) | (simp (disch := first | assumption | omega | (simp only [LN] <;> omega)) only [row_alloc, row_set]; assumption)) only [W_block, P3, ↓reduceIte, reduceAdd, reduceEqDiff, reduceCtorEq, initFr, reduceLT, clsA, reduceLeDiff, reduceMul, reduceSub, reduceIte, hw]
      refine hn' _ _ _ ⟨i + 1, _, _, rfl, cK, ?_, by omega, rfl⟩ (by omega)
      rw [ga]
      congr 2
      refine stl_ext (fun _ _ => rfl) (fun _ _ => rfl) (fun _ _ => rfl) (fun j _ => ?_) (fun _ _ => rfl)
      by_cases e : j = i
      · subst e; rw [at_, htt, here]; rfl
      · rcases Nat.lt_or_gt_of_ne e with h | h
        · exact low j h
        · exact up j h
    | true =>
      rw [hc] at htt
      have hmn : min ((s.ti i : Nat) : Int) 20 = ((min (s.ti i) 20 : Nat) : Int) := by omega
      have st1 := fun t : Sta => set_t t iN (min (s.ti i) 20)
      have st := stl_t s iN
      simp (disch := first | assumption | omega | (simp only [LN] <;> omega) | (simp (disch := first | assumption | omega | (simp only [LN] <;> omega)) only [row_alloc, row_set]; assumption)) only [W_block, P3, ↓reduceIte, reduceAdd, reduceEqDiff, reduceCtorEq, initFr, reduceLT, clsA, reduceLeDiff, reduceMul, reduceSub, reduceIte, hw, e0, e2, gs, ga, st, a_mmn, hmn, a_iaddrp, stl_len, st1, hll, Int.toNat_natCast, Nat.mul_one]
      refine hn' _ _ _ ⟨i + 1, _, _, rfl, cK.trans (Chg.set K haK _) (by simp), ?_, by omega, rfl⟩ (by omega)
      rw [AHeap.get_set_same ga]
      congr 2
      refine stl_ext (fun _ _ => rfl) (fun _ _ => rfl) (fun _ _ => rfl) (fun j _ => ?_) (fun _ _ => rfl)
      show upd _ _ _ j = _
      unfold upd
      by_cases e : j = i
      · subst e; rw [if_pos rfl, at_, htt]; rfl
      · rw [if_neg e]
        rcases Nat.lt_or_gt_of_ne e with h | h
        · exact low j h
        · exact up j h
  · have e1 : ¬ ((i : Nat) : Int) < ((L.r.length : Nat) : Int) := by omega
    have hie : i = L.r.length := by omega
    subst hie
    have ex : stl (tidD s L L.r.length) = stl (tidyS L s) := stl_ext (fun _ _ => rfl) (fun _ _ => rfl) (fun _ _ => rfl) (fun j hj => by
      show (if j < L.r.length then _ else _) = (if _ then _ else _)
      by_cases h : j < L.r.length
      · rw [if_pos h]; rfl
      · rw [if_neg h]
        have : lowP (L.r.length : Nat) j = false := by simp [lowP]; omega
        rw [this]; simp) (fun _ _ => rfl)
    rw [ex] at ga
    simp (disch := first | assumption | omega | (simp only [LN] <;> omega) | (simp (disch := first | assumption | omega | (simp only [LN] <;> omega)) only [row_alloc, row_set]; assumption)) only [W_block, P3, ↓reduceIte, reduceAdd, reduceEqDiff, reduceCtorEq, initFr, reduceLT, clsA, reduceLeDiff, reduceMul, reduceSub, reduceIte, gl, ir, lenr, e1]
    refine hx' _ _ _ ?_
    simp (disch := first | assumption | omega | (simp only [LN] <;> omega) | (simp (disch := first | assumption | omega | (simp only [LN] <;> omega)) only [row_alloc, row_set]; assumption)) only [W_block, P3, ↓reduceIte, reduceAdd, reduceEqDiff, reduceCtorEq, initFr, reduceLT, clsA, reduceLeDiff, reduceMul, reduceSub, reduceIte, ga, gw, rng68, stn68s]
    refine hq2 _ _ ⟨.agg (stl (tidyS L s)).toArray, ?_, rfl, (kH1.chg_trans cK (by simp; omega)).set (by omega) hw2 _⟩
    show resO [.cn 68 4] _ _ = _
    rw [resC]
    show celln 68 (ptr (H.n + 2) 0) _ = _
    rw [cellnp, rangeA_e, AHeap.get_set_same gw, rng68]; rfl
end Go.AM.Fd

set_option linter.unusedSimpArgs false
set_option linter.unusedVariables false
set_option maxRecDepth 8000
namespace Go.AM.Fd
open Nat (reduceAdd reduceEqDiff reduceLT reduceLeDiff reduceMul reduceSub)
open Go.Proofs Go.AM.F
theorem all_snoc {p : Nat → Bool} {i : Nat} (h : (List.range i).all p = true) (h2 : p i = true) : (List.range (i + 1)).all p = true := by
  rw [List.range_succ, List.all_append, h]; simp [h2]
theorem all_at {p : Nat → Bool} {n i : Nat} (hi : i < n) (h : p i = false) : (List.range n).all p = false :=
  List.all_eq_false.2 ⟨i, List.mem_range.2 hi, by simp [h]⟩
end Go.AM.Fd

set_option linter.unusedSimpArgs false
set_option linter.unusedVariables false
set_option maxRecDepth 8000
namespace Go.AM.Fd
open Nat (reduceAdd reduceEqDiff reduceLT reduceLeDiff reduceMul reduceSub)
open Go.Proofs Go.AM.F
theorem s_shr32 (f : Nat → Bool) : binA .shr (S64 f) (.int .u64 32) = some (S64 fun i => decide (i + 32 < 64) && f (i + 32)) := by
  have h := s_shr f 32
  unfold S64 at h ⊢
  rw [b_shr .u64 _ ((32 : Nat) : Int) .i64 (by omega)] at h
  rw [b_shr .u64 _ 32 .u64 (by omega)]
  exact h
theorem one_low {m : Nat} (hm : m ≤ 64) (n : Int) : none64 (fun j => oneP n j && lowP (m : Int) j) = !(decide (0 ≤ n) && decide (n < (m : Int))) := by
  unfold none64
  rw [Bool.eq_iff_iff, List.all_eq_true]
  simp only [oneP, lowP, List.mem_range, Bool.not_eq_true', Bool.and_eq_false_iff, decide_eq_false_iff_not]
  constructor
  · intro h
    by_cases h0 : 0 ≤ n
    · right
      intro h1
      rcases h n.toNat (by omega) with h2 | h2
      · exact h2 (by omega)
      · exact h2 (by omega)
    · exact .inl h0
  · intro h i hi
    by_cases e : (i : Int) = n
    · right; omega
    · exact .inl e
def turnP (L : Ly) (s : Sta) (i p : Nat) : Bool := (nor L i p && s.po p) || (rev L i p && !s.po p)
def setC (L : Ly) (oc : Nat → Bool) (s : Sta) (i : Nat) : Bool := none64 (fun j => s.lo j && (oneP (i : Nat) j || tabP L i j)) && none64 (fun j => oc j && (trP (ro L i) j || lieU L (turnP L s i) j))
def cancC (s : Sta) (i : Nat) : Bool := !none64 (fun j => ((oneP (i : Nat) j && s.lo j) && !s.us j) && !s.ca j)
def ptP (L : Ly) (n : Int) (j : Nat) : Bool := oneP n j && lowP L.p.length j
def moveC (L : Ly) (oc : Nat → Bool) (s : Sta) (n : Int) : Bool := none64 (fun i => decide (i + 32 < 64) && oneP n (i + 32)) && (!none32 (fun j => ptP L n j && !(anyR L s.lo (nor L) j || anyR L s.lo (rev L) j)) && none64 (fun j => lieU L (ptP L n) j && oc j))
def setS (L : Ly) (s : Sta) (i : Nat) : Sta := { s with lo := fun j => s.lo j || oneP (i : Nat) j, po := fun p => s.po p ^^ turnP L s i p }
def cancS (L : Ly) (oc : Nat → Bool) (s : Sta) (i : Nat) : Sta := { s with ca := fun j => s.ca j || oneP (i : Nat) j, ti := upd s.ti i (if !none64 (fun j => ahP L (ro L i) j && oc j) then 20 else 0) }
def moveS (L : Ly) (s : Sta) (n : Int) : Sta := { s with po := fun j => s.po j ^^ ptP L n j }
def comB (L : Ly) (oc : Nat → Bool) (s : Sta) (kd n : Int) : Sta :=
  if kd = 1 then (if 0 ≤ n ∧ n < L.r.length then (if setC L oc s n.toNat then setS L s n.toNat else s) else s)
  else if kd = 2 then (if 0 ≤ n ∧ n < L.r.length then (if cancC s n.toNat then cancS L oc s n.toNat else s) else s)
  else if kd = 3 then (if moveC L oc s n then moveS L s n else s)
  else s
theorem upd_upd (t : Nat → Nat) (i a b : Nat) : upd (upd t i a) i b = upd t i b := by
  funext j; unfold upd; split <;> rfl
set_option maxHeartbeats 4000000 in
theorem t30 {K0 H : AHeap} {b sb : Nat} {L : Ly} {s : Sta} {oc : Nat → Bool} {kd n : Int} {r : Bool} {T : Nat} (h : MaR K0 b L) (k0 : Keeps K0 H) (hsb : K0.n ≤ sb) (lr : L.r.length ≤ 64) (lp : L.p.length ≤ 32)
    (gs : H.get sb = some (.cells true r 68 (stl s) T)) :
    ∃ w H', ARun Go.Proofs.Try.prog 0 30 [ptr b 0, ptr sb 0, S64 oc, .agg #[.int .u8 kd, .int .i64 n]] H w H' ∧ Chg [sb] H H' ∧ H'.get sb = some (.cells true r 68 (stl (comB L oc s kd n)) T) := by
  refine walk2 f30_ok f30_n ?_
  intro Q hq1 hq2
  have hM := h
  obtain ⟨vr, vl, own, room, TT, gb0, ms0⟩ := h
  have hb0 := AHeap.get_lt gb0
  have hs0 := AHeap.get_lt gs
  have bsb : b ≠ sb := by omega
  obtain ⟨K, hK⟩ : ∃ X, X = H.alloc (.cells true false 2 [.int .u8 kd, .int .i64 n] 70) := ⟨_, rfl⟩
  have kK : Keeps H K := by rw [hK]; exact (Keeps.refl H).alloc _
  have gc : K.get H.n = some (.cells true false 2 [.int .u8 kd, .int .i64 n] 70) := by rw [hK]; exact AHeap.get_alloc_new H _
  have gsK := kK.at_ gs
  have gb := (k0.trans kK).at_ gb0
  have msK := ms0.keeps (k0.trans kK)
  have r1 := Sl.one ms0.r
  have l1 := Sl.one ms0.l
  have hsK := AHeap.get_lt gsK
  have hcn : H.n < K.n := AHeap.get_lt gc
  have hnsb : H.n ≠ sb := by omega
  have cK : Chg [sb] H K := kK.chg _
  unfold mcells at gb
  have one := t66z (H := K) n
  simp (disch := first | assumption | omega | (simp only [LN] <;> omega) | (simp (disch := first | assumption | omega | (simp only [LN] <;> omega)) only [row_alloc, row_set]; assumption)) only [f30, W_block, P3, ↓reduceIte, reduceAdd, reduceEqDiff, reduceCtorEq, initFr, reduceLT, clsA, reduceLeDiff, reduceMul, reduceSub, reduceIte]
  rw [← hK]
  refine callK one ?_
  rintro _ X ⟨rfl, hX⟩
  rw [hX]
  have skip : comB L oc s kd n = s → ∀ {fr : List Value}, Q .normal fr K := fun e fr => hq1 _ _ ⟨_, rfl, cK, by rw [e]; exact gsK⟩
  have skipr : comB L oc s kd n = s → ∀ {fr : List Value}, Q .ret fr K := fun e fr => hq2 _ _ ⟨_, rfl, cK, by rw [e]; exact gsK⟩
  have hol := one_low lr n
  by_cases k1 : kd = 1
  · subst k1
    by_cases hn : 0 ≤ n ∧ n < L.r.length
    · obtain ⟨i, rfl⟩ : ∃ i : Nat, n = (i : Int) := ⟨n.toNat, by omega⟩
      have hi : i < L.r.length := by omega
      have hol' : none64 (fun j => oneP (i : Int) j && lowP ((L.r.length : Nat) : Int) j) = false := by rw [hol]; simp [hi]
      obtain ⟨na, ra⟩ := (msK.r).at_ (by omega) (i := i) (by rw [mrows_len]; exact hi)
      rw [mrows_at hi] at ra
      have len := msK.r.len
      rw [mrows_len] at len
      have e0 : (0 : Int) ≤ (i : Int) := by omega
      have e1 : (i : Int) < ((L.r.length : Nat) : Int) := by omega
      obtain ⟨K2, hK2⟩ : ∃ X, X = K.alloc (.cells true false 6 (mrow L i) 89) := ⟨_, rfl⟩
      have kK2 : Keeps K K2 := by rw [hK2]; exact (Keeps.refl K).alloc _
      have gx : K2.get K.n = some (.cells true false 6 (mrow L i) 89) := by rw [hK2]; exact AHeap.get_alloc_new K _
      have hM2 : MaR K2 b L := hM.keeps ((k0.trans kK).trans kK2)
      have gc2 := kK2.at_ gc
      have gs2 := kK2.at_ gsK
      have gb2 := kK2.at_ gb
      have hs2 := AHeap.get_lt gs2
      have cK2 := cK.trans (kK2.chg [sb]) (by simp)
      unfold mrow at ra hK2 gx
      have hbK := AHeap.get_lt gb
      have eC : comB L oc s 1 (i : Int) = if setC L oc s i then setS L s i else s := by unfold comB; rw [if_pos rfl, if_pos hn]; rfl
      unfold setC setS turnP nor rev at eC
      have tL := t67 hM2 lp (turnP L s i)
      unfold turnP nor rev at tL
      cases h1 : none64 (fun j => s.lo j && (oneP (i : Int) j || tabP L i j)) with
      | false =>
        rw [h1] at eC
        simp (disch := first | assumption | omega | (simp only [LN] <;> omega) | (simp (disch := first | assumption | omega | (simp only [LN] <;> omega)) only [row_alloc, row_set]; assumption)) only [W_block, P3, ↓reduceIte, reduceAdd, reduceEqDiff, reduceCtorEq, initFr, reduceLT, clsA, reduceLeDiff, reduceMul, reduceSub, reduceIte, gc, gb, gsK, hsK, hbK, hcn, stl_0, stl_67, s_and, s_or, p_and, p_andn, p_or, s_eq0, hol', h1, len, na, ra, e0, e1, a_loadnvf, o_s64, o_s32, one_s64, one_s32]
        simp only [← hK2]
        exact hq1 _ _ ⟨_, rfl, cK2, by rw [eC]; simpa using gs2⟩
      | true =>
        rw [h1] at eC
        simp (disch := first | assumption | omega | (simp only [LN] <;> omega) | (simp (disch := first | assumption | omega | (simp only [LN] <;> omega)) only [row_alloc, row_set]; assumption)) only [W_block, P3, ↓reduceIte, reduceAdd, reduceEqDiff, reduceCtorEq, initFr, reduceLT, clsA, reduceLeDiff, reduceMul, reduceSub, reduceIte, gc, gb, gsK, hsK, hbK, hcn, stl_0, stl_67, s_and, s_or, p_and, p_andn, p_or, s_eq0, hol', h1, len, na, ra, e0, e1, a_loadnvf, o_s64, o_s32, one_s64, one_s32]
        simp only [← hK2]
        refine callK tL ?_
        rintro _ X ⟨rfl, hX⟩
        rw [hX]
        have g3 : ∀ o, (K2.set sb o).get sb = some o := fun o => AHeap.get_set_same gs2 o
        have g4 : ∀ o, (K2.set sb o).get H.n = K2.get H.n := fun o => AHeap.get_set_other K2 hnsb hs2 o
        have hw := fun o : AO => cK2.trans (Chg.set K2 hs2 o) (by simp)
        cases h2 : none64 (fun j => oc j && (trP (ro L i) j || lieU L (fun p => ndP (nds (ro L i)) false p && s.po p || ndP (nds (ro L i)) true p && !s.po p) j)) with
        | false =>
          rw [h2] at eC
          simp (disch := first | assumption | omega | (simp only [LN] <;> omega) | (simp (disch := first | assumption | omega | (simp only [LN] <;> omega)) only [row_alloc, row_set]; assumption)) only [W_block, P3, ↓reduceIte, reduceAdd, reduceEqDiff, reduceCtorEq, initFr, reduceLT, clsA, reduceLeDiff, reduceMul, reduceSub, reduceIte, gc2, gb2, gx, gs2, hs2, stl_0, stl_67, s_and, s_or, p_and, p_andn, p_or, s_eq0, h2, o_s64, o_s32, one_s64, one_s32]
          exact ⟨by simp, hq1 _ _ ⟨_, rfl, cK2, by rw [eC]; simpa using gs2⟩⟩
        | true =>
          rw [h2] at eC
          simp (disch := first | assumption | omega | (simp only [LN] <;> omega) | (simp (disch := first | assumption | omega | (simp only [LN] <;> omega)) only [row_alloc, row_set]; assumption)) only [W_block, P3, ↓reduceIte, reduceAdd, reduceEqDiff, reduceCtorEq, initFr, reduceLT, clsA, reduceLeDiff, reduceMul, reduceSub, reduceIte, gc2, gb2, gx, gs2, hs2, g3, g4, stl_len, stl_0, stl_67, set_0, set_67, s_and, s_or, p_and, p_andn, p_or, p_xor, s_eq0, h2, o_s64, o_s32, one_s64, one_s32]
          exact ⟨by simp, hq1 _ _ ⟨_, rfl, hw _, by rw [AHeap.get_set_same gs2, eC]; simp⟩⟩
    · have hol' : none64 (fun j => oneP n j && lowP ((L.r.length : Nat) : Int) j) = true := by rw [hol]; simp; omega
      simp (disch := first | assumption | omega | (simp only [LN] <;> omega) | (simp (disch := first | assumption | omega | (simp only [LN] <;> omega)) only [row_alloc, row_set]; assumption)) only [W_block, P3, ↓reduceIte, reduceAdd, reduceEqDiff, reduceCtorEq, initFr, reduceLT, clsA, reduceLeDiff, reduceMul, reduceSub, reduceIte, gc, gb, s_and, s_eq0, hol']
      exact skipr (by unfold comB; rw [if_pos rfl, if_neg hn])
  · have d1 : (kd == 1) = false := by simp [k1]
    by_cases k2 : kd = 2
    · subst k2
      by_cases hn : 0 ≤ n ∧ n < L.r.length
      · obtain ⟨i, rfl⟩ : ∃ i : Nat, n = (i : Int) := ⟨n.toNat, by omega⟩
        have hi : i < L.r.length := by omega
        have hol' : none64 (fun j => oneP (i : Int) j && lowP ((L.r.length : Nat) : Int) j) = false := by rw [hol]; simp [hi]
        obtain ⟨na, ra⟩ := (msK.r).at_ (by omega) (i := i) (by rw [mrows_len]; exact hi)
        rw [mrows_at hi] at ra
        have len := msK.r.len
        rw [mrows_len] at len
        have e0 : (0 : Int) ≤ (i : Int) := by omega
        have e1 : (i : Int) < ((L.r.length : Nat) : Int) := by omega
        obtain ⟨K2, hK2⟩ : ∃ X, X = K.alloc (.cells true false 6 (mrow L i) 89) := ⟨_, rfl⟩
        have kK2 : Keeps K K2 := by rw [hK2]; exact (Keeps.refl K).alloc _
        have gx : K2.get K.n = some (.cells true false 6 (mrow L i) 89) := by rw [hK2]; exact AHeap.get_alloc_new K _
        have hM2 : MaR K2 b L := hM.keeps ((k0.trans kK).trans kK2)
        have gc2 := kK2.at_ gc
        have gs2 := kK2.at_ gsK
        have gb2 := kK2.at_ gb
        have hs2 := AHeap.get_lt gs2
        have cK2 := cK.trans (kK2.chg [sb]) (by simp)
        unfold mrow at ra hK2 gx
        have hbK := AHeap.get_lt gb
        have eC : comB L oc s 2 (i : Int) = if cancC s i then cancS L oc s i else s := by unfold comB; rw [if_neg (by omega), if_pos rfl, if_pos hn]; rfl
        unfold cancC cancS at eC
        have i64 : (i : Int) < 64 := by omega
        have iN : i < 64 := by omega
        have hll : 3 + i < 68 := by omega
        have z0 := fun t : Sta => set_t0 t iN
        have z20 := fun t : Sta => set_t20 t iN
        have g3 : ∀ o, (K2.set sb o).get sb = some o := fun o => AHeap.get_set_same gs2 o
        have g4 : ∀ o, (K2.set sb o).get H.n = K2.get H.n := fun o => AHeap.get_set_other K2 hnsb hs2 o
        have hkn : K.n ≠ sb := by omega
        have g5 : ∀ o, (K2.set sb o).get K.n = K2.get K.n := fun o => AHeap.get_set_other K2 hkn hs2 o
        have hw := fun o : AO => cK2.trans (Chg.set K2 hs2 o) (by simp)
        cases h1 : none64 (fun j => ((oneP (i : Int) j && s.lo j) && !s.us j) && !s.ca j) with
        | true =>
          rw [h1] at eC
          simp (disch := first | assumption | omega | (simp only [LN] <;> omega) | (simp (disch := first | assumption | omega | (simp only [LN] <;> omega)) only [row_alloc, row_set]; assumption)) only [W_block, P3, ↓reduceIte, reduceAdd, reduceEqDiff, reduceCtorEq, initFr, reduceLT, clsA, reduceLeDiff, reduceMul, reduceSub, reduceIte, gc, gb, gsK, hsK, hbK, hcn, stl_0, stl_1, stl_2, stl_67, s_and, s_or, s_andn, p_and, p_andn, p_or, s_eq0, s_ne0, hol', h1, len, na, ra, e0, e1, a_loadnvf, o_s64, o_s32, one_s64, one_s32]
          simp only [← hK2]
          exact hq1 _ _ ⟨_, rfl, cK2, by rw [eC]; simpa using gs2⟩
        | false =>
          rw [h1] at eC
          cases h2 : none64 (fun j => ahP L (ro L i) j && oc j) with
          | true =>
            rw [h2] at eC
            simp (disch := first | assumption | omega | (simp only [LN] <;> omega) | (simp (disch := first | assumption | omega | (simp only [LN] <;> omega)) only [row_alloc, row_set]; assumption)) only [W_block, P3, ↓reduceIte, reduceAdd, reduceEqDiff, reduceCtorEq, initFr, reduceLT, clsA, reduceLeDiff, reduceMul, reduceSub, reduceIte, gc, gb, gsK, hsK, hbK, hcn, stl_0, stl_1, stl_2, stl_67, set_2, z0, stl_len, s_and, s_or, s_andn, p_and, p_andn, p_or, s_eq0, s_ne0, hol', h1, h2, len, na, ra, e0, e1, i64, hll, a_iaddrp, Int.toNat_natCast, Nat.mul_one, a_loadnvf, o_s64, o_s32, one_s64, one_s32]
            exact hq1 _ _ ⟨_, rfl, (cK.trans (Chg.set K hsK _) (by simp)).alloc _, ((Keeps.refl _).alloc _).at_ (by rw [AHeap.get_set_same gsK, eC]; simp)⟩
          | false =>
            rw [h2] at eC
            simp (disch := first | assumption | omega | (simp only [LN] <;> omega) | (simp (disch := first | assumption | omega | (simp only [LN] <;> omega)) only [row_alloc, row_set]; assumption)) only [W_block, P3, ↓reduceIte, reduceAdd, reduceEqDiff, reduceCtorEq, initFr, reduceLT, clsA, reduceLeDiff, reduceMul, reduceSub, reduceIte, gc, gb, gsK, hsK, hbK, hcn, stl_0, stl_1, stl_2, stl_67, set_2, z0, z20, stl_len, s_and, s_or, s_andn, p_and, p_andn, p_or, s_eq0, s_ne0, hol', h1, h2, len, na, ra, e0, e1, i64, hll, a_iaddrp, Int.toNat_natCast, Nat.mul_one, a_loadnvf, o_s64, o_s32, one_s64, one_s32]
            exact hq1 _ _ ⟨_, rfl, (cK.trans (Chg.set K hsK _) (by simp)).alloc _, ((Keeps.refl _).alloc _).at_ (by rw [AHeap.get_set_same gsK, eC]; simp [upd_upd])⟩
      · have hol' : none64 (fun j => oneP n j && lowP ((L.r.length : Nat) : Int) j) = true := by rw [hol]; simp; omega
        simp (disch := first | assumption | omega | (simp only [LN] <;> omega) | (simp (disch := first | assumption | omega | (simp only [LN] <;> omega)) only [row_alloc, row_set]; assumption)) only [W_block, P3, ↓reduceIte, reduceAdd, reduceEqDiff, reduceCtorEq, initFr, reduceLT, clsA, reduceLeDiff, reduceMul, reduceSub, reduceIte, gc, gb, s_and, s_eq0, hol']
        exact skipr (by unfold comB; rw [if_neg (by omega), if_pos rfl, if_neg hn])
    · have d2 : (kd == 2) = false := by simp [k2]
      by_cases k3 : kd = 3
      · subst k3
        have hbK := AHeap.get_lt gb
        have eC : comB L oc s 3 n = if moveC L oc s n then moveS L s n else s := by unfold comB; rw [if_neg (by omega), if_neg (by omega), if_pos rfl]
        unfold moveC moveS at eC
        have tN := t25 (f := s.lo) msK lr
        have tL := t67 (hM.keeps (k0.trans kK)) lp (ptP L n)
        unfold mcells at tN
        unfold ptP at tL eC
        simp (disch := first | assumption | omega | (simp only [LN] <;> omega) | (simp (disch := first | assumption | omega | (simp only [LN] <;> omega)) only [row_alloc, row_set]; assumption)) only [W_block, P3, ↓reduceIte, reduceAdd, reduceEqDiff, reduceCtorEq, initFr, reduceLT, clsA, reduceLeDiff, reduceMul, reduceSub, reduceIte, gc, gb, gsK, r1, l1, stl_0]
        refine callK tN ?_
        rintro _ X ⟨rfl, hX⟩
        rw [hX]
        cases h1 : none64 (fun i => decide (i + 32 < 64) && oneP n (i + 32)) with
        | false =>
          rw [h1] at eC
          simp (disch := first | assumption | omega | (simp only [LN] <;> omega) | (simp (disch := first | assumption | omega | (simp only [LN] <;> omega)) only [row_alloc, row_set]; assumption)) only [W_block, P3, ↓reduceIte, reduceAdd, reduceEqDiff, reduceCtorEq, initFr, reduceLT, clsA, reduceLeDiff, reduceMul, reduceSub, reduceIte, gc, gb, gsK, r1, l1, stl_0, s_down, p_and, s_shr32, s_eq0, h1]
          exact hq1 _ _ ⟨_, rfl, cK, by rw [eC]; simpa using gsK⟩
        | true =>
          rw [h1] at eC
          cases h2 : none32 (fun j => (oneP n j && lowP ((L.p.length : Nat) : Int) j) && !(anyR L s.lo (nor L) j || anyR L s.lo (rev L) j)) with
          | true =>
            rw [h2] at eC
            simp (disch := first | assumption | omega | (simp only [LN] <;> omega) | (simp (disch := first | assumption | omega | (simp only [LN] <;> omega)) only [row_alloc, row_set]; assumption)) only [W_block, P3, ↓reduceIte, reduceAdd, reduceEqDiff, reduceCtorEq, initFr, reduceLT, clsA, reduceLeDiff, reduceMul, reduceSub, reduceIte, gc, gb, gsK, r1, l1, stl_0, s_down, p_and, p_or, p_andn, p_ne0, s_shr32, s_eq0, h1, h2]
            exact hq1 _ _ ⟨_, rfl, cK, by rw [eC]; simpa using gsK⟩
          | false =>
            rw [h2] at eC
            simp (disch := first | assumption | omega | (simp only [LN] <;> omega) | (simp (disch := first | assumption | omega | (simp only [LN] <;> omega)) only [row_alloc, row_set]; assumption)) only [W_block, P3, ↓reduceIte, reduceAdd, reduceEqDiff, reduceCtorEq, initFr, reduceLT, clsA, reduceLeDiff, reduceMul, reduceSub, reduceIte, gc, gb, gsK, r1, l1, stl_0, s_down, p_and, p_or, p_andn, p_ne0, s_shr32, s_eq0, h1, h2]
            refine callK tL ?_
            rintro _ X ⟨rfl, hX⟩
            rw [hX]
            cases h3 : none64 (fun j => lieU L (fun j => oneP n j && lowP ((L.p.length : Nat) : Int) j) j && oc j) with
            | false =>
              rw [h3] at eC
              simp (disch := first | assumption | omega | (simp only [LN] <;> omega) | (simp (disch := first | assumption | omega | (simp only [LN] <;> omega)) only [row_alloc, row_set]; assumption)) only [W_block, P3, ↓reduceIte, reduceAdd, reduceEqDiff, reduceCtorEq, initFr, reduceLT, clsA, reduceLeDiff, reduceMul, reduceSub, reduceIte, gsK, s_and, s_eq0, h3]
              exact hq1 _ _ ⟨_, rfl, cK, by rw [eC]; simpa using gsK⟩
            | true =>
              rw [h3] at eC
              simp (disch := first | assumption | omega | (simp only [LN] <;> omega) | (simp (disch := first | assumption | omega | (simp only [LN] <;> omega)) only [row_alloc, row_set]; assumption)) only [W_block, P3, ↓reduceIte, reduceAdd, reduceEqDiff, reduceCtorEq, initFr, reduceLT, clsA, reduceLeDiff, reduceMul, reduceSub, reduceIte, gsK, s_and, s_eq0, h3, stl_67, set_67, stl_len, p_xor, o_s32, one_s32]
              exact hq1 _ _ ⟨_, rfl, cK.trans (Chg.set K hsK _) (by simp), by rw [AHeap.get_set_same gsK, eC]; simp⟩
      · have d3 : (kd == 3) = false := by simp [k3]
        simp (disch := first | assumption | omega | (simp only [LN] <;> omega) | (simp (disch := first | assumption | omega | (simp only [LN] <;> omega)) only [row_alloc, row_set]; assumption)) only [W_block, P3, ↓reduceIte, reduceAdd, reduceEqDiff, reduceCtorEq, initFr, reduceLT, clsA, reduceLeDiff, reduceMul, reduceSub, reduceIte, gc, d1, d2, d3]
        exact skip (by unfold comB; rw [if_neg k1, if_neg k2, if_neg k3])
end Go.AM.Fd
