/- Part of the proof. -/
import Derived.Test.YtfneppahknoaoaaDoorGLB05
set_option linter.unusedSimpArgs false
set_option linter.unusedVariables false
set_option linter.unusedSimpArgs false
set_option linter.unusedVariables false
namespace Go.AM.Fd
open Nat (reduceAdd reduceEqDiff reduceLT reduceLeDiff reduceMul reduceSub)
open Go.Proofs Go.AM.F
set_option maxHeartbeats 4000000 in
theorem t11 {H : AHeap} {u u' : V4} {xs xs' : List RV} {L : Ly} (ha : LyR H u xs L) (hb : LyR H u' xs' L) (hf : LyIn 9223372036854775807 L) :
    ∃ w H', ARun Go.Proofs.Tryd.prog 4 11 [.agg u.l.toArray, .agg u'.l.toArray] H w H' ∧ w = .bool true ∧ Keeps H H' := by
  refine walk2 f11_ok f11_n ?_
  intro Q hq1 hq2
  have o1 := ly_ones ha
  have o2 := ly_ones hb
  have k0 : Keeps H ((H.alloc (lO u.l)).alloc (lO u'.l)) := ((Keeps.refl H).alloc _).alloc _
  have g1 : ((H.alloc (lO u.l)).alloc (lO u'.l)).get H.n = some (.cells true false 4 u.l 28) := (AHeap.get_alloc_old _ _ (by simp [AHeap.alloc])).trans (AHeap.get_alloc_new _ _)
  have g2 : ((H.alloc (lO u.l)).alloc (lO u'.l)).get (H.n + 1) = some (.cells true false 4 u'.l 28) := AHeap.get_alloc_new _ _
  have a1 := ha.keeps k0
  have b1 := hb.keeps k0
  simp only [lO] at k0 g1 g2 a1 b1
  have ll : ∀ u : V4, u.l.length = 4 := fun _ => rfl
  have s1 := Sl.is ha.p
  have s2 := Sl.is hb.p
  have s3 := Sl.is ha.g
  have s4 := Sl.is hb.g
  have s5 := Sl.is ha.r
  have s6 := Sl.is hb.r
  have l1 := ha.p.len
  have l2 := hb.p.len
  have l3 := ha.g.len
  have l4 := hb.g.len
  have l5 : lenS u.r = L.r.length := by rw [ha.r.len, ha.rlen]
  have l6 : lenS u'.r = L.r.length := by rw [hb.r.len, hb.rlen]
  have ne1 : ∀ n : Int, (n != n) = false := fun n => bnei_no rfl
  obtain ⟨us, up, ug, ur⟩ := u
  obtain ⟨vs, vp, vg, vr⟩ := u'
  simp only [V4.l] at *
  simp (disch := first | assumption | omega | (simp only [LN] <;> omega) | (simp (disch := first | assumption | omega | (simp only [LN] <;> omega)) only [row_alloc, row_set]; assumption)) only [f11, W_block, P3, ↓reduceIte, reduceAdd, reduceEqDiff, reduceCtorEq, initFr, reduceLT, clsA, reduceLeDiff, reduceMul, reduceSub, reduceIte, o1, o2]
  generalize (H.alloc (.cells true false 4 [us, up, ug, ur] 28)).alloc (.cells true false 4 [vs, vp, vg, vr] 28) = K0 at *
  have n1 := AHeap.get_lt g1
  have n2 := AHeap.get_lt g2
  refine callK (t24 a1.s b1.s hf.s.1) ?_
  rintro _ X ⟨rfl, hX⟩
  rw [hX, decide_eq_true rfl]
  simp (disch := first | assumption | omega | (simp only [LN] <;> omega) | (simp (disch := first | assumption | omega | (simp only [LN] <;> omega)) only [row_alloc, row_set]; assumption)) only [ P3, ↓reduceIte, reduceAdd, reduceEqDiff, reduceCtorEq, initFr, reduceLT, clsA, reduceLeDiff, reduceMul, reduceSub, reduceIte, g1, g2, l1, l2, l3, l4, l5, l6, ne1]
  rw [W_block]
  refine W_loop2 (fun k fr K => ∃ i x6 x7 x9 x10 x11 x12 x13 x14, fr = [.agg #[us, up, ug, ur], .agg #[vs, vp, vg, vr], ptr H.n 0, ptr (H.n + 1) 0, .bool false, .int .i64 ((i : Nat) : Int), x6, x7, .bool false, x9, x10, x11, x12, x13, x14] ∧ K0 = K ∧ i ≤ L.p.length ∧ k = L.p.length - i) L.p.length
    ⟨0, _, _, _, _, _, _, _, _, rfl, rfl, by omega, rfl⟩ ?_
  rintro Q5 k fr K ⟨i, x6, x7, x9, x10, x11, x12, x13, x14, rfl, rfl, hi, rfl⟩ hn hx hret
  by_cases hlt : i < L.p.length
  · obtain ⟨na, ra⟩ := a1.p.at_ hlt
    obtain ⟨nb, rb⟩ := b1.p.at_ hlt
    have h0 : (0 : Int) ≤ (i : Int) := by omega
    have h1 : (i : Int) < ((lenS up : Nat) : Int) := by omega
    have h2 : (i : Int) < ((lenS vp : Nat) : Int) := by omega
    have h3 : (i : Int) < ((L.p.length : Nat) : Int) := by omega
    have hfl := hf.p.1
    have hw : IntKind.i64.wrap ((i : Int) + 1) = ((i + 1 : Nat) : Int) := by rw [wrap_i64 (by omega) (by omega)]; simp
    simp (disch := first | assumption | omega | (simp only [LN] <;> omega) | (simp (disch := first | assumption | omega | (simp only [LN] <;> omega)) only [row_alloc, row_set]; assumption)) only [W_block, P3, ↓reduceIte, reduceAdd, reduceEqDiff, reduceCtorEq, initFr, reduceLT, clsA, reduceLeDiff, reduceMul, reduceSub, reduceIte, g1, g2, l1, l2, ra, rb, na, nb, a_loadnvf, q_si, hw]
    exact hn _ _ _ ⟨i + 1, _, _, _, _, _, _, _, _, rfl, rfl, by omega, rfl⟩ (by omega)
  have h3 : ¬ (i : Int) < ((L.p.length : Nat) : Int) := by omega
  simp (disch := first | assumption | omega | (simp only [LN] <;> omega) | (simp (disch := first | assumption | omega | (simp only [LN] <;> omega)) only [row_alloc, row_set]; assumption)) only [W_block, P3, ↓reduceIte, reduceAdd, reduceEqDiff, reduceCtorEq, initFr, reduceLT, clsA, reduceLeDiff, reduceMul, reduceSub, reduceIte, g1, g2, l1]
  refine hx 0 _ _ ?_
  clear hn hx hret
  simp (disch := first | assumption | omega | (simp only [LN] <;> omega) | (simp (disch := first | assumption | omega | (simp only [LN] <;> omega)) only [row_alloc, row_set]; assumption)) only [ P3, ↓reduceIte, reduceAdd, reduceEqDiff, reduceCtorEq, initFr, reduceLT, clsA, reduceLeDiff, reduceMul, reduceSub, reduceIte]
  rw [W_block]
  refine W_loop2 (fun k fr K => ∃ i x5 x7 x9 x10 x11 x12 x13 x14, fr = [.agg #[us, up, ug, ur], .agg #[vs, vp, vg, vr], ptr H.n 0, ptr (H.n + 1) 0, .bool false, x5, .int .i64 ((i : Nat) : Int), x7, .bool false, x9, x10, x11, x12, x13, x14] ∧ K0 = K ∧ i ≤ L.g.length ∧ k = L.g.length - i) L.g.length
    ⟨0, _, _, _, _, _, _, _, _, rfl, rfl, by omega, rfl⟩ ?_
  rintro Q6 k fr K ⟨i, x5, x7, x9, x10, x11, x12, x13, x14, rfl, rfl, hi, rfl⟩ hn hx hret
  by_cases hlt : i < L.g.length
  · obtain ⟨na, ra⟩ := a1.g.at_ hlt
    obtain ⟨nb, rb⟩ := b1.g.at_ hlt
    have h0 : (0 : Int) ≤ (i : Int) := by omega
    have h1 : (i : Int) < ((lenS ug : Nat) : Int) := by omega
    have h2 : (i : Int) < ((lenS vg : Nat) : Int) := by omega
    have h3 : (i : Int) < ((L.g.length : Nat) : Int) := by omega
    have hfl := hf.g.1
    have hw : IntKind.i64.wrap ((i : Int) + 1) = ((i + 1 : Nat) : Int) := by rw [wrap_i64 (by omega) (by omega)]; simp
    simp (disch := first | assumption | omega | (simp only [LN] <;> omega) | (simp (disch := first | assumption | omega | (simp only [LN] <;> omega)) only [row_alloc, row_set]; assumption)) only [W_block, P3, ↓reduceIte, reduceAdd, reduceEqDiff, reduceCtorEq, initFr, reduceLT, clsA, reduceLeDiff, reduceMul, reduceSub, reduceIte, g1, g2, l3, l4, ra, rb, na, nb, a_loadnvf, q_si, hw]
    exact hn _ _ _ ⟨i + 1, _, _, _, _, _, _, _, _, rfl, rfl, by omega, rfl⟩ (by omega)
  have h3 : ¬ (i : Int) < ((L.g.length : Nat) : Int) := by omega
  simp (disch := first | assumption | omega | (simp only [LN] <;> omega) | (simp (disch := first | assumption | omega | (simp only [LN] <;> omega)) only [row_alloc, row_set]; assumption)) only [W_block, P3, ↓reduceIte, reduceAdd, reduceEqDiff, reduceCtorEq, initFr, reduceLT, clsA, reduceLeDiff, reduceMul, reduceSub, reduceIte, g1, g2, l3]
  refine hx 2 _ _ ?_
  clear hn hx hret
  simp (disch := first | assumption | omega | (simp only [LN] <;> omega) | (simp (disch := first | assumption | omega | (simp only [LN] <;> omega)) only [row_alloc, row_set]; assumption)) only [ P3, ↓reduceIte, reduceAdd, reduceEqDiff, reduceCtorEq, initFr, reduceLT, clsA, reduceLeDiff, reduceMul, reduceSub, reduceIte]
  rw [W_block]
  refine W_loop2 (fun k fr K => ∃ i x5 x6 x9 x10 x11 x12 x13 x14, fr = [.agg #[us, up, ug, ur], .agg #[vs, vp, vg, vr], ptr H.n 0, ptr (H.n + 1) 0, .bool false, x5, x6, .int .i64 ((i : Nat) : Int), .bool false, x9, x10, x11, x12, x13, x14] ∧ Keeps K0 K ∧ i ≤ L.r.length ∧ k = L.r.length - i) L.r.length
    ⟨0, _, _, _, _, _, _, _, _, rfl, Keeps.refl _, by omega, rfl⟩ ?_
  rintro Q7 k fr K ⟨i, x5, x6, x9, x10, x11, x12, x13, x14, rfl, kk, hi, rfl⟩ hn hx hret
  have g1k := kk.at_ g1
  have g2k := kk.at_ g2
  by_cases hlt : i < L.r.length
  · have hlt1 : i < xs.length := by rw [ha.rlen]; exact hlt
    have hlt2 : i < xs'.length := by rw [hb.rlen]; exact hlt
    obtain ⟨na, ra⟩ := RL.at_ (a1.keeps kk).r hlt1
    obtain ⟨nb, rb⟩ := RL.at_ (b1.keeps kk).r hlt2
    obtain ⟨xok, xr⟩ := (a1.keeps kk).rat hlt
    obtain ⟨yok, yr⟩ := (b1.keeps kk).rat hlt
    have h0 : (0 : Int) ≤ (i : Int) := by omega
    have h1 : (i : Int) < ((lenS ur : Nat) : Int) := by omega
    have h2 : (i : Int) < ((lenS vr : Nat) : Int) := by omega
    have h3 : (i : Int) < ((L.r.length : Nat) : Int) := by omega
    have hfl := hf.r.1
    obtain ⟨f1, f2, f3, f4, f5⟩ := hf.r.2 _ (getD_mem (d := rv0.r) hlt)
    rw [← xr] at f1 f2 f3 f4 f5
    have hw : IntKind.i64.wrap ((i : Int) + 1) = ((i + 1 : Nat) : Int) := by rw [wrap_i64 (by omega) (by omega)]; simp
    have exy := xr.trans yr.symm
    generalize xs.getD i rv0 = x at *
    generalize xs'.getD i rv0 = y at *
    simp (disch := first | assumption | omega | (simp only [LN] <;> omega) | (simp (disch := first | assumption | omega | (simp only [LN] <;> omega)) only [row_alloc, row_set]; assumption)) only [W_block, P3, ↓reduceIte, reduceAdd, reduceEqDiff, reduceCtorEq, initFr, reduceLT, clsA, reduceLeDiff, reduceMul, reduceSub, reduceIte, g1k, g2k, l5, l6, ra, rb, na, nb, a_loadnvf]
    refine callK (t25 xok yok exy f2 f3 f4 f5) ?_
    rintro _ X ⟨rfl, kx⟩
    simp (disch := first | assumption | omega | (simp only [LN] <;> omega) | (simp (disch := first | assumption | omega | (simp only [LN] <;> omega)) only [row_alloc, row_set]; assumption)) only [W_block, P3, ↓reduceIte, reduceAdd, reduceEqDiff, reduceCtorEq, initFr, reduceLT, clsA, reduceLeDiff, reduceMul, reduceSub, reduceIte, hw]
    exact hn _ _ _ ⟨i + 1, _, _, _, _, _, _, _, _, rfl, kk.trans kx, by omega, rfl⟩ (by omega)
  have h3 : ¬ (i : Int) < ((L.r.length : Nat) : Int) := by omega
  simp (disch := first | assumption | omega | (simp only [LN] <;> omega) | (simp (disch := first | assumption | omega | (simp only [LN] <;> omega)) only [row_alloc, row_set]; assumption)) only [W_block, P3, ↓reduceIte, reduceAdd, reduceEqDiff, reduceCtorEq, initFr, reduceLT, clsA, reduceLeDiff, reduceMul, reduceSub, reduceIte, g1k, g2k, l5]
  refine hx 4 _ _ ?_
  simp (disch := first | assumption | omega | (simp only [LN] <;> omega) | (simp (disch := first | assumption | omega | (simp only [LN] <;> omega)) only [row_alloc, row_set]; assumption)) only [W_block, P3, ↓reduceIte, reduceAdd, reduceEqDiff, reduceCtorEq, initFr, reduceLT, clsA, reduceLeDiff, reduceMul, reduceSub, reduceIte]
  exact hq2 _ _ ⟨_, rfl, rfl, k0.trans kk⟩
end Go.AM.Fd

set_option linter.unusedSimpArgs false
set_option linter.unusedVariables false
namespace Go.AM.Fd
open Go.Proofs Go.AM.F
theorem ixT_cat (n : List UInt8) : ∀ (a b : List (List UInt8)), (ixT n (a ++ b)).isSome = ((ixT n a).isSome || (ixT n b).isSome)
  | [], b => by simp [ixT]
  | x :: a, b => by
    simp only [List.cons_append, ixT]
    split
    · simp
    · have := ixT_cat n a b
      cases h1 : ixT n (a ++ b) <;> cases h2 : ixT n a <;> cases h3 : ixT n b <;> simp_all
theorem nameOf_ix (L : Ly) (n : List UInt8) : (nameOf L n).isSome = (ixT n (namesL L)).isSome := by
  unfold namesL nameOf
  rw [ixT_cat, ixT_cat, ixT_cat]
  cases ixT n L.s with
  | some i => simp
  | none =>
    cases ixT n (L.p.map (·.1)) with
    | some i => simp
    | none =>
      cases ixT n (L.g.map (·.1)) with
      | some i => simp
      | none => cases ixT n (L.r.map (·.n)) <;> simp
structure Dj (L : Ly) : Prop where
  p : ∀ n, (ixT n (L.p.map (·.1))).isSome = true → ixT n L.s = none
  g : ∀ n, (ixT n (L.g.map (·.1))).isSome = true → ixT n L.s = none ∧ ixT n (L.p.map (·.1)) = none
theorem Dj.kp {L : Ly} (h : Dj L) (n : List UInt8) : kN 63 L n = pIx L n := by
  have h1 := h.p n
  unfold kN nameOf pIx
  cases hp : ixT n (L.p.map (·.1)) with
  | some i =>
    rw [hp] at h1
    rw [h1 rfl]; rfl
  | none =>
    cases hs : ixT n L.s with
    | some i => rfl
    | none =>
      cases hg : ixT n (L.g.map (·.1)) with
      | some i => rfl
      | none => cases hr : ixT n (L.r.map (·.n)) <;> rfl
theorem Dj.kg {L : Ly} (h : Dj L) (n : List UInt8) : kN 65 L n = gIx L n := by
  have h1 := h.g n
  unfold kN nameOf gIx
  cases hg : ixT n (L.g.map (·.1)) with
  | some i =>
    rw [hg] at h1
    rw [(h1 rfl).1, (h1 rfl).2]; rfl
  | none =>
    cases hs : ixT n L.s with
    | some i => rfl
    | none =>
      cases hp : ixT n (L.p.map (·.1)) with
      | some i => rfl
      | none => cases hr : ixT n (L.r.map (·.n)) <;> rfl
theorem nameOf_no {L : Ly} {n : List UInt8} (h : nameOf L n = none) : ixT n L.s = none ∧ ixT n (L.p.map (·.1)) = none ∧ ixT n (L.g.map (·.1)) = none := by
  unfold nameOf at h
  cases hs : ixT n L.s with
  | some i => rw [hs] at h; cases h
  | none =>
    cases hp : ixT n (L.p.map (·.1)) with
    | some i => rw [hs, hp] at h; cases h
    | none =>
      cases hg : ixT n (L.g.map (·.1)) with
      | some i => rw [hs, hp, hg] at h; cases h
      | none => exact ⟨rfl, rfl, rfl⟩
theorem ix_ne {n m : List UInt8} {l : List (List UInt8)} (h : ixT n l = none) (k : (ixT m l).isSome = true) : n ≠ m := fun e => by subst e; rw [h] at k; cases k
theorem Dj.addS {L : Ly} (h : Dj L) {n : List UInt8} (hn : nameOf L n = none) : Dj { L with s := L.s ++ [n] } := by
  obtain ⟨h1, h2, h3⟩ := nameOf_no hn
  refine ⟨fun m hm => ?_, fun m hm => ⟨?_, (h.g m hm).2⟩⟩
  · show ixT m (L.s ++ [n]) = none
    rw [ixT_app, h.p m hm, if_neg (ix_ne h2 hm)]
  · show ixT m (L.s ++ [n]) = none
    rw [ixT_app, (h.g m hm).1, if_neg (ix_ne h3 hm)]
theorem Dj.addP {L : Ly} (h : Dj L) {n : List UInt8} (i : Int) (hn : nameOf L n = none) : Dj { L with p := L.p ++ [(n, i)] } := by
  obtain ⟨h1, h2, h3⟩ := nameOf_no hn
  have e : (L.p ++ [(n, i)]).map (·.1) = L.p.map (·.1) ++ [n] := by simp
  refine ⟨fun m hm => ?_, fun m hm => ⟨(h.g m hm).1, ?_⟩⟩
  · have hm' : (ixT m ((L.p ++ [(n, i)]).map (·.1))).isSome = true := hm
    rw [e, ixT_app] at hm'
    cases hp : ixT m (L.p.map (·.1)) with
    | some j => exact h.p m (by rw [hp]; rfl)
    | none =>
      rw [hp] at hm'
      by_cases enm : n = m
      · subst enm; exact h1
      · simp [enm] at hm'
  · show ixT m ((L.p ++ [(n, i)]).map (·.1)) = none
    rw [e, ixT_app, (h.g m hm).2, if_neg (ix_ne h3 hm)]
theorem Dj.addG {L : Ly} (h : Dj L) {n : List UInt8} (i : Int) (hn : nameOf L n = none) : Dj { L with g := L.g ++ [(n, i)] } := by
  obtain ⟨h1, h2, h3⟩ := nameOf_no hn
  have e : (L.g ++ [(n, i)]).map (·.1) = L.g.map (·.1) ++ [n] := by simp
  refine ⟨h.p, fun m hm => ?_⟩
  have hm' : (ixT m ((L.g ++ [(n, i)]).map (·.1))).isSome = true := hm
  rw [e, ixT_app] at hm'
  cases hp : ixT m (L.g.map (·.1)) with
  | some j => exact h.g m (by rw [hp]; rfl)
  | none =>
    rw [hp] at hm'
    by_cases enm : n = m
    · subst enm; exact ⟨h1, h2⟩
    · simp [enm] at hm'
def EqL (a b : Int × Ly) : Prop := a.1 = b.1 ∧ (a.1 = 0 → a.2 = b.2 ∧ Dj a.2)
theorem EqL.err {L M : Ly} {e : Int} (h : e ≠ 0) : EqL (e, L) (e, M) := ⟨rfl, fun x => absurd x h⟩
def fulD (L : Ly) (a : Int × Ly) : Int × Ly := if a.1 = 0 then (if fullB a.2 then (3, L) else a) else (a.1, L)
theorem full_s {L : Ly} (h : LyLim L) (n : List UInt8) : fullB { L with s := L.s ++ [n] } = decide (L.s.length = 64) := by
  have h1 := h.s; have h2 := h.p; have h3 := h.g; have h4 := h.r
  simp only [fullB, List.length_append, List.length_singleton]
  by_cases e : L.s.length = 64
  · simp [e]
  · simp [e]; omega
theorem full_p {L : Ly} (h : LyLim L) (n : List UInt8 × Int) : fullB { L with p := L.p ++ [n] } = decide (L.p.length = 32) := by
  have h1 := h.s; have h2 := h.p; have h3 := h.g; have h4 := h.r
  simp only [fullB, List.length_append, List.length_singleton]
  by_cases e : L.p.length = 32
  · simp [e]
  · simp [e]; omega
theorem full_g {L : Ly} (h : LyLim L) (n : List UInt8 × Int) : fullB { L with g := L.g ++ [n] } = decide (L.g.length = 32) := by
  have h1 := h.s; have h2 := h.p; have h3 := h.g; have h4 := h.r
  simp only [fullB, List.length_append, List.length_singleton]
  by_cases e : L.g.length = 32
  · simp [e]
  · simp [e]; omega
theorem full_r {L : Ly} (h : LyLim L) (n : Ro) : fullB { L with r := L.r ++ [n] } = decide (L.r.length = 64) := by
  have h1 := h.s; have h2 := h.p; have h3 := h.g; have h4 := h.r
  simp only [fullB, List.length_append, List.length_singleton]
  by_cases e : L.r.length = 64
  · simp [e]
  · simp [e]; omega
theorem fulD_err {L M : Ly} {e : Int} (h : e ≠ 0) : fulD L (e, M) = (e, L) := by simp [fulD, h]
theorem fulD_ok {L M : Ly} : fulD L (0, M) = if fullB M then (3, L) else (0, M) := by simp [fulD]
theorem EqL.fe {L : Ly} (e : Int) (h : e ≠ 0) : EqL (e, L) (fulD L (e, L)) := by rw [fulD_err h]; exact .err h
theorem eq_routeQ {L : Ly} (hL : LyLim L) (hd : Dj L) (ws g0 g1 g2 g3 g4 : List (List UInt8)) : EqL (routeQ L ws g0 g1 g2 g3 g4) (fulD L (routeQD L ws g0 g1 g2 g3 g4)) := by
  unfold routeQ routeQD
  split
  · exact .fe 40 (by decide)
  · rw [nameOf_ix]
    split
    · exact .fe 41 (by decide)
    · rename_i hnm
      have e1 : ∀ l, oAll (kN 62 L) l = oAll (sIx L) l := fun l => oAll_congr fun x _ => kN_s L x
      have e2 : ∀ l, oAll (ne2 L) l = oAll (nIx L) l := fun l => oAll_congr fun x _ => by unfold ne2 nIx; rw [hd.kp]
      rw [e1, e1, e2, e2, hd.kg]
      cases gIx L (ws.getD 2 []) with
      | none => exact .fe 42 (by decide)
      | some s =>
      cases oAll (sIx L) g1 with
      | none => exact .fe 42 (by decide)
      | some p =>
      cases oAll (nIx L) g2 with
      | none => exact .fe 42 (by decide)
      | some q =>
      cases oAll (sIx L) g3 with
      | none => exact .fe 42 (by decide)
      | some o =>
      cases oAll (nIx L) g4 with
      | none => exact .fe 42 (by decide)
      | some f =>
      simp only
      by_cases h16 : 16 < p.length ∨ 16 < q.length ∨ 16 < o.length ∨ 16 < f.length
      · rw [if_pos (by omega), if_pos h16]; exact .fe 3 (by decide)
      · rw [if_neg h16, fulD_ok, full_r hL]
        by_cases h64 : L.r.length = 64
        · rw [if_pos (by omega), decide_eq_true h64]; exact .err (by decide)
        · rw [if_neg (by omega), decide_eq_false h64]
          exact ⟨rfl, fun _ => ⟨rfl, ⟨hd.p, hd.g⟩⟩⟩
theorem eq_route {L : Ly} (hL : LyLim L) (hd : Dj L) (ws : List (List UInt8)) : EqL (routeP L ws) (fulD L (routeD L ws)) := by
  unfold routeP routeD
  generalize groupsB ws = gs
  rcases gs with _ | ⟨g0, _ | ⟨g1, _ | ⟨g2, _ | ⟨g3, _ | ⟨g4, _ | ⟨g5, gs⟩⟩⟩⟩⟩⟩
  case cons.cons.cons.cons.cons.nil => exact eq_routeQ hL hd ws g0 g1 g2 g3 g4
  all_goals exact .fe 40 (by decide)
theorem bnone {α : Type} {o : Option α} (h : ¬ o.isSome = true) : o = none := by cases o <;> simp_all
theorem eq_sec {L : Ly} (hL : LyLim L) (hd : Dj L) (ws : List (List UInt8)) : EqL (secP L ws) (fulD L (if ws.length ≠ 2 ∨ rightB (ws.getD 1 []) = false then (40, L) else if (ixT (ws.getD 1 []) (namesL L)).isSome then (41, L) else (0, { L with s := L.s ++ [ws.getD 1 []] }))) := by
  unfold secP
  split
  · rw [fulD_err (by decide)]; exact .err (by decide)
  · rw [nameOf_ix]
    split
    · rw [fulD_err (by decide)]; exact .err (by decide)
    · rename_i hnm
      rw [← nameOf_ix] at hnm
      rw [fulD_ok, full_s hL]
      by_cases h64 : L.s.length = 64
      · rw [if_pos h64, decide_eq_true h64]; exact .err (by decide)
      · rw [if_neg h64, decide_eq_false h64]
        exact ⟨rfl, fun _ => ⟨rfl, hd.addS (bnone hnm)⟩⟩
theorem eq_point {L : Ly} (hL : LyLim L) (hd : Dj L) (ws : List (List UInt8)) (hw : ws.getD 0 [] = wPoint) : EqL (partP L ws) (fulD L (if ws.length ≠ 3 ∨ rightB (ws.getD 1 []) = false then (40, L) else if (ixT (ws.getD 1 []) (namesL L)).isSome then (41, L) else match sIx L (ws.getD 2 []) with
    | none => (42, L)
    | some i => (0, { L with p := L.p ++ [(ws.getD 1 [], i)] }))) := by
  unfold partP
  split
  · rw [fulD_err (by decide)]; exact .err (by decide)
  · rw [nameOf_ix]
    split
    · rw [fulD_err (by decide)]; exact .err (by decide)
    · rename_i hnm
      rw [← nameOf_ix] at hnm
      rw [kN_s]
      cases sIx L (ws.getD 2 []) with
      | none => simp only; rw [fulD_err (by decide)]; exact .err (by decide)
      | some i =>
        simp only [hw, if_true]
        rw [fulD_ok, full_p hL]
        by_cases h64 : L.p.length = 32
        · rw [if_pos h64, decide_eq_true h64]; exact .err (by decide)
        · rw [if_neg h64, decide_eq_false h64]
          exact ⟨rfl, fun _ => ⟨rfl, hd.addP i (bnone hnm)⟩⟩
theorem eq_signal {L : Ly} (hL : LyLim L) (hd : Dj L) (ws : List (List UInt8)) (hw : ws.getD 0 [] ≠ wPoint) : EqL (partP L ws) (fulD L (if ws.length ≠ 3 ∨ rightB (ws.getD 1 []) = false then (40, L) else if (ixT (ws.getD 1 []) (namesL L)).isSome then (41, L) else match sIx L (ws.getD 2 []) with
    | none => (42, L)
    | some i => (0, { L with g := L.g ++ [(ws.getD 1 [], i)] }))) := by
  unfold partP
  split
  · rw [fulD_err (by decide)]; exact .err (by decide)
  · rw [nameOf_ix]
    split
    · rw [fulD_err (by decide)]; exact .err (by decide)
    · rename_i hnm
      rw [← nameOf_ix] at hnm
      rw [kN_s]
      cases sIx L (ws.getD 2 []) with
      | none => simp only; rw [fulD_err (by decide)]; exact .err (by decide)
      | some i =>
        simp only [hw, if_false]
        rw [fulD_ok, full_g hL]
        by_cases h64 : L.g.length = 32
        · rw [if_pos h64, decide_eq_true h64]; exact .err (by decide)
        · rw [if_neg h64, decide_eq_false h64]
          exact ⟨rfl, fun _ => ⟨rfl, hd.addG i (bnone hnm)⟩⟩
theorem route_short {L : Ly} {ws : List (List UInt8)} (h : ws.length < 2) : routeP L ws = (40, L) := by
  unfold routeP
  split
  · rename_i g0 g1 g2 g3 g4 e
    have := (groups_mem (g := g0) (ts := ws) (by rw [e]; simp)).1
    unfold routeQ
    rw [if_pos (.inl (by omega))]
  · rfl
theorem eq_line {L : Ly} (hL : LyLim L) (hd : Dj L) (l : List UInt8) : EqL (lineP L l) (lineD L l) := by
  unfold lineP lineD
  cases hok : okW (aheadB l) with
  | false => exact .err (by decide)
  | true =>
  simp only [if_true]
  generalize wordsB (aheadB l) = ws
  unfold lineW lineDW
  by_cases h0 : ws.length = 0
  · rw [if_pos h0, if_pos h0]; exact ⟨rfl, fun _ => ⟨rfl, hd⟩⟩
  rw [if_neg h0, if_neg h0]
  have ef : (if (lineD0 L ws).1 = 0 then (if fullB (lineD0 L ws).2 then (3, L) else lineD0 L ws) else ((lineD0 L ws).1, L)) = fulD L (lineD0 L ws) := by unfold fulD; rfl
  rw [ef]
  have nR : wRoute ≠ wSection ∧ wRoute ≠ wPoint ∧ wRoute ≠ wSignal ∧ wSignal ≠ wPoint := by decide
  unfold lineD0
  by_cases hR : ws.getD 0 [] = wRoute
  · rw [if_neg (by rw [hR]; exact nR.1), if_neg (by rw [hR]; exact nR.2.1), if_neg (by rw [hR]; exact nR.2.2.1), if_pos hR, if_pos hR]
    by_cases h2 : ws.length < 2
    · rw [if_pos h2, fulD_err (by decide), route_short h2]; exact .err (by decide)
    · rw [if_neg h2]; exact eq_route hL hd ws
  rw [if_neg hR, if_neg hR]
  by_cases hS : ws.getD 0 [] = wSection
  · rw [if_pos hS, if_pos hS]; exact eq_sec hL hd ws
  rw [if_neg hS, if_neg hS]
  by_cases hP : ws.getD 0 [] = wPoint
  · rw [if_pos hP, if_pos hP]; exact eq_point hL hd ws hP
  rw [if_neg hP, if_neg hP]
  by_cases hG : ws.getD 0 [] = wSignal
  · rw [if_pos hG, if_pos hG]; exact eq_signal hL hd ws hP
  rw [if_neg hG, if_neg hG, fulD_err (by decide)]
  exact .err (by decide)
theorem eq_parseG : ∀ (ls : List (List UInt8)) (L : Ly) (i : Nat), LyLim L → Dj L → parseG lineP L ls i = parseG lineD L ls i
  | [], L, i, _, _ => rfl
  | l :: ls, L, i, hL, hd => by
    have h := eq_line hL hd l
    simp only [parseG, h.1]
    by_cases e : (lineD L l).1 = 0
    · have e' := h.1.trans e
      rw [if_pos e, if_pos e, (h.2 e').1]
      refine eq_parseG ls _ (i + 1) ?_ ?_
      · rw [← (h.2 e').1]; exact lineP_lim hL l e'
      · rw [← (h.2 e').1]; exact (h.2 e').2
    · rw [if_neg e, if_neg e]
theorem eq_parse (s : List UInt8) : parseP s = parseD s := by
  unfold parseP parseD
  split
  · rfl
  · exact eq_parseG _ _ _ ly0_lim ⟨fun n h => by simp [ly0, ixT] at h, fun n h => by simp [ly0, ixT] at h⟩
end Go.AM.Fd

set_option linter.unusedSimpArgs false
set_option linter.unusedVariables false
namespace Go.AM.Fd
open Nat (reduceAdd reduceEqDiff reduceLT reduceLeDiff reduceMul reduceSub)
open Go.Proofs Go.AM.F
theorem LyFit.in_ {L : Ly} (h : LyFit L) : LyIn 9223372036854775807 L :=
  ⟨⟨by have := h.s.1; omega, h.s.2⟩, ⟨by have := h.p.1; omega, h.p.2⟩, ⟨by have := h.g.1; omega, h.g.2⟩, ⟨by have := h.r.1; omega, h.r.2⟩⟩
theorem lineD_fit {L : Ly} (h : LyFit L) (hL : LyLim L) {l : List UInt8} (hl : l.length ≤ 1000000000) (e : (lineD L l).1 = 0) : LyFit (lineD L l).2 ∧ LyLim (lineD L l).2 := by
  have hw : ∀ w ∈ wordsB (aheadB l), w.length ≤ 1000000000 := fun w hm => by have := wordsB_mem hm; have := ahead_len l; omega
  unfold lineD at e ⊢
  split
  · rename_i hok
    rw [if_pos hok] at e
    unfold lineDW at e ⊢
    split
    · exact ⟨h, hL⟩
    · rename_i h0
      rw [if_neg h0] at e
      split
      · rename_i h1
        rw [if_pos h1] at e
        split
        · exact ⟨h, hL⟩
        · rename_i h2; exact ⟨lineD0_fit h hL hw h1, full_not (by simpa using h2)⟩
      · exact ⟨h, hL⟩
  · exact ⟨h, hL⟩
theorem parseG_fit : ∀ (ls : List (List UInt8)) (L : Ly) (i : Nat), (∀ l ∈ ls, l.length ≤ 1000000000) → LyFit L → LyLim L → LyFit (parseG lineD L ls i).1
  | [], L, i, _, h, _ => h
  | l :: ls, L, i, hl, h, hL => by
    simp only [parseG]
    split
    · rename_i e
      have := lineD_fit h hL (hl l (by simp)) e
      exact parseG_fit ls _ _ (fun x hx => hl x (by simp [hx])) this.1 this.2
    · exact ly0_fit
theorem parseD_fit (s : List UInt8) : LyFit (parseD s).1 := by
  unfold parseD
  split
  · exact ly0_fit
  · refine parseG_fit _ _ _ (fun l hl => ?_) ly0_fit ly0_lim
    have := splitB_le 10 s l hl
    omega
end Go.AM.Fd

set_option linter.unusedSimpArgs false
set_option linter.unusedVariables false
namespace Go.AM.Fd
open Go.Proofs Go.AM.F
theorem get_at (l : List UInt8) (i : Nat) : ((⟨l.toArray⟩ : ByteArray).get! i) = l.getD i 0 := by
  show l.toArray[i]! = _
  by_cases h : i < l.length
  · simp [List.getD, List.getElem?_eq_getElem h, h]
  · simp [List.getD, List.getElem?_eq_none (by omega : l.length ≤ i), h]
    rfl
def decL (l : List UInt8) : Nat × Nat :=
  let a (k : Nat) : Nat := (l.getD k 0).toNat
  let cont (k : Nat) : Bool := k < l.length && a k / 64 == 2
  let b0 := a 0
  if b0 < 0x80 then (b0, 1)
  else if b0 / 32 == 6 && cont 1 then
    let c := (b0 % 32) * 64 + a 1 % 64
    if c ≥ 0x80 then (c, 2) else (65533, 1)
  else if b0 / 16 == 14 && cont 1 && cont 2 then
    let c := (b0 % 16) * 4096 + (a 1 % 64) * 64 + a 2 % 64
    if c ≥ 0x800 && Utf8.valid c then (c, 3) else (65533, 1)
  else if b0 / 8 == 30 && cont 1 && cont 2 && cont 3 then
    let c := (b0 % 8) * 262144 + (a 1 % 64) * 4096 + (a 2 % 64) * 64 + a 3 % 64
    if c ≥ 0x10000 && Utf8.valid c then (c, 4) else (65533, 1)
  else (65533, 1)
theorem decB_L (l : List UInt8) (p : Nat) : decB l p = decL (l.drop p) := by
  unfold decB decL Utf8.decode
  have h1 : ∀ k, ((⟨l.toArray⟩ : ByteArray).get! (p + k)) = (l.drop p).getD k 0 := fun k => by
    rw [get_at]; simp only [List.getD, List.getElem?_drop]
  have h2 : ∀ k, decide (p + k < (⟨l.toArray⟩ : ByteArray).size) = decide (k < (l.drop p).length) := fun k => by
    rw [str_size, List.length_drop, decide_eq_decide]; omega
  simp only [h1, h2, Utf8.runeError]
structure GC (c : List UInt8) : Prop where
  ne : c ≠ []
  dec : ∃ r, (∀ rest, decL (c ++ rest) = (r, c.length)) ∧ 32 ≤ r ∧ (r = 65533 → c = [239, 191, 189])
  asc : (∃ b : UInt8, c = [b]) ∨ ∀ b ∈ c, 128 ≤ b.toNat
theorem dec1 {b0 : UInt8} (t : List UInt8) (h : b0.toNat < 128) : decL (b0 :: t) = (b0.toNat, 1) := by
  unfold decL
  simp only [List.getD_cons_zero]
  rw [if_pos h]
theorem dec2 {b0 b1 : UInt8} (t : List UInt8) (h0 : ¬ b0.toNat < 128) (h1 : (b0.toNat / 32 == 6) = true) (h2 : (b1.toNat / 64 == 2) = true) (h3 : (b0.toNat % 32) * 64 + b1.toNat % 64 ≥ 128) :
    decL (b0 :: b1 :: t) = ((b0.toNat % 32) * 64 + b1.toNat % 64, 2) := by
  unfold decL
  simp only [List.getD_cons_zero, List.getD_cons_succ]
  rw [if_neg h0, if_pos (by simp only [h1, h2, Bool.and_true, Bool.true_and, decide_eq_true_eq]; simp), if_pos h3]
theorem dec3 {b0 b1 b2 : UInt8} (t : List UInt8) (h0 : ¬ b0.toNat < 128) (h1 : (b0.toNat / 16 == 14) = true) (h2 : (b1.toNat / 64 == 2) = true) (h3 : (b2.toNat / 64 == 2) = true)
    (h4 : (decide ((b0.toNat % 16) * 4096 + (b1.toNat % 64) * 64 + b2.toNat % 64 ≥ 2048) && Utf8.valid ((b0.toNat % 16) * 4096 + (b1.toNat % 64) * 64 + b2.toNat % 64 : Nat)) = true) :
    decL (b0 :: b1 :: b2 :: t) = ((b0.toNat % 16) * 4096 + (b1.toNat % 64) * 64 + b2.toNat % 64, 3) := by
  have hx : (b0.toNat / 32 == 6) = false := by simp at h1 ⊢; omega
  unfold decL
  simp only [List.getD_cons_zero, List.getD_cons_succ]
  rw [if_neg h0, if_neg (by simp [hx]), if_pos (by simp only [h1, h2, h3, Bool.and_true, Bool.true_and, Bool.and_eq_true, decide_eq_true_eq]; constructor <;> simp), if_pos h4]
theorem dec_fffd (t : List UInt8) : decL (239 :: 191 :: 189 :: t) = (65533, 3) := dec3 (b0 := 239) (b1 := 191) (b2 := 189) t (by decide) (by decide) (by decide) (by decide) (by decide)
theorem gc_fffd : GC [239, 191, 189] := ⟨by simp, ⟨65533, fun rest => dec_fffd rest, by omega, fun _ => rfl⟩, .inr (by decide)⟩
theorem dec4 {b0 b1 b2 b3 : UInt8} (t : List UInt8) (h0 : ¬ b0.toNat < 128) (h1 : (b0.toNat / 8 == 30) = true) (h2 : (b1.toNat / 64 == 2) = true) (h3 : (b2.toNat / 64 == 2) = true) (h5 : (b3.toNat / 64 == 2) = true)
    (h4 : (decide ((b0.toNat % 8) * 262144 + (b1.toNat % 64) * 4096 + (b2.toNat % 64) * 64 + b3.toNat % 64 ≥ 65536) && Utf8.valid ((b0.toNat % 8) * 262144 + (b1.toNat % 64) * 4096 + (b2.toNat % 64) * 64 + b3.toNat % 64 : Nat)) = true) :
    decL (b0 :: b1 :: b2 :: b3 :: t) = ((b0.toNat % 8) * 262144 + (b1.toNat % 64) * 4096 + (b2.toNat % 64) * 64 + b3.toNat % 64, 4) := by
  have hx : (b0.toNat / 32 == 6) = false := by simp at h1 ⊢; omega
  have hy : (b0.toNat / 16 == 14) = false := by simp at h1 ⊢; omega
  unfold decL
  simp only [List.getD_cons_zero, List.getD_cons_succ]
  rw [if_neg h0, if_neg (by simp [hx]), if_neg (by simp [hy]), if_pos (by simp only [h1, h2, h3, h5, Bool.and_true, Bool.true_and, Bool.and_eq_true, decide_eq_true_eq]; refine ⟨⟨?_, ?_⟩, ?_⟩ <;> simp), if_pos h4]
theorem cont_at {l : List UInt8} {k : Nat} (h : (decide (k < l.length) && ((l.getD k 0).toNat / 64 == 2)) = true) : k < l.length ∧ ((l.getD k 0).toNat / 64 == 2) = true := by
  simpa [Bool.and_eq_true] using h
theorem two_of {b0 : UInt8} {t : List UInt8} (h : 2 < (b0 :: t).length) : ∃ b1 b2 t', t = b1 :: b2 :: t' := by
  match t with
  | b1 :: b2 :: t => exact ⟨b1, b2, t, rfl⟩
  | [x] => simp at h
  | [] => simp at h
theorem three_of {b0 : UInt8} {t : List UInt8} (h : 3 < (b0 :: t).length) : ∃ b1 b2 b3 t', t = b1 :: b2 :: b3 :: t' := by
  match t with
  | b1 :: b2 :: b3 :: t => exact ⟨b1, b2, b3, t, rfl⟩
  | [x, y] => simp at h
  | [x] => simp at h
  | [] => simp at h
theorem good_head {l : List UInt8} (hne : l ≠ []) (h32 : 32 ≤ (decL l).1) (hw : (decL l).1 = 65533 → [239, 191, 189].isPrefixOf l = true) : ∃ c rest, l = c ++ rest ∧ GC c ∧ c.length = (decL l).2 := by
  by_cases hr : (decL l).1 = 65533
  · obtain ⟨t, rfl⟩ := List.isPrefixOf_iff_prefix.1 (hw hr)
    exact ⟨[239, 191, 189], t, rfl, gc_fffd, by rw [show ([239, 191, 189] ++ t : List UInt8) = 239 :: 191 :: 189 :: t from rfl, dec_fffd]; rfl⟩
  · obtain ⟨r, w, hd⟩ : ∃ r w, decL l = (r, w) := ⟨_, _, rfl⟩
    rw [hd] at h32 hr ⊢
    simp only at h32 hr ⊢
    obtain ⟨b0, t, rfl⟩ : ∃ b0 t, l = b0 :: t := by
      cases l with
      | nil => exact absurd rfl hne
      | cons b t => exact ⟨b, t, rfl⟩
    unfold decL at hd
    simp only at hd
    split at hd
    · rename_i h0
      simp only [Prod.mk.injEq] at hd
      obtain ⟨rfl, rfl⟩ := hd
      simp only [List.getD_cons_zero] at h0 h32
      exact ⟨[b0], t, rfl, ⟨by simp, ⟨b0.toNat, fun rest => dec1 rest h0, h32, fun e => by omega⟩, .inl ⟨b0, rfl⟩⟩, rfl⟩
    · rename_i h0
      split at hd
      · rename_i h1
        rw [Bool.and_eq_true] at h1
        obtain ⟨k1, q1⟩ := cont_at h1.2
        split at hd
        · rename_i h3
          simp only [Prod.mk.injEq] at hd
          obtain ⟨rfl, rfl⟩ := hd
          obtain ⟨b1, t, rfl⟩ : ∃ b1 t', t = b1 :: t' := by
            cases t with
            | nil => simp at k1
            | cons b t => exact ⟨b, t, rfl⟩
          simp only [List.getD_cons_zero, List.getD_cons_succ] at h0 h1 q1 h3 h32 hr ⊢
          refine ⟨[b0, b1], t, rfl, ⟨by simp, ⟨_, fun rest => dec2 rest h0 h1.1 q1 h3, h32, fun e => absurd e hr⟩, .inr ?_⟩, rfl⟩
          intro b hb
          simp only [List.mem_cons, List.not_mem_nil, or_false] at hb
          rcases hb with rfl | rfl
          · omega
          · simp at q1; omega
        · simp only [Prod.mk.injEq] at hd; exact absurd hd.1.symm hr
      · split at hd
        · rename_i h1
          simp only [Bool.and_eq_true (a := _ && _)] at h1
          rw [Bool.and_eq_true] at h1
          obtain ⟨k1, q1⟩ := cont_at h1.1.2
          obtain ⟨k2, q2⟩ := cont_at h1.2
          split at hd
          · rename_i h3
            simp only [Prod.mk.injEq] at hd
            obtain ⟨e1, rfl⟩ := hd
            obtain ⟨b1, b2, t, rfl⟩ : ∃ b1 b2 t', t = b1 :: b2 :: t' := by
              exact two_of k2
            simp only [List.getD_cons_zero, List.getD_cons_succ] at h0 h1 q1 q2 h3 e1 ⊢
            refine ⟨[b0, b1, b2], t, rfl, ⟨by simp, ⟨r, fun rest => by rw [← e1]; exact dec3 rest h0 h1.1.1 q1 q2 h3, h32, fun e => absurd e hr⟩, .inr ?_⟩, rfl⟩
            intro b hb
            simp only [List.mem_cons, List.not_mem_nil, or_false] at hb
            rcases hb with rfl | rfl | rfl
            · omega
            · simp at q1; omega
            · simp at q2; omega
          · simp only [Prod.mk.injEq] at hd; exact absurd hd.1.symm hr
        · split at hd
          · rename_i h1
            rw [Bool.and_eq_true, Bool.and_eq_true, Bool.and_eq_true] at h1
            obtain ⟨k1, q1⟩ := cont_at h1.1.1.2
            obtain ⟨k2, q2⟩ := cont_at h1.1.2
            obtain ⟨k3, q3⟩ := cont_at h1.2
            split at hd
            · rename_i h3
              simp only [Prod.mk.injEq] at hd
              obtain ⟨e1, rfl⟩ := hd
              obtain ⟨b1, b2, b3, t, rfl⟩ : ∃ b1 b2 b3 t', t = b1 :: b2 :: b3 :: t' := by
                exact three_of k3
              simp only [List.getD_cons_zero, List.getD_cons_succ] at h0 h1 q1 q2 q3 h3 e1 ⊢
              refine ⟨[b0, b1, b2, b3], t, rfl, ⟨by simp, ⟨r, fun rest => by rw [← e1]; exact dec4 rest h0 h1.1.1.1 q1 q2 q3 h3, h32, fun e => absurd e hr⟩, .inr ?_⟩, rfl⟩
              intro b hb
              simp only [List.mem_cons, List.not_mem_nil, or_false] at hb
              rcases hb with rfl | rfl | rfl | rfl
              · omega
              · simp at q1; omega
              · simp at q2; omega
              · simp at q3; omega
            · simp only [Prod.mk.injEq] at hd; exact absurd hd.1.symm hr
          · simp only [Prod.mk.injEq] at hd; exact absurd hd.1.symm hr
end Go.AM.Fd

set_option linter.unusedSimpArgs false
set_option linter.unusedVariables false
namespace Go.AM.Fd
open Go.Proofs Go.AM.F
inductive OkL : List UInt8 → Prop
  | nil : OkL []
  | cons {c l : List UInt8} (h : GC c) (t : OkL l) : OkL (c ++ l)
theorem OkL.app {a b : List UInt8} (h : OkL a) (k : OkL b) : OkL (a ++ b) := by
  induction h with
  | nil => exact k
  | cons h _ ih => rw [List.append_assoc]; exact .cons h ih
theorem gc_blank : GC [32] := ⟨by simp, ⟨32, fun rest => dec1 rest (by decide), by omega, fun e => by omega⟩, .inl ⟨32, rfl⟩⟩
theorem OkL.blank : OkL [32] := by simpa using OkL.cons gc_blank .nil
theorem ok_step {l : List UInt8} {p : Nat} (hp : p < l.length) (h : okC l (p, ((decB l p).1 : Int)) = true) : ∃ c rest, l.drop p = c ++ rest ∧ GC c ∧ c.length = (decB l p).2 ∧ l.drop (p + (decB l p).2) = rest := by
  unfold okC at h
  simp only [Bool.and_eq_true, Bool.not_eq_true', decide_eq_false_iff_not, Bool.and_eq_false_imp, beq_iff_eq, Bool.not_eq_false'] at h
  have hne : l.drop p ≠ [] := by
    intro e
    have := congrArg List.length e
    rw [List.length_drop] at this; simp at this; omega
  have e := decB_L l p
  obtain ⟨c, rest, h1, h2, h3⟩ := good_head hne (by rw [← e]; omega) (fun e2 => by
    have := h.2 (by rw [e]; omega)
    exact this)
  rw [← e] at h3
  refine ⟨c, rest, h1, h2, h3, ?_⟩
  rw [← List.drop_drop, h1, ← h3, List.drop_left]
theorem okl_of {l : List UInt8} : ∀ (n p : Nat), l.length - p ≤ n → (runF l p).all (okC l) = true → OkL (l.drop p)
  | 0, p, hn, _ => by rw [List.drop_of_length_le (by omega)]; exact .nil
  | n + 1, p, hn, h => by
    by_cases hp : p < l.length
    · rw [runF_step hp, List.all_cons, Bool.and_eq_true] at h
      obtain ⟨c, rest, h1, h2, h3, h4⟩ := ok_step hp h.1
      have h0 := decB_pos (l := l) (p := p)
      rw [h1, ← h4]
      exact .cons h2 (okl_of n _ (by omega) h.2)
    · rw [List.drop_of_length_le (by omega)]; exact .nil
theorem okW_l {l : List UInt8} (h : okW l = true) : OkL l := by
  have := okl_of l.length 0 (by omega) h
  simpa using this
theorem okl_to {l : List UInt8} (h : OkL l) : ∀ pre : List UInt8, (runF (pre ++ l) pre.length).all (okC (pre ++ l)) = true := by
  induction h with
  | nil => intro pre; rw [runF_end (by simp)]; rfl
  | @cons c l h t ih =>
    intro pre
    obtain ⟨r, h1, h2, h3⟩ := h.dec
    have hc : 0 < c.length := List.length_pos_iff.2 h.ne
    have hd : decB (pre ++ (c ++ l)) pre.length = (r, c.length) := by rw [decB_L, List.drop_left]; exact h1 l
    rw [runF_step (by simp; omega), hd, List.all_cons, Bool.and_eq_true]
    refine ⟨?_, ?_⟩
    · unfold okC
      by_cases hr : r = 65533
      · have hw : wholeB (pre ++ (c ++ l)) pre.length = true := by
          unfold wholeB
          rw [List.drop_left, h3 hr, List.isPrefixOf_iff_prefix]
          exact ⟨l, rfl⟩
        simp only [hw]; simp; omega
      · simp; omega
    · have := ih (pre ++ c)
      rw [List.length_append, List.append_assoc] at this
      exact this
theorem l_okW {l : List UInt8} (h : OkL l) : okW l = true := by
  have := okl_to h []
  simpa [okW] using this
theorem splitB_pre {c : UInt8} : ∀ {a : List UInt8} (l : List UInt8), c ∉ a → ∃ p r, splitB c l = p :: r ∧ splitB c (a ++ l) = (a ++ p) :: r
  | [], l, _ => by
    cases h : splitB c l with
    | nil => exact absurd h (splitB_ne c l)
    | cons p r => exact ⟨p, r, rfl, by simpa using h⟩
  | x :: a, l, h => by
    simp only [List.mem_cons, not_or] at h
    obtain ⟨p, r, h1, h2⟩ := splitB_pre l h.2
    refine ⟨p, r, h1, ?_⟩
    simp only [List.cons_append, splitB, if_neg (Ne.symm h.1), h2]
theorem splitB_sep {c : UInt8} {a : List UInt8} (l : List UInt8) (h : c ∉ a) : splitB c (a ++ c :: l) = a :: splitB c l := by
  obtain ⟨p, r, h1, h2⟩ := splitB_pre (c :: l) h
  have : splitB c (c :: l) = [] :: splitB c l := by simp [splitB]
  rw [this] at h1
  cases h1
  rw [h2]; simp
theorem splitB_whole {c : UInt8} {a : List UInt8} (h : c ∉ a) : splitB c a = [a] := by
  obtain ⟨p, r, h1, h2⟩ := splitB_pre [] h
  cases h1
  simpa using h2
theorem splitB_mem {c : UInt8} : ∀ {l w : List UInt8}, w ∈ splitB c l → c ∉ w ∧ ∀ b ∈ w, b ∈ l
  | [], w, h => by simp [splitB] at h; subst h; simp
  | x :: l, w, h => by
    simp only [splitB] at h
    split at h
    · rcases List.mem_cons.1 h with rfl | h
      · simp
      · obtain ⟨h1, h2⟩ := splitB_mem h; exact ⟨h1, fun b hb => by simp [h2 b hb]⟩
    · rename_i hx
      split at h
      · rename_i p r hs
        rcases List.mem_cons.1 h with rfl | h
        · obtain ⟨h1, h2⟩ := splitB_mem (l := l) (c := c) (w := p) (by rw [hs]; simp)
          refine ⟨by simp only [List.mem_cons, not_or]; exact ⟨Ne.symm hx, h1⟩, fun b hb => ?_⟩
          rcases List.mem_cons.1 hb with rfl | hb
          · simp
          · simp [h2 b hb]
        · obtain ⟨h1, h2⟩ := splitB_mem (l := l) (c := c) (w := w) (by rw [hs]; simp [h]); exact ⟨h1, fun b hb => by simp [h2 b hb]⟩
      · rename_i hs; exact absurd hs (splitB_ne c l)
theorem OkL.split {l : List UInt8} (h : OkL l) : ∀ w ∈ splitB 32 l, OkL w := by
  induction h with
  | nil => intro w hw; simp [splitB] at hw; subst hw; exact .nil
  | @cons c l h t ih =>
    intro w hw
    by_cases hc : 32 ∈ c
    · have : c = [32] := by
        rcases h.asc with ⟨b, rfl⟩ | h2
        · simp at hc; rw [hc]
        · have := h2 32 hc; simp at this
      subst this
      have e : splitB 32 ([32] ++ l) = [] :: splitB 32 l := by simp [splitB]
      rw [e] at hw
      rcases List.mem_cons.1 hw with rfl | hw
      · exact .nil
      · exact ih w hw
    · obtain ⟨p, r, h1, h2⟩ := splitB_pre l hc
      rw [h2] at hw
      rcases List.mem_cons.1 hw with rfl | hw
      · exact .cons h (ih p (by rw [h1]; simp))
      · exact ih w (by rw [h1]; simp [hw])
theorem ixB_app {c : UInt8} : ∀ {a : List UInt8} (l : List UInt8), c ∉ a → ixB c (a ++ c :: l) = some a.length
  | [], l, _ => by simp [ixB]
  | x :: a, l, h => by
    simp only [List.mem_cons, not_or] at h
    simp only [List.cons_append, ixB, if_neg (Ne.symm h.1), ixB_app l h.2]; simp
theorem ixB_nin {c : UInt8} : ∀ {a : List UInt8}, c ∉ a → ixB c a = none
  | [], _ => rfl
  | x :: a, h => by
    simp only [List.mem_cons, not_or] at h
    simp only [ixB, if_neg (Ne.symm h.1), ixB_nin h.2]; rfl
theorem ahead_no (l : List UInt8) : 35 ∉ aheadB l := by
  unfold aheadB
  cases h : ixB 35 l with
  | none => exact ixB_none h
  | some i =>
    intro hm
    obtain ⟨j, hj, he⟩ := List.getElem_of_mem hm
    rw [List.length_take] at hj
    have := (ixB_some h).2.2 j (by omega)
    apply this
    simp only [List.getElem_take] at he
    simp [List.getD, List.getElem?_eq_getElem (show j < l.length by omega), he]
def rejoin (ws : List (List UInt8)) : List UInt8 := (ws.map fun w => 32 :: w).flatten
theorem rejoin_split : ∀ (ws : List (List UInt8)), (∀ w ∈ ws, w ≠ [] ∧ 32 ∉ w) → splitB 32 (rejoin ws ++ [32]) = [] :: (ws ++ [[]])
  | [], _ => by simp [rejoin, splitB]
  | w :: ws, h => by
    have hw := h w (by simp)
    have ih := rejoin_split ws (fun x hx => h x (by simp [hx]))
    have e : rejoin (w :: ws) ++ [32] = 32 :: (w ++ (rejoin ws ++ [32])) := by simp [rejoin]
    obtain ⟨p, r, h1, h2⟩ := splitB_pre (rejoin ws ++ [32]) hw.2
    rw [ih] at h1
    cases h1
    rw [e]
    simp only [splitB, if_true]
    rw [h2]; simp
theorem filt_id : ∀ (ws : List (List UInt8)), (∀ w ∈ ws, w ≠ []) → (ws.filter fun t => !t.isEmpty) = ws
  | [], _ => rfl
  | w :: ws, h => by
    have hw := h w (by simp)
    rw [List.filter_cons, filt_id ws (fun x hx => h x (by simp [hx]))]
    cases w with
    | nil => exact absurd rfl hw
    | cons x w => rfl
theorem words_mem {l w : List UInt8} (h : w ∈ wordsB l) : w ≠ [] ∧ 32 ∉ w ∧ (∀ b ∈ w, b ∈ l) := by
  unfold wordsB at h
  rw [List.mem_filter] at h
  have := splitB_mem h.1
  refine ⟨?_, this.1, this.2⟩
  intro e; subst e; simp at h
theorem again {l : List UInt8} (h : okW (aheadB l) = true) : okW (aheadB (rejoin (wordsB (aheadB l)) ++ [32, 35, 32, 120])) = true ∧ wordsB (aheadB (rejoin (wordsB (aheadB l)) ++ [32, 35, 32, 120])) = wordsB (aheadB l) := by
  obtain ⟨s, hs⟩ : ∃ s, aheadB l = s := ⟨_, rfl⟩
  have h35 : 35 ∉ s := by rw [← hs]; exact ahead_no l
  rw [hs] at h ⊢
  have hws : ∀ w ∈ wordsB s, w ≠ [] ∧ 32 ∉ w ∧ (∀ b ∈ w, b ∈ s) := fun w hw => words_mem hw
  have hokl : ∀ w ∈ wordsB s, OkL w := fun w hw => (okW_l h).split w (by unfold wordsB at hw; exact (List.mem_filter.1 hw).1)
  obtain ⟨ws, hW⟩ : ∃ ws, wordsB s = ws := ⟨_, rfl⟩
  rw [hW] at hws hokl ⊢
  have hno : 35 ∉ rejoin ws ++ [32] := by
    intro hm
    rw [List.mem_append] at hm
    rcases hm with hm | hm
    · unfold rejoin at hm
      rw [List.mem_flatten] at hm
      obtain ⟨x, hx, hm⟩ := hm
      obtain ⟨w, hw, rfl⟩ := List.mem_map.1 hx
      rcases List.mem_cons.1 hm with e | hm
      · simp at e
      · exact h35 ((hws w hw).2.2 35 hm)
    · simp at hm
  have ha : aheadB (rejoin ws ++ [32, 35, 32, 120]) = rejoin ws ++ [32] := by
    unfold aheadB
    rw [show rejoin ws ++ [32, 35, 32, 120] = (rejoin ws ++ [32]) ++ 35 :: [32, 120] by simp, ixB_app _ hno]
    simp only
    rw [List.take_left]
  rw [ha]
  constructor
  · apply l_okW
    refine OkL.app ?_ OkL.blank
    clear hno ha hW hws
    induction ws with
    | nil => exact .nil
    | cons w ws ih =>
      have e : rejoin (w :: ws) = [32] ++ (w ++ rejoin ws) := by simp [rejoin]
      rw [e]
      exact OkL.app .blank (OkL.app (hokl w (by simp)) (ih (fun x hx => hokl x (by simp [hx]))))
  · unfold wordsB
    rw [rejoin_split ws (fun w hw => ⟨(hws w hw).1, (hws w hw).2.1⟩)]
    rw [List.filter_cons, List.filter_append, filt_id ws (fun w hw => (hws w hw).1)]
    simp
theorem sgn_bytes {l : List UInt8} : ∀ (n p : Nat), l.length - p ≤ n → (runF l p).all (fun x => sgn x.2) = true → ∀ b ∈ l.drop p, b.toNat < 128 → sgn (b.toNat : Int) = true
  | 0, p, hn, _ => by rw [List.drop_of_length_le (by omega)]; simp
  | n + 1, p, hn, h => by
    by_cases hp : p < l.length
    · rw [runF_step hp, List.all_cons, Bool.and_eq_true] at h
      have hok : okC l (p, ((decB l p).1 : Int)) = true := by
        have h1 := h.1
        unfold sgn at h1
        simp only [Bool.and_eq_true, decide_eq_true_eq, bne_iff_ne, ne_eq] at h1
        unfold okC
        simp only [Bool.and_eq_true, Bool.not_eq_true', decide_eq_false_iff_not, Bool.and_eq_false_imp, beq_iff_eq]
        exact ⟨by omega, fun e => absurd e h1.2⟩
      obtain ⟨c, rest, h1, h2, h3, h4⟩ := ok_step hp hok
      have h0 := decB_pos (l := l) (p := p)
      have ih := sgn_bytes n (p + (decB l p).2) (by omega) h.2
      rw [h4] at ih
      rw [h1]
      intro b hb hlt
      rcases List.mem_append.1 hb with hb | hb
      · rcases h2.asc with ⟨b0, rfl⟩ | h5
        · simp at hb; subst hb
          have hd : decB l p = (b.toNat, 1) := by rw [decB_L, h1]; exact dec1 rest hlt
          have := h.1
          rw [hd] at this; exact this
        · have := h5 b hb; omega
      · exact ih b hb hlt
    · rw [List.drop_of_length_le (by omega)]; simp
theorem right_words {l : List UInt8} (h : rightB l = true) : okW (aheadB l) = true ∧ wordsB (aheadB l) = [l] := by
  unfold rightB at h
  simp only [Bool.and_eq_true, decide_eq_true_eq] at h
  have hb := sgn_bytes l.length 0 (by omega) h.1.1
  rw [List.drop_zero] at hb
  have h35 : 35 ∉ l := fun hm => by have := hb 35 hm (by decide); revert this; decide
  have h32 : 32 ∉ l := fun hm => by have := hb 32 hm (by decide); revert this; decide
  have ha : aheadB l = l := by unfold aheadB; rw [ixB_nin h35]
  rw [ha]
  constructor
  · unfold okW
    rw [List.all_eq_true] at h ⊢
    intro x hx
    have h1 := h.1.1 x hx
    unfold sgn at h1
    simp only [Bool.and_eq_true, decide_eq_true_eq, bne_iff_ne, ne_eq] at h1
    unfold okC
    simp only [Bool.and_eq_true, Bool.not_eq_true', decide_eq_false_iff_not, Bool.and_eq_false_imp, beq_iff_eq]
    exact ⟨by omega, fun e => absurd e h1.2⟩
  · unfold wordsB
    rw [splitB_whole h32]
    cases l with
    | nil => have := h.1.2; rw [runF_end (by simp)] at this; simp at this
    | cons x l => rfl
end Go.AM.Fd

set_option linter.unusedSimpArgs false
set_option linter.unusedVariables false
namespace Go.AM.Fd
open Go.Proofs Go.AM.F
theorem splitB_ne (c : UInt8) (l : List UInt8) : ∃ p r, splitB c l = p :: r := by
  cases l with
  | nil => exact ⟨[], [], rfl⟩
  | cons y l =>
    simp only [splitB]
    split
    · exact ⟨_, _, rfl⟩
    · split
      · exact ⟨_, _, rfl⟩
      · exact ⟨_, _, rfl⟩
end Go.AM.Fd

set_option linter.unusedVariables false
set_option linter.unusedSimpArgs false
namespace Go.AM.Fd
open Go.Proofs Go.AM.F
structure Gw (w : List UInt8) : Prop where
  ne : w ≠ []
  ok : OkL w
  n32 : 32 ∉ w
  n35 : 35 ∉ w
  n10 : 10 ∉ w
theorem gc_asc {b : UInt8} (h0 : 32 ≤ b.toNat) (h1 : b.toNat < 128) : GC [b] := ⟨by simp, ⟨b.toNat, fun rest => dec1 rest h1, h0, fun e => by omega⟩, .inl ⟨b, rfl⟩⟩
theorem okl_asc : ∀ l : List UInt8, (∀ b ∈ l, 32 ≤ b.toNat ∧ b.toNat < 128) → OkL l
  | [], _ => .nil
  | b :: l, h => by
    have h1 := h b (by simp)
    exact OkL.cons (c := [b]) (gc_asc h1.1 h1.2) (okl_asc l fun x hx => h x (by simp [hx]))
theorem gw_asc {l : List UInt8} (h : l ≠ [] ∧ ∀ b ∈ l, (32 ≤ b.toNat ∧ b.toNat < 128) ∧ b ≠ 32 ∧ b ≠ 35 ∧ b ≠ 10) : Gw l :=
  ⟨h.1, okl_asc l fun b hb => (h.2 b hb).1, fun hb => (h.2 _ hb).2.1 rfl, fun hb => (h.2 _ hb).2.2.1 rfl, fun hb => (h.2 _ hb).2.2.2 rfl⟩
theorem right_gw {l : List UInt8} (h : rightB l = true) : Gw l := by
  obtain ⟨h1, h2⟩ := right_words h
  unfold rightB at h
  simp only [Bool.and_eq_true, decide_eq_true_eq] at h
  have hb := sgn_bytes l.length 0 (by omega) h.1.1
  rw [List.drop_zero] at hb
  have h35 : 35 ∉ l := fun hm => by have := hb 35 hm (by decide); revert this; decide
  have h32 : 32 ∉ l := fun hm => by have := hb 32 hm (by decide); revert this; decide
  have h10 : 10 ∉ l := fun hm => by have := hb 10 hm (by decide); revert this; decide
  have ha : aheadB l = l := by unfold aheadB; rw [ixB_nin h35]
  rw [ha] at h1
  refine ⟨?_, okW_l h1, h32, h35, h10⟩
  rintro rfl
  have := h.1.2
  rw [runF_end (by simp)] at this
  simp at this
theorem Gw.snoc {w : List UInt8} (h : Gw w) {b : UInt8} (h0 : 33 ≤ b.toNat) (h1 : b.toNat < 128) (h2 : b ≠ 35) : Gw (w ++ [b]) := by
  refine ⟨by simp, h.ok.app (okl_asc [b] fun x hx => by simp at hx; subst hx; exact ⟨by omega, h1⟩), ?_, ?_, ?_⟩
  · rw [List.mem_append]
    rintro (k | k)
    · exact h.n32 k
    · simp at k; subst k; revert h0; decide
  · rw [List.mem_append]
    rintro (k | k)
    · exact h.n35 k
    · simp at k; exact h2 k.symm
  · rw [List.mem_append]
    rintro (k | k)
    · exact h.n10 k
    · simp at k; subst k; revert h0; decide
theorem split_join {c : UInt8} : ∀ {ws : List (List UInt8)}, ws ≠ [] → (∀ w ∈ ws, c ∉ w) → splitB c (joinB c ws) = ws
  | [], h, _ => absurd rfl h
  | [t], _, h => splitB_whole (h t (by simp))
  | t :: u :: r, _, h => by
    show splitB c (t ++ c :: joinB c (u :: r)) = _
    rw [splitB_sep _ (h t (by simp)), split_join (ws := u :: r) (by simp) fun w hw => h w (by simp [hw])]
theorem join_mem {c b : UInt8} : ∀ {ws : List (List UInt8)}, b ∈ joinB c ws → b = c ∨ ∃ w ∈ ws, b ∈ w
  | [], h => by cases h
  | [t], h => .inr ⟨t, by simp, h⟩
  | t :: u :: r, h => by
    have h : b ∈ t ++ c :: joinB c (u :: r) := h
    rw [List.mem_append, List.mem_cons] at h
    rcases h with h | rfl | h
    · exact .inr ⟨t, by simp, h⟩
    · exact .inl rfl
    · rcases join_mem h with h | ⟨w, hw, h⟩
      · exact .inl h
      · exact .inr ⟨w, by simp at hw ⊢; exact .inr hw, h⟩
theorem join_ok : ∀ {ws : List (List UInt8)}, (∀ w ∈ ws, OkL w) → OkL (joinB 32 ws)
  | [], _ => .nil
  | [t], h => h t (by simp)
  | t :: u :: r, h => by
    show OkL (t ++ 32 :: joinB 32 (u :: r))
    exact (h t (by simp)).app (OkL.cons (c := [32]) gc_blank (join_ok fun w hw => h w (by simp at hw ⊢; exact .inr hw)))
theorem line_join {ws : List (List UInt8)} (h : ∀ w ∈ ws, Gw w) : aheadB (joinB 32 ws) = joinB 32 ws ∧ okW (joinB 32 ws) = true ∧ wordsB (joinB 32 ws) = ws ∧ 10 ∉ joinB 32 ws := by
  refine ⟨?_, l_okW (join_ok fun w hw => (h w hw).ok), ?_, ?_⟩
  · unfold aheadB
    rw [ixB_nin]
    intro hm
    rcases join_mem hm with e | ⟨w, hw, e⟩
    · revert e; decide
    · exact (h w hw).n35 e
  · unfold wordsB
    by_cases hw : ws = []
    · subst hw; rfl
    · rw [split_join hw fun w hw => (h w hw).n32]
      exact filt_id ws fun w hw => (h w hw).ne
  · intro hm
    rcases join_mem hm with e | ⟨w, hw, e⟩
    · revert e; decide
    · exact (h w hw).n10 e
theorem lineP_join (L : Ly) {ws : List (List UInt8)} (h : ∀ w ∈ ws, Gw w) : lineP L (joinB 32 ws) = lineW L ws := by
  obtain ⟨h1, h2, h3, _⟩ := line_join h
  unfold lineP
  rw [h1, h2, h3]
  rfl
theorem split_lines : ∀ {ls : List (List UInt8)}, (∀ l ∈ ls, 10 ∉ l) → splitB 10 (ls.flatMap fun l => l ++ [10]) = ls ++ [[]]
  | [], _ => rfl
  | l :: ls, h => by
    rw [List.flatMap_cons, List.append_assoc]
    show splitB 10 (l ++ 10 :: (ls.flatMap fun l => l ++ [10])) = _
    rw [splitB_sep _ (h l (by simp)), split_lines fun x hx => h x (by simp [hx])]
    rfl
def foldW : Ly → List (List (List UInt8)) → Option Ly
  | L, [] => some L
  | L, ws :: r => if (lineW L ws).1 = 0 then foldW (lineW L ws).2 r else none
theorem foldW_app : ∀ (a b : List (List (List UInt8))) (L : Ly), foldW L (a ++ b) = (foldW L a).bind fun M => foldW M b
  | [], b, L => rfl
  | ws :: a, b, L => by
    simp only [List.cons_append, foldW]
    split
    · exact foldW_app a b _
    · rfl
theorem parseG_join : ∀ (wss : List (List (List UInt8))) (L : Ly) (i : Nat) {M : Ly}, (∀ ws ∈ wss, ∀ w ∈ ws, Gw w) → foldW L wss = some M → parseG lineP L (wss.map (joinB 32) ++ [[]]) i = (M, 0, 0)
  | [], L, i, M, _, h => by
    simp only [foldW, Option.some.injEq] at h
    subst h
    have e : lineP L [] = (0, L) := by
      have := lineP_join L (ws := []) (by simp)
      rw [show joinB (32 : UInt8) [] = [] from rfl] at this
      rw [this]; rfl
    simp only [List.map_nil, List.nil_append, parseG, e, if_true]
  | ws :: wss, L, i, M, hg, h => by
    simp only [foldW] at h
    split at h
    · rename_i h0
      simp only [List.map_cons, List.cons_append, parseG]
      rw [lineP_join L (hg ws (by simp)), if_pos h0]
      exact parseG_join wss _ _ (fun x hx => hg x (by simp [hx])) h
    · cases h
def linesT (wss : List (List (List UInt8))) : List UInt8 := wss.flatMap fun ws => joinB 32 ws ++ [10]
theorem parse_lines {wss : List (List (List UInt8))} {M : Ly} (hg : ∀ ws ∈ wss, ∀ w ∈ ws, Gw w) (h : foldW ly0 wss = some M) (hl : (linesT wss).length ≤ 16384) : parseP (linesT wss) = (M, 0, 0) := by
  unfold parseP
  rw [if_neg (by omega)]
  have e : linesT wss = (wss.map (joinB 32)).flatMap fun l => l ++ [10] := by unfold linesT; rw [List.flatMap_map]
  rw [e, split_lines fun l hl => by
    obtain ⟨ws, hw, rfl⟩ := List.mem_map.1 hl
    exact (line_join (hg ws hw)).2.2.2]
  exact parseG_join wss ly0 0 hg h
end Go.AM.Fd

set_option linter.unusedVariables false
set_option linter.unusedSimpArgs false
namespace Go.AM.Fd
open Go.Proofs Go.AM.F Go.AM.Ky
theorem join_cons (c : UInt8) : ∀ (w : List UInt8) (ws : List (List UInt8)), joinB c (w :: ws) = w ++ ws.flatMap (fun x => c :: x)
  | w, [] => by simp [joinB]
  | w, u :: r => by
    show w ++ c :: joinB c (u :: r) = _
    rw [join_cons c u r]; simp
def ndW (p : List (List UInt8 × Int)) (x : Int × Bool) : List UInt8 := nmAt (p.map (·.1)) x.1 ++ [if x.2 then 45 else 43]
def roW (L : Ly) (x : Ro) : List (List UInt8) := [rtW, x.n, nmAt (L.g.map (·.1)) x.g, [58]] ++ (x.path.map (nmAt L.s) ++ [58] :: (x.pts.map (ndW L.p) ++ [58] :: (x.ov.map (nmAt L.s) ++ [58] :: x.fl.map (ndW L.p))))
def wsL (L : Ly) : List (List (List UInt8)) := L.s.map (fun x => [secW, x]) ++ (L.p.map (fun x => [ptW, x.1, nmAt L.s x.2]) ++ (L.g.map (fun x => [sgW, x.1, nmAt L.s x.2]) ++ L.r.map (roW L)))
theorem flatMap_map' {α β : Type} (f : α → β) (g : β → List UInt8) (l : List α) : (l.map f).flatMap g = l.flatMap fun x => g (f x) := by rw [List.flatMap_map]
theorem print_lines (L : Ly) : printT L = linesT (wsL L) := by
  unfold printT linesT wsL
  simp only [List.flatMap_append, flatMap_map', List.append_assoc]
  have e1 : txS L.s = L.s.flatMap fun x => joinB 32 [secW, x] ++ [10] := by unfold txS; congr 1; try (funext x; simp [joinB])
  have e2 : ∀ W l, txP W L.s l = l.flatMap fun x => joinB 32 [W, x.1, nmAt L.s x.2] ++ [10] := fun W l => by unfold txP; congr 1; funext x; simp [joinB]
  have e3 : txR L L.r = L.r.flatMap fun x => joinB 32 (roW L x) ++ [10] := by
    unfold txR
    congr 1
    funext x
    unfold tx1 roW txI txN
    simp only [List.cons_append, List.nil_append, join_cons, List.flatMap_cons, List.flatMap_append, flatMap_map', ndW, List.append_assoc]
  rw [e1, e2, e2, e3]
theorem ixT_none {n : List UInt8} : ∀ {l : List (List UInt8)}, n ∉ l → ixT n l = none
  | [], _ => rfl
  | x :: l, h => by
    simp only [List.mem_cons, not_or] at h
    simp only [ixT, if_neg (fun e => h.1 (Eq.symm e) : ¬ x = n), ixT_none h.2]; rfl
theorem ixT_in {n : List UInt8} : ∀ {l : List (List UInt8)} {i : Nat}, l.Nodup → l[i]? = some n → ixT n l = some i
  | [], i, _, h => by simp at h
  | x :: l, 0, hd, h => by
    simp at h; subst h; simp [ixT]
  | x :: l, i + 1, hd, h => by
    rw [List.nodup_cons] at hd
    have h : l[i]? = some n := by simpa using h
    have hx : ¬ x = n := fun e => hd.1 (e ▸ List.mem_of_getElem? h)
    simp only [ixT, if_neg hx, ixT_in hd.2 h]; rfl
theorem ixT_some {n : List UInt8} : ∀ {l : List (List UInt8)}, (ixT n l).isSome = true → n ∈ l
  | [], h => by simp [ixT] at h
  | x :: l, h => by
    by_cases hx : x = n
    · subst hx; simp
    · simp only [ixT, if_neg hx, Option.isSome_map] at h
      exact List.mem_cons_of_mem _ (ixT_some h)
theorem dj_of {M : Ly} (h : (namesL M).Nodup) : Dj M := by
  unfold namesL at h
  rw [List.nodup_append] at h
  have h2 := h.1
  rw [List.nodup_append] at h2
  have h3 := h2.1
  rw [List.nodup_append] at h3
  refine ⟨fun n hn => ixT_none fun hm => h3.2.2 n hm n (ixT_some hn) rfl, fun n hn => ⟨ixT_none fun hm => h2.2.2 n (by simp [hm]) n (ixT_some hn) rfl, ixT_none fun hm => h2.2.2 n (by rw [List.mem_append]; exact .inr hm) n (ixT_some hn) rfl⟩⟩
theorem fresh_of {M L : Ly} {n : List UInt8} {t : List (List UInt8)} (h : (namesL L).Nodup) (e : namesL L = namesL M ++ n :: t) : nameOf M n = none ∧ (namesL M).Nodup := by
  rw [e, List.nodup_append] at h
  refine ⟨?_, h.1⟩
  have h1 := nameOf_ix M n
  rw [ixT_none fun hm => h.2.2 n hm n (by simp) rfl] at h1
  cases hn : nameOf M n with
  | none => rfl
  | some x => rw [hn] at h1; cases h1
theorem oAll_map {α : Type} {f : List UInt8 → Option α} {g : α → List UInt8} : ∀ {l : List α}, (∀ x ∈ l, f (g x) = some x) → oAll f (l.map g) = some l
  | [], _ => rfl
  | x :: l, h => by
    have ih := oAll_map (l := l) fun y hy => h y (by simp [hy])
    simp only [List.map_cons, oAll, h x (by simp), ih]
    rfl
theorem grp_run : ∀ (l : List (List UInt8)) (g : List (List UInt8)) (r : List (List (List UInt8))), (∀ w ∈ l, w ≠ [58]) → l.foldl grp (g :: r) = (g ++ l) :: r
  | [], g, r, _ => by simp
  | w :: l, g, r, h => by
    rw [List.foldl_cons]
    unfold grp
    rw [if_neg (h w (by simp))]
    have := grp_run l (g ++ [w]) r fun x hx => h x (by simp [hx])
    unfold grp at this
    rw [this]; simp
theorem nm_at {l : List (List UInt8)} {y : Int} (h : 0 ≤ y ∧ y < l.length) : l[y.toNat]? = some (nmAt l y) := by
  have : y.toNat < l.length := by omega
  simp [nmAt, List.getD, List.getElem?_eq_getElem this]
theorem nm_mem {l : List (List UInt8)} {y : Int} (h : 0 ≤ y ∧ y < l.length) : nmAt l y ∈ l := List.mem_of_getElem? (nm_at h)
end Go.AM.Fd

set_option linter.unusedVariables false
set_option linter.unusedSimpArgs false
namespace Go.AM.Fd
open Go.Proofs Go.AM.F Go.AM.Ky
theorem fold_stage {α : Type} (l : List α) (f : α → List (List UInt8)) (st : Nat → Ly) (h : ∀ i x, l[i]? = some x → lineW (st i) (f x) = (0, st (i + 1))) : foldW (st 0) (l.map f) = some (st l.length) := by
  have key : ∀ k, k ≤ l.length → foldW (st 0) ((l.take k).map f) = some (st k) := by
    intro k
    induction k with
    | zero => intro _; rfl
    | succ k ih =>
      intro hk
      have hx : l[k]? = some l[k] := List.getElem?_eq_getElem (by omega)
      rw [List.take_add_one, hx, List.map_append, foldW_app, ih (by omega)]
      simp only [Option.bind_some, Option.toList_some, List.map_cons, List.map_nil, foldW, h k _ hx, if_true]
  have := key l.length (Nat.le_refl _)
  rwa [List.take_length] at this
theorem take_next {α : Type} {l : List α} {i : Nat} {x : α} (h : l[i]? = some x) : l.take (i + 1) = l.take i ++ [x] := by
  rw [List.take_add_one, h]; rfl
theorem take_split {α : Type} {l : List α} {i : Nat} {x : α} (h : l[i]? = some x) : l = l.take i ++ x :: l.drop (i + 1) := by
  obtain ⟨hi, rfl⟩ := List.getElem?_eq_some_iff.1 h
  rw [← List.drop_eq_getElem_cons hi, List.take_append_drop]
structure MayL (L : Ly) : Prop where
  nd : (namesL L).Nodup
  rt : ∀ n ∈ namesL L, rightB n = true
  s : L.s.length ≤ 64
  p : L.p.length ≤ 32
  g : L.g.length ≤ 32
  r : L.r.length ≤ 64
  pi : ∀ x ∈ L.p, 0 ≤ x.2 ∧ x.2 < L.s.length
  gi : ∀ x ∈ L.g, 0 ≤ x.2 ∧ x.2 < L.s.length
  ri : ∀ x ∈ L.r, (0 ≤ x.g ∧ x.g < L.g.length) ∧ (x.path.length ≤ 16 ∧ ∀ y ∈ x.path, 0 ≤ y ∧ y < L.s.length) ∧ (x.pts.length ≤ 16 ∧ ∀ y ∈ x.pts, 0 ≤ y.1 ∧ y.1 < L.p.length) ∧
    (x.ov.length ≤ 16 ∧ ∀ y ∈ x.ov, 0 ≤ y ∧ y < L.s.length) ∧ (x.fl.length ≤ 16 ∧ ∀ y ∈ x.fl, 0 ≤ y.1 ∧ y.1 < L.p.length)
theorem may_l {L : Ly} (h : mayB L = true) : MayL L := by
  unfold mayB at h
  simp only [Bool.and_eq_true, Bool.not_eq_true', fullB, Bool.or_eq_false_iff, decide_eq_false_iff_not, okN, List.all_eq_true, roB, needB, decide_eq_true_eq] at h
  obtain ⟨⟨⟨⟨hs, hp⟩, hg⟩, hr⟩, ⟨hN, hnd⟩, ⟨⟨hP, hG⟩, hR⟩⟩ := h
  refine ⟨hnd, hN, by omega, by omega, by omega, by omega, fun x hx => inB_iff (hP x hx), fun x hx => inB_iff (hG x hx), fun x hx => ?_⟩
  obtain ⟨⟨h1, ⟨⟨h2, h3⟩, h4⟩, h5⟩, ⟨⟨h6, h7⟩, ⟨h8, h9⟩⟩⟩ := hR x hx
  exact ⟨inB_iff h1, ⟨h2, fun y hy => inB_iff (h4 y hy)⟩, ⟨h6, fun y hy => inB_iff (h7 y hy)⟩, ⟨h3, fun y hy => inB_iff (h5 y hy)⟩, ⟨h8, fun y hy => inB_iff (h9 y hy)⟩⟩
theorem sec_line {M : Ly} {x : List UInt8} (hr : rightB x = true) (hn : nameOf M x = none) (hl : M.s.length ≠ 64) : lineW M [secW, x] = (0, { M with s := M.s ++ [x] }) := by
  unfold lineW
  rw [if_neg (by simp), List.getD_cons_zero, if_pos (show secW = wSection from rfl)]
  unfold secP
  rw [if_neg (by simp [hr]), if_neg (by simp [hn]), if_neg hl]
  rfl
theorem pt_line {M : Ly} {x z : List UInt8} {k : Int} (hr : rightB x = true) (hn : nameOf M x = none) (hk : kN 62 M z = some k) (hl : M.p.length ≠ 32) : lineW M [ptW, x, z] = (0, { M with p := M.p ++ [(x, k)] }) := by
  unfold lineW
  rw [if_neg (by simp), List.getD_cons_zero, if_neg (by decide : ¬ ptW = wSection), if_pos (show ptW = wPoint from rfl)]
  unfold partP
  rw [if_neg (by simp [hr]), if_neg (by simp [hn])]
  simp only [List.getD_cons_succ, List.getD_cons_zero, hk]
  rw [if_pos (show ptW = wPoint from rfl), if_neg hl]
theorem sg_line {M : Ly} {x z : List UInt8} {k : Int} (hr : rightB x = true) (hn : nameOf M x = none) (hk : kN 62 M z = some k) (hl : M.g.length ≠ 32) : lineW M [sgW, x, z] = (0, { M with g := M.g ++ [(x, k)] }) := by
  unfold lineW
  rw [if_neg (by simp), List.getD_cons_zero, if_neg (by decide : ¬ sgW = wSection), if_neg (by decide : ¬ sgW = wPoint), if_pos (show sgW = wSignal from rfl)]
  unfold partP
  rw [if_neg (by simp [hr]), if_neg (by simp [hn])]
  simp only [List.getD_cons_succ, List.getD_cons_zero, hk]
  rw [if_neg (by decide : ¬ sgW = wPoint), if_neg hl]
theorem kN_at {M : Ly} {y : Int} (hd : M.s.Nodup) (h : 0 ≤ y ∧ y < M.s.length) : kN 62 M (nmAt M.s y) = some y := by
  rw [kN_s]
  unfold sIx
  rw [ixT_in hd (nm_at h)]
  simp; omega
theorem ndS {L : Ly} (h : (namesL L).Nodup) : L.s.Nodup ∧ (L.p.map (·.1)).Nodup ∧ (L.g.map (·.1)).Nodup := by
  unfold namesL at h
  rw [List.nodup_append] at h
  have h2 := h.1
  rw [List.nodup_append] at h2
  have h3 := h2.1
  rw [List.nodup_append] at h3
  exact ⟨h3.1, h3.2.1, h2.2.1⟩
theorem right58 {l : List UInt8} (h : rightB l = true) : 58 ∉ l := by
  unfold rightB at h
  simp only [Bool.and_eq_true, decide_eq_true_eq] at h
  have hb := sgn_bytes l.length 0 (by omega) h.1.1
  rw [List.drop_zero] at hb
  exact fun hm => by have := hb 58 hm (by decide); revert this; decide
theorem nd_shp {p : List (List UInt8 × Int)} {x : Int × Bool} (h : nmAt (p.map (·.1)) x.1 ≠ []) : shpB (ndW p x) = true ∧ (ndW p x).take ((ndW p x).length - 1) = nmAt (p.map (·.1)) x.1 ∧ sufB [45] (ndW p x) = x.2 ∧ ndW p x ≠ [58] := by
  obtain ⟨i, b⟩ := x
  unfold ndW
  simp only at h ⊢
  generalize nmAt (p.map (·.1)) i = n at *
  have hl : 0 < n.length := List.length_pos_iff.2 h
  have e1 : (n ++ [if b = true then (45 : UInt8) else 43]).length = n.length + 1 := by simp
  have e2 : (n ++ [if b = true then (45 : UInt8) else 43]).drop n.length = [if b = true then 45 else 43] := List.drop_left ..
  refine ⟨?_, by rw [e1, Nat.add_sub_cancel, List.take_left], ?_, ?_⟩
  · unfold shpB sufB
    rw [e1]
    simp only [List.length_cons, List.length_nil, Nat.zero_add, Nat.add_sub_cancel, e2]
    cases b <;> simp <;> omega
  · unfold sufB
    rw [e1]
    simp only [List.length_cons, List.length_nil, Nat.zero_add, Nat.add_sub_cancel, e2]
    cases b <;> simp
  · intro e
    have := congrArg List.length e
    rw [e1] at this
    simp at this
    exact h this
theorem nm58 {L : Ly} (h : MayL L) {l : List (List UInt8)} (hl : ∀ x ∈ l, x ∈ namesL L) {y : Int} (hy : 0 ≤ y ∧ y < l.length) : nmAt l y ≠ [58] ∧ nmAt l y ≠ [] := by
  have h1 := h.rt _ (hl _ (nm_mem hy))
  exact ⟨fun e => right58 h1 (by rw [e]; simp), (right_gw h1).ne⟩
theorem ro_groups {L : Ly} (h : MayL L) {x : Ro} (hx : x ∈ L.r) : groupsB (roW L x) = [[rtW, x.n, nmAt (L.g.map (·.1)) x.g], x.path.map (nmAt L.s), x.pts.map (ndW L.p), x.ov.map (nmAt L.s), x.fl.map (ndW L.p)] := by
  obtain ⟨h1, ⟨h2, h3⟩, ⟨h4, h5⟩, ⟨h6, h7⟩, ⟨h8, h9⟩⟩ := h.ri x hx
  have sS : ∀ z ∈ L.s, z ∈ namesL L := fun z hz => by simp [namesL, hz]
  have sP : ∀ z ∈ L.p.map (·.1), z ∈ namesL L := fun z hz => by unfold namesL; rw [List.mem_append, List.mem_append, List.mem_append]; exact .inl (.inl (.inr hz))
  have sG : ∀ z ∈ L.g.map (·.1), z ∈ namesL L := fun z hz => by unfold namesL; rw [List.mem_append, List.mem_append]; exact .inl (.inr hz)
  have sR : x.n ∈ namesL L := by unfold namesL; rw [List.mem_append]; exact .inr (List.mem_map_of_mem hx)
  have w1 : ∀ w ∈ x.path.map (nmAt L.s), w ≠ [58] := fun w hw => by
    obtain ⟨y, hy, rfl⟩ := List.mem_map.1 hw; exact (nm58 h sS (h3 y hy)).1
  have w2 : ∀ w ∈ x.pts.map (ndW L.p), w ≠ [58] := fun w hw => by
    obtain ⟨y, hy, rfl⟩ := List.mem_map.1 hw; exact (nd_shp (nm58 h sP (by simpa using h5 y hy)).2).2.2.2
  have w3 : ∀ w ∈ x.ov.map (nmAt L.s), w ≠ [58] := fun w hw => by
    obtain ⟨y, hy, rfl⟩ := List.mem_map.1 hw; exact (nm58 h sS (h7 y hy)).1
  have w4 : ∀ w ∈ x.fl.map (ndW L.p), w ≠ [58] := fun w hw => by
    obtain ⟨y, hy, rfl⟩ := List.mem_map.1 hw; exact (nd_shp (nm58 h sP (by simpa using h9 y hy)).2).2.2.2
  have w0 : ∀ w ∈ [rtW, x.n, nmAt (L.g.map (·.1)) x.g], w ≠ [58] := fun w hw => by
    simp only [List.mem_cons, List.not_mem_nil, or_false] at hw
    rcases hw with rfl | rfl | rfl
    · decide
    · exact fun e => right58 (h.rt _ sR) (by rw [e]; simp)
    · exact (nm58 h sG (by simpa using h1)).1
  have st : ∀ (g : List (List UInt8)) (r : List (List (List UInt8))) (t : List (List UInt8)), ([58] :: t).foldl grp (g :: r) = t.foldl grp ([] :: g :: r) := fun g r t => by
    rw [List.foldl_cons]; unfold grp; rw [if_pos rfl]
  have e0 : roW L x = [rtW, x.n, nmAt (L.g.map (·.1)) x.g] ++ ([58] :: (x.path.map (nmAt L.s) ++ [58] :: (x.pts.map (ndW L.p) ++ [58] :: (x.ov.map (nmAt L.s) ++ [58] :: x.fl.map (ndW L.p))))) := rfl
  unfold groupsB
  rw [e0, List.foldl_append, grp_run _ _ _ w0, st, List.foldl_append, grp_run _ _ _ w1, st, List.foldl_append, grp_run _ _ _ w2, st, List.foldl_append, grp_run _ _ _ w3, st, grp_run _ _ _ w4]
  rfl
theorem ro_line {L M : Ly} (h : MayL L) {x : Ro} (hx : x ∈ L.r) (es : M.s = L.s) (ep : M.p = L.p) (eg : M.g = L.g) (hd : (namesL M).Nodup) (hn : nameOf M x.n = none) (hl : M.r.length ≠ 64) : lineW M (roW L x) = (0, { M with r := M.r ++ [x] }) := by
  have hg := ro_groups h hx
  obtain ⟨h1, ⟨h2, h3⟩, ⟨h4, h5⟩, ⟨h6, h7⟩, ⟨h8, h9⟩⟩ := h.ri x hx
  have sR : x.n ∈ namesL L := by unfold namesL; rw [List.mem_append]; exact .inr (List.mem_map_of_mem hx)
  have sP : ∀ z ∈ L.p.map (·.1), z ∈ namesL L := fun z hz => by unfold namesL; rw [List.mem_append, List.mem_append, List.mem_append]; exact .inl (.inl (.inr hz))
  obtain ⟨n1, n2, n3⟩ := ndS hd
  have dj := dj_of hd
  have kS : ∀ y : Int, 0 ≤ y ∧ y < L.s.length → kN 62 M (nmAt L.s y) = some y := fun y hy => by
    rw [← es] at hy ⊢
    exact kN_at n1 hy
  have kP : ∀ y : Int × Bool, 0 ≤ y.1 ∧ y.1 < L.p.length → ne2 M (ndW L.p y) = some y := fun y hy => by
    obtain ⟨a1, a2, a3, a4⟩ := nd_shp (x := y) (nm58 h sP (by simpa using hy)).2
    unfold ne2
    rw [a2, a3, dj.kp]
    unfold pIx
    rw [ep, ixT_in (by rw [← ep]; exact n2) (nm_at (by simpa using hy))]
    obtain ⟨y, b⟩ := y
    simp at hy ⊢; omega
  have kG : kN 65 M (nmAt (L.g.map (·.1)) x.g) = some x.g := by
    rw [dj.kg]
    unfold gIx
    rw [eg, ixT_in (by rw [← eg]; exact n3) (nm_at (by simpa using h1))]
    simp; omega
  have hsh : ∀ l : List (Int × Bool), (∀ y ∈ l, 0 ≤ y.1 ∧ y.1 < L.p.length) → (l.map (ndW L.p)).all shpB = true := fun l hl => by
    rw [List.all_eq_true]
    intro w hw
    obtain ⟨y, hy, rfl⟩ := List.mem_map.1 hw
    exact (nd_shp (nm58 h sP (by simpa using hl y hy)).2).1
  have g0 : (roW L x).getD 0 [] = rtW := rfl
  have g1 : (roW L x).getD 1 [] = x.n := rfl
  have g2 : (roW L x).getD 2 [] = nmAt (L.g.map (·.1)) x.g := rfl
  unfold lineW
  rw [if_neg (by simp [roW]), g0, if_neg (by decide : ¬ rtW = wSection), if_neg (by decide : ¬ rtW = wPoint), if_neg (by decide : ¬ rtW = wSignal), if_pos (show rtW = wRoute from rfl)]
  unfold routeP
  rw [hg]
  simp only
  rw [routeQ_t rfl (by rw [g1]; exact h.rt _ sR) (hsh _ h5) (hsh _ h9), g1, g2, hn, kG, oAll_map fun y hy => kS y (h3 y hy), oAll_map fun y hy => kP y (h5 y hy), oAll_map fun y hy => kS y (h7 y hy), oAll_map fun y hy => kP y (h9 y hy)]
  simp only [Option.isSome_none, Bool.false_eq_true, if_false]
  rw [if_neg (by omega)]
theorem read_back {L : Ly} (h : MayL L) : foldW ly0 (wsL L) = some L := by
  obtain ⟨nS, _, _⟩ := ndS h.nd
  have f1 := fold_stage L.s (fun x => [secW, x]) (fun i => ⟨L.s.take i, [], [], []⟩) (fun i x hx => by
    obtain ⟨hn, hd⟩ := fresh_of (M := ⟨L.s.take i, [], [], []⟩) (n := x) (t := L.s.drop (i + 1) ++ L.p.map (·.1) ++ L.g.map (·.1) ++ L.r.map (·.n)) h.nd (by
      have := take_split hx
      unfold namesL
      simp only [List.map_nil, List.append_nil, List.append_assoc]
      conv => lhs; rw [this]
      simp)
    have hi := (List.getElem?_eq_some_iff.1 hx).1
    have hs := h.s
    rw [sec_line (h.rt x (by simp [namesL, List.mem_of_getElem? hx])) hn (by simp; omega), take_next hx])
  have f2 := fold_stage L.p (fun x => [ptW, x.1, nmAt L.s x.2]) (fun i => ⟨L.s, L.p.take i, [], []⟩) (fun i x hx => by
    obtain ⟨hn, hd⟩ := fresh_of (M := ⟨L.s, L.p.take i, [], []⟩) (n := x.1) (t := (L.p.drop (i + 1)).map (·.1) ++ L.g.map (·.1) ++ L.r.map (·.n)) h.nd (by
      have := congrArg (List.map (·.1)) (take_split hx)
      unfold namesL
      simp only [List.map_nil, List.append_nil, List.append_assoc]
      conv => lhs; rw [this]
      simp)
    have hi := (List.getElem?_eq_some_iff.1 hx).1
    have hs := h.p
    have hm := List.mem_of_getElem? hx
    rw [pt_line (k := x.2) (h.rt x.1 (by unfold namesL; rw [List.mem_append, List.mem_append, List.mem_append]; exact .inl (.inl (.inr (List.mem_map_of_mem hm))))) hn (kN_at (M := ⟨L.s, L.p.take i, [], []⟩) nS (h.pi x hm)) (by simp; omega), take_next hx])
  have f3 := fold_stage L.g (fun x => [sgW, x.1, nmAt L.s x.2]) (fun i => ⟨L.s, L.p, L.g.take i, []⟩) (fun i x hx => by
    obtain ⟨hn, hd⟩ := fresh_of (M := ⟨L.s, L.p, L.g.take i, []⟩) (n := x.1) (t := (L.g.drop (i + 1)).map (·.1) ++ L.r.map (·.n)) h.nd (by
      have := congrArg (List.map (·.1)) (take_split hx)
      unfold namesL
      simp only [List.map_nil, List.append_nil, List.append_assoc]
      conv => lhs; rw [this]
      simp)
    have hi := (List.getElem?_eq_some_iff.1 hx).1
    have hs := h.g
    have hm := List.mem_of_getElem? hx
    rw [sg_line (k := x.2) (h.rt x.1 (by unfold namesL; rw [List.mem_append, List.mem_append]; exact .inl (.inr (List.mem_map_of_mem hm)))) hn (kN_at (M := ⟨L.s, L.p, L.g.take i, []⟩) nS (h.gi x hm)) (by simp; omega), take_next hx])
  have f4 := fold_stage L.r (roW L) (fun i => ⟨L.s, L.p, L.g, L.r.take i⟩) (fun i x hx => by
    obtain ⟨hn, hd⟩ := fresh_of (M := ⟨L.s, L.p, L.g, L.r.take i⟩) (n := x.n) (t := (L.r.drop (i + 1)).map (·.n)) h.nd (by
      have := congrArg (List.map (·.n)) (take_split hx)
      unfold namesL
      simp only [List.append_assoc]
      conv => lhs; rw [this]
      simp)
    have hi := (List.getElem?_eq_some_iff.1 hx).1
    have hs := h.r
    have hm := List.mem_of_getElem? hx
    rw [ro_line h hm (M := ⟨L.s, L.p, L.g, L.r.take i⟩) rfl rfl rfl hd hn (by simp; omega), take_next hx])
  simp only [List.take_zero, List.take_length] at f1 f2 f3 f4
  unfold wsL ly0
  rw [foldW_app, f1, Option.bind_some, foldW_app, f2, Option.bind_some, foldW_app, f3, Option.bind_some, f4]
end Go.AM.Fd

set_option linter.unusedVariables false
set_option linter.unusedSimpArgs false
namespace Go.AM.Fd
open Go.Proofs Go.AM.F Go.AM.Ky
theorem gw_nm {L : Ly} (h : MayL L) {l : List (List UInt8)} (hl : ∀ x ∈ l, x ∈ namesL L) {y : Int} (hy : 0 ≤ y ∧ y < l.length) : Gw (nmAt l y) := right_gw (h.rt _ (hl _ (nm_mem hy)))
theorem inS (L : Ly) : ∀ z ∈ L.s, z ∈ namesL L := fun z hz => by simp [namesL, hz]
theorem inP (L : Ly) : ∀ z ∈ L.p.map (·.1), z ∈ namesL L := fun z hz => by unfold namesL; rw [List.mem_append, List.mem_append, List.mem_append]; exact .inl (.inl (.inr hz))
theorem inG (L : Ly) : ∀ z ∈ L.g.map (·.1), z ∈ namesL L := fun z hz => by unfold namesL; rw [List.mem_append, List.mem_append]; exact .inl (.inr hz)
theorem inR (L : Ly) : ∀ z ∈ L.r.map (·.n), z ∈ namesL L := fun z hz => by unfold namesL; rw [List.mem_append]; exact .inr hz
theorem gw_w : Gw secW ∧ Gw ptW ∧ Gw sgW ∧ Gw rtW ∧ Gw [58] := ⟨gw_asc (by decide), gw_asc (by decide), gw_asc (by decide), gw_asc (by decide), gw_asc (by decide)⟩
theorem gw_nd {L : Ly} (h : MayL L) {x : Int × Bool} (hx : 0 ≤ x.1 ∧ x.1 < L.p.length) : Gw (ndW L.p x) := by
  have := gw_nm h (inP L) (y := x.1) (by simpa using hx)
  unfold ndW
  cases x.2
  · exact this.snoc (by decide) (by decide) (by decide)
  · exact this.snoc (by decide) (by decide) (by decide)
theorem wsL_good {L : Ly} (h : MayL L) : ∀ ws ∈ wsL L, ∀ w ∈ ws, Gw w := by
  intro ws hws w hw
  unfold wsL at hws
  obtain ⟨a1, a2, a3, a4, a5⟩ := gw_w
  simp only [List.mem_append, List.mem_map] at hws
  rcases hws with ⟨x, hx, rfl⟩ | ⟨x, hx, rfl⟩ | ⟨x, hx, rfl⟩ | ⟨x, hx, rfl⟩
  · simp only [List.mem_cons, List.not_mem_nil, or_false] at hw
    rcases hw with rfl | rfl
    · exact a1
    · exact right_gw (h.rt _ (inS L _ hx))
  · simp only [List.mem_cons, List.not_mem_nil, or_false] at hw
    rcases hw with rfl | rfl | rfl
    · exact a2
    · exact right_gw (h.rt _ (inP L _ (List.mem_map_of_mem hx)))
    · exact gw_nm h (inS L) (h.pi x hx)
  · simp only [List.mem_cons, List.not_mem_nil, or_false] at hw
    rcases hw with rfl | rfl | rfl
    · exact a3
    · exact right_gw (h.rt _ (inG L _ (List.mem_map_of_mem hx)))
    · exact gw_nm h (inS L) (h.gi x hx)
  · obtain ⟨h1, ⟨h2, h3⟩, ⟨h4, h5⟩, ⟨h6, h7⟩, ⟨h8, h9⟩⟩ := h.ri x hx
    unfold roW at hw
    simp only [List.mem_append, List.mem_cons, List.not_mem_nil, or_false, List.mem_map] at hw
    rcases hw with (rfl | rfl | rfl | rfl) | ⟨y, hy, rfl⟩ | rfl | ⟨y, hy, rfl⟩ | rfl | ⟨y, hy, rfl⟩ | rfl | ⟨y, hy, rfl⟩
    · exact a4
    · exact right_gw (h.rt _ (inR L _ (List.mem_map_of_mem hx)))
    · exact gw_nm h (inG L) (by simpa using h1)
    · exact a5
    · exact gw_nm h (inS L) (h3 y hy)
    · exact a5
    · exact gw_nd h (h5 y hy)
    · exact a5
    · exact gw_nm h (inS L) (h7 y hy)
    · exact a5
    · exact gw_nd h (h9 y hy)
theorem parse_print {L : Ly} (h : mayB L = true) (hl : (printT L).length ≤ 16384) : parseP (printT L) = (L, 0, 0) := by
  have m := may_l h
  rw [print_lines] at hl ⊢
  exact parse_lines (wsL_good m) (read_back m) hl
theorem l_may {L : Ly} (h : MayL L) : mayB L = true := by
  unfold mayB
  simp only [Bool.and_eq_true, Bool.not_eq_true', fullB, Bool.or_eq_false_iff, decide_eq_false_iff_not, okN, List.all_eq_true, roB, needB, decide_eq_true_eq]
  have h1 := h.s
  have h2 := h.p
  have h3 := h.g
  have h4 := h.r
  have ib : ∀ {n x : Int}, 0 ≤ x ∧ x < n → inB n x = true := fun h => by simpa [inB] using h
  refine ⟨⟨⟨⟨by omega, by omega⟩, by omega⟩, by omega⟩, ⟨h.rt, h.nd⟩, ⟨fun x hx => ib (h.pi x hx), fun x hx => ib (h.gi x hx)⟩, fun x hx => ?_⟩
  obtain ⟨h1, ⟨h2, h3⟩, ⟨h4, h5⟩, ⟨h6, h7⟩, ⟨h8, h9⟩⟩ := h.ri x hx
  exact ⟨⟨ib h1, ⟨⟨h2, h6⟩, fun y hy => ib (h3 y hy)⟩, fun y hy => ib (h7 y hy)⟩, ⟨h4, fun y hy => ib (h5 y hy)⟩, ⟨h8, fun y hy => ib (h9 y hy)⟩⟩
end Go.AM.Fd

set_option linter.unusedVariables false
set_option linter.unusedSimpArgs false
namespace Go.AM.Fd
open Go.Proofs Go.AM.F Go.AM.Ky
theorem nm_app {l t : List (List UInt8)} {y : Int} (h : 0 ≤ y ∧ y < l.length) : nmAt (l ++ t) y = nmAt l y := by
  unfold nmAt
  have : y.toNat < l.length := by omega
  simp [List.getD, List.getElem?_append_left this]
theorem ixT_inv {n : List UInt8} : ∀ {l : List (List UInt8)} {i : Nat}, ixT n l = some i → l[i]? = some n
  | [], i, h => by simp [ixT] at h
  | x :: l, i, h => by
    simp only [ixT] at h
    split at h
    · rename_i e; subst e; cases h; rfl
    · cases hx : ixT n l with
      | none => rw [hx] at h; cases h
      | some j => rw [hx] at h; cases h; simpa using ixT_inv hx
theorem kN_inv {L : Ly} {w : List UInt8} {k : Int} (h : kN 62 L w = some k) : nmAt L.s k = w ∧ 0 ≤ k ∧ k < L.s.length := by
  rw [kN_s] at h
  unfold sIx at h
  cases hx : ixT w L.s with
  | none => rw [hx] at h; cases h
  | some i =>
    rw [hx] at h; cases h
    have := ixT_inv hx
    have hl := (List.getElem?_eq_some_iff.1 this).1
    refine ⟨by simp [nmAt, List.getD, this], ?_, ?_⟩
    · show (0 : Int) ≤ (i : Int); omega
    · show (i : Int) < _; omega
theorem pIx_inv {L : Ly} {n : List UInt8} {k : Int} (h : pIx L n = some k) : nmAt (L.p.map (·.1)) k = n ∧ 0 ≤ k ∧ k < (L.p.map (·.1)).length := by
  unfold pIx at h
  cases hx : ixT n (L.p.map (·.1)) with
  | none => rw [hx] at h; cases h
  | some i =>
    rw [hx] at h; cases h
    have := ixT_inv hx
    have hl := (List.getElem?_eq_some_iff.1 this).1
    refine ⟨by simp only [nmAt, Int.toNat_natCast, List.getD, this]; rfl, ?_, ?_⟩
    · show (0 : Int) ≤ (i : Int); omega
    · show (i : Int) < _; omega
theorem gIx_inv {L : Ly} {n : List UInt8} {k : Int} (h : gIx L n = some k) : nmAt (L.g.map (·.1)) k = n ∧ 0 ≤ k ∧ k < (L.g.map (·.1)).length := by
  unfold gIx at h
  cases hx : ixT n (L.g.map (·.1)) with
  | none => rw [hx] at h; cases h
  | some i =>
    rw [hx] at h; cases h
    have := ixT_inv hx
    have hl := (List.getElem?_eq_some_iff.1 this).1
    refine ⟨by simp only [nmAt, Int.toNat_natCast, List.getD, this]; rfl, ?_, ?_⟩
    · show (0 : Int) ≤ (i : Int); omega
    · show (i : Int) < _; omega
theorem oAll_inv {α : Type} {f : List UInt8 → Option α} {g : α → List UInt8} {ok : α → Prop} : ∀ {l : List (List UInt8)} {r : List α}, (∀ w ∈ l, ∀ i, f w = some i → g i = w ∧ ok i) → oAll f l = some r → l = r.map g ∧ (∀ i ∈ r, ok i)
  | [], r, _, h => by simp [oAll] at h; subst h; simp
  | w :: l, r, hf, h => by
    simp only [oAll] at h
    split at h
    · rename_i i hi
      cases ho : oAll f l with
      | none => rw [ho] at h; cases h
      | some r' =>
        rw [ho] at h; cases h
        obtain ⟨h1, h2⟩ := hf w (by simp) i hi
        obtain ⟨h3, h4⟩ := oAll_inv (fun x hx => hf x (by simp [hx])) ho
        exact ⟨by rw [List.map_cons, h1, ← h3], fun x hx => by
          rcases List.mem_cons.1 hx with rfl | hx
          · exact h2
          · exact h4 x hx⟩
    · cases h
theorem grp_ne (acc : List (List (List UInt8))) (t : List UInt8) : grp acc t ≠ [] := by
  unfold grp
  split
  · simp
  · split <;> simp
theorem grp_join : ∀ (ts : List (List UInt8)) (acc : List (List (List UInt8))), acc ≠ [] → joinB [58] (ts.foldl grp acc).reverse = joinB [58] acc.reverse ++ ts
  | [], acc, _ => by simp
  | t :: ts, acc, h => by
    rw [List.foldl_cons, grp_join ts _ (grp_ne acc t)]
    have e : joinB [58] (grp acc t).reverse = joinB [58] acc.reverse ++ [t] := by
      unfold grp
      split
      · rename_i e; subst e
        rw [List.reverse_cons, joinB_snoc _ _ _ (by simpa using h)]
      · match acc, h with
        | g :: r, _ =>
          simp only [List.reverse_cons]
          by_cases hr : r = []
          · subst hr; rfl
          · rw [joinB_snoc _ _ _ (by simpa using hr), joinB_snoc _ _ _ (by simpa using hr)]; simp
    rw [e]; simp
theorem groups_join (ts : List (List UInt8)) : joinB [58] (groupsB ts) = ts := by
  unfold groupsB
  rw [grp_join ts [[]] (by simp)]
  rfl
theorem fresh_no {L : Ly} {n : List UInt8} (h : nameOf L n = none) : n ∉ namesL L := fun hm => by
  have h1 := nameOf_ix L n
  rw [h, ixT_mem] at h1
  simp at h1
  exact h1 hm
theorem nd_inv {L : Ly} {w : List UInt8} {x : Int × Bool} (hd : Dj L) (hs : shpB w = true) (h : ne2 L w = some x) : ndW L.p x = w ∧ 0 ≤ x.1 ∧ x.1 < L.p.length := by
  unfold ne2 at h
  rw [hd.kp] at h
  cases hp : pIx L (w.take (w.length - 1)) with
  | none => rw [hp] at h; cases h
  | some i =>
    rw [hp] at h; cases h
    obtain ⟨h1, h2, h3⟩ := pIx_inv hp
    refine ⟨?_, h2, by simpa using h3⟩
    unfold ndW
    simp only
    rw [h1]
    unfold shpB at hs
    simp only [Bool.and_eq_true, decide_eq_true_eq, Bool.or_eq_true] at hs
    have key : ∀ c : UInt8, sufB [c] w = true → w.drop (w.length - 1) = [c] := fun c hc => by
      unfold sufB at hc
      simp only [Bool.and_eq_true, decide_eq_true_eq, List.length_cons, List.length_nil, Nat.zero_add] at hc
      exact hc.2
    have e := List.take_append_drop (w.length - 1) w
    cases h45 : sufB [45] w with
    | true =>
      simp only [if_true]
      rw [← key 45 h45]; exact e
    | false =>
      have h43 : sufB [43] w = true := by
        rcases hs.2 with h | h
        · exact h
        · rw [h45] at h; cases h
      simp only [Bool.false_eq_true, if_false]
      rw [← key 43 h43]; exact e
theorem join_filter (c : UInt8) : ∀ ws : List (List UInt8), (joinB c (ws.filter fun t => !t.isEmpty)).length ≤ (joinB c ws).length := by
  intro ws
  have key : ∀ ws : List (List UInt8), ((ws.filter fun t => !t.isEmpty).flatMap fun x => c :: x).length ≤ (ws.flatMap fun x => c :: x).length := by
    intro ws
    induction ws with
    | nil => simp
    | cons w ws ih =>
      rw [List.filter_cons]
      split
      · simp only [List.flatMap_cons, List.length_append]; omega
      · simp only [List.flatMap_cons, List.length_append]; omega
  have k2 : ∀ ws : List (List UInt8), (joinB c ws).length + (if ws = [] then 0 else 1) = (ws.flatMap fun x => c :: x).length := by
    intro ws
    cases ws with
    | nil => simp [joinB]
    | cons w ws => rw [join_cons]; simp; try omega
  have h1 := key ws
  rw [← k2, ← k2] at h1
  by_cases e : (ws.filter fun t => !t.isEmpty) = []
  · rw [e]; simp [joinB]
  · have e2 : ws ≠ [] := by rintro rfl; simp at e
    rw [if_neg e, if_neg e2] at h1
    omega
theorem words_len (l : List UInt8) : (joinB 32 (wordsB l)).length ≤ l.length := by
  have := join_filter 32 (splitB 32 l)
  rw [join_split] at this
  exact this
theorem rows_ext {L : Ly} (h : MayL L) (a : List (List UInt8)) (b c : List (List UInt8 × Int)) (d : List Ro) :
    L.p.map (fun x => [ptW, x.1, nmAt (L.s ++ a) x.2]) = L.p.map (fun x => [ptW, x.1, nmAt L.s x.2]) ∧ L.g.map (fun x => [sgW, x.1, nmAt (L.s ++ a) x.2]) = L.g.map (fun x => [sgW, x.1, nmAt L.s x.2]) ∧
    L.r.map (roW ⟨L.s ++ a, L.p ++ b, L.g ++ c, d⟩) = L.r.map (roW L) := by
  refine ⟨List.map_congr_left fun x hx => by rw [nm_app (h.pi x hx)], List.map_congr_left fun x hx => by rw [nm_app (h.gi x hx)], List.map_congr_left fun x hx => ?_⟩
  obtain ⟨h1, ⟨h2, h3⟩, ⟨h4, h5⟩, ⟨h6, h7⟩, ⟨h8, h9⟩⟩ := h.ri x hx
  have nd : ∀ l : List (Int × Bool), (∀ y ∈ l, 0 ≤ y.1 ∧ y.1 < L.p.length) → l.map (ndW (L.p ++ b)) = l.map (ndW L.p) := fun l hl => List.map_congr_left fun y hy => by
    unfold ndW
    rw [List.map_append, nm_app (by simpa using hl y hy)]
  have sc : ∀ l : List Int, (∀ y ∈ l, 0 ≤ y ∧ y < L.s.length) → l.map (nmAt (L.s ++ a)) = l.map (nmAt L.s) := fun l hl => List.map_congr_left fun y hy => nm_app (hl y hy)
  unfold roW
  simp only
  rw [List.map_append, nm_app (by simpa using h1), sc _ h3, sc _ h7, nd _ h5, nd _ h9]
structure AddL (L M : Ly) (ws : List (List UInt8)) : Prop where
  m : MayL M
  w : ∃ pre post, wsL L = pre ++ post ∧ wsL M = pre ++ ws :: post
theorem may_ext {L : Ly} (h : MayL L) (a : List (List UInt8)) (b c : List (List UInt8 × Int)) (d : List Ro) (n : List UInt8) (hn : nameOf L n = none) (hr : rightB n = true)
    (hp : (namesL ⟨L.s ++ a, L.p ++ b, L.g ++ c, L.r ++ d⟩).Perm (n :: namesL L)) : (namesL ⟨L.s ++ a, L.p ++ b, L.g ++ c, L.r ++ d⟩).Nodup ∧ ∀ x ∈ namesL ⟨L.s ++ a, L.p ++ b, L.g ++ c, L.r ++ d⟩, rightB x = true := by
  refine ⟨hp.symm.nodup (List.nodup_cons.2 ⟨fresh_no hn, h.nd⟩), fun x hx => ?_⟩
  rcases List.mem_cons.1 (hp.mem_iff.1 hx) with rfl | hx
  · exact hr
  · exact h.rt x hx
theorem len2 {l : List (List UInt8)} (h : l.length = 2) : ∃ a b, l = [a, b] := by
  match l, h with
  | [a, b], _ => exact ⟨a, b, rfl⟩
theorem len3 {l : List (List UInt8)} (h : l.length = 3) : ∃ a b c, l = [a, b, c] := by
  match l, h with
  | [a, b, c], _ => exact ⟨a, b, c, rfl⟩
theorem sec_ok {L : Ly} (h : MayL L) {ws : List (List UInt8)} (h0 : ws.getD 0 [] = wSection) (e : (secP L ws).1 = 0) : AddL L (secP L ws).2 ws := by
  unfold secP at e ⊢
  split at e
  · cases e
  rename_i c1
  simp only [not_or, Decidable.not_not] at c1
  split at e
  · cases e
  rename_i c2
  split at e
  · cases e
  rename_i c3
  rw [if_neg (by simp only [not_or, Decidable.not_not]; exact c1), if_neg c2, if_neg c3]
  obtain ⟨x, y, rfl⟩ := len2 c1.1
  simp only [List.getD_cons_succ, List.getD_cons_zero] at *
  have hn : nameOf L y = none := by cases hy : nameOf L y <;> simp_all
  have hr : rightB y = true := by cases hy : rightB y <;> simp_all
  obtain ⟨m1, m2⟩ := may_ext h [y] [] [] [] y hn hr (by
    unfold namesL
    simp only [List.append_nil, List.append_assoc]
    exact List.perm_middle)
  obtain ⟨e1, e2, e3⟩ := rows_ext h [y] [] [] L.r
  simp only [List.append_nil] at m1 m2 e3
  have hs := h.s
  refine ⟨⟨m1, m2, by simp; omega, h.p, h.g, h.r, fun x hx => by have := h.pi x hx; simp; omega, fun x hx => by have := h.gi x hx; simp; omega, fun x hx => ?_⟩, ?_⟩
  · obtain ⟨h1, ⟨h2, h3⟩, ⟨h4, h5⟩, ⟨h6, h7⟩, ⟨h8, h9⟩⟩ := h.ri x hx
    exact ⟨h1, ⟨h2, fun y hy => by have := h3 y hy; simp; omega⟩, ⟨h4, h5⟩, ⟨h6, fun y hy => by have := h7 y hy; simp; omega⟩, ⟨h8, h9⟩⟩
  · refine ⟨L.s.map (fun x => [secW, x]), _, rfl, ?_⟩
    unfold wsL
    simp only [e1, e2, e3, List.map_append, List.map_cons, List.map_nil, List.append_assoc, List.cons_append, List.nil_append]
    rw [h0]; rfl
end Go.AM.Fd

set_option linter.unusedVariables false
set_option linter.unusedSimpArgs false
namespace Go.AM.Fd
open Go.Proofs Go.AM.F Go.AM.Ky
theorem part_ok {L : Ly} (h : MayL L) {ws : List (List UInt8)} (h0 : ws.getD 0 [] = wPoint ∨ ws.getD 0 [] = wSignal) (e : (partP L ws).1 = 0) : AddL L (partP L ws).2 ws := by
  unfold partP at e ⊢
  split at e
  · cases e
  rename_i c1
  simp only [not_or, Decidable.not_not] at c1
  split at e
  · cases e
  rename_i c2
  rw [if_neg (by simp only [not_or, Decidable.not_not]; exact c1), if_neg c2]
  obtain ⟨x, y, z, rfl⟩ := len3 c1.1
  simp only [List.getD_cons_succ, List.getD_cons_zero] at *
  have hn : nameOf L y = none := by cases hy : nameOf L y <;> simp_all
  have hr : rightB y = true := by cases hy : rightB y <;> simp_all
  cases hk : kN 62 L z with
  | none => rw [hk] at e; cases e
  | some k =>
    rw [hk] at e
    simp only at e ⊢
    obtain ⟨k1, k2, k3⟩ := kN_inv hk
    by_cases hw : x = wPoint
    · rw [if_pos hw] at e ⊢
      split at e
      · cases e
      rename_i c3
      rw [if_neg c3]
      obtain ⟨m1, m2⟩ := may_ext h [] [(y, k)] [] [] y hn hr (by
        unfold namesL
        simp only [List.append_nil, List.append_assoc, List.map_append, List.map_cons, List.map_nil, List.cons_append, List.nil_append]
        have := List.perm_middle (a := y) (l₁ := L.s ++ L.p.map (·.1)) (l₂ := L.g.map (·.1) ++ L.r.map (·.n))
        simpa only [List.append_assoc] using this)
      obtain ⟨e1, e2, e3⟩ := rows_ext h [] [(y, k)] [] L.r
      simp only [List.append_nil] at m1 m2 e1 e2 e3
      have hs := h.p
      refine ⟨⟨m1, m2, h.s, by simp; omega, h.g, h.r, fun x hx => ?_, h.gi, fun x hx => ?_⟩, ?_⟩
      · rcases List.mem_append.1 hx with hx | hx
        · exact h.pi x hx
        · simp at hx; subst hx; exact ⟨k2, k3⟩
      · obtain ⟨h1, ⟨h2, h3⟩, ⟨h4, h5⟩, ⟨h6, h7⟩, ⟨h8, h9⟩⟩ := h.ri x hx
        exact ⟨h1, ⟨h2, h3⟩, ⟨h4, fun y hy => by have := h5 y hy; simp; omega⟩, ⟨h6, h7⟩, ⟨h8, fun y hy => by have := h9 y hy; simp; omega⟩⟩
      · refine ⟨L.s.map (fun x => [secW, x]) ++ L.p.map (fun x => [ptW, x.1, nmAt L.s x.2]), L.g.map (fun x => [sgW, x.1, nmAt L.s x.2]) ++ L.r.map (roW L), ?_, ?_⟩
        · unfold wsL; simp only [List.append_assoc]
        · unfold wsL
          simp only [e3, List.map_append, List.map_cons, List.map_nil, List.append_assoc, List.cons_append, List.nil_append, k1, hw]
          rfl
    · have hg : x = wSignal := by rcases h0 with h0 | h0; exact absurd h0 hw; exact h0
      rw [if_neg hw] at e ⊢
      split at e
      · cases e
      rename_i c3
      rw [if_neg c3]
      obtain ⟨m1, m2⟩ := may_ext h [] [] [(y, k)] [] y hn hr (by
        unfold namesL
        simp only [List.append_nil, List.append_assoc, List.map_append, List.map_cons, List.map_nil, List.cons_append, List.nil_append]
        have := List.perm_middle (a := y) (l₁ := L.s ++ (L.p.map (·.1) ++ L.g.map (·.1))) (l₂ := L.r.map (·.n))
        simpa only [List.append_assoc] using this)
      obtain ⟨e1, e2, e3⟩ := rows_ext h [] [] [(y, k)] L.r
      simp only [List.append_nil] at m1 m2 e1 e2 e3
      have hs := h.g
      refine ⟨⟨m1, m2, h.s, h.p, by simp; omega, h.r, h.pi, fun x hx => ?_, fun x hx => ?_⟩, ?_⟩
      · rcases List.mem_append.1 hx with hx | hx
        · exact h.gi x hx
        · simp at hx; subst hx; exact ⟨k2, k3⟩
      · obtain ⟨h1, h2⟩ := h.ri x hx
        exact ⟨by simp; omega, h2⟩
      · refine ⟨L.s.map (fun x => [secW, x]) ++ (L.p.map (fun x => [ptW, x.1, nmAt L.s x.2]) ++ L.g.map (fun x => [sgW, x.1, nmAt L.s x.2])), L.r.map (roW L), ?_, ?_⟩
        · unfold wsL; simp only [List.append_assoc]
        · unfold wsL
          simp only [e3, List.map_append, List.map_cons, List.map_nil, List.append_assoc, List.cons_append, List.nil_append, k1, hg]
          rfl
theorem route_ok {L : Ly} (h : MayL L) {ws : List (List UInt8)} (h0 : ws.getD 0 [] = wRoute) (e : (routeP L ws).1 = 0) : AddL L (routeP L ws).2 ws := by
  have hj := groups_join ws
  have hd := dj_of h.nd
  unfold routeP at e ⊢
  split at e
  · rename_i g0 g1 g2 g3 g4 hg
    rw [hg] at hj
    try rw [hg]
    try simp only
    have hj : g0 ++ [58] :: (g1 ++ [58] :: (g2 ++ [58] :: (g3 ++ [58] :: g4))) = ws := hj
    unfold routeQ at e ⊢
    split at e
    · cases e
    rename_i c1
    split at e
    · cases e
    rename_i c2
    rw [if_neg c1, if_neg c2]
    simp only [not_or, Decidable.not_not] at c1
    obtain ⟨c10, c11, c12, c13⟩ := c1
    obtain ⟨x, y, z, rfl⟩ := len3 c10
    have w0 : ws.getD 0 [] = x := by rw [← hj]; rfl
    have w1 : ws.getD 1 [] = y := by rw [← hj]; rfl
    have w2 : ws.getD 2 [] = z := by rw [← hj]; rfl
    rw [w1] at c11 c2
    rw [w1, w2] at e ⊢
    have hn : nameOf L y = none := by cases hy : nameOf L y <;> simp_all
    have hr : rightB y = true := by cases hy : rightB y <;> simp_all
    have s2 : ∀ w ∈ g2, shpB w = true := by
      have : g2.all shpB = true := by cases hy : g2.all shpB <;> simp_all
      exact List.all_eq_true.1 this
    have s4 : ∀ w ∈ g4, shpB w = true := by
      have : g4.all shpB = true := by cases hy : g4.all shpB <;> simp_all
      exact List.all_eq_true.1 this
    split at e
    · rename_i s p q o f ks kp kq ko kf
      split at e
      · cases e
      rename_i c3
      rw [if_neg c3]
      rw [hd.kg] at ks
      obtain ⟨g1', gs2, gs3⟩ := gIx_inv ks
      obtain ⟨p1, p2⟩ := oAll_inv (g := nmAt L.s) (ok := fun y => 0 ≤ y ∧ y < L.s.length) (fun w hw i hi => kN_inv hi) kp
      obtain ⟨o1, o2⟩ := oAll_inv (g := nmAt L.s) (ok := fun y => 0 ≤ y ∧ y < L.s.length) (fun w hw i hi => kN_inv hi) ko
      obtain ⟨q1, q2⟩ := oAll_inv (g := ndW L.p) (ok := fun y => 0 ≤ y.1 ∧ y.1 < L.p.length) (fun w hw i hi => nd_inv hd (s2 w hw) hi) kq
      obtain ⟨f1, f2⟩ := oAll_inv (g := ndW L.p) (ok := fun y => 0 ≤ y.1 ∧ y.1 < L.p.length) (fun w hw i hi => nd_inv hd (s4 w hw) hi) kf
      obtain ⟨m1, m2⟩ := may_ext h [] [] [] [⟨y, s, p, q, o, f⟩] y hn hr (by
        unfold namesL
        simp only [List.append_nil, List.append_assoc, List.map_append, List.map_cons, List.map_nil, List.cons_append, List.nil_append]
        have := List.perm_middle (a := y) (l₁ := L.s ++ (L.p.map (·.1) ++ (L.g.map (·.1) ++ L.r.map (·.n)))) (l₂ := [])
        simpa only [List.append_assoc, List.append_nil] using this)
      obtain ⟨e1, e2, e3⟩ := rows_ext h [] [] [] (L.r ++ [⟨y, s, p, q, o, f⟩])
      simp only [List.append_nil] at m1 m2 e1 e2 e3
      have hs := h.r
      refine ⟨⟨m1, m2, h.s, h.p, h.g, by simp; omega, h.pi, h.gi, fun x hx => ?_⟩, ?_⟩
      · rcases List.mem_append.1 hx with hx | hx
        · exact h.ri x hx
        · simp at hx; subst hx
          exact ⟨⟨gs2, by simpa using gs3⟩, ⟨by simp only; omega, p2⟩, ⟨by simp only; omega, q2⟩, ⟨by simp only; omega, o2⟩, ⟨by simp only; omega, f2⟩⟩
      · refine ⟨wsL L, [], by simp, ?_⟩
        have er : roW ⟨L.s, L.p, L.g, L.r ++ [⟨y, s, p, q, o, f⟩]⟩ ⟨y, s, p, q, o, f⟩ = ws := by
          unfold roW
          simp only
          rw [g1', ← p1, ← q1, ← o1, ← f1, ← hj, ← w0, h0]
          rfl
        unfold wsL
        simp only [e3, List.map_append, List.map_cons, List.map_nil, List.append_assoc, List.cons_append, List.nil_append, er]
    · cases e
  · cases e
theorem lineW_ok {L : Ly} (h : MayL L) (ws : List (List UInt8)) (e : (lineW L ws).1 = 0) : (ws = [] ∧ (lineW L ws).2 = L) ∨ AddL L (lineW L ws).2 ws := by
  unfold lineW at e ⊢
  by_cases h0 : ws.length = 0
  · rw [if_pos h0]; exact .inl ⟨List.length_eq_zero_iff.1 h0, rfl⟩
  rw [if_neg h0] at e ⊢
  by_cases h1 : ws.getD 0 [] = wSection
  · rw [if_pos h1] at e ⊢; exact .inr (sec_ok h h1 e)
  rw [if_neg h1] at e ⊢
  by_cases h2 : ws.getD 0 [] = wPoint
  · rw [if_pos h2] at e ⊢; exact .inr (part_ok h (.inl h2) e)
  rw [if_neg h2] at e ⊢
  by_cases h3 : ws.getD 0 [] = wSignal
  · rw [if_pos h3] at e ⊢; exact .inr (part_ok h (.inr h3) e)
  rw [if_neg h3] at e ⊢
  by_cases h4 : ws.getD 0 [] = wRoute
  · rw [if_pos h4] at e ⊢; exact .inr (route_ok h h4 e)
  rw [if_neg h4] at e
  cases e
theorem linesT_add (pre post : List (List (List UInt8))) (ws : List (List UInt8)) : (linesT (pre ++ ws :: post)).length = (linesT (pre ++ post)).length + (joinB 32 ws).length + 1 := by
  unfold linesT
  simp only [List.flatMap_append, List.flatMap_cons, List.length_append, List.length_cons, List.length_nil]
  omega
theorem lineP_ok {L : Ly} (h : MayL L) (l : List UInt8) (e : (lineP L l).1 = 0) : MayL (lineP L l).2 ∧ (linesT (wsL (lineP L l).2)).length ≤ (linesT (wsL L)).length + l.length + 1 := by
  unfold lineP at e ⊢
  by_cases ho : okW (aheadB l) = true
  · rw [if_pos ho] at e ⊢
    have h1 := words_len (aheadB l)
    have h2 := ahead_len l
    rcases lineW_ok h _ e with ⟨_, h3⟩ | ⟨m, pre, post, h4, h5⟩
    · rw [h3]; exact ⟨h, by omega⟩
    · refine ⟨m, ?_⟩
      rw [h4, h5, linesT_add]; omega
  · rw [if_neg ho] at e; cases e
theorem parseG_ok : ∀ (ls : List (List UInt8)) (L : Ly) (i : Nat), MayL L → (parseG lineP L ls i).2.1 = 0 → MayL (parseG lineP L ls i).1 ∧ (linesT (wsL (parseG lineP L ls i).1)).length ≤ (linesT (wsL L)).length + (ls.map fun l => l.length + 1).sum
  | [], L, i, h, _ => ⟨h, by simp [parseG]⟩
  | l :: ls, L, i, h, e => by
    simp only [parseG] at e ⊢
    split at e
    · rename_i h0
      rw [if_pos h0]
      obtain ⟨m, hl⟩ := lineP_ok h l h0
      obtain ⟨m2, hl2⟩ := parseG_ok ls _ (i + 1) m e
      refine ⟨m2, ?_⟩
      simp only [List.map_cons, List.sum_cons]; omega
    · rename_i h0; exact absurd e h0
theorem sum_join (c : UInt8) : ∀ ls : List (List UInt8), ls ≠ [] → (ls.map fun l => l.length + 1).sum = (joinB c ls).length + 1
  | [], h => absurd rfl h
  | [t], _ => by simp [joinB]
  | t :: u :: r, _ => by
    have := sum_join c (u :: r) (by simp)
    show _ = (t ++ c :: joinB c (u :: r)).length + 1
    rw [List.map_cons, List.sum_cons, this, List.length_append, List.length_cons]; omega
theorem may0 : MayL ly0 := ⟨by simp [namesL, ly0], by simp [namesL, ly0], by simp [ly0], by simp [ly0], by simp [ly0], by simp [ly0], by simp [ly0], by simp [ly0], by simp [ly0]⟩
theorem parse_may {s : List UInt8} (e : (parseP s).2.1 = 0) : mayB (parseP s).1 = true ∧ (printT (parseP s).1).length ≤ s.length + 1 := by
  unfold parseP at e ⊢
  by_cases hl : 16384 < s.length
  · rw [if_pos hl] at e; cases e
  rw [if_neg hl] at e ⊢
  obtain ⟨m, h⟩ := parseG_ok (splitB 10 s) ly0 0 may0 e
  rw [sum_join 10 _ (Go.AM.splitB_ne 10 s), join_split] at h
  refine ⟨l_may m, ?_⟩
  rw [print_lines]
  have : (linesT (wsL ly0)).length = 0 := rfl
  omega
end Go.AM.Fd

set_option linter.unusedSimpArgs false
set_option linter.unusedVariables false
namespace Go.AM.Fd
open Nat (reduceAdd reduceEqDiff reduceLT reduceLeDiff reduceMul reduceSub)
open Go.Proofs Go.AM.F Go.AM.Ky
theorem prV_ok {L : Ly} (h : mayB L = true) (hl : (printT L).length ≤ 16384) : prV L = .tuple #[.string ⟨(printT L).toArray⟩, .int .i64 0] := by
  unfold prV; rw [if_pos h, if_pos hl]
theorem prV_no {L : Ly} (h : ¬ (mayB L = true ∧ (printT L).length ≤ 16384)) : ∃ e : Int, e ≠ 0 ∧ prV L = .tuple #[.string ⟨([] : List UInt8).toArray⟩, .int .i64 e] := by
  unfold prV
  by_cases h1 : mayB L = true
  · by_cases h2 : (printT L).length ≤ 16384
    · exact absurd ⟨h1, h2⟩ h
    · rw [if_pos h1, if_neg h2]; exact ⟨3, by decide, rfl⟩
  · rw [if_neg h1]; exact ⟨2, by decide, rfl⟩
def BM (A S : Value) (H : AHeap) (u : V4) (fr : List Value) (K : AHeap) : Prop :=
  ∃ (x4 x5 x6 x7 x8 x9 x10 x11 x12 x13 x14 x15 x16 x17 x18 : Value), fr = [S, A, ptr H.n 0, .bool false, x4, x5, x6, x7, x8, x9, x10, x11, x12, x13, x14, x15, x16, x17, x18] ∧ Keeps (vB H u) K
theorem parse_fit (s : List UInt8) : LyIn 9223372036854775807 (parseP s).1 := by rw [eq_parse]; exact (parseD_fit s).in_
set_option maxHeartbeats 4000000 in
theorem t7L {H : AHeap} {s : List UInt8} {u : V4} {xs : List RV} {L : Ly} (hs : s.length ≤ 9223372036854775807) (hl : LyR H u xs L) (hi : LyIn 9223372036854775807 L) : ∃ w H', ARun Go.Proofs.Tryd.prog 4 7 [.string ⟨s.toArray⟩, .agg u.l.toArray] H w H' ∧ w = .bool true := by
  refine walk2 f7_ok f7_n ?_
  intro Q hq1 hq2
  have kv := vB_k H u
  have hv := hl.keeps kv
  have gv := vB_g H u
  have ho := ly_ones hl
  have ll : u.l.length = 4 := rfl
  have eq1 : ∀ n : Int, (n == n) = true := fun n => beqi_yes rfl
  refine W_part 4 (BM (.agg u.l.toArray) (.string ⟨s.toArray⟩) H u) (by kernel_rfl) ?_ (fun fr K m => ?_)
  · intro Q' a _ b
    have ret : ∀ (fr : List Value) (K : AHeap), fr.getD 3 undef = .bool true → Q' .ret fr K := fun fr K e => b _ _ (hq2 _ _ ⟨.bool true, by show some (tupV [fr.getD 3 undef]) = _; rw [e]; rfl, rfl⟩)
    by_cases e1 : (1500 : Int) < ((s.length : Nat) : Int)
    · simp (disch := first | assumption | omega | (simp only [LN] <;> omega) | (simp (disch := first | assumption | omega | (simp only [LN] <;> omega)) only [row_alloc, row_set]; assumption)) only [f7, cpre, W_block, P3, ↓reduceIte, reduceAdd, reduceEqDiff, reduceCtorEq, initFr, reduceLT, clsA, reduceLeDiff, reduceMul, reduceSub, reduceIte, ho, ll, a_lens]
      refine callK (t8 _) ?_
      rintro _ K ⟨rfl, k⟩
      simp (disch := first | assumption | omega | (simp only [LN] <;> omega) | (simp (disch := first | assumption | omega | (simp only [LN] <;> omega)) only [row_alloc, row_set]; assumption)) only [W_block, P3, ↓reduceIte, reduceAdd, reduceEqDiff, reduceCtorEq, initFr, reduceLT, clsA, reduceLeDiff, reduceMul, reduceSub, reduceIte]
      exact ret _ _ rfl
    have hg := gv
    unfold vB at hg
    simp (disch := first | assumption | omega | (simp only [LN] <;> omega) | (simp (disch := first | assumption | omega | (simp only [LN] <;> omega)) only [row_alloc, row_set]; assumption)) only [f7, cpre, W_block, P3, ↓reduceIte, reduceAdd, reduceEqDiff, reduceCtorEq, initFr, reduceLT, clsA, reduceLeDiff, reduceMul, reduceSub, reduceIte, ho, ll, a_lens]
    refine callK (t12 (top := 1500) (by omega) hv hi) ?_
    rintro _ X ⟨⟨n, rfl⟩, hX⟩
    rw [hX]
    by_cases hn : (1500 : Int) < n
    · simp (disch := first | assumption | omega | (simp only [LN] <;> omega) | (simp (disch := first | assumption | omega | (simp only [LN] <;> omega)) only [row_alloc, row_set]; assumption)) only [W_block, P3, ↓reduceIte, reduceAdd, reduceEqDiff, reduceCtorEq, initFr, reduceLT, clsA, reduceLeDiff, reduceMul, reduceSub, reduceIte]
      refine callK (t8 _) ?_
      rintro _ K ⟨rfl, k⟩
      simp (disch := first | assumption | omega | (simp only [LN] <;> omega) | (simp (disch := first | assumption | omega | (simp only [LN] <;> omega)) only [row_alloc, row_set]; assumption)) only [W_block, P3, ↓reduceIte, reduceAdd, reduceEqDiff, reduceCtorEq, initFr, reduceLT, clsA, reduceLeDiff, reduceMul, reduceSub, reduceIte]
      exact ret _ _ rfl
    simp (disch := first | assumption | omega | (simp only [LN] <;> omega) | (simp (disch := first | assumption | omega | (simp only [LN] <;> omega)) only [row_alloc, row_set]; assumption)) only [W_block, P3, ↓reduceIte, reduceAdd, reduceEqDiff, reduceCtorEq, initFr, reduceLT, clsA, reduceLeDiff, reduceMul, reduceSub, reduceIte]
    refine callK (t9 _ s) ?_
    rintro _ K1 ⟨k1, u1, xs1, rfl, y1⟩
    have o1 := ly_ones y1
    have l1 : u1.l.length = 4 := rfl
    have hfit := parse_fit s
    have hpm := parse_may (s := s)
    simp (disch := first | assumption | omega | (simp only [LN] <;> omega) | (simp (disch := first | assumption | omega | (simp only [LN] <;> omega)) only [row_alloc, row_set]; assumption)) only [W_block, P3, ↓reduceIte, reduceAdd, reduceEqDiff, reduceCtorEq, initFr, reduceLT, clsA, reduceLeDiff, reduceMul, reduceSub, reduceIte, o1, l1]
    have g2 : (K1.alloc (.cells true false 4 u1.l 28)).get K1.n = some (.cells true false 4 u1.l 28) := AHeap.get_alloc_new _ _
    have kk1 : Keeps K1 (K1.alloc (.cells true false 4 u1.l 28)) := (Keeps.refl K1).alloc _
    have kk : Keeps (vB H u) (K1.alloc (.cells true false 4 u1.l 28)) := k1.trans kk1
    have y2 := y1.keeps kk1
    by_cases he : (parseP s).2.1 = 0
    · have hb : ((parseP s).2.1 == 0) = true := by simpa using he
      obtain ⟨hm, hpl⟩ := hpm he
      have hpl2 : (printT (parseP s).1).length ≤ 16384 := by omega
      have hpr := prV_ok hm hpl2
      have hpp := parse_print hm hpl2
      generalize parseP s = r at *
      generalize K1.alloc (.cells true false 4 u1.l 28) = K2 at *
      simp (disch := first | assumption | omega | (simp only [LN] <;> omega) | (simp (disch := first | assumption | omega | (simp only [LN] <;> omega)) only [row_alloc, row_set]; assumption)) only [W_block, P3, ↓reduceIte, reduceAdd, reduceEqDiff, reduceCtorEq, initFr, reduceLT, clsA, reduceLeDiff, reduceMul, reduceSub, reduceIte, hb, g2, l1]
      refine callK (lPrintA y2 hfit) ?_
      rintro _ X ⟨rfl, hX⟩
      rw [hX, hpr]
      simp (disch := first | assumption | omega | (simp only [LN] <;> omega) | (simp (disch := first | assumption | omega | (simp only [LN] <;> omega)) only [row_alloc, row_set]; assumption)) only [W_block, P3, ↓reduceIte, reduceAdd, reduceEqDiff, reduceCtorEq, initFr, reduceLT, clsA, reduceLeDiff, reduceMul, reduceSub, reduceIte]
      refine callK (t9 _ (printT r.1)) ?_
      rintro _ K3 ⟨k3, u3, xs3, rfl, y3⟩
      rw [hpp] at y3 ⊢
      have o3 := ly_ones y3
      have l3 : u3.l.length = 4 := rfl
      simp (disch := first | assumption | omega | (simp only [LN] <;> omega) | (simp (disch := first | assumption | omega | (simp only [LN] <;> omega)) only [row_alloc, row_set]; assumption)) only [W_block, P3, ↓reduceIte, reduceAdd, reduceEqDiff, reduceCtorEq, initFr, reduceLT, clsA, reduceLeDiff, reduceMul, reduceSub, reduceIte, o3, l3]
      have kk3 : Keeps K3 (K3.alloc (.cells true false 4 u3.l 28)) := (Keeps.refl K3).alloc _
      have g3 : (K3.alloc (.cells true false 4 u3.l 28)).get K3.n = some (.cells true false 4 u3.l 28) := AHeap.get_alloc_new _ _
      have g4 := (k3.trans kk3).at_ g2
      have y4 := y2.keeps (k3.trans kk3)
      have y5 := y3.keeps kk3
      have kk5 := kk.trans (k3.trans kk3)
      generalize K3.alloc (.cells true false 4 u3.l 28) = K4 at *
      simp (disch := first | assumption | omega | (simp only [LN] <;> omega) | (simp (disch := first | assumption | omega | (simp only [LN] <;> omega)) only [row_alloc, row_set]; assumption)) only [W_block, P3, ↓reduceIte, reduceAdd, reduceEqDiff, reduceCtorEq, initFr, reduceLT, clsA, reduceLeDiff, reduceMul, reduceSub, reduceIte, g4, l1]
      refine callK (lMayA y4 hfit) ?_
      rintro _ X ⟨rfl, hX⟩
      rw [hX, hm]
      have z0 : ((0 : Int) != 0) = false := rfl
      simp (disch := first | assumption | omega | (simp only [LN] <;> omega) | (simp (disch := first | assumption | omega | (simp only [LN] <;> omega)) only [row_alloc, row_set]; assumption)) only [W_block, P3, ↓reduceIte, reduceAdd, reduceEqDiff, reduceCtorEq, initFr, reduceLT, clsA, reduceLeDiff, reduceMul, reduceSub, reduceIte, g3, g4, l1, l3, z0]
      refine callK (t11 y4 y5 hfit) ?_
      rintro _ K5 ⟨rfl, k5⟩
      simp (disch := first | assumption | omega | (simp only [LN] <;> omega) | (simp (disch := first | assumption | omega | (simp only [LN] <;> omega)) only [row_alloc, row_set]; assumption)) only [W_block, P3, ↓reduceIte, reduceAdd, reduceEqDiff, reduceCtorEq, initFr, reduceLT, clsA, reduceLeDiff, reduceMul, reduceSub, reduceIte]
      exact a _ _ ⟨_, _, _, _, _, _, _, _, _, _, _, _, _, _, _, rfl, kk5.trans k5⟩
    · have hb : ((parseP s).2.1 == 0) = false := by simpa using he
      simp (disch := first | assumption | omega | (simp only [LN] <;> omega) | (simp (disch := first | assumption | omega | (simp only [LN] <;> omega)) only [row_alloc, row_set]; assumption)) only [W_block, P3, ↓reduceIte, reduceAdd, reduceEqDiff, reduceCtorEq, initFr, reduceLT, clsA, reduceLeDiff, reduceMul, reduceSub, reduceIte, hb]
      exact a _ _ ⟨_, _, _, _, _, _, _, _, _, _, _, _, _, _, _, rfl, kk⟩
  · obtain ⟨x4, x5, x6, x7, x8, x9, x10, x11, x12, x13, x14, x15, x16, x17, x18, rfl, hkK⟩ := m
    have gl := hkK.at_ gv
    have hK := hv.keeps hkK
    by_cases hp : mayB L = true ∧ (printT L).length ≤ 16384
    · have hpr := prV_ok hp.1 hp.2
      have hpp := parse_print hp.1 hp.2
      have z0 : ((0 : Int) != 0) = false := rfl
      simp (disch := first | assumption | omega | (simp only [LN] <;> omega) | (simp (disch := first | assumption | omega | (simp only [LN] <;> omega)) only [row_alloc, row_set]; assumption)) only [f7, cpost, W_block, P3, ↓reduceIte, reduceAdd, reduceEqDiff, reduceCtorEq, initFr, reduceLT, clsA, reduceLeDiff, reduceMul, reduceSub, reduceIte, gl, ll]
      refine callK (lPrintA hK hi) ?_
      rintro _ X ⟨rfl, hX⟩
      rw [hX, hpr]
      simp (disch := first | assumption | omega | (simp only [LN] <;> omega) | (simp (disch := first | assumption | omega | (simp only [LN] <;> omega)) only [row_alloc, row_set]; assumption)) only [W_block, P3, ↓reduceIte, reduceAdd, reduceEqDiff, reduceCtorEq, initFr, reduceLT, clsA, reduceLeDiff, reduceMul, reduceSub, reduceIte, z0]
      refine callK (t9 _ (printT L)) ?_
      rintro _ K3 ⟨k3, u3, xs3, rfl, y3⟩
      rw [hpp] at y3 ⊢
      have o3 := ly_ones y3
      have l3 : u3.l.length = 4 := rfl
      simp (disch := first | assumption | omega | (simp only [LN] <;> omega) | (simp (disch := first | assumption | omega | (simp only [LN] <;> omega)) only [row_alloc, row_set]; assumption)) only [W_block, P3, ↓reduceIte, reduceAdd, reduceEqDiff, reduceCtorEq, initFr, reduceLT, clsA, reduceLeDiff, reduceMul, reduceSub, reduceIte, o3, l3]
      have kk3 : Keeps K3 (K3.alloc (.cells true false 4 u3.l 28)) := (Keeps.refl K3).alloc _
      have g3 : (K3.alloc (.cells true false 4 u3.l 28)).get K3.n = some (.cells true false 4 u3.l 28) := AHeap.get_alloc_new _ _
      have g4 := (k3.trans kk3).at_ gl
      have y4 := hK.keeps (k3.trans kk3)
      have y5 := y3.keeps kk3
      generalize K3.alloc (.cells true false 4 u3.l 28) = K4 at *
      simp (disch := first | assumption | omega | (simp only [LN] <;> omega) | (simp (disch := first | assumption | omega | (simp only [LN] <;> omega)) only [row_alloc, row_set]; assumption)) only [W_block, P3, ↓reduceIte, reduceAdd, reduceEqDiff, reduceCtorEq, initFr, reduceLT, clsA, reduceLeDiff, reduceMul, reduceSub, reduceIte, g3, g4, ll, l3, eq1]
      refine callK (t11 y4 y5 hi) ?_
      rintro _ K5 ⟨rfl, k5⟩
      simp (disch := first | assumption | omega | (simp only [LN] <;> omega) | (simp (disch := first | assumption | omega | (simp only [LN] <;> omega)) only [row_alloc, row_set]; assumption)) only [W_block, P3, ↓reduceIte, reduceAdd, reduceEqDiff, reduceCtorEq, initFr, reduceLT, clsA, reduceLeDiff, reduceMul, reduceSub, reduceIte]
      refine callK (t8 _) ?_
      rintro _ X2 ⟨rfl, k6⟩
      simp (disch := first | assumption | omega | (simp only [LN] <;> omega) | (simp (disch := first | assumption | omega | (simp only [LN] <;> omega)) only [row_alloc, row_set]; assumption)) only [W_block, P3, ↓reduceIte, reduceAdd, reduceEqDiff, reduceCtorEq, initFr, reduceLT, clsA, reduceLeDiff, reduceMul, reduceSub, reduceIte]
      exact hq2 _ _ ⟨_, rfl, rfl⟩
    · obtain ⟨e, he, hpr⟩ := prV_no hp
      have hb : (e != 0) = true := by simpa using he
      have es := b_eqS [] []
      rw [decide_eq_true rfl] at es
      simp (disch := first | assumption | omega | (simp only [LN] <;> omega) | (simp (disch := first | assumption | omega | (simp only [LN] <;> omega)) only [row_alloc, row_set]; assumption)) only [f7, cpost, W_block, P3, ↓reduceIte, reduceAdd, reduceEqDiff, reduceCtorEq, initFr, reduceLT, clsA, reduceLeDiff, reduceMul, reduceSub, reduceIte, gl, ll]
      refine callK (lPrintA hK hi) ?_
      rintro _ X ⟨rfl, hX⟩
      rw [hX, hpr]
      simp (disch := first | assumption | omega | (simp only [LN] <;> omega) | (simp (disch := first | assumption | omega | (simp only [LN] <;> omega)) only [row_alloc, row_set]; assumption)) only [W_block, P3, ↓reduceIte, reduceAdd, reduceEqDiff, reduceCtorEq, initFr, reduceLT, clsA, reduceLeDiff, reduceMul, reduceSub, reduceIte, hb, es]
      refine callK (t8 _) ?_
      rintro _ X2 ⟨rfl, k6⟩
      simp (disch := first | assumption | omega | (simp only [LN] <;> omega) | (simp (disch := first | assumption | omega | (simp only [LN] <;> omega)) only [row_alloc, row_set]; assumption)) only [W_block, P3, ↓reduceIte, reduceAdd, reduceEqDiff, reduceCtorEq, initFr, reduceLT, clsA, reduceLeDiff, reduceMul, reduceSub, reduceIte]
      exact hq2 _ _ ⟨_, rfl, rfl⟩
theorem lawBack : ∀ H args, NoOwn H → AVs Go.Proofs.Tryd.prog H.get [9, 28] args → ∃ H', ARun Go.Proofs.Tryd.prog 4 7 args H (.bool true) H' := by
  intro H args _ h
  match args, h with
  | [a, v], ⟨h0, h1, _⟩ =>
    obtain ⟨s, rfl, hs⟩ := av_str h0
    obtain ⟨u, xs, L, rfl, hl, hi⟩ := av_ly h1
    obtain ⟨_, K, a, rfl⟩ := t7L hs hl hi
    exact ⟨K, a⟩
end Go.AM.Fd
