/- Part of the proof. -/
import Derived.Test.YtkhnmniiopodoaaGIT05
set_option linter.unusedSimpArgs false
set_option linter.unusedVariables false
set_option linter.unusedSimpArgs false
set_option linter.unusedVariables false
set_option maxRecDepth 8000
namespace Go.AM.Fd
open Nat (reduceAdd reduceEqDiff reduceLT reduceLeDiff reduceMul reduceSub)
open Go.Proofs Go.AM.F
theorem t63 {H : AHeap} {x : RV} (h : x.ok H) (hl : x.r.path.length + x.r.ov.length ≤ 1000000) :
    ∃ w H', ARun Go.Proofs.Try.prog 0 63 [.agg x.row.toArray] H w H' ∧ IL H' w (trk x.r) ∧ Keeps H H' ∧ Fresh H.n w := by
  refine walk2 f63_ok f63_n ?_
  intro Q hq1 hq2
  have o1 : one1 (Value.int .i64 x.r.g) = True := by simp [one1, one_int]
  have o2 : one1 (Value.string ⟨x.r.n.toArray⟩) = True := by simp [one1, one_str]
  obtain ⟨a3, a4, a5, a6⟩ := RV.ones h
  have hp := h.p
  have ho := h.o
  have rowx : x.row = [.string ⟨x.r.n.toArray⟩, .int .i64 x.r.g, x.vp, x.vq, x.vo, x.vf] := rfl
  obtain ⟨K, hK⟩ : ∃ X, X = H.alloc (.cells true false 6 x.row 50) := ⟨_, rfl⟩
  have kK : Keeps H K := by rw [hK]; exact (Keeps.refl H).alloc _
  have gK : K.get H.n = some (.cells true false 6 x.row 50) := by rw [hK]; exact AHeap.get_alloc_new H _
  rw [rowx] at hK gK ⊢
  simp (disch := first | assumption | omega | (simp only [LN] <;> omega) | (simp (disch := first | assumption | omega | (simp only [LN] <;> omega)) only [row_alloc, row_set]; assumption)) only [f63, W_block, P3, ↓reduceIte, reduceAdd, reduceEqDiff, reduceCtorEq, initFr, reduceLT, clsA, reduceLeDiff, reduceMul, reduceSub, reduceIte, o1, o2, a3, a4, a5, a6]
  rw [← hK]
  refine OW.appR (OW.nil 3 1 kK) (Sl.keeps hp kK) (by simp; omega) ?_
  intro v K2 ow c2
  have kK2 : Keeps K K2 := by rw [show blkL (Value.slice none 0 0) = [] from rfl] at c2; exact c2.keeps (by simp)
  have gK2 := kK2.at_ gK
  simp (disch := first | assumption | omega | (simp only [LN] <;> omega) | (simp (disch := first | assumption | omega | (simp only [LN] <;> omega)) only [row_alloc, row_set]; assumption)) only [W_block, P3, ↓reduceIte, reduceAdd, reduceEqDiff, reduceCtorEq, initFr, reduceLT, clsA, reduceLeDiff, reduceMul, reduceSub, reduceIte, gK2]
  refine OW.appR ow (Sl.keeps ho (kK.trans kK2)) (by simp; omega) ?_
  intro v2 K3 ow2 c3
  simp (disch := first | assumption | omega | (simp only [LN] <;> omega) | (simp (disch := first | assumption | omega | (simp only [LN] <;> omega)) only [row_alloc, row_set]; assumption)) only [W_block, P3, ↓reduceIte, reduceAdd, reduceEqDiff, reduceCtorEq, initFr, reduceLT, clsA, reduceLeDiff, reduceMul, reduceSub, reduceIte]
  refine hq2 _ _ ⟨v2, rfl, ?_, ow2.k, ow2.f⟩
  have := ow2.sl
  simpa [IL, trk] using this
theorem t28 {H : AHeap} {x : RV} (h : x.ok H) (hl : x.r.pts.length + x.r.fl.length ≤ 1000000) :
    ∃ w H', ARun Go.Proofs.Try.prog 0 28 [.agg x.row.toArray] H w H' ∧ NL H' w (nds x.r) ∧ Keeps H H' ∧ Fresh H.n w := by
  refine walk2 f28_ok f28_n ?_
  intro Q hq1 hq2
  have o1 : one1 (Value.int .i64 x.r.g) = True := by simp [one1, one_int]
  have o2 : one1 (Value.string ⟨x.r.n.toArray⟩) = True := by simp [one1, one_str]
  obtain ⟨a3, a4, a5, a6⟩ := RV.ones h
  have hp := h.q
  have ho := h.f
  have rowx : x.row = [.string ⟨x.r.n.toArray⟩, .int .i64 x.r.g, x.vp, x.vq, x.vo, x.vf] := rfl
  obtain ⟨K, hK⟩ : ∃ X, X = H.alloc (.cells true false 6 x.row 50) := ⟨_, rfl⟩
  have kK : Keeps H K := by rw [hK]; exact (Keeps.refl H).alloc _
  have gK : K.get H.n = some (.cells true false 6 x.row 50) := by rw [hK]; exact AHeap.get_alloc_new H _
  rw [rowx] at hK gK ⊢
  simp (disch := first | assumption | omega | (simp only [LN] <;> omega) | (simp (disch := first | assumption | omega | (simp only [LN] <;> omega)) only [row_alloc, row_set]; assumption)) only [f28, W_block, P3, ↓reduceIte, reduceAdd, reduceEqDiff, reduceCtorEq, initFr, reduceLT, clsA, reduceLeDiff, reduceMul, reduceSub, reduceIte, o1, o2, a3, a4, a5, a6]
  rw [← hK]
  refine OW.appR (OW.nil 68 2 kK) (Sl.keeps hp kK) (by simp; omega) ?_
  intro v K2 ow c2
  have kK2 : Keeps K K2 := by rw [show blkL (Value.slice none 0 0) = [] from rfl] at c2; exact c2.keeps (by simp)
  have gK2 := kK2.at_ gK
  simp (disch := first | assumption | omega | (simp only [LN] <;> omega) | (simp (disch := first | assumption | omega | (simp only [LN] <;> omega)) only [row_alloc, row_set]; assumption)) only [W_block, P3, ↓reduceIte, reduceAdd, reduceEqDiff, reduceCtorEq, initFr, reduceLT, clsA, reduceLeDiff, reduceMul, reduceSub, reduceIte, gK2]
  refine OW.appR ow (Sl.keeps ho (kK.trans kK2)) (by simp; omega) ?_
  intro v2 K3 ow2 c3
  simp (disch := first | assumption | omega | (simp only [LN] <;> omega) | (simp (disch := first | assumption | omega | (simp only [LN] <;> omega)) only [row_alloc, row_set]; assumption)) only [W_block, P3, ↓reduceIte, reduceAdd, reduceEqDiff, reduceCtorEq, initFr, reduceLT, clsA, reduceLeDiff, reduceMul, reduceSub, reduceIte]
  refine hq2 _ _ ⟨v2, rfl, ?_, ow2.k, ow2.f⟩
  have := ow2.sl
  simpa [NL, nds] using this
theorem take_any {l : List Int} {i : Nat} {n : Int} (h : i < l.length) (hp : (l.take i).contains n = false) (hx : (l.getD i 0 == n) = false) : (l.take (i + 1)).contains n = false := by
  rw [List.take_add_one, List.getElem?_eq_getElem h, List.contains_append, hp]
  rw [List.getD_eq_getElem?_getD, List.getElem?_eq_getElem h] at hx
  simp only [Option.getD_some] at hx
  simp only [Option.toList_some, List.contains_cons, List.contains_nil, Bool.or_false, Bool.false_or]
  rw [Bool.eq_false_iff]; intro e
  have := beq_iff_eq.1 e
  simp [this] at hx
theorem t64 {H : AHeap} {v : Value} {l : List Int} (h : IL H v l) (hl : l.length ≤ 1000000) (n : Int) :
    ∃ w H', ARun Go.Proofs.Try.prog 0 64 [v, .int .i64 n] H w H' ∧ w = .bool (l.contains n) ∧ H' = H := by
  refine walk2 f64_ok f64_n ?_
  intro Q hq1 hq2
  have is := Sl.is h
  have len := h.len
  simp (disch := first | assumption | omega | (simp only [LN] <;> omega) | (simp (disch := first | assumption | omega | (simp only [LN] <;> omega)) only [row_alloc, row_set]; assumption)) only [ f64, P3, ↓reduceIte, reduceAdd, reduceEqDiff, reduceCtorEq, initFr, reduceLT, clsA, reduceLeDiff, reduceMul, reduceSub, reduceIte]
  rw [W_block]
  refine W_loop2 (fun q fr K => ∃ i x4 x5, fr = [v, .int .i64 n, .bool false, .int .i64 ((i : Nat) : Int), x4, x5] ∧ K = H ∧ i ≤ l.length ∧ (l.take i).contains n = false ∧ q = l.length - i) l.length
    ⟨0, _, _, rfl, rfl, by omega, by simp, rfl⟩ ?_
  rintro Q' q fr K ⟨i, x4, x5, rfl, rfl, hi, hp, rfl⟩ hn' hx' hret
  by_cases hlt : i < l.length
  · obtain ⟨na, ra⟩ := h.at_ hlt
    have e0 : (0 : Int) ≤ (i : Int) := by omega
    have e1 : (i : Int) < ((l.length : Nat) : Int) := by omega
    have hw : IntKind.i64.wrap ((i : Int) + 1) = ((i + 1 : Nat) : Int) := by rw [wrap_i64 (by omega) (by omega)]; simp
    have hgd : l.getD i 0 ∈ l := by rw [List.getD_eq_getElem?_getD, List.getElem?_eq_getElem hlt]; exact List.getElem_mem hlt
    cases hx : (l.getD i 0 == n) with
    | true =>
      simp (disch := first | assumption | omega | (simp only [LN] <;> omega) | (simp (disch := first | assumption | omega | (simp only [LN] <;> omega)) only [row_alloc, row_set]; assumption)) only [W_block, P3, ↓reduceIte, reduceAdd, reduceEqDiff, reduceCtorEq, initFr, reduceLT, clsA, reduceLeDiff, reduceMul, reduceSub, reduceIte, is, len, e0, e1, na, ra, a_load1v, hx]
      refine hret _ _ ?_
      refine hq2 _ _ ⟨_, rfl, ?_, rfl⟩
      have : l.contains n = true := List.contains_iff_mem.2 (by rw [← beq_iff_eq.1 hx]; exact hgd)
      rw [this]; rfl
    | false =>
      simp (disch := first | assumption | omega | (simp only [LN] <;> omega) | (simp (disch := first | assumption | omega | (simp only [LN] <;> omega)) only [row_alloc, row_set]; assumption)) only [W_block, P3, ↓reduceIte, reduceAdd, reduceEqDiff, reduceCtorEq, initFr, reduceLT, clsA, reduceLeDiff, reduceMul, reduceSub, reduceIte, is, len, e0, e1, na, ra, a_load1v, hx, hw]
      exact hn' _ _ _ ⟨i + 1, _, _, rfl, rfl, by omega, take_any hlt hp hx, rfl⟩ (by omega)
  · have e1 : ¬ ((i : Nat) : Int) < ((l.length : Nat) : Int) := by omega
    have hie : i = l.length := by omega
    subst hie
    rw [List.take_length] at hp
    simp (disch := first | assumption | omega | (simp only [LN] <;> omega) | (simp (disch := first | assumption | omega | (simp only [LN] <;> omega)) only [row_alloc, row_set]; assumption)) only [W_block, P3, ↓reduceIte, reduceAdd, reduceEqDiff, reduceCtorEq, initFr, reduceLT, clsA, reduceLeDiff, reduceMul, reduceSub, reduceIte, is, len, e1]
    refine hx' _ _ _ ?_
    simp (disch := first | assumption | omega | (simp only [LN] <;> omega) | (simp (disch := first | assumption | omega | (simp only [LN] <;> omega)) only [row_alloc, row_set]; assumption)) only [W_block, P3, ↓reduceIte, reduceAdd, reduceEqDiff, reduceCtorEq, initFr, reduceLT, clsA, reduceLeDiff, reduceMul, reduceSub, reduceIte]
    exact hq2 _ _ ⟨_, rfl, by rw [hp]; rfl, rfl⟩
def kO : Option Bool → Int
  | some true => 2
  | some false => 1
  | none => 0
def nkB (l : List (Int × Bool)) (p : Int) : Int := kO (sideO p l)
set_option maxHeartbeats 1000000 in
theorem t65 {H : AHeap} {x : RV} (h : x.ok H) (hl : x.r.pts.length + x.r.fl.length ≤ 1000000) (p : Int) :
    ∃ w H', ARun Go.Proofs.Try.prog 0 65 [.agg x.row.toArray, .int .i64 p] H w H' ∧ w = .int .i64 (nkB (nds x.r) p) ∧ H' = H := by
  suffices h' : ∃ w H', ARun Go.Proofs.Try.prog 0 65 [.agg x.row.toArray, .int .i64 p] H w H' ∧ w = .int .i64 (nkB (nds x.r) p) ∧ Keeps H H' by
    obtain ⟨_, _, a, rfl, k⟩ := h'
    exact ⟨_, _, a.gc0 k (.inr (.int _ _)), rfl, rfl⟩
  refine walk2 f65_ok f65_n ?_
  intro Q hq1 hq2
  have o1 : one1 (Value.int .i64 x.r.g) = True := by simp [one1, one_int]
  have o2 : one1 (Value.string ⟨x.r.n.toArray⟩) = True := by simp [one1, one_str]
  obtain ⟨a3, a4, a5, a6⟩ := RV.ones h
  have rowx : x.row = [.string ⟨x.r.n.toArray⟩, .int .i64 x.r.g, x.vp, x.vq, x.vo, x.vf] := rfl
  have kA := (Keeps.refl H).alloc (.cells true false 6 x.row 50)
  have tN := t28 (h.keeps kA) hl
  rw [rowx] at kA tN ⊢
  simp (disch := first | assumption | omega | (simp only [LN] <;> omega) | (simp (disch := first | assumption | omega | (simp only [LN] <;> omega)) only [row_alloc, row_set]; assumption)) only [f65, W_block, P3, ↓reduceIte, reduceAdd, reduceEqDiff, reduceCtorEq, initFr, reduceLT, clsA, reduceLeDiff, reduceMul, reduceSub, reduceIte, o1, o2, a3, a4, a5, a6]
  refine callK tN ?_
  rintro nv K ⟨hn, kK, fn⟩
  have is := Sl.is hn
  have len := hn.len
  have nl : (nds x.r).length ≤ 1000000 := by simp [nds]; omega
  generalize nds x.r = l at *
  simp (disch := first | assumption | omega | (simp only [LN] <;> omega) | (simp (disch := first | assumption | omega | (simp only [LN] <;> omega)) only [row_alloc, row_set]; assumption)) only [ P3, ↓reduceIte, reduceAdd, reduceEqDiff, reduceCtorEq, initFr, reduceLT, clsA, reduceLeDiff, reduceMul, reduceSub, reduceIte]
  rw [W_block]
  refine W_loop2 (fun q fr X => ∃ i x6 x7 x8, fr = [.agg #[.string ⟨x.r.n.toArray⟩, .int .i64 x.r.g, x.vp, x.vq, x.vo, x.vf], .int .i64 p, ptr H.n 0, .int .i64 0, nv, .int .i64 ((i : Nat) : Int), x6, x7, x8] ∧ X = K ∧ i ≤ l.length ∧ sideO p (l.take i) = none ∧ q = l.length - i) l.length
    ⟨0, _, _, _, rfl, rfl, by omega, rfl, rfl⟩ ?_
  rintro Q' q fr X ⟨i, x6, x7, x8, rfl, rfl, hi, hp, rfl⟩ hn' hx' hret
  by_cases hlt : i < l.length
  · obtain ⟨na, ra⟩ := hn.at_ hlt
    have e0 : (0 : Int) ≤ (i : Int) := by omega
    have e1 : (i : Int) < ((l.length : Nat) : Int) := by omega
    have hw : IntKind.i64.wrap ((i : Int) + 1) = ((i + 1 : Nat) : Int) := by rw [wrap_i64 (by omega) (by omega)]; simp
    obtain ⟨z, hz⟩ : ∃ z, z = l[i] := ⟨_, rfl⟩
    have hgd : l.getD i (0, false) = z := by rw [List.getD_eq_getElem?_getD, List.getElem?_eq_getElem hlt, hz]; rfl
    have hsp : l = l.take i ++ z :: l.drop (i + 1) := by rw [hz, ← List.drop_eq_getElem_cons hlt, List.take_append_drop]
    have htk : l.take (i + 1) = l.take i ++ [z] := by rw [List.take_add_one, List.getElem?_eq_getElem hlt, hz]; rfl
    have hfn : (l.take i).find? (fun x => x.1 == p) = none := by unfold sideO at hp; simpa using hp
    have hyes : (z.1 == p) = true → sideO p l = some z.2 := fun e => by
      have : sideO p (l.take i ++ z :: l.drop (i + 1)) = some z.2 := by
        unfold sideO; rw [List.find?_append, hfn]; simp [e]
      rw [← hsp] at this; exact this
    have hno : (z.1 == p) = false → sideO p (l.take (i + 1)) = none := fun e => by
      unfold sideO; rw [htk, List.find?_append, hfn]; simp [e]
    rw [hgd] at ra
    clear hz hgd hsp htk
    obtain ⟨zp, zb⟩ := z
    simp only at ra hyes hno
    cases hx : (zp == p) with
    | true =>
      have hs := hyes hx
      cases zb with
      | true =>
        simp (disch := first | assumption | omega | (simp only [LN] <;> omega) | (simp (disch := first | assumption | omega | (simp only [LN] <;> omega)) only [row_alloc, row_set]; assumption)) only [W_block, P3, ↓reduceIte, reduceAdd, reduceEqDiff, reduceCtorEq, initFr, reduceLT, clsA, reduceLeDiff, reduceMul, reduceSub, reduceIte, is, len, e0, e1, na, ra, a_load1v, hx]
        refine hret _ _ ?_
        exact hq2 _ _ ⟨_, rfl, by unfold nkB; rw [hs]; rfl, kA.trans kK⟩
      | false =>
        simp (disch := first | assumption | omega | (simp only [LN] <;> omega) | (simp (disch := first | assumption | omega | (simp only [LN] <;> omega)) only [row_alloc, row_set]; assumption)) only [W_block, P3, ↓reduceIte, reduceAdd, reduceEqDiff, reduceCtorEq, initFr, reduceLT, clsA, reduceLeDiff, reduceMul, reduceSub, reduceIte, is, len, e0, e1, na, ra, a_load1v, hx]
        refine hret _ _ ?_
        exact hq2 _ _ ⟨_, rfl, by unfold nkB; rw [hs]; rfl, kA.trans kK⟩
    | false =>
      simp (disch := first | assumption | omega | (simp only [LN] <;> omega) | (simp (disch := first | assumption | omega | (simp only [LN] <;> omega)) only [row_alloc, row_set]; assumption)) only [W_block, P3, ↓reduceIte, reduceAdd, reduceEqDiff, reduceCtorEq, initFr, reduceLT, clsA, reduceLeDiff, reduceMul, reduceSub, reduceIte, is, len, e0, e1, na, ra, a_load1v, hx, hw]
      exact hn' _ _ _ ⟨i + 1, _, _, _, rfl, rfl, by omega, hno hx, rfl⟩ (by omega)
  · have e1 : ¬ ((i : Nat) : Int) < ((l.length : Nat) : Int) := by omega
    have hie : i = l.length := by omega
    subst hie
    rw [List.take_length] at hp
    simp (disch := first | assumption | omega | (simp only [LN] <;> omega) | (simp (disch := first | assumption | omega | (simp only [LN] <;> omega)) only [row_alloc, row_set]; assumption)) only [W_block, P3, ↓reduceIte, reduceAdd, reduceEqDiff, reduceCtorEq, initFr, reduceLT, clsA, reduceLeDiff, reduceMul, reduceSub, reduceIte, is, len, e1]
    refine hx' _ _ _ ?_
    simp (disch := first | assumption | omega | (simp only [LN] <;> omega) | (simp (disch := first | assumption | omega | (simp only [LN] <;> omega)) only [row_alloc, row_set]; assumption)) only [W_block, P3, ↓reduceIte, reduceAdd, reduceEqDiff, reduceCtorEq, initFr, reduceLT, clsA, reduceLeDiff, reduceMul, reduceSub, reduceIte]
    exact hq2 _ _ ⟨_, rfl, by unfold nkB; rw [hp]; rfl, kA.trans kK⟩
theorem kO_pt (x y : Option Bool) (s t : Bool) : (decide (kO x ≠ kO y) && (decide (0 < kO x) && decide (0 < kO y) || decide (0 < kO x) && s || decide (0 < kO y) && t)) = ((x.isSome && y.isSome || x.isSome && s || y.isSome && t) && !(x == y)) := by
  rcases x with _ | _ | _ <;> rcases y with _ | _ | _ <;> cases s <;> cases t <;> decide
theorem cpt_nk (L : Ly) (a b : Ro) (p : Nat) : (decide (nkB (nds a) p ≠ nkB (nds b) p) && (decide (0 < nkB (nds a) p) && decide (0 < nkB (nds b) p) || decide (0 < nkB (nds a) p) && (trk b).contains (L.p.getD p ([], 0)).2 || decide (0 < nkB (nds b) p) && (trk a).contains (L.p.getD p ([], 0)).2)) = cPt L a b p := kO_pt _ _ _ _
set_option maxHeartbeats 2000000 in
theorem t27 {H : AHeap} {u : V4} {xs : List RV} {L : Ly} {a b : RV} (h : LyR H u xs L) (oa : a.ok H) (ob : b.ok H) (la : RoLim L a.r) (lb : RoLim L b.r) (hL : LyLim L) :
    ∃ w H', ARun Go.Proofs.Try.prog 0 27 [.agg u.l.toArray, .agg a.row.toArray, .agg b.row.toArray] H w H' ∧ w = .bool (confB L a.r b.r) ∧ H' = H := by
  suffices h' : ∃ w H', ARun Go.Proofs.Try.prog 0 27 [.agg u.l.toArray, .agg a.row.toArray, .agg b.row.toArray] H w H' ∧ w = .bool (confB L a.r b.r) ∧ Keeps H H' by
    obtain ⟨_, _, r, rfl, k⟩ := h'
    exact ⟨_, _, r.gc0 k (.inr (.bool _)), rfl, rfl⟩
  refine walk2 f27_ok f27_n ?_
  intro Q hq1 hq2
  have lpp := hL.p
  have lP := la.p
  have lO := la.o
  have lQ := la.q
  have lF := la.f
  have mP := lb.p
  have mO := lb.o
  have mQ := lb.q
  have mF := lb.f
  have os := Sl.one h.s
  have op := Sl.one h.p
  have og := Sl.one h.g
  have or := Sl.one h.r
  have ip := Sl.is h.p
  have lenp := h.p.len
  obtain ⟨a3, a4, a5, a6⟩ := RV.ones oa
  obtain ⟨b3, b4, b5, b6⟩ := RV.ones ob
  have a1 : one1 (Value.int .i64 a.r.g) = True := by simp [one1, one_int]
  have a2 : one1 (Value.string ⟨a.r.n.toArray⟩) = True := by simp [one1, one_str]
  have b1 : one1 (Value.int .i64 b.r.g) = True := by simp [one1, one_int]
  have b2 : one1 (Value.string ⟨b.r.n.toArray⟩) = True := by simp [one1, one_str]
  have rowa : a.row = [.string ⟨a.r.n.toArray⟩, .int .i64 a.r.g, a.vp, a.vq, a.vo, a.vf] := rfl
  have rowb : b.row = [.string ⟨b.r.n.toArray⟩, .int .i64 b.r.g, b.vp, b.vq, b.vo, b.vf] := rfl
  have hul : u.l = [u.s, u.p, u.g, u.r] := rfl
  obtain ⟨K0, hK0⟩ : ∃ X, X = box3 H u a b := ⟨_, rfl⟩
  have k0 : Keeps H K0 := by rw [hK0]; exact box3_k H u a b
  have n0 : K0.n = H.n + 3 := by rw [hK0]; rfl
  have gl := box3_l H u a b
  have ga := box3_a H u a b
  have gb := box3_b H u a b
  rw [← hK0] at gl ga gb
  have tA := t63 (oa.keeps k0) (by omega)
  have hK0' := hK0
  unfold box3 at hK0'
  simp only [hul, rowa, rowb] at hK0' gl ga gb tA ⊢
  have yes : confB L a.r b.r = true → ∀ {K : AHeap} {fr : List Value}, Keeps H K → resO f27.res fr K = some (.bool true) → Q .ret fr K := fun e K fr k hr => hq2 _ _ ⟨_, hr, by rw [e], k⟩
  cases hg : (a.r.g == b.r.g) with
  | true =>
    simp (disch := first | assumption | omega | (simp only [LN] <;> omega) | (simp (disch := first | assumption | omega | (simp only [LN] <;> omega)) only [row_alloc, row_set]; assumption)) only [f27, W_block, P3, ↓reduceIte, reduceAdd, reduceEqDiff, reduceCtorEq, initFr, reduceLT, clsA, reduceLeDiff, reduceMul, reduceSub, reduceIte, os, op, og, or, a1, a2, a3, a4, a5, a6, b1, b2, b3, b4, b5, b6, hg]
    simp only [← hK0']
    exact yes (by simp only [confB, hg, Bool.true_or]) k0 rfl
  | false =>
  simp (disch := first | assumption | omega | (simp only [LN] <;> omega) | (simp (disch := first | assumption | omega | (simp only [LN] <;> omega)) only [row_alloc, row_set]; assumption)) only [f27, W_block, P3, ↓reduceIte, reduceAdd, reduceEqDiff, reduceCtorEq, initFr, reduceLT, clsA, reduceLeDiff, reduceMul, reduceSub, reduceIte, os, op, og, or, a1, a2, a3, a4, a5, a6, b1, b2, b3, b4, b5, b6, hg]
  simp only [← hK0']
  refine callK tA ?_
  rintro tv K1 ⟨ht, k1, ft⟩
  have tB := t63 ((ob.keeps k0).keeps k1) (by omega)
  simp only [rowb] at tB
  have gb1 := k1.at_ gb
  have hb1 : H.n + 2 < K1.n := AHeap.get_lt gb1
  have hb0 : H.n + 2 < K0.n := AHeap.get_lt gb
  simp (disch := first | assumption | omega | (simp only [LN] <;> omega) | (simp (disch := first | assumption | omega | (simp only [LN] <;> omega)) only [row_alloc, row_set]; assumption)) only [W_block, P3, ↓reduceIte, reduceAdd, reduceEqDiff, reduceCtorEq, initFr, reduceLT, clsA, reduceLeDiff, reduceMul, reduceSub, reduceIte, gb1, gb, hb1, hb0]
  refine callK tB ?_
  rintro wv K2 ⟨hw, k2, fw⟩
  have hti : IL K2 tv (trk a.r) := ht.keeps k2
  have tl : (trk a.r).length ≤ 32 := by simp [trk]; omega
  have wl : (trk b.r).length ≤ 32 := by simp [trk]; omega
  have lent := hti.len
  have ist := Sl.is hti
  have k12 := k1.trans k2
  have kH := k0.trans k12
  have gl2 := k12.at_ gl
  have ga2 := k12.at_ ga
  have gb2 := k12.at_ gb
  simp (disch := first | assumption | omega | (simp only [LN] <;> omega) | (simp (disch := first | assumption | omega | (simp only [LN] <;> omega)) only [row_alloc, row_set]; assumption)) only [ P3, ↓reduceIte, reduceAdd, reduceEqDiff, reduceCtorEq, initFr, reduceLT, clsA, reduceLeDiff, reduceMul, reduceSub, reduceIte]
  rw [W_block]
  obtain ⟨A1, hA1⟩ : ∃ v : Value, v = .agg #[u.s, u.p, u.g, u.r] := ⟨_, rfl⟩
  obtain ⟨A2, hA2⟩ : ∃ v : Value, v = .agg #[.string ⟨a.r.n.toArray⟩, .int .i64 a.r.g, a.vp, a.vq, a.vo, a.vf] := ⟨_, rfl⟩
  obtain ⟨A4, hA4⟩ : ∃ v : Value, v = .agg #[.string ⟨b.r.n.toArray⟩, .int .i64 b.r.g, b.vp, b.vq, b.vo, b.vf] := ⟨_, rfl⟩
  rw [← hA1, ← hA2, ← hA4]
  refine W_loop2 (fun q fr X => ∃ i x15 x16, fr = [A1, A2, A4, ptr H.n 0, ptr (H.n + 1) 0, ptr (H.n + 2) 0, .bool false, tv, wv, .int .i64 ((i : Nat) : Int), undef, undef, undef, undef, .bool false, x15, x16, undef, undef] ∧ K2 = X ∧ i ≤ (trk a.r).length ∧
      ((trk a.r).take i).any (fun s => (trk b.r).contains s) = false ∧ q = (trk a.r).length - i) (trk a.r).length
    ⟨0, _, _, rfl, rfl, by omega, by simp, rfl⟩ ?_
  rintro Q' q fr X ⟨i, x15, x16, rfl, rfl, hi, hp, rfl⟩ hn' hx' hret
  by_cases hlt : i < (trk a.r).length
  · obtain ⟨na, ra⟩ := hti.at_ hlt
    have e0 : (0 : Int) ≤ (i : Int) := by omega
    have e1 : (i : Int) < (((trk a.r).length : Nat) : Int) := by omega
    have hw' : IntKind.i64.wrap ((i : Int) + 1) = ((i + 1 : Nat) : Int) := by rw [wrap_i64 (by omega) (by omega)]; simp
    have hgd : (trk a.r).getD i 0 = (trk a.r)[i] := by rw [List.getD_eq_getElem?_getD, List.getElem?_eq_getElem hlt]; rfl
    simp (disch := first | assumption | omega | (simp only [LN] <;> omega) | (simp (disch := first | assumption | omega | (simp only [LN] <;> omega)) only [row_alloc, row_set]; assumption)) only [W_block, P3, ↓reduceIte, reduceAdd, reduceEqDiff, reduceCtorEq, initFr, reduceLT, clsA, reduceLeDiff, reduceMul, reduceSub, reduceIte, ist, lent, e0, e1, na, ra, a_load1v]
    refine callK (t64 hw (by omega) _) ?_
    rintro _ X ⟨rfl, hX⟩
    rw [hX]
    cases hc : (trk b.r).contains ((trk a.r).getD i 0) with
    | true =>
      simp (disch := first | assumption | omega | (simp only [LN] <;> omega) | (simp (disch := first | assumption | omega | (simp only [LN] <;> omega)) only [row_alloc, row_set]; assumption)) only [W_block, P3, ↓reduceIte, reduceAdd, reduceEqDiff, reduceCtorEq, initFr, reduceLT, clsA, reduceLeDiff, reduceMul, reduceSub, reduceIte]
      refine hret _ _ ?_
      refine yes ?_ kH rfl
      have : (trk a.r).any (fun s => (trk b.r).contains s) = true := List.any_eq_true.2 ⟨(trk a.r)[i], List.getElem_mem hlt, by rw [← hgd]; exact hc⟩
      simp only [confB, this, Bool.or_true, Bool.true_or]
    | false =>
      simp (disch := first | assumption | omega | (simp only [LN] <;> omega) | (simp (disch := first | assumption | omega | (simp only [LN] <;> omega)) only [row_alloc, row_set]; assumption)) only [W_block, P3, ↓reduceIte, reduceAdd, reduceEqDiff, reduceCtorEq, initFr, reduceLT, clsA, reduceLeDiff, reduceMul, reduceSub, reduceIte, hw']
      refine hn' _ _ _ ⟨i + 1, _, _, rfl, rfl, by omega, ?_, rfl⟩ (by omega)
      rw [List.take_add_one, List.getElem?_eq_getElem hlt, List.any_append, hp]
      rw [hgd] at hc
      simp only [Option.toList_some, List.any_cons, List.any_nil, hc]; rfl
  · have e1 : ¬ ((i : Nat) : Int) < (((trk a.r).length : Nat) : Int) := by omega
    have hie : i = (trk a.r).length := by omega
    subst hie
    rw [List.take_length] at hp
    simp (disch := first | assumption | omega | (simp only [LN] <;> omega) | (simp (disch := first | assumption | omega | (simp only [LN] <;> omega)) only [row_alloc, row_set]; assumption)) only [W_block, P3, ↓reduceIte, reduceAdd, reduceEqDiff, reduceCtorEq, initFr, reduceLT, clsA, reduceLeDiff, reduceMul, reduceSub, reduceIte, ist, lent, e1]
    refine hx' _ _ _ ?_
    simp (disch := first | assumption | omega | (simp only [LN] <;> omega) | (simp (disch := first | assumption | omega | (simp only [LN] <;> omega)) only [row_alloc, row_set]; assumption)) only [ P3, ↓reduceIte, reduceAdd, reduceEqDiff, reduceCtorEq, initFr, reduceLT, clsA, reduceLeDiff, reduceMul, reduceSub, reduceIte]
    rw [W_block]
    refine W_loop2 (fun q fr X => ∃ i x11 x12 x13 x17 x18, fr = [A1, A2, A4, ptr H.n 0, ptr (H.n + 1) 0, ptr (H.n + 2) 0, .bool false, tv, wv, .int .i64 (((trk a.r).length : Nat) : Int), .int .i64 ((i : Nat) : Int), x11, x12, x13, .bool false, .bool false, x16, x17, x18] ∧ K2 = X ∧ i ≤ L.p.length ∧
        (List.range i).any (cPt L a.r b.r) = false ∧ q = L.p.length - i) L.p.length
      ⟨0, _, _, _, _, _, rfl, rfl, by omega, by simp, rfl⟩ ?_
    rintro Q2 q fr X ⟨i, x11, x12, x13, x17, x18, rfl, rfl, hi, hpp, rfl⟩ hn2 hx2 hret2
    by_cases hlt : i < L.p.length
    · obtain ⟨np, rp⟩ := (h.p.keeps kH).at_ hlt
      have e0 : (0 : Int) ≤ (i : Int) := by omega
      have e1 : (i : Int) < ((L.p.length : Nat) : Int) := by omega
      have hw' : IntKind.i64.wrap ((i : Int) + 1) = ((i + 1 : Nat) : Int) := by rw [wrap_i64 (by omega) (by omega)]; simp
      have nA := t65 ((oa.keeps k0).keeps k12) (by omega) (i : Int)
      have nB := t65 ((ob.keeps k0).keeps k12) (by omega) (i : Int)
      simp only [rowa, rowb, ← hA2, ← hA4] at nA nB
      have hb2 := AHeap.get_lt gb2
      have hcp := cpt_nk L a.r b.r i
      simp (disch := first | assumption | omega | (simp only [LN] <;> omega) | (simp (disch := first | assumption | omega | (simp only [LN] <;> omega)) only [row_alloc, row_set]; assumption)) only [W_block, P3, ↓reduceIte, reduceAdd, reduceEqDiff, reduceCtorEq, initFr, reduceLT, clsA, reduceLeDiff, reduceMul, reduceSub, reduceIte, gl2, ga2, ip, lenp, e1, ← hA2]
      refine callK nA ?_
      rintro _ X ⟨rfl, hX⟩
      rw [hX]
      simp (disch := first | assumption | omega | (simp only [LN] <;> omega) | (simp (disch := first | assumption | omega | (simp only [LN] <;> omega)) only [row_alloc, row_set]; assumption)) only [W_block, P3, ↓reduceIte, reduceAdd, reduceEqDiff, reduceCtorEq, initFr, reduceLT, clsA, reduceLeDiff, reduceMul, reduceSub, reduceIte, gb2, hb2, ← hA4]
      refine callK nB ?_
      rintro _ X ⟨rfl, hX⟩
      rw [hX]
      have hpd : (L.p.getD i ([], 0)) = (L.p.getD i ([], 0)) := rfl
      obtain ⟨z, hz⟩ : ∃ z, z = L.p.getD i ([], 0) := ⟨_, rfl⟩
      rw [← hz] at hcp rp
      obtain ⟨x, hx⟩ : ∃ x, x = nkB (nds a.r) (i : Int) := ⟨_, rfl⟩
      obtain ⟨y, hy⟩ : ∃ y, y = nkB (nds b.r) (i : Int) := ⟨_, rfl⟩
      rw [← hx, ← hy] at hcp ⊢
      have hne : decide (x ≠ y) = (x != y) := by rw [Bool.eq_iff_iff]; simp
      rw [hne] at hcp
      have good : cPt L a.r b.r i = false → (List.range (i + 1)).any (cPt L a.r b.r) = false := fun e => by rw [List.range_succ, List.any_append, hpp]; simp [e]
      have bad : cPt L a.r b.r i = true → confB L a.r b.r = true := fun e => by
        have : (List.range L.p.length).any (cPt L a.r b.r) = true := List.any_eq_true.2 ⟨i, List.mem_range.2 hlt, e⟩
        simp only [confB, this, Bool.or_true]
      clear hz hx hy hne
      cases h1 : (x != y) with
      | false =>
        rw [h1] at hcp
        simp (disch := first | assumption | omega | (simp only [LN] <;> omega) | (simp (disch := first | assumption | omega | (simp only [LN] <;> omega)) only [row_alloc, row_set]; assumption)) only [W_block, P3, ↓reduceIte, reduceAdd, reduceEqDiff, reduceCtorEq, initFr, reduceLT, clsA, reduceLeDiff, reduceMul, reduceSub, reduceIte, gl2, ip, lenp, e0, e1, np, rp, a_load1v, hw', h1]
        exact hn2 _ _ _ ⟨i + 1, _, _, _, _, _, rfl, rfl, by omega, good (by rw [← hcp]; rfl), rfl⟩ (by omega)
      | true =>
      cases h2 : decide (0 < x) with
      | true =>
        cases h3 : decide (0 < y) with
        | true =>
          rw [h1, h2, h3] at hcp
          simp (disch := first | assumption | omega | (simp only [LN] <;> omega) | (simp (disch := first | assumption | omega | (simp only [LN] <;> omega)) only [row_alloc, row_set]; assumption)) only [W_block, P3, ↓reduceIte, reduceAdd, reduceEqDiff, reduceCtorEq, initFr, reduceLT, clsA, reduceLeDiff, reduceMul, reduceSub, reduceIte, gl2, ip, lenp, e0, e1, np, rp, a_load1v, h1, h2, h3]
          refine hret2 _ _ ?_
          exact yes (bad (by rw [← hcp]; simp)) kH rfl
        | false =>
          rw [h1, h2, h3] at hcp
          simp (disch := first | assumption | omega | (simp only [LN] <;> omega) | (simp (disch := first | assumption | omega | (simp only [LN] <;> omega)) only [row_alloc, row_set]; assumption)) only [W_block, P3, ↓reduceIte, reduceAdd, reduceEqDiff, reduceCtorEq, initFr, reduceLT, clsA, reduceLeDiff, reduceMul, reduceSub, reduceIte, gl2, ip, lenp, e0, e1, np, rp, a_load1v, h1, h2, h3]
          refine callK (t64 hw (by omega) _) ?_
          rintro _ X ⟨rfl, hX⟩
          rw [hX]
          cases h4 : (trk b.r).contains z.2 with
          | true =>
            rw [h4] at hcp
            simp (disch := first | assumption | omega | (simp only [LN] <;> omega) | (simp (disch := first | assumption | omega | (simp only [LN] <;> omega)) only [row_alloc, row_set]; assumption)) only [W_block, P3, ↓reduceIte, reduceAdd, reduceEqDiff, reduceCtorEq, initFr, reduceLT, clsA, reduceLeDiff, reduceMul, reduceSub, reduceIte, h3]
            refine hret2 _ _ ?_
            exact yes (bad (by rw [← hcp]; simp)) kH rfl
          | false =>
            rw [h4] at hcp
            simp (disch := first | assumption | omega | (simp only [LN] <;> omega) | (simp (disch := first | assumption | omega | (simp only [LN] <;> omega)) only [row_alloc, row_set]; assumption)) only [W_block, P3, ↓reduceIte, reduceAdd, reduceEqDiff, reduceCtorEq, initFr, reduceLT, clsA, reduceLeDiff, reduceMul, reduceSub, reduceIte, h3, hw']
            exact hn2 _ _ _ ⟨i + 1, _, _, _, _, _, rfl, rfl, by omega, good (by rw [← hcp]; simp), rfl⟩ (by omega)
      | false =>
        cases h3 : decide (0 < y) with
        | false =>
          rw [h1, h2, h3] at hcp
          simp (disch := first | assumption | omega | (simp only [LN] <;> omega) | (simp (disch := first | assumption | omega | (simp only [LN] <;> omega)) only [row_alloc, row_set]; assumption)) only [W_block, P3, ↓reduceIte, reduceAdd, reduceEqDiff, reduceCtorEq, initFr, reduceLT, clsA, reduceLeDiff, reduceMul, reduceSub, reduceIte, gl2, ip, lenp, e0, e1, np, rp, a_load1v, h1, h2, h3, hw']
          exact hn2 _ _ _ ⟨i + 1, _, _, _, _, _, rfl, rfl, by omega, good (by rw [← hcp]; simp), rfl⟩ (by omega)
        | true =>
          rw [h1, h2, h3] at hcp
          simp (disch := first | assumption | omega | (simp only [LN] <;> omega) | (simp (disch := first | assumption | omega | (simp only [LN] <;> omega)) only [row_alloc, row_set]; assumption)) only [W_block, P3, ↓reduceIte, reduceAdd, reduceEqDiff, reduceCtorEq, initFr, reduceLT, clsA, reduceLeDiff, reduceMul, reduceSub, reduceIte, gl2, ip, lenp, e0, e1, np, rp, a_load1v, h1, h2, h3]
          refine callK (t64 hti (by omega) _) ?_
          rintro _ X ⟨rfl, hX⟩
          rw [hX]
          cases h4 : (trk a.r).contains z.2 with
          | true =>
            rw [h4] at hcp
            simp (disch := first | assumption | omega | (simp only [LN] <;> omega) | (simp (disch := first | assumption | omega | (simp only [LN] <;> omega)) only [row_alloc, row_set]; assumption)) only [W_block, P3, ↓reduceIte, reduceAdd, reduceEqDiff, reduceCtorEq, initFr, reduceLT, clsA, reduceLeDiff, reduceMul, reduceSub, reduceIte]
            refine hret2 _ _ ?_
            exact yes (bad (by rw [← hcp]; simp)) kH rfl
          | false =>
            rw [h4] at hcp
            simp (disch := first | assumption | omega | (simp only [LN] <;> omega) | (simp (disch := first | assumption | omega | (simp only [LN] <;> omega)) only [row_alloc, row_set]; assumption)) only [W_block, P3, ↓reduceIte, reduceAdd, reduceEqDiff, reduceCtorEq, initFr, reduceLT, clsA, reduceLeDiff, reduceMul, reduceSub, reduceIte, hw']
            exact hn2 _ _ _ ⟨i + 1, _, _, _, _, _, rfl, rfl, by omega, good (by rw [← hcp]; simp), rfl⟩ (by omega)
    · have e1 : ¬ ((i : Nat) : Int) < ((L.p.length : Nat) : Int) := by omega
      have hie : i = L.p.length := by omega
      subst hie
      simp (disch := first | assumption | omega | (simp only [LN] <;> omega) | (simp (disch := first | assumption | omega | (simp only [LN] <;> omega)) only [row_alloc, row_set]; assumption)) only [W_block, P3, ↓reduceIte, reduceAdd, reduceEqDiff, reduceCtorEq, initFr, reduceLT, clsA, reduceLeDiff, reduceMul, reduceSub, reduceIte, gl2, ip, lenp, e1]
      refine hx2 _ _ _ ?_
      simp (disch := first | assumption | omega | (simp only [LN] <;> omega) | (simp (disch := first | assumption | omega | (simp only [LN] <;> omega)) only [row_alloc, row_set]; assumption)) only [W_block, P3, ↓reduceIte, reduceAdd, reduceEqDiff, reduceCtorEq, initFr, reduceLT, clsA, reduceLeDiff, reduceMul, reduceSub, reduceIte]
      exact hq2 _ _ ⟨_, rfl, by simp only [confB, hg, hp, hpp]; rfl, kH⟩
end Go.AM.Fd

set_option linter.unusedSimpArgs false
set_option linter.unusedVariables false
set_option maxRecDepth 8000
namespace Go.AM.Fd
open Nat (reduceAdd reduceEqDiff reduceLT reduceLeDiff reduceMul reduceSub)
open Go.Proofs Go.AM.F
theorem Z68H_z : Z68H = stl Sta0 := stl_zero
theorem O68H_r : O68H = List.replicate 68 1 := rfl
theorem fill_set (c : List Value) (o : Nat) (v : Value) (r : List (Nat × Nat × Value)) (hv : v.cells.toList = [v]) (ho : o < c.length) : fillA c ((o, 1, v) :: r) = fillA (c.set o v) r := by
  rw [fill_cons, hv, if_pos ⟨rfl, by omega⟩, List.set_eq_take_append_cons_drop, if_pos ho]
  simp
theorem fill_sta (a b : Nat → Bool) : fillA (stl Sta0) [(0, 1, S64 a), (67, 1, S32 b)] = some (stl ⟨a, fun _ => false, fun _ => false, fun _ => 0, b⟩) := by
  rw [fill_set _ _ _ _ rfl (by rw [stl_len]; omega), set_0, fill_set _ _ _ _ rfl (by rw [stl_len]; omega), set_67]; rfl
theorem t29 {H : AHeap} (s : Sta) {p : Nat} (hp : p < 32) : ∃ w H', ARun Go.Proofs.Try.prog 0 29 [.agg (stl s).toArray, .int .i64 (p : Nat)] H w H' ∧ w = .bool (s.po p) ∧ H' = H := by
  suffices h' : ∃ w H', ARun Go.Proofs.Try.prog 0 29 [.agg (stl s).toArray, .int .i64 (p : Nat)] H w H' ∧ w = .bool (s.po p) ∧ Keeps H H' by
    obtain ⟨_, _, a, rfl, k⟩ := h'
    exact ⟨_, _, a.gc0 k (.inr (.bool _)), rfl, rfl⟩
  refine walk2 f29_ok f29_n ?_
  intro Q hq1 hq2
  have kA := (Keeps.refl H).alloc (.cells true false 68 (stl s) 32)
  simp (disch := first | assumption | omega | (simp only [LN] <;> omega) | (simp (disch := first | assumption | omega | (simp only [LN] <;> omega)) only [row_alloc, row_set]; assumption)) only [f29, W_block, P3, ↓reduceIte, reduceAdd, reduceEqDiff, reduceCtorEq, initFr, reduceLT, clsA, reduceLeDiff, reduceMul, reduceSub, reduceIte, stl_one, stl_len, stl_67, p_shr, p_and1, i1p_eq]
  refine hq2 _ _ ⟨.bool _, rfl, ?_, kA⟩
  simp [hp]
def tidD (s : Sta) (L : Ly) (i : Nat) : Sta where
  lo := fun i => s.lo i && lowP L.r.length i
  us := fun i => s.us i && (s.lo i && lowP L.r.length i)
  ca := fun i => s.ca i && (s.lo i && lowP L.r.length i)
  ti := fun j => if j < i then (tidyS L s).ti j else 0
  po := fun i => s.po i && lowP L.p.length i
set_option maxHeartbeats 2000000 in
theorem t10 {H : AHeap} {u : V4} {xs : List RV} {L : Ly} (h : LyR H u xs L) (hL : LyLim L) (s : Sta) : ∃ w H', ARun Go.Proofs.Try.prog 0 10 [.agg u.l.toArray, .agg (stl s).toArray] H w H' ∧ w = .agg (stl (tidyS L s)).toArray ∧ H' = H := by
  suffices h' : ∃ w H', ARun Go.Proofs.Try.prog 0 10 [.agg u.l.toArray, .agg (stl s).toArray] H w H' ∧ w = .agg (stl (tidyS L s)).toArray ∧ Keeps H H' by
    obtain ⟨_, _, a, rfl, k⟩ := h'
    exact ⟨_, _, a.gc0 k (.inr (nv_stl _ _)), rfl, rfl⟩
  refine walk2 f10_ok f10_n ?_
  intro Q hq1 hq2
  have lr := hL.r
  have lp := hL.p
  have os := Sl.one h.s
  have op := Sl.one h.p
  have og := Sl.one h.g
  have or := Sl.one h.r
  have ir := Sl.is h.r
  have ip := Sl.is h.p
  have lenr := h.r.len
  have lenp := h.p.len
  rw [h.rlen] at lenr
  have hul : u.l = [u.s, u.p, u.g, u.r] := rfl
  obtain ⟨K0, hK0⟩ : ∃ X, X = ((H.alloc (.cells true false 4 [u.s, u.p, u.g, u.r] 27)).alloc (.cells true false 68 (stl s) 32)).alloc (.cells true false 68 (stl Sta0) 32) := ⟨_, rfl⟩
  have k0 : Keeps H K0 := by rw [hK0]; exact (((Keeps.refl H).alloc _).alloc _).alloc _
  have n0 : K0.n = H.n + 3 := by rw [hK0]; rfl
  have gl0 : K0.get H.n = some (.cells true false 4 [u.s, u.p, u.g, u.r] 27) := by rw [hK0]; exact (((Keeps.refl _).alloc _).alloc _).at_ (AHeap.get_alloc_new H _)
  have gs0 : K0.get (H.n + 1) = some (.cells true false 68 (stl s) 32) := by rw [hK0]; exact ((Keeps.refl _).alloc _).at_ (AHeap.get_alloc_new (H.alloc _) _)
  have gw0 : K0.get (H.n + 2) = some (.cells true false 68 (stl Sta0) 32) := by rw [hK0]; exact AHeap.get_alloc_new ((H.alloc _).alloc _) _
  have hs0 := AHeap.get_lt gs0
  have hl0 := AHeap.get_lt gl0
  rw [hul]
  simp (disch := first | assumption | omega | (simp only [LN] <;> omega) | (simp (disch := first | assumption | omega | (simp only [LN] <;> omega)) only [row_alloc, row_set]; assumption)) only [f10, W_block, P3, ↓reduceIte, reduceAdd, reduceEqDiff, reduceCtorEq, initFr, reduceLT, clsA, reduceLeDiff, reduceMul, reduceSub, reduceIte, os, op, og, or, stl_one, stl_len, Z68H_z]
  simp only [← hK0]
  simp (disch := first | assumption | omega | (simp only [LN] <;> omega) | (simp (disch := first | assumption | omega | (simp only [LN] <;> omega)) only [row_alloc, row_set]; assumption)) only [W_block, P3, ↓reduceIte, reduceAdd, reduceEqDiff, reduceCtorEq, initFr, reduceLT, clsA, reduceLeDiff, reduceMul, reduceSub, reduceIte, gl0, gs0, stl_0, ir, lenr]
  refine callK (t23 _) ?_
  rintro _ X ⟨rfl, hX⟩
  rw [hX]
  simp (disch := first | assumption | omega | (simp only [LN] <;> omega) | (simp (disch := first | assumption | omega | (simp only [LN] <;> omega)) only [row_alloc, row_set]; assumption)) only [W_block, P3, ↓reduceIte, reduceAdd, reduceEqDiff, reduceCtorEq, initFr, reduceLT, clsA, reduceLeDiff, reduceMul, reduceSub, reduceIte, gl0, gs0, hl0, hs0, stl_67, ip, lenp, s_and]
  refine ⟨by simp, callK (t23 _) ?_⟩
  rintro _ X ⟨rfl, hX⟩
  rw [hX]
  obtain ⟨K1, hK1⟩ : ∃ X, X = K0.alloc (.cells true false 68 (stl (tidD s L 0)) 32) := ⟨_, rfl⟩
  have k1 : Keeps K0 K1 := by rw [hK1]; exact (Keeps.refl K0).alloc _
  have ga1 : K1.get K0.n = some (.cells true false 68 (stl (tidD s L 0)) 32) := by rw [hK1]; exact AHeap.get_alloc_new K0 _
  have eT : (⟨fun i => s.lo i && lowP L.r.length i, fun i => s.us i && (s.lo i && lowP L.r.length i), fun i => s.ca i && (s.lo i && lowP L.r.length i), fun _ => 0, fun i => s.po i && lowP L.p.length i⟩ : Sta) = tidD s L 0 := by simp [tidD]
  simp (disch := first | assumption | omega | (simp only [LN] <;> omega) | (simp (disch := first | assumption | omega | (simp only [LN] <;> omega)) only [row_alloc, row_set]; assumption)) only [ P3, ↓reduceIte, reduceAdd, reduceEqDiff, reduceCtorEq, initFr, reduceLT, clsA, reduceLeDiff, reduceMul, reduceSub, reduceIte, gl0, gs0, hl0, hs0, stl_0, s_down, p_and]
  refine ⟨by simp, ?_⟩
  simp (disch := first | assumption | omega | (simp only [LN] <;> omega) | (simp (disch := first | assumption | omega | (simp only [LN] <;> omega)) only [row_alloc, row_set]; assumption)) only [ P3, ↓reduceIte, reduceAdd, reduceEqDiff, reduceCtorEq, initFr, reduceLT, clsA, reduceLeDiff, reduceMul, reduceSub, reduceIte, gl0, gs0, hl0, hs0, stl_0, stl_1, stl_2, stl_67, set_1, set_2, s_and, p_and, s_down, fill_sta, stn68s, stl_one, stl_len, one_s64, o_s64]
  rw [eT, ← hK1, W_block]
  have gl1 := k1.at_ gl0
  have gs1 := k1.at_ gs0
  have gw1 := k1.at_ gw0
  have kH1 := k0.trans k1
  refine W_loop2 (fun q fr K => ∃ i x7 x8, fr = [.agg #[u.s, u.p, u.g, u.r], .agg (stl s).toArray, ptr H.n 0, ptr (H.n + 1) 0, ptr (H.n + 2) 0, ptr K0.n 0, .int .i64 ((i : Nat) : Int), x7, x8] ∧
      Chg [K0.n] K1 K ∧ K.get K0.n = some (.cells true false 68 (stl (tidD s L i)) 32) ∧ i ≤ L.r.length ∧ q = L.r.length - i) L.r.length
    ⟨0, _, _, rfl, Chg.refl _ _, ga1, by omega, rfl⟩ ?_
  rintro Q' q fr K ⟨i, x7, x8, rfl, cK, ga, hi, rfl⟩ hn' hx' hret
  have haK := AHeap.get_lt ga
  have gl := cK.at_ gl1 (by simp; omega)
  have gs := cK.at_ gs1 (by simp; omega)
  have gw := cK.at_ gw1 (by simp; omega)
  have hsK := AHeap.get_lt gs
  have hw2 := AHeap.get_lt gw
  by_cases hlt : i < L.r.length
  · have iN : i < 64 := by omega
    have e0 : (0 : Int) ≤ (i : Int) := by omega
    have e1 : (i : Int) < ((L.r.length : Nat) : Int) := by omega
    have e2 : (i : Int) < 64 := by omega
    have hw : IntKind.i64.wrap ((i : Int) + 1) = ((i + 1 : Nat) : Int) := by rw [wrap_i64 (by omega) (by omega)]; simp
    have hll : 3 + i < 68 := by omega
    simp (disch := first | assumption | omega | (simp only [LN] <;> omega) | (simp (disch := first | assumption | omega | (simp only [LN] <;> omega)) only [row_alloc, row_set]; assumption)) only [W_block, P3, ↓reduceIte, reduceAdd, reduceEqDiff, reduceCtorEq, initFr, reduceLT, clsA, reduceLeDiff, reduceMul, reduceSub, reduceIte, gl, ga, stl_2, ir, lenr, e1]
    refine callK (t24 _ _) ?_
    rintro _ X ⟨rfl, hX⟩
    rw [hX, has_nat _ iN]
    have hca : (tidD s L i).ca i = (s.ca i && (s.lo i && lowP L.r.length i)) := rfl
    have htt : (tidyS L s).ti i = if s.ca i && (s.lo i && lowP L.r.length i) then min (s.ti i) 20 else 0 := rfl
    rw [← hca] at htt
    have low : ∀ j, j < i → (tidD s L i).ti j = (tidD s L (i + 1)).ti j := fun j hj => by
      show (if j < i then _ else _) = (if j < i + 1 then _ else _)
      rw [if_pos hj, if_pos (by omega)]
    have up : ∀ j, i < j → (tidD s L i).ti j = (tidD s L (i + 1)).ti j := fun j hj => by
      show (if j < i then _ else _) = (if j < i + 1 then _ else _)
      rw [if_neg (by omega), if_neg (by omega)]
    have here : (tidD s L i).ti i = 0 := by
      show (if i < i then _ else _) = _
      rw [if_neg (by omega)]
    have at_ : (tidD s L (i + 1)).ti i = (tidyS L s).ti i := by
      show (if i < i + 1 then _ else _) = _
      rw [if_pos (by omega)]
    cases hc : (tidD s L i).ca i with
    | false =>
      rw [hc] at htt
      simp (disch := first | assumption | omega | (simp only [LN] <;> omega) | (simp (disch := first | assumption | omega | (simp only [LN] <;> omega)) only [row_alloc, row_set]; assumption)) only [W_block, P3, ↓reduceIte, reduceAdd, reduceEqDiff, reduceCtorEq, initFr, reduceLT, clsA, reduceLeDiff, reduceMul, reduceSub, reduceIte, hw]
      refine hn' _ _ _ ⟨i + 1, _, _, rfl, cK, ?_, by omega, rfl⟩ (by omega)
      rw [ga]
      congr 2
      refine stl_ext (fun _ _ => rfl) (fun _ _ => rfl) (fun _ _ => rfl) (fun j _ => ?_) (fun _ _ => rfl)
      by_cases e : j = i
      · subst e; rw [at_, htt, here]; rfl
      · rcases Nat.lt_or_gt_of_ne e with h | h
        · exact low j h
        · exact up j h
    | true =>
      rw [hc] at htt
      have hmn : min ((s.ti i : Nat) : Int) 20 = ((min (s.ti i) 20 : Nat) : Int) := by omega
      have st1 := fun t : Sta => set_t t iN (min (s.ti i) 20)
      have st := stl_t s iN
      simp (disch := first | assumption | omega | (simp only [LN] <;> omega) | (simp (disch := first | assumption | omega | (simp only [LN] <;> omega)) only [row_alloc, row_set]; assumption)) only [W_block, P3, ↓reduceIte, reduceAdd, reduceEqDiff, reduceCtorEq, initFr, reduceLT, clsA, reduceLeDiff, reduceMul, reduceSub, reduceIte, hw, e0, e2, gs, ga, st, a_mmn, hmn, a_iaddrp, stl_len, st1, hll, Int.toNat_natCast, Nat.mul_one]
      refine hn' _ _ _ ⟨i + 1, _, _, rfl, cK.trans (Chg.set K haK _) (by simp), ?_, by omega, rfl⟩ (by omega)
      rw [AHeap.get_set_same ga]
      congr 2
      refine stl_ext (fun _ _ => rfl) (fun _ _ => rfl) (fun _ _ => rfl) (fun j _ => ?_) (fun _ _ => rfl)
      show upd _ _ _ j = _
      unfold upd
      by_cases e : j = i
      · subst e; rw [if_pos rfl, at_, htt]; rfl
      · rw [if_neg e]
        rcases Nat.lt_or_gt_of_ne e with h | h
        · exact low j h
        · exact up j h
  · have e1 : ¬ ((i : Nat) : Int) < ((L.r.length : Nat) : Int) := by omega
    have hie : i = L.r.length := by omega
    subst hie
    have ex : stl (tidD s L L.r.length) = stl (tidyS L s) := stl_ext (fun _ _ => rfl) (fun _ _ => rfl) (fun _ _ => rfl) (fun j hj => by
      show (if j < L.r.length then _ else _) = (if _ then _ else _)
      by_cases h : j < L.r.length
      · rw [if_pos h]; rfl
      · rw [if_neg h]
        have : lowP (L.r.length : Nat) j = false := by simp [lowP]; omega
        rw [this]; simp) (fun _ _ => rfl)
    rw [ex] at ga
    simp (disch := first | assumption | omega | (simp only [LN] <;> omega) | (simp (disch := first | assumption | omega | (simp only [LN] <;> omega)) only [row_alloc, row_set]; assumption)) only [W_block, P3, ↓reduceIte, reduceAdd, reduceEqDiff, reduceCtorEq, initFr, reduceLT, clsA, reduceLeDiff, reduceMul, reduceSub, reduceIte, gl, ir, lenr, e1]
    refine hx' _ _ _ ?_
    simp (disch := first | assumption | omega | (simp only [LN] <;> omega) | (simp (disch := first | assumption | omega | (simp only [LN] <;> omega)) only [row_alloc, row_set]; assumption)) only [W_block, P3, ↓reduceIte, reduceAdd, reduceEqDiff, reduceCtorEq, initFr, reduceLT, clsA, reduceLeDiff, reduceMul, reduceSub, reduceIte, ga, gw, rng68, stn68s]
    refine hq2 _ _ ⟨.agg (stl (tidyS L s)).toArray, ?_, rfl, (kH1.chg_trans cK (by simp; omega)).set (by omega) hw2 _⟩
    show resO [.cn 68 4] _ _ = _
    rw [resC]
    show celln 68 (ptr (H.n + 2) 0) _ = _
    rw [cellnp, rangeA_e, AHeap.get_set_same gw, rng68]; rfl
end Go.AM.Fd

set_option linter.unusedSimpArgs false
set_option linter.unusedVariables false
set_option maxRecDepth 8000
namespace Go.AM.Fd
open Nat (reduceAdd reduceEqDiff reduceLT reduceLeDiff reduceMul reduceSub)
open Go.Proofs Go.AM.F
def kOK (L : Ly) (s : Sta) (i k : Nat) : Bool := !((decide (i ≠ k) && s.lo k) && cf L i k)
def nOK (s : Sta) (i : Nat) (x : Int × Bool) : Bool := !(s.lo i && (s.po x.1.toNat != x.2))
def iOK (L : Ly) (s : Sta) (i : Nat) : Bool := (!s.lo i || (List.range L.r.length).all (kOK L s i)) && (nds (ro L i)).all (nOK s i)
def rgtD (L : Ly) (s : Sta) : Bool := staB (tidyS L s) s && (List.range L.r.length).all (iOK L s)
theorem all_snoc {p : Nat → Bool} {i : Nat} (h : (List.range i).all p = true) (h2 : p i = true) : (List.range (i + 1)).all p = true := by
  rw [List.range_succ, List.all_append, h]; simp [h2]
theorem all_at {p : Nat → Bool} {n i : Nat} (hi : i < n) (h : p i = false) : (List.range n).all p = false :=
  List.all_eq_false.2 ⟨i, List.mem_range.2 hi, by simp [h]⟩
set_option maxHeartbeats 4000000 in
theorem t12 {H : AHeap} {u : V4} {xs : List RV} {L : Ly} (h : LyR H u xs L) (he : checkE L = 0) (s : Sta) : ∃ w H', ARun Go.Proofs.Try.prog 0 12 [.agg u.l.toArray, .agg (stl s).toArray] H w H' ∧ w = .bool (rgtD L s) ∧ H' = H := by
  suffices h' : ∃ w H', ARun Go.Proofs.Try.prog 0 12 [.agg u.l.toArray, .agg (stl s).toArray] H w H' ∧ w = .bool (rgtD L s) ∧ Keeps H H' by
    obtain ⟨_, _, a, rfl, k⟩ := h'
    exact ⟨_, _, a.gc0 k (.inr (.bool _)), rfl, rfl⟩
  refine walk2 f12_ok f12_n ?_
  intro Q hq1 hq2
  have hmay := check_may he
  have hL := may_lim hmay
  have lr := hL.r
  have lpp := hL.p
  have os := Sl.one h.s
  have op := Sl.one h.p
  have og := Sl.one h.g
  have or := Sl.one h.r
  have ir := Sl.is h.r
  have lenr := h.r.len
  rw [h.rlen] at lenr
  have hul : u.l = [u.s, u.p, u.g, u.r] := rfl
  obtain ⟨K0, hK0⟩ : ∃ X, X = (H.alloc (.cells true false 4 [u.s, u.p, u.g, u.r] 27)).alloc (.cells true false 68 (stl s) 32) := ⟨_, rfl⟩
  have k0 : Keeps H K0 := by rw [hK0]; exact ((Keeps.refl H).alloc _).alloc _
  have n0 : K0.n = H.n + 2 := by rw [hK0]; rfl
  have gl0 : K0.get H.n = some (.cells true false 4 [u.s, u.p, u.g, u.r] 27) := by rw [hK0]; exact ((Keeps.refl _).alloc _).at_ (AHeap.get_alloc_new H _)
  have gs0 : K0.get (H.n + 1) = some (.cells true false 68 (stl s) 32) := by rw [hK0]; exact AHeap.get_alloc_new (H.alloc _) _
  have hs0 := AHeap.get_lt gs0
  have tT := t10 (h.keeps k0) hL s
  have eqs0 := fun K neg a b => eq_stl K neg a b
  have hno : rgtD L s = false → ∀ {K : AHeap} {fr : List Value}, Keeps H K → resO f12.res fr K = some (.bool false) → Q .ret fr K := fun e K fr k hr => hq2 _ _ ⟨_, hr, by rw [e], k⟩
  rw [hul] at tT ⊢
  simp (disch := first | assumption | omega | (simp only [LN] <;> omega) | (simp (disch := first | assumption | omega | (simp only [LN] <;> omega)) only [row_alloc, row_set]; assumption)) only [f12, W_block, P3, ↓reduceIte, reduceAdd, reduceEqDiff, reduceCtorEq, initFr, reduceLT, clsA, reduceLeDiff, reduceMul, reduceSub, reduceIte, os, op, og, or, stl_one, stl_len, rng68]
  simp only [← hK0]
  refine callK tT ?_
  rintro _ X ⟨rfl, hX⟩
  rw [hX]
  cases hsb : staB (tidyS L s) s with
  | false =>
    simp (disch := first | assumption | omega | (simp only [LN] <;> omega) | (simp (disch := first | assumption | omega | (simp only [LN] <;> omega)) only [row_alloc, row_set]; assumption)) only [W_block, P3, ↓reduceIte, reduceAdd, reduceEqDiff, reduceCtorEq, initFr, reduceLT, clsA, reduceLeDiff, reduceMul, reduceSub, reduceIte, gs0, rng68, O68H_r, eqs0, hsb, hs0]
    exact hno (by unfold rgtD; rw [hsb]; rfl) k0 rfl
  | true =>
  simp (disch := first | assumption | omega | (simp only [LN] <;> omega) | (simp (disch := first | assumption | omega | (simp only [LN] <;> omega)) only [row_alloc, row_set]; assumption)) only [ P3, ↓reduceIte, reduceAdd, reduceEqDiff, reduceCtorEq, initFr, reduceLT, clsA, reduceLeDiff, reduceMul, reduceSub, reduceIte, gs0, rng68, O68H_r, eqs0, hsb, hs0]
  obtain ⟨A1, hA1⟩ : ∃ v : Value, v = .agg #[u.s, u.p, u.g, u.r] := ⟨_, rfl⟩
  obtain ⟨A2, hA2⟩ : ∃ v : Value, v = .agg (stl s).toArray := ⟨_, rfl⟩
  rw [W_block, ← hA1, ← hA2]
  refine W_loop2 (fun q fr K => ∃ i x6 x7 x8 x10 x11 x12 x13 x14, fr = [A1, A2, ptr H.n 0, ptr (H.n + 1) 0, .bool false, .int .i64 ((i : Nat) : Int), x6, x7, x8, .bool false, x10, x11, x12, x13, x14] ∧
      Keeps K0 K ∧ (List.range i).all (iOK L s) = true ∧ i ≤ L.r.length ∧ q = L.r.length - i) L.r.length
    ⟨0, _, _, _, _, _, _, _, _, rfl, Keeps.refl _, rfl, by omega, rfl⟩ ?_
  rintro Q' q fr K ⟨i, x6, x7, x8, x10, x11, x12, x13, x14, rfl, kK, hall, hi, rfl⟩ hn' hx' hret
  have gl := kK.at_ gl0
  have gs := kK.at_ gs0
  have hsK := AHeap.get_lt gs
  by_cases hlt : i < L.r.length
  · have iN : i < 64 := by omega
    have e0 : (0 : Int) ≤ (i : Int) := by omega
    have e1 : (i : Int) < ((L.r.length : Nat) : Int) := by omega
    have hw : IntKind.i64.wrap ((i : Int) + 1) = ((i + 1 : Nat) : Int) := by rw [wrap_i64 (by omega) (by omega)]; simp
    have hiT := fun e => all_at (p := iOK L s) hlt e
    have hbad : iOK L s i = false → rgtD L s = false := fun e => by unfold rgtD; rw [hiT e]; simp
    obtain ⟨hyr, hyo⟩ := rv_ro h hlt
    obtain ⟨na, ra⟩ := (h.r.keeps (k0.trans kK)).at_ (i := i) (by rw [h.rlen]; exact hlt)
    have hgood := check_good he (List.getElem_mem hlt)
    rw [← ro_eq hlt, ← hyr] at hgood
    generalize xs.getD i rv0 = y at *
    have rowy : y.row = [.string ⟨y.r.n.toArray⟩, .int .i64 y.r.g, y.vp, y.vq, y.vo, y.vf] := rfl
    simp (disch := first | assumption | omega | (simp only [LN] <;> omega) | (simp (disch := first | assumption | omega | (simp only [LN] <;> omega)) only [row_alloc, row_set]; assumption)) only [ P3, ↓reduceIte, reduceAdd, reduceEqDiff, reduceCtorEq, initFr, reduceLT, clsA, reduceLeDiff, reduceMul, reduceSub, reduceIte, gl, ir, lenr, e1]
    rw [W_block]
    simp (disch := first | assumption | omega | (simp only [LN] <;> omega) | (simp (disch := first | assumption | omega | (simp only [LN] <;> omega)) only [row_alloc, row_set]; assumption)) only [ P3, ↓reduceIte, reduceAdd, reduceEqDiff, reduceCtorEq, initFr, reduceLT, clsA, reduceLeDiff, reduceMul, reduceSub, reduceIte]
    rw [W_block]
    -- the pairs
    refine W_loop2 (fun q fr X => ∃ k x11 x12, fr = [A1, A2, ptr H.n 0, ptr (H.n + 1) 0, .bool false, .int .i64 ((i : Nat) : Int), .int .i64 ((k : Nat) : Int), x7, x8, .bool false, .bool true, x11, x12, x13, x14] ∧
        K = X ∧ (s.lo i = true → (List.range k).all (kOK L s i) = true) ∧ k ≤ L.r.length ∧ (s.lo i = false → k = 0) ∧ q = L.r.length - k) L.r.length
      ⟨0, _, _, rfl, rfl, fun _ => rfl, by omega, fun _ => rfl, rfl⟩ ?_
    rintro Q2 q fr X ⟨k, x11, x12, rfl, rfl, hk, hkl, hk0, rfl⟩ hn2 hx2 hret2
    have goon : (s.lo i = true → (List.range L.r.length).all (kOK L s i) = true) → ∀ {x6 x11 x12 : Value}, Q2 (.exit 2) [A1, A2, ptr H.n 0, ptr (H.n + 1) 0, .bool false, .int .i64 ((i : Nat) : Int), x6, x7, x8, .bool false, .bool true, x11, x12, x13, x14] K := by
      intro hkk x6 x11 x12
      have hks : (!s.lo i || (List.range L.r.length).all (kOK L s i)) = true := by
        cases hlo : s.lo i with
        | false => rfl
        | true => rw [hkk hlo]; rfl
      refine hx2 _ _ _ ?_
      have tN := t28 ((hyo.keeps k0).keeps kK) (by have := hgood.lim.q; have := hgood.lim.f; omega)
      simp only [rowy] at tN ra
      simp (disch := first | assumption | omega | (simp only [LN] <;> omega) | (simp (disch := first | assumption | omega | (simp only [LN] <;> omega)) only [row_alloc, row_set]; assumption)) only [W_block, P3, ↓reduceIte, reduceAdd, reduceEqDiff, reduceCtorEq, initFr, reduceLT, clsA, reduceLeDiff, reduceMul, reduceSub, reduceIte, gl, ir, lenr, na, ra, e1, a_loadnvf]
      refine callK tN ?_
      rintro nv K2 ⟨hnv, k2, fnv⟩
      have gl2 := k2.at_ gl
      have gs2 := k2.at_ gs
      have hs2 := AHeap.get_lt gs2
      have isn := Sl.is hnv
      have lenn := hnv.len
      have ndl : (nds y.r).length ≤ 32 := by have := hgood.lim.q; have := hgood.lim.f; simp [nds]; omega
      simp (disch := first | assumption | omega | (simp only [LN] <;> omega) | (simp (disch := first | assumption | omega | (simp only [LN] <;> omega)) only [row_alloc, row_set]; assumption)) only [ P3, ↓reduceIte, reduceAdd, reduceEqDiff, reduceCtorEq, initFr, reduceLT, clsA, reduceLeDiff, reduceMul, reduceSub, reduceIte]
      rw [W_block]
      refine W_loop2 (fun q fr X => ∃ j x13 x14, fr = [A1, A2, ptr H.n 0, ptr (H.n + 1) 0, .bool false, .int .i64 ((i : Nat) : Int), x6, nv, .int .i64 ((j : Nat) : Int), .bool false, .bool true, x11, x12, x13, x14] ∧
          K2 = X ∧ ((nds y.r).take j).all (nOK s i) = true ∧ j ≤ (nds y.r).length ∧ q = (nds y.r).length - j) (nds y.r).length
        ⟨0, _, _, rfl, rfl, by simp, by omega, rfl⟩ ?_
      rintro Q3 q fr X ⟨j, x13, x14, rfl, rfl, hj, hjl, rfl⟩ hn3 hx3 hret3
      by_cases hjlt : j < (nds y.r).length
      · obtain ⟨nj, rj⟩ := hnv.at_ hjlt
        have j0 : (0 : Int) ≤ (j : Int) := by omega
        have j1 : (j : Int) < (((nds y.r).length : Nat) : Int) := by omega
        have hw3 : IntKind.i64.wrap ((j : Int) + 1) = ((j + 1 : Nat) : Int) := by rw [wrap_i64 (by omega) (by omega)]; simp
        have hgd : (nds y.r).getD j (0, false) = (nds y.r)[j] := by rw [List.getD_eq_getElem?_getD, List.getElem?_eq_getElem hjlt]; rfl
        have htk : (nds y.r).take (j + 1) = (nds y.r).take j ++ [(nds y.r)[j]] := by rw [List.take_add_one, List.getElem?_eq_getElem hjlt]; rfl
        have hmem := List.getElem_mem hjlt
        have hrng := hgood.nd _ hmem
        rw [hgd] at rj
        generalize (nds y.r)[j] = z at *
        obtain ⟨zp, zb⟩ := z
        obtain ⟨m, rfl⟩ : ∃ m : Nat, zp = (m : Int) := ⟨zp.toNat, by have := hrng.1; simp only at this; omega⟩
        have hm32 : m < 32 := by have := hrng.2; simp only at this; omega
        have ok1 : nOK s i ((m : Int), zb) = true → ((nds y.r).take (j + 1)).all (nOK s i) = true := fun e => by rw [htk, List.all_append, hj]; simp [e]
        have bad1 : nOK s i ((m : Int), zb) = false → rgtD L s = false := fun e => hbad (by
          unfold iOK
          have : (nds (ro L i)).all (nOK s i) = false := List.all_eq_false.2 ⟨_, by rw [← hyr]; exact hmem, by simp [e]⟩
          rw [this]; simp)
        have hnOK : nOK s i ((m : Int), zb) = !(s.lo i && (s.po m != zb)) := rfl
        simp (disch := first | assumption | omega | (simp only [LN] <;> omega) | (simp (disch := first | assumption | omega | (simp only [LN] <;> omega)) only [row_alloc, row_set]; assumption)) only [W_block, P3, ↓reduceIte, reduceAdd, reduceEqDiff, reduceCtorEq, initFr, reduceLT, clsA, reduceLeDiff, reduceMul, reduceSub, reduceIte, isn, lenn, j1, gs2, stl_0]
        refine callK (t24 _ _) ?_
        rintro _ X ⟨rfl, hX⟩
        rw [hX, has_nat _ iN]
        cases hlo : s.lo i with
        | false =>
          rw [hlo] at hnOK
          simp (disch := first | assumption | omega | (simp only [LN] <;> omega) | (simp (disch := first | assumption | omega | (simp only [LN] <;> omega)) only [row_alloc, row_set]; assumption)) only [W_block, P3, ↓reduceIte, reduceAdd, reduceEqDiff, reduceCtorEq, initFr, reduceLT, clsA, reduceLeDiff, reduceMul, reduceSub, reduceIte, hw3]
          exact hn3 _ _ _ ⟨j + 1, _, _, rfl, rfl, ok1 (by rw [hnOK]; rfl), by omega, rfl⟩ (by omega)
        | true =>
          rw [hlo] at hnOK
          simp (disch := first | assumption | omega | (simp only [LN] <;> omega) | (simp (disch := first | assumption | omega | (simp only [LN] <;> omega)) only [row_alloc, row_set]; assumption)) only [W_block, P3, ↓reduceIte, reduceAdd, reduceEqDiff, reduceCtorEq, initFr, reduceLT, clsA, reduceLeDiff, reduceMul, reduceSub, reduceIte, gs2, rng68, nj, rj, lenn, j0, j1, a_load1v]
          refine callK (t29 s hm32) ?_
          rintro _ X ⟨rfl, hX⟩
          rw [hX]
          have qq := row_lt rj
          cases hpo : s.po m <;> cases zb <;> rw [hpo] at hnOK
          · simp (disch := first | assumption | omega | (simp only [LN] <;> omega) | (simp (disch := first | assumption | omega | (simp only [LN] <;> omega)) only [row_alloc, row_set]; assumption)) only [W_block, P3, ↓reduceIte, reduceAdd, reduceEqDiff, reduceCtorEq, initFr, reduceLT, clsA, reduceLeDiff, reduceMul, reduceSub, reduceIte, nj, rj, lenn, j0, j1, a_load1v, hw3, qq]
            exact hn3 _ _ _ ⟨j + 1, _, _, rfl, rfl, ok1 (by rw [hnOK]; rfl), by omega, rfl⟩ (by omega)
          · simp (disch := first | assumption | omega | (simp only [LN] <;> omega) | (simp (disch := first | assumption | omega | (simp only [LN] <;> omega)) only [row_alloc, row_set]; assumption)) only [W_block, P3, ↓reduceIte, reduceAdd, reduceEqDiff, reduceCtorEq, initFr, reduceLT, clsA, reduceLeDiff, reduceMul, reduceSub, reduceIte, nj, rj, lenn, j0, j1, a_load1v, hw3, qq]
            refine hret3 _ _ ?_
            refine hret _ _ ?_
            exact hno (bad1 (by rw [hnOK]; rfl)) ((k0.trans kK).trans k2) rfl
          · simp (disch := first | assumption | omega | (simp only [LN] <;> omega) | (simp (disch := first | assumption | omega | (simp only [LN] <;> omega)) only [row_alloc, row_set]; assumption)) only [W_block, P3, ↓reduceIte, reduceAdd, reduceEqDiff, reduceCtorEq, initFr, reduceLT, clsA, reduceLeDiff, reduceMul, reduceSub, reduceIte, nj, rj, lenn, j0, j1, a_load1v, hw3, qq]
            refine hret3 _ _ ?_
            refine hret _ _ ?_
            exact hno (bad1 (by rw [hnOK]; rfl)) ((k0.trans kK).trans k2) rfl
          · simp (disch := first | assumption | omega | (simp only [LN] <;> omega) | (simp (disch := first | assumption | omega | (simp only [LN] <;> omega)) only [row_alloc, row_set]; assumption)) only [W_block, P3, ↓reduceIte, reduceAdd, reduceEqDiff, reduceCtorEq, initFr, reduceLT, clsA, reduceLeDiff, reduceMul, reduceSub, reduceIte, nj, rj, lenn, j0, j1, a_load1v, hw3, qq]
            exact hn3 _ _ _ ⟨j + 1, _, _, rfl, rfl, ok1 (by rw [hnOK]; rfl), by omega, rfl⟩ (by omega)
      · have j1 : ¬ ((j : Nat) : Int) < (((nds y.r).length : Nat) : Int) := by omega
        have hje : j = (nds y.r).length := by omega
        subst hje
        rw [List.take_length, hyr] at hj
        simp (disch := first | assumption | omega | (simp only [LN] <;> omega) | (simp (disch := first | assumption | omega | (simp only [LN] <;> omega)) only [row_alloc, row_set]; assumption)) only [W_block, P3, ↓reduceIte, reduceAdd, reduceEqDiff, reduceCtorEq, initFr, reduceLT, clsA, reduceLeDiff, reduceMul, reduceSub, reduceIte, isn, lenn, j1]
        refine hx3 _ _ _ ?_
        simp (disch := first | assumption | omega | (simp only [LN] <;> omega) | (simp (disch := first | assumption | omega | (simp only [LN] <;> omega)) only [row_alloc, row_set]; assumption)) only [W_block, P3, ↓reduceIte, reduceAdd, reduceEqDiff, reduceCtorEq, initFr, reduceLT, clsA, reduceLeDiff, reduceMul, reduceSub, reduceIte, hw]
        exact hn' _ _ _ ⟨i + 1, _, _, _, _, _, _, _, _, rfl, kK.trans k2, all_snoc hall (by unfold iOK; rw [hks, hj]; rfl), by omega, rfl⟩ (by omega)
    by_cases hlk : k < L.r.length
    · have kN : k < 64 := by omega
      have c0 : (0 : Int) ≤ (k : Int) := by omega
      have c1 : ((k : Nat) : Int) < ((L.r.length : Nat) : Int) := by omega
      have hw2 : IntKind.i64.wrap ((k : Int) + 1) = ((k + 1 : Nat) : Int) := by rw [wrap_i64 (by omega) (by omega)]; simp
      simp (disch := first | assumption | omega | (simp only [LN] <;> omega) | (simp (disch := first | assumption | omega | (simp only [LN] <;> omega)) only [row_alloc, row_set]; assumption)) only [W_block, P3, ↓reduceIte, reduceAdd, reduceEqDiff, reduceCtorEq, initFr, reduceLT, clsA, reduceLeDiff, reduceMul, reduceSub, reduceIte, gl, gs, ir, lenr, c1, stl_0]
      refine callK (t24 _ _) ?_
      rintro _ X ⟨rfl, hX⟩
      rw [hX, has_nat _ iN]
      cases hlo : s.lo i with
      | false =>
        simp (disch := first | assumption | omega | (simp only [LN] <;> omega) | (simp (disch := first | assumption | omega | (simp only [LN] <;> omega)) only [row_alloc, row_set]; assumption)) only [W_block, P3, ↓reduceIte, reduceAdd, reduceEqDiff, reduceCtorEq, initFr, reduceLT, clsA, reduceLeDiff, reduceMul, reduceSub, reduceIte]
        exact goon (fun e => by rw [hlo] at e; cases e)
      | true =>
        have okk : kOK L s i k = true → (List.range (k + 1)).all (kOK L s i) = true := fun e => all_snoc (hk hlo) e
        have badk : kOK L s i k = false → rgtD L s = false := fun e => hbad (by
          unfold iOK; rw [hlo, all_at hlk e]; rfl)
        have hkk : kOK L s i k = !((decide (i ≠ k) && s.lo k) && cf L i k) := rfl
        by_cases hik : i = k
        · subst hik
          simp (disch := first | assumption | omega | (simp only [LN] <;> omega) | (simp (disch := first | assumption | omega | (simp only [LN] <;> omega)) only [row_alloc, row_set]; assumption)) only [W_block, P3, ↓reduceIte, reduceAdd, reduceEqDiff, reduceCtorEq, initFr, reduceLT, clsA, reduceLeDiff, reduceMul, reduceSub, reduceIte, hw2]
          exact hn2 _ _ _ ⟨i + 1, _, _, rfl, rfl, fun _ => okk (by rw [hkk]; simp), by omega, fun e => (by rw [hlo] at e; cases e), rfl⟩ (by omega)
        · have nik : ((i : Int) != (k : Int)) = true := by simp; omega
          simp (disch := first | assumption | omega | (simp only [LN] <;> omega) | (simp (disch := first | assumption | omega | (simp only [LN] <;> omega)) only [row_alloc, row_set]; assumption)) only [W_block, P3, ↓reduceIte, reduceAdd, reduceEqDiff, reduceCtorEq, initFr, reduceLT, clsA, reduceLeDiff, reduceMul, reduceSub, reduceIte, nik, gs, stl_0, hsK]
          refine callK (t24 _ _) ?_
          rintro _ X ⟨rfl, hX⟩
          rw [hX, has_nat _ kN]
          cases hlk2 : s.lo k with
          | false =>
            simp (disch := first | assumption | omega | (simp only [LN] <;> omega) | (simp (disch := first | assumption | omega | (simp only [LN] <;> omega)) only [row_alloc, row_set]; assumption)) only [W_block, P3, ↓reduceIte, reduceAdd, reduceEqDiff, reduceCtorEq, initFr, reduceLT, clsA, reduceLeDiff, reduceMul, reduceSub, reduceIte, hw2]
            exact hn2 _ _ _ ⟨k + 1, _, _, rfl, rfl, fun _ => okk (by rw [hkk, hlk2]; simp), by omega, fun e => (by rw [hlo] at e; cases e), rfl⟩ (by omega)
          | true =>
            obtain ⟨hzr, hzo⟩ := rv_ro h hlk
            obtain ⟨nb, rb⟩ := (h.r.keeps (k0.trans kK)).at_ (i := k) (by rw [h.rlen]; exact hlk)
            have zlim := may_ro hmay (List.getElem_mem hlk)
            rw [← ro_eq hlk, ← hzr] at zlim
            generalize xs.getD k rv0 = z at *
            have rowz : z.row = [.string ⟨z.r.n.toArray⟩, .int .i64 z.r.g, z.vp, z.vq, z.vo, z.vf] := rfl
            have tC := t27 ((h.keeps k0).keeps kK) ((hyo.keeps k0).keeps kK) ((hzo.keeps k0).keeps kK) hgood.lim zlim hL
            simp only [hul, rowy, rowz] at tC ra rb
            simp (disch := first | assumption | omega | (simp only [LN] <;> omega) | (simp (disch := first | assumption | omega | (simp only [LN] <;> omega)) only [row_alloc, row_set]; assumption)) only [W_block, P3, ↓reduceIte, reduceAdd, reduceEqDiff, reduceCtorEq, initFr, reduceLT, clsA, reduceLeDiff, reduceMul, reduceSub, reduceIte, gl, gs, ir, lenr, na, ra, nb, rb, c0, c1, e0, e1, a_loadnvf]
            refine callK tC ?_
            rintro _ X ⟨rfl, hX⟩
            rw [hX, hyr, hzr]
            have hcf : confB L (ro L i) (ro L k) = cf L i k := rfl
            rw [hcf]
            cases hc : cf L i k with
            | false =>
              simp (disch := first | assumption | omega | (simp only [LN] <;> omega) | (simp (disch := first | assumption | omega | (simp only [LN] <;> omega)) only [row_alloc, row_set]; assumption)) only [W_block, P3, ↓reduceIte, reduceAdd, reduceEqDiff, reduceCtorEq, initFr, reduceLT, clsA, reduceLeDiff, reduceMul, reduceSub, reduceIte, hw2]
              exact hn2 _ _ _ ⟨k + 1, _, _, rfl, rfl, fun _ => okk (by rw [hkk, hlk2, hc]; simp), by omega, fun e => (by rw [hlo] at e; cases e), rfl⟩ (by omega)
            | true =>
              simp (disch := first | assumption | omega | (simp only [LN] <;> omega) | (simp (disch := first | assumption | omega | (simp only [LN] <;> omega)) only [row_alloc, row_set]; assumption)) only [W_block, P3, ↓reduceIte, reduceAdd, reduceEqDiff, reduceCtorEq, initFr, reduceLT, clsA, reduceLeDiff, reduceMul, reduceSub, reduceIte]
              refine hret2 _ _ ?_
              refine hret _ _ ?_
              exact hno (badk (by rw [hkk, hlk2, hc]; simp; exact hik)) (k0.trans kK) rfl
    · have c1 : ¬ ((k : Nat) : Int) < ((L.r.length : Nat) : Int) := by omega
      have hke : k = L.r.length := by omega
      subst hke
      simp (disch := first | assumption | omega | (simp only [LN] <;> omega) | (simp (disch := first | assumption | omega | (simp only [LN] <;> omega)) only [row_alloc, row_set]; assumption)) only [W_block, P3, ↓reduceIte, reduceAdd, reduceEqDiff, reduceCtorEq, initFr, reduceLT, clsA, reduceLeDiff, reduceMul, reduceSub, reduceIte, gl, ir, lenr, c1]
      exact goon hk
  · have e1 : ¬ ((i : Nat) : Int) < ((L.r.length : Nat) : Int) := by omega
    have hie : i = L.r.length := by omega
    subst hie
    simp (disch := first | assumption | omega | (simp only [LN] <;> omega) | (simp (disch := first | assumption | omega | (simp only [LN] <;> omega)) only [row_alloc, row_set]; assumption)) only [W_block, P3, ↓reduceIte, reduceAdd, reduceEqDiff, reduceCtorEq, initFr, reduceLT, clsA, reduceLeDiff, reduceMul, reduceSub, reduceIte, gl, ir, lenr, e1]
    refine hx' _ _ _ ?_
    simp (disch := first | assumption | omega | (simp only [LN] <;> omega) | (simp (disch := first | assumption | omega | (simp only [LN] <;> omega)) only [row_alloc, row_set]; assumption)) only [W_block, P3, ↓reduceIte, reduceAdd, reduceEqDiff, reduceCtorEq, initFr, reduceLT, clsA, reduceLeDiff, reduceMul, reduceSub, reduceIte]
    exact hq2 _ _ ⟨_, rfl, by unfold rgtD; rw [hsb, hall]; rfl, k0.trans kK⟩
end Go.AM.Fd

set_option linter.unusedSimpArgs false
set_option linter.unusedVariables false
set_option maxRecDepth 8000
namespace Go.AM.Fd
open Nat (reduceAdd reduceEqDiff reduceLT reduceLeDiff reduceMul reduceSub)
open Go.Proofs Go.AM.F
theorem s_shr32 (f : Nat → Bool) : binA .shr (S64 f) (.int .u64 32) = some (S64 fun i => decide (i + 32 < 64) && f (i + 32)) := by
  have h := s_shr f 32
  unfold S64 at h ⊢
  rw [b_shr .u64 _ ((32 : Nat) : Int) .i64 (by omega)] at h
  rw [b_shr .u64 _ 32 .u64 (by omega)]
  exact h
theorem one_low {m : Nat} (hm : m ≤ 64) (n : Int) : none64 (fun j => oneP n j && lowP (m : Int) j) = !(decide (0 ≤ n) && decide (n < (m : Int))) := by
  unfold none64
  rw [Bool.eq_iff_iff, List.all_eq_true]
  simp only [oneP, lowP, List.mem_range, Bool.not_eq_true', Bool.and_eq_false_iff, decide_eq_false_iff_not]
  constructor
  · intro h
    by_cases h0 : 0 ≤ n
    · right
      intro h1
      rcases h n.toNat (by omega) with h2 | h2
      · exact h2 (by omega)
      · exact h2 (by omega)
    · exact .inl h0
  · intro h i hi
    by_cases e : (i : Int) = n
    · right; omega
    · exact .inl e
def turnP (L : Ly) (s : Sta) (i p : Nat) : Bool := (nor L i p && s.po p) || (rev L i p && !s.po p)
def setC (L : Ly) (oc : Nat → Bool) (s : Sta) (i : Nat) : Bool := none64 (fun j => s.lo j && (oneP (i : Nat) j || tabP L i j)) && none64 (fun j => oc j && (trP (ro L i) j || lieU L (turnP L s i) j))
def cancC (s : Sta) (i : Nat) : Bool := !none64 (fun j => ((oneP (i : Nat) j && s.lo j) && !s.us j) && !s.ca j)
def ptP (L : Ly) (n : Int) (j : Nat) : Bool := oneP n j && lowP L.p.length j
def moveC (L : Ly) (oc : Nat → Bool) (s : Sta) (n : Int) : Bool := none64 (fun i => decide (i + 32 < 64) && oneP n (i + 32)) && (!none32 (fun j => ptP L n j && !(anyR L s.lo (nor L) j || anyR L s.lo (rev L) j)) && none64 (fun j => lieU L (ptP L n) j && oc j))
def setS (L : Ly) (s : Sta) (i : Nat) : Sta := { s with lo := fun j => s.lo j || oneP (i : Nat) j, po := fun p => s.po p ^^ turnP L s i p }
def cancS (L : Ly) (oc : Nat → Bool) (s : Sta) (i : Nat) : Sta := { s with ca := fun j => s.ca j || oneP (i : Nat) j, ti := upd s.ti i (if !none64 (fun j => ahP L (ro L i) j && oc j) then 20 else 0) }
def moveS (L : Ly) (s : Sta) (n : Int) : Sta := { s with po := fun j => s.po j ^^ ptP L n j }
def comB (L : Ly) (oc : Nat → Bool) (s : Sta) (kd n : Int) : Sta :=
  if kd = 1 then (if 0 ≤ n ∧ n < L.r.length then (if setC L oc s n.toNat then setS L s n.toNat else s) else s)
  else if kd = 2 then (if 0 ≤ n ∧ n < L.r.length then (if cancC s n.toNat then cancS L oc s n.toNat else s) else s)
  else if kd = 3 then (if moveC L oc s n then moveS L s n else s)
  else s
theorem upd_upd (t : Nat → Nat) (i a b : Nat) : upd (upd t i a) i b = upd t i b := by
  funext j; unfold upd; split <;> rfl
set_option maxHeartbeats 4000000 in
theorem t30 {K0 H : AHeap} {b sb : Nat} {L : Ly} {s : Sta} {oc : Nat → Bool} {kd n : Int} {r : Bool} {T : Nat} (h : MaR K0 b L) (k0 : Keeps K0 H) (hsb : K0.n ≤ sb) (lr : L.r.length ≤ 64) (lp : L.p.length ≤ 32)
    (gs : H.get sb = some (.cells true r 68 (stl s) T)) :
    ∃ w H', ARun Go.Proofs.Try.prog 0 30 [ptr b 0, ptr sb 0, S64 oc, .agg #[.int .u8 kd, .int .i64 n]] H w H' ∧ Chg [sb] H H' ∧ H'.get sb = some (.cells true r 68 (stl (comB L oc s kd n)) T) := by
  refine walk2 f30_ok f30_n ?_
  intro Q hq1 hq2
  have hM := h
  obtain ⟨vr, vl, own, room, TT, gb0, ms0⟩ := h
  have hb0 := AHeap.get_lt gb0
  have hs0 := AHeap.get_lt gs
  have bsb : b ≠ sb := by omega
  obtain ⟨K, hK⟩ : ∃ X, X = H.alloc (.cells true false 2 [.int .u8 kd, .int .i64 n] 70) := ⟨_, rfl⟩
  have kK : Keeps H K := by rw [hK]; exact (Keeps.refl H).alloc _
  have gc : K.get H.n = some (.cells true false 2 [.int .u8 kd, .int .i64 n] 70) := by rw [hK]; exact AHeap.get_alloc_new H _
  have gsK := kK.at_ gs
  have gb := (k0.trans kK).at_ gb0
  have msK := ms0.keeps (k0.trans kK)
  have r1 := Sl.one ms0.r
  have l1 := Sl.one ms0.l
  have hsK := AHeap.get_lt gsK
  have hcn : H.n < K.n := AHeap.get_lt gc
  have hnsb : H.n ≠ sb := by omega
  have cK : Chg [sb] H K := kK.chg _
  unfold mcells at gb
  have one := t66z (H := K) n
  simp (disch := first | assumption | omega | (simp only [LN] <;> omega) | (simp (disch := first | assumption | omega | (simp only [LN] <;> omega)) only [row_alloc, row_set]; assumption)) only [f30, W_block, P3, ↓reduceIte, reduceAdd, reduceEqDiff, reduceCtorEq, initFr, reduceLT, clsA, reduceLeDiff, reduceMul, reduceSub, reduceIte]
  rw [← hK]
  refine callK one ?_
  rintro _ X ⟨rfl, hX⟩
  rw [hX]
  have skip : comB L oc s kd n = s → ∀ {fr : List Value}, Q .normal fr K := fun e fr => hq1 _ _ ⟨_, rfl, cK, by rw [e]; exact gsK⟩
  have skipr : comB L oc s kd n = s → ∀ {fr : List Value}, Q .ret fr K := fun e fr => hq2 _ _ ⟨_, rfl, cK, by rw [e]; exact gsK⟩
  have hol := one_low lr n
  by_cases k1 : kd = 1
  · subst k1
    by_cases hn : 0 ≤ n ∧ n < L.r.length
    · obtain ⟨i, rfl⟩ : ∃ i : Nat, n = (i : Int) := ⟨n.toNat, by omega⟩
      have hi : i < L.r.length := by omega
      have hol' : none64 (fun j => oneP (i : Int) j && lowP ((L.r.length : Nat) : Int) j) = false := by rw [hol]; simp [hi]
      obtain ⟨na, ra⟩ := (msK.r).at_ (by omega) (i := i) (by rw [mrows_len]; exact hi)
      rw [mrows_at hi] at ra
      have len := msK.r.len
      rw [mrows_len] at len
      have e0 : (0 : Int) ≤ (i : Int) := by omega
      have e1 : (i : Int) < ((L.r.length : Nat) : Int) := by omega
      obtain ⟨K2, hK2⟩ : ∃ X, X = K.alloc (.cells true false 6 (mrow L i) 89) := ⟨_, rfl⟩
      have kK2 : Keeps K K2 := by rw [hK2]; exact (Keeps.refl K).alloc _
      have gx : K2.get K.n = some (.cells true false 6 (mrow L i) 89) := by rw [hK2]; exact AHeap.get_alloc_new K _
      have hM2 : MaR K2 b L := hM.keeps ((k0.trans kK).trans kK2)
      have gc2 := kK2.at_ gc
      have gs2 := kK2.at_ gsK
      have gb2 := kK2.at_ gb
      have hs2 := AHeap.get_lt gs2
      have cK2 := cK.trans (kK2.chg [sb]) (by simp)
      unfold mrow at ra hK2 gx
      have hbK := AHeap.get_lt gb
      have eC : comB L oc s 1 (i : Int) = if setC L oc s i then setS L s i else s := by unfold comB; rw [if_pos rfl, if_pos hn]; rfl
      unfold setC setS turnP nor rev at eC
      have tL := t67 hM2 lp (turnP L s i)
      unfold turnP nor rev at tL
      cases h1 : none64 (fun j => s.lo j && (oneP (i : Int) j || tabP L i j)) with
      | false =>
        rw [h1] at eC
        simp (disch := first | assumption | omega | (simp only [LN] <;> omega) | (simp (disch := first | assumption | omega | (simp only [LN] <;> omega)) only [row_alloc, row_set]; assumption)) only [W_block, P3, ↓reduceIte, reduceAdd, reduceEqDiff, reduceCtorEq, initFr, reduceLT, clsA, reduceLeDiff, reduceMul, reduceSub, reduceIte, gc, gb, gsK, hsK, hbK, hcn, stl_0, stl_67, s_and, s_or, p_and, p_andn, p_or, s_eq0, hol', h1, len, na, ra, e0, e1, a_loadnvf, o_s64, o_s32, one_s64, one_s32]
        simp only [← hK2]
        exact hq1 _ _ ⟨_, rfl, cK2, by rw [eC]; simpa using gs2⟩
      | true =>
        rw [h1] at eC
        simp (disch := first | assumption | omega | (simp only [LN] <;> omega) | (simp (disch := first | assumption | omega | (simp only [LN] <;> omega)) only [row_alloc, row_set]; assumption)) only [W_block, P3, ↓reduceIte, reduceAdd, reduceEqDiff, reduceCtorEq, initFr, reduceLT, clsA, reduceLeDiff, reduceMul, reduceSub, reduceIte, gc, gb, gsK, hsK, hbK, hcn, stl_0, stl_67, s_and, s_or, p_and, p_andn, p_or, s_eq0, hol', h1, len, na, ra, e0, e1, a_loadnvf, o_s64, o_s32, one_s64, one_s32]
        simp only [← hK2]
        refine callK tL ?_
        rintro _ X ⟨rfl, hX⟩
        rw [hX]
        have g3 : ∀ o, (K2.set sb o).get sb = some o := fun o => AHeap.get_set_same gs2 o
        have g4 : ∀ o, (K2.set sb o).get H.n = K2.get H.n := fun o => AHeap.get_set_other K2 hnsb hs2 o
        have hw := fun o : AO => cK2.trans (Chg.set K2 hs2 o) (by simp)
        cases h2 : none64 (fun j => oc j && (trP (ro L i) j || lieU L (fun p => ndP (nds (ro L i)) false p && s.po p || ndP (nds (ro L i)) true p && !s.po p) j)) with
        | false =>
          rw [h2] at eC
          simp (disch := first | assumption | omega | (simp only [LN] <;> omega) | (simp (disch := first | assumption | omega | (simp only [LN] <;> omega)) only [row_alloc, row_set]; assumption)) only [W_block, P3, ↓reduceIte, reduceAdd, reduceEqDiff, reduceCtorEq, initFr, reduceLT, clsA, reduceLeDiff, reduceMul, reduceSub, reduceIte, gc2, gb2, gx, gs2, hs2, stl_0, stl_67, s_and, s_or, p_and, p_andn, p_or, s_eq0, h2, o_s64, o_s32, one_s64, one_s32]
          exact ⟨by simp, hq1 _ _ ⟨_, rfl, cK2, by rw [eC]; simpa using gs2⟩⟩
        | true =>
          rw [h2] at eC
          simp (disch := first | assumption | omega | (simp only [LN] <;> omega) | (simp (disch := first | assumption | omega | (simp only [LN] <;> omega)) only [row_alloc, row_set]; assumption)) only [W_block, P3, ↓reduceIte, reduceAdd, reduceEqDiff, reduceCtorEq, initFr, reduceLT, clsA, reduceLeDiff, reduceMul, reduceSub, reduceIte, gc2, gb2, gx, gs2, hs2, g3, g4, stl_len, stl_0, stl_67, set_0, set_67, s_and, s_or, p_and, p_andn, p_or, p_xor, s_eq0, h2, o_s64, o_s32, one_s64, one_s32]
          exact ⟨by simp, hq1 _ _ ⟨_, rfl, hw _, by rw [AHeap.get_set_same gs2, eC]; simp⟩⟩
    · have hol' : none64 (fun j => oneP n j && lowP ((L.r.length : Nat) : Int) j) = true := by rw [hol]; simp; omega
      simp (disch := first | assumption | omega | (simp only [LN] <;> omega) | (simp (disch := first | assumption | omega | (simp only [LN] <;> omega)) only [row_alloc, row_set]; assumption)) only [W_block, P3, ↓reduceIte, reduceAdd, reduceEqDiff, reduceCtorEq, initFr, reduceLT, clsA, reduceLeDiff, reduceMul, reduceSub, reduceIte, gc, gb, s_and, s_eq0, hol']
      exact skipr (by unfold comB; rw [if_pos rfl, if_neg hn])
  · have d1 : (kd == 1) = false := by simp [k1]
    by_cases k2 : kd = 2
    · subst k2
      by_cases hn : 0 ≤ n ∧ n < L.r.length
      · obtain ⟨i, rfl⟩ : ∃ i : Nat, n = (i : Int) := ⟨n.toNat, by omega⟩
        have hi : i < L.r.length := by omega
        have hol' : none64 (fun j => oneP (i : Int) j && lowP ((L.r.length : Nat) : Int) j) = false := by rw [hol]; simp [hi]
        obtain ⟨na, ra⟩ := (msK.r).at_ (by omega) (i := i) (by rw [mrows_len]; exact hi)
        rw [mrows_at hi] at ra
        have len := msK.r.len
        rw [mrows_len] at len
        have e0 : (0 : Int) ≤ (i : Int) := by omega
        have e1 : (i : Int) < ((L.r.length : Nat) : Int) := by omega
        obtain ⟨K2, hK2⟩ : ∃ X, X = K.alloc (.cells true false 6 (mrow L i) 89) := ⟨_, rfl⟩
        have kK2 : Keeps K K2 := by rw [hK2]; exact (Keeps.refl K).alloc _
        have gx : K2.get K.n = some (.cells true false 6 (mrow L i) 89) := by rw [hK2]; exact AHeap.get_alloc_new K _
        have hM2 : MaR K2 b L := hM.keeps ((k0.trans kK).trans kK2)
        have gc2 := kK2.at_ gc
        have gs2 := kK2.at_ gsK
        have gb2 := kK2.at_ gb
        have hs2 := AHeap.get_lt gs2
        have cK2 := cK.trans (kK2.chg [sb]) (by simp)
        unfold mrow at ra hK2 gx
        have hbK := AHeap.get_lt gb
        have eC : comB L oc s 2 (i : Int) = if cancC s i then cancS L oc s i else s := by unfold comB; rw [if_neg (by omega), if_pos rfl, if_pos hn]; rfl
        unfold cancC cancS at eC
        have i64 : (i : Int) < 64 := by omega
        have iN : i < 64 := by omega
        have hll : 3 + i < 68 := by omega
        have z0 := fun t : Sta => set_t0 t iN
        have z20 := fun t : Sta => set_t20 t iN
        have g3 : ∀ o, (K2.set sb o).get sb = some o := fun o => AHeap.get_set_same gs2 o
        have g4 : ∀ o, (K2.set sb o).get H.n = K2.get H.n := fun o => AHeap.get_set_other K2 hnsb hs2 o
        have hkn : K.n ≠ sb := by omega
        have g5 : ∀ o, (K2.set sb o).get K.n = K2.get K.n := fun o => AHeap.get_set_other K2 hkn hs2 o
        have hw := fun o : AO => cK2.trans (Chg.set K2 hs2 o) (by simp)
        cases h1 : none64 (fun j => ((oneP (i : Int) j && s.lo j) && !s.us j) && !s.ca j) with
        | true =>
          rw [h1] at eC
          simp (disch := first | assumption | omega | (simp only [LN] <;> omega) | (simp (disch := first | assumption | omega | (simp only [LN] <;> omega)) only [row_alloc, row_set]; assumption)) only [W_block, P3, ↓reduceIte, reduceAdd, reduceEqDiff, reduceCtorEq, initFr, reduceLT, clsA, reduceLeDiff, reduceMul, reduceSub, reduceIte, gc, gb, gsK, hsK, hbK, hcn, stl_0, stl_1, stl_2, stl_67, s_and, s_or, s_andn, p_and, p_andn, p_or, s_eq0, s_ne0, hol', h1, len, na, ra, e0, e1, a_loadnvf, o_s64, o_s32, one_s64, one_s32]
          simp only [← hK2]
          exact hq1 _ _ ⟨_, rfl, cK2, by rw [eC]; simpa using gs2⟩
        | false =>
          rw [h1] at eC
          cases h2 : none64 (fun j => ahP L (ro L i) j && oc j) with
          | true =>
            rw [h2] at eC
            simp (disch := first | assumption | omega | (simp only [LN] <;> omega) | (simp (disch := first | assumption | omega | (simp only [LN] <;> omega)) only [row_alloc, row_set]; assumption)) only [W_block, P3, ↓reduceIte, reduceAdd, reduceEqDiff, reduceCtorEq, initFr, reduceLT, clsA, reduceLeDiff, reduceMul, reduceSub, reduceIte, gc, gb, gsK, hsK, hbK, hcn, stl_0, stl_1, stl_2, stl_67, set_2, z0, stl_len, s_and, s_or, s_andn, p_and, p_andn, p_or, s_eq0, s_ne0, hol', h1, h2, len, na, ra, e0, e1, i64, hll, a_iaddrp, Int.toNat_natCast, Nat.mul_one, a_loadnvf, o_s64, o_s32, one_s64, one_s32]
            exact hq1 _ _ ⟨_, rfl, (cK.trans (Chg.set K hsK _) (by simp)).alloc _, ((Keeps.refl _).alloc _).at_ (by rw [AHeap.get_set_same gsK, eC]; simp)⟩
          | false =>
            rw [h2] at eC
            simp (disch := first | assumption | omega | (simp only [LN] <;> omega) | (simp (disch := first | assumption | omega | (simp only [LN] <;> omega)) only [row_alloc, row_set]; assumption)) only [W_block, P3, ↓reduceIte, reduceAdd, reduceEqDiff, reduceCtorEq, initFr, reduceLT, clsA, reduceLeDiff, reduceMul, reduceSub, reduceIte, gc, gb, gsK, hsK, hbK, hcn, stl_0, stl_1, stl_2, stl_67, set_2, z0, z20, stl_len, s_and, s_or, s_andn, p_and, p_andn, p_or, s_eq0, s_ne0, hol', h1, h2, len, na, ra, e0, e1, i64, hll, a_iaddrp, Int.toNat_natCast, Nat.mul_one, a_loadnvf, o_s64, o_s32, one_s64, one_s32]
            exact hq1 _ _ ⟨_, rfl, (cK.trans (Chg.set K hsK _) (by simp)).alloc _, ((Keeps.refl _).alloc _).at_ (by rw [AHeap.get_set_same gsK, eC]; simp [upd_upd])⟩
      · have hol' : none64 (fun j => oneP n j && lowP ((L.r.length : Nat) : Int) j) = true := by rw [hol]; simp; omega
        simp (disch := first | assumption | omega | (simp only [LN] <;> omega) | (simp (disch := first | assumption | omega | (simp only [LN] <;> omega)) only [row_alloc, row_set]; assumption)) only [W_block, P3, ↓reduceIte, reduceAdd, reduceEqDiff, reduceCtorEq, initFr, reduceLT, clsA, reduceLeDiff, reduceMul, reduceSub, reduceIte, gc, gb, s_and, s_eq0, hol']
        exact skipr (by unfold comB; rw [if_neg (by omega), if_pos rfl, if_neg hn])
    · have d2 : (kd == 2) = false := by simp [k2]
      by_cases k3 : kd = 3
      · subst k3
        have hbK := AHeap.get_lt gb
        have eC : comB L oc s 3 n = if moveC L oc s n then moveS L s n else s := by unfold comB; rw [if_neg (by omega), if_neg (by omega), if_pos rfl]
        unfold moveC moveS at eC
        have tN := t25 (f := s.lo) msK lr
        have tL := t67 (hM.keeps (k0.trans kK)) lp (ptP L n)
        unfold mcells at tN
        unfold ptP at tL eC
        simp (disch := first | assumption | omega | (simp only [LN] <;> omega) | (simp (disch := first | assumption | omega | (simp only [LN] <;> omega)) only [row_alloc, row_set]; assumption)) only [W_block, P3, ↓reduceIte, reduceAdd, reduceEqDiff, reduceCtorEq, initFr, reduceLT, clsA, reduceLeDiff, reduceMul, reduceSub, reduceIte, gc, gb, gsK, r1, l1, stl_0]
        refine callK tN ?_
        rintro _ X ⟨rfl, hX⟩
        rw [hX]
        cases h1 : none64 (fun i => decide (i + 32 < 64) && oneP n (i + 32)) with
        | false =>
          rw [h1] at eC
          simp (disch := first | assumption | omega | (simp only [LN] <;> omega) | (simp (disch := first | assumption | omega | (simp only [LN] <;> omega)) only [row_alloc, row_set]; assumption)) only [W_block, P3, ↓reduceIte, reduceAdd, reduceEqDiff, reduceCtorEq, initFr, reduceLT, clsA, reduceLeDiff, reduceMul, reduceSub, reduceIte, gc, gb, gsK, r1, l1, stl_0, s_down, p_and, s_shr32, s_eq0, h1]
          exact hq1 _ _ ⟨_, rfl, cK, by rw [eC]; simpa using gsK⟩
        | true =>
          rw [h1] at eC
          cases h2 : none32 (fun j => (oneP n j && lowP ((L.p.length : Nat) : Int) j) && !(anyR L s.lo (nor L) j || anyR L s.lo (rev L) j)) with
          | true =>
            rw [h2] at eC
            simp (disch := first | assumption | omega | (simp only [LN] <;> omega) | (simp (disch := first | assumption | omega | (simp only [LN] <;> omega)) only [row_alloc, row_set]; assumption)) only [W_block, P3, ↓reduceIte, reduceAdd, reduceEqDiff, reduceCtorEq, initFr, reduceLT, clsA, reduceLeDiff, reduceMul, reduceSub, reduceIte, gc, gb, gsK, r1, l1, stl_0, s_down, p_and, p_or, p_andn, p_ne0, s_shr32, s_eq0, h1, h2]
            exact hq1 _ _ ⟨_, rfl, cK, by rw [eC]; simpa using gsK⟩
          | false =>
            rw [h2] at eC
            simp (disch := first | assumption | omega | (simp only [LN] <;> omega) | (simp (disch := first | assumption | omega | (simp only [LN] <;> omega)) only [row_alloc, row_set]; assumption)) only [W_block, P3, ↓reduceIte, reduceAdd, reduceEqDiff, reduceCtorEq, initFr, reduceLT, clsA, reduceLeDiff, reduceMul, reduceSub, reduceIte, gc, gb, gsK, r1, l1, stl_0, s_down, p_and, p_or, p_andn, p_ne0, s_shr32, s_eq0, h1, h2]
            refine callK tL ?_
            rintro _ X ⟨rfl, hX⟩
            rw [hX]
            cases h3 : none64 (fun j => lieU L (fun j => oneP n j && lowP ((L.p.length : Nat) : Int) j) j && oc j) with
            | false =>
              rw [h3] at eC
              simp (disch := first | assumption | omega | (simp only [LN] <;> omega) | (simp (disch := first | assumption | omega | (simp only [LN] <;> omega)) only [row_alloc, row_set]; assumption)) only [W_block, P3, ↓reduceIte, reduceAdd, reduceEqDiff, reduceCtorEq, initFr, reduceLT, clsA, reduceLeDiff, reduceMul, reduceSub, reduceIte, gsK, s_and, s_eq0, h3]
              exact hq1 _ _ ⟨_, rfl, cK, by rw [eC]; simpa using gsK⟩
            | true =>
              rw [h3] at eC
              simp (disch := first | assumption | omega | (simp only [LN] <;> omega) | (simp (disch := first | assumption | omega | (simp only [LN] <;> omega)) only [row_alloc, row_set]; assumption)) only [W_block, P3, ↓reduceIte, reduceAdd, reduceEqDiff, reduceCtorEq, initFr, reduceLT, clsA, reduceLeDiff, reduceMul, reduceSub, reduceIte, gsK, s_and, s_eq0, h3, stl_67, set_67, stl_len, p_xor, o_s32, one_s32]
              exact hq1 _ _ ⟨_, rfl, cK.trans (Chg.set K hsK _) (by simp), by rw [AHeap.get_set_same gsK, eC]; simp⟩
      · have d3 : (kd == 3) = false := by simp [k3]
        simp (disch := first | assumption | omega | (simp only [LN] <;> omega) | (simp (disch := first | assumption | omega | (simp only [LN] <;> omega)) only [row_alloc, row_set]; assumption)) only [W_block, P3, ↓reduceIte, reduceAdd, reduceEqDiff, reduceCtorEq, initFr, reduceLT, clsA, reduceLeDiff, reduceMul, reduceSub, reduceIte, gc, d1, d2, d3]
        exact skip (by unfold comB; rw [if_neg k1, if_neg k2, if_neg k3])
end Go.AM.Fd

set_option linter.unusedSimpArgs false
set_option linter.unusedVariables false
set_option maxRecDepth 8000
namespace Go.AM.Fd
open Nat (reduceAdd reduceEqDiff reduceLT reduceLeDiff reduceMul reduceSub)
open Go.Proofs Go.AM.F
theorem Z68G_z : Z68G = stl Sta0 := stl_zero
theorem fillO (a b : Nat → Bool) : fillA [.int .u64 0, .int .u32 0] [(0, 1, S64 a), (1, 1, S32 b)] = some [S64 a, S32 b] := rfl
def cRow (c : Int × Int) : List Value := [.int .u8 c.1, .int .i64 c.2]
def CL (H : AHeap) (v : Value) (l : List (Int × Int)) : Prop := Sl H 2 v (l.map cRow)
theorem CL.at_ {H : AHeap} {v : Value} {l : List (Int × Int)} (h : CL H v l) {i : Nat} (hi : i < l.length) : nnS v = true ∧ rowA H 2 v i = some [.int .u8 (l.getD i (0, 0)).1, .int .i64 (l.getD i (0, 0)).2] := by
  have := Sl.at_ h (by omega) (i := i) (by simpa using hi)
  refine ⟨this.1, ?_⟩
  rw [this.2]; simp [List.getD, List.getElem?_eq_getElem hi, cRow]
theorem CL.len {H : AHeap} {v : Value} {l : List (Int × Int)} (h : CL H v l) : lenS v = l.length := by have := Sl.len h; simpa using this
theorem CL.keeps {H K : AHeap} {v : Value} {l : List (Int × Int)} (h : CL H v l) (k : Keeps H K) : CL K v l := Sl.keeps h k
def cmdB (L : Ly) (oc : Nat → Bool) (s : Sta) (cs : List (Int × Int)) : Sta := cs.foldl (fun s c => comB L oc s c.1 c.2) s
def freeB (L : Ly) (x : Inp) (i : Nat) : Bool := decide (i < L.r.length) && none64 (fun j => trP (ro L i) j && x.oc j)
def entB (L : Ly) (x : Inp) (i : Nat) : Bool := decide (i < L.r.length) && !none64 (fun j => fiP (ro L i) j && x.oc j)
def detB (L : Ly) (x : Inp) (i : Nat) : Bool := decide (i < L.r.length) && ((none32 fun p => nor L i p && !sideN x p) && (none32 fun p => rev L i p && !sideR x p))
def waitB (L : Ly) (x : Inp) (us : Nat → Bool) (s : Sta) (i : Nat) : Bool := (s.ca i && !us i) && !entB L x i
def relB (L : Ly) (x : Inp) (us : Nat → Bool) (s : Sta) (i : Nat) : Bool := freeB L x i && (us i || (waitB L x us s i && decide (s.ti i = 0)))
def endS (L : Ly) (x : Inp) (us : Nat → Bool) (s : Sta) : Sta where
  lo := fun i => s.lo i && !relB L x us s i
  us := fun i => (s.lo i && !relB L x us s i) && (us i || entB L x i)
  ca := fun i => s.ca i && !relB L x us s i
  ti := fun i => if relB L x us s i then 0 else if waitB L x us s i && !decide (s.ti i = 0) then s.ti i - 1 else s.ti i
  po := s.po
def stepB (L : Ly) (s : Sta) (x : Inp) (cs : List (Int × Int)) : Sta := endS L x (tidyS L s).us (cmdB L x.oc (tidyS L s) (cs.take 8))
def prB (L : Ly) (x : Inp) (s : Sta) (i : Nat) : Bool := (((s.lo i && freeB L x i) && detB L x i) && !s.us i) && !s.ca i
theorem tidy_ti (L : Ly) (s : Sta) (i : Nat) : (tidyS L s).ti i ≤ 20 := by
  show (if _ then _ else _) ≤ 20
  split
  · exact Nat.min_le_right _ _
  · omega
theorem com_ti {L : Ly} {oc : Nat → Bool} {s : Sta} {kd n : Int} (h : ∀ i, s.ti i ≤ 20) (i : Nat) : (comB L oc s kd n).ti i ≤ 20 := by
  unfold comB setS cancS moveS
  repeat' split
  all_goals first | exact h i | skip
  all_goals (show upd _ _ _ i ≤ 20; unfold upd; split <;> first | omega | exact h i)
theorem cmd_ti {L : Ly} {oc : Nat → Bool} : ∀ {cs : List (Int × Int)} {s : Sta}, (∀ i, s.ti i ≤ 20) → ∀ i, (cmdB L oc s cs).ti i ≤ 20
  | [], s, h => h
  | c :: cs, s, h => cmd_ti (cs := cs) (com_ti h)
theorem cmd_snoc (L : Ly) (oc : Nat → Bool) (s : Sta) (cs : List (Int × Int)) (c : Int × Int) : cmdB L oc s (cs ++ [c]) = comB L oc (cmdB L oc s cs) c.1 c.2 := by
  unfold cmdB; rw [List.foldl_append]; rfl
def tiA (t : Nat → Nat) (l : List Nat) (j : Nat) : Nat := if l.contains j then t j - 1 else t j
def tiB (t : Nat → Nat) (l : List Nat) (j : Nat) : Nat := if l.contains j then 0 else t j
theorem tiA_s {t : Nat → Nat} {l : List Nat} {i : Nat} (h : i ∉ l) : upd (tiA t l) i (t i - 1) = tiA t (l ++ [i]) := by
  funext j
  unfold upd tiA
  rw [List.contains_append]
  by_cases e : j = i
  · subst e; simp
  · simp [e]
theorem tiB_s {t : Nat → Nat} {l : List Nat} {i : Nat} : upd (tiB t l) i 0 = tiB t (l ++ [i]) := by
  funext j
  unfold upd tiB
  rw [List.contains_append]
  by_cases e : j = i
  · subst e; simp
  · simp [e]
theorem fl_at {f : Nat → Bool} {k : Nat} (h : k < ((List.range 64).filter f).length) : ((List.range 64).filter f)[k] < 64 ∧ f ((List.range 64).filter f)[k] = true ∧ ((List.range 64).filter f)[k] ∉ ((List.range 64).filter f).take k := by
  have hm := List.mem_filter.1 (List.getElem_mem h)
  refine ⟨List.mem_range.1 hm.1, hm.2, fun hk => ?_⟩
  have hn : ((List.range 64).filter f).Nodup := List.nodup_range.filter _
  obtain ⟨j, hj, e⟩ := List.mem_iff_getElem.1 hk
  rw [List.length_take] at hj
  rw [List.getElem_take] at e
  exact (List.pairwise_iff_getElem.1 hn) j k (by omega) h (by omega) e
theorem fl_mem {f : Nat → Bool} {j : Nat} (h : j < 64) : ((List.range 64).filter f).contains j = f j := by
  rw [Bool.eq_iff_iff, List.contains_iff_mem, List.mem_filter, List.mem_range]
  exact ⟨fun a => a.2, fun a => ⟨h, a⟩⟩
set_option maxHeartbeats 4000000 in
theorem t14 {H : AHeap} {b : Nat} {L : Ly} {s : Sta} {x : Inp} {cv : Value} {cs : List (Int × Int)} (h : MaR H b L) (hL : LyLim L) (hc : CL H cv cs) (hcl : cs.length ≤ 1000000) :
    ∃ w H', ARun Go.Proofs.Try.prog 0 14 [ptr b 0, .agg (stl s).toArray, .agg (inl x cv).toArray] H w H' ∧ w = .tuple #[.agg (stl (stepB L s x cs)).toArray, .agg #[S64 (prB L x (stepB L s x cs)), S32 (stepB L s x cs).po]] ∧ H' = H := by
  suffices h' : ∃ w H', ARun Go.Proofs.Try.prog 0 14 [ptr b 0, .agg (stl s).toArray, .agg (inl x cv).toArray] H w H' ∧ w = .tuple #[.agg (stl (stepB L s x cs)).toArray, .agg #[S64 (prB L x (stepB L s x cs)), S32 (stepB L s x cs).po]] ∧ Keeps H H' by
    obtain ⟨_, _, a, rfl, k⟩ := h'
    exact ⟨_, _, a.gc0 k (.inr (NV.tuple_of (.cons (nv_stl _ _) (.cons (NV.agg_of (l := [S64 (prB L x (stepB L s x cs)), S32 (stepB L s x cs).po]) (NL.plain rfl)) .nil)))), rfl, rfl⟩
  refine walk2 f14_ok f14_n ?_
  intro Q hq1 hq2
  have lr := hL.r
  have lp := hL.p
  have isc := Sl.is hc
  have onec := Sl.one hc
  have clen := hc.len
  have hM := h
  obtain ⟨vr, vl, own, room, TT, gb, ms⟩ := h
  have hbl := AHeap.get_lt gb
  have r1 := Sl.one ms.r
  have l1 := Sl.one ms.l
  obtain ⟨K0, hK0⟩ : ∃ X, X = (((H.alloc (.cells true false 68 (stl s) 32)).alloc (.cells true false 4 (inl x cv) 43)).alloc (.cells true false 68 (stl Sta0) 32)).alloc (.cells true false 2 [.int .u64 0, .int .u32 0] 52) := ⟨_, rfl⟩
  have k0 : Keeps H K0 := by rw [hK0]; exact ((((Keeps.refl H).alloc _).alloc _).alloc _).alloc _
  have n0 : K0.n = H.n + 4 := by rw [hK0]; rfl
  have gs0 : K0.get H.n = some (.cells true false 68 (stl s) 32) := by rw [hK0]; exact ((((Keeps.refl _).alloc _).alloc _).alloc _).at_ (AHeap.get_alloc_new H _)
  have gi0 : K0.get (H.n + 1) = some (.cells true false 4 (inl x cv) 43) := by rw [hK0]; exact (((Keeps.refl _).alloc _).alloc _).at_ (AHeap.get_alloc_new (H.alloc _) _)
  have ga0 : K0.get (H.n + 2) = some (.cells true false 68 (stl Sta0) 32) := by rw [hK0]; exact ((Keeps.refl _).alloc _).at_ (AHeap.get_alloc_new ((H.alloc _).alloc _) _)
  have go0 : K0.get (H.n + 3) = some (.cells true false 2 [.int .u64 0, .int .u32 0] 52) := by rw [hK0]; exact AHeap.get_alloc_new (((H.alloc _).alloc _).alloc _) _
  have tT := t9 (hM.keeps k0) s
  have hinl : inl x cv = [S64 x.oc, S32 x.nr, S32 x.rv, cv] := rfl
  rw [hinl] at hK0 gi0 ⊢
  simp (disch := first | assumption | omega | (simp only [LN] <;> omega) | (simp (disch := first | assumption | omega | (simp only [LN] <;> omega)) only [row_alloc, row_set]; assumption)) only [ f14, P3, ↓reduceIte, reduceAdd, reduceEqDiff, reduceCtorEq, initFr, reduceLT, clsA, reduceLeDiff, reduceMul, reduceSub, reduceIte, stl_one, stl_len, Z68G_z, rng68, o_s64, o_s32, one_s64, one_s32, onec]
  simp only [← hK0]
  refine callK tT ?_
  rintro _ X ⟨rfl, hX⟩
  rw [hX]
  have hs0 := AHeap.get_lt gs0
  obtain ⟨s0, hs0e⟩ : ∃ t, t = tidyS L s := ⟨_, rfl⟩
  rw [← hs0e]
  obtain ⟨K1, hK1⟩ : ∃ X, X = K0.set H.n (.cells true false 68 (stl s0) 32) := ⟨_, rfl⟩
  have k1 : Keeps H K1 := by rw [hK1]; exact k0.set (Nat.le_refl _) hs0 _
  have gs1 : K1.get H.n = some (.cells true false 68 (stl s0) 32) := by rw [hK1]; exact AHeap.get_set_same gs0 _
  have oth1 : ∀ b, b ≠ H.n → K1.get b = K0.get b := fun b hb => by rw [hK1]; exact AHeap.get_set_other K0 hb hs0 _
  have gi1 := (oth1 (H.n + 1) (by omega)).trans gi0
  have ga1 := (oth1 (H.n + 2) (by omega)).trans ga0
  have go1 := (oth1 (H.n + 3) (by omega)).trans go0
  simp (disch := first | assumption | omega | (simp only [LN] <;> omega) | (simp (disch := first | assumption | omega | (simp only [LN] <;> omega)) only [row_alloc, row_set]; assumption)) only [ P3, ↓reduceIte, reduceAdd, reduceEqDiff, reduceCtorEq, initFr, reduceLT, clsA, reduceLeDiff, reduceMul, reduceSub, reduceIte, gs0, gi0, stn68s, stl_1, rng68, isc, clen]
  simp only [← hK1]
  rw [W_block]
  refine W_loop2 (fun q fr K => ∃ i x8 x9 x24 x25, fr = [ptr b 0, .agg (stl s).toArray, .agg #[S64 x.oc, S32 x.nr, S32 x.rv, cv], ptr H.n 0, ptr (H.n + 1) 0, ptr (H.n + 2) 0, ptr (H.n + 3) 0, S64 s0.us, x8, x9,
      undef, undef, undef, undef, undef, undef, undef, undef, undef, undef, .bool false, cv, .int .i64 ((cs.length : Nat) : Int), .int .i64 ((i : Nat) : Int), x24, x25, undef, undef, undef, undef, undef, undef, undef, undef] ∧
      Keeps H K ∧ K.get H.n = some (.cells true false 68 (stl (cmdB L x.oc s0 (cs.take (min i 8)))) 32) ∧ K.get (H.n + 1) = some (.cells true false 4 [S64 x.oc, S32 x.nr, S32 x.rv, cv] 43) ∧
      K.get (H.n + 2) = some (.cells true false 68 (stl Sta0) 32) ∧ K.get (H.n + 3) = some (.cells true false 2 [.int .u64 0, .int .u32 0] 52) ∧ i ≤ cs.length ∧ q = cs.length - i) cs.length
    ⟨0, _, _, _, _, rfl, k1, gs1, gi1, ga1, go1, by omega, rfl⟩ ?_
  rintro Q' q fr K ⟨i, x8, x9, x24, x25, rfl, kK, gs, gi, ga, go, hi, rfl⟩ hn' hx' hret
  by_cases hlt : i < cs.length
  · obtain ⟨na, ra⟩ := (hc.keeps kK).at_ hlt
    have e0 : (0 : Int) ≤ (i : Int) := by omega
    have e1 : (i : Int) < ((cs.length : Nat) : Int) := by omega
    have hw : IntKind.i64.wrap ((i : Int) + 1) = ((i + 1 : Nat) : Int) := by rw [wrap_i64 (by omega) (by omega)]; simp
    have hgd : cs.getD i (0, 0) = cs[i] := by rw [List.getD_eq_getElem?_getD, List.getElem?_eq_getElem hlt]; rfl
    have htk : i < 8 → cs.take (min (i + 1) 8) = cs.take (min i 8) ++ [cs.getD i (0, 0)] := fun h8 => by
      rw [Nat.min_eq_left (by omega), Nat.min_eq_left (by omega), List.take_add_one, List.getElem?_eq_getElem hlt, hgd]; rfl
    have htn : ¬ i < 8 → cs.take (min (i + 1) 8) = cs.take (min i 8) := fun h8 => by rw [Nat.min_eq_right (by omega), Nat.min_eq_right (by omega)]
    generalize cs.getD i (0, 0) = c at *
    obtain ⟨kd, n⟩ := c
    obtain ⟨K2, hK2⟩ : ∃ X, X = K.alloc (.cells true false 2 [.int .u8 kd, .int .i64 n] 70) := ⟨_, rfl⟩
    have kK2 : Keeps K K2 := by rw [hK2]; exact (Keeps.refl K).alloc _
    have gc2 : K2.get K.n = some (.cells true false 2 [.int .u8 kd, .int .i64 n] 70) := by rw [hK2]; exact AHeap.get_alloc_new K _
    have gs2 := kK2.at_ gs
    have gi2 := kK2.at_ gi
    have ga2 := kK2.at_ ga
    have go2 := kK2.at_ go
    have hsK := AHeap.get_lt gs
    have hiK := AHeap.get_lt gi
    by_cases h8 : i < 8
    · have e8 : (i : Int) < 8 := by omega
      have tC := t30 (kd := kd) (n := n) (oc := x.oc) hM (kK.trans kK2) (Nat.le_refl _) lr lp gs2
      simp (disch := first | assumption | omega | (simp only [LN] <;> omega) | (simp (disch := first | assumption | omega | (simp only [LN] <;> omega)) only [row_alloc, row_set]; assumption)) only [W_block, P3, ↓reduceIte, reduceAdd, reduceEqDiff, reduceCtorEq, initFr, reduceLT, clsA, reduceLeDiff, reduceMul, reduceSub, reduceIte, e0, e1, e8, na, ra, clen, a_loadnvf, gi, hiK]
      simp only [← hK2]
      refine callK tC ?_
      rintro _ K3 ⟨c3, gs3⟩
      simp (disch := first | assumption | omega | (simp only [LN] <;> omega) | (simp (disch := first | assumption | omega | (simp only [LN] <;> omega)) only [row_alloc, row_set]; assumption)) only [W_block, P3, ↓reduceIte, reduceAdd, reduceEqDiff, reduceCtorEq, initFr, reduceLT, clsA, reduceLeDiff, reduceMul, reduceSub, reduceIte, hw]
      refine hn' _ _ _ ⟨i + 1, _, _, _, _, rfl, (kK.trans kK2).chg_trans c3 (by simp), ?_, c3.at_ gi2 (by simp), c3.at_ ga2 (by simp), c3.at_ go2 (by simp), by omega, rfl⟩ (by omega)
      rw [htk h8, cmd_snoc]; exact gs3
    · have e8 : ¬ (i : Int) < 8 := by omega
      simp (disch := first | assumption | omega | (simp only [LN] <;> omega) | (simp (disch := first | assumption | omega | (simp only [LN] <;> omega)) only [row_alloc, row_set]; assumption)) only [W_block, P3, ↓reduceIte, reduceAdd, reduceEqDiff, reduceCtorEq, initFr, reduceLT, clsA, reduceLeDiff, reduceMul, reduceSub, reduceIte, e0, e1, e8, na, ra, clen, a_loadnvf, gi, hiK, hw]
      simp only [← hK2]
      refine hn' _ _ _ ⟨i + 1, _, _, _, _, rfl, kK.trans kK2, ?_, gi2, ga2, go2, by omega, rfl⟩ (by omega)
      rw [htn h8]; exact gs2
  · have e1 : ¬ ((i : Nat) : Int) < ((cs.length : Nat) : Int) := by omega
    have hie : i = cs.length := by omega
    subst hie
    have htk8 : cs.take (min cs.length 8) = cs.take 8 := by
      by_cases h : cs.length ≤ 8
      · rw [Nat.min_eq_left h, List.take_of_length_le (Nat.le_refl _), List.take_of_length_le h]
      · rw [Nat.min_eq_right (by omega)]
    rw [htk8] at gs
    obtain ⟨s1, hs1⟩ : ∃ t, t = cmdB L x.oc s0 (cs.take 8) := ⟨_, rfl⟩
    rw [← hs1] at gs
    have ti1 : ∀ i, s1.ti i ≤ 20 := by rw [hs1, hs0e]; exact cmd_ti (tidy_ti L s)
    have hst : stepB L s x cs = endS L x s0.us s1 := by unfold stepB; rw [hs1, hs0e]
    rw [hst] at hq1 hq2
    have gbK := kK.at_ gb
    have msK := ms.keeps kK
    unfold mcells at gbK
    simp (disch := first | assumption | omega | (simp only [LN] <;> omega) | (simp (disch := first | assumption | omega | (simp only [LN] <;> omega)) only [row_alloc, row_set]; assumption)) only [W_block, P3, ↓reduceIte, reduceAdd, reduceEqDiff, reduceCtorEq, initFr, reduceLT, clsA, reduceLeDiff, reduceMul, reduceSub, reduceIte, e1]
    refine hx' _ _ _ ?_
    simp (disch := first | assumption | omega | (simp only [LN] <;> omega) | (simp (disch := first | assumption | omega | (simp only [LN] <;> omega)) only [row_alloc, row_set]; assumption)) only [ P3, ↓reduceIte, reduceAdd, reduceEqDiff, reduceCtorEq, initFr, reduceLT, clsA, reduceLeDiff, reduceMul, reduceSub, reduceIte, gbK, r1, l1]
    have tF := t31 (H := K) (p := fun i => none64 fun j => trP (ro L i) j && x.oc j) (fn := 32) (ca := #[ptr (H.n + 1) 0]) msK.r lr (fun K' i k _ => t32 (k.at_ (by rw [hinl]; exact gi)))
    have tE := t31 (H := K) (p := fun i => !none64 fun j => fiP (ro L i) j && x.oc j) (fn := 33) (ca := #[ptr (H.n + 1) 0]) msK.r lr (fun K' i k _ => t33 (k.at_ (by rw [hinl]; exact gi)))
    have t8 := t34 gs
    refine callK tF ?_
    rintro _ X ⟨rfl, hX⟩
    rw [hX]
    simp (disch := first | assumption | omega | (simp only [LN] <;> omega) | (simp (disch := first | assumption | omega | (simp only [LN] <;> omega)) only [row_alloc, row_set]; assumption)) only [ P3, ↓reduceIte, reduceAdd, reduceEqDiff, reduceCtorEq, initFr, reduceLT, clsA, reduceLeDiff, reduceMul, reduceSub, reduceIte, gbK, r1, l1]
    refine callK tE ?_
    rintro _ X ⟨rfl, hX⟩
    rw [hX]
    obtain ⟨fr_, hfr⟩ : ∃ f, f = freeB L x := ⟨_, rfl⟩
    obtain ⟨en_, hen⟩ : ∃ f, f = entB L x := ⟨_, rfl⟩
    have hfr' : (fun i => decide (i < L.r.length) && none64 fun j => trP (ro L i) j && x.oc j) = fr_ := by rw [hfr]; rfl
    have hen' : (fun i => decide (i < L.r.length) && !none64 fun j => fiP (ro L i) j && x.oc j) = en_ := by rw [hen]; rfl
    rw [hfr', hen']
    have hsl : asem (.slarr 1 64 (ptr H.n 3) none none none) K = some (slc H.n 3 64 64, K) := rfl
    simp (disch := first | assumption | omega | (simp only [LN] <;> omega) | (simp (disch := first | assumption | omega | (simp only [LN] <;> omega)) only [row_alloc, row_set]; assumption)) only [ P3, ↓reduceIte, reduceAdd, reduceEqDiff, reduceCtorEq, initFr, reduceLT, clsA, reduceLeDiff, reduceMul, reduceSub, reduceIte, gs, stl_2, s_andn, hsl]
    refine callK t8 ?_
    rintro _ X ⟨rfl, hX⟩
    rw [hX]
    simp (disch := first | assumption | omega | (simp only [LN] <;> omega) | (simp (disch := first | assumption | omega | (simp only [LN] <;> omega)) only [row_alloc, row_set]; assumption)) only [ P3, ↓reduceIte, reduceAdd, reduceEqDiff, reduceCtorEq, initFr, reduceLT, clsA, reduceLeDiff, reduceMul, reduceSub, reduceIte, s_and, s_or, s_andn]
    refine callK (t36 _) ?_
    rintro w1 K2 ⟨il1, k2, f1⟩
    have rel_ : (fun i => fr_ i && (s0.us i || (((s1.ca i && !s0.us i) && !en_ i) && decide (s1.ti i = 0)))) = relB L x s0.us s1 := by rw [hfr, hen]; rfl
    have wai_ : (fun i => ((s1.ca i && !s0.us i) && !en_ i) && !decide (s1.ti i = 0)) = fun i => waitB L x s0.us s1 i && !decide (s1.ti i = 0) := by rw [hen]; rfl
    rw [wai_] at il1
    have is1 := Sl.is il1
    have len1 := il1.len
    simp only [List.length_map] at len1
    obtain ⟨l1_, hl1⟩ : ∃ l, l = (List.range 64).filter (fun i => waitB L x s0.us s1 i && !decide (s1.ti i = 0)) := ⟨_, rfl⟩
    have gsK2 := k2.at_ gs
    simp (disch := first | assumption | omega | (simp only [LN] <;> omega) | (simp (disch := first | assumption | omega | (simp only [LN] <;> omega)) only [row_alloc, row_set]; assumption)) only [ P3, ↓reduceIte, reduceAdd, reduceEqDiff, reduceCtorEq, initFr, reduceLT, clsA, reduceLeDiff, reduceMul, reduceSub, reduceIte, is1, len1]
    have wai2 : (fun i => (s1.ca i && !s0.us i) && !en_ i) = waitB L x s0.us s1 := by rw [hen]; rfl
    rw [rel_, wai2, W_block]
    rw [← hl1] at il1 len1
    simp only [← hl1]
    have l1len : l1_.length ≤ 64 := by rw [hl1]; exact fl_le _ 64
    refine W_loop2 (fun q fr X => ∃ k x15 x29, fr = [ptr b 0, .agg (stl s).toArray, .agg #[S64 x.oc, S32 x.nr, S32 x.rv, cv], ptr H.n 0, ptr (H.n + 1) 0, ptr (H.n + 2) 0, ptr (H.n + 3) 0, S64 s0.us, x8, x9, S64 fr_, S64 en_, S64 (waitB L x s0.us s1), S64 (fun i => decide (s1.ti i = 0)), S64 (relB L x s0.us s1), x15, undef, undef, undef, undef, .bool false, cv, .int .i64 ((cs.length : Nat) : Int), .int .i64 ((cs.length : Nat) : Int), .bool false, x25, w1, .int .i64 ((l1_.length : Nat) : Int), .int .i64 ((k : Nat) : Int), x29, undef, undef, undef, undef] ∧
        Chg [H.n] K2 X ∧ X.get H.n = some (.cells true false 68 (stl { s1 with ti := tiA s1.ti (l1_.take k) }) 32) ∧ k ≤ l1_.length ∧ q = l1_.length - k) l1_.length
      ⟨0, _, _, rfl, Chg.refl _ _, by rw [gsK2, List.take_zero]; rfl, by omega, rfl⟩ ?_
    rintro Q2 q fr X ⟨k, x15, x29, rfl, cX, gsX, hk, rfl⟩ hn2 hx2 hret2
    have hsX := AHeap.get_lt gsX
    by_cases hlk : k < l1_.length
    · obtain ⟨n1, ro1⟩ := (IL.at_ (Sl.chg il1 cX (fun b hb => by have := f1 b hb; have := AHeap.get_lt gs; simp; omega)) (i := k) (by simpa using hlk))
      have fa := fl_at (f := fun i => waitB L x s0.us s1 i && !decide (s1.ti i = 0)) (k := k) (by rw [← hl1]; exact hlk)
      simp only [← hl1] at fa
      have hgd : (l1_.map fun (i : Nat) => (i : Int)).getD k 0 = ((l1_[k] : Nat) : Int) := by rw [List.getD_eq_getElem?_getD, List.getElem?_map, List.getElem?_eq_getElem hlk]; rfl
      rw [hgd] at ro1
      have htk : l1_.take (k + 1) = l1_.take k ++ [l1_[k]] := by rw [List.take_add_one, List.getElem?_eq_getElem hlk]; rfl
      obtain ⟨m, hm⟩ : ∃ m, m = l1_[k] := ⟨_, rfl⟩
      rw [← hm] at fa ro1 htk
      obtain ⟨f1a, f1b, f1c⟩ := fa
      simp only [Bool.and_eq_true, Bool.not_eq_true', decide_eq_false_iff_not] at f1b
      have tim := ti1 m
      have e0 : (0 : Int) ≤ (k : Int) := by omega
      have e1 : (k : Int) < ((l1_.length : Nat) : Int) := by omega
      have m0 : (0 : Int) ≤ (m : Int) := by omega
      have m1 : (m : Int) < 64 := by omega
      have hll : 3 + m < 68 := by omega
      have hw : IntKind.i64.wrap ((k : Int) + 1) = ((k + 1 : Nat) : Int) := by rw [wrap_i64 (by omega) (by omega)]; simp
      have hta : tiA s1.ti (l1_.take k) m = s1.ti m := by unfold tiA; simp [f1c]
      have st := stl_t { s1 with ti := tiA s1.ti (l1_.take k) } f1a
      simp only [hta] at st
      have hsub : IntKind.u8.wrap (((s1.ti m : Nat) : Int) - 1) = ((s1.ti m - 1 : Nat) : Int) := by rw [wrap_u8]; omega
      have sett := set_t { s1 with ti := tiA s1.ti (l1_.take k) } f1a (s1.ti m - 1)
      simp only [tiA_s f1c, ← htk] at sett
      simp (disch := first | assumption | omega | (simp only [LN] <;> omega) | (simp (disch := first | assumption | omega | (simp only [LN] <;> omega)) only [row_alloc, row_set]; assumption)) only [W_block, P3, ↓reduceIte, reduceAdd, reduceEqDiff, reduceCtorEq, initFr, reduceLT, clsA, reduceLeDiff, reduceMul, reduceSub, reduceIte, e0, e1, n1, ro1, len1, a_load1v, m0, m1, a_iaddrp, gsX, st, hsub, sett, stl_len, hll, hw, Int.toNat_natCast, Nat.mul_one]
      exact hn2 _ _ _ ⟨k + 1, _, _, rfl, cX.trans (Chg.set X hsX _) (by simp), AHeap.get_set_same gsX _, by omega, rfl⟩ (by omega)
    · have hke : k = l1_.length := by omega
      subst hke
      rw [List.take_length] at gsX
      have e1 : ¬ ((l1_.length : Nat) : Int) < ((l1_.length : Nat) : Int) := by omega
      simp (disch := first | assumption | omega | (simp only [LN] <;> omega) | (simp (disch := first | assumption | omega | (simp only [LN] <;> omega)) only [row_alloc, row_set]; assumption)) only [W_block, P3, ↓reduceIte, reduceAdd, reduceEqDiff, reduceCtorEq, initFr, reduceLT, clsA, reduceLeDiff, reduceMul, reduceSub, reduceIte, e1]
      refine hx2 _ _ _ ?_
      simp (disch := first | assumption | omega | (simp only [LN] <;> omega) | (simp (disch := first | assumption | omega | (simp only [LN] <;> omega)) only [row_alloc, row_set]; assumption)) only [W_block, P3, ↓reduceIte, reduceAdd, reduceEqDiff, reduceCtorEq, initFr, reduceLT, clsA, reduceLeDiff, reduceMul, reduceSub, reduceIte]
      refine callK (t36 _) ?_
      rintro w2 X2 ⟨il2, kX2, f2⟩
      have is2 := Sl.is il2
      have len2 := il2.len
      simp only [List.length_map] at len2
      obtain ⟨l2_, hl2⟩ : ∃ l, l = (List.range 64).filter (relB L x s0.us s1) := ⟨_, rfl⟩
      rw [← hl2] at il2 len2
      have gsX2 := kX2.at_ gsX
      simp (disch := first | assumption | omega | (simp only [LN] <;> omega) | (simp (disch := first | assumption | omega | (simp only [LN] <;> omega)) only [row_alloc, row_set]; assumption)) only [ P3, ↓reduceIte, reduceAdd, reduceEqDiff, reduceCtorEq, initFr, reduceLT, clsA, reduceLeDiff, reduceMul, reduceSub, reduceIte, is2, len2]
      rw [W_block]
      have l2len : l2_.length ≤ 64 := by rw [hl2]; exact fl_le _ 64
      refine W_loop2 (fun q fr Y => ∃ k x16 x33, fr = [ptr b 0, .agg (stl s).toArray, .agg #[S64 x.oc, S32 x.nr, S32 x.rv, cv], ptr H.n 0, ptr (H.n + 1) 0, ptr (H.n + 2) 0, ptr (H.n + 3) 0, S64 s0.us, x8, x9, S64 fr_, S64 en_, S64 (waitB L x s0.us s1), S64 (fun i => decide (s1.ti i = 0)), S64 (relB L x s0.us s1), x15, x16, undef, undef, undef, .bool false, cv, .int .i64 ((cs.length : Nat) : Int), .int .i64 ((cs.length : Nat) : Int), .bool false, x25, w1, .int .i64 ((l1_.length : Nat) : Int), .int .i64 ((l1_.length : Nat) : Int), .bool false, w2, .int .i64 ((l2_.length : Nat) : Int), .int .i64 ((k : Nat) : Int), x33] ∧
          Chg [H.n] X2 Y ∧ Y.get H.n = some (.cells true false 68 (stl { s1 with ti := tiB (tiA s1.ti l1_) (l2_.take k) }) 32) ∧ k ≤ l2_.length ∧ q = l2_.length - k) l2_.length
        ⟨0, _, _, rfl, Chg.refl _ _, by rw [gsX2, List.take_zero]; rfl, by omega, rfl⟩ ?_
      rintro Q3 q fr Y ⟨k, x16, x33, rfl, cY, gsY, hk, rfl⟩ hn3 hx3 hret3
      have hsY := AHeap.get_lt gsY
      by_cases hlk : k < l2_.length
      · obtain ⟨n1, ro1⟩ := (IL.at_ (Sl.chg il2 cY (fun b hb => by have := f2 b hb; have := AHeap.get_lt gsX; simp; omega)) (i := k) (by simpa using hlk))
        have fa := fl_at (f := relB L x s0.us s1) (k := k) (by rw [← hl2]; exact hlk)
        simp only [← hl2] at fa
        have hgd : (l2_.map fun (i : Nat) => (i : Int)).getD k 0 = ((l2_[k] : Nat) : Int) := by rw [List.getD_eq_getElem?_getD, List.getElem?_map, List.getElem?_eq_getElem hlk]; rfl
        rw [hgd] at ro1
        have htk : l2_.take (k + 1) = l2_.take k ++ [l2_[k]] := by rw [List.take_add_one, List.getElem?_eq_getElem hlk]; rfl
        obtain ⟨m, hm⟩ : ∃ m, m = l2_[k] := ⟨_, rfl⟩
        rw [← hm] at fa ro1 htk
        obtain ⟨f1a, f1b, f1c⟩ := fa
        have e0 : (0 : Int) ≤ (k : Int) := by omega
        have e1 : (k : Int) < ((l2_.length : Nat) : Int) := by omega
        have m0 : (0 : Int) ≤ (m : Int) := by omega
        have m1 : (m : Int) < 64 := by omega
        have hll : 3 + m < 68 := by omega
        have hw : IntKind.i64.wrap ((k : Int) + 1) = ((k + 1 : Nat) : Int) := by rw [wrap_i64 (by omega) (by omega)]; simp
        have sett := set_t0 { s1 with ti := tiB (tiA s1.ti l1_) (l2_.take k) } f1a
        simp only [tiB_s, ← htk] at sett
        simp (disch := first | assumption | omega | (simp only [LN] <;> omega) | (simp (disch := first | assumption | omega | (simp only [LN] <;> omega)) only [row_alloc, row_set]; assumption)) only [W_block, P3, ↓reduceIte, reduceAdd, reduceEqDiff, reduceCtorEq, initFr, reduceLT, clsA, reduceLeDiff, reduceMul, reduceSub, reduceIte, e0, e1, n1, ro1, len2, a_load1v, m0, m1, a_iaddrp, gsY, sett, stl_len, hll, hw, Int.toNat_natCast, Nat.mul_one]
        exact hn3 _ _ _ ⟨k + 1, _, _, rfl, cY.trans (Chg.set Y hsY _) (by simp), AHeap.get_set_same gsY _, by omega, rfl⟩ (by omega)
      · have hke : k = l2_.length := by omega
        subst hke
        rw [List.take_length] at gsY
        have e1 : ¬ ((l2_.length : Nat) : Int) < ((l2_.length : Nat) : Int) := by omega
        have kKX : Keeps H X2 := ((kK.trans k2).chg_trans cX (by simp)).trans kX2
        have kHY : Keeps H Y := kKX.chg_trans cY (by simp)
        have giY : Y.get (H.n + 1) = some (.cells true false 4 [S64 x.oc, S32 x.nr, S32 x.rv, cv] 43) := cY.at_ (kX2.at_ (cX.at_ (k2.at_ gi) (by simp))) (by simp)
        have gaY : Y.get (H.n + 2) = some (.cells true false 68 (stl Sta0) 32) := cY.at_ (kX2.at_ (cX.at_ (k2.at_ ga) (by simp))) (by simp)
        have goY : Y.get (H.n + 3) = some (.cells true false 2 [.int .u64 0, .int .u32 0] 52) := cY.at_ (kX2.at_ (cX.at_ (k2.at_ go) (by simp))) (by simp)
        have gbY := kHY.at_ gb
        have msY := ms.keeps kHY
        unfold mcells at gbY
        have stE : stl { s1 with ti := tiB (tiA s1.ti l1_) l2_ } = stl { s1 with ti := (endS L x s0.us s1).ti } := by
          refine stl_ext (fun _ _ => rfl) (fun _ _ => rfl) (fun _ _ => rfl) (fun j hj => ?_) (fun _ _ => rfl)
          show tiB (tiA s1.ti l1_) l2_ j = (if relB L x s0.us s1 j then 0 else if waitB L x s0.us s1 j && !decide (s1.ti j = 0) then s1.ti j - 1 else s1.ti j)
          unfold tiB tiA
          rw [hl1, hl2, fl_mem hj, fl_mem hj]
        rw [stE] at gsY
        simp (disch := first | assumption | omega | (simp only [LN] <;> omega) | (simp (disch := first | assumption | omega | (simp only [LN] <;> omega)) only [row_alloc, row_set]; assumption)) only [W_block, P3, ↓reduceIte, reduceAdd, reduceEqDiff, reduceCtorEq, initFr, reduceLT, clsA, reduceLeDiff, reduceMul, reduceSub, reduceIte, e1]
        refine hx3 _ _ _ ?_
        obtain ⟨Y1, hY1⟩ : ∃ Z, Z = Y.set H.n (.cells true false 68 (stl (endS L x s0.us s1)) 32) := ⟨_, rfl⟩
        simp (disch := first | assumption | omega | (simp only [LN] <;> omega) | (simp (disch := first | assumption | omega | (simp only [LN] <;> omega)) only [row_alloc, row_set]; assumption)) only [W_block, P3, ↓reduceIte, reduceAdd, reduceEqDiff, reduceCtorEq, initFr, reduceLT, clsA, reduceLeDiff, reduceMul, reduceSub, reduceIte, gsY, giY, stl_0, stl_1, stl_2, stl_len, set_0, set_1, set_2, s_andn, s_and, s_or, one_s64, o_s64]
        have eE : stl (⟨fun i => s1.lo i && !relB L x s0.us s1 i, fun i => (s1.lo i && !relB L x s0.us s1 i) && (s0.us i || en_ i), fun i => s1.ca i && !relB L x s0.us s1 i, (endS L x s0.us s1).ti, s1.po⟩ : Sta) = stl (endS L x s0.us s1) := by rw [hen]; rfl
        have kY1 : Keeps H Y1 := by rw [hY1]; exact kHY.set (Nat.le_refl _) hsY _
        have gsY1 : Y1.get H.n = some (.cells true false 68 (stl (endS L x s0.us s1)) 32) := by rw [hY1]; exact AHeap.get_set_same gsY _
        have othY : ∀ b, b ≠ H.n → Y1.get b = Y.get b := fun b hb => by rw [hY1]; exact AHeap.get_set_other Y hb hsY _
        have gaY1 := (othY (H.n + 2) (by omega)).trans gaY
        have goY1 := (othY (H.n + 3) (by omega)).trans goY
        have tS := t37 (H := Y1) (x := x) isc
        rw [hinl] at tS
        rw [eE, ← hY1]
        refine callK tS ?_
        rintro _ X' ⟨rfl, hX'⟩
        rw [hX']
        obtain ⟨Y2, hY2⟩ : ∃ Z, Z = (Y1.alloc (.cells true false 1 [S32 (sideN x)] 30)).alloc (.cells true false 1 [S32 (sideR x)] 30) := ⟨_, rfl⟩
        have kY2 : Keeps Y1 Y2 := by rw [hY2]; exact ((Keeps.refl Y1).alloc _).alloc _
        have g1 : Y2.get Y1.n = some (.cells true false 1 [S32 (sideN x)] 30) := by rw [hY2]; exact ((Keeps.refl _).alloc _).at_ (AHeap.get_alloc_new Y1 _)
        have g2 : Y2.get (Y1.n + 1) = some (.cells true false 1 [S32 (sideR x)] 30) := by rw [hY2]; exact AHeap.get_alloc_new (Y1.alloc _) _
        have kH2 := kY1.trans kY2
        have gb2 := kH2.at_ gb
        have ms2 := ms.keeps kH2
        have gb1 := kY1.at_ gb
        have hb1 := AHeap.get_lt gb1
        unfold mcells at gb2 gb1
        have gs2 := kY2.at_ gsY1
        have ga2 := kY2.at_ gaY1
        have go2 := kY2.at_ goY1
        have hs2 := AHeap.get_lt gs2
        have ha2 := AHeap.get_lt ga2
        have ho2 := AHeap.get_lt go2
        have tD := t31 (H := Y2) (p := fun i => (none32 fun p => nor L i p && !sideN x p) && (none32 fun p => rev L i p && !sideR x p)) (fn := 38) (ca := #[ptr Y1.n 0, ptr (Y1.n + 1) 0]) ms2.r lr (fun K' i k _ => t38 (k.at_ g1) (k.at_ g2))
        have hb1' : b < Y1.n + 1 := by omega
        simp (disch := first | assumption | omega | (simp only [LN] <;> omega) | (simp (disch := first | assumption | omega | (simp only [LN] <;> omega)) only [row_alloc, row_set]; assumption)) only [W_block, P3, ↓reduceIte, reduceAdd, reduceEqDiff, reduceCtorEq, initFr, reduceLT, clsA, reduceLeDiff, reduceMul, reduceSub, reduceIte, gb1, hb1, hb1', r1, l1, o_s32, one_s32]
        simp only [← hY2]
        refine callK tD ?_
        rintro _ X' ⟨rfl, hX'⟩
        rw [hX']
        have hde : (fun i => decide (i < L.r.length) && ((none32 fun p => nor L i p && !sideN x p) && none32 fun p => rev L i p && !sideR x p)) = detB L x := rfl
        rw [hde]
        obtain ⟨e, hee⟩ : ∃ e, e = endS L x s0.us s1 := ⟨_, rfl⟩
        rw [← hee] at gs2 hq1 hq2
        have oa : ∀ o, (Y2.set (H.n + 2) o).get (H.n + 3) = Y2.get (H.n + 3) := fun o => AHeap.get_set_other Y2 (by omega) ha2 o
        have oh : ∀ o, (Y2.set (H.n + 2) o).get H.n = Y2.get H.n := fun o => AHeap.get_set_other Y2 (by omega) ha2 o
        simp (disch := first | assumption | omega | (simp only [LN] <;> omega) | (simp (disch := first | assumption | omega | (simp only [LN] <;> omega)) only [row_alloc, row_set]; assumption)) only [W_block, P3, ↓reduceIte, reduceAdd, reduceEqDiff, reduceCtorEq, initFr, reduceLT, clsA, reduceLeDiff, reduceMul, reduceSub, reduceIte, gs2, ga2, go2, oa, oh, rng68, stn68s, stl_0, stl_1, stl_2, stl_67, s_and, s_andn, fillO, o_s64, o_s32, one_s64, one_s32, cells_s64, cells_s32]
        have hpr : (fun i => (((e.lo i && fr_ i) && detB L x i) && !e.us i) && !e.ca i) = prB L x e := by rw [hfr]; rfl
        rw [hpr]
        refine ⟨by simp, hq2 _ _ ⟨.tuple #[.agg (stl e).toArray, .agg #[S64 (prB L x e), S32 e.po]], ?_, rfl, (kH2.set (by omega) ha2 _).set (by omega) (by rw [set_n]; exact ho2) _⟩⟩
        have ga3 : ((Y2.set (H.n + 2) (.cells true false 68 (stl e) 32)).set (H.n + 3) (.cells true false 2 [S64 (prB L x e), S32 e.po] 52)).get (H.n + 2) = some (.cells true false 68 (stl e) 32) := by
          rw [AHeap.get_set_other _ (by omega) (by rw [set_n]; exact ho2)]; exact AHeap.get_set_same ga2 _
        have go3 : ((Y2.set (H.n + 2) (.cells true false 68 (stl e) 32)).set (H.n + 3) (.cells true false 2 [S64 (prB L x e), S32 e.po] 52)).get (H.n + 3) = some (.cells true false 2 [S64 (prB L x e), S32 e.po] 52) :=
          AHeap.get_set_same ((oa _).trans go2) _
        show resO [.cn 68 5, .cn 2 6] _ _ = _
        have r1' : celln 68 (ptr (H.n + 2) 0) ((Y2.set (H.n + 2) (.cells true false 68 (stl e) 32)).set (H.n + 3) (.cells true false 2 [S64 (prB L x e), S32 e.po] 52)) = some (.agg (stl e).toArray) := by
          rw [cellnp, rangeA_e, ga3, rng68]; rfl
        have r2' : celln 2 (ptr (H.n + 3) 0) ((Y2.set (H.n + 2) (.cells true false 68 (stl e) 32)).set (H.n + 3) (.cells true false 2 [S64 (prB L x e), S32 e.po] 52)) = some (.agg #[S64 (prB L x e), S32 e.po]) := by
          rw [cellnp, rangeA_e, go3]; rfl
        have e5 : ∀ l : List Value, l.getD 5 undef = ptr (H.n + 2) 0 → l.getD 6 undef = ptr (H.n + 3) 0 → ∀ K, celln 68 (ptr (H.n + 2) 0) K = some (.agg (stl e).toArray) → celln 2 (ptr (H.n + 3) 0) K = some (.agg #[S64 (prB L x e), S32 e.po]) →
            resO [.cn 68 5, .cn 2 6] l K = some (.tuple #[.agg (stl e).toArray, .agg #[S64 (prB L x e), S32 e.po]]) := fun l a b K c d => by
          simp only [resO, resVs, RX.get, a, b, c, d]; rfl
        exact e5 _ rfl rfl _ r1' r2'
end Go.AM.Fd

set_option maxRecDepth 100000
set_option maxHeartbeats 0
namespace Go.AM.F
def Z68I : List Value := [(.int .u64 0), (.int .u64 0), (.int .u64 0)] ++ List.replicate 64 (.int .u8 0) ++ [(.int .u32 0)]
def O68I : List Nat := List.replicate 68 1
def zclI : TypeId → List Value
 | 32 => Z68I
 | 27 => [(.slice none 0 0), (.slice none 0 0), (.slice none 0 0), (.slice none 0 0)]
 | 52 => [(.int .u64 0), (.int .u32 0)]
 | 46 => [(.string ByteArray.empty), (.int .i64 0)]
 | 66 => [(.string ByteArray.empty), (.int .i64 0)]
 | 68 => [(.int .i64 0), (.bool false)]
 | 50 => [(.string ByteArray.empty), (.int .i64 0), (.slice none 0 0), (.slice none 0 0), (.slice none 0 0), (.slice none 0 0)]
 | 70 => [(.int .u8 0), (.int .i64 0)]
 | 43 => [(.int .u64 0), (.int .u32 0), (.int .u32 0), (.slice none 0 0)]
 | _ => []
def zvlI : TypeId → Value
 | _ => undef
def zklI : TypeId → List Nat
 | 32 => O68I
 | 52 => [1, 1]
 | _ => []
def zrlI : Nat → TypeId → List Value
 | 3, 9 => [(.string ByteArray.empty), (.string ByteArray.empty), (.string ByteArray.empty)]
 | 1, 46 => [(.string ByteArray.empty), (.int .i64 0)]
 | 1, 66 => [(.string ByteArray.empty), (.int .i64 0)]
 | 2, 3 => [(.int .i64 0), (.int .i64 0)]
 | 1, 68 => [(.int .i64 0), (.bool false)]
 | 1, 50 => [(.string ByteArray.empty), (.int .i64 0), (.slice none 0 0), (.slice none 0 0), (.slice none 0 0), (.slice none 0 0)]
 | 1, 70 => [(.int .u8 0), (.int .i64 0)]
 | _, _ => []
noncomputable def f3 : AFunc := by
 refine (fun (_ : Cz zclI zvlI zklI zrlI Go.Proofs.Try.prog 0 [0, 1, 2, 3, 4, 5, 6, 7, 14] 3 ?a) => ?a) ?h
 case h =>
 intro zc zv zk zr hc hv hk hr
 conv => lhs; cbv; try simp only [hc, hv, hk, hr, zclI, zvlI, zklI, zrlI]
theorem f3_ok : compF Go.Proofs.Try.prog 0 [0, 1, 2, 3, 4, 5, 6, 7, 14] 3 = some f3 := by kernel_rfl
theorem f3_n : argsOK Go.Proofs.Try.prog 3 2 = true := by kernel_rfl
noncomputable def f4 : AFunc := by
 refine (fun (_ : Cz zclI zvlI zklI zrlI Go.Proofs.Try.prog 0 [0, 1, 2, 3, 4, 5, 6, 7, 8, 9, 10, 11, 12, 13, 14, 15, 16, 17, 21, 31, 37, 49] 4 ?a) => ?a) ?h
 case h =>
 intro zc zv zk zr hc hv hk hr
 conv => lhs; cbv; try simp only [hc, hv, hk, hr, zclI, zvlI, zklI, zrlI]
noncomputable def f5 : AFunc := by
 refine (fun (_ : Cz zclI zvlI zklI zrlI Go.Proofs.Try.prog 0 [0, 1, 2, 4, 5, 6, 7, 8, 9, 10, 11, 12, 13, 14, 15, 27, 35, 39, 48, 83] 5 ?a) => ?a) ?h
 case h =>
 intro zc zv zk zr hc hv hk hr
 conv => lhs; cbv; try simp only [hc, hv, hk, hr, zclI, zvlI, zklI, zrlI]
noncomputable def f8 : AFunc := by
 refine (fun (_ : Cz zclI zvlI zklI zrlI Go.Proofs.Try.prog 0 [0, 1, 2, 3, 4, 5, 6, 8, 9, 10, 11, 13] 8 ?a) => ?a) ?h
 case h =>
 intro zc zv zk zr hc hv hk hr
 conv => lhs; cbv; try simp only [hc, hv, hk, hr, zclI, zvlI, zklI, zrlI]
theorem f8_ok : compF Go.Proofs.Try.prog 0 [0, 1, 2, 3, 4, 5, 6, 8, 9, 10, 11, 13] 8 = some f8 := by kernel_rfl
theorem f8_n : argsOK Go.Proofs.Try.prog 8 0 = true := by kernel_rfl
end Go.AM.F

set_option linter.unusedSimpArgs false
set_option linter.unusedVariables false
set_option maxRecDepth 20000
namespace Go.AM.Fd
open Nat (reduceAdd reduceEqDiff reduceLT reduceLeDiff reduceMul reduceSub)
open Go.Proofs Go.AM.F
theorem Z68I_z : Z68I = stl Sta0 := stl_zero
theorem O68I_r : O68I = List.replicate 68 1 := rfl
theorem newSl {H : AHeap} {o rm : Bool} {esz e n : Nat} {c : List Value} {rows : List (List Value)} (hr : ∀ r ∈ rows, r.length = esz) (hc : c = rows.flatten) (hn : n = rows.length) : Sl (H.alloc (.cells o rm esz c e)) esz (slc H.n 0 n n) rows := by
  subst hc hn
  exact ⟨⟨_, _, rfl⟩, hr, elems_new rfl (flat_len hr)⟩
def wL : Ly := ⟨[[97], [98], [99]], [([80], 1)], [([71], 0)], [⟨[82], 0, [1, 2], [(0, false)], [], []⟩]⟩
def w0 : Nat → Bool := fun i => decide (i = 0)
def w1 : Nat → Bool := fun i => decide (i = 1)
def wn : Nat → Bool := fun _ => false
def wA : Sta := stepB wL Sta0 ⟨wn, w0, wn⟩ [(1, 0)]
def wB : Sta := stepB wL Sta0 ⟨wn, wn, wn⟩ [(1, 0)]
def wC : Sta := stepB wL wA ⟨w1, w0, wn⟩ []
def wD : Sta := stepB wL wC ⟨wn, w0, wn⟩ []
def wE : Sta := stepB wL wA ⟨w0, w0, wn⟩ [(2, 0)]
theorem c0_64 : Value.int .u64 1 = S64 w0 := congrArg (fun n : Nat => Value.int .u64 (n : Int)) (by decide +kernel : 1 = bitsN w0 64)
theorem c1_64 : Value.int .u64 2 = S64 w1 := congrArg (fun n : Nat => Value.int .u64 (n : Int)) (by decide +kernel : 2 = bitsN w1 64)
theorem c0_32 : Value.int .u32 1 = S32 w0 := congrArg (fun n : Nat => Value.int .u32 (n : Int)) (by decide +kernel : 1 = bitsN w0 32)
theorem wL_ok : checkE wL = 0 := by decide +kernel
theorem wA_lo : S64 wA.lo = .int .u64 1 := congrArg (fun n : Nat => Value.int .u64 (n : Int)) (by decide +kernel : bitsN wA.lo 64 = 1)
theorem wA_pr : S64 (prB wL ⟨wn, w0, wn⟩ wA) = .int .u64 1 := congrArg (fun n : Nat => Value.int .u64 (n : Int)) (by decide +kernel : bitsN (prB wL ⟨wn, w0, wn⟩ wA) 64 = 1)
theorem wB_pr : S64 (prB wL ⟨wn, wn, wn⟩ wB) = .int .u64 0 := congrArg (fun n : Nat => Value.int .u64 (n : Int)) (by decide +kernel : bitsN (prB wL ⟨wn, wn, wn⟩ wB) 64 = 0)
theorem wC_us : S64 wC.us = .int .u64 1 := congrArg (fun n : Nat => Value.int .u64 (n : Int)) (by decide +kernel : bitsN wC.us 64 = 1)
theorem wC_pr : S64 (prB wL ⟨w1, w0, wn⟩ wC) = .int .u64 0 := congrArg (fun n : Nat => Value.int .u64 (n : Int)) (by decide +kernel : bitsN (prB wL ⟨w1, w0, wn⟩ wC) 64 = 0)
theorem wD_eq : staB wD Sta0 = true := by decide +kernel
theorem wE_ca : S64 wE.ca = .int .u64 1 := congrArg (fun n : Nat => Value.int .u64 (n : Int)) (by decide +kernel : bitsN wE.ca 64 = 1)
theorem wE_ti : wE.ti 0 = 19 := by decide +kernel
theorem wA_r : rgtB wL wA = true := by decide +kernel
theorem F1 (x y z a b c : ByteArray) : fillA [.string x, .string y, .string z] [(0, 1, .string a), (1, 1, .string b), (2, 1, .string c)] = some [.string a, .string b, .string c] := rfl
theorem F2 (x a : ByteArray) (k j : IntKind) (n m : Int) : fillA [.string x, .int k m] [(0, 1, .string a), (1, 1, .int j n)] = some [.string a, .int j n] := rfl
theorem F3 (x a : ByteArray) (k : IntKind) (m : Int) : fillA [.string x, .int k m] [(0, 1, .string a)] = some [.string a, .int k m] := rfl
theorem F4 (k j : IntKind) (n m p q : Int) : fillA [.int k n, .int k m] [(0, 1, .int j p), (1, 1, .int j q)] = some [.int j p, .int j q] := rfl
theorem F5 (a b c d : Value) : fillA [c, d] [(0, 2, .agg #[a, b])] = some [a, b] := rfl
theorem F6 (x a : ByteArray) (k : IntKind) (m : Int) (b c d e f g h i j l : Nat) : fillA [.string x, .int k m, .slice none 0 0, .slice none 0 0, .slice none 0 0, .slice none 0 0] [(0, 1, .string a), (2, 1, slc b c d e), (3, 1, slc f g h i)] = some [.string a, .int k m, slc b c d e, slc f g h i, .slice none 0 0, .slice none 0 0] := rfl
theorem F7 (a b c d e f g h i j k l : Value) : fillA [g, h, i, j, k, l] [(0, 6, .agg #[a, b, c, d, e, f])] = some [a, b, c, d, e, f] := rfl
theorem F8 (x y z w a b c d e f g h i j k l : Nat) : fillA [.slice none 0 0, .slice none 0 0, .slice none 0 0, .slice none 0 0] [(0, 1, slc a b c d), (1, 1, slc e f g h), (2, 1, slc i j k l), (3, 1, slc x y z w)] = some [slc a b c d, slc e f g h, slc i j k l, slc x y z w] := rfl
theorem F9 (k j : IntKind) (n m q : Int) : fillA [.int k n, .int j m] [(0, 1, .int k q)] = some [.int k q, .int j m] := rfl
theorem FA (a b c : Int) (d : Value) (x y z w : Nat) : fillA [.int .u64 a, .int .u32 b, .int .u32 c, d] [(1, 1, .int .u32 1), (3, 1, slc x y z w)] = some [.int .u64 a, .int .u32 1, .int .u32 c, slc x y z w] := rfl
theorem FB (a b c : Int) (d : Value) (x y z w : Nat) : fillA [.int .u64 a, .int .u32 b, .int .u32 c, d] [(3, 1, slc x y z w)] = some [.int .u64 a, .int .u32 b, .int .u32 c, slc x y z w] := rfl
theorem FC (a b c e : Int) (d : Value) : fillA [.int .u64 a, .int .u32 b, .int .u32 c, d] [(1, 1, .int .u32 1), (0, 1, .int .u64 e)] = some [.int .u64 e, .int .u32 1, .int .u32 c, d] := rfl
theorem FD (a b c : Int) (d : Value) : fillA [.int .u64 a, .int .u32 b, .int .u32 c, d] [(1, 1, .int .u32 1)] = some [.int .u64 a, .int .u32 1, .int .u32 c, d] := rfl
theorem FE (a b c e : Int) (d : Value) (x y z w : Nat) : fillA [.int .u64 a, .int .u32 b, .int .u32 c, d] [(1, 1, .int .u32 1), (0, 1, .int .u64 e), (3, 1, slc x y z w)] = some [.int .u64 e, .int .u32 1, .int .u32 c, slc x y z w] := rfl
theorem z64 : Value.int .u64 0 = S64 wn := s_zero
theorem z32 : Value.int .u32 0 = S32 wn := p_zero
theorem i1v (cv : Value) : inl ⟨wn, w0, wn⟩ cv = [.int .u64 0, .int .u32 1, .int .u32 0, cv] := by unfold inl; rw [z64, z32, c0_32]
theorem i2v (cv : Value) : inl ⟨wn, wn, wn⟩ cv = [.int .u64 0, .int .u32 0, .int .u32 0, cv] := by unfold inl; rw [z64, z32]
theorem i3v (cv : Value) : inl ⟨w1, w0, wn⟩ cv = [.int .u64 2, .int .u32 1, .int .u32 0, cv] := by unfold inl; rw [c1_64, z32, c0_32]
theorem i4v (cv : Value) : inl ⟨w0, w0, wn⟩ cv = [.int .u64 1, .int .u32 1, .int .u32 0, cv] := by unfold inl; rw [c0_64, z32, c0_32]
theorem wL_lim : LyLim wL := ⟨by decide, by decide, by decide, by decide⟩
theorem CLnil (K : AHeap) : CL K (.slice none 0 0) [] := Sl.nil K 2
def wU (H : AHeap) : V4 := ⟨slc H.n 0 3 3, slc (H.n + 1) 0 1 1, slc (H.n + 2) 0 1 1, slc (H.n + 5) 0 1 1⟩
def wX (H : AHeap) : RV := ⟨⟨[82], 0, [1, 2], [(0, false)], [], []⟩, slc (H.n + 3) 0 2 2, slc (H.n + 4) 0 1 1, .slice none 0 0, .slice none 0 0⟩
def wK (H : AHeap) : AHeap := (((((H.alloc (.cells true false 1 [.string ⟨#[97]⟩, .string ⟨#[98]⟩, .string ⟨#[99]⟩] 9)).alloc (.cells true false 2 [.string ⟨#[80]⟩, .int .i64 1] 46)).alloc
  (.cells true false 2 [.string ⟨#[71]⟩, .int .i64 0] 66)).alloc (.cells true false 1 [.int .i64 1, .int .i64 2] 3)).alloc (.cells true false 2 [.int .i64 0, .bool false] 68)).alloc (.cells true false 6 (wX H).row 50)
theorem wK_ly (H : AHeap) : LyR (wK H) (wU H) [wX H] wL := by
  refine ⟨?_, ?_, ?_, ?_, rfl, ?_⟩
  · exact Sl.keeps (newSl (rows := [[.string ⟨#[97]⟩], [.string ⟨#[98]⟩], [.string ⟨#[99]⟩]]) (by simp) rfl rfl) ((((((Keeps.refl _).alloc _).alloc _).alloc _).alloc _).alloc _)
  · exact Sl.keeps (newSl (rows := [[.string ⟨#[80]⟩, .int .i64 1]]) (by simp) rfl rfl) (((((Keeps.refl _).alloc _).alloc _).alloc _).alloc _)
  · exact Sl.keeps (newSl (rows := [[.string ⟨#[71]⟩, .int .i64 0]]) (by simp) rfl rfl) ((((Keeps.refl _).alloc _).alloc _).alloc _)
  · exact newSl (rows := [(wX H).row]) (by simp [RV.row]) (by simp) rfl
  · intro x hx
    rw [List.mem_singleton] at hx
    subst hx
    refine ⟨?_, ?_, Sl.nil _ _, Sl.nil _ _⟩
    · exact Sl.keeps (newSl (rows := [[.int .i64 1], [.int .i64 2]]) (by simp) rfl rfl) (((Keeps.refl _).alloc _).alloc _)
    · exact Sl.keeps (newSl (rows := [[.int .i64 0, .bool false]]) (by simp) rfl rfl) ((Keeps.refl _).alloc _)
theorem wK_k (H : AHeap) : Keeps H (wK H) := ((((((Keeps.refl H).alloc _).alloc _).alloc _).alloc _).alloc _).alloc _
theorem wL_in : LyIn 9223372036854775807 wL := by
  refine ⟨?_, ?_, ?_, ?_⟩ <;> decide
set_option maxHeartbeats 4000000 in
theorem t8 (H : AHeap) : ∃ w K, ARun Go.Proofs.Try.prog 0 8 [] H w K ∧ w = .bool true ∧ K = H := by
  suffices h' : ∃ w K, ARun Go.Proofs.Try.prog 0 8 [] H w K ∧ w = .bool true ∧ Keeps H K by
    obtain ⟨_, _, a, rfl, k⟩ := h'
    exact ⟨_, _, a.gc0 k (.inr (.bool _)), rfl, rfl⟩
  refine walk2 f8_ok f8_n ?_
  intro Q hq1 hq2
  have kW := wK_k H
  have tN := t21 ((wK_ly H).keeps ((Keeps.refl _).alloc (.cells true false 4 (wU H).l 27))) wL_in
  unfold wK wX RV.row at tN
  simp only [V4.l, wU] at tN
  simp (disch := first | assumption | omega | (simp only [LN] <;> omega) | (simp (disch := first | assumption | omega | (simp only [LN] <;> omega)) only [row_alloc, row_set]; assumption)) only [f8, W_block, P3, ↓reduceIte, reduceAdd, reduceEqDiff, reduceCtorEq, initFr, reduceLT, clsA, reduceLeDiff, reduceMul, reduceSub, reduceIte, F1, F2, F3, F4, F5, F6, F7, F8]
  refine callK tN ?_
  rintro _ K1 ⟨k1, _, e2⟩
  obtain ⟨b, rfl, hM⟩ := e2 wL_ok
  have kH1 : Keeps H K1 := (kW.alloc _).trans k1
  obtain ⟨K2, hK2⟩ : ∃ X, X = K1.alloc (.cells true false 2 [.int .u8 1, .int .i64 0] 70) := ⟨_, rfl⟩
  have k2 : Keeps K1 K2 := by rw [hK2]; exact (Keeps.refl K1).alloc _
  have cl2 : CL K2 (slc K1.n 0 1 1) [(1, 0)] := by rw [hK2]; exact newSl (rows := [[.int .u8 1, .int .i64 0]]) (by simp) rfl rfl
  have hM2 := hM.keeps k2
  have t1 := t14 (s := Sta0) (x := ⟨wn, w0, wn⟩) hM2 wL_lim cl2 (by simp)
  have t2 := fun K (k : Keeps K2 K) => t14 (s := Sta0) (x := ⟨wn, wn, wn⟩) (hM2.keeps k) wL_lim (cl2.keeps k) (by simp)
  have t3 := fun K (k : Keeps K2 K) => t14 (s := wA) (x := ⟨w1, w0, wn⟩) (hM2.keeps k) wL_lim (CLnil K) (by simp)
  have t4 := fun K (k : Keeps K2 K) => t14 (s := wC) (x := ⟨wn, w0, wn⟩) (hM2.keeps k) wL_lim (CLnil K) (by simp)
  have t6 := fun K (k : Keeps K2 K) => t11 (hM2.keeps k) (by decide) wA
  rw [i1v] at t1
  simp only [i2v, i3v] at t2 t3
  simp only [i1v] at t4
  simp (disch := first | assumption | omega | (simp only [LN] <;> omega) | (simp (disch := first | assumption | omega | (simp only [LN] <;> omega)) only [row_alloc, row_set]; assumption)) only [W_block, P3, ↓reduceIte, reduceAdd, reduceEqDiff, reduceCtorEq, initFr, reduceLT, clsA, reduceLeDiff, reduceMul, reduceSub, reduceIte, F9, F5, FA, Z68I_z, fill0]
  rw [← hK2]
  refine callK t1 ?_
  rintro _ X ⟨rfl, hX⟩
  rw [hX]
  have sA : stepB wL Sta0 ⟨wn, w0, wn⟩ [(1, 0)] = wA := rfl
  have sB : stepB wL Sta0 ⟨wn, wn, wn⟩ [(1, 0)] = wB := rfl
  have sC : stepB wL wA ⟨w1, w0, wn⟩ [] = wC := rfl
  have sD : stepB wL wC ⟨wn, w0, wn⟩ [] = wD := rfl
  rw [sA, wA_pr]
  obtain ⟨K3, hK3⟩ : ∃ X, X = (K2.alloc (.cells true false 68 (stl wA) 32)).alloc (.cells true false 2 [.int .u64 1, S32 wA.po] 52) := ⟨_, rfl⟩
  have k3 : Keeps K2 K3 := by rw [hK3]; exact ((Keeps.refl K2).alloc _).alloc _
  have ga3 : K3.get K2.n = some (.cells true false 68 (stl wA) 32) := by rw [hK3]; exact ((Keeps.refl _).alloc _).at_ (AHeap.get_alloc_new K2 _)
  have go3 : K3.get (K2.n + 1) = some (.cells true false 2 [.int .u64 1, S32 wA.po] 52) := by rw [hK3]; exact AHeap.get_alloc_new (K2.alloc _) _
  simp (disch := first | assumption | omega | (simp only [LN] <;> omega) | (simp (disch := first | assumption | omega | (simp only [LN] <;> omega)) only [row_alloc, row_set]; assumption)) only [W_block, P3, ↓reduceIte, reduceAdd, reduceEqDiff, reduceCtorEq, initFr, reduceLT, clsA, reduceLeDiff, reduceMul, reduceSub, reduceIte, Z68I_z, stn68s, stl_one, FB, fill0, o_s32, one_s32]
  simp only [← hK3]
  refine callK (t2 _ k3) ?_
  rintro _ X ⟨rfl, hX⟩
  rw [hX, sB, wB_pr]
  obtain ⟨K4, hK4⟩ : ∃ X, X = (K3.alloc (.cells true false 68 (stl wB) 32)).alloc (.cells true false 2 [.int .u64 0, S32 wB.po] 52) := ⟨_, rfl⟩
  have k4 : Keeps K3 K4 := by rw [hK4]; exact ((Keeps.refl K3).alloc _).alloc _
  have gb4 : K4.get (K3.n + 1) = some (.cells true false 2 [.int .u64 0, S32 wB.po] 52) := by rw [hK4]; exact AHeap.get_alloc_new (K3.alloc _) _
  have ga4 := k4.at_ ga3
  have ha3 := AHeap.get_lt ga3
  simp (disch := first | assumption | omega | (simp only [LN] <;> omega) | (simp (disch := first | assumption | omega | (simp only [LN] <;> omega)) only [row_alloc, row_set]; assumption)) only [W_block, P3, ↓reduceIte, reduceAdd, reduceEqDiff, reduceCtorEq, initFr, reduceLT, clsA, reduceLeDiff, reduceMul, reduceSub, reduceIte, Z68I_z, stn68s, stl_one, FC, fill0, o_s32, one_s32, ga3, rng68]
  simp only [← hK4]
  refine callK (t3 _ (k3.trans k4)) ?_
  rintro _ X ⟨rfl, hX⟩
  rw [hX, sC, wC_pr]
  obtain ⟨K5, hK5⟩ : ∃ X, X = (K4.alloc (.cells true false 68 (stl wC) 32)).alloc (.cells true false 2 [.int .u64 0, S32 wC.po] 52) := ⟨_, rfl⟩
  have k5 : Keeps K4 K5 := by rw [hK5]; exact ((Keeps.refl K4).alloc _).alloc _
  have gc5 : K5.get K4.n = some (.cells true false 68 (stl wC) 32) := by rw [hK5]; exact ((Keeps.refl _).alloc _).at_ (AHeap.get_alloc_new K4 _)
  have gd5 : K5.get (K4.n + 1) = some (.cells true false 2 [.int .u64 0, S32 wC.po] 52) := by rw [hK5]; exact AHeap.get_alloc_new (K4.alloc _) _
  simp (disch := first | assumption | omega | (simp only [LN] <;> omega) | (simp (disch := first | assumption | omega | (simp only [LN] <;> omega)) only [row_alloc, row_set]; assumption)) only [W_block, P3, ↓reduceIte, reduceAdd, reduceEqDiff, reduceCtorEq, initFr, reduceLT, clsA, reduceLeDiff, reduceMul, reduceSub, reduceIte, Z68I_z, stn68s, stl_one, FD, fill0, o_s32, one_s32, rng68]
  simp only [← hK5]
  refine callK (t4 _ ((k3.trans k4).trans k5)) ?_
  rintro _ X ⟨rfl, hX⟩
  rw [hX, sD]
  obtain ⟨K6, hK6⟩ : ∃ X, X = (K5.alloc (.cells true false 68 (stl wD) 32)).alloc (.cells true false 2 [S64 (prB wL ⟨wn, w0, wn⟩ wD), S32 wD.po] 52) := ⟨_, rfl⟩
  have k6 : Keeps K5 K6 := by rw [hK6]; exact ((Keeps.refl K5).alloc _).alloc _
  have ge6 : K6.get K5.n = some (.cells true false 68 (stl wD) 32) := by rw [hK6]; exact ((Keeps.refl _).alloc _).at_ (AHeap.get_alloc_new K5 _)
  have ga6 := (k5.trans k6).at_ ga4
  obtain ⟨K7, hK7⟩ : ∃ X, X = K6.alloc (.cells true false 2 [.int .u8 2, .int .i64 0] 70) := ⟨_, rfl⟩
  have k7 : Keeps K6 K7 := by rw [hK7]; exact (Keeps.refl K6).alloc _
  have cl7 : CL K7 (slc K6.n 0 1 1) [(2, 0)] := by rw [hK7]; exact newSl (rows := [[.int .u8 2, .int .i64 0]]) (by simp) rfl rfl
  have k27 := ((((k3.trans k4).trans k5).trans k6).trans k7)
  have t5 := t14 (s := wA) (x := ⟨w0, w0, wn⟩) (hM2.keeps k27) wL_lim cl7 (by simp)
  rw [i4v] at t5
  have sE : stepB wL wA ⟨w0, w0, wn⟩ [(2, 0)] = wE := rfl
  have ha4 := AHeap.get_lt ga4
  have ha6 := AHeap.get_lt ga6
  have ha5 : K2.n < K5.n := by have := k5.n; omega
  have ga5 := k5.at_ ga4
  simp (disch := first | assumption | omega | (simp only [LN] <;> omega) | (simp (disch := first | assumption | omega | (simp only [LN] <;> omega)) only [row_alloc, row_set]; assumption)) only [W_block, P3, ↓reduceIte, reduceAdd, reduceEqDiff, reduceCtorEq, initFr, reduceLT, clsA, reduceLeDiff, reduceMul, reduceSub, reduceIte, Z68I_z, stn68s, stl_one, F9, F5, FE, fill0, o_s32, o_s64, one_s64, one_s32, rng68, ga5, ha5]
  have n6 : K6.n = K5.n + 1 + 1 := by rw [hK6]; rfl
  rw [n6] at t5
  simp only [← hK6, ← hK7]
  refine callK t5 ?_
  rintro _ X ⟨rfl, hX⟩
  rw [hX, sE]
  obtain ⟨K8, hK8⟩ : ∃ X, X = (K7.alloc (.cells true false 68 (stl wE) 32)).alloc (.cells true false 2 [S64 (prB wL ⟨w0, w0, wn⟩ wE), S32 wE.po] 52) := ⟨_, rfl⟩
  have k8 : Keeps K7 K8 := by rw [hK8]; exact ((Keeps.refl K7).alloc _).alloc _
  have gf8 : K8.get K7.n = some (.cells true false 68 (stl wE) 32) := by rw [hK8]; exact ((Keeps.refl _).alloc _).at_ (AHeap.get_alloc_new K7 _)
  have k78 := k7.trans k8
  have ge8 := k78.at_ ge6
  have gc8 := (k6.trans k78).at_ gc5
  have gd8 := (k6.trans k78).at_ gd5
  have gb8 := ((k5.trans k6).trans k78).at_ gb4
  have go8 := (((k4.trans k5).trans k6).trans k78).at_ go3
  have ga8 := (((k4.trans k5).trans k6).trans k78).at_ ga3
  have eq1 := fun K a b => eq_stl K false a b
  have ti0 := stl_t wE (i := 0) (by omega)
  rw [wE_ti] at ti0
  have ti0' : (stl wE)[3]? = some (.int .u8 19) := ti0
  have kk : Keeps H K8 := ((kH1.trans k2).trans k27).trans k8
  simp (disch := first | assumption | omega | (simp only [LN] <;> omega) | (simp (disch := first | assumption | omega | (simp only [LN] <;> omega)) only [row_alloc, row_set]; assumption)) only [W_block, P3, ↓reduceIte, reduceAdd, reduceEqDiff, reduceCtorEq, initFr, reduceLT, clsA, reduceLeDiff, reduceMul, reduceSub, reduceIte, Z68I_z, O68I_r, stn68s, stl_one, o_s32, o_s64, one_s64, one_s32, fill0]
  simp only [← hK8]
  simp (disch := first | assumption | omega | (simp only [LN] <;> omega) | (simp (disch := first | assumption | omega | (simp only [LN] <;> omega)) only [row_alloc, row_set]; assumption)) only [W_block, P3, ↓reduceIte, reduceAdd, reduceEqDiff, reduceCtorEq, initFr, reduceLT, clsA, reduceLeDiff, reduceMul, reduceSub, reduceIte, ga8, go8, gb8, gc8, gd8, ge8, gf8, stl_0, stl_1, stl_2, wA_lo, wC_us, wE_ca, wD_eq, ti0', eq1, Z68I_z, O68I_r, rng68, fill0]
  refine callK (t6 _ (k27.trans k8)) ?_
  rintro _ X ⟨rfl, hX⟩
  rw [hX, wA_r]
  simp (disch := first | assumption | omega | (simp only [LN] <;> omega) | (simp (disch := first | assumption | omega | (simp only [LN] <;> omega)) only [row_alloc, row_set]; assumption)) only [W_block, P3, ↓reduceIte, reduceAdd, reduceEqDiff, reduceCtorEq, initFr, reduceLT, clsA, reduceLeDiff, reduceMul, reduceSub, reduceIte]
  exact hq2 _ _ ⟨_, rfl, rfl, kk⟩
end Go.AM.Fd

set_option linter.unusedSimpArgs false
set_option linter.unusedVariables false
set_option maxRecDepth 20000
namespace Go.AM.Fd
open Nat (reduceAdd reduceEqDiff reduceLT reduceLeDiff reduceMul reduceSub)
open Go.Proofs Go.AM.F
theorem av_state {H : AHeap} {v : Value} (h : AV Go.Proofs.Try.prog H.get 32 v) : ∃ s, v = .agg (stl s).toArray := by
  obtain ⟨cs, rfl⟩ := h.2.1 (by kernel_rfl)
  have h1 := h.1.flat (d := 5) (ks := .int .u64 :: .int .u64 :: .int .u64 :: (List.replicate 64 (.int .u8) ++ [.int .u32])) (by kernel_rfl)
  have ec : (Value.agg cs).cells.toList = cs.toList := rfl
  rw [ec] at h1
  obtain ⟨a, as1, e1, ha, h2⟩ := h1.inv
  obtain ⟨b, bs, rfl, hb, h3⟩ := h2.inv
  obtain ⟨c, ct, rfl, hc, h4⟩ := h3.inv
  obtain ⟨h5, h6⟩ := h4.split
  obtain ⟨l, hl, e5⟩ := h5.u8
  obtain ⟨d, ds, e6, hd, h7⟩ := h6.inv
  have := h7.end_; subst this
  obtain ⟨n1, rfl, g1⟩ := fits_u64 ha
  obtain ⟨n2, rfl, g2⟩ := fits_u64 hb
  obtain ⟨n3, rfl, g3⟩ := fits_u64 hc
  obtain ⟨n4, rfl, g4⟩ := fits_u32 hd
  obtain ⟨f1, q1⟩ := s64_of (x := (n1 : Int)) (by omega) (by omega)
  obtain ⟨f2, q2⟩ := s64_of (x := (n2 : Int)) (by omega) (by omega)
  obtain ⟨f3, q3⟩ := s64_of (x := (n3 : Int)) (by omega) (by omega)
  obtain ⟨f4, q4⟩ := s32_of (x := (n4 : Int)) (by omega) (by omega)
  have ect : ct = cellsOf l ++ [.int .u32 (n4 : Int)] := by
    have := List.take_append_drop (List.replicate 64 (CKd.int .u8)).length ct
    rw [e5, e6] at this; exact this.symm
  refine ⟨⟨f1, f2, f3, fun i => (l.getD i 0).toNat, f4⟩, ?_⟩
  have et : tis (fun i => (l.getD i 0).toNat) = cellsOf l := by
    unfold tis cellsOf
    apply List.ext_getElem?
    intro i
    rw [List.getElem?_map, List.getElem?_map]
    by_cases hi : i < 64
    · have hil : i < l.length := by omega
      rw [List.getElem?_range hi, List.getElem?_eq_getElem hil]
      simp only [Option.map_some]
      rw [List.getD_eq_getElem?_getD, List.getElem?_eq_getElem hil]; rfl
    · rw [List.getElem?_eq_none (by simp; omega), List.getElem?_eq_none (by omega)]; rfl
  have e : cs.toList = stl ⟨f1, f2, f3, fun i => (l.getD i 0).toNat, f4⟩ := by
    rw [e1, ect]; unfold stl; simp only; rw [q1, q2, q3, q4, et]
  rw [← e]
theorem rgt_eq {L : Ly} (he : checkE L = 0) (s : Sta) : rgtB L s = rgtD L s := by
  have hL := may_lim (check_may he)
  have lr := hL.r
  have lp := hL.p
  unfold rgtB rgtD
  congr 1
  rw [Bool.eq_iff_iff]
  simp only [Bool.and_eq_true, none64, none32, List.all_eq_true, List.mem_range, Bool.not_eq_true', Bool.and_eq_false_iff, iOK, kOK, nOK, Bool.or_eq_true, Bool.not_eq_false']
  constructor
  · rintro ⟨⟨h1, h2⟩, h3⟩ i hi
    refine ⟨?_, ?_⟩
    · cases hlo : s.lo i with
      | false => exact .inl rfl
      | true =>
        right
        intro k hk
        by_cases hik : i = k
        · left; left; simp [hik]
        · by_cases hlk : s.lo k = true
          · right
            rcases h1 k (by omega) with h | h
            · have : (s.lo i && tabP L i k) = false := by
                have := h
                unfold anyR at this
                rw [List.any_eq_false] at this
                simpa using this i (List.mem_range.2 hi)
              rw [hlo] at this
              have hki : ¬ k = i := fun e => hik e.symm
              simp [tabP, hk, hki] at this
              exact this
            · rw [hlk] at h; cases h
          · left; right; simpa using hlk
    · intro x hx
      cases hlo : s.lo i with
      | false => exact .inl rfl
      | true =>
        right
        have hg := (check_good he (List.getElem_mem hi)).nd x (by rw [← ro_eq hi]; exact hx)
        obtain ⟨xp, xb⟩ := x
        obtain ⟨m, rfl⟩ : ∃ m : Nat, xp = (m : Int) := ⟨xp.toNat, by have := hg.1; simp only at this; omega⟩
        have hm : m < 32 := by have := hg.2; simp only at this; omega
        show (s.po m != xb) = false
        cases xb with
        | false =>
          rcases h2 m hm with h | h
          · have : (s.lo i && nor L i m) = false := by
              unfold anyR at h
              rw [List.any_eq_false] at h
              simpa using h i (List.mem_range.2 hi)
            rw [hlo] at this
            have hc : nor L i m = true := List.contains_iff_mem.2 hx
            rw [hc] at this; cases this
          · rw [h]; rfl
        | true =>
          rcases h3 m hm with h | h
          · have : (s.lo i && rev L i m) = false := by
              unfold anyR at h
              rw [List.any_eq_false] at h
              simpa using h i (List.mem_range.2 hi)
            rw [hlo] at this
            have hc : rev L i m = true := List.contains_iff_mem.2 hx
            rw [hc] at this; cases this
          · rw [h]; rfl
  · intro h
    refine ⟨⟨?_, ?_⟩, ?_⟩
    · intro k hk
      by_cases hlk : s.lo k = true
      · left
        unfold anyR
        rw [List.any_eq_false]
        intro i hi
        have hi' := List.mem_range.1 hi
        cases hlo : s.lo i with
        | false => simp
        | true =>
          rcases (h i hi').1 with h1 | h1
          · rw [hlo] at h1; cases h1
          · by_cases hkn : k < L.r.length
            · rcases h1 k hkn with (h2 | h2) | h2
              · have e : i = k := by simpa using h2
                subst e
                simp [tabP]
              · rw [hlk] at h2; cases h2
              · simp [tabP, h2]
            · simp [tabP, hkn]
      · right; simpa using hlk
    · intro p hp
      by_cases hpo : s.po p = true
      · left
        unfold anyR
        rw [List.any_eq_false]
        intro i hi
        have hi' := List.mem_range.1 hi
        cases hlo : s.lo i with
        | false => simp
        | true =>
          simp only [Bool.true_and]
          intro hc
          have hx := List.contains_iff_mem.1 (show (nds (ro L i)).contains ((p : Int), false) = true from hc)
          rcases (h i hi').2 _ hx with h2 | h2
          · rw [hlo] at h2; cases h2
          · have h2' : (s.po p != false) = false := h2
            rw [hpo] at h2'; cases h2'
      · right; simpa using hpo
    · intro p hp
      by_cases hpo : s.po p = false
      · left
        unfold anyR
        rw [List.any_eq_false]
        intro i hi
        have hi' := List.mem_range.1 hi
        cases hlo : s.lo i with
        | false => simp
        | true =>
          simp only [Bool.true_and]
          intro hc
          have hx := List.contains_iff_mem.1 (show (nds (ro L i)).contains ((p : Int), true) = true from hc)
          rcases (h i hi').2 _ hx with h2 | h2
          · rw [hlo] at h2; cases h2
          · have h2' : (s.po p != true) = false := h2
            rw [hpo] at h2'; cases h2'
      · right; simpa using hpo
theorem ly_ones {H : AHeap} {u : V4} {xs : List RV} {L : Ly} (h : LyR H u xs L) : u.l.all Value.oneCell' = true := by
  have os := Sl.one h.s
  have op := Sl.one h.p
  have og := Sl.one h.g
  have or := Sl.one h.r
  simp only [V4.l, List.all_cons, List.all_nil, os, op, og, or]; rfl
theorem t7 {H : AHeap} {u : V4} {xs : List RV} {L : Ly} (h : LyR H u xs L) (hi : LyIn 9223372036854775807 L) :
    ∃ w H', ARun Go.Proofs.Try.prog 0 7 [.agg u.l.toArray] H w H' ∧ Keeps H H' ∧ (w = .tuple #[.pointer none, .bool false] ∨ ∃ b, checkE L = 0 ∧ w = .tuple #[ptr b 0, .bool true] ∧ MaR H' b L) := by
  refine walk2 f7_ok f7_n ?_
  intro Q hq1 hq2
  have ho := ly_ones h
  have hul : u.l = [u.s, u.p, u.g, u.r] := rfl
  have kA := (Keeps.refl H).alloc (.cells true false 4 u.l 27)
  have gl := AHeap.get_alloc_new H (.cells true false 4 u.l 27)
  have hA := h.keeps kA
  have ll : u.l.length = 4 := rfl
  obtain ⟨K0, hK0⟩ : ∃ X, X = H.alloc (.cells true false 4 u.l 27) := ⟨_, rfl⟩
  rw [← hK0] at kA gl hA
  simp (disch := first | assumption | omega | (simp only [LN] <;> omega) | (simp (disch := first | assumption | omega | (simp only [LN] <;> omega)) only [row_alloc, row_set]; assumption)) only [f7, W_block, P3, ↓reduceIte, reduceAdd, reduceEqDiff, reduceCtorEq, initFr, reduceLT, clsA, reduceLeDiff, reduceMul, reduceSub, reduceIte, ho, ll]
  rw [← hK0]
  refine callK (t20 (top := 400) (by omega) hA hi) ?_
  rintro _ X ⟨⟨n, rfl⟩, hX⟩
  rw [hX]
  by_cases hn : (400 : Int) < n
  · simp (disch := first | assumption | omega | (simp only [LN] <;> omega) | (simp (disch := first | assumption | omega | (simp only [LN] <;> omega)) only [row_alloc, row_set]; assumption)) only [W_block, P3, ↓reduceIte, reduceAdd, reduceEqDiff, reduceCtorEq, initFr, reduceLT, clsA, reduceLeDiff, reduceMul, reduceSub, reduceIte, hn]
    exact hq2 _ _ ⟨_, rfl, kA, .inl rfl⟩
  simp (disch := first | assumption | omega | (simp only [LN] <;> omega) | (simp (disch := first | assumption | omega | (simp only [LN] <;> omega)) only [row_alloc, row_set]; assumption)) only [W_block, P3, ↓reduceIte, reduceAdd, reduceEqDiff, reduceCtorEq, initFr, reduceLT, clsA, reduceLeDiff, reduceMul, reduceSub, reduceIte, hn, gl, ll]
  refine callK (t21 hA hi) ?_
  rintro _ K1 ⟨k1, e1, e2⟩
  by_cases he : checkE L = 0
  · obtain ⟨b, rfl, hM⟩ := e2 he
    simp (disch := first | assumption | omega | (simp only [LN] <;> omega) | (simp (disch := first | assumption | omega | (simp only [LN] <;> omega)) only [row_alloc, row_set]; assumption)) only [W_block, P3, ↓reduceIte, reduceAdd, reduceEqDiff, reduceCtorEq, initFr, reduceLT, clsA, reduceLeDiff, reduceMul, reduceSub, reduceIte]
    exact hq2 _ _ ⟨_, rfl, kA.trans k1, .inr ⟨b, he, rfl, hM⟩⟩
  · rw [e1 he]
    have ne : (checkE L == 0) = false := by simp [he]
    simp (disch := first | assumption | omega | (simp only [LN] <;> omega) | (simp (disch := first | assumption | omega | (simp only [LN] <;> omega)) only [row_alloc, row_set]; assumption)) only [W_block, P3, ↓reduceIte, reduceAdd, reduceEqDiff, reduceCtorEq, initFr, reduceLT, clsA, reduceLeDiff, reduceMul, reduceSub, reduceIte, ne]
    exact hq2 _ _ ⟨_, rfl, kA.trans k1, .inl rfl⟩
set_option maxHeartbeats 2000000 in
theorem lawTidy : ∀ H args, NoOwn H → AVs Go.Proofs.Try.prog H.get [27, 32] args → ∃ H', ARun Go.Proofs.Try.prog 0 3 args H (.bool true) H' := by
  intro H args _ h
  match args, h with
  | [v, z], ⟨h0, h1, _⟩ =>
    obtain ⟨u, xs, L, rfl, hl, hi⟩ := av_ly h0
    obtain ⟨s, rfl⟩ := av_state h1
    suffices h' : ∃ w H', ARun Go.Proofs.Try.prog 0 3 [.agg u.l.toArray, .agg (stl s).toArray] H w H' ∧ w = .bool true by
      obtain ⟨_, K, a, rfl⟩ := h'
      exact ⟨K, a⟩
    refine walk2 f3_ok f3_n ?_
    intro Q hq1 hq2
    have ho := ly_ones hl
    have ll : u.l.length = 4 := rfl
    obtain ⟨K0, hK0⟩ : ∃ X, X = (H.alloc (.cells true false 4 u.l 27)).alloc (.cells true false 68 (stl s) 32) := ⟨_, rfl⟩
    have k0 : Keeps H K0 := by rw [hK0]; exact ((Keeps.refl H).alloc _).alloc _
    have n0 : K0.n = H.n + 2 := by rw [hK0]; rfl
    have gl0 : K0.get H.n = some (.cells true false 4 u.l 27) := by rw [hK0]; exact ((Keeps.refl _).alloc _).at_ (AHeap.get_alloc_new H _)
    have gs0 : K0.get (H.n + 1) = some (.cells true false 68 (stl s) 32) := by rw [hK0]; exact AHeap.get_alloc_new (H.alloc _) _
    have hl0 := hl.keeps k0
    simp (disch := first | assumption | omega | (simp only [LN] <;> omega) | (simp (disch := first | assumption | omega | (simp only [LN] <;> omega)) only [row_alloc, row_set]; assumption)) only [f3, W_block, P3, ↓reduceIte, reduceAdd, reduceEqDiff, reduceCtorEq, initFr, reduceLT, clsA, reduceLeDiff, reduceMul, reduceSub, reduceIte, ho, ll, stl_one, stl_len]
    simp only [← hK0]
    refine callK (t7 hl0 hi) ?_
    rintro _ K1 ⟨k1, hm⟩
    rcases hm with rfl | ⟨b, he, rfl, hM⟩
    · simp (disch := first | assumption | omega | (simp only [LN] <;> omega) | (simp (disch := first | assumption | omega | (simp only [LN] <;> omega)) only [row_alloc, row_set]; assumption)) only [W_block, P3, ↓reduceIte, reduceAdd, reduceEqDiff, reduceCtorEq, initFr, reduceLT, clsA, reduceLeDiff, reduceMul, reduceSub, reduceIte]
      refine callK (t8 _) ?_
      rintro _ X ⟨rfl, hX⟩
      rw [hX]
      simp (disch := first | assumption | omega | (simp only [LN] <;> omega) | (simp (disch := first | assumption | omega | (simp only [LN] <;> omega)) only [row_alloc, row_set]; assumption)) only [W_block, P3, ↓reduceIte, reduceAdd, reduceEqDiff, reduceCtorEq, initFr, reduceLT, clsA, reduceLeDiff, reduceMul, reduceSub, reduceIte]
      exact hq2 _ _ ⟨_, rfl, rfl⟩
    have hL := may_lim (check_may he)
    have gl1 := k1.at_ gl0
    have gs1 := k1.at_ gs0
    have hl1 := hl0.keeps k1
    simp (disch := first | assumption | omega | (simp only [LN] <;> omega) | (simp (disch := first | assumption | omega | (simp only [LN] <;> omega)) only [row_alloc, row_set]; assumption)) only [W_block, P3, ↓reduceIte, reduceAdd, reduceEqDiff, reduceCtorEq, initFr, reduceLT, clsA, reduceLeDiff, reduceMul, reduceSub, reduceIte, gs1, rng68]
    refine callK (t9 hM s) ?_
    rintro _ X ⟨rfl, hX⟩
    rw [hX]
    obtain ⟨K2, hK2⟩ : ∃ X, X = K1.alloc (.cells true false 68 (stl (tidyS L s)) 32) := ⟨_, rfl⟩
    have k2 : Keeps K1 K2 := by rw [hK2]; exact (Keeps.refl K1).alloc _
    have gt2 : K2.get K1.n = some (.cells true false 68 (stl (tidyS L s)) 32) := by rw [hK2]; exact AHeap.get_alloc_new K1 _
    have gl2 := k2.at_ gl1
    have gs2 := k2.at_ gs1
    have hl2 := hl1.keeps k2
    have hM2 := hM.keeps k2
    have a1 := AHeap.get_lt gt2
    have a2 := AHeap.get_lt gl2
    have a3 := AHeap.get_lt gs2
    have eqs0 := fun K a b => eq_stl K false a b
    have hrf : ∀ t : Sta, staB t t = true := fun t => by unfold staB; simp
    have lr := hL.r
    simp (disch := first | assumption | omega | (simp only [LN] <;> omega) | (simp (disch := first | assumption | omega | (simp only [LN] <;> omega)) only [row_alloc, row_set]; assumption)) only [W_block, P3, ↓reduceIte, reduceAdd, reduceEqDiff, reduceCtorEq, initFr, reduceLT, clsA, reduceLeDiff, reduceMul, reduceSub, reduceIte, gs1, gl1, rng68, stn68s, stl_one, stl_len, Z68I_z, ll]
    simp only [← hK2]
    simp (disch := first | assumption | omega | (simp only [LN] <;> omega) | (simp (disch := first | assumption | omega | (simp only [LN] <;> omega)) only [row_alloc, row_set]; assumption)) only [W_block, P3, ↓reduceIte, reduceAdd, reduceEqDiff, reduceCtorEq, initFr, reduceLT, clsA, reduceLeDiff, reduceMul, reduceSub, reduceIte, gl2, gs2, rng68, ll]
    refine callK (t10 hl2 hL s) ?_
    rintro _ X ⟨rfl, hX⟩
    rw [hX]
    simp (disch := first | assumption | omega | (simp only [LN] <;> omega) | (simp (disch := first | assumption | omega | (simp only [LN] <;> omega)) only [row_alloc, row_set]; assumption)) only [W_block, P3, ↓reduceIte, reduceAdd, reduceEqDiff, reduceCtorEq, initFr, reduceLT, clsA, reduceLeDiff, reduceMul, reduceSub, reduceIte, gl2, gs2, gt2, a1, a2, a3, rng68, ll, O68I_r, eqs0, hrf]
    refine ⟨by simp, callK (t11 hM2 lr s) ?_⟩
    rintro _ X ⟨rfl, hX⟩
    rw [hX, rgt_eq he]
    simp (disch := first | assumption | omega | (simp only [LN] <;> omega) | (simp (disch := first | assumption | omega | (simp only [LN] <;> omega)) only [row_alloc, row_set]; assumption)) only [W_block, P3, ↓reduceIte, reduceAdd, reduceEqDiff, reduceCtorEq, initFr, reduceLT, clsA, reduceLeDiff, reduceMul, reduceSub, reduceIte, gl2, gs2, gt2, a1, a2, a3, rng68, ll]
    refine callK (t12 hl2 he s) ?_
    rintro _ X ⟨rfl, hX⟩
    rw [hX]
    have bb : ∀ x : Bool, (x == x) = true := fun x => by cases x <;> rfl
    simp (disch := first | assumption | omega | (simp only [LN] <;> omega) | (simp (disch := first | assumption | omega | (simp only [LN] <;> omega)) only [row_alloc, row_set]; assumption)) only [W_block, P3, ↓reduceIte, reduceAdd, reduceEqDiff, reduceCtorEq, initFr, reduceLT, clsA, reduceLeDiff, reduceMul, reduceSub, reduceIte, gl2, gs2, gt2, a1, a2, a3, rng68, ll, bb]
    refine callK (t11 hM2 lr _) ?_
    rintro _ X ⟨rfl, hX⟩
    rw [hX, rgt_eq he]
    simp (disch := first | assumption | omega | (simp only [LN] <;> omega) | (simp (disch := first | assumption | omega | (simp only [LN] <;> omega)) only [row_alloc, row_set]; assumption)) only [W_block, P3, ↓reduceIte, reduceAdd, reduceEqDiff, reduceCtorEq, initFr, reduceLT, clsA, reduceLeDiff, reduceMul, reduceSub, reduceIte, gl2, gs2, gt2, a1, a2, a3, rng68, ll, bb]
    refine callK (t12 hl2 he _) ?_
    rintro _ X ⟨rfl, hX⟩
    rw [hX]
    simp (disch := first | assumption | omega | (simp only [LN] <;> omega) | (simp (disch := first | assumption | omega | (simp only [LN] <;> omega)) only [row_alloc, row_set]; assumption)) only [W_block, P3, ↓reduceIte, reduceAdd, reduceEqDiff, reduceCtorEq, initFr, reduceLT, clsA, reduceLeDiff, reduceMul, reduceSub, reduceIte, bb]
    refine callK (t8 _) ?_
    rintro _ X ⟨rfl, hX⟩
    rw [hX]
    simp (disch := first | assumption | omega | (simp only [LN] <;> omega) | (simp (disch := first | assumption | omega | (simp only [LN] <;> omega)) only [row_alloc, row_set]; assumption)) only [W_block, P3, ↓reduceIte, reduceAdd, reduceEqDiff, reduceCtorEq, initFr, reduceLT, clsA, reduceLeDiff, reduceMul, reduceSub, reduceIte]
    exact hq2 _ _ ⟨_, rfl, rfl⟩
end Go.AM.Fd
