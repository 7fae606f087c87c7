/- Part of the proof. -/
import Derived.Test.YtfneppahknoaoaaDoorGLB03
set_option linter.unusedSimpArgs false
set_option linter.unusedVariables false
set_option linter.unusedSimpArgs false
set_option linter.unusedVariables false
namespace Go.AM.Fd
open Nat (reduceAdd reduceEqDiff reduceLT reduceLeDiff reduceMul reduceSub)
open Go.Proofs Go.AM.F
theorem b4 (a b c d : Bool) : ((a && b) && (c && d)) = ((a && c) && (b && d)) := by cases a <;> cases b <;> cases c <;> cases d <;> rfl
def M2 (A : Value) (H : AHeap) (u : V4) (L : Ly) (fr : List Value) (K : AHeap) : Prop :=
  ∃ ok x9 x10 x11 x12 x13 x14 x15 x16 x17 x18 x19 x20 x21 x22 x23 x24 x25 x26 x27 x28 x29 x30 x31 x32 x33, fr = mF A H.n L ok ++ [x9, x10, x11, x12, x13, x14, x15, x16, x17, x18, x19, x20, x21, x22, x23, x24, x25, x26, x27, x28, x29, x30, x31, x32, x33] ∧ ok = (okN (L.s ++ L.p.map (·.1)) && L.p.all fun x => inB L.s.length x.2) ∧ MSt H K u ok (L.s ++ L.p.map (·.1))
def M3 (A : Value) (H : AHeap) (u : V4) (L : Ly) (fr : List Value) (K : AHeap) : Prop :=
  ∃ ok x9 x10 x11 x12 x13 x14 x15 x16 x17 x18 x19 x20 x21 x22 x23 x24 x25 x26 x27 x28 x29 x30 x31 x32 x33, fr = mF A H.n L ok ++ [x9, x10, x11, x12, x13, x14, x15, x16, x17, x18, x19, x20, x21, x22, x23, x24, x25, x26, x27, x28, x29, x30, x31, x32, x33] ∧ ok = (okN (L.s ++ L.p.map (·.1) ++ L.g.map (·.1)) && (L.p.all (fun x => inB L.s.length x.2) && L.g.all fun x => inB L.s.length x.2)) ∧ MSt H K u ok (L.s ++ L.p.map (·.1) ++ L.g.map (·.1))
set_option maxHeartbeats 2000000 in
theorem may2 {H : AHeap} {u : V4} {xs : List RV} {L : Ly} {Q : AQ} {A : Value} {fr : List Value} {K : AHeap} (h : LyR H u xs L) (hf : LyFit L) (hm : M1 A H u L fr K)
    (hk : ∀ fr K, M2 A H u L fr K → Q .normal fr K) : W Go.Proofs.Tryd.prog 4 (cpre 1 (cpost 6 f13.body)) Q fr K := by
  obtain ⟨ok, x9, x10, x11, x12, x13, x14, x15, x16, x17, x18, x19, x20, x21, x22, x23, x24, x25, x26, x27, x28, x29, x30, x31, x32, x33, rfl, hok, hst⟩ := hm
  have lp := h.p.len
  have ip := Sl.is h.p
  have gl := hst.l
  simp only [V4.l] at gl
  simp (disch := first | assumption | omega | (simp only [LN] <;> omega) | (simp (disch := first | assumption | omega | (simp only [LN] <;> omega)) only [row_alloc, row_set]; assumption)) only [ f13, cpre, cpost, mF, List.cons_append, List.nil_append, P3, ↓reduceIte, reduceAdd, reduceEqDiff, reduceCtorEq, initFr, reduceLT, clsA, reduceLeDiff, reduceMul, reduceSub, reduceIte, gl, lp]
  rw [W_block]
  refine W_loop2 (fun k fr K => ∃ ok i x11 x12 xc, fr = mF A H.n L ok ++ [x9, x10, x11, x12, x13, x14, x15, x16, x17, x18, x19, x20, x21, u.p, .int .i64 ((L.p.length : Nat) : Int), .int .i64 ((i : Nat) : Int), xc, x26, x27, x28, x29, x30, x31, x32, x33] ∧
      ok = (okN (nm2 L i) && al2 L i) ∧ MSt H K u ok (nm2 L i) ∧ i ≤ L.p.length ∧ k = L.p.length - i) L.p.length
    ⟨ok, 0, _, _, _, rfl, by simp [nm2, al2, hok], by simpa [nm2] using hst, by omega, rfl⟩ ?_
  clear hst hok gl
  rintro Q' k fr K ⟨ok, i, x11, x12, xc, rfl, hok, hst, hi, rfl⟩ hn hx hret
  by_cases hlt : i < L.p.length
  · obtain ⟨na, ra⟩ := (h.p.keeps hst.k).at_ hlt
    have hbl := Sl.bn_le (h.p.keeps hst.k) (by intro e; simp at e; rw [e] at hlt; simp at hlt) (by omega)
    have h1 : (0 : Int) ≤ (i : Int) := by omega
    have h2 : (i : Int) < ((lenS u.p : Nat) : Int) := by omega
    have h3 : (i : Int) < ((L.p.length : Nat) : Int) := by omega
    have hw : IntKind.i64.wrap ((i : Int) + 1) = ((i + 1 : Nat) : Int) := by rw [wrap_i64 (by omega) (by have := hf.p.1; omega)]; simp
    have hlen := hf.p.2 _ (getD_mem (d := ([], 0)) hlt)
    have ts := take_snoc ([], (0 : Int)) hlt
    have hs : okN (nm2 L (i + 1)) = (okN (nm2 L i) && (rightB (L.p.getD i ([], 0)).1 && !(nm2 L i).contains (L.p.getD i ([], 0)).1)) := by
      rw [← okN_snoc]; simp only [nm2, ts, List.map_append, List.map_cons, List.map_nil, List.append_assoc]
    have hn1 : nm2 L i ++ [(L.p.getD i ([], 0)).1] = nm2 L (i + 1) := by simp only [nm2, ts, List.map_append, List.map_cons, List.map_nil, List.append_assoc]
    have ha : al2 L (i + 1) = (al2 L i && inB L.s.length (L.p.getD i ([], 0)).2) := by
      simp only [al2, ts, List.all_append, List.all_cons, List.all_nil, Bool.and_true, Bool.and_assoc]
    generalize L.p.getD i ([], 0) = y at *
    have hk1 := hst.k.n
    have o1 : one1 (Value.int .i64 y.2) = True := by simp [one1, one_int]
    have o2 : one1 (Value.string ⟨y.1.toArray⟩) = True := by simp [one1, one_str]
    have st1 := hst.keeps ((Keeps.refl K).alloc (.cells true false 2 [.string ⟨y.1.toArray⟩, .int .i64 y.2] 58))
    have gv := AHeap.get_alloc_new K (.cells true false 2 [.string ⟨y.1.toArray⟩, .int .i64 y.2] 58)
    cases ok with
    | false =>
      simp (disch := first | assumption | omega | (simp only [LN] <;> omega) | (simp (disch := first | assumption | omega | (simp only [LN] <;> omega)) only [row_alloc, row_set]; assumption)) only [W_block, P3, ↓reduceIte, reduceAdd, reduceEqDiff, reduceCtorEq, initFr, reduceLT, clsA, reduceLeDiff, reduceMul, reduceSub, reduceIte, mF, List.cons_append, List.nil_append, lp, ra, na, a_loadnvf, hw, o1, o2]
      refine hn _ _ _ ⟨false, i + 1, _, _, _, rfl, ?_, st1.no, by omega, rfl⟩ (by omega)
      rw [hs, ha, b4, ← hok]; rfl
    | true =>
      simp (disch := first | assumption | omega | (simp only [LN] <;> omega) | (simp (disch := first | assumption | omega | (simp only [LN] <;> omega)) only [row_alloc, row_set]; assumption)) only [W_block, P3, ↓reduceIte, reduceAdd, reduceEqDiff, reduceCtorEq, initFr, reduceLT, clsA, reduceLeDiff, reduceMul, reduceSub, reduceIte, mF, List.cons_append, List.nil_append, lp, ra, na, a_loadnvf, hw, o1, o2]
      obtain ⟨K1, hK1⟩ : ∃ X, X = K.alloc (.cells true false 2 [.string ⟨y.1.toArray⟩, .int .i64 y.2] 58) := ⟨_, rfl⟩
      have n1 : K1.n = K.n + 1 := by rw [hK1]; rfl
      rw [← hK1] at st1 gv ⊢
      refine callK (t26 _ _ hlen) ?_
      rintro _ X ⟨rfl, hX⟩
      rw [hX]
      cases hr : rightB y.1 with
      | false =>
        simp (disch := first | assumption | omega | (simp only [LN] <;> omega) | (simp (disch := first | assumption | omega | (simp only [LN] <;> omega)) only [row_alloc, row_set]; assumption)) only [W_block, P3, ↓reduceIte, reduceAdd, reduceEqDiff, reduceCtorEq, initFr, reduceLT, clsA, reduceLeDiff, reduceMul, reduceSub, reduceIte, hw]
        refine hn _ _ _ ⟨false, i + 1, _, _, _, rfl, ?_, st1.no, by omega, rfl⟩ (by omega)
        rw [hs, ha, hr]; simp
      | true =>
        simp (disch := first | assumption | omega | (simp only [LN] <;> omega) | (simp (disch := first | assumption | omega | (simp only [LN] <;> omega)) only [row_alloc, row_set]; assumption)) only [W_block, P3, ↓reduceIte, reduceAdd, reduceEqDiff, reduceCtorEq, initFr, reduceLT, clsA, reduceLeDiff, reduceMul, reduceSub, reduceIte, gv, hw]
        refine callK (R := fun w K' => w = .bool (!(nm2 L i).contains y.1) ∧ MSt H K' u (!(nm2 L i).contains y.1) (nm2 L i ++ [y.1]) ∧ K1.n ≤ K'.n ∧ K'.get K.n = K1.get K.n) (by
          obtain ⟨w, K', a, b, c, d, e⟩ := st1.fresh y.1 (x := .iface 63 (.int .i64 (i : Int))) rfl
          exact ⟨w, K', a, b, c, d, e _ (by have := AHeap.get_lt hst.b; omega) (by omega)⟩) ?_
        rintro _ K' ⟨rfl, st', n2, g2⟩
        rw [gv] at g2
        rw [hn1] at st'
        cases hc : (nm2 L i).contains y.1 with
        | true =>
          rw [hc] at st'
          simp (disch := first | assumption | omega | (simp only [LN] <;> omega) | (simp (disch := first | assumption | omega | (simp only [LN] <;> omega)) only [row_alloc, row_set]; assumption)) only [W_block, P3, ↓reduceIte, reduceAdd, reduceEqDiff, reduceCtorEq, initFr, reduceLT, clsA, reduceLeDiff, reduceMul, reduceSub, reduceIte, hw]
          refine hn _ _ _ ⟨false, i + 1, _, _, _, rfl, ?_, st', by omega, rfl⟩ (by omega)
          rw [hs, ha, hr, hc]; simp
        | false =>
          rw [hc] at st'
          simp (disch := first | assumption | omega | (simp only [LN] <;> omega) | (simp (disch := first | assumption | omega | (simp only [LN] <;> omega)) only [row_alloc, row_set]; assumption)) only [W_block, P3, ↓reduceIte, reduceAdd, reduceEqDiff, reduceCtorEq, initFr, reduceLT, clsA, reduceLeDiff, reduceMul, reduceSub, reduceIte, g2, hw]
          have hil : IL (K'.alloc (.cells true false 1 [.int .i64 y.2] 3)) (slc K'.n 0 1 1) [y.2] :=
            ⟨⟨_, _, rfl⟩, by simp [iRow], by rw [elems_new rfl rfl]; rfl⟩
          refine callK (t28 _ hil (by simp)) ?_
          rintro _ _ ⟨rfl, rfl⟩
          have st2 := st'.keeps ((Keeps.refl K').alloc (.cells true false 1 [.int .i64 y.2] 3))
          cases hb : inB L.s.length y.2 with
          | false =>
            have e : [y.2].all (inB (L.s.length : Nat)) = false := by simp [hb]
            simp (disch := first | assumption | omega | (simp only [LN] <;> omega) | (simp (disch := first | assumption | omega | (simp only [LN] <;> omega)) only [row_alloc, row_set]; assumption)) only [W_block, P3, ↓reduceIte, reduceAdd, reduceEqDiff, reduceCtorEq, initFr, reduceLT, clsA, reduceLeDiff, reduceMul, reduceSub, reduceIte, e, hw]
            refine hn _ _ _ ⟨false, i + 1, _, _, _, rfl, ?_, st2.no, by omega, rfl⟩ (by omega)
            rw [ha, hb]; simp
          | true =>
            have e : [y.2].all (inB (L.s.length : Nat)) = true := by simp [hb]
            simp (disch := first | assumption | omega | (simp only [LN] <;> omega) | (simp (disch := first | assumption | omega | (simp only [LN] <;> omega)) only [row_alloc, row_set]; assumption)) only [W_block, P3, ↓reduceIte, reduceAdd, reduceEqDiff, reduceCtorEq, initFr, reduceLT, clsA, reduceLeDiff, reduceMul, reduceSub, reduceIte, e, hw]
            refine hn _ _ _ ⟨true, i + 1, _, _, _, rfl, ?_, st2, by omega, rfl⟩ (by omega)
            rw [hs, ha, b4, ← hok, hr, hc, hb]; rfl
  · have h3 : ¬ (i : Int) < ((L.p.length : Nat) : Int) := by omega
    simp (disch := first | assumption | omega | (simp only [LN] <;> omega) | (simp (disch := first | assumption | omega | (simp only [LN] <;> omega)) only [row_alloc, row_set]; assumption)) only [W_block, P3, ↓reduceIte, reduceAdd, reduceEqDiff, reduceCtorEq, initFr, reduceLT, clsA, reduceLeDiff, reduceMul, reduceSub, reduceIte, mF, List.cons_append, List.nil_append, lp]
    refine hx 2 _ _ ?_
    have e : L.p.take i = L.p := List.take_of_length_le (by omega)
    simp only [nm2, al2, e] at hok hst
    exact hk _ _ ⟨ok, _, _, _, _, _, _, _, _, _, _, _, _, _, _, _, _, _, _, _, _, _, _, _, _, _, rfl, hok, hst⟩
set_option maxHeartbeats 2000000 in
theorem may3 {H : AHeap} {u : V4} {xs : List RV} {L : Ly} {Q : AQ} {A : Value} {fr : List Value} {K : AHeap} (h : LyR H u xs L) (hf : LyFit L) (hm : M2 A H u L fr K)
    (hk : ∀ fr K, M3 A H u L fr K → Q .normal fr K) : W Go.Proofs.Tryd.prog 4 (cpre 1 (cpost 7 f13.body)) Q fr K := by
  obtain ⟨ok, x9, x10, x11, x12, x13, x14, x15, x16, x17, x18, x19, x20, x21, x22, x23, x24, x25, x26, x27, x28, x29, x30, x31, x32, x33, rfl, hok, hst⟩ := hm
  have lp := h.g.len
  have ip := Sl.is h.g
  have gl := hst.l
  simp only [V4.l] at gl
  simp (disch := first | assumption | omega | (simp only [LN] <;> omega) | (simp (disch := first | assumption | omega | (simp only [LN] <;> omega)) only [row_alloc, row_set]; assumption)) only [ f13, cpre, cpost, mF, List.cons_append, List.nil_append, P3, ↓reduceIte, reduceAdd, reduceEqDiff, reduceCtorEq, initFr, reduceLT, clsA, reduceLeDiff, reduceMul, reduceSub, reduceIte, gl, lp]
  rw [W_block]
  refine W_loop2 (fun k fr K => ∃ ok i x13 x14 xc, fr = mF A H.n L ok ++ [x9, x10, x11, x12, x13, x14, x15, x16, x17, x18, x19, x20, x21, x22, x23, x24, x25, u.g, .int .i64 ((L.g.length : Nat) : Int), .int .i64 ((i : Nat) : Int), xc, x30, x31, x32, x33] ∧
      ok = (okN (nm3 L i) && al3 L i) ∧ MSt H K u ok (nm3 L i) ∧ i ≤ L.g.length ∧ k = L.g.length - i) L.g.length
    ⟨ok, 0, _, _, _, rfl, by simp [nm3, al3, hok], by simpa [nm3] using hst, by omega, rfl⟩ ?_
  clear hst hok gl
  rintro Q' k fr K ⟨ok, i, x13, x14, xc, rfl, hok, hst, hi, rfl⟩ hn hx hret
  by_cases hlt : i < L.g.length
  · obtain ⟨na, ra⟩ := (h.g.keeps hst.k).at_ hlt
    have hbl := Sl.bn_le (h.g.keeps hst.k) (by intro e; simp at e; rw [e] at hlt; simp at hlt) (by omega)
    have h1 : (0 : Int) ≤ (i : Int) := by omega
    have h2 : (i : Int) < ((lenS u.g : Nat) : Int) := by omega
    have h3 : (i : Int) < ((L.g.length : Nat) : Int) := by omega
    have hw : IntKind.i64.wrap ((i : Int) + 1) = ((i + 1 : Nat) : Int) := by rw [wrap_i64 (by omega) (by have := hf.g.1; omega)]; simp
    have hlen := hf.g.2 _ (getD_mem (d := ([], 0)) hlt)
    have ts := take_snoc ([], (0 : Int)) hlt
    have hs : okN (nm3 L (i + 1)) = (okN (nm3 L i) && (rightB (L.g.getD i ([], 0)).1 && !(nm3 L i).contains (L.g.getD i ([], 0)).1)) := by
      rw [← okN_snoc]; simp only [nm3, ts, List.map_append, List.map_cons, List.map_nil, List.append_assoc]
    have hn1 : nm3 L i ++ [(L.g.getD i ([], 0)).1] = nm3 L (i + 1) := by simp only [nm3, ts, List.map_append, List.map_cons, List.map_nil, List.append_assoc]
    have ha : al3 L (i + 1) = (al3 L i && inB L.s.length (L.g.getD i ([], 0)).2) := by
      simp only [al3, ts, List.all_append, List.all_cons, List.all_nil, Bool.and_true, Bool.and_assoc]
    generalize L.g.getD i ([], 0) = y at *
    have hk1 := hst.k.n
    have o1 : one1 (Value.int .i64 y.2) = True := by simp [one1, one_int]
    have o2 : one1 (Value.string ⟨y.1.toArray⟩) = True := by simp [one1, one_str]
    have st1 := hst.keeps ((Keeps.refl K).alloc (.cells true false 2 [.string ⟨y.1.toArray⟩, .int .i64 y.2] 59))
    have gv := AHeap.get_alloc_new K (.cells true false 2 [.string ⟨y.1.toArray⟩, .int .i64 y.2] 59)
    cases ok with
    | false =>
      simp (disch := first | assumption | omega | (simp only [LN] <;> omega) | (simp (disch := first | assumption | omega | (simp only [LN] <;> omega)) only [row_alloc, row_set]; assumption)) only [W_block, P3, ↓reduceIte, reduceAdd, reduceEqDiff, reduceCtorEq, initFr, reduceLT, clsA, reduceLeDiff, reduceMul, reduceSub, reduceIte, mF, List.cons_append, List.nil_append, lp, ra, na, a_loadnvf, hw, o1, o2]
      refine hn _ _ _ ⟨false, i + 1, _, _, _, rfl, ?_, st1.no, by omega, rfl⟩ (by omega)
      rw [hs, ha, b4, ← hok]; rfl
    | true =>
      simp (disch := first | assumption | omega | (simp only [LN] <;> omega) | (simp (disch := first | assumption | omega | (simp only [LN] <;> omega)) only [row_alloc, row_set]; assumption)) only [W_block, P3, ↓reduceIte, reduceAdd, reduceEqDiff, reduceCtorEq, initFr, reduceLT, clsA, reduceLeDiff, reduceMul, reduceSub, reduceIte, mF, List.cons_append, List.nil_append, lp, ra, na, a_loadnvf, hw, o1, o2]
      obtain ⟨K1, hK1⟩ : ∃ X, X = K.alloc (.cells true false 2 [.string ⟨y.1.toArray⟩, .int .i64 y.2] 59) := ⟨_, rfl⟩
      have n1 : K1.n = K.n + 1 := by rw [hK1]; rfl
      rw [← hK1] at st1 gv ⊢
      refine callK (t26 _ _ hlen) ?_
      rintro _ X ⟨rfl, hX⟩
      rw [hX]
      cases hr : rightB y.1 with
      | false =>
        simp (disch := first | assumption | omega | (simp only [LN] <;> omega) | (simp (disch := first | assumption | omega | (simp only [LN] <;> omega)) only [row_alloc, row_set]; assumption)) only [W_block, P3, ↓reduceIte, reduceAdd, reduceEqDiff, reduceCtorEq, initFr, reduceLT, clsA, reduceLeDiff, reduceMul, reduceSub, reduceIte, hw]
        refine hn _ _ _ ⟨false, i + 1, _, _, _, rfl, ?_, st1.no, by omega, rfl⟩ (by omega)
        rw [hs, ha, hr]; simp
      | true =>
        simp (disch := first | assumption | omega | (simp only [LN] <;> omega) | (simp (disch := first | assumption | omega | (simp only [LN] <;> omega)) only [row_alloc, row_set]; assumption)) only [W_block, P3, ↓reduceIte, reduceAdd, reduceEqDiff, reduceCtorEq, initFr, reduceLT, clsA, reduceLeDiff, reduceMul, reduceSub, reduceIte, gv, hw]
        refine callK (R := fun w K' => w = .bool (!(nm3 L i).contains y.1) ∧ MSt H K' u (!(nm3 L i).contains y.1) (nm3 L i ++ [y.1]) ∧ K1.n ≤ K'.n ∧ K'.get K.n = K1.get K.n) (by
          obtain ⟨w, K', a, b, c, d, e⟩ := st1.fresh y.1 (x := .iface 65 (.int .i64 (i : Int))) rfl
          exact ⟨w, K', a, b, c, d, e _ (by have := AHeap.get_lt hst.b; omega) (by omega)⟩) ?_
        rintro _ K' ⟨rfl, st', n2, g2⟩
        rw [gv] at g2
        rw [hn1] at st'
        cases hc : (nm3 L i).contains y.1 with
        | true =>
          rw [hc] at st'
          simp (disch := first | assumption | omega | (simp only [LN] <;> omega) | (simp (disch := first | assumption | omega | (simp only [LN] <;> omega)) only [row_alloc, row_set]; assumption)) only [W_block, P3, ↓reduceIte, reduceAdd, reduceEqDiff, reduceCtorEq, initFr, reduceLT, clsA, reduceLeDiff, reduceMul, reduceSub, reduceIte, hw]
          refine hn _ _ _ ⟨false, i + 1, _, _, _, rfl, ?_, st', by omega, rfl⟩ (by omega)
          rw [hs, ha, hr, hc]; simp
        | false =>
          rw [hc] at st'
          simp (disch := first | assumption | omega | (simp only [LN] <;> omega) | (simp (disch := first | assumption | omega | (simp only [LN] <;> omega)) only [row_alloc, row_set]; assumption)) only [W_block, P3, ↓reduceIte, reduceAdd, reduceEqDiff, reduceCtorEq, initFr, reduceLT, clsA, reduceLeDiff, reduceMul, reduceSub, reduceIte, g2, hw]
          have hil : IL (K'.alloc (.cells true false 1 [.int .i64 y.2] 3)) (slc K'.n 0 1 1) [y.2] :=
            ⟨⟨_, _, rfl⟩, by simp [iRow], by rw [elems_new rfl rfl]; rfl⟩
          refine callK (t28 _ hil (by simp)) ?_
          rintro _ _ ⟨rfl, rfl⟩
          have st2 := st'.keeps ((Keeps.refl K').alloc (.cells true false 1 [.int .i64 y.2] 3))
          cases hb : inB L.s.length y.2 with
          | false =>
            have e : [y.2].all (inB (L.s.length : Nat)) = false := by simp [hb]
            simp (disch := first | assumption | omega | (simp only [LN] <;> omega) | (simp (disch := first | assumption | omega | (simp only [LN] <;> omega)) only [row_alloc, row_set]; assumption)) only [W_block, P3, ↓reduceIte, reduceAdd, reduceEqDiff, reduceCtorEq, initFr, reduceLT, clsA, reduceLeDiff, reduceMul, reduceSub, reduceIte, e, hw]
            refine hn _ _ _ ⟨false, i + 1, _, _, _, rfl, ?_, st2.no, by omega, rfl⟩ (by omega)
            rw [ha, hb]; simp
          | true =>
            have e : [y.2].all (inB (L.s.length : Nat)) = true := by simp [hb]
            simp (disch := first | assumption | omega | (simp only [LN] <;> omega) | (simp (disch := first | assumption | omega | (simp only [LN] <;> omega)) only [row_alloc, row_set]; assumption)) only [W_block, P3, ↓reduceIte, reduceAdd, reduceEqDiff, reduceCtorEq, initFr, reduceLT, clsA, reduceLeDiff, reduceMul, reduceSub, reduceIte, e, hw]
            refine hn _ _ _ ⟨true, i + 1, _, _, _, rfl, ?_, st2, by omega, rfl⟩ (by omega)
            rw [hs, ha, b4, ← hok, hr, hc, hb]; rfl
  · have h3 : ¬ (i : Int) < ((L.g.length : Nat) : Int) := by omega
    simp (disch := first | assumption | omega | (simp only [LN] <;> omega) | (simp (disch := first | assumption | omega | (simp only [LN] <;> omega)) only [row_alloc, row_set]; assumption)) only [W_block, P3, ↓reduceIte, reduceAdd, reduceEqDiff, reduceCtorEq, initFr, reduceLT, clsA, reduceLeDiff, reduceMul, reduceSub, reduceIte, mF, List.cons_append, List.nil_append, lp]
    refine hx 4 _ _ ?_
    have e : L.g.take i = L.g := List.take_of_length_le (by omega)
    simp only [nm3, al3, e] at hok hst
    exact hk _ _ ⟨ok, _, _, _, _, _, _, _, _, _, _, _, _, _, _, _, _, _, _, _, _, _, _, _, _, _, rfl, hok, hst⟩
end Go.AM.Fd

set_option linter.unusedSimpArgs false
set_option linter.unusedVariables false
namespace Go.AM.Fd
open Nat (reduceAdd reduceEqDiff reduceLT reduceLeDiff reduceMul reduceSub)
open Go.Proofs Go.AM.F
def M4 (A : Value) (H : AHeap) (u : V4) (L : Ly) (fr : List Value) (K : AHeap) : Prop :=
  ∃ ok x9 x10 x11 x12 x13 x14 x15 x16 x17 x18 x19 x20 x21 x22 x23 x24 x25 x26 x27 x28 x29 x30 x31 x32 x33, fr = mF A H.n L ok ++ [x9, x10, x11, x12, x13, x14, x15, x16, x17, x18, x19, x20, x21, x22, x23, x24, x25, x26, x27, x28, x29, x30, x31, x32, x33] ∧ ok = (okN (namesL L) && (L.p.all (fun x => inB L.s.length x.2) && L.g.all (fun x => inB L.s.length x.2) && L.r.all (roB L))) ∧ Keeps H K
set_option maxHeartbeats 4000000 in
theorem may4 {H : AHeap} {u : V4} {xs : List RV} {L : Ly} {Q : AQ} {A : Value} {fr : List Value} {K : AHeap} (h : LyR H u xs L) (hf : LyFit L) (hm : M3 A H u L fr K)
    (hk : ∀ fr K, M4 A H u L fr K → Q .normal fr K) : W Go.Proofs.Tryd.prog 4 (cpre 1 (cpost 8 f13.body)) Q fr K := by
  obtain ⟨ok, x9, x10, x11, x12, x13, x14, x15, x16, x17, x18, x19, x20, x21, x22, x23, x24, x25, x26, x27, x28, x29, x30, x31, x32, x33, rfl, hok, hst⟩ := hm
  have lp := h.r.len
  have el := h.rlen
  rw [el] at lp
  have ip := Sl.is h.r
  have gl := hst.l
  simp only [V4.l] at gl
  simp (disch := first | assumption | omega | (simp only [LN] <;> omega) | (simp (disch := first | assumption | omega | (simp only [LN] <;> omega)) only [row_alloc, row_set]; assumption)) only [ f13, cpre, cpost, mF, List.cons_append, List.nil_append, P3, ↓reduceIte, reduceAdd, reduceEqDiff, reduceCtorEq, initFr, reduceLT, clsA, reduceLeDiff, reduceMul, reduceSub, reduceIte, gl, lp]
  rw [W_block]
  refine W_loop2 (fun k fr K => ∃ ok i x15 x16 xc, fr = mF A H.n L ok ++ [x9, x10, x11, x12, x13, x14, x15, x16, x17, x18, x19, x20, x21, x22, x23, x24, x25, x26, x27, x28, x29, u.r, .int .i64 ((L.r.length : Nat) : Int), .int .i64 ((i : Nat) : Int), xc] ∧
      ok = (okN (nm4 L i) && al4 L i) ∧ MSt H K u ok (nm4 L i) ∧ i ≤ L.r.length ∧ k = L.r.length - i) L.r.length
    ⟨ok, 0, _, _, _, rfl, by simp [nm4, al4, hok], by simpa [nm4] using hst, by omega, rfl⟩ ?_
  clear hst hok gl
  rintro Q' k fr K ⟨ok, i, x15, x16, xc, rfl, hok, hst, hi, rfl⟩ hn hx hret
  by_cases hlt : i < L.r.length
  · have hlt' : i < xs.length := by omega
    obtain ⟨na, ra⟩ := RL.at_ (h.r.keeps hst.k) hlt'
    obtain ⟨xok, xr⟩ := h.rat hlt
    have hbl := Sl.bn_le (h.r.keeps hst.k) (by intro e; simp at e; rw [e] at hlt'; simp at hlt') (by omega)
    have h1 : (0 : Int) ≤ (i : Int) := by omega
    have h2 : (i : Int) < ((lenS u.r : Nat) : Int) := by omega
    have h3 : (i : Int) < ((L.r.length : Nat) : Int) := by omega
    have hw : IntKind.i64.wrap ((i : Int) + 1) = ((i + 1 : Nat) : Int) := by rw [wrap_i64 (by omega) (by have := hf.r.1; omega)]; simp
    have hlen := hf.r.2 _ (getD_mem (d := rv0.r) hlt)
    have ts := take_snoc rv0.r hlt
    rw [← xr] at ts hlen
    have hs : okN (nm4 L (i + 1)) = (okN (nm4 L i) && (rightB (xs.getD i rv0).r.n && !(nm4 L i).contains (xs.getD i rv0).r.n)) := by
      rw [← okN_snoc]; simp only [nm4, ts, List.map_append, List.map_cons, List.map_nil, List.append_assoc]
    have hn1 : nm4 L i ++ [(xs.getD i rv0).r.n] = nm4 L (i + 1) := by simp only [nm4, ts, List.map_append, List.map_cons, List.map_nil, List.append_assoc]
    have ha : al4 L (i + 1) = (al4 L i && roB L (xs.getD i rv0).r) := by
      simp only [al4, ts, List.all_append, List.all_cons, List.all_nil, Bool.and_true, Bool.and_assoc]
    clear ts xr
    generalize xs.getD i rv0 = y at *
    have hk1 := hst.k.n
    simp only [RV.row] at ra
    have iP := Sl.is xok.p
    have iQ := Sl.is xok.q
    have iO := Sl.is xok.o
    have iF := Sl.is xok.f
    have lP := xok.p.len
    have lO := xok.o.len
    have o1 : one1 (Value.int .i64 y.r.g) = True := by simp [one1, one_int]
    have o2 : one1 (Value.string ⟨y.r.n.toArray⟩) = True := by simp [one1, one_str]
    have o3 := one_isS iP
    have o4 := one_isS iQ
    have o5 := one_isS iO
    have o6 := one_isS iF
    obtain ⟨row, hrow⟩ : ∃ row, row = [.string ⟨y.r.n.toArray⟩, .int .i64 y.r.g, y.vp, y.vq, y.vo, y.vf] := ⟨_, rfl⟩
    have st1 := hst.keeps ((Keeps.refl K).alloc (.cells true false 6 row 43))
    have gv := AHeap.get_alloc_new K (.cells true false 6 row 43)
    subst hrow
    have fin : ∀ {X : AHeap} {x15 x16 xc : Value}, MSt H X u false (nm4 L (i + 1)) → (okN (nm4 L (i + 1)) && al4 L (i + 1)) = false → Q' .normal (mF A H.n L false ++ [x9, x10, x11, x12, x13, x14, x15, x16, x17, x18, x19, x20, x21, x22, x23, x24, x25, x26, x27, x28, x29, u.r, .int .i64 ((L.r.length : Nat) : Int), .int .i64 ((i + 1 : Nat) : Int), xc]) X :=
      fun hX he => hn _ _ _ ⟨false, i + 1, _, _, _, rfl, he.symm, hX, by omega, rfl⟩ (by omega)
    simp only [mF, List.cons_append, List.nil_append] at fin
    cases ok with
    | false =>
      simp (disch := first | assumption | omega | (simp only [LN] <;> omega) | (simp (disch := first | assumption | omega | (simp only [LN] <;> omega)) only [row_alloc, row_set]; assumption)) only [W_block, P3, ↓reduceIte, reduceAdd, reduceEqDiff, reduceCtorEq, initFr, reduceLT, clsA, reduceLeDiff, reduceMul, reduceSub, reduceIte, mF, List.cons_append, List.nil_append, lp, ra, na, a_loadnvf, hw, o1, o2, o3, o4, o5, o6]
      refine fin st1.no ?_
      rw [hs, ha, b4, ← hok]; rfl
    | true =>
      simp (disch := first | assumption | omega | (simp only [LN] <;> omega) | (simp (disch := first | assumption | omega | (simp only [LN] <;> omega)) only [row_alloc, row_set]; assumption)) only [W_block, P3, ↓reduceIte, reduceAdd, reduceEqDiff, reduceCtorEq, initFr, reduceLT, clsA, reduceLeDiff, reduceMul, reduceSub, reduceIte, mF, List.cons_append, List.nil_append, lp, ra, na, a_loadnvf, hw, o1, o2, o3, o4, o5, o6]
      obtain ⟨K1, hK1⟩ : ∃ X, X = K.alloc (.cells true false 6 [.string ⟨y.r.n.toArray⟩, .int .i64 y.r.g, y.vp, y.vq, y.vo, y.vf] 43) := ⟨_, rfl⟩
      have n1 : K1.n = K.n + 1 := by rw [hK1]; rfl
      rw [← hK1] at st1 gv ⊢
      refine callK (t26 _ _ hlen.1) ?_
      rintro _ X ⟨rfl, hX⟩
      rw [hX]
      cases hr : rightB y.r.n with
      | false =>
        simp (disch := first | assumption | omega | (simp only [LN] <;> omega) | (simp (disch := first | assumption | omega | (simp only [LN] <;> omega)) only [row_alloc, row_set]; assumption)) only [W_block, P3, ↓reduceIte, reduceAdd, reduceEqDiff, reduceCtorEq, initFr, reduceLT, clsA, reduceLeDiff, reduceMul, reduceSub, reduceIte, hw]
        refine fin st1.no ?_
        rw [hs, ha, hr]; simp
      | true =>
      simp (disch := first | assumption | omega | (simp only [LN] <;> omega) | (simp (disch := first | assumption | omega | (simp only [LN] <;> omega)) only [row_alloc, row_set]; assumption)) only [W_block, P3, ↓reduceIte, reduceAdd, reduceEqDiff, reduceCtorEq, initFr, reduceLT, clsA, reduceLeDiff, reduceMul, reduceSub, reduceIte, gv, hw]
      refine callK (R := fun w K' => w = .bool (!(nm4 L i).contains y.r.n) ∧ MSt H K' u (!(nm4 L i).contains y.r.n) (nm4 L i ++ [y.r.n]) ∧ K1.n ≤ K'.n ∧ K'.get K.n = K1.get K.n) (by
        obtain ⟨w, K', a, b, c, d, e⟩ := st1.fresh y.r.n (x := .iface 66 (.int .i64 (i : Int))) rfl
        exact ⟨w, K', a, b, c, d, e _ (by have := AHeap.get_lt hst.b; omega) (by omega)⟩) ?_
      rintro _ K' ⟨rfl, st', n2, g2⟩
      rw [gv] at g2
      rw [hn1] at st'
      cases hc : (nm4 L i).contains y.r.n with
      | true =>
        rw [hc] at st'
        simp (disch := first | assumption | omega | (simp only [LN] <;> omega) | (simp (disch := first | assumption | omega | (simp only [LN] <;> omega)) only [row_alloc, row_set]; assumption)) only [W_block, P3, ↓reduceIte, reduceAdd, reduceEqDiff, reduceCtorEq, initFr, reduceLT, clsA, reduceLeDiff, reduceMul, reduceSub, reduceIte, hw]
        refine fin st' ?_
        rw [hs, ha, hr, hc]; simp
      | false =>
      rw [hc] at st'
      simp (disch := first | assumption | omega | (simp only [LN] <;> omega) | (simp (disch := first | assumption | omega | (simp only [LN] <;> omega)) only [row_alloc, row_set]; assumption)) only [W_block, P3, ↓reduceIte, reduceAdd, reduceEqDiff, reduceCtorEq, initFr, reduceLT, clsA, reduceLeDiff, reduceMul, reduceSub, reduceIte, g2, hw]
      have hil : IL (K'.alloc (.cells true false 1 [.int .i64 y.r.g] 3)) (slc K'.n 0 1 1) [y.r.g] :=
        ⟨⟨_, _, rfl⟩, by simp [iRow], by rw [elems_new rfl rfl]; rfl⟩
      refine callK (t28 _ hil (by simp)) ?_
      have st2 := st'.keeps ((Keeps.refl K').alloc (.cells true false 1 [.int .i64 y.r.g] 3))
      have g3 := ((Keeps.refl K').alloc (.cells true false 1 [.int .i64 y.r.g] 3)).at_ g2
      obtain ⟨K2, hK2⟩ : ∃ X, X = K'.alloc (.cells true false 1 [.int .i64 y.r.g] 3) := ⟨_, rfl⟩
      rw [← hK2] at st2 g3 ⊢
      rintro _ X ⟨rfl, hX⟩
      rw [hX]
      have xk := xok.keeps st2.k
      cases hb : inB L.g.length y.r.g with
      | false =>
        have e : [y.r.g].all (inB (L.g.length : Nat)) = false := by simp [hb]
        simp (disch := first | assumption | omega | (simp only [LN] <;> omega) | (simp (disch := first | assumption | omega | (simp only [LN] <;> omega)) only [row_alloc, row_set]; assumption)) only [W_block, P3, ↓reduceIte, reduceAdd, reduceEqDiff, reduceCtorEq, initFr, reduceLT, clsA, reduceLeDiff, reduceMul, reduceSub, reduceIte, e, hw]
        refine fin st2.no ?_
        rw [ha]; simp [roB, hb]
      | true =>
      have e : [y.r.g].all (inB (L.g.length : Nat)) = true := by simp [hb]
      by_cases hp : y.r.path.length ≤ 16
      rotate_left
      · have hp' : ¬ ((y.r.path.length : Nat) : Int) ≤ (16 : Int) := by omega
        simp (disch := first | assumption | omega | (simp only [LN] <;> omega) | (simp (disch := first | assumption | omega | (simp only [LN] <;> omega)) only [row_alloc, row_set]; assumption)) only [W_block, P3, ↓reduceIte, reduceAdd, reduceEqDiff, reduceCtorEq, initFr, reduceLT, clsA, reduceLeDiff, reduceMul, reduceSub, reduceIte, e, g3, lP, hw]
        refine fin st2.no ?_
        rw [ha]; simp [roB, hp]
      have hp' : ((y.r.path.length : Nat) : Int) ≤ (16 : Int) := by omega
      by_cases ho : y.r.ov.length ≤ 16
      rotate_left
      · have ho' : ¬ ((y.r.ov.length : Nat) : Int) ≤ (16 : Int) := by omega
        simp (disch := first | assumption | omega | (simp only [LN] <;> omega) | (simp (disch := first | assumption | omega | (simp only [LN] <;> omega)) only [row_alloc, row_set]; assumption)) only [W_block, P3, ↓reduceIte, reduceAdd, reduceEqDiff, reduceCtorEq, initFr, reduceLT, clsA, reduceLeDiff, reduceMul, reduceSub, reduceIte, e, g3, lP, lO, hw]
        refine fin st2.no ?_
        rw [ha]; simp [roB, ho]
      have ho' : ((y.r.ov.length : Nat) : Int) ≤ (16 : Int) := by omega
      simp (disch := first | assumption | omega | (simp only [LN] <;> omega) | (simp (disch := first | assumption | omega | (simp only [LN] <;> omega)) only [row_alloc, row_set]; assumption)) only [W_block, P3, ↓reduceIte, reduceAdd, reduceEqDiff, reduceCtorEq, initFr, reduceLT, clsA, reduceLeDiff, reduceMul, reduceSub, reduceIte, e, g3, lP, lO, hw]
      refine callK (t28 _ xk.p (by omega)) ?_
      rintro _ X ⟨rfl, hX⟩
      rw [hX]
      cases hbp : y.r.path.all (inB (L.s.length : Nat)) with
      | false =>
        simp (disch := first | assumption | omega | (simp only [LN] <;> omega) | (simp (disch := first | assumption | omega | (simp only [LN] <;> omega)) only [row_alloc, row_set]; assumption)) only [W_block, P3, ↓reduceIte, reduceAdd, reduceEqDiff, reduceCtorEq, initFr, reduceLT, clsA, reduceLeDiff, reduceMul, reduceSub, reduceIte, hw]
        refine fin st2.no ?_
        rw [ha]; simp only [roB, hbp]; simp
      | true =>
      simp (disch := first | assumption | omega | (simp only [LN] <;> omega) | (simp (disch := first | assumption | omega | (simp only [LN] <;> omega)) only [row_alloc, row_set]; assumption)) only [W_block, P3, ↓reduceIte, reduceAdd, reduceEqDiff, reduceCtorEq, initFr, reduceLT, clsA, reduceLeDiff, reduceMul, reduceSub, reduceIte, g3, hw]
      refine callK (t28 _ xk.o (by omega)) ?_
      rintro _ X ⟨rfl, hX⟩
      rw [hX]
      cases hbo : y.r.ov.all (inB (L.s.length : Nat)) with
      | false =>
        simp (disch := first | assumption | omega | (simp only [LN] <;> omega) | (simp (disch := first | assumption | omega | (simp only [LN] <;> omega)) only [row_alloc, row_set]; assumption)) only [W_block, P3, ↓reduceIte, reduceAdd, reduceEqDiff, reduceCtorEq, initFr, reduceLT, clsA, reduceLeDiff, reduceMul, reduceSub, reduceIte, hw]
        refine fin st2.no ?_
        rw [ha]; simp only [roB, hbo]; simp
      | true =>
      simp (disch := first | assumption | omega | (simp only [LN] <;> omega) | (simp (disch := first | assumption | omega | (simp only [LN] <;> omega)) only [row_alloc, row_set]; assumption)) only [W_block, P3, ↓reduceIte, reduceAdd, reduceEqDiff, reduceCtorEq, initFr, reduceLT, clsA, reduceLeDiff, reduceMul, reduceSub, reduceIte, g3, hw]
      refine callK (t29 _ xk.q hlen.2.2.1) ?_
      rintro _ X ⟨rfl, hX⟩
      rw [hX]
      cases hbq : (decide (y.r.pts.length ≤ 16) && y.r.pts.all fun x => inB (L.p.length : Nat) x.1) with
      | false =>
        simp (disch := first | assumption | omega | (simp only [LN] <;> omega) | (simp (disch := first | assumption | omega | (simp only [LN] <;> omega)) only [row_alloc, row_set]; assumption)) only [W_block, P3, ↓reduceIte, reduceAdd, reduceEqDiff, reduceCtorEq, initFr, reduceLT, clsA, reduceLeDiff, reduceMul, reduceSub, reduceIte, hw]
        refine fin st2.no ?_
        rw [ha]; simp only [roB, needB, hbq]; simp
      | true =>
      simp (disch := first | assumption | omega | (simp only [LN] <;> omega) | (simp (disch := first | assumption | omega | (simp only [LN] <;> omega)) only [row_alloc, row_set]; assumption)) only [W_block, P3, ↓reduceIte, reduceAdd, reduceEqDiff, reduceCtorEq, initFr, reduceLT, clsA, reduceLeDiff, reduceMul, reduceSub, reduceIte, g3, hw]
      refine callK (t29 _ xk.f hlen.2.2.2.2) ?_
      rintro _ X ⟨rfl, hX⟩
      rw [hX]
      cases hbf : (decide (y.r.fl.length ≤ 16) && y.r.fl.all fun x => inB (L.p.length : Nat) x.1) with
      | false =>
        simp (disch := first | assumption | omega | (simp only [LN] <;> omega) | (simp (disch := first | assumption | omega | (simp only [LN] <;> omega)) only [row_alloc, row_set]; assumption)) only [W_block, P3, ↓reduceIte, reduceAdd, reduceEqDiff, reduceCtorEq, initFr, reduceLT, clsA, reduceLeDiff, reduceMul, reduceSub, reduceIte, hw]
        refine fin st2.no ?_
        rw [ha]; simp only [roB, needB, hbf]; simp
      | true =>
        simp (disch := first | assumption | omega | (simp only [LN] <;> omega) | (simp (disch := first | assumption | omega | (simp only [LN] <;> omega)) only [row_alloc, row_set]; assumption)) only [W_block, P3, ↓reduceIte, reduceAdd, reduceEqDiff, reduceCtorEq, initFr, reduceLT, clsA, reduceLeDiff, reduceMul, reduceSub, reduceIte, hw]
        refine hn _ _ _ ⟨true, i + 1, _, _, _, rfl, ?_, st2, by omega, rfl⟩ (by omega)
        have er : roB L y.r = true := by simp only [roB, needB, hb, hp, ho, hbp, hbo, hbq, hbf]; rfl
        rw [hs, ha, b4, ← hok, hr, hc, er]; rfl
  · have h3 : ¬ (i : Int) < ((L.r.length : Nat) : Int) := by omega
    simp (disch := first | assumption | omega | (simp only [LN] <;> omega) | (simp (disch := first | assumption | omega | (simp only [LN] <;> omega)) only [row_alloc, row_set]; assumption)) only [W_block, P3, ↓reduceIte, reduceAdd, reduceEqDiff, reduceCtorEq, initFr, reduceLT, clsA, reduceLeDiff, reduceMul, reduceSub, reduceIte, mF, List.cons_append, List.nil_append, lp]
    refine hx 6 _ _ ?_
    have e : L.r.take i = L.r := List.take_of_length_le (by omega)
    simp only [nm4, al4, e] at hok hst
    exact hk _ _ ⟨ok, _, _, _, _, _, _, _, _, _, _, _, _, _, _, _, _, _, _, _, _, _, _, _, _, _, rfl, hok, hst.k⟩
set_option maxHeartbeats 1000000 in
theorem t13 {H : AHeap} {u : V4} {xs : List RV} {L : Ly} (h : LyR H u xs L) (hf : LyFit L) : ∃ w H', ARun Go.Proofs.Tryd.prog 4 13 [.agg u.l.toArray] H w H' ∧ w = .bool (mayB L) ∧ H' = H := by
  suffices h' : ∃ w H', ARun Go.Proofs.Tryd.prog 4 13 [.agg u.l.toArray] H w H' ∧ w = .bool (mayB L) ∧ Keeps H H' by
    obtain ⟨_, _, a, rfl, k⟩ := h'
    exact ⟨_, _, a.gc0 k (.inr (.bool _)), rfl, rfl⟩
  refine walk2 f13_ok f13_n ?_
  intro Q hq1 hq2
  cases hfu : fullB L with
  | true =>
    have ls := h.s.len
    have lp := h.p.len
    have lg := h.g.len
    have lr := h.r.len
    have er := h.rlen
    have is := Sl.is h.s
    have ip := Sl.is h.p
    have ig := Sl.is h.g
    have ir := Sl.is h.r
    have os := Sl.one h.s
    have op := Sl.one h.p
    have og := Sl.one h.g
    have or := Sl.one h.r
    have hm : mayB L = false := by simp [mayB, hfu]
    rw [hm] at hq2
    simp only [fullB, Bool.or_eq_true, decide_eq_true_eq] at hfu
    obtain ⟨us, up, ug, ur⟩ := u
    simp only [V4.l] at *
    have k1 := (Keeps.refl H).alloc (.cells true false 4 [us, up, ug, ur] 28)
    by_cases c1 : (64 : Int) < ((L.s.length : Nat) : Int)
    · simp (disch := first | assumption | omega | (simp only [LN] <;> omega) | (simp (disch := first | assumption | omega | (simp only [LN] <;> omega)) only [row_alloc, row_set]; assumption)) only [f13, W_block, P3, ↓reduceIte, reduceAdd, reduceEqDiff, reduceCtorEq, initFr, reduceLT, clsA, reduceLeDiff, reduceMul, reduceSub, reduceIte, ls, lp, lg, lr, er, os, op, og, or]
      exact hq2 _ _ ⟨_, rfl, rfl, k1⟩
    by_cases c2 : (32 : Int) < ((L.p.length : Nat) : Int)
    · simp (disch := first | assumption | omega | (simp only [LN] <;> omega) | (simp (disch := first | assumption | omega | (simp only [LN] <;> omega)) only [row_alloc, row_set]; assumption)) only [f13, W_block, P3, ↓reduceIte, reduceAdd, reduceEqDiff, reduceCtorEq, initFr, reduceLT, clsA, reduceLeDiff, reduceMul, reduceSub, reduceIte, ls, lp, lg, lr, er, os, op, og, or]
      exact hq2 _ _ ⟨_, rfl, rfl, k1⟩
    by_cases c3 : (32 : Int) < ((L.g.length : Nat) : Int)
    · simp (disch := first | assumption | omega | (simp only [LN] <;> omega) | (simp (disch := first | assumption | omega | (simp only [LN] <;> omega)) only [row_alloc, row_set]; assumption)) only [f13, W_block, P3, ↓reduceIte, reduceAdd, reduceEqDiff, reduceCtorEq, initFr, reduceLT, clsA, reduceLeDiff, reduceMul, reduceSub, reduceIte, ls, lp, lg, lr, er, os, op, og, or]
      exact hq2 _ _ ⟨_, rfl, rfl, k1⟩
    have c4 : (64 : Int) < ((L.r.length : Nat) : Int) := by omega
    simp (disch := first | assumption | omega | (simp only [LN] <;> omega) | (simp (disch := first | assumption | omega | (simp only [LN] <;> omega)) only [row_alloc, row_set]; assumption)) only [f13, W_block, P3, ↓reduceIte, reduceAdd, reduceEqDiff, reduceCtorEq, initFr, reduceLT, clsA, reduceLeDiff, reduceMul, reduceSub, reduceIte, ls, lp, lg, lr, er, os, op, og, or]
    exact hq2 _ _ ⟨_, rfl, rfl, k1⟩
  | false =>
    refine W_part 6 (M1 (.agg u.l.toArray) H u L) (by kernel_rfl) (fun Q' a _ _ => may1 h hf hfu a) (fun fr K m => ?_)
    refine W_part 1 (M2 (.agg u.l.toArray) H u L) (by kernel_rfl) (fun Q' a _ _ => may2 h hf m a) (fun fr K m => ?_)
    refine W_part 1 (M3 (.agg u.l.toArray) H u L) (by kernel_rfl) (fun Q' a _ _ => may3 h hf m a) (fun fr K m => ?_)
    refine W_part 1 (M4 (.agg u.l.toArray) H u L) (by kernel_rfl) (fun Q' a _ _ => may4 h hf m a) (fun fr K m => ?_)
    obtain ⟨ok, x9, x10, x11, x12, x13, x14, x15, x16, x17, x18, x19, x20, x21, x22, x23, x24, x25, x26, x27, x28, x29, x30, x31, x32, x33, rfl, hok, hst⟩ := m
    simp (disch := first | assumption | omega | (simp only [LN] <;> omega) | (simp (disch := first | assumption | omega | (simp only [LN] <;> omega)) only [row_alloc, row_set]; assumption)) only [f13, cpost, mF, List.cons_append, List.nil_append, W_block, P3, ↓reduceIte, reduceAdd, reduceEqDiff, reduceCtorEq, initFr, reduceLT, clsA, reduceLeDiff, reduceMul, reduceSub, reduceIte]
    refine hq2 _ _ ⟨_, rfl, ?_, hst⟩
    rw [mayB, hfu, ← hok]; rfl
end Go.AM.Fd

set_option linter.unusedSimpArgs false
set_option linter.unusedVariables false
namespace Go.AM
structure OW (e esz : Nat) (H K : AHeap) (v : Value) (rows : List (List Value)) : Prop where
  ap : AP K e esz v rows.length rows.flatten
  r : ∀ r ∈ rows, r.length = esz
  k : Keeps H K
  f : Fresh H.n v
section
variable {e esz : Nat} {H K K' : AHeap} {v v' : Value} {rows rows2 : List (List Value)}
theorem OW.sl (h : OW e esz H K v rows) : Sl K esz v rows := h.ap.sl h.r rfl
theorem OW.keeps (h : OW e esz H K v rows) (k : Keeps K K') : OW e esz H K' v rows := ⟨h.ap.keeps k, h.r, h.k.trans k, h.f⟩
theorem OW.base {H0 : AHeap} (h : OW e esz H K v rows) (k : Keeps H0 H) : OW e esz H0 K v rows := ⟨h.ap, h.r, k.trans h.k, fun b hb => Nat.le_trans k.n (h.f b hb)⟩
theorem OW.nil (e esz : Nat) (k : Keeps H K) : OW e esz H K (.slice none 0 0) [] := ⟨.inl ⟨rfl, rfl, rfl⟩, by simp, k, fun b hb => by cases hb⟩
theorem OW.is (h : OW e esz H K v rows) : isS v = true := by obtain ⟨a, rfl⟩ := h.ap.shape; rfl
theorem OW.one (h : OW e esz H K v rows) : v.oneCell' = true := by obtain ⟨a, rfl⟩ := h.ap.shape; rfl
theorem OW.len (h : OW e esz H K v rows) : lenS v = rows.length := by obtain ⟨a, rfl⟩ := h.ap.shape; rfl
theorem OW.grow (h : OW e esz H K v rows) (a : AP K' e esz v' (rows.length + rows2.length) (rows.flatten ++ rows2.flatten)) (hr : ∀ r ∈ rows2, r.length = esz) (c : Chg (blkL v) K K') (hb : blk v' = blk v ∨ blk v' = some K.n) : OW e esz H K' v' (rows ++ rows2) := by
  refine ⟨by rw [List.length_append, List.flatten_append]; exact a, fun r hm => ?_, h.k.chg_trans c (fun x hx => h.f x (mem_blkL.1 hx)), fun b hb' => ?_⟩
  · rcases List.mem_append.1 hm with hm | hm
    · exact h.r r hm
    · exact hr r hm
  · rcases hb with e1 | e1
    · exact h.f b (by rw [← e1]; exact hb')
    · rw [e1] at hb'; cases hb'; exact h.k.n
theorem Sl.one1 {row : List Value} {b : Nat} {own room : Bool} (hb : b = K.n) (hl : row.length = esz) : Sl (K.alloc (.cells own room esz row e)) esz (slc b 0 1 1) [row] :=
  ⟨⟨_, _, rfl⟩, by simp [hl], by rw [elems_new hb (by simpa using hl)]; simp⟩
theorem OW.pre {i : Nat} {kd : IntKind} (h : OW e esz H K v rows) (hi : i ≤ rows.length) : ∃ w, asem (.slsl esz v none (some (.int kd (i : Nat))) none) K = some (w, K) ∧ Sl K esz w (rows.take i) := by
  have hr : ∀ r ∈ rows.take i, r.length = esz := fun r hm => h.r r (List.mem_of_mem_take hm)
  rcases h.ap with ⟨rfl, h1, h2⟩ | ⟨b, room, rfl, h1, h2⟩
  · have : rows = [] := List.eq_nil_of_length_eq_zero h1
    subst this
    have : i = 0 := by simpa using hi
    subst this
    exact ⟨_, a_slsl_nil ⟨0, 0, 0, bnd_none 0 0, bnd_some kd 0 0 0 (Nat.le_refl _), bnd_none 0 0⟩, Sl.nil _ _⟩
  · refine ⟨_, a_slsl h2 (bnd_none _ _) (bnd_some kd i rows.length rows.length hi) (bnd_none 0 i), ⟨⟨_, _, by rw [List.length_take, Nat.min_eq_left hi, Nat.sub_zero]; rfl⟩, hr, ?_⟩⟩
    have hf : rows.flatten.length = rows.length * esz := flat_len h.r
    have hle : i * esz ≤ rows.length * esz := Nat.mul_le_mul_right _ hi
    simp only [elemsA, slc, h2, Nat.zero_mul, Nat.add_zero, Nat.zero_add, Nat.sub_zero]
    rw [if_pos (by omega), List.drop_zero]
    congr 1
    have e : rows.flatten = (rows.take i).flatten ++ (rows.drop i).flatten := by rw [← List.flatten_append, List.take_append_drop]
    have hl : (rows.take i).flatten.length = i * esz := by rw [flat_len hr, List.length_take, Nat.min_eq_left hi]
    rw [e, ← hl, List.take_left]
end
section
variable {P : Program} {ng : Nat} {KF : List Value → AHeap → Prop} {fr tm : List Value} {tr : List TE} {e esz b : Nat} {H K : AHeap} {s x : Value} {rows rows2 : List (List Value)}
theorem OW.appR {d : D} {r : List AOper} (h : OW e esz H K s rows) (hx : Sl K esz x rows2) (hs : (rows.length + rows2.length) * b ≤ 140737488355328 ∧ rows.length + rows2.length ≤ 140737488355328)
    (hk : ∀ v' K', OW e esz H K' v' (rows ++ rows2) → Chg (blkL s) K K' → RW P ng r (d.frame v' fr) (d.temps v' tm) K' KF) : goR P ng (asem (.app e esz b s x) K) d r fr tm KF :=
  appG h.ap hx.sh hx.el (flat_len hx.row) hs (fun v' K' a c hb => hk v' K' (h.grow a hx.row c hb) c)
end
end Go.AM

set_option linter.unusedSimpArgs false
set_option linter.unusedVariables false
namespace Go.AM.Fd
open Nat (reduceAdd reduceEqDiff reduceLT reduceLeDiff reduceMul reduceSub)
open Go.Proofs Go.AM.F
def ixT (n : List UInt8) : List (List UInt8) → Option Nat
  | [] => none
  | x :: l => if x = n then some 0 else (ixT n l).map (· + 1)
theorem ixT_mem {n : List UInt8} : ∀ {l : List (List UInt8)}, (ixT n l).isSome = l.contains n
  | [] => rfl
  | x :: l => by
    simp only [ixT, List.contains_cons]
    by_cases h : x = n
    · simp [h]
    · have : ¬ n = x := fun e => h e.symm
      simp [h, this, ixT_mem (l := l)]
end Go.AM.Fd

set_option linter.unusedSimpArgs false
set_option linter.unusedVariables false
namespace Go.AM.Fd
open Nat (reduceAdd reduceEqDiff reduceLT reduceLeDiff reduceMul reduceSub)
open Go.Proofs Go.AM.F
theorem fill1s (x : ByteArray) : fillA [.string ByteArray.empty] [(0, 1, .string x)] = some [.string x] := rfl
def vB (H : AHeap) (u : V4) : AHeap := H.alloc (.cells true false 4 u.l 28)
theorem vB_k (H : AHeap) (u : V4) : Keeps H (vB H u) := (Keeps.refl H).alloc _
theorem vB_g (H : AHeap) (u : V4) : (vB H u).get H.n = some (.cells true false 4 u.l 28) := AHeap.get_alloc_new H _
end Go.AM.Fd

set_option linter.unusedSimpArgs false
set_option linter.unusedVariables false
namespace Go.AM.Fd
open Nat (reduceAdd reduceEqDiff reduceLT reduceLeDiff reduceMul reduceSub)
open Go.Proofs Go.AM.F
structure LyIn (T : Nat) (L : Ly) : Prop where
  s : L.s.length ≤ T ∧ ∀ x ∈ L.s, x.length ≤ T
  p : L.p.length ≤ T ∧ ∀ x ∈ L.p, x.1.length ≤ T
  g : L.g.length ≤ T ∧ ∀ x ∈ L.g, x.1.length ≤ T
  r : L.r.length ≤ T ∧ ∀ x ∈ L.r, x.n.length ≤ T ∧ x.path.length ≤ T ∧ x.pts.length ≤ T ∧ x.ov.length ≤ T ∧ x.fl.length ≤ T
theorem LyIn.fit {T : Nat} {L : Ly} (h : LyIn T L) (ht : T ≤ 1000000000) : LyFit L :=
  ⟨⟨by have := h.s.1; omega, fun x hx => by have := h.s.2 x hx; omega⟩, ⟨by have := h.p.1; omega, fun x hx => by have := h.p.2 x hx; omega⟩, ⟨by have := h.g.1; omega, fun x hx => by have := h.g.2 x hx; omega⟩,
   ⟨by have := h.r.1; omega, fun x hx => by have := h.r.2 x hx; omega⟩⟩
def WG (A : Value) (H : AHeap) (u : V4) (top : Nat) (fr : List Value) (K : AHeap) : Prop :=
  ∃ (n : Int) (x5 x6 x7 x8 x9 x10 x11 x12 x13 x14 : Value), fr = [A, .int .i64 ((top : Nat) : Int), ptr H.n 0, .int .i64 0, .int .i64 n, x5, x6, x7, x8, x9, x10, x11, x12, x13, x14] ∧ Keeps (vB H u) K
set_option maxHeartbeats 1000000 in
theorem wgt1 {H : AHeap} {u : V4} {xs : List RV} {L : Ly} {Q : AQ} {A : Value} {fr : List Value} {K : AHeap} {top : Nat} (ht : top ≤ 1000000) (h : LyR H u xs L) (hf : LyIn 9223372036854775807 L) (hm : WG A H u top fr K)
    (hk : ∀ fr K, WG A H u top fr K → Q .normal fr K) : W Go.Proofs.Tryd.prog 4 (cpre 1 (cpost 2 f12.body)) Q fr K := by
  obtain ⟨n0, x5, x6, x7, x8, x9, x10, x11, x12, x13, x14, rfl, hkK⟩ := hm
  have lp := h.s.len
  have ip := Sl.is h.s
  simp (disch := first | assumption | omega | (simp only [LN] <;> omega) | (simp (disch := first | assumption | omega | (simp only [LN] <;> omega)) only [row_alloc, row_set]; assumption)) only [ f12, cpre, cpost, P3, ↓reduceIte, reduceAdd, reduceEqDiff, reduceCtorEq, initFr, reduceLT, clsA, reduceLeDiff, reduceMul, reduceSub, reduceIte]
  rw [W_block]
  refine W_loop2 (fun k fr K => ∃ i n xc, fr = [A, .int .i64 ((top : Nat) : Int), ptr H.n 0, .int .i64 0, .int .i64 n, .int .i64 ((i : Nat) : Int), x6, x7, x8, x9, xc, x11, x12, x13, x14] ∧ Keeps (vB H u) K ∧ i ≤ L.s.length ∧ k = L.s.length - i) L.s.length
    ⟨0, n0, _, rfl, hkK, by omega, rfl⟩ ?_
  clear hkK
  rintro Q' k fr K ⟨i, n, xc, rfl, hkK, hi, rfl⟩ hn hx hret
  have gl := hkK.at_ (vB_g H u)
  simp only [V4.l] at gl
  by_cases hlt : i < L.s.length
  · have h3 : (i : Int) < ((L.s.length : Nat) : Int) := by omega
    by_cases htn : n ≤ ((top : Nat) : Int)
    · obtain ⟨na, ra⟩ := (h.s.keeps ((vB_k H u).trans hkK)).at_ hlt
      have h1 : (0 : Int) ≤ (i : Int) := by omega
      have h2 : (i : Int) < ((lenS u.s : Nat) : Int) := by omega
      have h4 := htn
      have hlf := hf.s.1
      have hw : IntKind.i64.wrap ((i : Int) + 1) = ((i + 1 : Nat) : Int) := by rw [wrap_i64 (by omega) (by omega)]; simp
      unfold tRow at ra
      simp (disch := first | assumption | omega | (simp only [LN] <;> omega) | (simp (disch := first | assumption | omega | (simp only [LN] <;> omega)) only [row_alloc, row_set]; assumption)) only [W_block, P3, ↓reduceIte, reduceAdd, reduceEqDiff, reduceCtorEq, initFr, reduceLT, clsA, reduceLeDiff, reduceMul, reduceSub, reduceIte, gl, lp, ra, na, a_load1v, a_lens, hw]
      refine hn _ _ _ ⟨i + 1, _, _, rfl, hkK, by omega, rfl⟩ (by omega)
    · have h4 := htn
      simp (disch := first | assumption | omega | (simp only [LN] <;> omega) | (simp (disch := first | assumption | omega | (simp only [LN] <;> omega)) only [row_alloc, row_set]; assumption)) only [W_block, P3, ↓reduceIte, reduceAdd, reduceEqDiff, reduceCtorEq, initFr, reduceLT, clsA, reduceLeDiff, reduceMul, reduceSub, reduceIte, gl, lp]
      refine hx 0 _ _ ?_
      exact hk _ _ ⟨n, _, _, _, _, _, _, _, _, _, _, rfl, hkK⟩
  · have h3 : ¬ (i : Int) < ((L.s.length : Nat) : Int) := by omega
    simp (disch := first | assumption | omega | (simp only [LN] <;> omega) | (simp (disch := first | assumption | omega | (simp only [LN] <;> omega)) only [row_alloc, row_set]; assumption)) only [W_block, P3, ↓reduceIte, reduceAdd, reduceEqDiff, reduceCtorEq, initFr, reduceLT, clsA, reduceLeDiff, reduceMul, reduceSub, reduceIte, gl, lp]
    refine hx 0 _ _ ?_
    exact hk _ _ ⟨n, _, _, _, _, _, _, _, _, _, _, rfl, hkK⟩
set_option maxHeartbeats 1000000 in
theorem wgt2 {H : AHeap} {u : V4} {xs : List RV} {L : Ly} {Q : AQ} {A : Value} {fr : List Value} {K : AHeap} {top : Nat} (ht : top ≤ 1000000) (h : LyR H u xs L) (hf : LyIn 9223372036854775807 L) (hm : WG A H u top fr K)
    (hk : ∀ fr K, WG A H u top fr K → Q .normal fr K) : W Go.Proofs.Tryd.prog 4 (cpre 1 (cpost 3 f12.body)) Q fr K := by
  obtain ⟨n0, x5, x6, x7, x8, x9, x10, x11, x12, x13, x14, rfl, hkK⟩ := hm
  have lp := h.p.len
  have ip := Sl.is h.p
  simp (disch := first | assumption | omega | (simp only [LN] <;> omega) | (simp (disch := first | assumption | omega | (simp only [LN] <;> omega)) only [row_alloc, row_set]; assumption)) only [ f12, cpre, cpost, P3, ↓reduceIte, reduceAdd, reduceEqDiff, reduceCtorEq, initFr, reduceLT, clsA, reduceLeDiff, reduceMul, reduceSub, reduceIte]
  rw [W_block]
  refine W_loop2 (fun k fr K => ∃ i n xc, fr = [A, .int .i64 ((top : Nat) : Int), ptr H.n 0, .int .i64 0, .int .i64 n, x5, .int .i64 ((i : Nat) : Int), x7, x8, x9, x10, xc, x12, x13, x14] ∧ Keeps (vB H u) K ∧ i ≤ L.p.length ∧ k = L.p.length - i) L.p.length
    ⟨0, n0, _, rfl, hkK, by omega, rfl⟩ ?_
  clear hkK
  rintro Q' k fr K ⟨i, n, xc, rfl, hkK, hi, rfl⟩ hn hx hret
  have gl := hkK.at_ (vB_g H u)
  simp only [V4.l] at gl
  by_cases hlt : i < L.p.length
  · have h3 : (i : Int) < ((L.p.length : Nat) : Int) := by omega
    by_cases htn : n ≤ ((top : Nat) : Int)
    · obtain ⟨na, ra⟩ := (h.p.keeps ((vB_k H u).trans hkK)).at_ hlt
      have h1 : (0 : Int) ≤ (i : Int) := by omega
      have h2 : (i : Int) < ((lenS u.p : Nat) : Int) := by omega
      have h4 := htn
      have hlf := hf.p.1
      have hw : IntKind.i64.wrap ((i : Int) + 1) = ((i + 1 : Nat) : Int) := by rw [wrap_i64 (by omega) (by omega)]; simp
      simp (disch := first | assumption | omega | (simp only [LN] <;> omega) | (simp (disch := first | assumption | omega | (simp only [LN] <;> omega)) only [row_alloc, row_set]; assumption)) only [W_block, P3, ↓reduceIte, reduceAdd, reduceEqDiff, reduceCtorEq, initFr, reduceLT, clsA, reduceLeDiff, reduceMul, reduceSub, reduceIte, gl, lp, ra, na, a_load1v, a_lens, hw]
      refine hn _ _ _ ⟨i + 1, _, _, rfl, hkK, by omega, rfl⟩ (by omega)
    · have h4 := htn
      simp (disch := first | assumption | omega | (simp only [LN] <;> omega) | (simp (disch := first | assumption | omega | (simp only [LN] <;> omega)) only [row_alloc, row_set]; assumption)) only [W_block, P3, ↓reduceIte, reduceAdd, reduceEqDiff, reduceCtorEq, initFr, reduceLT, clsA, reduceLeDiff, reduceMul, reduceSub, reduceIte, gl, lp]
      refine hx 2 _ _ ?_
      exact hk _ _ ⟨n, _, _, _, _, _, _, _, _, _, _, rfl, hkK⟩
  · have h3 : ¬ (i : Int) < ((L.p.length : Nat) : Int) := by omega
    simp (disch := first | assumption | omega | (simp only [LN] <;> omega) | (simp (disch := first | assumption | omega | (simp only [LN] <;> omega)) only [row_alloc, row_set]; assumption)) only [W_block, P3, ↓reduceIte, reduceAdd, reduceEqDiff, reduceCtorEq, initFr, reduceLT, clsA, reduceLeDiff, reduceMul, reduceSub, reduceIte, gl, lp]
    refine hx 2 _ _ ?_
    exact hk _ _ ⟨n, _, _, _, _, _, _, _, _, _, _, rfl, hkK⟩
set_option maxHeartbeats 1000000 in
theorem wgt3 {H : AHeap} {u : V4} {xs : List RV} {L : Ly} {Q : AQ} {A : Value} {fr : List Value} {K : AHeap} {top : Nat} (ht : top ≤ 1000000) (h : LyR H u xs L) (hf : LyIn 9223372036854775807 L) (hm : WG A H u top fr K)
    (hk : ∀ fr K, WG A H u top fr K → Q .normal fr K) : W Go.Proofs.Tryd.prog 4 (cpre 1 (cpost 4 f12.body)) Q fr K := by
  obtain ⟨n0, x5, x6, x7, x8, x9, x10, x11, x12, x13, x14, rfl, hkK⟩ := hm
  have lp := h.g.len
  have ip := Sl.is h.g
  simp (disch := first | assumption | omega | (simp only [LN] <;> omega) | (simp (disch := first | assumption | omega | (simp only [LN] <;> omega)) only [row_alloc, row_set]; assumption)) only [ f12, cpre, cpost, P3, ↓reduceIte, reduceAdd, reduceEqDiff, reduceCtorEq, initFr, reduceLT, clsA, reduceLeDiff, reduceMul, reduceSub, reduceIte]
  rw [W_block]
  refine W_loop2 (fun k fr K => ∃ i n xc, fr = [A, .int .i64 ((top : Nat) : Int), ptr H.n 0, .int .i64 0, .int .i64 n, x5, x6, .int .i64 ((i : Nat) : Int), x8, x9, x10, x11, xc, x13, x14] ∧ Keeps (vB H u) K ∧ i ≤ L.g.length ∧ k = L.g.length - i) L.g.length
    ⟨0, n0, _, rfl, hkK, by omega, rfl⟩ ?_
  clear hkK
  rintro Q' k fr K ⟨i, n, xc, rfl, hkK, hi, rfl⟩ hn hx hret
  have gl := hkK.at_ (vB_g H u)
  simp only [V4.l] at gl
  by_cases hlt : i < L.g.length
  · have h3 : (i : Int) < ((L.g.length : Nat) : Int) := by omega
    by_cases htn : n ≤ ((top : Nat) : Int)
    · obtain ⟨na, ra⟩ := (h.g.keeps ((vB_k H u).trans hkK)).at_ hlt
      have h1 : (0 : Int) ≤ (i : Int) := by omega
      have h2 : (i : Int) < ((lenS u.g : Nat) : Int) := by omega
      have h4 := htn
      have hlf := hf.g.1
      have hw : IntKind.i64.wrap ((i : Int) + 1) = ((i + 1 : Nat) : Int) := by rw [wrap_i64 (by omega) (by omega)]; simp
      simp (disch := first | assumption | omega | (simp only [LN] <;> omega) | (simp (disch := first | assumption | omega | (simp only [LN] <;> omega)) only [row_alloc, row_set]; assumption)) only [W_block, P3, ↓reduceIte, reduceAdd, reduceEqDiff, reduceCtorEq, initFr, reduceLT, clsA, reduceLeDiff, reduceMul, reduceSub, reduceIte, gl, lp, ra, na, a_load1v, a_lens, hw]
      refine hn _ _ _ ⟨i + 1, _, _, rfl, hkK, by omega, rfl⟩ (by omega)
    · have h4 := htn
      simp (disch := first | assumption | omega | (simp only [LN] <;> omega) | (simp (disch := first | assumption | omega | (simp only [LN] <;> omega)) only [row_alloc, row_set]; assumption)) only [W_block, P3, ↓reduceIte, reduceAdd, reduceEqDiff, reduceCtorEq, initFr, reduceLT, clsA, reduceLeDiff, reduceMul, reduceSub, reduceIte, gl, lp]
      refine hx 4 _ _ ?_
      exact hk _ _ ⟨n, _, _, _, _, _, _, _, _, _, _, rfl, hkK⟩
  · have h3 : ¬ (i : Int) < ((L.g.length : Nat) : Int) := by omega
    simp (disch := first | assumption | omega | (simp only [LN] <;> omega) | (simp (disch := first | assumption | omega | (simp only [LN] <;> omega)) only [row_alloc, row_set]; assumption)) only [W_block, P3, ↓reduceIte, reduceAdd, reduceEqDiff, reduceCtorEq, initFr, reduceLT, clsA, reduceLeDiff, reduceMul, reduceSub, reduceIte, gl, lp]
    refine hx 4 _ _ ?_
    exact hk _ _ ⟨n, _, _, _, _, _, _, _, _, _, _, rfl, hkK⟩
set_option maxHeartbeats 2000000 in
theorem wgt4 {H : AHeap} {u : V4} {xs : List RV} {L : Ly} {Q : AQ} {A : Value} {fr : List Value} {K : AHeap} {top : Nat} (ht : top ≤ 1000000) (h : LyR H u xs L) (hf : LyIn 9223372036854775807 L) (hm : WG A H u top fr K)
    (hk : ∀ fr K, WG A H u top fr K → Q .normal fr K) : W Go.Proofs.Tryd.prog 4 (cpre 1 (cpost 5 f12.body)) Q fr K := by
  obtain ⟨n0, x5, x6, x7, x8, x9, x10, x11, x12, x13, x14, rfl, hkK⟩ := hm
  have lp := h.r.len
  rw [h.rlen] at lp
  have ip := Sl.is h.r
  simp (disch := first | assumption | omega | (simp only [LN] <;> omega) | (simp (disch := first | assumption | omega | (simp only [LN] <;> omega)) only [row_alloc, row_set]; assumption)) only [ f12, cpre, cpost, P3, ↓reduceIte, reduceAdd, reduceEqDiff, reduceCtorEq, initFr, reduceLT, clsA, reduceLeDiff, reduceMul, reduceSub, reduceIte]
  rw [W_block]
  refine W_loop2 (fun k fr K => ∃ i n x9 xc xd, fr = [A, .int .i64 ((top : Nat) : Int), ptr H.n 0, .int .i64 0, .int .i64 n, x5, x6, x7, .int .i64 ((i : Nat) : Int), x9, x10, x11, x12, xc, xd] ∧ Keeps (vB H u) K ∧ i ≤ L.r.length ∧ k = L.r.length - i) L.r.length
    ⟨0, n0, _, _, _, rfl, hkK, by omega, rfl⟩ ?_
  clear hkK
  rintro Q' k fr K ⟨i, n, x9, xc, xd, rfl, hkK, hi, rfl⟩ hn hx hret
  have gl := hkK.at_ (vB_g H u)
  simp only [V4.l] at gl
  by_cases hlt : i < L.r.length
  · have h3 : (i : Int) < ((L.r.length : Nat) : Int) := by omega
    by_cases htn : n ≤ ((top : Nat) : Int)
    · have hlt' : i < xs.length := by rw [h.rlen]; exact hlt
      obtain ⟨na, ra⟩ := RL.at_ (h.r.keeps ((vB_k H u).trans hkK)) hlt'
      obtain ⟨xok, xr⟩ := h.rat hlt
      have hbl := Sl.bn_le (h.r.keeps ((vB_k H u).trans hkK)) (by intro e; simp at e; rw [e] at hlt'; simp at hlt') (by omega)
      have h1 : (0 : Int) ≤ (i : Int) := by omega
      have h2 : (i : Int) < ((lenS u.r : Nat) : Int) := by omega
      have h4 := htn
      have hl := hf.r.2 _ (getD_mem (d := rv0.r) hlt)
      have hlf := hf.r.1
      have hw : IntKind.i64.wrap ((i : Int) + 1) = ((i + 1 : Nat) : Int) := by rw [wrap_i64 (by omega) (by omega)]; simp
      generalize xs.getD i rv0 = y at *
      simp only [RV.row] at ra
      have iP := Sl.is xok.p
      have iQ := Sl.is xok.q
      have iO := Sl.is xok.o
      have iF := Sl.is xok.f
      have lP := xok.p.len
      have lQ := xok.q.len
      have lO := xok.o.len
      have lF := xok.f.len
      have o3 := one_isS iP
      have o4 := one_isS iQ
      have o5 := one_isS iO
      have o6 := one_isS iF
      obtain ⟨m, hm⟩ : ∃ m : Int, m = IntKind.i64.wrap (IntKind.i64.wrap (IntKind.i64.wrap (IntKind.i64.wrap (n + 1) + ((y.r.n.length : Nat) : Int)) + ((y.r.path.length : Nat) : Int)) + ((y.r.pts.length : Nat) : Int)) := ⟨_, rfl⟩
      have k1 := hkK.trans ((Keeps.refl K).alloc (.cells true false 6 [.string ⟨y.r.n.toArray⟩, .int .i64 y.r.g, y.vp, y.vq, y.vo, y.vf] 43))
      by_cases hmt : m ≤ ((top : Nat) : Int)
      · have h5 := hmt
        simp (disch := first | assumption | omega | (simp only [LN] <;> omega) | (simp (disch := first | assumption | omega | (simp only [LN] <;> omega)) only [row_alloc, row_set]; assumption)) only [W_block, P3, ↓reduceIte, reduceAdd, reduceEqDiff, reduceCtorEq, initFr, reduceLT, clsA, reduceLeDiff, reduceMul, reduceSub, reduceIte, gl, lp, ra, na, a_loadnvf, a_lens, lP, lQ, lO, lF, o3, o4, o5, o6, hw, ← hm]
        refine hn _ _ _ ⟨i + 1, _, _, _, _, rfl, k1, by omega, rfl⟩ (by omega)
      · have h5 := hmt
        simp (disch := first | assumption | omega | (simp only [LN] <;> omega) | (simp (disch := first | assumption | omega | (simp only [LN] <;> omega)) only [row_alloc, row_set]; assumption)) only [W_block, P3, ↓reduceIte, reduceAdd, reduceEqDiff, reduceCtorEq, initFr, reduceLT, clsA, reduceLeDiff, reduceMul, reduceSub, reduceIte, gl, lp, ra, na, a_loadnvf, a_lens, lP, lQ, lO, lF, o3, o4, o5, o6, hw, ← hm]
        refine hn _ _ _ ⟨i + 1, m, _, _, _, rfl, k1, by omega, rfl⟩ (by omega)
    · have h4 := htn
      simp (disch := first | assumption | omega | (simp only [LN] <;> omega) | (simp (disch := first | assumption | omega | (simp only [LN] <;> omega)) only [row_alloc, row_set]; assumption)) only [W_block, P3, ↓reduceIte, reduceAdd, reduceEqDiff, reduceCtorEq, initFr, reduceLT, clsA, reduceLeDiff, reduceMul, reduceSub, reduceIte, gl, lp]
      refine hx 6 _ _ ?_
      exact hk _ _ ⟨n, _, _, _, _, _, _, _, _, _, _, rfl, hkK⟩
  · have h3 : ¬ (i : Int) < ((L.r.length : Nat) : Int) := by omega
    simp (disch := first | assumption | omega | (simp only [LN] <;> omega) | (simp (disch := first | assumption | omega | (simp only [LN] <;> omega)) only [row_alloc, row_set]; assumption)) only [W_block, P3, ↓reduceIte, reduceAdd, reduceEqDiff, reduceCtorEq, initFr, reduceLT, clsA, reduceLeDiff, reduceMul, reduceSub, reduceIte, gl, lp]
    refine hx 6 _ _ ?_
    exact hk _ _ ⟨n, _, _, _, _, _, _, _, _, _, _, rfl, hkK⟩
theorem t12 {H : AHeap} {u : V4} {xs : List RV} {L : Ly} {top : Nat} (ht : top ≤ 1000000) (h : LyR H u xs L) (hf : LyIn 9223372036854775807 L) : ∃ w H', ARun Go.Proofs.Tryd.prog 4 12 [.agg u.l.toArray, .int .i64 ((top : Nat) : Int)] H w H' ∧ (∃ n : Int, w = .int .i64 n) ∧ H' = H := by
  suffices h' : ∃ w H', ARun Go.Proofs.Tryd.prog 4 12 [.agg u.l.toArray, .int .i64 ((top : Nat) : Int)] H w H' ∧ (∃ n : Int, w = .int .i64 n) ∧ Keeps H H' by
    obtain ⟨_, _, a, ⟨n, rfl⟩, k⟩ := h'
    exact ⟨_, _, a.gc0 k (.inr (.int _ _)), ⟨n, rfl⟩, rfl⟩
  refine walk2 f12_ok f12_n ?_
  intro Q hq1 hq2
  refine W_part 2 (WG (.agg u.l.toArray) H u top) (by kernel_rfl) ?_ (fun fr K m => ?_)
  · intro Q' a _ _
    have os := Sl.one h.s
    have op := Sl.one h.p
    have og := Sl.one h.g
    have or := Sl.one h.r
    unfold WG vB at *
    obtain ⟨us, up, ug, ur⟩ := u
    simp only [V4.l] at *
    simp (disch := first | assumption | omega | (simp only [LN] <;> omega) | (simp (disch := first | assumption | omega | (simp only [LN] <;> omega)) only [row_alloc, row_set]; assumption)) only [f12, cpre, W_block, P3, ↓reduceIte, reduceAdd, reduceEqDiff, reduceCtorEq, initFr, reduceLT, clsA, reduceLeDiff, reduceMul, reduceSub, reduceIte, os, op, og, or]
    exact a _ _ ⟨0, _, _, _, _, _, _, _, _, _, _, rfl, Keeps.refl _⟩
  refine W_part 1 (WG (.agg u.l.toArray) H u top) (by kernel_rfl) (fun Q' a _ _ => wgt1 ht h hf m a) (fun fr K m => ?_)
  refine W_part 1 (WG (.agg u.l.toArray) H u top) (by kernel_rfl) (fun Q' a _ _ => wgt2 ht h hf m a) (fun fr K m => ?_)
  refine W_part 1 (WG (.agg u.l.toArray) H u top) (by kernel_rfl) (fun Q' a _ _ => wgt3 ht h hf m a) (fun fr K m => ?_)
  refine W_part 1 (WG (.agg u.l.toArray) H u top) (by kernel_rfl) (fun Q' a _ _ => wgt4 ht h hf m a) (fun fr K m => ?_)
  obtain ⟨n, x5, x6, x7, x8, x9, x10, x11, x12, x13, x14, rfl, hkK⟩ := m
  simp (disch := first | assumption | omega | (simp only [LN] <;> omega) | (simp (disch := first | assumption | omega | (simp only [LN] <;> omega)) only [row_alloc, row_set]; assumption)) only [f12, cpost, W_block, P3, ↓reduceIte, reduceAdd, reduceEqDiff, reduceCtorEq, initFr, reduceLT, clsA, reduceLeDiff, reduceMul, reduceSub, reduceIte]
  exact hq2 _ _ ⟨_, rfl, ⟨n, rfl⟩, (vB_k H u).trans hkK⟩
end Go.AM.Fd

set_option linter.unusedSimpArgs false
set_option linter.unusedVariables false
namespace Go.AM
inductive CKd
  | int (k : IntKind)
  | bool
  | str
  | sl (t : TypeId)
def ckFs (P : Program) (f : TypeId → Option (List CKd)) : List Field → Nat → Option (List CKd)
  | [], _ => some []
  | fd :: r, off => if fd.offset = off then match f fd.type with
    | some l => if P.cellsOf fd.type = l.length then (ckFs P f r (off + l.length)).map (l ++ ·) else none
    | none => none
    else none
def ckT (P : Program) : Nat → TypeId → Option (List CKd)
  | 0, _ => none
  | d + 1, t => match P.underlying t with
    | some .bool => some [.bool]
    | some (.int k) => some [.int k]
    | some .string => some [.str]
    | some (.slice _) => some [.sl t]
    | some (.struct fs) => match ckFs P (ckT P d) fs.toList 0 with
      | some l => if P.cellsOf t = l.length then some l else none
      | none => none
    | some (.array n e) => match ckT P d e with
      | some l => if P.cellsOf e = l.length ∧ P.cellsOf t = n * l.length then some (List.replicate n l).flatten else none
      | none => none
    | _ => none
def fits (P : Program) (G : Gf) : CKd → Value → Prop
  | .int k, v => ∃ n, v = .int k n ∧ (Lit.int k n).wf = true
  | .bool, v => ∃ b, v = .bool b
  | .str, v => ∃ s, v = .string s ∧ s.size ≤ maxLen ∧ s.size ≤ reachBytes
  | .sl t, v => AR P G t [v]
def fitsL (P : Program) (G : Gf) : List CKd → List Value → Prop
  | [], [] => True
  | k :: ks, v :: vs => fits P G k v ∧ fitsL P G ks vs
  | _, _ => False
section
variable {P : Program} {G : Gf}
theorem fitsL.len : ∀ {ks : List CKd} {cs : List Value}, fitsL P G ks cs → cs.length = ks.length
  | [], [], _ => rfl
  | _ :: ks, _ :: cs, h => by simp [fitsL.len h.2]
theorem fitsL.inv {k : CKd} {ks : List CKd} {cs : List Value} (h : fitsL P G (k :: ks) cs) : ∃ v vs, cs = v :: vs ∧ fits P G k v ∧ fitsL P G ks vs := by
  cases cs with
  | nil => exact h.elim
  | cons v vs => exact ⟨v, vs, rfl, h.1, h.2⟩
theorem fitsL.end_ {cs : List Value} (h : fitsL P G [] cs) : cs = [] := by
  cases cs with
  | nil => rfl
  | cons v vs => exact h.elim
theorem fitsL.app : ∀ {a b : List CKd} {c d : List Value}, fitsL P G a c → fitsL P G b d → fitsL P G (a ++ b) (c ++ d)
  | [], _, [], _, _, h => h
  | _ :: _, _, _ :: _, _, h, k => ⟨h.1, fitsL.app h.2 k⟩
theorem fitsL.split : ∀ {a b : List CKd} {cs : List Value}, fitsL P G (a ++ b) cs → fitsL P G a (cs.take a.length) ∧ fitsL P G b (cs.drop a.length)
  | [], b, cs, h => ⟨by simp [fitsL], by simpa using h⟩
  | k :: a, b, v :: cs, h => by
    have := fitsL.split (a := a) (b := b) (cs := cs) h.2
    exact ⟨⟨h.1, this.1⟩, this.2⟩
theorem fitsL.mono {G' : Gf} (hg : ∀ b o, G b = some o → G' b = some o) : ∀ {ks : List CKd} {cs : List Value}, fitsL P G ks cs → fitsL P G' ks cs
  | [], [], _ => trivial
  | .int _ :: _, _ :: _, h => ⟨h.1, h.2.mono hg⟩
  | .bool :: _, _ :: _, h => ⟨h.1, h.2.mono hg⟩
  | .str :: _, _ :: _, h => ⟨h.1, h.2.mono hg⟩
  | .sl t :: _, v :: _, h => ⟨AR.mono hg (show AR P G t [v] from h.1), h.2.mono hg⟩
theorem fitsL.u8 : ∀ {n : Nat} {cs : List Value}, fitsL P G (List.replicate n (.int .u8)) cs → ∃ l : List UInt8, l.length = n ∧ cs = cellsOf l
  | 0, [], _ => ⟨[], rfl, rfl⟩
  | n + 1, v :: cs, h => by
    obtain ⟨⟨m, rfl, hw⟩, h2⟩ := h
    obtain ⟨l, h3, rfl⟩ := fitsL.u8 h2
    simp only [Lit.wf, Bool.and_eq_true, decide_eq_true_eq, IntKind.min, IntKind.max, IntKind.signed, IntKind.bits] at hw
    obtain ⟨m, rfl⟩ : ∃ k : Nat, m = k := ⟨m.toNat, by simp at hw; omega⟩
    have hm : m % 256 = m := by simp at hw; omega
    exact ⟨UInt8.ofNat m :: l, by simp [h3], by simp [cellsOf, hm]⟩
theorem fitsL_fields {f : TypeId → Option (List CKd)} {cs : List Value} : ∀ (fs : List Field) (off : Nat) (ks : List CKd), ckFs P f fs off = some ks → cs.length = off + ks.length →
    (∀ fd ∈ fs, ∀ l, f fd.type = some l → P.cellsOf fd.type = l.length → fitsL P G l ((cs.drop fd.offset).take (P.cellsOf fd.type))) → fitsL P G ks (cs.drop off)
  | [], off, ks, h, hl, _ => by
    simp only [ckFs, Option.some.injEq] at h; subst h
    rw [List.drop_of_length_le (by simp at hl; omega)]; trivial
  | fd :: fs, off, ks, h, hl, hf => by
    simp only [ckFs] at h
    split at h
    · rename_i h1
      split at h
      · rename_i l h2
        split at h
        · rename_i h3
          simp only [Option.map_eq_some_iff] at h
          obtain ⟨r, h4, rfl⟩ := h
          have h5 := hf fd (by simp) l h2 h3
          have h6 := fitsL_fields fs (off + l.length) r h4 (by rw [hl, List.length_append]; omega) (fun x hx => hf x (by simp [hx]))
          rw [h1, h3] at h5
          have := h5.app h6
          rwa [← List.drop_drop, List.take_append_drop] at this
        · cases h
      · cases h
    · cases h
theorem fitsL_rep {l : List CKd} {cs : List Value} : ∀ (n : Nat), (∀ i, i < n → fitsL P G l ((cs.drop (i * l.length)).take l.length)) → fitsL P G (List.replicate n l).flatten (cs.take (n * l.length))
  | 0, _ => by simp [fitsL]
  | n + 1, h => by
    have h1 := fitsL_rep n (fun i hi => h i (by omega))
    rw [List.replicate_succ', List.flatten_append, Nat.add_mul, Nat.one_mul, List.take_add]
    simpa using h1.app (h n (by omega))
theorem AR.flat : ∀ {d : Nat} {t : TypeId} {ks : List CKd} {cs : List Value}, ckT P d t = some ks → AR P G t cs → fitsL P G ks cs
  | 0, t, ks, cs, h, _ => by simp [ckT] at h
  | d + 1, t, ks, cs, h, ha => by
    have ha0 := ha
    cases ha with
    | bool hu => simp only [ckT, hu, Option.some.injEq] at h; subst h; exact ⟨⟨_, rfl⟩, trivial⟩
    | int hu hw => simp only [ckT, hu, Option.some.injEq] at h; subst h; exact ⟨⟨_, rfl, hw⟩, trivial⟩
    | str hu hs => simp only [ckT, hu, Option.some.injEq] at h; subst h; exact ⟨⟨_, rfl, hs⟩, trivial⟩
    | nil hu => simp only [ckT, hu, Option.some.injEq] at h; subst h; exact ⟨ha0, trivial⟩
    | zero hu _ => simp only [ckT, hu, Option.some.injEq] at h; subst h; exact ⟨ha0, trivial⟩
    | sl hu => simp only [ckT, hu, Option.some.injEq] at h; subst h; exact ⟨ha0, trivial⟩
    | struct hu hl hf =>
      rename_i fs
      simp only [ckT, hu] at h
      split at h
      · rename_i l h1
        split at h
        · rename_i h2
          simp only [Option.some.injEq] at h; subst h
          have := fitsL_fields (cs := cs) (G := G) fs.toList 0 _ h1 (by rw [hl, h2]; omega) (fun fd hfd l hl' hz => by
            obtain ⟨i, hi, hfi⟩ := List.mem_iff_getElem.1 hfd
            have hi' : i < fs.size := by simpa using hi
            exact (hf i fd (by rw [Array.getElem?_eq_getElem hi', ← hfi]; simp)).flat hl')
          simpa using this
        · cases h
      · cases h
    | array hu hl hi =>
      rename_i e n
      simp only [ckT, hu] at h
      split at h
      · rename_i l h1
        split at h
        · rename_i h2
          simp only [Option.some.injEq] at h; subst h
          have := fitsL_rep (P := P) (G := G) (l := l) (cs := cs) n (fun i hin => by
            have := hi i hin
            rw [h2.1] at this
            exact this.flat h1)
          rwa [List.take_of_length_le (by rw [hl, h2.2]; omega)] at this
        · cases h
      · cases h
end
end Go.AM

set_option linter.unusedSimpArgs false
set_option linter.unusedVariables false
namespace Go.AM.Fd
open Go.Proofs Go.AM.F
theorem str_exL (s : ByteArray) : ∃ l : List UInt8, s = ⟨l.toArray⟩ := ⟨s.data.toList, by cases s; simp⟩
theorem ar_rows {P : Program} {H : AHeap} {v : Value} {t e esz : Nat} (hu : P.underlying t = some (.slice e)) (hz : P.cellsOf e = esz) (h : AR P H.get t [v]) : ∃ rows, (Sl H esz v rows ∧ rows.length ≤ 9223372036854775807) ∧ ∀ r ∈ rows, AR P H.get e r := by
  obtain ⟨rows, hs, hr⟩ := h.rows hu hz
  refine ⟨rows, ⟨hs, ?_⟩, hr⟩
  have hl := hs.len
  rcases h.slice_inv hu with h2 | ⟨x, hx, h2⟩ | ⟨b, n, k, c, u, h2, h3, h4, h5, _⟩
  · cases h2; simp only [lenS] at hl; omega
  · cases h2; simp only [lenS] at hl; omega
  · cases h2
    simp only [slc, lenS] at hl
    have : maxLen = 9223372036854775807 := by unfold maxLen; rfl
    omega
theorem ar_ints {H : AHeap} {v : Value} (h : AR Go.Proofs.Tryd.prog H.get 40 [v]) : ∃ l, IL H v l ∧ l.length ≤ 9223372036854775807 := by
  obtain ⟨rows, ⟨hs, hl⟩, hr⟩ := ar_rows (e := 3) (esz := 1) (by kernel_rfl) (by kernel_rfl) h
  obtain ⟨l, rfl, _⟩ := list_choose (f := iRow) (Q := fun _ => True) (l := rows) (fun r hm => by
    obtain ⟨n, hb, _⟩ := (hr r hm).int_inv (by kernel_rfl)
    exact ⟨n, hb, trivial⟩)
  exact ⟨l, hs, by simpa using hl⟩
theorem ar_needs {H : AHeap} {v : Value} (h : AR Go.Proofs.Tryd.prog H.get 41 [v]) : ∃ l, NL H v l ∧ l.length ≤ 9223372036854775807 := by
  obtain ⟨rows, ⟨hs, hl⟩, hr⟩ := ar_rows (e := 45) (esz := 2) (by kernel_rfl) (by kernel_rfl) h
  obtain ⟨l, rfl, _⟩ := list_choose (f := nRow) (Q := fun _ => True) (l := rows) (fun r hm => by
    have h1 := (hr r hm).flat (d := 5) (ks := [.int .i64, .bool]) (by kernel_rfl)
    obtain ⟨a, as1, rfl, ha, h2⟩ := h1.inv
    obtain ⟨b, bs, rfl, hb, h3⟩ := h2.inv
    have := h3.end_; subst this
    obtain ⟨n, rfl, _⟩ := ha
    obtain ⟨m, rfl⟩ := hb
    exact ⟨(n, m), rfl, trivial⟩)
  exact ⟨l, hs, by simpa using hl⟩
theorem ar_txs {H : AHeap} {v : Value} (h : AR Go.Proofs.Tryd.prog H.get 23 [v]) : ∃ l, TL H v l ∧ l.length ≤ 9223372036854775807 ∧ ∀ x ∈ l, x.length ≤ 9223372036854775807 := by
  obtain ⟨rows, ⟨hs, hl⟩, hr⟩ := ar_rows (e := 9) (esz := 1) (by kernel_rfl) (by kernel_rfl) h
  obtain ⟨l, rfl, hq⟩ := list_choose (f := tRow) (Q := fun x => x.length ≤ 9223372036854775807) (l := rows) (fun r hm => by
    obtain ⟨b, hb, hz⟩ := (hr r hm).str_inv (by kernel_rfl)
    obtain ⟨l, rfl⟩ := str_exL b
    have : maxLen = 9223372036854775807 := by unfold maxLen; rfl
    exact ⟨l, hb, by have : (⟨l.toArray⟩ : ByteArray).size = l.length := by simp [ByteArray.size]
                     omega⟩)
  exact ⟨l, hs, by simpa using hl, hq⟩
theorem ar_named {H : AHeap} {t e : Nat} {v : Value} (h1 : Program.underlying Go.Proofs.Tryd.prog t = some (.slice e)) (h2 : Program.cellsOf Go.Proofs.Tryd.prog e = 2) (h3 : ckT Go.Proofs.Tryd.prog 6 e = some [.str, .int .i64]) (h : AR Go.Proofs.Tryd.prog H.get t [v]) : ∃ l, PL H v l ∧ l.length ≤ 9223372036854775807 ∧ ∀ x ∈ l, x.1.length ≤ 9223372036854775807 := by
  obtain ⟨rows, ⟨hs, hl⟩, hr⟩ := ar_rows (e := e) (esz := 2) h1 h2 h
  obtain ⟨l, rfl, hq⟩ := list_choose (f := pRow) (Q := fun x => x.1.length ≤ 9223372036854775807) (l := rows) (fun r hm => by
    have h1 := (hr r hm).flat h3
    obtain ⟨a, as1, rfl, ha, h2⟩ := h1.inv
    obtain ⟨b, bs, rfl, hb, h3⟩ := h2.inv
    have := h3.end_; subst this
    obtain ⟨s, rfl, hz⟩ := ha
    obtain ⟨m, rfl, _⟩ := hb
    obtain ⟨l, rfl⟩ := str_exL s
    have : maxLen = 9223372036854775807 := by unfold maxLen; rfl
    exact ⟨(l, m), rfl, by have : (⟨l.toArray⟩ : ByteArray).size = l.length := by simp [ByteArray.size]
                           simp only; omega⟩)
  exact ⟨l, hs, by simpa using hl, hq⟩
theorem ar_route {H : AHeap} {r : List Value} (h : AR Go.Proofs.Tryd.prog H.get 43 r) : ∃ x : RV, r = x.row ∧ x.ok H ∧ x.r.n.length ≤ 9223372036854775807 ∧ x.r.path.length ≤ 9223372036854775807 ∧ x.r.pts.length ≤ 9223372036854775807 ∧ x.r.ov.length ≤ 9223372036854775807 ∧ x.r.fl.length ≤ 9223372036854775807 := by
  have h1 := h.flat (d := 6) (ks := [.str, .int .i64, .sl 40, .sl 41, .sl 40, .sl 41]) (by kernel_rfl)
  obtain ⟨a, as1, rfl, ha, h2⟩ := h1.inv
  obtain ⟨b, bs, rfl, hb, h3⟩ := h2.inv
  obtain ⟨c, cs, rfl, hc, h4⟩ := h3.inv
  obtain ⟨d, ds, rfl, hd, h5⟩ := h4.inv
  obtain ⟨e, es, rfl, he, h6⟩ := h5.inv
  obtain ⟨f, fs, rfl, hf, h7⟩ := h6.inv
  have := h7.end_; subst this
  obtain ⟨s, rfl, hz⟩ := ha
  obtain ⟨m, rfl, _⟩ := hb
  obtain ⟨l, rfl⟩ := str_exL s
  obtain ⟨p, hp, lp⟩ := ar_ints hc
  obtain ⟨q, hq, lq⟩ := ar_needs hd
  obtain ⟨o, ho, lo⟩ := ar_ints he
  obtain ⟨g, hg, lg⟩ := ar_needs hf
  have : maxLen = 9223372036854775807 := by unfold maxLen; rfl
  have : (⟨l.toArray⟩ : ByteArray).size = l.length := by simp [ByteArray.size]
  exact ⟨⟨⟨l, m, p, q, o, g⟩, c, d, e, f⟩, rfl, ⟨hp, hq, ho, hg⟩, by simp only; omega, lp, lq, lo, lg⟩
theorem ar_ly {H : AHeap} {cs : List Value} (h : AR Go.Proofs.Tryd.prog H.get 28 cs) : ∃ u xs L, cs = V4.l u ∧ LyR H u xs L ∧ LyIn 9223372036854775807 L := by
  have h1 := h.flat (d := 6) (ks := [.sl 23, .sl 24, .sl 25, .sl 26]) (by kernel_rfl)
  obtain ⟨a, as1, rfl, ha, h2⟩ := h1.inv
  obtain ⟨b, bs, rfl, hb, h3⟩ := h2.inv
  obtain ⟨c, cs, rfl, hc, h4⟩ := h3.inv
  obtain ⟨d, ds, rfl, hd, h5⟩ := h4.inv
  have := h5.end_; subst this
  obtain ⟨s, hs, ls, bs⟩ := ar_txs ha
  obtain ⟨p, hp, lp, bp⟩ := ar_named (e := 58) (by kernel_rfl) (by kernel_rfl) (by kernel_rfl) hb
  obtain ⟨g, hg, lg, bg⟩ := ar_named (e := 59) (by kernel_rfl) (by kernel_rfl) (by kernel_rfl) hc
  obtain ⟨rows, ⟨hr, lr⟩, hrow⟩ := ar_rows (e := 43) (esz := 6) (by kernel_rfl) (by kernel_rfl) hd
  obtain ⟨xs, rfl, hx⟩ := list_choose (f := RV.row) (Q := fun x : RV => x.ok H ∧ x.r.n.length ≤ 9223372036854775807 ∧ x.r.path.length ≤ 9223372036854775807 ∧ x.r.pts.length ≤ 9223372036854775807 ∧ x.r.ov.length ≤ 9223372036854775807 ∧ x.r.fl.length ≤ 9223372036854775807) (l := rows) (fun r hm => ar_route (hrow r hm))
  refine ⟨⟨a, b, c, d⟩, xs, ⟨s, p, g, xs.map (·.r)⟩, rfl, ⟨hs, hp, hg, hr, rfl, fun x hm => (hx x hm).1⟩, ⟨⟨ls, bs⟩, ⟨lp, bp⟩, ⟨lg, bg⟩, ⟨by simpa using lr, fun x hm => ?_⟩⟩⟩
  obtain ⟨y, hy, rfl⟩ := List.mem_map.1 hm
  exact (hx y hy).2
theorem av_ly {H : AHeap} {v : Value} (h : AV Go.Proofs.Tryd.prog H.get 28 v) : ∃ u xs L, v = .agg (V4.l u).toArray ∧ LyR H u xs L ∧ LyIn 9223372036854775807 L := by
  obtain ⟨cs, rfl⟩ := h.2.1 (by kernel_rfl)
  obtain ⟨u, xs, L, h1, h2⟩ := ar_ly h.1
  have e : cs.toList = V4.l u := by simpa [Value.cells] using h1
  exact ⟨u, xs, L, by rw [← e], h2⟩
theorem av_str {H : AHeap} {v : Value} (h : AV Go.Proofs.Tryd.prog H.get 9 v) : ∃ l : List UInt8, v = .string ⟨l.toArray⟩ ∧ l.length ≤ 9223372036854775807 := by
  obtain ⟨s, rfl, hz⟩ := h.str_inv (by kernel_rfl)
  obtain ⟨l, rfl⟩ := str_exL s
  have : maxLen = 9223372036854775807 := by unfold maxLen; rfl
  have : (⟨l.toArray⟩ : ByteArray).size = l.length := by simp [ByteArray.size]
  exact ⟨l, rfl, by omega⟩
end Go.AM.Fd

set_option linter.unusedSimpArgs false
set_option linter.unusedVariables false
namespace Go.AM.Fd
open Nat (reduceAdd reduceEqDiff reduceLT reduceLeDiff reduceMul reduceSub)
open Go.Proofs Go.AM.F
abbrev MB := List (List UInt8 × (Nat × Int))
def mval (x : Nat × Int) : Value := .iface x.1 (.int .i64 x.2)
def mbs (M : MB) : List (List UInt8 × Value) := M.map fun p => (p.1, mval p.2)
def bfind (n : List UInt8) : MB → Option (Nat × Int)
  | [] => none
  | (a, v) :: l => if n = a then some v else bfind n l
theorem mfind_mbs (n : List UInt8) : ∀ M : MB, mfind n (mbs M) = (bfind n M).map mval
  | [] => rfl
  | (a, v) :: l => by
    have ih := mfind_mbs n l
    simp only [mbs] at ih
    simp only [mbs, List.map_cons, mfind, bfind]
    split
    · rfl
    · exact ih
def kOf (t : Nat) (M : MB) (n : List UInt8) : Option Int := match bfind n M with
  | some (u, i) => if u = t then some i else none
  | none => none
def kAll (t : Nat) (M : MB) : List (List UInt8) → Option (List Int)
  | [] => some []
  | n :: l => match kOf t M n with
    | some i => (kAll t M l).map (i :: ·)
    | none => none
theorem kAll_snoc (t : Nat) (M : MB) (n : List UInt8) : ∀ (a : List (List UInt8)), kAll t M (a ++ [n]) = match kAll t M a, kOf t M n with
    | some l, some i => some (l ++ [i])
    | _, _ => none
  | [] => by simp only [List.nil_append, kAll]; cases kOf t M n <;> rfl
  | x :: a => by
    simp only [List.cons_append, kAll, kAll_snoc t M n a]
    cases kOf t M x with
    | none => cases kOf t M n <;> rfl
    | some i => cases kAll t M a <;> cases kOf t M n <;> rfl
theorem kAll_stop {t : Nat} {M : MB} {n : List UInt8} (h : kOf t M n = none) : ∀ {l : List (List UInt8)}, n ∈ l → kAll t M l = none
  | x :: l, hm => by
    simp only [kAll]
    rcases List.mem_cons.1 hm with rfl | hm
    · rw [h]
    · rw [kAll_stop h hm]; cases kOf t M x <;> rfl
theorem a_mgetN {K : AHeap} {mb : Nat} {M : MB} (hm : MP sEnc K mb (mbs M)) (n : List UInt8) : asem (.mget .string .nilIface false (.map (some mb)) (.string ⟨n.toArray⟩)) K = some (((bfind n M).map mval).getD .nilIface, K) := by
  have := a_mget sEnc_e hm n .nilIface false
  rw [mfind_mbs] at this
  simp only [sEnc] at this
  rw [this]
  cases bfind n M <;> rfl
theorem a_assertN {K : AHeap} (t : Nat) (n : List UInt8) (M : MB) : asem (.assert t (.int .i64 0) true (((bfind n M).map mval).getD .nilIface)) K = some (.tuple #[.int .i64 ((kOf t M n).getD 0), .bool (kOf t M n).isSome], K) := by
  unfold kOf
  cases bfind n M with
  | none => rfl
  | some x =>
    obtain ⟨u, i⟩ := x
    simp only [Option.map_some, Option.getD_some, mval, asem]
    by_cases h : u = t <;> simp [h]
def sufB (s l : List UInt8) : Bool := decide (s.length ≤ l.length) && decide (l.drop (l.length - s.length) = s)
theorem t91 (H : AHeap) (l s : List UInt8) (hl : l.length ≤ 1000000000) (hs : s.length ≤ 1000000000) : ∃ w H', ARun Go.Proofs.Tryd.prog 4 91 [.string ⟨l.toArray⟩, .string ⟨s.toArray⟩] H w H' ∧ w = .bool (sufB s l) ∧ H' = H := by
  refine walk2 f91_ok f91_n ?_
  intro Q hq1 hq2
  by_cases h : s.length ≤ l.length
  · have h1 : ((s.length : Nat) : Int) ≤ ((l.length : Nat) : Int) := by omega
    have hw : IntKind.i64.wrap (((l.length : Nat) : Int) - ((s.length : Nat) : Int)) = ((l.length - s.length : Nat) : Int) := by rw [wrap_i64 (by omega) (by omega)]; omega
    have hc : asem (.slstr (.string ⟨l.toArray⟩) (some (.int .i64 ((l.length - s.length : Nat) : Int))) none) H = some (.string ⟨(l.drop (l.length - s.length)).toArray⟩, H) := a_slsT (by omega)
    simp (disch := first | assumption | omega | (simp only [LN] <;> omega) | (simp (disch := first | assumption | omega | (simp only [LN] <;> omega)) only [row_alloc, row_set]; assumption)) only [f91, W_block, P3, ↓reduceIte, reduceAdd, reduceEqDiff, reduceCtorEq, initFr, reduceLT, clsA, reduceLeDiff, reduceMul, reduceSub, reduceIte, a_lens, hw, hc, b_eqS]
    exact hq2 _ _ ⟨_, rfl, by simp [tupV, sufB, h], rfl⟩
  · have h1 : ¬ ((s.length : Nat) : Int) ≤ ((l.length : Nat) : Int) := by omega
    simp (disch := first | assumption | omega | (simp only [LN] <;> omega) | (simp (disch := first | assumption | omega | (simp only [LN] <;> omega)) only [row_alloc, row_set]; assumption)) only [f91, W_block, P3, ↓reduceIte, reduceAdd, reduceEqDiff, reduceCtorEq, initFr, reduceLT, clsA, reduceLeDiff, reduceMul, reduceSub, reduceIte, a_lens]
    exact hq2 _ _ ⟨_, rfl, by simp [tupV, sufB, h], rfl⟩
theorem t82 (H : AHeap) (l s : List UInt8) (hl : l.length ≤ 1000000000) (hs : s.length ≤ 1000000000) : ∃ w H', ARun Go.Proofs.Tryd.prog 4 82 [.string ⟨l.toArray⟩, .string ⟨s.toArray⟩] H w H' ∧ w = .bool (sufB s l) ∧ H' = H := by
  refine walk2 f82_ok f82_n ?_
  intro Q hq1 hq2
  simp (disch := first | assumption | omega | (simp only [LN] <;> omega) | (simp (disch := first | assumption | omega | (simp only [LN] <;> omega)) only [row_alloc, row_set]; assumption)) only [f82, W_block, P3, ↓reduceIte, reduceAdd, reduceEqDiff, reduceCtorEq, initFr, reduceLT, clsA, reduceLeDiff, reduceMul, reduceSub, reduceIte]
  refine callK (t91 H l s hl hs) ?_
  rintro _ _ ⟨rfl, rfl⟩
  simp (disch := first | assumption | omega | (simp only [LN] <;> omega) | (simp (disch := first | assumption | omega | (simp only [LN] <;> omega)) only [row_alloc, row_set]; assumption)) only [W_block, P3, ↓reduceIte, reduceAdd, reduceEqDiff, reduceCtorEq, initFr, reduceLT, clsA, reduceLeDiff, reduceMul, reduceSub, reduceIte]
  exact hq2 _ _ ⟨_, rfl, rfl, rfl⟩
theorem t64 {H : AHeap} {b mb T : Nat} {own room : Bool} {c : List Value} {M : MB} {v : Value} {ws : List (List UInt8)} (hb : H.get b = some (.cells own room 5 c T)) (hc : c[4]? = some (.map (some mb))) (hm : MP sEnc H mb (mbs M)) (h : TL H v ws) (hl : ws.length ≤ 1000000000) :
    ∃ w H', ARun Go.Proofs.Tryd.prog 4 64 [ptr b 0, v] H w H' ∧ Keeps H H' ∧ ∃ x, w = .tuple #[x, .bool (kAll 62 M ws).isSome] ∧ OW 3 1 H H' x (((kAll 62 M ws).getD []).map iRow) := by
  refine walk2 f64_ok f64_n ?_
  intro Q hq1 hq2
  have ia := Sl.is h
  have la := h.len
  simp (disch := first | assumption | omega | (simp only [LN] <;> omega) | (simp (disch := first | assumption | omega | (simp only [LN] <;> omega)) only [row_alloc, row_set]; assumption)) only [ f64, P3, ↓reduceIte, reduceAdd, reduceEqDiff, reduceCtorEq, initFr, reduceLT, clsA, reduceLeDiff, reduceMul, reduceSub, reduceIte, la]
  rw [W_block]
  refine W_loop2 (fun k fr K => ∃ i s l x5 x6 x7 x11 x12, fr = [ptr b 0, v, .slice none 0 0, .bool false, s, x5, x6, x7, v, .int .i64 ((ws.length : Nat) : Int), .int .i64 ((i : Nat) : Int), x11, x12] ∧ OW 3 1 H K s (l.map iRow) ∧ kAll 62 M (ws.take i) = some l ∧ l.length = i ∧ i ≤ ws.length ∧ k = ws.length - i) ws.length
    ⟨0, _, [], _, _, _, _, _, rfl, OW.nil _ _ (Keeps.refl H), by simp [kAll], rfl, by omega, rfl⟩ ?_
  rintro Q' k fr K ⟨i, s, l, x5, x6, x7, x11, x12, rfl, ho, hp, hll, hi, rfl⟩ hn hx hret
  by_cases hlt : i < ws.length
  · obtain ⟨na, ra⟩ := (h.keeps ho.k).at_ hlt
    have h0 : (0 : Int) ≤ (i : Int) := by omega
    have h1 : (i : Int) < ((lenS v : Nat) : Int) := by omega
    have h3 : (i : Int) < ((ws.length : Nat) : Int) := by omega
    have hw : IntKind.i64.wrap ((i : Int) + 1) = ((i + 1 : Nat) : Int) := by rw [wrap_i64 (by omega) (by omega)]; simp
    have gb := ho.k.at_ hb
    have gm := a_mgetN (hm.get (ho.k.get _ hm.lt)) (ws.getD i [])
    have ga := a_assertN (K := K) 62 (ws.getD i []) M
    have ts := kAll_snoc 62 M (ws.getD i []) (ws.take i)
    rw [← take_snoc [] hlt, hp] at ts
    have stop := fun e => kAll_stop (t := 62) (M := M) (n := ws.getD i []) e (l := ws) (getD_mem hlt)
    unfold tRow at ra
    generalize ws.getD i [] = n at *
    cases hk : kOf 62 M n with
    | none =>
      rw [hk] at ga
      simp only [Option.getD_none, Option.isSome_none] at ga
      simp (disch := first | assumption | omega | (simp only [LN] <;> omega) | (simp (disch := first | assumption | omega | (simp only [LN] <;> omega)) only [row_alloc, row_set]; assumption)) only [W_block, P3, ↓reduceIte, reduceAdd, reduceEqDiff, reduceCtorEq, initFr, reduceLT, clsA, reduceLeDiff, reduceMul, reduceSub, reduceIte, la, ra, na, a_load1v, gb, hc, st_mget, gm, ga]
      refine hret _ _ (hq2 _ _ ⟨_, rfl, ho.k, .slice none 0 0, ?_, ?_⟩)
      · rw [stop hk]; rfl
      · rw [stop hk]; exact OW.nil _ _ ho.k
    | some j =>
      rw [hk] at ga ts
      simp only [Option.getD_some, Option.isSome_some] at ga
      simp (disch := first | assumption | omega | (simp only [LN] <;> omega) | (simp (disch := first | assumption | omega | (simp only [LN] <;> omega)) only [row_alloc, row_set]; assumption)) only [W_block, P3, ↓reduceIte, reduceAdd, reduceEqDiff, reduceCtorEq, initFr, reduceLT, clsA, reduceLeDiff, reduceMul, reduceSub, reduceIte, la, ra, na, a_load1v, gb, hc, st_mget, gm, ga]
      have ho2 := ho.keeps ((Keeps.refl K).alloc (.cells true false 1 [.int .i64 j] 3))
      refine ho2.appR (b := 8) (Sl.one1 rfl rfl) (by simp only [List.length_map, List.length_cons, List.length_nil]; omega) ?_
      intro v' K' ho3 _
      simp (disch := first | assumption | omega | (simp only [LN] <;> omega) | (simp (disch := first | assumption | omega | (simp only [LN] <;> omega)) only [row_alloc, row_set]; assumption)) only [W_block, P3, ↓reduceIte, reduceAdd, reduceEqDiff, reduceCtorEq, initFr, reduceLT, clsA, reduceLeDiff, reduceMul, reduceSub, reduceIte, hw]
      refine hn _ _ _ ⟨i + 1, _, l ++ [j], _, _, _, _, _, rfl, ?_, ts, by simp [hll], by omega, rfl⟩ (by omega)
      simpa [iRow] using ho3
  · have h3 : ¬ (i : Int) < ((ws.length : Nat) : Int) := by omega
    simp (disch := first | assumption | omega | (simp only [LN] <;> omega) | (simp (disch := first | assumption | omega | (simp only [LN] <;> omega)) only [row_alloc, row_set]; assumption)) only [W_block, P3, ↓reduceIte, reduceAdd, reduceEqDiff, reduceCtorEq, initFr, reduceLT, clsA, reduceLeDiff, reduceMul, reduceSub, reduceIte, la]
    refine hx 0 _ _ ?_
    simp (disch := first | assumption | omega | (simp only [LN] <;> omega) | (simp (disch := first | assumption | omega | (simp only [LN] <;> omega)) only [row_alloc, row_set]; assumption)) only [W_block, P3, ↓reduceIte, reduceAdd, reduceEqDiff, reduceCtorEq, initFr, reduceLT, clsA, reduceLeDiff, reduceMul, reduceSub, reduceIte]
    rw [List.take_of_length_le (by omega)] at hp
    refine hq2 _ _ ⟨_, rfl, ho.k, s, ?_, ?_⟩
    · rw [hp]; rfl
    · rw [hp]; exact ho
end Go.AM.Fd

set_option linter.unusedSimpArgs false
set_option linter.unusedVariables false
namespace Go.AM.Fd
open Nat (reduceAdd reduceEqDiff reduceLT reduceLeDiff reduceMul reduceSub)
open Go.Proofs Go.AM.F
def shpB (w : List UInt8) : Bool := decide (2 ≤ w.length) && (sufB [43] w || sufB [45] w)
theorem t63 {H : AHeap} {v : Value} {ws : List (List UInt8)} (h : TL H v ws) (hl : ws.length ≤ 1000000000) (hw : ∀ w ∈ ws, w.length ≤ 1000000000) : ∃ w H', ARun Go.Proofs.Tryd.prog 4 63 [v] H w H' ∧ w = .bool (ws.all shpB) ∧ H' = H := by
  refine walk2 f63_ok f63_n ?_
  intro Q hq1 hq2
  have ia := Sl.is h
  have la := h.len
  simp (disch := first | assumption | omega | (simp only [LN] <;> omega) | (simp (disch := first | assumption | omega | (simp only [LN] <;> omega)) only [row_alloc, row_set]; assumption)) only [ f63, P3, ↓reduceIte, reduceAdd, reduceEqDiff, reduceCtorEq, initFr, reduceLT, clsA, reduceLeDiff, reduceMul, reduceSub, reduceIte, la]
  rw [W_block]
  refine W_loop2 (fun k fr K => ∃ i x2 x6 x7, fr = [v, .bool false, x2, v, .int .i64 ((ws.length : Nat) : Int), .int .i64 ((i : Nat) : Int), x6, x7] ∧ K = H ∧ i ≤ ws.length ∧ (ws.take i).all shpB = true ∧ k = ws.length - i) ws.length
    ⟨0, _, _, _, rfl, rfl, by omega, by simp, rfl⟩ ?_
  rintro Q' k fr _ ⟨i, x2, x6, x7, rfl, rfl, hi, hp, rfl⟩ hn hx hret
  by_cases hlt : i < ws.length
  · obtain ⟨na, ra⟩ := h.at_ hlt
    have h0 : (0 : Int) ≤ (i : Int) := by omega
    have h1 : (i : Int) < ((lenS v : Nat) : Int) := by omega
    have h3 : (i : Int) < ((ws.length : Nat) : Int) := by omega
    have hwr : IntKind.i64.wrap ((i : Int) + 1) = ((i + 1 : Nat) : Int) := by rw [wrap_i64 (by omega) (by omega)]; simp
    have hlen := hw _ (getD_mem (d := []) hlt)
    have stop := fun e => all_not (p := shpB) (d := []) hlt e
    have go := fun e => all_take (p := shpB) (d := []) hlt hp e
    unfold tRow at ra
    generalize ws.getD i [] = n at *
    by_cases h2 : n.length < 2
    · have h2' : ((n.length : Nat) : Int) < (2 : Int) := by omega
      simp (disch := first | assumption | omega | (simp only [LN] <;> omega) | (simp (disch := first | assumption | omega | (simp only [LN] <;> omega)) only [row_alloc, row_set]; assumption)) only [W_block, P3, ↓reduceIte, reduceAdd, reduceEqDiff, reduceCtorEq, initFr, reduceLT, clsA, reduceLeDiff, reduceMul, reduceSub, reduceIte, la, ra, na, a_load1v, a_lens]
      refine hret _ _ (hq2 _ _ ⟨_, rfl, ?_, rfl⟩)
      have : ¬ 2 ≤ n.length := by omega
      rw [stop (by simp [shpB, this])]; rfl
    · have h2' : ¬ ((n.length : Nat) : Int) < (2 : Int) := by omega
      have h2n : 2 ≤ n.length := by omega
      simp (disch := first | assumption | omega | (simp only [LN] <;> omega) | (simp (disch := first | assumption | omega | (simp only [LN] <;> omega)) only [row_alloc, row_set]; assumption)) only [W_block, P3, ↓reduceIte, reduceAdd, reduceEqDiff, reduceCtorEq, initFr, reduceLT, clsA, reduceLeDiff, reduceMul, reduceSub, reduceIte, la, ra, na, a_load1v, a_lens]
      refine callK (t82 _ n [43] hlen (by simp)) ?_
      rintro _ _ ⟨rfl, rfl⟩
      cases hs : sufB [43] n with
      | true =>
        simp (disch := first | assumption | omega | (simp only [LN] <;> omega) | (simp (disch := first | assumption | omega | (simp only [LN] <;> omega)) only [row_alloc, row_set]; assumption)) only [W_block, P3, ↓reduceIte, reduceAdd, reduceEqDiff, reduceCtorEq, initFr, reduceLT, clsA, reduceLeDiff, reduceMul, reduceSub, reduceIte, hwr]
        exact hn _ _ _ ⟨i + 1, _, _, _, rfl, rfl, by omega, go (by simp [shpB, h2n, hs]), rfl⟩ (by omega)
      | false =>
        simp (disch := first | assumption | omega | (simp only [LN] <;> omega) | (simp (disch := first | assumption | omega | (simp only [LN] <;> omega)) only [row_alloc, row_set]; assumption)) only [W_block, P3, ↓reduceIte, reduceAdd, reduceEqDiff, reduceCtorEq, initFr, reduceLT, clsA, reduceLeDiff, reduceMul, reduceSub, reduceIte]
        refine callK (t82 _ n [45] hlen (by simp)) ?_
        rintro _ _ ⟨rfl, rfl⟩
        cases hs2 : sufB [45] n with
        | true =>
          simp (disch := first | assumption | omega | (simp only [LN] <;> omega) | (simp (disch := first | assumption | omega | (simp only [LN] <;> omega)) only [row_alloc, row_set]; assumption)) only [W_block, P3, ↓reduceIte, reduceAdd, reduceEqDiff, reduceCtorEq, initFr, reduceLT, clsA, reduceLeDiff, reduceMul, reduceSub, reduceIte, hwr]
          exact hn _ _ _ ⟨i + 1, _, _, _, rfl, rfl, by omega, go (by simp [shpB, h2n, hs2]), rfl⟩ (by omega)
        | false =>
          simp (disch := first | assumption | omega | (simp only [LN] <;> omega) | (simp (disch := first | assumption | omega | (simp only [LN] <;> omega)) only [row_alloc, row_set]; assumption)) only [W_block, P3, ↓reduceIte, reduceAdd, reduceEqDiff, reduceCtorEq, initFr, reduceLT, clsA, reduceLeDiff, reduceMul, reduceSub, reduceIte]
          refine hret _ _ (hq2 _ _ ⟨_, rfl, ?_, rfl⟩)
          rw [stop (by simp [shpB, hs, hs2])]; rfl
  · have h3 : ¬ (i : Int) < ((ws.length : Nat) : Int) := by omega
    simp (disch := first | assumption | omega | (simp only [LN] <;> omega) | (simp (disch := first | assumption | omega | (simp only [LN] <;> omega)) only [row_alloc, row_set]; assumption)) only [W_block, P3, ↓reduceIte, reduceAdd, reduceEqDiff, reduceCtorEq, initFr, reduceLT, clsA, reduceLeDiff, reduceMul, reduceSub, reduceIte, la]
    refine hx 0 _ _ ?_
    simp (disch := first | assumption | omega | (simp only [LN] <;> omega) | (simp (disch := first | assumption | omega | (simp only [LN] <;> omega)) only [row_alloc, row_set]; assumption)) only [W_block, P3, ↓reduceIte, reduceAdd, reduceEqDiff, reduceCtorEq, initFr, reduceLT, clsA, reduceLeDiff, reduceMul, reduceSub, reduceIte]
    refine hq2 _ _ ⟨_, rfl, ?_, rfl⟩
    rw [List.take_of_length_le (by omega)] at hp
    rw [hp]; rfl
def nOf (t : Nat) (M : MB) (w : List UInt8) : Option (Int × Bool) := (kOf t M (w.take (w.length - 1))).map fun i => (i, sufB [45] w)
def nAll (t : Nat) (M : MB) : List (List UInt8) → Option (List (Int × Bool))
  | [] => some []
  | n :: l => match nOf t M n with
    | some i => (nAll t M l).map (i :: ·)
    | none => none
theorem nAll_snoc (t : Nat) (M : MB) (n : List UInt8) : ∀ (a : List (List UInt8)), nAll t M (a ++ [n]) = match nAll t M a, nOf t M n with
    | some l, some i => some (l ++ [i])
    | _, _ => none
  | [] => by simp only [List.nil_append, nAll]; cases nOf t M n <;> rfl
  | x :: a => by
    simp only [List.cons_append, nAll, nAll_snoc t M n a]
    cases nOf t M x with
    | none => cases nOf t M n <;> rfl
    | some i => cases nAll t M a <;> cases nOf t M n <;> rfl
theorem nAll_stop {t : Nat} {M : MB} {n : List UInt8} (h : nOf t M n = none) : ∀ {l : List (List UInt8)}, n ∈ l → nAll t M l = none
  | x :: l, hm => by
    simp only [nAll]
    rcases List.mem_cons.1 hm with rfl | hm
    · rw [h]
    · rw [nAll_stop h hm]; cases nOf t M x <;> rfl
set_option maxHeartbeats 1000000 in
theorem t65 {H : AHeap} {b mb T : Nat} {own room : Bool} {c : List Value} {M : MB} {v : Value} {ws : List (List UInt8)} (hb : H.get b = some (.cells own room 5 c T)) (hc : c[4]? = some (.map (some mb))) (hm : MP sEnc H mb (mbs M)) (h : TL H v ws) (hl : ws.length ≤ 1000000000) (hws : ∀ w ∈ ws, 1 ≤ w.length ∧ w.length ≤ 1000000000) :
    ∃ w H', ARun Go.Proofs.Tryd.prog 4 65 [ptr b 0, v] H w H' ∧ Keeps H H' ∧ ∃ x, w = .tuple #[x, .bool (nAll 63 M ws).isSome] ∧ OW 45 2 H H' x (((nAll 63 M ws).getD []).map nRow) := by
  refine walk2 f65_ok f65_n ?_
  intro Q hq1 hq2
  have ia := Sl.is h
  have la := h.len
  simp (disch := first | assumption | omega | (simp only [LN] <;> omega) | (simp (disch := first | assumption | omega | (simp only [LN] <;> omega)) only [row_alloc, row_set]; assumption)) only [ f65, P3, ↓reduceIte, reduceAdd, reduceEqDiff, reduceCtorEq, initFr, reduceLT, clsA, reduceLeDiff, reduceMul, reduceSub, reduceIte, la]
  rw [W_block]
  refine W_loop2 (fun k fr K => ∃ i s l x5 x6 x7 x11 x12, fr = [ptr b 0, v, .slice none 0 0, .bool false, s, x5, x6, x7, v, .int .i64 ((ws.length : Nat) : Int), .int .i64 ((i : Nat) : Int), x11, x12] ∧ OW 45 2 H K s (l.map nRow) ∧ nAll 63 M (ws.take i) = some l ∧ l.length = i ∧ i ≤ ws.length ∧ k = ws.length - i) ws.length
    ⟨0, _, [], _, _, _, _, _, rfl, OW.nil _ _ (Keeps.refl H), by simp [nAll], rfl, by omega, rfl⟩ ?_
  rintro Q' k fr K ⟨i, s, l, x5, x6, x7, x11, x12, rfl, ho, hp, hll, hi, rfl⟩ hn hx hret
  by_cases hlt : i < ws.length
  · obtain ⟨na, ra⟩ := (h.keeps ho.k).at_ hlt
    have h0 : (0 : Int) ≤ (i : Int) := by omega
    have h1 : (i : Int) < ((lenS v : Nat) : Int) := by omega
    have h3 : (i : Int) < ((ws.length : Nat) : Int) := by omega
    have hw : IntKind.i64.wrap ((i : Int) + 1) = ((i + 1 : Nat) : Int) := by rw [wrap_i64 (by omega) (by omega)]; simp
    have hlen := hws _ (getD_mem (d := []) hlt)
    have gb := ho.k.at_ hb
    have ts := nAll_snoc 63 M (ws.getD i []) (ws.take i)
    rw [← take_snoc [] hlt, hp] at ts
    have stop := fun e => nAll_stop (t := 63) (M := M) (n := ws.getD i []) e (l := ws) (getD_mem hlt)
    unfold tRow at ra
    generalize ws.getD i [] = n at *
    have gm := a_mgetN (hm.get (ho.k.get _ hm.lt)) (n.take (n.length - 1))
    have ga := a_assertN (K := K) 63 (n.take (n.length - 1)) M
    have hw1 : IntKind.i64.wrap (((n.length : Nat) : Int) - 1) = ((n.length - 1 : Nat) : Int) := by rw [wrap_i64 (by omega) (by omega)]; omega
    have hc1 : asem (.slstr (.string ⟨n.toArray⟩) none (some (.int .i64 ((n.length - 1 : Nat) : Int)))) K = some (.string ⟨(n.take (n.length - 1)).toArray⟩, K) := a_slsP (by omega)
    cases hk : kOf 63 M (n.take (n.length - 1)) with
    | none =>
      have hk' : nOf 63 M n = none := by simp [nOf, hk]
      rw [hk] at ga
      simp only [Option.getD_none, Option.isSome_none] at ga
      simp (disch := first | assumption | omega | (simp only [LN] <;> omega) | (simp (disch := first | assumption | omega | (simp only [LN] <;> omega)) only [row_alloc, row_set]; assumption)) only [W_block, P3, ↓reduceIte, reduceAdd, reduceEqDiff, reduceCtorEq, initFr, reduceLT, clsA, reduceLeDiff, reduceMul, reduceSub, reduceIte, la, ra, na, a_load1v, gb, hc, sd_mget, gm, ga, a_lens, hw1, hc1]
      refine hret _ _ (hq2 _ _ ⟨_, rfl, ho.k, .slice none 0 0, ?_, ?_⟩)
      · rw [stop hk']; rfl
      · rw [stop hk']; exact OW.nil _ _ ho.k
    | some j =>
      have hk' : nOf 63 M n = some (j, sufB [45] n) := by simp [nOf, hk]
      rw [hk'] at ts
      rw [hk] at ga
      simp only [Option.getD_some, Option.isSome_some] at ga
      simp (disch := first | assumption | omega | (simp only [LN] <;> omega) | (simp (disch := first | assumption | omega | (simp only [LN] <;> omega)) only [row_alloc, row_set]; assumption)) only [W_block, P3, ↓reduceIte, reduceAdd, reduceEqDiff, reduceCtorEq, initFr, reduceLT, clsA, reduceLeDiff, reduceMul, reduceSub, reduceIte, la, ra, na, a_load1v, gb, hc, sd_mget, gm, ga, a_lens, hw1, hc1]
      refine callK (t82 _ n [45] hlen.2 (by simp)) ?_
      rintro _ X ⟨rfl, hX⟩
      rw [hX]
      have hf2 : fillA [.int .i64 0, .bool false] [(0, 1, .int .i64 j), (1, 1, .bool (sufB [45] n))] = some [.int .i64 j, .bool (sufB [45] n)] := rfl
      have hf3 : fillA [.int .i64 0, .bool false] [(0, 2, .agg #[.int .i64 j, .bool (sufB [45] n)])] = some [.int .i64 j, .bool (sufB [45] n)] := rfl
      simp (disch := first | assumption | omega | (simp only [LN] <;> omega) | (simp (disch := first | assumption | omega | (simp only [LN] <;> omega)) only [row_alloc, row_set]; assumption)) only [W_block, P3, ↓reduceIte, reduceAdd, reduceEqDiff, reduceCtorEq, initFr, reduceLT, clsA, reduceLeDiff, reduceMul, reduceSub, reduceIte, hf2, hf3]
      have ho2 := ho.keeps ((Keeps.refl K).alloc (.cells true false 2 [.int .i64 j, .bool (sufB [45] n)] 45))
      refine ho2.appR (b := 16) (Sl.one1 rfl rfl) (by simp only [List.length_map, List.length_cons, List.length_nil]; omega) ?_
      intro v' K' ho3 _
      simp (disch := first | assumption | omega | (simp only [LN] <;> omega) | (simp (disch := first | assumption | omega | (simp only [LN] <;> omega)) only [row_alloc, row_set]; assumption)) only [W_block, P3, ↓reduceIte, reduceAdd, reduceEqDiff, reduceCtorEq, initFr, reduceLT, clsA, reduceLeDiff, reduceMul, reduceSub, reduceIte, hw]
      refine hn _ _ _ ⟨i + 1, _, l ++ [(j, sufB [45] n)], _, _, _, _, _, rfl, ?_, ts, by simp [hll], by omega, rfl⟩ (by omega)
      simpa [nRow] using ho3
  · have h3 : ¬ (i : Int) < ((ws.length : Nat) : Int) := by omega
    simp (disch := first | assumption | omega | (simp only [LN] <;> omega) | (simp (disch := first | assumption | omega | (simp only [LN] <;> omega)) only [row_alloc, row_set]; assumption)) only [W_block, P3, ↓reduceIte, reduceAdd, reduceEqDiff, reduceCtorEq, initFr, reduceLT, clsA, reduceLeDiff, reduceMul, reduceSub, reduceIte, la]
    refine hx 0 _ _ ?_
    simp (disch := first | assumption | omega | (simp only [LN] <;> omega) | (simp (disch := first | assumption | omega | (simp only [LN] <;> omega)) only [row_alloc, row_set]; assumption)) only [W_block, P3, ↓reduceIte, reduceAdd, reduceEqDiff, reduceCtorEq, initFr, reduceLT, clsA, reduceLeDiff, reduceMul, reduceSub, reduceIte]
    rw [List.take_of_length_le (by omega)] at hp
    refine hq2 _ _ ⟨_, rfl, ho.k, s, ?_, ?_⟩
    · rw [hp]; rfl
    · rw [hp]; exact ho
end Go.AM.Fd

set_option linter.unusedSimpArgs false
set_option linter.unusedVariables false
namespace Go.AM.Fd
open Go.Proofs Go.AM.F
def bkO (u : V4) (mb : Nat) : AO := .cells true false 5 [u.s, u.p, u.g, u.r, .map (some mb)] 49
def thM (mb : Nat) (M : MB) : Th where
  P K := MP sEnc K mb (mbs M)
  F := [mb]
  lt K h y hy := by simp at hy; subst hy; exact h.lt
  st K K' h _ k := h.get (k mb (by simp))
def RV.bl (x : RV) : List Nat := tb x.vp ++ tb x.vq ++ tb x.vo ++ tb x.vf
theorem Sl.st {K K' : AHeap} {esz : Nat} {v : Value} {rows : List (List Value)} (h : Sl K esz v rows) (hn : K.n ≤ K'.n) (k : ∀ b ∈ tb v, K'.get b = K.get b) : Sl K' esz v rows :=
  h.chgT (S := (List.range K.n).filter fun b => !(tb v).contains b) ⟨hn, fun b hb hS => by
    by_cases hm : b ∈ tb v
    · exact k b hm
    · exact absurd (List.mem_filter.2 ⟨List.mem_range.2 hb, by simpa using hm⟩) hS⟩ (fun b hb hS => by
    have := (List.mem_filter.1 hS).2
    simp [hb] at this)
theorem RV.ok.lt {K : AHeap} {x : RV} (h : x.ok K) : ∀ b ∈ x.bl, b < K.n := by
  intro b hb
  simp only [RV.bl, List.mem_append] at hb
  rcases hb with ((hb | hb) | hb) | hb
  · exact Sl.tbl h.p b hb
  · exact Sl.tbl h.q b hb
  · exact Sl.tbl h.o b hb
  · exact Sl.tbl h.f b hb
theorem RV.ok.st {K K' : AHeap} {x : RV} (h : x.ok K) (hn : K.n ≤ K'.n) (k : ∀ b ∈ x.bl, K'.get b = K.get b) : x.ok K' := by
  simp only [RV.bl, List.mem_append] at k
  exact ⟨Sl.st h.p hn fun b hb => k b (.inl (.inl (.inl hb))), Sl.st h.q hn fun b hb => k b (.inl (.inl (.inr hb))), Sl.st h.o hn fun b hb => k b (.inl (.inr hb)), Sl.st h.f hn fun b hb => k b (.inr hb)⟩
def thI (xs : List RV) : Th where
  P K := ∀ x ∈ xs, x.ok K
  F := xs.flatMap RV.bl
  lt K h y hy := by
    obtain ⟨x, hx, hy⟩ := List.mem_flatMap.1 hy
    exact (h x hx).lt y hy
  st K K' h hn k := fun x hx => (h x hx).st hn fun b hb => k b (List.mem_flatMap.2 ⟨x, hx, hb⟩)
def bkT (b mb : Nat) (u : V4) (xs : List RV) (L : Ly) (M : MB) (ex : List Th) : List Th :=
  thB b (bkO u mb) :: thM mb M :: thA 9 1 u.s L.s.length (L.s.map tRow).flatten :: thA 58 2 u.p L.p.length (L.p.map pRow).flatten :: thA 59 2 u.g L.g.length (L.g.map pRow).flatten :: thA 43 6 u.r xs.length (xs.map RV.row).flatten :: thI xs :: ex
def nameOf (L : Ly) (n : List UInt8) : Option (Nat × Int) := match ixT n L.s with
  | some i => some (62, i)
  | none => match ixT n (L.p.map (·.1)) with
    | some i => some (63, i)
    | none => match ixT n (L.g.map (·.1)) with
      | some i => some (65, i)
      | none => (ixT n (L.r.map (·.n))).map fun i => (66, (i : Int))
structure BkR (B K : AHeap) (b mb : Nat) (u : V4) (xs : List RV) (L : Ly) (M : MB) (ex : List Th) : Prop where
  sep : SepH B K (bkT b mb u xs L M ex)
  e : xs.map (·.r) = L.r
  n : ∀ n, bfind n M = nameOf L n
section
variable {B K : AHeap} {b mb : Nat} {u : V4} {xs : List RV} {L : Ly} {M : MB} {ex : List Th}
theorem BkR.gb (h : BkR B K b mb u xs L M ex) : K.get b = some (bkO u mb) := h.sep.at_ 0 rfl
theorem BkR.gm (h : BkR B K b mb u xs L M ex) : MP sEnc K mb (mbs M) := h.sep.at_ 1 rfl
theorem BkR.as (h : BkR B K b mb u xs L M ex) : AP K 9 1 u.s L.s.length (L.s.map tRow).flatten := h.sep.at_ 2 rfl
theorem BkR.ap (h : BkR B K b mb u xs L M ex) : AP K 58 2 u.p L.p.length (L.p.map pRow).flatten := h.sep.at_ 3 rfl
theorem BkR.ag (h : BkR B K b mb u xs L M ex) : AP K 59 2 u.g L.g.length (L.g.map pRow).flatten := h.sep.at_ 4 rfl
theorem BkR.ar (h : BkR B K b mb u xs L M ex) : AP K 43 6 u.r xs.length (xs.map RV.row).flatten := h.sep.at_ 5 rfl
theorem BkR.ly (h : BkR B K b mb u xs L M ex) : LyR K u xs L where
  s := h.as.sl (by intro r hr; obtain ⟨x, _, rfl⟩ := List.mem_map.1 hr; rfl) (by simp)
  p := h.ap.sl (by intro r hr; obtain ⟨x, _, rfl⟩ := List.mem_map.1 hr; rfl) (by simp)
  g := h.ag.sl (by intro r hr; obtain ⟨x, _, rfl⟩ := List.mem_map.1 hr; rfl) (by simp)
  r := h.ar.sl (by intro r hr; obtain ⟨x, _, rfl⟩ := List.mem_map.1 hr; rfl) (by simp)
  e := h.e
  ok := h.sep.at_ 6 rfl
theorem BkR.keeps {K' : AHeap} (h : BkR B K b mb u xs L M ex) (k : Keeps K K') : BkR B K' b mb u xs L M ex := ⟨h.sep.keeps k, h.e, h.n⟩
end
theorem bfind_app (n m : List UInt8) (x : Nat × Int) : ∀ M : MB, bfind n (M ++ [(m, x)]) = match bfind n M with
    | some y => some y
    | none => if n = m then some x else none
  | [] => rfl
  | (a, v) :: l => by
    simp only [List.cons_append, bfind]
    split
    · rfl
    · exact bfind_app n m x l
theorem ixT_app (n m : List UInt8) : ∀ l : List (List UInt8), ixT n (l ++ [m]) = match ixT n l with
    | some i => some i
    | none => if m = n then some l.length else none
  | [] => by simp [ixT]
  | x :: l => by
    simp only [List.cons_append, ixT, ixT_app n m l]
    split
    · rfl
    · cases ixT n l with
      | some i => rfl
      | none => by_cases h : m = n <;> simp [h]
end Go.AM.Fd

set_option linter.unusedSimpArgs false
set_option linter.unusedVariables false
namespace Go.AM.Fd
open Nat (reduceAdd reduceEqDiff reduceLT reduceLeDiff reduceMul reduceSub)
open Go.Proofs Go.AM.F
theorem nameOf_s {L : Ly} {n : List UInt8} (h : nameOf L n = none) (m : List UInt8) : (match nameOf L m with
    | some y => some y
    | none => if m = n then some (62, ((L.s.length : Nat) : Int)) else none) = nameOf { L with s := L.s ++ [n] } m := by
  by_cases e : m = n
  · subst e
    rw [h]
    unfold nameOf at h ⊢
    simp only [ixT_app, if_true]
    cases hs : ixT m L.s with
    | some i => rw [hs] at h; cases h
    | none => rfl
  · have e' : ¬ n = m := fun x => e x.symm
    unfold nameOf
    simp only [ixT_app, if_neg e']
    cases hs : ixT m L.s with
    | some i => rfl
    | none =>
      simp only [if_neg e]
      cases hp : ixT m (L.p.map (·.1)) with
      | some i => rfl
      | none =>
        simp only
        cases hg : ixT m (L.g.map (·.1)) with
        | some i => rfl
        | none =>
          simp only
          cases hr : ixT m (L.r.map (·.n)) <;> rfl
def secP (L : Ly) (ws : List (List UInt8)) : Int × Ly :=
  if ws.length ≠ 2 ∨ rightB (ws.getD 1 []) = false then (40, L)
  else if (nameOf L (ws.getD 1 [])).isSome then (41, L)
  else if L.s.length = 64 then (3, L)
  else (0, { L with s := L.s ++ [ws.getD 1 []] })
def Aw (v : Value) (ts : List Th) : Prop := ∀ y ∈ tb v, ∀ t ∈ ts, y ∉ t.F
theorem BkR.fresh {B K : AHeap} {b mb : Nat} {u : V4} {xs : List RV} {L : Ly} {M : MB} {ex : List Th} (h : BkR B K b mb u xs L M ex) (n : List UInt8) (x : Nat × Int) :
    ∃ w K', ARun Go.Proofs.Tryd.prog 4 27 [ptr b 0, .string ⟨n.toArray⟩, mval x] K w K' ∧ w = .bool (!(nameOf L n).isSome) ∧ Chg [mb] K K' ∧ (nameOf L n = none → SepH B K' (bkT b mb u xs L (M ++ [(n, x)]) ex)) := by
  obtain ⟨w, K', r, rfl, c, m⟩ := t27 (hc := rfl) h.gb h.gm n (x := mval x) rfl
  have e : (mfind n (mbs M)).isNone = !(nameOf L n).isSome := by
    rw [mfind_mbs, h.n]; cases nameOf L n <;> rfl
  rw [e] at r m
  refine ⟨_, _, r, rfl, c, fun hn => ?_⟩
  rw [hn] at m
  simp only [Option.isSome_none, Bool.not_false, if_true] at m
  refine h.sep.u1 (t := thM mb M) (t' := thM mb (M ++ [(n, x)])) c ?_ (fun y hy => .inl hy)
  show MP sEnc K' mb (mbs (M ++ [(n, x)]))
  simpa [mbs] using m
set_option maxHeartbeats 1000000 in
theorem t44 {B K : AHeap} {b mb : Nat} {u : V4} {xs : List RV} {L : Ly} {M : MB} {ex : List Th} {v : Value} {ws : List (List UInt8)} (h : BkR B K b mb u xs L M ex) (hv : TL K v ws) (ha : Aw v (bkT b mb u xs L M ex)) (hl : ws.length ≤ 1000000000) (hw : ∀ w ∈ ws, w.length ≤ 1000000000) (hsl : L.s.length ≤ 64) :
    ∃ w K', ARun Go.Proofs.Tryd.prog 4 44 [ptr b 0, v] K w K' ∧ Keeps B K' ∧ w = .int .i64 (secP L ws).1 ∧ ((secP L ws).1 = 0 → ∃ u' M', BkR B K' b mb u' xs (secP L ws).2 M' ex) := by
  refine walk2 f44_ok f44_n ?_
  intro Q hq1 hq2
  have ia := Sl.is hv
  have la := hv.len
  have gb := h.gb
  simp only [bkO] at gb
  by_cases h2 : ws.length = 2
  rotate_left
  · have e2 : (((ws.length : Nat) : Int) != 2) = true := by simp; omega
    have ep : secP L ws = (40, L) := by simp [secP, h2]
    simp (disch := first | assumption | omega | (simp only [LN] <;> omega) | (simp (disch := first | assumption | omega | (simp only [LN] <;> omega)) only [row_alloc, row_set]; assumption)) only [f44, W_block, P3, ↓reduceIte, reduceAdd, reduceEqDiff, reduceCtorEq, initFr, reduceLT, clsA, reduceLeDiff, reduceMul, reduceSub, reduceIte, la, e2]
    refine hq2 _ _ ⟨_, rfl, h.sep.k, by rw [ep]; rfl, by rw [ep]; intro e; cases e⟩
  have e2 : (((ws.length : Nat) : Int) != 2) = false := by simp; omega
  obtain ⟨na, ra⟩ := hv.at_ (i := 1) (by omega)
  have hlen := hw _ (getD_mem (d := []) (show 1 < ws.length by omega))
  have h1 : (0 : Int) ≤ 1 := by omega
  have h3 : (1 : Int) < ((lenS v : Nat) : Int) := by omega
  unfold tRow at ra
  have t1 : Int.toNat 1 = 1 := rfl
  have hsp : ∀ r, rightB (ws.getD 1 []) = r → secP L ws = if r = false then (40, L) else if (nameOf L (ws.getD 1 [])).isSome then (41, L) else if L.s.length = 64 then (3, L) else (0, { L with s := L.s ++ [ws.getD 1 []] }) := by
    intro r hr
    unfold secP
    rw [hr]
    cases r
    · rw [if_pos (.inr rfl), if_pos rfl]
    · have e : ¬ (ws.length ≠ 2 ∨ False) := by intro e; rcases e with e | e; exact e h2; exact e
      simp only [Bool.true_eq_false, if_false, if_neg e]
  simp (disch := first | assumption | omega | (simp only [LN] <;> omega) | (simp (disch := first | assumption | omega | (simp only [LN] <;> omega)) only [row_alloc, row_set]; assumption)) only [f44, W_block, P3, ↓reduceIte, reduceAdd, reduceEqDiff, reduceCtorEq, initFr, reduceLT, clsA, reduceLeDiff, reduceMul, reduceSub, reduceIte, la, e2, ra, na, a_load1v, t1]
  refine callK (t26 _ _ (Nat.le_trans hlen (by decide))) ?_
  rintro _ X ⟨rfl, hX⟩
  rw [hX]
  cases hr : rightB (ws.getD 1 []) with
  | false =>
    have ep : secP L ws = (40, L) := by rw [hsp _ hr]; rfl
    simp (disch := first | assumption | omega | (simp only [LN] <;> omega) | (simp (disch := first | assumption | omega | (simp only [LN] <;> omega)) only [row_alloc, row_set]; assumption)) only [W_block, P3, ↓reduceIte, reduceAdd, reduceEqDiff, reduceCtorEq, initFr, reduceLT, clsA, reduceLeDiff, reduceMul, reduceSub, reduceIte]
    refine hq2 _ _ ⟨_, rfl, h.sep.k, by rw [ep]; rfl, by rw [ep]; intro e; cases e⟩
  | true =>
  have hsp2 := hsp _ hr
  simp only [Bool.true_eq_false, if_false] at hsp2
  have ls : lenS u.s = L.s.length := h.ly.s.len
  have is := Sl.is h.ly.s
  simp (disch := first | assumption | omega | (simp only [LN] <;> omega) | (simp (disch := first | assumption | omega | (simp only [LN] <;> omega)) only [row_alloc, row_set]; assumption)) only [W_block, P3, ↓reduceIte, reduceAdd, reduceEqDiff, reduceCtorEq, initFr, reduceLT, clsA, reduceLeDiff, reduceMul, reduceSub, reduceIte, la, ra, na, a_load1v, t1, gb, ls]
  refine callK (h.fresh (ws.getD 1 []) (62, ((L.s.length : Nat) : Int))) ?_
  rintro _ K1 ⟨rfl, c1, hs1⟩
  have kk1 := h.sep.k.chg_trans c1 (fun y hy => h.sep.gei 1 rfl (by simpa [thM] using hy))
  cases hn : nameOf L (ws.getD 1 []) with
  | some y =>
    have ep : secP L ws = (41, L) := by rw [hsp2, hn]; rfl
    simp (disch := first | assumption | omega | (simp only [LN] <;> omega) | (simp (disch := first | assumption | omega | (simp only [LN] <;> omega)) only [row_alloc, row_set]; assumption)) only [W_block, P3, ↓reduceIte, reduceAdd, reduceEqDiff, reduceCtorEq, initFr, reduceLT, clsA, reduceLeDiff, reduceMul, reduceSub, reduceIte, Option.isSome_some, Bool.not_true]
    refine hq2 _ _ ⟨_, rfl, kk1, by rw [ep]; rfl, by rw [ep]; intro e; cases e⟩
  | none =>
  have sep1 := hs1 hn
  have gb1 : K1.get b = some (bkO u mb) := sep1.at_ 0 rfl
  have as1 : AP K1 9 1 u.s L.s.length (L.s.map tRow).flatten := sep1.at_ 2 rfl
  simp only [bkO] at gb1
  have hv1 : TL K1 v ws := Sl.chgT hv c1 (fun y hy hm => ha y hy (thM mb M) (by simp [bkT]) (by simpa [thM] using hm))
  obtain ⟨na1, ra1⟩ := hv1.at_ (i := 1) (by omega)
  unfold tRow at ra1
  by_cases h64 : L.s.length = 64
  · have e3 : (((L.s.length : Nat) : Int) == 64) = true := by simp; omega
    have ep : secP L ws = (3, L) := by rw [hsp2, hn]; simp [h64]
    simp (disch := first | assumption | omega | (simp only [LN] <;> omega) | (simp (disch := first | assumption | omega | (simp only [LN] <;> omega)) only [row_alloc, row_set]; assumption)) only [W_block, P3, ↓reduceIte, reduceAdd, reduceEqDiff, reduceCtorEq, initFr, reduceLT, clsA, reduceLeDiff, reduceMul, reduceSub, reduceIte, Option.isSome_none, Bool.not_false, gb1, ls, e3]
    refine hq2 _ _ ⟨_, rfl, kk1, by rw [ep]; rfl, by rw [ep]; intro e; cases e⟩
  · have e3 : (((L.s.length : Nat) : Int) == 64) = false := by simp; omega
    have ep : secP L ws = (0, { L with s := L.s ++ [ws.getD 1 []] }) := by rw [hsp2, hn]; simp [h64]
    simp (disch := first | assumption | omega | (simp only [LN] <;> omega) | (simp (disch := first | assumption | omega | (simp only [LN] <;> omega)) only [row_alloc, row_set]; assumption)) only [W_block, P3, ↓reduceIte, reduceAdd, reduceEqDiff, reduceCtorEq, initFr, reduceLT, clsA, reduceLeDiff, reduceMul, reduceSub, reduceIte, Option.isSome_none, Bool.not_false, gb1, ls, e3, ra1, na1, a_load1v, t1, fill1s]
    have sep2 := sep1.keeps ((Keeps.refl K1).alloc (.cells true false 1 [.string ⟨(ws.getD 1 []).toArray⟩] 9))
    have as2 : AP _ 9 1 u.s L.s.length (L.s.map tRow).flatten := sep2.at_ 2 rfl
    refine appGD as2 ⟨_, _, rfl⟩ (elems_new rfl rfl) rfl ⟨by omega, by omega⟩ ?_
    intro v' K3 a3 c3 hb3
    have ov : v'.oneCell' = true := by obtain ⟨a, rfl⟩ := a3.shape; rfl
    have o1 : one1 v' = True := by simp [one1, ov]
    have sep3 := sep2.u2 (t' := thA 9 1 v' (L.s.length + 1) ((L.s.map tRow).flatten ++ [Value.string ⟨(ws.getD 1 []).toArray⟩])) c3 a3 (fun y hy => by
      rcases hb3 with e | e
      · left; have := mem_blkL.1 hy; rw [e] at this; exact mem_blkL.2 this
      · right; have := mem_blkL.1 hy; rw [e] at this; cases this; exact Nat.le_refl _)
    have gb3 : K3.get b = some (bkO u mb) := sep3.at_ 0 rfl
    simp only [bkO] at gb3
    simp (disch := first | assumption | omega | (simp only [LN] <;> omega) | (simp (disch := first | assumption | omega | (simp only [LN] <;> omega)) only [row_alloc, row_set]; assumption)) only [W_block, P3, ↓reduceIte, reduceAdd, reduceEqDiff, reduceCtorEq, initFr, reduceLT, clsA, reduceLeDiff, reduceMul, reduceSub, reduceIte, gb3, o1, ov]
    have sep4 := sep3.u0 (t' := thB b (bkO ⟨v', u.p, u.g, u.r⟩ mb)) (Chg.set K3 (AHeap.get_lt gb3) (bkO ⟨v', u.p, u.g, u.r⟩ mb)) (AHeap.get_set_same gb3 _) (fun y hy => .inl hy)
    refine hq2 _ _ ⟨_, rfl, sep4.k, by rw [ep]; rfl, fun _ => ⟨⟨v', u.p, u.g, u.r⟩, M ++ [(ws.getD 1 [], (62, ((L.s.length : Nat) : Int)))], ?_⟩⟩
    rw [ep]
    have ef : (L.s.map tRow).flatten ++ [Value.string ⟨(ws.getD 1 []).toArray⟩] = ((L.s ++ [ws.getD 1 []]).map tRow).flatten := by simp [tRow]
    rw [ef] at sep4
    refine ⟨?_, h.e, fun m => ?_⟩
    · have : L.s.length + 1 = (L.s ++ [ws.getD 1 []]).length := by simp
      rw [this] at sep4
      exact sep4
    · rw [bfind_app, h.n]; exact nameOf_s hn m
end Go.AM.Fd

set_option linter.unusedSimpArgs false
set_option linter.unusedVariables false
namespace Go.AM.Fd
open Go.Proofs Go.AM.F
theorem nameOf_p {L : Ly} {n : List UInt8} (i : Int) (h : nameOf L n = none) (m : List UInt8) : (match nameOf L m with
    | some y => some y
    | none => if m = n then some (63, ((L.p.length : Nat) : Int)) else none) = nameOf { L with p := L.p ++ [(n, i)] } m := by
  have e0 : (L.p ++ [(n, i)]).map (·.1) = L.p.map (·.1) ++ [n] := by simp
  have el : (L.p.map (·.1)).length = L.p.length := by simp
  unfold nameOf at h ⊢
  simp only [e0, ixT_app, el]
  by_cases e : m = n
  · subst e
    cases hs : ixT m L.s with
    | some j => simp [hs] at h
    | none =>
      rw [hs] at h
      simp only at h ⊢
      cases hp : ixT m (L.p.map (·.1)) with
      | some j => simp [hp] at h
      | none =>
        rw [hp] at h
        simp only at h ⊢
        rw [h]; simp
  · have e' : ¬ n = m := fun x => e x.symm
    simp only [if_neg e']
    cases hs : ixT m L.s with
    | some j => rfl
    | none =>
      simp only [if_neg e]
      cases hp : ixT m (L.p.map (·.1)) with
      | some j => rfl
      | none =>
        simp only
        cases hg : ixT m (L.g.map (·.1)) with
        | some j => rfl
        | none =>
          simp only
          cases hr : ixT m (L.r.map (·.n)) <;> rfl
theorem nameOf_g {L : Ly} {n : List UInt8} (i : Int) (h : nameOf L n = none) (m : List UInt8) : (match nameOf L m with
    | some y => some y
    | none => if m = n then some (65, ((L.g.length : Nat) : Int)) else none) = nameOf { L with g := L.g ++ [(n, i)] } m := by
  have e0 : (L.g ++ [(n, i)]).map (·.1) = L.g.map (·.1) ++ [n] := by simp
  have el : (L.g.map (·.1)).length = L.g.length := by simp
  unfold nameOf at h ⊢
  simp only [e0, ixT_app, el]
  by_cases e : m = n
  · subst e
    cases hs : ixT m L.s with
    | some j => simp [hs] at h
    | none =>
      rw [hs] at h
      simp only at h ⊢
      cases hp : ixT m (L.p.map (·.1)) with
      | some j => simp [hp] at h
      | none =>
        rw [hp] at h
        simp only at h ⊢
        cases hg : ixT m (L.g.map (·.1)) with
        | some j => simp [hg] at h
        | none =>
          rw [hg] at h
          simp only at h ⊢
          rw [h]; simp
  · have e' : ¬ n = m := fun x => e x.symm
    simp only [if_neg e']
    cases hs : ixT m L.s with
    | some j => rfl
    | none =>
      simp only [if_neg e]
      cases hp : ixT m (L.p.map (·.1)) with
      | some j => rfl
      | none =>
        simp only
        cases hg : ixT m (L.g.map (·.1)) with
        | some j => rfl
        | none =>
          simp only
          cases hr : ixT m (L.r.map (·.n)) <;> rfl
def kN (t : Nat) (L : Ly) (n : List UInt8) : Option Int := match nameOf L n with
  | some (u, i) => if u = t then some i else none
  | none => none
theorem BkR.kN {B K : AHeap} {b mb : Nat} {u : V4} {xs : List RV} {L : Ly} {M : MB} {ex : List Th} (h : BkR B K b mb u xs L M ex) (t : Nat) (n : List UInt8) : kOf t M n = kN t L n := by
  unfold kOf Fd.kN; rw [h.n]; try (cases nameOf L n <;> rfl)
theorem a_mgetT {K : AHeap} {mb : Nat} {M : MB} (hm : MP sEnc K mb (mbs M)) (n : List UInt8) : asem (.mget .string .nilIface true (.map (some mb)) (.string ⟨n.toArray⟩)) K = some (.tuple #[((bfind n M).map mval).getD .nilIface, .bool (bfind n M).isSome], K) := by
  have := a_mget sEnc_e hm n .nilIface true
  rw [mfind_mbs] at this
  simp only [sEnc] at this
  rw [this]
  cases bfind n M <;> rfl
end Go.AM.Fd

set_option linter.unusedSimpArgs false
set_option linter.unusedVariables false
namespace Go.AM.Fd
open Nat (reduceAdd reduceEqDiff reduceLT reduceLeDiff reduceMul reduceSub)
open Go.Proofs Go.AM.F
def wPoint : List UInt8 := [112, 111, 105, 110, 116]
def partP (L : Ly) (ws : List (List UInt8)) : Int × Ly :=
  if ws.length ≠ 3 ∨ rightB (ws.getD 1 []) = false then (40, L)
  else if (nameOf L (ws.getD 1 [])).isSome then (41, L)
  else match kN 62 L (ws.getD 2 []) with
    | none => (42, L)
    | some i =>
      if ws.getD 0 [] = wPoint then (if L.p.length = 32 then (3, L) else (0, { L with p := L.p ++ [(ws.getD 1 [], i)] }))
      else if L.g.length = 32 then (3, L) else (0, { L with g := L.g ++ [(ws.getD 1 [], i)] })
set_option maxHeartbeats 4000000 in
theorem t45 {B K : AHeap} {b mb : Nat} {u : V4} {xs : List RV} {L : Ly} {M : MB} {ex : List Th} {v : Value} {ws : List (List UInt8)} (h : BkR B K b mb u xs L M ex) (hv : TL K v ws) (ha : Aw v (bkT b mb u xs L M ex)) (hl : ws.length ≤ 1000000000) (hw : ∀ w ∈ ws, w.length ≤ 1000000000) (hpl : L.p.length ≤ 32) (hgl : L.g.length ≤ 32) :
    ∃ w K', ARun Go.Proofs.Tryd.prog 4 45 [ptr b 0, v] K w K' ∧ Keeps B K' ∧ w = .int .i64 (partP L ws).1 ∧ ((partP L ws).1 = 0 → ∃ u' M', BkR B K' b mb u' xs (partP L ws).2 M' ex) := by
  refine walk2 f45_ok f45_n ?_
  intro Q hq1 hq2
  have ia := Sl.is hv
  have la := hv.len
  have gb := h.gb
  simp only [bkO] at gb
  by_cases h2 : ws.length = 3
  rotate_left
  · have e2 : (((ws.length : Nat) : Int) != 3) = true := by simp; omega
    have ep : partP L ws = (40, L) := by simp [partP, h2]
    simp (disch := first | assumption | omega | (simp only [LN] <;> omega) | (simp (disch := first | assumption | omega | (simp only [LN] <;> omega)) only [row_alloc, row_set]; assumption)) only [f45, W_block, P3, ↓reduceIte, reduceAdd, reduceEqDiff, reduceCtorEq, initFr, reduceLT, clsA, reduceLeDiff, reduceMul, reduceSub, reduceIte, la, e2]
    refine hq2 _ _ ⟨_, rfl, h.sep.k, by rw [ep]; rfl, by rw [ep]; intro e; cases e⟩
  have e2 : (((ws.length : Nat) : Int) != 3) = false := by simp; omega
  obtain ⟨na, ra⟩ := hv.at_ (i := 1) (by omega)
  obtain ⟨_, rb⟩ := hv.at_ (i := 2) (by omega)
  obtain ⟨_, rc⟩ := hv.at_ (i := 0) (by omega)
  have hlen := hw _ (getD_mem (d := []) (show 1 < ws.length by omega))
  have h0 : (0 : Int) ≤ 0 := by omega
  have h1 : (0 : Int) ≤ 1 := by omega
  have h12 : (0 : Int) ≤ 2 := by omega
  have h3 : (1 : Int) < ((lenS v : Nat) : Int) := by omega
  have h32 : (2 : Int) < ((lenS v : Nat) : Int) := by omega
  have h30 : (0 : Int) < ((lenS v : Nat) : Int) := by omega
  unfold tRow at ra rb rc
  have t1 : Int.toNat 1 = 1 := rfl
  have t2 : Int.toNat 2 = 2 := rfl
  have ed : partP L ws = if rightB (ws.getD 1 []) = false then ((40 : Int), L) else if (nameOf L (ws.getD 1 [])).isSome then (41, L) else match kN 62 L (ws.getD 2 []) with
    | none => (42, L)
    | some i => if ws.getD 0 [] = wPoint then (if L.p.length = 32 then (3, L) else (0, { L with p := L.p ++ [(ws.getD 1 [], i)] })) else if L.g.length = 32 then (3, L) else (0, { L with g := L.g ++ [(ws.getD 1 [], i)] }) := by
    unfold partP
    cases rightB (ws.getD 1 []) with
    | false => rw [if_pos (.inr rfl), if_pos rfl]
    | true =>
      have e : ¬ (ws.length ≠ 3 ∨ False) := by intro e; rcases e with e | e; exact e h2; exact e
      simp only [Bool.true_eq_false, if_false, if_neg e]
  simp (disch := first | assumption | omega | (simp only [LN] <;> omega) | (simp (disch := first | assumption | omega | (simp only [LN] <;> omega)) only [row_alloc, row_set]; assumption)) only [f45, W_block, P3, ↓reduceIte, reduceAdd, reduceEqDiff, reduceCtorEq, initFr, reduceLT, clsA, reduceLeDiff, reduceMul, reduceSub, reduceIte, la, e2, ra, na, a_load1v, t1]
  refine callK (t26 _ _ (Nat.le_trans hlen (by decide))) ?_
  rintro _ X ⟨rfl, hX⟩
  rw [hX]
  cases hr : rightB (ws.getD 1 []) with
  | false =>
    have ep : partP L ws = (40, L) := by rw [ed, hr]; rfl
    simp (disch := first | assumption | omega | (simp only [LN] <;> omega) | (simp (disch := first | assumption | omega | (simp only [LN] <;> omega)) only [row_alloc, row_set]; assumption)) only [W_block, P3, ↓reduceIte, reduceAdd, reduceEqDiff, reduceCtorEq, initFr, reduceLT, clsA, reduceLeDiff, reduceMul, reduceSub, reduceIte]
    refine hq2 _ _ ⟨_, rfl, h.sep.k, by rw [ep]; rfl, by rw [ep]; intro e; cases e⟩
  | true =>
  simp only [hr, Bool.true_eq_false, if_false] at ed
  have gm := a_mgetT h.gm (ws.getD 1 [])
  have gn := a_mgetN h.gm (ws.getD 2 [])
  have ga := a_assertN (K := K) 62 (ws.getD 2 []) M
  rw [h.n] at gm
  rw [h.kN] at ga
  cases hn : nameOf L (ws.getD 1 []) with
  | some y =>
    have ep : partP L ws = (41, L) := by rw [ed, hn]; rfl
    rw [hn] at gm
    simp only [Option.isSome_some] at gm
    simp (disch := first | assumption | omega | (simp only [LN] <;> omega) | (simp (disch := first | assumption | omega | (simp only [LN] <;> omega)) only [row_alloc, row_set]; assumption)) only [W_block, P3, ↓reduceIte, reduceAdd, reduceEqDiff, reduceCtorEq, initFr, reduceLT, clsA, reduceLeDiff, reduceMul, reduceSub, reduceIte, la, ra, na, a_load1v, t1, gb, sd_mget, gm]
    refine hq2 _ _ ⟨_, rfl, h.sep.k, by rw [ep]; rfl, by rw [ep]; intro e; cases e⟩
  | none =>
  rw [hn] at gm
  simp only [hn, Option.isSome_none, Bool.false_eq_true, if_false] at ed gm
  cases hk : kN 62 L (ws.getD 2 []) with
  | none =>
    have ep : partP L ws = (42, L) := by rw [ed, hk]
    rw [hk] at ga
    simp only [Option.getD_none, Option.isSome_none] at ga
    simp (disch := first | assumption | omega | (simp only [LN] <;> omega) | (simp (disch := first | assumption | omega | (simp only [LN] <;> omega)) only [row_alloc, row_set]; assumption)) only [W_block, P3, ↓reduceIte, reduceAdd, reduceEqDiff, reduceCtorEq, initFr, reduceLT, clsA, reduceLeDiff, reduceMul, reduceSub, reduceIte, la, ra, rb, na, a_load1v, t1, t2, gb, sd_mget, gm, gn, ga]
    refine hq2 _ _ ⟨_, rfl, h.sep.k, by rw [ep]; rfl, by rw [ep]; intro e; cases e⟩
  | some i =>
  simp only [hk] at ed
  rw [hk] at ga
  simp only [Option.getD_some, Option.isSome_some] at ga
  have t0 : Int.toNat 0 = 0 := rfl
  have hq : binA .eql (.string ⟨(ws.getD 0 []).toArray⟩) (.string ⟨⟨[112, 111, 105, 110, 116]⟩⟩) = some (.bool (decide (ws.getD 0 [] = wPoint))) := b_eqS _ wPoint
  have lp : lenS u.p = L.p.length := h.ly.p.len
  have lg : lenS u.g = L.g.length := h.ly.g.len
  have ip := Sl.is h.ly.p
  have ig := Sl.is h.ly.g
  by_cases hq0 : ws.getD 0 [] = wPoint
  · simp only [hq0, decide_true, if_true] at hq ed
    rw [hq0] at rc
    by_cases h64 : L.p.length = 32
    · have e3 : (((L.p.length : Nat) : Int) == 32) = true := by simp; omega
      have ep : partP L ws = (3, L) := by rw [ed, if_pos h64]
      simp (disch := first | assumption | omega | (simp only [LN] <;> omega) | (simp (disch := first | assumption | omega | (simp only [LN] <;> omega)) only [row_alloc, row_set]; assumption)) only [W_block, P3, ↓reduceIte, reduceAdd, reduceEqDiff, reduceCtorEq, initFr, reduceLT, clsA, reduceLeDiff, reduceMul, reduceSub, reduceIte, la, ra, rb, rc, na, a_load1v, t1, t2, t0, gb, sd_mget, gm, gn, ga, hq, lp, e3]
      refine hq2 _ _ ⟨_, rfl, h.sep.k, by rw [ep]; rfl, by rw [ep]; intro e; cases e⟩
    have e3 : (((L.p.length : Nat) : Int) == 32) = false := by simp; omega
    have ep : partP L ws = (0, { L with p := L.p ++ [(ws.getD 1 [], i)] }) := by rw [ed, if_neg h64]
    simp (disch := first | assumption | omega | (simp only [LN] <;> omega) | (simp (disch := first | assumption | omega | (simp only [LN] <;> omega)) only [row_alloc, row_set]; assumption)) only [W_block, P3, ↓reduceIte, reduceAdd, reduceEqDiff, reduceCtorEq, initFr, reduceLT, clsA, reduceLeDiff, reduceMul, reduceSub, reduceIte, la, ra, rb, rc, na, a_load1v, t1, t2, t0, gb, sd_mget, gm, gn, ga, hq, lp, e3]
    refine callK (h.fresh (ws.getD 1 []) (63, ((L.p.length : Nat) : Int))) ?_
    rintro _ K1 ⟨rfl, c1, hs1⟩
    have sep1 := hs1 hn
    have gb1 : K1.get b = some (bkO u mb) := sep1.at_ 0 rfl
    simp only [bkO] at gb1
    have hv1 : TL K1 v ws := Sl.chgT hv c1 (fun y hy hm => ha y hy (thM mb M) (by simp [bkT]) (by simpa [thM] using hm))
    obtain ⟨na1, ra1⟩ := hv1.at_ (i := 1) (by omega)
    unfold tRow at ra1
    have hf2 : fillA [.string ByteArray.empty, .int .i64 0] [(0, 1, .string ⟨(ws.getD 1 []).toArray⟩), (1, 1, .int .i64 i)] = some [.string ⟨(ws.getD 1 []).toArray⟩, .int .i64 i] := rfl
    have hf3 : fillA [.string ByteArray.empty, .int .i64 0] [(0, 2, .agg #[.string ⟨(ws.getD 1 []).toArray⟩, .int .i64 i])] = some [.string ⟨(ws.getD 1 []).toArray⟩, .int .i64 i] := rfl
    simp (disch := first | assumption | omega | (simp only [LN] <;> omega) | (simp (disch := first | assumption | omega | (simp only [LN] <;> omega)) only [row_alloc, row_set]; assumption)) only [W_block, P3, ↓reduceIte, reduceAdd, reduceEqDiff, reduceCtorEq, initFr, reduceLT, clsA, reduceLeDiff, reduceMul, reduceSub, reduceIte, gb1, ra1, na1, a_load1v, t1, hf2, hf3]
    have sep2 := sep1.keeps ((Keeps.refl K1).alloc (.cells true false 2 [.string ⟨(ws.getD 1 []).toArray⟩, .int .i64 i] 58))
    have as2 : AP _ 58 2 u.p L.p.length (L.p.map pRow).flatten := sep2.at_ 3 rfl
    refine appGD as2 ⟨_, _, rfl⟩ (elems_new rfl rfl) rfl ⟨by omega, by omega⟩ ?_
    intro v' K3 a3 c3 hb3
    have ov : v'.oneCell' = true := by obtain ⟨a, rfl⟩ := a3.shape; rfl
    have o1 : one1 v' = True := by simp [one1, ov]
    have sep3 := sep2.u3 (t' := thA 58 2 v' (L.p.length + 1) ((L.p.map pRow).flatten ++ [Value.string ⟨(ws.getD 1 []).toArray⟩, Value.int .i64 i])) c3 a3 (fun y hy => by
      rcases hb3 with e | e
      · left; have := mem_blkL.1 hy; rw [e] at this; exact mem_blkL.2 this
      · right; have := mem_blkL.1 hy; rw [e] at this; cases this; exact Nat.le_refl _)
    have gb3 : K3.get b = some (bkO u mb) := sep3.at_ 0 rfl
    simp only [bkO] at gb3
    simp (disch := first | assumption | omega | (simp only [LN] <;> omega) | (simp (disch := first | assumption | omega | (simp only [LN] <;> omega)) only [row_alloc, row_set]; assumption)) only [W_block, P3, ↓reduceIte, reduceAdd, reduceEqDiff, reduceCtorEq, initFr, reduceLT, clsA, reduceLeDiff, reduceMul, reduceSub, reduceIte, gb3, o1, ov]
    have sep4 := sep3.u0 (t' := thB b (bkO ⟨u.s, v', u.g, u.r⟩ mb)) (Chg.set K3 (AHeap.get_lt gb3) (bkO ⟨u.s, v', u.g, u.r⟩ mb)) (AHeap.get_set_same gb3 _) (fun y hy => .inl hy)
    refine hq2 _ _ ⟨_, rfl, sep4.k, by rw [ep]; rfl, fun _ => ⟨⟨u.s, v', u.g, u.r⟩, M ++ [(ws.getD 1 [], (63, ((L.p.length : Nat) : Int)))], ?_⟩⟩
    rw [ep]
    have ef : (L.p.map pRow).flatten ++ [Value.string ⟨(ws.getD 1 []).toArray⟩, Value.int .i64 i] = ((L.p ++ [(ws.getD 1 [], i)]).map pRow).flatten := by simp [pRow]
    rw [ef] at sep4
    refine ⟨?_, h.e, fun m => ?_⟩
    · have : L.p.length + 1 = (L.p ++ [(ws.getD 1 [], i)]).length := by simp
      rw [this] at sep4
      exact sep4
    · rw [bfind_app, h.n]; exact nameOf_p i hn m
  · have hd : decide (ws.getD 0 [] = wPoint) = false := by simpa using hq0
    rw [hd] at hq
    simp only [if_neg hq0] at ed
    by_cases h64 : L.g.length = 32
    · have e3 : (((L.g.length : Nat) : Int) == 32) = true := by simp; omega
      have ep : partP L ws = (3, L) := by rw [ed, if_pos h64]
      simp (disch := first | assumption | omega | (simp only [LN] <;> omega) | (simp (disch := first | assumption | omega | (simp only [LN] <;> omega)) only [row_alloc, row_set]; assumption)) only [W_block, P3, ↓reduceIte, reduceAdd, reduceEqDiff, reduceCtorEq, initFr, reduceLT, clsA, reduceLeDiff, reduceMul, reduceSub, reduceIte, la, ra, rb, rc, na, a_load1v, t1, t2, t0, gb, sd_mget, gm, gn, ga, hq, lg, e3]
      refine hq2 _ _ ⟨_, rfl, h.sep.k, by rw [ep]; rfl, by rw [ep]; intro e; cases e⟩
    have e3 : (((L.g.length : Nat) : Int) == 32) = false := by simp; omega
    have ep : partP L ws = (0, { L with g := L.g ++ [(ws.getD 1 [], i)] }) := by rw [ed, if_neg h64]
    simp (disch := first | assumption | omega | (simp only [LN] <;> omega) | (simp (disch := first | assumption | omega | (simp only [LN] <;> omega)) only [row_alloc, row_set]; assumption)) only [W_block, P3, ↓reduceIte, reduceAdd, reduceEqDiff, reduceCtorEq, initFr, reduceLT, clsA, reduceLeDiff, reduceMul, reduceSub, reduceIte, la, ra, rb, rc, na, a_load1v, t1, t2, t0, gb, sd_mget, gm, gn, ga, hq, lg, e3]
    refine callK (h.fresh (ws.getD 1 []) (65, ((L.g.length : Nat) : Int))) ?_
    rintro _ K1 ⟨rfl, c1, hs1⟩
    have sep1 := hs1 hn
    have gb1 : K1.get b = some (bkO u mb) := sep1.at_ 0 rfl
    simp only [bkO] at gb1
    have hv1 : TL K1 v ws := Sl.chgT hv c1 (fun y hy hm => ha y hy (thM mb M) (by simp [bkT]) (by simpa [thM] using hm))
    obtain ⟨na1, ra1⟩ := hv1.at_ (i := 1) (by omega)
    unfold tRow at ra1
    have hf2 : fillA [.string ByteArray.empty, .int .i64 0] [(0, 1, .string ⟨(ws.getD 1 []).toArray⟩), (1, 1, .int .i64 i)] = some [.string ⟨(ws.getD 1 []).toArray⟩, .int .i64 i] := rfl
    have hf3 : fillA [.string ByteArray.empty, .int .i64 0] [(0, 2, .agg #[.string ⟨(ws.getD 1 []).toArray⟩, .int .i64 i])] = some [.string ⟨(ws.getD 1 []).toArray⟩, .int .i64 i] := rfl
    simp (disch := first | assumption | omega | (simp only [LN] <;> omega) | (simp (disch := first | assumption | omega | (simp only [LN] <;> omega)) only [row_alloc, row_set]; assumption)) only [W_block, P3, ↓reduceIte, reduceAdd, reduceEqDiff, reduceCtorEq, initFr, reduceLT, clsA, reduceLeDiff, reduceMul, reduceSub, reduceIte, gb1, ra1, na1, a_load1v, t1, hf2, hf3]
    have sep2 := sep1.keeps ((Keeps.refl K1).alloc (.cells true false 2 [.string ⟨(ws.getD 1 []).toArray⟩, .int .i64 i] 59))
    have as2 : AP _ 59 2 u.g L.g.length (L.g.map pRow).flatten := sep2.at_ 4 rfl
    refine appGD as2 ⟨_, _, rfl⟩ (elems_new rfl rfl) rfl ⟨by omega, by omega⟩ ?_
    intro v' K3 a3 c3 hb3
    have ov : v'.oneCell' = true := by obtain ⟨a, rfl⟩ := a3.shape; rfl
    have o1 : one1 v' = True := by simp [one1, ov]
    have sep3 := sep2.u4 (t' := thA 59 2 v' (L.g.length + 1) ((L.g.map pRow).flatten ++ [Value.string ⟨(ws.getD 1 []).toArray⟩, Value.int .i64 i])) c3 a3 (fun y hy => by
      rcases hb3 with e | e
      · left; have := mem_blkL.1 hy; rw [e] at this; exact mem_blkL.2 this
      · right; have := mem_blkL.1 hy; rw [e] at this; cases this; exact Nat.le_refl _)
    have gb3 : K3.get b = some (bkO u mb) := sep3.at_ 0 rfl
    simp only [bkO] at gb3
    simp (disch := first | assumption | omega | (simp only [LN] <;> omega) | (simp (disch := first | assumption | omega | (simp only [LN] <;> omega)) only [row_alloc, row_set]; assumption)) only [W_block, P3, ↓reduceIte, reduceAdd, reduceEqDiff, reduceCtorEq, initFr, reduceLT, clsA, reduceLeDiff, reduceMul, reduceSub, reduceIte, gb3, o1, ov]
    have sep4 := sep3.u0 (t' := thB b (bkO ⟨u.s, u.p, v', u.r⟩ mb)) (Chg.set K3 (AHeap.get_lt gb3) (bkO ⟨u.s, u.p, v', u.r⟩ mb)) (AHeap.get_set_same gb3 _) (fun y hy => .inl hy)
    refine hq2 _ _ ⟨_, rfl, sep4.k, by rw [ep]; rfl, fun _ => ⟨⟨u.s, u.p, v', u.r⟩, M ++ [(ws.getD 1 [], (65, ((L.g.length : Nat) : Int)))], ?_⟩⟩
    rw [ep]
    have ef : (L.g.map pRow).flatten ++ [Value.string ⟨(ws.getD 1 []).toArray⟩, Value.int .i64 i] = ((L.g ++ [(ws.getD 1 [], i)]).map pRow).flatten := by simp [pRow]
    rw [ef] at sep4
    refine ⟨?_, h.e, fun m => ?_⟩
    · have : L.g.length + 1 = (L.g ++ [(ws.getD 1 [], i)]).length := by simp
      rw [this] at sep4
      exact sep4
    · rw [bfind_app, h.n]; exact nameOf_g i hn m
end Go.AM.Fd

set_option linter.unusedSimpArgs false
set_option linter.unusedVariables false
namespace Go.AM.Fd
open Nat (reduceAdd reduceEqDiff reduceLT reduceLeDiff reduceMul reduceSub)
open Go.Proofs Go.AM.F
def oAll {α : Type} (f : List UInt8 → Option α) : List (List UInt8) → Option (List α)
  | [] => some []
  | n :: l => match f n with
    | some i => (oAll f l).map (i :: ·)
    | none => none
theorem kAll_o (t : Nat) (M : MB) : ∀ l : List (List UInt8), kAll t M l = oAll (kOf t M) l
  | [] => rfl
  | n :: l => by simp only [kAll, oAll, kAll_o t M l]; cases kOf t M n <;> rfl
theorem nAll_o (t : Nat) (M : MB) : ∀ l : List (List UInt8), nAll t M l = oAll (nOf t M) l
  | [] => rfl
  | n :: l => by simp only [nAll, oAll, nAll_o t M l]; cases nOf t M n <;> rfl
def sIx (L : Ly) (n : List UInt8) : Option Int := (ixT n L.s).map fun i => (i : Int)
theorem kN_s (L : Ly) (n : List UInt8) : kN 62 L n = sIx L n := by
  unfold kN nameOf sIx
  cases ixT n L.s with
  | some i => rfl
  | none =>
    cases ixT n (L.p.map (·.1)) with
    | some i => rfl
    | none =>
      cases ixT n (L.g.map (·.1)) with
      | some i => rfl
      | none => cases ixT n (L.r.map (·.n)) <;> rfl
end Go.AM.Fd

set_option linter.unusedSimpArgs false
set_option linter.unusedVariables false
namespace Go.AM.Fd
open Nat (reduceAdd reduceEqDiff reduceLT reduceLeDiff reduceMul reduceSub)
open Go.Proofs Go.AM.F
def pIx (L : Ly) (n : List UInt8) : Option Int := (ixT n (L.p.map (·.1))).map fun i => (i : Int)
def nIx (L : Ly) (w : List UInt8) : Option (Int × Bool) := (pIx L (w.take (w.length - 1))).map fun i => (i, sufB [45] w)
end Go.AM.Fd

set_option linter.unusedSimpArgs false
set_option linter.unusedVariables false
namespace Go.AM.Fd
open Nat (reduceAdd reduceEqDiff reduceLT reduceLeDiff reduceMul reduceSub)
open Go.Proofs Go.AM.F
def okC (l : List UInt8) (x : Nat × Int) : Bool := !decide (x.2 < 32) && !(x.2 == 65533 && !wholeB l x.1)
def okW (l : List UInt8) : Bool := (runF l 0).all (okC l)
def wordsB (l : List UInt8) : List (List UInt8) := (splitB 32 l).filter fun t => !t.isEmpty
def txs (ts : List (List UInt8)) : List Value := ts.map fun t => .string ⟨t.toArray⟩
theorem txs_len (ts : List (List UInt8)) : (txs ts).length = ts.length := by simp [txs]
theorem txs_app (a : List (List UInt8)) (t : List UInt8) : txs a ++ [.string ⟨t.toArray⟩] = txs (a ++ [t]) := by simp [txs]
theorem AP.tl {H : AHeap} {v : Value} {ts : List (List UInt8)} (h : AP H 9 1 v ts.length (txs ts)) : TL H v ts := by
  refine AP.sl (rows := ts.map tRow) (e := 9) (n := ts.length) ?_ (by simp [tRow]) (by simp)
  have : (ts.map tRow).flatten = txs ts := by
    clear h
    unfold txs
    induction ts with
    | nil => rfl
    | cons t ts ih => simp only [List.map_cons, List.flatten_cons, ih]; rfl
  rw [this]
  simpa using h
theorem splitB_len (c : UInt8) : ∀ l : List UInt8, (splitB c l).length ≤ l.length + 1
  | [] => by simp [splitB]
  | x :: l => by
    have ih := splitB_len c l
    simp only [splitB]
    split
    · simp; omega
    · split
      · rename_i p r h; rw [h] at ih; simp at ih ⊢; omega
      · simp
theorem wordsB_len (l : List UInt8) : (wordsB l).length ≤ l.length + 1 := Nat.le_trans (List.length_filter_le ..) (splitB_len ..)
theorem ixB_drop {c : UInt8} {l : List UInt8} {f i : Nat} (hf : f ≤ i) (hi : i < l.length) (hc : l.getD i 0 = c) (hn : ∀ j, f ≤ j → j < i → l.getD j 0 ≠ c) : ixB c (l.drop f) = some (i - f) := by
  refine ixB_at (by rw [List.length_drop]; omega) ?_ (fun j hj => ?_)
  · simp only [List.getD, List.getElem?_drop] at hc ⊢
    rw [show f + (i - f) = i by omega]; exact hc
  · have := hn (f + j) (by omega) (by omega)
    simp only [List.getD, List.getElem?_drop] at this ⊢
    exact this
theorem ixB_drop_no {c : UInt8} {l : List UInt8} {f : Nat} (hn : ∀ j, f ≤ j → j < l.length → l.getD j 0 ≠ c) : ixB c (l.drop f) = none := by
  refine ixB_no (fun j hj => ?_)
  rw [List.length_drop] at hj
  have := hn (f + j) (by omega) (by omega)
  simp only [List.getD, List.getElem?_drop] at this ⊢
  exact this
def WRes (H : AHeap) (w : Value) (K : AHeap) (l : List UInt8) : Prop :=
  Keeps H K ∧ if okW (aheadB l) then ∃ v, w = .tuple #[v, .int .i64 0] ∧ AP K 9 1 v (wordsB (aheadB l)).length (txs (wordsB (aheadB l))) ∧ Fresh H.n v else w = .tuple #[.slice none 0 0, .int .i64 30]
theorem ahead_len (l : List UInt8) : (aheadB l).length ≤ l.length := by
  unfold aheadB
  split <;> simp; omega
end Go.AM.Fd

set_option linter.unusedSimpArgs false
set_option linter.unusedVariables false
set_option maxRecDepth 4000
namespace Go.AM.Fd
open Nat (reduceAdd reduceEqDiff reduceLT reduceLeDiff reduceMul reduceSub)
open Go.Proofs Go.AM.F
def flW (ts : List (List UInt8)) : List (List UInt8) := ts.filter fun t => !t.isEmpty
theorem flW_app (a : List (List UInt8)) (x : List UInt8) : flW (a ++ [x]) = flW a ++ (if x = [] then [] else [x]) := by
  unfold flW
  rw [List.filter_append]
  cases x <;> simp
structure WJ (K : AHeap) (L : LRec) (pre : List (List UInt8)) (sc : List UInt8) (H : AHeap) (v : Value) : Prop where
  keep : Keeps K H
  row : H.get K.n = some (.cells true false 1 [v] 23)
  txt : H.get (K.n + 1) = some (boxS sc)
  sep : H.get (K.n + 2) = some (boxS [32])
  sav : H.get (K.n + 3) = some (.cells true false 1 [.int .i64 0] 3)
  rec_ : H.get (K.n + 4) = some (.loop true .ready none L)
  ap : AP H 9 1 v (flW pre).length (txs (flW pre))
  fresh : Fresh (K.n + 5) v
theorem WJ.n {K : AHeap} {L : LRec} {pre : List (List UInt8)} {sc : List UInt8} {H : AHeap} {v : Value} (h : WJ K L pre sc H v) : K.n + 5 ≤ H.n := AHeap.get_lt h.rec_
theorem WJ.put {K : AHeap} {L : LRec} {pre : List (List UInt8)} {sc : List UInt8} {H : AHeap} {v : Value} (h : WJ K L pre sc H v) (sc' : List UInt8) : WJ K L pre sc' (H.set (K.n + 1) (boxS sc')) v := by
  have hn := h.n
  have hlt : K.n + 1 < H.n := by omega
  have o : ∀ {b : Nat} {x : AO}, b ≠ K.n + 1 → H.get b = some x → (H.set (K.n + 1) (boxS sc')).get b = some x := fun hb hx => by rw [AHeap.get_set_other H hb hlt]; exact hx
  exact ⟨h.keep.set (by omega) hlt _, o (by omega) h.row, AHeap.get_set_same h.txt _, o (by omega) h.sep, o (by omega) h.sav, o (by omega) h.rec_,
    h.ap.chg (Chg.set H hlt _) (fun x hx => by have := h.fresh x (mem_blkL.1 hx); simp; omega), h.fresh⟩
theorem WJ.round {K : AHeap} {pre : List (List UInt8)} {sc x : List UInt8} {H : AHeap} {v : Value} {x0 x1 x2 x3 x4 x6 x7 x8 x9 x10 x11 x12 x13 : Value}
    (h : WJ K ⟨43, [0, 2, 3, 4, 5, 6, 7, 15, 16, 17, 32, 34, 35, 37], [x0, x1, x2, x3, x4, ptr K.n 0, x6, x7, x8, x9, x10, x11, x12, x13], #[35], rfA Go.Proofs.Tryd.prog 43 0, rfB Go.Proofs.Tryd.prog 43 0⟩ pre sc H v) (hl : pre.length ≤ 10000000) :
    ∃ w H', AYield Go.Proofs.Tryd.prog 4 (K.n + 4) [.string ⟨x.toArray⟩] H w H' ∧ w = .bool true ∧ ∃ v', WJ K ⟨43, [0, 2, 3, 4, 5, 6, 7, 15, 16, 17, 32, 34, 35, 37], [x0, x1, x2, x3, x4, ptr K.n 0, x6, x7, x8, x9, x10, x11, x12, x13], #[35], rfA Go.Proofs.Tryd.prog 43 0, rfB Go.Proofs.Tryd.prog 43 0⟩ (pre ++ [x]) sc H' v' := by
  obtain ⟨L, hL⟩ : ∃ L : LRec, (⟨43, [0, 2, 3, 4, 5, 6, 7, 15, 16, 17, 32, 34, 35, 37], [x0, x1, x2, x3, x4, ptr K.n 0, x6, x7, x8, x9, x10, x11, x12, x13], #[35], rfA Go.Proofs.Tryd.prog 43 0, rfB Go.Proofs.Tryd.prog 43 0⟩ : LRec) = L := ⟨_, rfl⟩
  have hn := h.n
  have hlen : (flW pre).length ≤ pre.length := List.length_filter_le ..
  refine yield_of (R := fun w H' => w = .bool true ∧ ∃ v', WJ K _ (pre ++ [x]) sc H' v') h.rec_ f43r0a_ok f43r0b_ok f43r0_n rfl rfl ?_
  show W Go.Proofs.Tryd.prog 4 f43r0a _ [x0, x1, x2, x3, x4, ptr K.n 0, x6, x7, x8, x9, x10, x11, .string ⟨x.toArray⟩, x13] H
  rw [hL] at h ⊢
  simp (disch := first | assumption | omega | (simp only [LN] <;> omega) | (simp (disch := first | assumption | omega | (simp only [LN] <;> omega)) only [row_alloc, row_set]; assumption)) only [f43r0a, W_block, P3, ↓reduceIte, reduceAdd, reduceEqDiff, reduceCtorEq, initFr, reduceLT, clsA, reduceLeDiff, reduceMul, reduceSub, reduceIte]
  refine ⟨none, L, h.rec_, ?_⟩
  have hlt : K.n + 4 < H.n := by omega
  obtain ⟨H1, hH1⟩ : ∃ H1, H.set (K.n + 4) (.loop true .busy none L) = H1 := ⟨_, rfl⟩
  have o : ∀ {b : Nat} {y : AO}, b ≠ K.n + 4 → H.get b = some y → H1.get b = some y := fun hb hy => by rw [← hH1, AHeap.get_set_other H hb hlt]; exact hy
  have n1 : H1.n = H.n := by rw [← hH1]; rfl
  have r1 := o (by omega) h.row
  have g1 : H1.get (K.n + 4) = some (.loop true .busy none L) := by rw [← hH1]; exact AHeap.get_set_same h.rec_ _
  have k1 : Keeps K H1 := by rw [← hH1]; exact h.keep.set (by omega) hlt _
  have a1 : AP H1 9 1 v (flW pre).length (txs (flW pre)) := by rw [← hH1]; exact h.ap.chg (Chg.set H hlt _) (fun x hx => by have := h.fresh x (mem_blkL.1 hx); simp; omega)
  rw [hH1]
  have fin : ∀ (H2 : AHeap) (fr : List Value), H2.get (K.n + 4) = some (.loop true .busy none L) → (∃ v', WJ K L (pre ++ [x]) sc (H2.set (K.n + 4) (.loop true .ready none L)) v') → roundQ (K.n + 4) (fun w H' => w = .bool true ∧ ∃ v', WJ K L (pre ++ [x]) sc H' v') .normal fr H2 := by
    intro H2 fr hg hw
    unfold roundQ
    rw [hg]
    exact ⟨rfl, hw⟩
  have back : ∀ (H2 : AHeap) (v' : Value), Keeps K H2 → H2.get K.n = some (.cells true false 1 [v'] 23) → H2.get (K.n + 1) = some (boxS sc) → H2.get (K.n + 2) = some (boxS [32]) → H2.get (K.n + 3) = some (.cells true false 1 [.int .i64 0] 3) →
      H2.get (K.n + 4) = some (.loop true .busy none L) → AP H2 9 1 v' (flW (pre ++ [x])).length (txs (flW (pre ++ [x]))) → Fresh (K.n + 5) v' → WJ K L (pre ++ [x]) sc (H2.set (K.n + 4) (.loop true .ready none L)) v' := by
    intro H2 v' c1 c2 c3 c4 c5 c6 c7 c8
    have hl2 := AHeap.get_lt c6
    have o2 : ∀ {b : Nat} {y : AO}, b ≠ K.n + 4 → H2.get b = some y → (H2.set (K.n + 4) (.loop true .ready none L)).get b = some y := fun hb hy => by rw [AHeap.get_set_other H2 hb hl2]; exact hy
    exact ⟨c1.set (by omega) hl2 _, o2 (by omega) c2, o2 (by omega) c3, o2 (by omega) c4, o2 (by omega) c5, AHeap.get_set_same c6 _, c7.chg (Chg.set H2 hl2 _) (fun x hx => by have := c8 x (mem_blkL.1 hx); simp; omega), c8⟩
  by_cases hx : x = []
  · have e : decide (x = []) = true := by simpa using hx
    simp (disch := first | assumption | omega | (simp only [LN] <;> omega) | (simp (disch := first | assumption | omega | (simp only [LN] <;> omega)) only [row_alloc, row_set]; assumption)) only [f43r0b, W_block, P3, ↓reduceIte, reduceAdd, reduceEqDiff, reduceCtorEq, initFr, reduceLT, clsA, reduceLeDiff, reduceMul, reduceSub, reduceIte, str_emp, bytes_eq, e]
    refine fin _ _ g1 ⟨v, back _ _ k1 r1 (o (by omega) h.txt) (o (by omega) h.sep) (o (by omega) h.sav) g1 ?_ h.fresh⟩
    rw [flW_app, if_pos hx, List.append_nil]
    exact a1
  · have e : decide (x = []) = false := by simpa using hx
    have hfl : fillA [.string ⟨([] : List UInt8).toArray⟩] [(0, 1, .string ⟨x.toArray⟩)] = some [.string ⟨x.toArray⟩] := rfl
    have k4 := (Keeps.refl H1).alloc (.cells true false 1 [.string ⟨x.toArray⟩] 9)
    simp (disch := first | assumption | omega | (simp only [LN] <;> omega) | (simp (disch := first | assumption | omega | (simp only [LN] <;> omega)) only [row_alloc, row_set]; assumption)) only [f43r0b, W_block, P3, ↓reduceIte, reduceAdd, reduceEqDiff, reduceCtorEq, initFr, reduceLT, clsA, reduceLeDiff, reduceMul, reduceSub, reduceIte, str_emp, bytes_eq, e, r1, hfl]
    refine appG (a1.keeps k4) ⟨_, _, rfl⟩ (elems_new rfl rfl) rfl (by omega) ?_
    intro v' M2 a2 c2 b2
    have q : ∀ {b : Nat} {y : AO}, b < K.n + 5 → H1.get b = some y → M2.get b = some y := fun hb hy => by
      refine c2.at_ (k4.at_ hy) (fun hm => ?_)
      have := h.fresh _ (mem_blkL.1 hm)
      omega
    have r2 := q (by omega) r1
    have ov' : one1 v' = True := by
      obtain ⟨a, ha⟩ := a2.shape
      rw [ha]; exact o_sl ..
    have ov2 : v'.oneCell' = true := by
      obtain ⟨a, ha⟩ := a2.shape
      rw [ha]; rfl
    have f2 : Fresh (K.n + 5) v' := h.fresh.app (by simp [AHeap.alloc]; omega) b2
    have l2 := AHeap.get_lt r2
    simp (disch := first | assumption | omega | (simp only [LN] <;> omega) | (simp (disch := first | assumption | omega | (simp only [LN] <;> omega)) only [row_alloc, row_set]; assumption)) only [W_block, P3, ↓reduceIte, reduceAdd, reduceEqDiff, reduceCtorEq, initFr, reduceLT, clsA, reduceLeDiff, reduceMul, reduceSub, reduceIte, r2, ov2]
    have o3 : ∀ {b : Nat} {y : AO}, b ≠ K.n → M2.get b = some y → (M2.set K.n (.cells true false 1 [v'] 23)).get b = some y := fun hb hy => by rw [AHeap.get_set_other M2 hb l2]; exact hy
    have k2 : Keeps K M2 := (k1.trans k4).chg_trans c2 (fun y hy => by have := h.fresh y (mem_blkL.1 hy); omega)
    refine fin _ _ (o3 (by omega) (q (by omega) g1)) ⟨v', back _ _ (k2.set (Nat.le_refl _) l2 _) (AHeap.get_set_same r2 _) (o3 (by omega) (q (by omega) (o (by omega) h.txt))) (o3 (by omega) (q (by omega) (o (by omega) h.sep))) (o3 (by omega) (q (by omega) (o (by omega) h.sav))) (o3 (by omega) (q (by omega) g1)) ?_ f2⟩
    rw [flW_app, if_neg hx]
    refine AP.chg ?_ (Chg.set M2 l2 _) (fun y hy => by have := f2 y (mem_blkL.1 hy); simp; omega)
    simpa [txs_app] using a2
end Go.AM.Fd

set_option linter.unusedSimpArgs false
set_option linter.unusedVariables false
namespace Go.AM.Fd
open Nat (reduceAdd reduceEqDiff reduceLT reduceLeDiff reduceMul reduceSub)
open Go.Proofs Go.AM.F
theorem get5 (L : AHeap) (a b c d e : AO) : let S := ((((L.alloc a).alloc b).alloc c).alloc d).alloc e
    S.get L.n = some a ∧ S.get (L.n + 1) = some b ∧ S.get (L.n + 2) = some c ∧ S.get (L.n + 3) = some d ∧ S.get (L.n + 4) = some e := by
  have o : ∀ (X : AHeap) (x : AO) (i : Nat), i < X.n → (X.alloc x).get i = X.get i := fun X x i h => AHeap.get_alloc_old X x h
  refine ⟨?_, ?_, ?_, ?_, ?_⟩
  · rw [o _ _ _ (by simp only [alloc_n]; omega), o _ _ _ (by simp only [alloc_n]; omega), o _ _ _ (by simp only [alloc_n]; omega), o _ _ _ (by simp only [alloc_n]; omega)]; exact AHeap.get_alloc_new _ _
  · rw [o _ _ _ (by simp only [alloc_n]; omega), o _ _ _ (by simp only [alloc_n]; omega), o _ _ _ (by simp only [alloc_n]; omega)]; exact AHeap.get_alloc_new _ _
  · rw [o _ _ _ (by simp only [alloc_n]; omega), o _ _ _ (by simp only [alloc_n]; omega)]; exact AHeap.get_alloc_new _ _
  · rw [o _ _ _ (by simp only [alloc_n]; omega)]; exact AHeap.get_alloc_new _ _
  · exact AHeap.get_alloc_new _ _
theorem cut_ahead (l : List UInt8) : ∃ y z, cutB 35 l = .tuple #[.string ⟨(aheadB l).toArray⟩, y, z] := by
  unfold cutB aheadB
  cases ixB 35 l <;> exact ⟨_, _, rfl⟩
theorem t43 (H : AHeap) (l : List UInt8) (hl : l.length ≤ 1000000) : ∃ w K, ARun Go.Proofs.Tryd.prog 4 43 [.string ⟨l.toArray⟩] H w K ∧ WRes H w K l := by
  refine walk2 f43_ok f43_n ?_
  intro Q hq1 hq2
  have hal := ahead_len l
  simp (disch := first | assumption | omega | (simp only [LN] <;> omega) | (simp (disch := first | assumption | omega | (simp only [LN] <;> omega)) only [row_alloc, row_set]; assumption)) only [ f43, P3, ↓reduceIte, reduceAdd, reduceEqDiff, reduceCtorEq, initFr, reduceLT, clsA, reduceLeDiff, reduceMul, reduceSub, reduceIte]
  refine callK (t59 H l 35 (by omega)) ?_
  rintro _ K ⟨hw, rfl⟩
  obtain ⟨y, z, hcut⟩ := cut_ahead l
  rw [hcut] at hw
  subst hw
  obtain ⟨s, hs⟩ : ∃ s, aheadB l = s := ⟨_, rfl⟩
  unfold WRes at hq1 hq2
  rw [hs] at hal hq1 hq2 ⊢
  simp (disch := first | assumption | omega | (simp only [LN] <;> omega) | (simp (disch := first | assumption | omega | (simp only [LN] <;> omega)) only [row_alloc, row_set]; assumption)) only [ P3, ↓reduceIte, reduceAdd, reduceEqDiff, reduceCtorEq, initFr, reduceLT, clsA, reduceLeDiff, reduceMul, reduceSub, reduceIte, a_rngS]
  rw [W_block]
  refine W_loop2 (fun k fr L => ∃ p x3 x4 x8 x9 x10, fr = [.string ⟨s.toArray⟩, .slice none 0 0, .int .i64 0, x3, x4, undef, undef, ptr K.n 0, x8, x9, x10, undef, undef, undef] ∧ L.get K.n = some (.obj true (.stringIter ⟨s.toArray⟩ p)) ∧ Keeps K L ∧
      okW s = (runF s p).all (okC s) ∧ k = s.length - p) s.length
    ⟨0, _, _, _, _, _, rfl, AHeap.get_alloc_new _ _, (Keeps.refl K).alloc _, rfl, rfl⟩ ?_
  rintro Q' k fr L ⟨p, x3, x4, x8, x9, x10, rfl, hg, hk, hr, rfl⟩ hn hx hret
  by_cases hp : p < s.length
  · have hstep := runF_step hp
    have hpos := decB_pos (l := s) (p := p)
    have hset := hk.set (Nat.le_refl _) (AHeap.get_lt hg) (.obj true (.stringIter ⟨s.toArray⟩ (p + (decB s p).2)))
    have hnext : okC s (p, ((decB s p).1 : Int)) = true → okW s = (runF s (p + (decB s p).2)).all (okC s) := fun h => by rw [hr, hstep]; simp [h]
    have hbad : okC s (p, ((decB s p).1 : Int)) = false → okW s = false := fun h => by rw [hr, hstep]; simp [h]
    have hgs := AHeap.get_set_same hg (.obj true (.stringIter ⟨s.toArray⟩ (p + (decB s p).2)))
    obtain ⟨d, hd⟩ : ∃ d, (decB s p).1 = d := ⟨_, rfl⟩
    rw [hd] at hnext hbad
    have hnx := a_nextY hg hp
    rw [hd] at hnx
    by_cases c1 : (d : Int) < 32
    · simp (disch := first | assumption | omega | (simp only [LN] <;> omega) | (simp (disch := first | assumption | omega | (simp only [LN] <;> omega)) only [row_alloc, row_set]; assumption)) only [W_block, P3, ↓reduceIte, reduceAdd, reduceEqDiff, reduceCtorEq, initFr, reduceLT, clsA, reduceLeDiff, reduceMul, reduceSub, reduceIte, hnx]
      refine hret _ _ (hq2 _ _ ⟨_, rfl, hset, ?_⟩)
      rw [hbad (by simp [okC, c1])]
      rfl
    · by_cases c2 : (d : Int) = 65533
      · have e2 : ((d : Int) == 65533) = true := by simpa using c2
        have hp1 : p ≤ s.length := by omega
        simp (disch := first | assumption | omega | (simp only [LN] <;> omega) | (simp (disch := first | assumption | omega | (simp only [LN] <;> omega)) only [row_alloc, row_set]; assumption)) only [W_block, P3, ↓reduceIte, reduceAdd, reduceEqDiff, reduceCtorEq, initFr, reduceLT, clsA, reduceLeDiff, reduceMul, reduceSub, reduceIte, hnx, e2, a_slsT]
        refine callK (t60 _ (s.drop p) [239, 191, 189]) ?_
        rintro _ K2 ⟨rfl, rfl⟩
        cases c3 : wholeB s p with
        | true =>
          have c3' : ([239, 191, 189] : List UInt8).isPrefixOf (s.drop p) = true := c3
          simp (disch := first | assumption | omega | (simp only [LN] <;> omega) | (simp (disch := first | assumption | omega | (simp only [LN] <;> omega)) only [row_alloc, row_set]; assumption)) only [W_block, P3, ↓reduceIte, reduceAdd, reduceEqDiff, reduceCtorEq, initFr, reduceLT, clsA, reduceLeDiff, reduceMul, reduceSub, reduceIte, c3']
          exact hn _ _ _ ⟨p + (decB s p).2, _, _, _, _, _, rfl, hgs, hset, hnext (by simp [okC, c1, c2, c3]), rfl⟩ (by omega)
        | false =>
          have c3' : ([239, 191, 189] : List UInt8).isPrefixOf (s.drop p) = false := c3
          simp (disch := first | assumption | omega | (simp only [LN] <;> omega) | (simp (disch := first | assumption | omega | (simp only [LN] <;> omega)) only [row_alloc, row_set]; assumption)) only [W_block, P3, ↓reduceIte, reduceAdd, reduceEqDiff, reduceCtorEq, initFr, reduceLT, clsA, reduceLeDiff, reduceMul, reduceSub, reduceIte, c3']
          refine hret _ _ (hq2 _ _ ⟨_, rfl, hset, ?_⟩)
          rw [hbad (by simp [okC, c1, c2, c3])]
          rfl
      · have e2 : ((d : Int) == 65533) = false := by simpa using c2
        simp (disch := first | assumption | omega | (simp only [LN] <;> omega) | (simp (disch := first | assumption | omega | (simp only [LN] <;> omega)) only [row_alloc, row_set]; assumption)) only [W_block, P3, ↓reduceIte, reduceAdd, reduceEqDiff, reduceCtorEq, initFr, reduceLT, clsA, reduceLeDiff, reduceMul, reduceSub, reduceIte, hnx, e2]
        exact hn _ _ _ ⟨p + (decB s p).2, _, _, _, _, _, rfl, hgs, hset, hnext (by simp [okC, c1, c2]), rfl⟩ (by omega)
  · have hend := runF_end hp
    rw [hend] at hr
    simp only [List.all_nil] at hr
    rw [hr] at hq1 hq2
    simp only [if_true] at hq1 hq2
    simp (disch := first | assumption | omega | (simp only [LN] <;> omega) | (simp (disch := first | assumption | omega | (simp only [LN] <;> omega)) only [row_alloc, row_set]; assumption)) only [W_block, P3, ↓reduceIte, reduceAdd, reduceEqDiff, reduceCtorEq, initFr, reduceLT, clsA, reduceLeDiff, reduceMul, reduceSub, reduceIte, a_nextN hg hp]
    refine hx 0 _ _ ?_
    simp (disch := first | assumption | omega | (simp only [LN] <;> omega) | (simp (disch := first | assumption | omega | (simp only [LN] <;> omega)) only [row_alloc, row_set]; assumption)) only [ P3, ↓reduceIte, reduceAdd, reduceEqDiff, reduceCtorEq, initFr, reduceLT, clsA, reduceLeDiff, reduceMul, reduceSub, reduceIte]
    refine callK (t61 _ s 32) ?_
    rintro _ K2 ⟨rfl, rfl⟩
    simp (disch := first | assumption | omega | (simp only [LN] <;> omega) | (simp (disch := first | assumption | omega | (simp only [LN] <;> omega)) only [row_alloc, row_set]; assumption)) only [ P3, ↓reduceIte, reduceAdd, reduceEqDiff, reduceCtorEq, initFr, reduceLT, clsA, reduceLeDiff, reduceMul, reduceSub, reduceIte]
    rw [W_block]
    refine W_rangeF rfl (bodied_of (by kernel_rfl)) ?_
    obtain ⟨R, hR⟩ : ∃ R : LRec, (⟨43, [0, 2, 3, 4, 5, 6, 7, 15, 16, 17, 32, 34, 35, 37], [.string ⟨s.toArray⟩, .slice none 0 0, .int .i64 0, x3, x4, ptr L.n 0, undef, ptr K.n 0, .tuple #[.bool false], .bool false, x10,
      .func (.func 90) #[] #[ptr (L.n + 1 + 1) 0, ptr (L.n + 1) 0, ptr (L.n + 1 + 2) 0], undef, undef], #[35], rfA Go.Proofs.Tryd.prog 43 0, rfB Go.Proofs.Tryd.prog 43 0⟩ : LRec) = R := ⟨_, rfl⟩
    rw [hR]
    obtain ⟨S0, hS0⟩ : ∃ S0 : AHeap, (((((L.alloc (.cells true false 1 [.slice none 0 0] 23)).alloc (boxS s)).alloc (boxS [32])).alloc (.cells true false 1 [.int .i64 0] 3)).alloc (.loop true .ready none R)) = S0 := ⟨_, rfl⟩
    have hJ0 : WJ L R [] s S0 (.slice none 0 0) := by
      rw [← hS0]
      obtain ⟨q1, q2, q3, q4, q5⟩ := get5 L (.cells true false 1 [.slice none 0 0] 23) (boxS s) (boxS [32]) (.cells true false 1 [.int .i64 0] 3) (.loop true .ready none R)
      exact ⟨(((((Keeps.refl L).alloc _).alloc _).alloc _).alloc _).alloc _, q1, q2, q3, q4, q5, .inl ⟨rfl, rfl, rfl⟩, fun b hb => by cases hb⟩
    obtain ⟨w, H1, r, hfin⟩ := t90 (fun pre sc H => ∃ v, WJ L R pre sc H v) (fun _ => False) (c := 32) (b := L.n + 4) (p1 := L.n + 2) (p2 := L.n + 1) (p3 := L.n + 3) (s := s) (by omega)
      (fun pre sc H ⟨v, h⟩ => ⟨h.sep, h.txt, h.sav⟩) (fun pre sc sc' H ⟨v, h⟩ => ⟨v, h.put sc'⟩)
      (fun pre x sc H ⟨v, h⟩ ⟨rest, hsp⟩ => by
        have h1 := splitB_len 32 s
        rw [hsp, List.length_append, List.length_cons] at h1
        rw [← hR] at h
        obtain ⟨w, H', a, e, v', h'⟩ := WJ.round (x := x) h (by omega)
        rw [hR] at h'
        exact ⟨w, H', a, .inl ⟨e, v', h'⟩⟩) ⟨_, hJ0⟩
    refine ⟨w, H1, ?_, ?_⟩
    · rw [hS0]; exact r
    · rcases hfin with ⟨sc, v, hJ⟩ | hf
      · refine afterR_ready hJ.rec_ ?_
        have hn1 := hJ.n
        have hl4 : L.n + 4 < H1.n := by omega
        have hrow : (H1.set (L.n + 4) .dead).get L.n = some (.cells true false 1 [v] 23) := by rw [AHeap.get_set_other H1 (by omega) hl4]; exact hJ.row
        simp (disch := first | assumption | omega | (simp only [LN] <;> omega) | (simp (disch := first | assumption | omega | (simp only [LN] <;> omega)) only [row_alloc, row_set]; assumption)) only [W_block, P3, ↓reduceIte, reduceAdd, reduceEqDiff, reduceCtorEq, initFr, reduceLT, clsA, reduceLeDiff, reduceMul, reduceSub, reduceIte, hrow]
        refine hq2 _ _ ⟨_, rfl, (hk.trans hJ.keep).set (by have := hk.n; omega) hl4 _, v, rfl, ?_, ?_⟩
        · exact hJ.ap.chg (Chg.set H1 hl4 _) (fun y hy => by have := hJ.fresh y (mem_blkL.1 hy); simp; omega)
        · intro b hb
          have := hJ.fresh b hb
          have := hk.n
          omega
      · exact hf.elim
end Go.AM.Fd

set_option linter.unusedSimpArgs false
set_option linter.unusedVariables false
namespace Go.AM.Fd
open Nat (reduceAdd reduceEqDiff reduceLT reduceLeDiff reduceMul reduceSub)
open Go.Proofs Go.AM.F
abbrev Row := Value × List (List UInt8)
def thG (w : Row) : Th := thA 9 1 w.1 w.2.length (txs w.2)
def outC (ws : List Row) : List Value := (ws.map (·.1)).reverse
def GS (N : Nat) (H : AHeap) (v : Value) (ws : List Row) (rs : List Row) : Prop :=
  Sep H (thA 23 1 v ws.length (outC ws) :: rs.map thG) ∧ Fresh N v ∧ ∀ w ∈ rs, Fresh N w.1
def grp (acc : List (List (List UInt8))) (t : List UInt8) : List (List (List UInt8)) := if t = [58] then [] :: acc else match acc with
  | g :: r => (g ++ [t]) :: r
  | [] => [[t]]
def groupsB (ts : List (List UInt8)) : List (List (List UInt8)) := (ts.foldl grp [[]]).reverse
theorem grp_take {ts : List (List UInt8)} {i : Nat} (h : i < ts.length) (a : List (List (List UInt8))) : (ts.take (i + 1)).foldl grp a = grp ((ts.take i).foldl grp a) (ts.getD i []) := by
  rw [List.take_add_one, List.getElem?_eq_getElem h, List.foldl_append]
  simp [List.getD, List.getElem?_eq_getElem h]
theorem GS.keeps {N : Nat} {H K : AHeap} {v : Value} {ws rs : List Row} (h : GS N H v ws rs) (k : Keeps H K) : GS N K v ws rs := ⟨h.1.keeps k, h.2⟩
theorem GS.addNil {N : Nat} {H : AHeap} {v : Value} {ws rs : List Row} (h : GS N H v ws rs) : GS N H v ws ((.slice none 0 0, []) :: rs) := by
  obtain ⟨h1, h2, h3⟩ := h
  refine ⟨⟨?_, ?_⟩, h2, ?_⟩
  · intro t ht
    simp only [List.map_cons, List.mem_cons] at ht
    rcases ht with rfl | rfl | ht
    · exact h1.all _ (by simp)
    · exact .inl ⟨rfl, rfl, rfl⟩
    · exact h1.all t (by simp [ht])
  · have hp := List.pairwise_cons.1 h1.ap
    refine List.pairwise_cons.2 ⟨?_, List.pairwise_cons.2 ⟨fun a ha b hb => by simp [thG, thA, blkL, blk] at hb, hp.2⟩⟩
    intro a ha
    simp only [List.map_cons, List.mem_cons] at ha
    rcases ha with rfl | ha
    · intro b hb hb2; simp [thG, thA, blkL, blk] at hb2
    · exact hp.1 a ha
  · intro w hw
    rcases List.mem_cons.1 hw with rfl | hw
    · intro b hb; cases hb
    · exact h3 w hw
theorem GS.outer {N : Nat} {H K : AHeap} {v v' : Value} {ws ws' rs : List Row} (h : GS N H v ws rs) (hN : N ≤ H.n) (c : Chg (blkL v) H K) (ha : AP K 23 1 v' ws'.length (outC ws')) (hb : blk v' = blk v ∨ (∃ b, blk v' = some b ∧ H.n ≤ b)) : GS N K v' ws' rs := by
  have hf : ∀ y ∈ blkL v', y ∈ blkL v ∨ H.n ≤ y := fun y hy => by
    have hy := mem_blkL.1 hy
    rcases hb with e | ⟨b, e, hb⟩
    · exact .inl (mem_blkL.2 (by rw [← e]; exact hy))
    · rw [e] at hy; cases hy; exact .inr hb
  refine ⟨Sep.upd (l := []) h.1 c ha hf, ?_, h.2.2⟩
  intro y hy
  rcases hf y (mem_blkL.2 hy) with e | e
  · exact h.2.1 y (mem_blkL.1 e)
  · omega
theorem GS.row {N : Nat} {H K : AHeap} {v u' : Value} {g' : List (List UInt8)} {w : Row} {ws rs : List Row} (h : GS N H v ws (w :: rs)) (hN : N ≤ H.n) (c : Chg (blkL w.1) H K) (ha : AP K 9 1 u' g'.length (txs g')) (hb : blk u' = blk w.1 ∨ (∃ b, blk u' = some b ∧ H.n ≤ b)) : GS N K v ws ((u', g') :: rs) := by
  have hf : ∀ y ∈ blkL u', y ∈ blkL w.1 ∨ H.n ≤ y := fun y hy => by
    have hy := mem_blkL.1 hy
    rcases hb with e | ⟨b, e, hb⟩
    · exact .inl (mem_blkL.2 (by rw [← e]; exact hy))
    · rw [e] at hy; cases hy; exact .inr hb
  refine ⟨Sep.upd (l := [_]) (t := thG w) (t' := thG (u', g')) (r := rs.map thG) h.1 c ha hf, h.2.1, ?_⟩
  intro x hx
  rcases List.mem_cons.1 hx with rfl | hx
  · intro y hy
    rcases hf y (mem_blkL.2 hy) with e | e
    · exact h.2.2 w (by simp) y (mem_blkL.1 e)
    · omega
  · exact h.2.2 x (by simp [hx])
theorem GS.out {N : Nat} {H : AHeap} {v : Value} {ws rs : List Row} (h : GS N H v ws rs) : AP H 23 1 v ws.length (outC ws) := h.1.all (thA 23 1 v ws.length (outC ws)) (by simp)
theorem GS.top {N : Nat} {H : AHeap} {v : Value} {w : Row} {ws rs : List Row} (h : GS N H v ws (w :: rs)) : AP H 9 1 w.1 w.2.length (txs w.2) := h.1.all (thG w) (by simp)
theorem GS.apart {N : Nat} {H : AHeap} {v : Value} {w : Row} {ws rs : List Row} (h : GS N H v ws (w :: rs)) {b : Nat} (hb : blk v = some b) : blk w.1 ≠ some b := fun e =>
  (List.pairwise_cons.1 h.1.ap).1 (thG w) (by simp) b (mem_blkL.2 hb) (mem_blkL.2 e)
theorem GS.chg {N : Nat} {H K : AHeap} {v : Value} {ws rs : List Row} (h : GS N H v ws rs) (c : Keeps H K) : GS N K v ws rs := h.keeps c
theorem sl_fresh {v v' : Value} {H : AHeap} {n : Nat} {o : AO} (h : blk v' = blk v ∨ blk v' = some (H.alloc o).n) (hn : n = H.n) : blk v' = blk v ∨ (∃ b, blk v' = some b ∧ n ≤ b) := by
  rcases h with h | h
  · exact .inl h
  · exact .inr ⟨_, h, by simp [AHeap.alloc]; omega⟩
theorem outC_len (ws : List Row) : (outC ws).length = ws.length := by simp [outC]
theorem outC_cons (w : Row) (ws : List Row) : outC (w :: ws) = outC ws ++ [w.1] := by simp [outC]
theorem outC_top (w : Row) (ws : List Row) : (outC (w :: ws))[ws.length]? = some w.1 := by
  rw [outC_cons, List.getElem?_append_right (by rw [outC_len]; omega), outC_len]; simp
theorem outC_set (w : Row) (u : Value) (g : List (List UInt8)) (ws : List Row) : (outC (w :: ws)).set ws.length u = outC ((u, g) :: ws) := by
  rw [outC_cons, outC_cons, List.set_append_right _ _ (by rw [outC_len]; omega), outC_len]; simp
theorem t62 {H : AHeap} {vl : Value} {ts : List (List UInt8)} (ht : TL H vl ts) (hl : ts.length ≤ 1000000) : ∃ w K, ARun Go.Proofs.Tryd.prog 4 62 [vl] H w K ∧ Keeps H K ∧ ∃ ws, GS H.n K w ws ws ∧ (ws.map (·.2)).reverse = groupsB ts := by
  refine walk2 f62_ok f62_n ?_
  intro Q hq1 hq2
  have hfl0 : fillA [.slice none 0 0] [(0, 1, .slice none 0 0)] = some [.slice none 0 0] := rfl
  have ll := ht.len
  have il := Sl.is ht
  simp (disch := first | assumption | omega | (simp only [LN] <;> omega) | (simp (disch := first | assumption | omega | (simp only [LN] <;> omega)) only [row_alloc, row_set]; assumption)) only [ f62, P3, ↓reduceIte, reduceAdd, reduceEqDiff, reduceCtorEq, initFr, reduceLT, clsA, reduceLeDiff, reduceMul, reduceSub, reduceIte, hfl0, ll]
  rw [W_block]
  have hG0 : GS H.n (H.alloc (.cells true false 1 [.slice none 0 0] 23)) (slc H.n 0 1 1) [(.slice none 0 0, [])] [(.slice none 0 0, [])] := by
    refine GS.addNil ⟨⟨fun t ht => ?_, by simp⟩, fun b hb => by cases hb; exact Nat.le_refl _, by simp⟩
    simp only [List.map_nil, List.mem_singleton] at ht
    subst ht
    exact .inr ⟨H.n, false, rfl, rfl, AHeap.get_alloc_new _ _⟩
  refine W_loop2 (fun k fr K => ∃ i v ws x3 x4 x8 x9, fr = [vl, .slice none 0 0, v, x3, x4, vl, .int .i64 ((ts.length : Nat) : Int), .int .i64 ((i : Nat) : Int), x8, x9] ∧ Keeps H K ∧ GS H.n K v ws ws ∧ ws.map (·.2) = (ts.take i).foldl grp [[]] ∧
      1 ≤ ws.length ∧ ws.length ≤ i + 1 ∧ (∀ w ∈ ws, w.2.length ≤ i) ∧ i ≤ ts.length ∧ k = ts.length - i) ts.length
    ⟨0, _, [(.slice none 0 0, [])], _, _, _, _, rfl, (Keeps.refl H).alloc _, hG0, rfl, by simp, by simp, by simp, by omega, rfl⟩ ?_
  rintro Q' k fr K ⟨i, v, ws, x3, x4, x8, x9, rfl, hk, hG, hws, h1, h2, h3, hi, rfl⟩ hn hx hret
  have hkn := hk.n
  by_cases hlt : i < ts.length
  · have ht2 := ht.keeps hk
    obtain ⟨na, ra⟩ := ht2.at_ hlt
    unfold tRow at ra
    have c1 : (i : Int) < ((ts.length : Nat) : Int) := by omega
    have c2 : (i : Int) < ((lenS vl : Nat) : Int) := by omega
    have c0 : (0 : Int) ≤ (i : Int) := by omega
    have hw : IntKind.i64.wrap ((i : Int) + 1) = ((i + 1 : Nat) : Int) := by rw [wrap_i64 (by omega) (by omega)]; simp
    have hgr := grp_take hlt [[]]
    rw [← hws] at hgr
    obtain ⟨t, htt⟩ : ∃ t, ts.getD i [] = t := ⟨_, rfl⟩
    rw [htt] at ra hgr
    by_cases hc : t = [58]
    · have e : decide (t = [58]) = true := by simpa using hc
      have k4 := (Keeps.refl K).alloc (.cells true false 1 [.slice none 0 0] 23)
      simp (disch := first | assumption | omega | (simp only [LN] <;> omega) | (simp (disch := first | assumption | omega | (simp only [LN] <;> omega)) only [row_alloc, row_set]; assumption)) only [W_block, P3, ↓reduceIte, reduceAdd, reduceEqDiff, reduceCtorEq, initFr, reduceLT, clsA, reduceLeDiff, reduceMul, reduceSub, reduceIte, ra, na, a_load1v, bytes_eq, e, hfl0]
      refine appG (hG.out.keeps k4) ⟨_, _, rfl⟩ (elems_new rfl rfl) rfl (by omega) ?_
      intro v' K2 a2 ch b2
      simp (disch := first | assumption | omega | (simp only [LN] <;> omega) | (simp (disch := first | assumption | omega | (simp only [LN] <;> omega)) only [row_alloc, row_set]; assumption)) only [W_block, P3, ↓reduceIte, reduceAdd, reduceEqDiff, reduceCtorEq, initFr, reduceLT, clsA, reduceLeDiff, reduceMul, reduceSub, reduceIte, hw]
      have c24 : Chg (blkL v) K K2 := (k4.chg _).trans ch (fun y hy => .inl hy)
      have hG2 := (hG.outer (ws' := (.slice none 0 0, []) :: ws) hkn c24 (by rw [outC_cons]; simpa using a2) (sl_fresh b2 rfl)).addNil
      refine hn _ _ _ ⟨i + 1, v', (.slice none 0 0, []) :: ws, _, _, _, _, rfl, hk.chg_trans c24 hG.2.1.L, hG2, ?_, by simp, by simp; omega, ?_, by omega, rfl⟩ (by omega)
      · rw [hgr]; simp [grp, hc]
      · intro w hw; rcases List.mem_cons.1 hw with rfl | hw
        · simp
        · have := h3 w hw; omega
    · have e : decide (t = [58]) = false := by simpa using hc
      obtain ⟨w, rs, rfl⟩ : ∃ w rs, ws = w :: rs := by
        cases ws with
        | nil => simp at h1
        | cons w rs => exact ⟨w, rs, rfl⟩
      rcases hG.out with ⟨_, hz, _⟩ | ⟨b, room, rfl, hlen, hget⟩
      · simp at hz
      · have hwl := h3 w (by simp)
        have hrl : rs.length ≤ i := by simpa using h2
        have hs1 : IntKind.i64.wrap (((rs.length + 1 : Nat) : Int) - 1) = ((rs.length : Nat) : Int) := by rw [wrap_i64 (by omega) (by omega)]; simp
        have d0 : (0 : Int) ≤ ((rs.length : Nat) : Int) := by omega
        have d1 : ((rs.length : Nat) : Int) < ((rs.length + 1 : Nat) : Int) := by omega
        have hcell : cellO (K.get b) rs.length = some w.1 := by rw [hget, cellO_c]; exact outC_top w rs
        have hfl : fillA [.string ByteArray.empty] [(0, 1, .string ⟨t.toArray⟩)] = some [.string ⟨t.toArray⟩] := rfl
        have k4 := (Keeps.refl K).alloc (.cells true false 1 [.string ⟨t.toArray⟩] 9)
        simp (disch := first | assumption | omega | (simp only [LN] <;> omega) | (simp (disch := first | assumption | omega | (simp only [LN] <;> omega)) only [row_alloc, row_set]; assumption)) only [W_block, P3, ↓reduceIte, reduceAdd, reduceEqDiff, reduceCtorEq, initFr, reduceLT, clsA, reduceLeDiff, reduceMul, reduceSub, reduceIte, ra, na, a_load1v, bytes_eq, e, hs1, hfl, Int.toNat_natCast, Nat.mul_one, Nat.zero_add, hcell]
        refine appG (hG.top.keeps k4) ⟨_, _, rfl⟩ (elems_new rfl rfl) rfl (by omega) ?_
        intro u' K2 a2 ch b2
        have c24 : Chg (blkL w.1) K K2 := (k4.chg _).trans ch (fun y hy => .inl hy)
        have hget2 : K2.get b = some (.cells true room 1 (outC (w :: rs)) 23) := c24.at_ hget (fun hm => hG.apart rfl (mem_blkL.1 hm))
        have hr := hG.row (g' := w.2 ++ [t]) hkn c24 (by simpa [txs_app] using a2) (sl_fresh b2 rfl)
        have ou : u'.oneCell' = true := by
          obtain ⟨a, ha⟩ := a2.shape
          rw [ha]; rfl
        have hlt2 : rs.length < (outC (w :: rs)).length := by rw [outC_len]; simp
        have hb2 := AHeap.get_lt hget2
        simp (disch := first | assumption | omega | (simp only [LN] <;> omega) | (simp (disch := first | assumption | omega | (simp only [LN] <;> omega)) only [row_alloc, row_set]; assumption)) only [W_block, P3, ↓reduceIte, reduceAdd, reduceEqDiff, reduceCtorEq, initFr, reduceLT, clsA, reduceLeDiff, reduceMul, reduceSub, reduceIte, hget2, ou, hw]
        have hk2 : Keeps H K2 := hk.chg_trans c24 (fun y hy => hG.2.2 w (by simp) y (mem_blkL.1 hy))
        have hbn : H.n ≤ b := hG.2.1 b rfl
        have hr2 := hr.outer (ws' := (u', w.2 ++ [t]) :: rs) (v' := slc b 0 (rs.length + 1) (rs.length + 1)) hk2.n (Chg.set K2 hb2 (.cells true room 1 ((outC (w :: rs)).set rs.length u') 23) |>.mono (by intro y hy; simp at hy; subst hy; exact mem_blkL.2 rfl))
          (.inr ⟨b, room, rfl, by rw [outC_len]; simp, by rw [AHeap.get_set_same hget2]; rw [outC_set w u' (w.2 ++ [t]) rs]⟩) (.inl rfl)
        refine hn _ _ _ ⟨i + 1, _, (u', w.2 ++ [t]) :: rs, _, _, _, _, rfl, hk2.set hbn hb2 _, hr2, ?_, by simp, by simp; omega, ?_, by omega, rfl⟩ (by omega)
        · rw [hgr]; simp [grp, hc]
        · intro x hx; rcases List.mem_cons.1 hx with rfl | hx
          · simp; omega
          · have := h3 x (by simp [hx]); omega
  · have c1 : ¬ (i : Int) < ((ts.length : Nat) : Int) := by omega
    simp (disch := first | assumption | omega | (simp only [LN] <;> omega) | (simp (disch := first | assumption | omega | (simp only [LN] <;> omega)) only [row_alloc, row_set]; assumption)) only [W_block, P3, ↓reduceIte, reduceAdd, reduceEqDiff, reduceCtorEq, initFr, reduceLT, clsA, reduceLeDiff, reduceMul, reduceSub, reduceIte]
    refine hx 0 _ _ ?_
    simp (disch := first | assumption | omega | (simp only [LN] <;> omega) | (simp (disch := first | assumption | omega | (simp only [LN] <;> omega)) only [row_alloc, row_set]; assumption)) only [W_block, P3, ↓reduceIte, reduceAdd, reduceEqDiff, reduceCtorEq, initFr, reduceLT, clsA, reduceLeDiff, reduceMul, reduceSub, reduceIte]
    refine hq2 _ _ ⟨_, rfl, hk, ws, hG, ?_⟩
    rw [hws, List.take_of_length_le (by omega)]
    rfl
end Go.AM.Fd

set_option linter.unusedSimpArgs false
set_option linter.unusedVariables false
namespace Go.AM.Fd
open Nat (reduceAdd reduceEqDiff reduceLT reduceLeDiff reduceMul reduceSub)
open Go.Proofs Go.AM.F
theorem AP.fill {H : AHeap} {e esz : Nat} {v : Value} {n : Nat} {c : List Value} (h : AP H e esz v n c) : fillA [.slice none 0 0] [(0, 1, v)] = some [v] ∧ v.oneCell' = true := by
  obtain ⟨a, rfl⟩ := h.shape
  exact ⟨rfl, rfl⟩
end Go.AM.Fd

set_option linter.unusedSimpArgs false
set_option linter.unusedVariables false
namespace Go.AM.Fd
open Go.Proofs Go.AM.F
theorem GS.rd {N : Nat} {K : AHeap} {v : Value} {ws : List Row} (h : GS N K v ws ws) : Sl K 1 v (ws.reverse.map fun x => [x.1]) ∧ ∀ x ∈ ws.reverse, TL K x.1 x.2 := by
  refine ⟨?_, fun x hx => ?_⟩
  · have ho := h.out
    have e : (ws.reverse.map fun x => [x.1]).flatten = outC ws := by
      unfold outC
      rw [← List.map_reverse]
      induction ws.reverse with
      | nil => rfl
      | cons a l ih => simp [ih]
    rw [← e] at ho
    exact ho.sl (by intro r hr; obtain ⟨x, _, rfl⟩ := List.mem_map.1 hr; rfl) (by simp)
  · have hx' : x ∈ ws := List.mem_reverse.1 hx
    have ha : AP K 9 1 x.1 x.2.length (txs x.2) := h.1.all (thG x) (List.mem_cons_of_mem _ (List.mem_map_of_mem hx'))
    have e : txs x.2 = (x.2.map tRow).flatten := by
      unfold txs
      induction x.2 with
      | nil => rfl
      | cons a l ih => simp [ih, tRow]
    rw [e] at ha
    exact ha.sl (by intro r hr; obtain ⟨x, _, rfl⟩ := List.mem_map.1 hr; rfl) (by simp)
theorem grp_mem : ∀ (ts : List (List UInt8)) (acc : List (List (List UInt8))) (k : Nat) (A : List (List UInt8)), (∀ g ∈ acc, g.length ≤ k ∧ ∀ x ∈ g, x ∈ A) → (∀ x ∈ ts, x ∈ A) → ∀ g ∈ ts.foldl grp acc, g.length ≤ k + ts.length ∧ ∀ x ∈ g, x ∈ A
  | [], acc, k, A, h, _, g, hg => ⟨by have := (h g hg).1; simpa using this, (h g hg).2⟩
  | t :: ts, acc, k, A, h, ha, g, hg => by
    have := grp_mem ts (grp acc t) (k + 1) A (fun g hg => by
      unfold grp at hg
      split at hg
      · rcases List.mem_cons.1 hg with rfl | hg
        · simp
        · have := h g hg; exact ⟨by omega, this.2⟩
      · split at hg
        · rcases List.mem_cons.1 hg with rfl | hg
          · have := h _ (List.mem_cons_self ..)
            refine ⟨by simp; omega, fun x hx => ?_⟩
            rcases List.mem_append.1 hx with hx | hx
            · exact this.2 x hx
            · simp at hx; subst hx; exact ha x (by simp)
          · have := h g (by simp [hg]); exact ⟨by omega, this.2⟩
        · simp at hg; subst hg
          exact ⟨by simp, fun x hx => by simp at hx; subst hx; exact ha x (by simp)⟩) (fun x hx => ha x (by simp [hx])) g hg
    exact ⟨by simp; omega, this.2⟩
theorem groups_mem {ts : List (List UInt8)} {g : List (List UInt8)} (h : g ∈ groupsB ts) : g.length ≤ ts.length ∧ ∀ x ∈ g, x ∈ ts := by
  have := grp_mem ts [[]] 0 ts (fun g hg => by simp at hg; subst hg; simp) (fun x hx => hx) g (List.mem_reverse.1 h)
  exact ⟨by omega, this.2⟩
theorem _root_.Go.AM.SepH.merges {H K : AHeap} {t : Th} {us r : List Th} (h : SepH H K (us ++ r)) (hp : t.P K) (hf : ∀ y ∈ t.F, ∃ a ∈ us, y ∈ a.F) : SepH H K (t :: r) := by
  have h1 := List.pairwise_append.1 h.sep.ap
  refine ⟨⟨fun x hx => ?_, List.pairwise_cons.2 ⟨fun x hx y hy hyx => ?_, h1.2.1⟩⟩, h.k, fun x hx y hy => ?_⟩
  · rcases List.mem_cons.1 hx with rfl | hx
    · exact hp
    · exact h.sep.all x (by simp [hx])
  · obtain ⟨a, ha, hya⟩ := hf y hy
    exact h1.2.2 a ha x hx y hya hyx
  · rcases List.mem_cons.1 hx with rfl | hx
    · obtain ⟨a, ha, hya⟩ := hf y hy
      exact h.ge a (by simp [ha]) y hya
    · exact h.ge x (by simp [hx]) y hy
theorem _root_.Go.AM.SepH.join {B H K : AHeap} {ts us : List Th} (h : SepH B H ts) (s : SepH H K us) : SepH B K (us ++ ts) := by
  refine ⟨⟨fun x hx => ?_, List.pairwise_append.2 ⟨s.sep.ap, h.sep.ap, fun x hx y hy b hb hb2 => ?_⟩⟩, h.k.trans s.k, fun x hx y hy => ?_⟩
  · rcases List.mem_append.1 hx with hx | hx
    · exact s.sep.all x hx
    · exact (h.sep.keeps s.k).all x hx
  · have := s.ge x hx b hb
    have := y.lt H (h.sep.all y hy) b hb2
    omega
  · rcases List.mem_append.1 hx with hx | hx
    · have := s.ge x hx y hy; have := h.k.n; omega
    · exact h.ge x hx y hy
theorem tb_blk {v : Value} {e esz n : Nat} {K : AHeap} {c : List Value} (h : AP K e esz v n c) : ∀ y ∈ tb v, y ∈ blkL v := by
  intro y hy
  rcases h with ⟨rfl, _, _⟩ | ⟨b, room, rfl, _, _⟩
  · simp [tb] at hy
  · simpa [tb, slc, blkL, blk] using hy
end Go.AM.Fd
