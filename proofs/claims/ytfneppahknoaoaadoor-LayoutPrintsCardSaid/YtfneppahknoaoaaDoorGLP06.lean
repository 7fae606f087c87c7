/- Part of the proof. -/
import Derived.Test.YtfneppahknoaoaaDoorGLP05
set_option linter.unusedSimpArgs false
set_option linter.unusedVariables false
set_option linter.unusedVariables false
set_option linter.unusedSimpArgs false
namespace Go.AM.Fd
open Nat (reduceAdd reduceEqDiff reduceLT reduceLeDiff reduceMul reduceSub)
open Go.Proofs Go.AM.F Go.AM.Ky
theorem t57 {H : AHeap} {u : V4} {xs : List RV} {L : Ly} (h : LyR H u xs L) {k : Nat} (b : Bool) (hk : k < L.p.length) (hl : (L.p.getD k ([], 0)).1.length ≤ 1000000) :
    ∃ w H', ARun Go.Proofs.Tryd.prog 4 57 [.agg u.l.toArray, .agg #[.int .i64 (k : Int), .bool b]] H w H' ∧ w = .string ⟨((L.p.getD k ([], 0)).1 ++ [if b then 45 else 43]).toArray⟩ ∧ H' = H := by
  suffices h' : ∃ w H', ARun Go.Proofs.Tryd.prog 4 57 [.agg u.l.toArray, .agg #[.int .i64 (k : Int), .bool b]] H w H' ∧ w = .string ⟨((L.p.getD k ([], 0)).1 ++ [if b then 45 else 43]).toArray⟩ ∧ Keeps H H' by
    obtain ⟨_, _, a, rfl, k⟩ := h'
    exact ⟨_, _, a.gc0 k (.inr (.string _)), rfl, rfl⟩
  refine walk2 f57_ok f57_n ?_
  intro Q hq1 hq2
  have os := Sl.one h.s
  have op := Sl.one h.p
  have og := Sl.one h.g
  have or := Sl.one h.r
  have lp := h.p.len
  have ip := Sl.is h.p
  have k0 : Keeps H (H.alloc (.cells true false 4 u.l 28)) := (Keeps.refl H).alloc _
  have k1 : Keeps H ((H.alloc (.cells true false 4 u.l 28)).alloc (.cells true false 2 [.int .i64 (k : Int), .bool b] 45)) := k0.alloc _
  have gl : ((H.alloc (.cells true false 4 u.l 28)).alloc (.cells true false 2 [.int .i64 (k : Int), .bool b] 45)).get H.n = some (.cells true false 4 u.l 28) := (((Keeps.refl _).alloc _)).at_ (AHeap.get_alloc_new H _)
  have gn : ((H.alloc (.cells true false 4 u.l 28)).alloc (.cells true false 2 [.int .i64 (k : Int), .bool b] 45)).get (H.n + 1) = some (.cells true false 2 [.int .i64 (k : Int), .bool b] 45) := AHeap.get_alloc_new (H.alloc _) _
  obtain ⟨np, rp⟩ := (h.p.keeps k1).at_ hk
  have e1 : (0 : Int) ≤ (k : Int) := by omega
  have e2 : (k : Int) < ((lenS u.p : Nat) : Int) := by omega
  obtain ⟨us, up, ug, ur⟩ := u
  simp only [V4.l] at *
  have ho4 : [us, up, ug, ur].all Value.oneCell' = true := by simp only [List.all_cons, List.all_nil, os, op, og, or]; rfl
  have ho2 : [Value.int .i64 (k : Int), .bool b].all Value.oneCell' = true := rfl
  generalize hX : ((H.alloc (.cells true false 4 [us, up, ug, ur] 28)).alloc (.cells true false 2 [.int .i64 (k : Int), .bool b] 45)) = X at *
  have ha : ∀ c : UInt8, binA .add (.string ⟨(L.p.getD k ([], 0)).1.toArray⟩) (.string ⟨[c].toArray⟩) = some (.string ⟨((L.p.getD k ([], 0)).1 ++ [c]).toArray⟩) := fun c => b_addS (by simp only [List.length_cons, List.length_nil]; omega)
  have e3 : ((L.p.length : Nat) : Int) = ((lenS up : Nat) : Int) := by omega
  cases b
  · simp (disch := first | assumption | omega | (simp only [LN] <;> omega) | (simp (disch := first | assumption | omega | (simp only [LN] <;> omega)) only [row_alloc, row_set]; assumption)) only [f57, W_block, P3, ↓reduceIte, reduceAdd, reduceEqDiff, reduceCtorEq, initFr, reduceLT, clsA, reduceLeDiff, reduceMul, reduceSub, reduceIte, ho4, ho2, hX, gn, gl, ip, np, rp, e1, e2, a_load1v, ha]
    exact hq2 _ _ ⟨_, rfl, rfl, k1⟩
  · simp (disch := first | assumption | omega | (simp only [LN] <;> omega) | (simp (disch := first | assumption | omega | (simp only [LN] <;> omega)) only [row_alloc, row_set]; assumption)) only [f57, W_block, P3, ↓reduceIte, reduceAdd, reduceEqDiff, reduceCtorEq, initFr, reduceLT, clsA, reduceLeDiff, reduceMul, reduceSub, reduceIte, ho4, ho2, hX, gn, gl, ip, np, rp, e1, e2, a_load1v, ha]
    exact hq2 _ _ ⟨_, rfl, rfl, k1⟩
theorem nm_get {l : List (List UInt8)} {y : Int} (h : 0 ≤ y ∧ y < l.length) : l.getD y.toNat [] = nmAt l y := rfl
theorem pre_le {α : Type} (f : α → List UInt8) {l : List α} {i : Nat} (d : α) (hi : i < l.length) : ((l.take i).flatMap f).length + (f (l.getD i d)).length ≤ (l.flatMap f).length := by
  have h1 : l[i]? = some (l.getD i d) := by simp [List.getD, List.getElem?_eq_getElem hi]
  have h2 := flatMap_le f l (i + 1)
  rw [flatMap_take f h1, List.length_append] at h2
  exact h2
theorem pre_next {α : Type} (f : α → List UInt8) {l : List α} {i : Nat} (d : α) (hi : i < l.length) : (l.take (i + 1)).flatMap f = (l.take i).flatMap f ++ f (l.getD i d) := 
  flatMap_take f (by simp [List.getD, List.getElem?_eq_getElem hi])
def wN (p : List (List UInt8 × Int)) (x : Int × Bool) : List UInt8 := 32 :: (nmAt (p.map (·.1)) x.1 ++ [if x.2 then 45 else 43])
set_option maxHeartbeats 1000000 in
theorem t41s {H : AHeap} {u : V4} {xs : List RV} {L : Ly} {v : Value} {l : List Int} (h : LyR H u xs L) (hv : IL H v l) (hn : l.length ≤ 1000000000) (hl : ∀ y ∈ l, 0 ≤ y ∧ y < L.s.length) (hT : (txI L.s l).length ≤ 140737488355328) :
    ∃ w H', ARun Go.Proofs.Tryd.prog 4 41 [.agg u.l.toArray, v, .slice none 0 0] H w H' ∧ w = .string ⟨(txI L.s l).toArray⟩ ∧ H' = H := by
  suffices h' : ∃ w H', ARun Go.Proofs.Tryd.prog 4 41 [.agg u.l.toArray, v, .slice none 0 0] H w H' ∧ w = .string ⟨(txI L.s l).toArray⟩ ∧ Keeps H H' by
    obtain ⟨_, _, a, rfl, k⟩ := h'
    exact ⟨_, _, a.gc0 k (.inr (.string _)), rfl, rfl⟩
  refine walk2 f41_ok f41_n ?_
  intro Q hq1 hq2
  have os := Sl.one h.s
  have op := Sl.one h.p
  have og := Sl.one h.g
  have or := Sl.one h.r
  have ls := h.s.len
  have is := Sl.is h.s
  have iv := Sl.is hv
  have lv := hv.len
  have k0 : Keeps H (H.alloc (.cells true false 4 u.l 28)) := (Keeps.refl H).alloc _
  have gl : (H.alloc (.cells true false 4 u.l 28)).get H.n = some (.cells true false 4 u.l 28) := AHeap.get_alloc_new H _
  have hs0 := h.s.keeps k0
  have hv0 := hv.keeps k0
  obtain ⟨us, up, ug, ur⟩ := u
  simp only [V4.l] at *
  have ho4 : [us, up, ug, ur].all Value.oneCell' = true := by simp only [List.all_cons, List.all_nil, os, op, og, or]; rfl
  generalize hX : (H.alloc (.cells true false 4 [us, up, ug, ur] 28)) = X at *
  simp (disch := first | assumption | omega | (simp only [LN] <;> omega) | (simp (disch := first | assumption | omega | (simp only [LN] <;> omega)) only [row_alloc, row_set]; assumption)) only [ f41, P3, ↓reduceIte, reduceAdd, reduceEqDiff, reduceCtorEq, initFr, reduceLT, clsA, reduceLeDiff, reduceMul, reduceSub, reduceIte, ho4, hX, lv]
  obtain ⟨A1, hA1⟩ : ∃ v : Value, v = .agg #[us, up, ug, ur] := ⟨_, rfl⟩
  rw [W_block, ← hA1]
  refine W_loop2 (fun k fr K => ∃ i x8, fr = [A1, v, .slice none 0 0, ptr H.n 0, .string ⟨([] : List UInt8).toArray⟩, .string ⟨([32, 58] ++ (l.take i).flatMap fun x => 32 :: nmAt L.s x).toArray⟩, .int .i64 ((i : Nat) : Int), undef, x8, undef] ∧ K = X ∧ i ≤ l.length ∧ k = l.length - i) l.length
    ⟨0, _, rfl, rfl, by omega, rfl⟩ ?_
  rintro Q' k fr K ⟨i, x8, rfl, rfl, hi, rfl⟩ hn hx hret
  by_cases hlt : i < l.length
  · obtain ⟨nv, rv⟩ := hv0.at_ hlt
    have hy := hl _ (getD_mem (d := (0 : Int)) hlt)
    have hnm := nm_get hy
    have hT2 := pre_le (fun x => 32 :: nmAt L.s x) (0 : Int) hlt
    have hnx := pre_next (fun x => 32 :: nmAt L.s x) (0 : Int) hlt
    generalize l.getD i 0 = y at *
    obtain ⟨ns, rs⟩ := hs0.at_ (i := y.toNat) (by omega)
    rw [hnm] at rs
    have h0 : (0 : Int) ≤ (i : Int) := by omega
    have h1 : (i : Int) < ((lenS v : Nat) : Int) := by omega
    have h3 : (i : Int) < ((l.length : Nat) : Int) := by omega
    have h4 : (0 : Int) ≤ y := by omega
    have h5 : y < ((lenS us : Nat) : Int) := by omega
    have hw : IntKind.i64.wrap ((i : Int) + 1) = ((i + 1 : Nat) : Int) := by rw [wrap_i64 (by omega) (by omega)]; simp
    unfold tRow at rs
    have hb1 := b_addS (a := [32, 58] ++ (l.take i).flatMap fun x => 32 :: nmAt L.s x) (b := [32]) (by unfold txI at hT; simp only [List.length_append, List.length_cons, List.length_nil] at *; omega)
    have hb2 := b_addS (a := ([32, 58] ++ (l.take i).flatMap fun x => 32 :: nmAt L.s x) ++ [32]) (b := nmAt L.s y) (by unfold txI at hT; simp only [List.length_append, List.length_cons, List.length_nil] at *; omega)
    have e : (([32, 58] ++ (l.take i).flatMap fun x => 32 :: nmAt L.s x) ++ [32]) ++ nmAt L.s y = [32, 58] ++ (l.take (i + 1)).flatMap fun x => 32 :: nmAt L.s x := by rw [hnx]; simp
    generalize ([32, 58] ++ (l.take i).flatMap fun x => 32 :: nmAt L.s x) = T0 at *
    simp (disch := first | assumption | omega | (simp only [LN] <;> omega) | (simp (disch := first | assumption | omega | (simp only [LN] <;> omega)) only [row_alloc, row_set]; assumption)) only [W_block, P3, ↓reduceIte, reduceAdd, reduceEqDiff, reduceCtorEq, initFr, reduceLT, clsA, reduceLeDiff, reduceMul, reduceSub, reduceIte, lv, ls, gl, iv, is, nv, rv, ns, rs, h0, h1, h3, h4, h5, a_load1v, hb1, hb2, hw]
    rw [e]
    exact hn _ _ _ ⟨i + 1, _, rfl, rfl, by omega, rfl⟩ (by omega)
  · have h3 : ¬ (i : Int) < ((l.length : Nat) : Int) := by omega
    have ei : i = l.length := by omega
    subst ei
    rw [show ([32, 58] ++ (l.take l.length).flatMap fun x => 32 :: nmAt L.s x) = txI L.s l from by rw [List.take_length]; rfl]
    generalize txI L.s l = T0 at *
    simp (disch := first | assumption | omega | (simp only [LN] <;> omega) | (simp (disch := first | assumption | omega | (simp only [LN] <;> omega)) only [row_alloc, row_set]; assumption)) only [W_block, P3, ↓reduceIte, reduceAdd, reduceEqDiff, reduceCtorEq, initFr, reduceLT, clsA, reduceLeDiff, reduceMul, reduceSub, reduceIte, lv, h3]
    refine hx 0 _ _ ?_
    simp (disch := first | assumption | omega | (simp only [LN] <;> omega) | (simp (disch := first | assumption | omega | (simp only [LN] <;> omega)) only [row_alloc, row_set]; assumption)) only [ P3, ↓reduceIte, reduceAdd, reduceEqDiff, reduceCtorEq, initFr, reduceLT, clsA, reduceLeDiff, reduceMul, reduceSub, reduceIte]
    rw [W_block]
    refine W_loop2 (fun k fr K' => ∃ x9, fr = [A1, v, .slice none 0 0, ptr H.n 0, .string ⟨([] : List UInt8).toArray⟩, .string ⟨T0.toArray⟩, .int .i64 ((l.length : Nat) : Int), .int .i64 0, .bool false, x9] ∧ K' = K ∧ k = 0) 0
      ⟨_, rfl, rfl, rfl⟩ ?_
    rintro Q2 k fr K' ⟨x9, rfl, rfl, rfl⟩ hn2 hx2 hret2
    have e0 : ¬ (0 : Int) < 0 := by omega
    simp (disch := first | assumption | omega | (simp only [LN] <;> omega) | (simp (disch := first | assumption | omega | (simp only [LN] <;> omega)) only [row_alloc, row_set]; assumption)) only [W_block, P3, ↓reduceIte, reduceAdd, reduceEqDiff, reduceCtorEq, initFr, reduceLT, clsA, reduceLeDiff, reduceMul, reduceSub, reduceIte, e0, lenS]
    refine hx2 2 _ _ ?_
    simp (disch := first | assumption | omega | (simp only [LN] <;> omega) | (simp (disch := first | assumption | omega | (simp only [LN] <;> omega)) only [row_alloc, row_set]; assumption)) only [W_block, P3, ↓reduceIte, reduceAdd, reduceEqDiff, reduceCtorEq, initFr, reduceLT, clsA, reduceLeDiff, reduceMul, reduceSub, reduceIte]
    exact hq2 _ _ ⟨_, rfl, rfl, k0⟩
set_option maxHeartbeats 1000000 in
theorem t41n {H : AHeap} {u : V4} {xs : List RV} {L : Ly} {v : Value} {l : List (Int × Bool)} (h : LyR H u xs L) (hv : NL H v l) (hn : l.length ≤ 1000000000) (hl : ∀ y ∈ l, 0 ≤ y.1 ∧ y.1 < L.p.length) (hT : (txN L.p l).length ≤ 140737488355328) (hP : ∀ x ∈ L.p, x.1.length ≤ 1000000) :
    ∃ w H', ARun Go.Proofs.Tryd.prog 4 41 [.agg u.l.toArray, .slice none 0 0, v] H w H' ∧ w = .string ⟨(txN L.p l).toArray⟩ ∧ H' = H := by
  suffices h' : ∃ w H', ARun Go.Proofs.Tryd.prog 4 41 [.agg u.l.toArray, .slice none 0 0, v] H w H' ∧ w = .string ⟨(txN L.p l).toArray⟩ ∧ Keeps H H' by
    obtain ⟨_, _, a, rfl, k⟩ := h'
    exact ⟨_, _, a.gc0 k (.inr (.string _)), rfl, rfl⟩
  refine walk2 f41_ok f41_n ?_
  intro Q hq1 hq2
  have os := Sl.one h.s
  have op := Sl.one h.p
  have og := Sl.one h.g
  have or := Sl.one h.r
  have iv := Sl.is hv
  have lv := hv.len
  have k0 : Keeps H (H.alloc (.cells true false 4 u.l 28)) := (Keeps.refl H).alloc _
  have gl : (H.alloc (.cells true false 4 u.l 28)).get H.n = some (.cells true false 4 u.l 28) := AHeap.get_alloc_new H _
  have h0L := h.keeps k0
  have hv0 := hv.keeps k0
  obtain ⟨us, up, ug, ur⟩ := u
  simp only [V4.l] at *
  have ll : [us, up, ug, ur].length = 4 := rfl
  have ho4 : [us, up, ug, ur].all Value.oneCell' = true := by simp only [List.all_cons, List.all_nil, os, op, og, or]; rfl
  generalize hX : (H.alloc (.cells true false 4 [us, up, ug, ur] 28)) = X at *
  simp (disch := first | assumption | omega | (simp only [LN] <;> omega) | (simp (disch := first | assumption | omega | (simp only [LN] <;> omega)) only [row_alloc, row_set]; assumption)) only [ f41, P3, ↓reduceIte, reduceAdd, reduceEqDiff, reduceCtorEq, initFr, reduceLT, clsA, reduceLeDiff, reduceMul, reduceSub, reduceIte, ho4, hX, lv]
  obtain ⟨A1, hA1⟩ : ∃ v : Value, v = .agg #[us, up, ug, ur] := ⟨_, rfl⟩
  rw [W_block, ← hA1]
  refine W_loop2 (fun k fr K' => ∃ x8, fr = [A1, .slice none 0 0, v, ptr H.n 0, .string ⟨([] : List UInt8).toArray⟩, .string ⟨[32, 58].toArray⟩, .int .i64 0, undef, x8, undef] ∧ K' = X ∧ k = 0) 0
    ⟨_, rfl, rfl, rfl⟩ ?_
  rintro Q1 k fr K' ⟨x8, rfl, rfl, rfl⟩ hn1 hx1 hret1
  have e0 : ¬ (0 : Int) < 0 := by omega
  simp (disch := first | assumption | omega | (simp only [LN] <;> omega) | (simp (disch := first | assumption | omega | (simp only [LN] <;> omega)) only [row_alloc, row_set]; assumption)) only [W_block, P3, ↓reduceIte, reduceAdd, reduceEqDiff, reduceCtorEq, initFr, reduceLT, clsA, reduceLeDiff, reduceMul, reduceSub, reduceIte, e0, lenS]
  refine hx1 0 _ _ ?_
  clear hn1 hx1 hret1
  simp (disch := first | assumption | omega | (simp only [LN] <;> omega) | (simp (disch := first | assumption | omega | (simp only [LN] <;> omega)) only [row_alloc, row_set]; assumption)) only [ P3, ↓reduceIte, reduceAdd, reduceEqDiff, reduceCtorEq, initFr, reduceLT, clsA, reduceLeDiff, reduceMul, reduceSub, reduceIte]
  rw [W_block]
  refine W_loop2 (fun k fr K => ∃ i x9, fr = [A1, .slice none 0 0, v, ptr H.n 0, .string ⟨([] : List UInt8).toArray⟩, .string ⟨([32, 58] ++ (l.take i).flatMap (wN L.p)).toArray⟩, .int .i64 0, .int .i64 ((i : Nat) : Int), .bool false, x9] ∧ K = K' ∧ i ≤ l.length ∧ k = l.length - i) l.length
    ⟨0, _, rfl, rfl, by omega, rfl⟩ ?_
  rintro Q' k fr K ⟨i, x9, rfl, rfl, hi, rfl⟩ hn hx hret
  by_cases hlt : i < l.length
  · obtain ⟨nv, rv⟩ := hv0.at_ hlt
    have hy := hl _ (getD_mem (d := ((0 : Int), false)) hlt)
    have hT2 := pre_le (wN L.p) ((0 : Int), false) hlt
    have hnx := pre_next (wN L.p) ((0 : Int), false) hlt
    generalize l.getD i (0, false) = y at *
    obtain ⟨y, b⟩ := y
    simp only [wN] at hy hT2 hnx
    obtain ⟨n, rfl⟩ : ∃ n : Nat, y = (n : Int) := ⟨y.toNat, by omega⟩
    have hk : n < L.p.length := by omega
    have hnm : nmAt (L.p.map (·.1)) (n : Int) = (L.p.getD n ([], 0)).1 := by
      simp only [nmAt, List.getD, List.getElem?_map, Int.toNat_natCast]
      cases L.p[n]? <;> rfl
    have hc := t57 h0L b hk (hP _ (getD_mem hk))
    rw [← hnm] at hc
    have h0 : (0 : Int) ≤ (i : Int) := by omega
    have h1 : (i : Int) < ((lenS v : Nat) : Int) := by omega
    have h3 : (i : Int) < ((l.length : Nat) : Int) := by omega
    have hw : IntKind.i64.wrap ((i : Int) + 1) = ((i + 1 : Nat) : Int) := by rw [wrap_i64 (by omega) (by omega)]; simp
    have hb1 := b_addS (a := [32, 58] ++ (l.take i).flatMap (wN L.p)) (b := [32]) (by have hT' : ([32, 58] ++ l.flatMap (wN L.p)).length ≤ 140737488355328 := hT; simp only [List.length_append, List.length_cons, List.length_nil] at *; omega)
    have hb2 := b_addS (a := ([32, 58] ++ (l.take i).flatMap (wN L.p)) ++ [32]) (b := nmAt (L.p.map (·.1)) (n : Int) ++ [if b then 45 else 43]) (by have hT' : ([32, 58] ++ l.flatMap (wN L.p)).length ≤ 140737488355328 := hT; simp only [List.length_append, List.length_cons, List.length_nil] at *; omega)
    have e : (([32, 58] ++ (l.take i).flatMap (wN L.p)) ++ [32]) ++ (nmAt (L.p.map (·.1)) (n : Int) ++ [if b then 45 else 43]) = [32, 58] ++ (l.take (i + 1)).flatMap (wN L.p) := by rw [hnx]; simp
    generalize ([32, 58] ++ (l.take i).flatMap (wN L.p)) = T0 at *
    generalize (nmAt (L.p.map (·.1)) (n : Int) ++ [if b then 45 else 43]) = W0 at *
    simp (disch := first | assumption | omega | (simp only [LN] <;> omega) | (simp (disch := first | assumption | omega | (simp only [LN] <;> omega)) only [row_alloc, row_set]; assumption)) only [W_block, P3, ↓reduceIte, reduceAdd, reduceEqDiff, reduceCtorEq, initFr, reduceLT, clsA, reduceLeDiff, reduceMul, reduceSub, reduceIte, lv, gl, ll, iv, nv, rv, h0, h1, h3, a_loadnvf, hb1]
    refine callK hc ?_
    rintro _ X ⟨rfl, hX⟩
    rw [hX]
    simp (disch := first | assumption | omega | (simp only [LN] <;> omega) | (simp (disch := first | assumption | omega | (simp only [LN] <;> omega)) only [row_alloc, row_set]; assumption)) only [W_block, P3, ↓reduceIte, reduceAdd, reduceEqDiff, reduceCtorEq, initFr, reduceLT, clsA, reduceLeDiff, reduceMul, reduceSub, reduceIte, hb2, hw]
    rw [e]
    exact hn _ _ _ ⟨i + 1, _, rfl, rfl, by omega, rfl⟩ (by omega)
  · have h3 : ¬ (i : Int) < ((l.length : Nat) : Int) := by omega
    have ei : i = l.length := by omega
    subst ei
    rw [show ([32, 58] ++ (l.take l.length).flatMap (wN L.p)) = txN L.p l from by rw [List.take_length]; rfl]
    generalize txN L.p l = T0 at *
    simp (disch := first | assumption | omega | (simp only [LN] <;> omega) | (simp (disch := first | assumption | omega | (simp only [LN] <;> omega)) only [row_alloc, row_set]; assumption)) only [W_block, P3, ↓reduceIte, reduceAdd, reduceEqDiff, reduceCtorEq, initFr, reduceLT, clsA, reduceLeDiff, reduceMul, reduceSub, reduceIte, lv, h3]
    refine hx 2 _ _ ?_
    simp (disch := first | assumption | omega | (simp only [LN] <;> omega) | (simp (disch := first | assumption | omega | (simp only [LN] <;> omega)) only [row_alloc, row_set]; assumption)) only [W_block, P3, ↓reduceIte, reduceAdd, reduceEqDiff, reduceCtorEq, initFr, reduceLT, clsA, reduceLeDiff, reduceMul, reduceSub, reduceIte]
    exact hq2 _ _ ⟨_, rfl, rfl, k0⟩
end Go.AM.Fd

set_option linter.unusedVariables false
set_option linter.unusedSimpArgs false
namespace Go.AM.Fd
open Nat (reduceAdd reduceEqDiff reduceLT reduceLeDiff reduceMul reduceSub)
open Go.Proofs Go.AM.F Go.AM.Ky
def PM (A : Value) (H : AHeap) (u : V4) (T : List UInt8) (fr : List Value) (K : AHeap) : Prop :=
  ∃ (x5 x6 x7 x8 x9 x10 x11 x12 x13 x14 x15 : Value), fr = [A, ptr H.n 0, .string ⟨([] : List UInt8).toArray⟩, .int .i64 0, .string ⟨T.toArray⟩, x5, x6, x7, x8, x9, x10, x11, x12, x13, x14, x15] ∧ Keeps (vB H u) K
def wS (x : List UInt8) : List UInt8 := secW ++ 32 :: x ++ [10]
def wP (W : List UInt8) (s : List (List UInt8)) (x : List UInt8 × Int) : List UInt8 := W ++ 32 :: x.1 ++ 32 :: nmAt s x.2 ++ [10]
set_option maxHeartbeats 2000000 in
theorem pr1 {H : AHeap} {u : V4} {xs : List RV} {L : Ly} {Q : AQ} {A : Value} {fr : List Value} {K : AHeap} {T : List UInt8} (h : LyR H u xs L) (hl : L.s.length ≤ 1000000) (hT : (T ++ txS L.s).length ≤ 140737488355328) (hm : PM A H u T fr K)
    (hk : ∀ fr K, PM A H u (T ++ txS L.s) fr K → Q .normal fr K) : W Go.Proofs.Tryd.prog 4 (cpre 1 (cpost 3 f17.body)) Q fr K := by
  obtain ⟨x5, x6, x7, x8, x9, x10, x11, x12, x13, x14, x15, rfl, hkK⟩ := hm
  have lp := h.s.len
  have ip := Sl.is h.s
  simp (disch := first | assumption | omega | (simp only [LN] <;> omega) | (simp (disch := first | assumption | omega | (simp only [LN] <;> omega)) only [row_alloc, row_set]; assumption)) only [ f17, cpre, cpost, P3, ↓reduceIte, reduceAdd, reduceEqDiff, reduceCtorEq, initFr, reduceLT, clsA, reduceLeDiff, reduceMul, reduceSub, reduceIte]
  rw [W_block]
  refine W_loop2 (fun k fr K => ∃ i xc, fr = [A, ptr H.n 0, .string ⟨([] : List UInt8).toArray⟩, .int .i64 0, .string ⟨(T ++ (L.s.take i).flatMap wS).toArray⟩, .int .i64 ((i : Nat) : Int), x6, x7, x8, x9, x10, xc, x12, x13, x14, x15] ∧ Keeps (vB H u) K ∧ i ≤ L.s.length ∧ k = L.s.length - i) L.s.length
    ⟨0, x11, by simp, hkK, by omega, rfl⟩ ?_
  clear hkK
  rintro Q' k fr K ⟨i, xc, rfl, hkK, hi, rfl⟩ hn hx hret
  have gl := hkK.at_ (vB_g H u)
  simp only [V4.l] at gl
  by_cases hlt : i < L.s.length
  · have h3 : (i : Int) < ((L.s.length : Nat) : Int) := by omega
    obtain ⟨na, ra⟩ := (h.s.keeps ((vB_k H u).trans hkK)).at_ hlt
    have h1 : (0 : Int) ≤ (i : Int) := by omega
    have h2 : (i : Int) < ((lenS u.s : Nat) : Int) := by omega
    have hT2 := pre_le wS ([] : List UInt8) hlt
    have hnx := pre_next wS ([] : List UInt8) hlt
    have hT' : (T ++ L.s.flatMap wS).length ≤ 140737488355328 := hT
    have hw : IntKind.i64.wrap ((i : Int) + 1) = ((i + 1 : Nat) : Int) := by rw [wrap_i64 (by omega) (by omega)]; simp
    unfold tRow at ra
    generalize L.s.getD i [] = y at *
    simp only [wS] at hT2
    have hb1 := b_addS (a := T ++ (L.s.take i).flatMap wS) (b := [115, 101, 99, 116, 105, 111, 110, 32]) (by simp only [List.length_append, List.length_cons, List.length_nil, secW] at *; omega)
    have hb2 := b_addS (a := (T ++ (L.s.take i).flatMap wS) ++ [115, 101, 99, 116, 105, 111, 110, 32]) (b := y) (by simp only [List.length_append, List.length_cons, List.length_nil, secW] at *; omega)
    have hb3 := b_addS (a := ((T ++ (L.s.take i).flatMap wS) ++ [115, 101, 99, 116, 105, 111, 110, 32]) ++ y) (b := [10]) (by simp only [List.length_append, List.length_cons, List.length_nil, secW] at *; omega)
    have e : (((T ++ (L.s.take i).flatMap wS) ++ [115, 101, 99, 116, 105, 111, 110, 32]) ++ y) ++ [10] = T ++ (L.s.take (i + 1)).flatMap wS := by rw [hnx]; simp [wS, secW]
    generalize (T ++ (L.s.take i).flatMap wS) = T0 at *
    simp (disch := first | assumption | omega | (simp only [LN] <;> omega) | (simp (disch := first | assumption | omega | (simp only [LN] <;> omega)) only [row_alloc, row_set]; assumption)) only [W_block, P3, ↓reduceIte, reduceAdd, reduceEqDiff, reduceCtorEq, initFr, reduceLT, clsA, reduceLeDiff, reduceMul, reduceSub, reduceIte, gl, lp, ip, ra, na, h1, h2, h3, a_load1v, hb1, hb2, hb3, hw]
    rw [e]
    refine hn _ _ _ ⟨i + 1, _, rfl, hkK, by omega, rfl⟩ (by omega)
  · have h3 : ¬ (i : Int) < ((L.s.length : Nat) : Int) := by omega
    have ei : i = L.s.length := by omega
    subst ei
    rw [show T ++ (L.s.take L.s.length).flatMap wS = T ++ txS L.s from by rw [List.take_length]; rfl]
    generalize T ++ txS L.s = T0 at *
    simp (disch := first | assumption | omega | (simp only [LN] <;> omega) | (simp (disch := first | assumption | omega | (simp only [LN] <;> omega)) only [row_alloc, row_set]; assumption)) only [W_block, P3, ↓reduceIte, reduceAdd, reduceEqDiff, reduceCtorEq, initFr, reduceLT, clsA, reduceLeDiff, reduceMul, reduceSub, reduceIte, gl, lp, h3]
    refine hx 0 _ _ ?_
    exact hk _ _ ⟨_, _, _, _, _, _, _, _, _, _, _, rfl, hkK⟩
set_option maxHeartbeats 2000000 in
theorem pr2 {H : AHeap} {u : V4} {xs : List RV} {L : Ly} {Q : AQ} {A : Value} {fr : List Value} {K : AHeap} {T : List UInt8} (h : LyR H u xs L) (hl : L.p.length ≤ 1000000) (hS : ∀ x ∈ L.p, 0 ≤ x.2 ∧ x.2 < L.s.length) (hT : (T ++ txP ptW L.s L.p).length ≤ 140737488355328) (hm : PM A H u T fr K)
    (hk : ∀ fr K, PM A H u (T ++ txP ptW L.s L.p) fr K → Q .normal fr K) : W Go.Proofs.Tryd.prog 4 (cpre 1 (cpost 4 f17.body)) Q fr K := by
  obtain ⟨x5, x6, x7, x8, x9, x10, x11, x12, x13, x14, x15, rfl, hkK⟩ := hm
  have lp := h.p.len
  have ip := Sl.is h.p
  have ls := h.s.len
  have is := Sl.is h.s
  simp (disch := first | assumption | omega | (simp only [LN] <;> omega) | (simp (disch := first | assumption | omega | (simp only [LN] <;> omega)) only [row_alloc, row_set]; assumption)) only [ f17, cpre, cpost, P3, ↓reduceIte, reduceAdd, reduceEqDiff, reduceCtorEq, initFr, reduceLT, clsA, reduceLeDiff, reduceMul, reduceSub, reduceIte]
  rw [W_block]
  refine W_loop2 (fun k fr K => ∃ i xc, fr = [A, ptr H.n 0, .string ⟨([] : List UInt8).toArray⟩, .int .i64 0, .string ⟨(T ++ (L.p.take i).flatMap (wP ptW L.s)).toArray⟩, x5, .int .i64 ((i : Nat) : Int), x7, x8, x9, x10, x11, xc, x13, x14, x15] ∧ Keeps (vB H u) K ∧ i ≤ L.p.length ∧ k = L.p.length - i) L.p.length
    ⟨0, x12, by simp, hkK, by omega, rfl⟩ ?_
  clear hkK
  rintro Q' k fr K ⟨i, xc, rfl, hkK, hi, rfl⟩ hn hx hret
  have gl := hkK.at_ (vB_g H u)
  simp only [V4.l] at gl
  by_cases hlt : i < L.p.length
  · have h3 : (i : Int) < ((L.p.length : Nat) : Int) := by omega
    obtain ⟨na, ra⟩ := (h.p.keeps ((vB_k H u).trans hkK)).at_ hlt
    have h1 : (0 : Int) ≤ (i : Int) := by omega
    have h2 : (i : Int) < ((lenS u.p : Nat) : Int) := by omega
    have hT2 := pre_le (wP ptW L.s) (([] : List UInt8), (0 : Int)) hlt
    have hnx := pre_next (wP ptW L.s) (([] : List UInt8), (0 : Int)) hlt
    have hy := hS _ (getD_mem (d := (([] : List UInt8), (0 : Int))) hlt)
    have hT' : (T ++ L.p.flatMap (wP ptW L.s)).length ≤ 140737488355328 := hT
    have hw : IntKind.i64.wrap ((i : Int) + 1) = ((i + 1 : Nat) : Int) := by rw [wrap_i64 (by omega) (by omega)]; simp
    generalize L.p.getD i ([], 0) = y at *
    obtain ⟨y, k⟩ := y
    simp only [wP] at hT2 hy ra hnx
    obtain ⟨ns, rs⟩ := (h.s.keeps ((vB_k H u).trans hkK)).at_ (i := k.toNat) (by omega)
    have h4 : (0 : Int) ≤ k := by omega
    have h5 : k < ((lenS u.s : Nat) : Int) := by omega
    rw [nm_get hy] at rs
    unfold tRow at rs
    generalize nmAt L.s k = z at *
    have hb1 := b_addS (a := T ++ (L.p.take i).flatMap (wP ptW L.s)) (b := [112, 111, 105, 110, 116, 32]) (by simp only [List.length_append, List.length_cons, List.length_nil, ptW] at *; omega)
    have hb2 := b_addS (a := (T ++ (L.p.take i).flatMap (wP ptW L.s)) ++ [112, 111, 105, 110, 116, 32]) (b := y) (by simp only [List.length_append, List.length_cons, List.length_nil, ptW] at *; omega)
    have hb3 := b_addS (a := ((T ++ (L.p.take i).flatMap (wP ptW L.s)) ++ [112, 111, 105, 110, 116, 32]) ++ y) (b := [32]) (by simp only [List.length_append, List.length_cons, List.length_nil, ptW] at *; omega)
    have hb4 := b_addS (a := (((T ++ (L.p.take i).flatMap (wP ptW L.s)) ++ [112, 111, 105, 110, 116, 32]) ++ y) ++ [32]) (b := z) (by simp only [List.length_append, List.length_cons, List.length_nil, ptW] at *; omega)
    have hb5 := b_addS (a := ((((T ++ (L.p.take i).flatMap (wP ptW L.s)) ++ [112, 111, 105, 110, 116, 32]) ++ y) ++ [32]) ++ z) (b := [10]) (by simp only [List.length_append, List.length_cons, List.length_nil, ptW] at *; omega)
    have e : ((((((T ++ (L.p.take i).flatMap (wP ptW L.s)) ++ [112, 111, 105, 110, 116, 32]) ++ y) ++ [32]) ++ z) ++ [10]) = T ++ (L.p.take (i + 1)).flatMap (wP ptW L.s) := by rw [hnx]; simp [ptW]
    generalize (T ++ (L.p.take i).flatMap (wP ptW L.s)) = T0 at *
    simp (disch := first | assumption | omega | (simp only [LN] <;> omega) | (simp (disch := first | assumption | omega | (simp only [LN] <;> omega)) only [row_alloc, row_set]; assumption)) only [W_block, P3, ↓reduceIte, reduceAdd, reduceEqDiff, reduceCtorEq, initFr, reduceLT, clsA, reduceLeDiff, reduceMul, reduceSub, reduceIte, gl, lp, ip, ls, is, ra, na, rs, ns, h1, h2, h3, h4, h5, a_load1v, hb1, hb2, hb3, hb4, hb5, hw]
    rw [e]
    refine hn _ _ _ ⟨i + 1, _, rfl, hkK, by omega, rfl⟩ (by omega)
  · have h3 : ¬ (i : Int) < ((L.p.length : Nat) : Int) := by omega
    have ei : i = L.p.length := by omega
    subst ei
    rw [show T ++ (L.p.take L.p.length).flatMap (wP ptW L.s) = T ++ txP ptW L.s L.p from by rw [List.take_length]; rfl]
    generalize T ++ txP ptW L.s L.p = T0 at *
    simp (disch := first | assumption | omega | (simp only [LN] <;> omega) | (simp (disch := first | assumption | omega | (simp only [LN] <;> omega)) only [row_alloc, row_set]; assumption)) only [W_block, P3, ↓reduceIte, reduceAdd, reduceEqDiff, reduceCtorEq, initFr, reduceLT, clsA, reduceLeDiff, reduceMul, reduceSub, reduceIte, gl, lp, h3]
    refine hx 2 _ _ ?_
    exact hk _ _ ⟨_, _, _, _, _, _, _, _, _, _, _, rfl, hkK⟩
set_option maxHeartbeats 2000000 in
theorem pr3 {H : AHeap} {u : V4} {xs : List RV} {L : Ly} {Q : AQ} {A : Value} {fr : List Value} {K : AHeap} {T : List UInt8} (h : LyR H u xs L) (hl : L.g.length ≤ 1000000) (hS : ∀ x ∈ L.g, 0 ≤ x.2 ∧ x.2 < L.s.length) (hT : (T ++ txP sgW L.s L.g).length ≤ 140737488355328) (hm : PM A H u T fr K)
    (hk : ∀ fr K, PM A H u (T ++ txP sgW L.s L.g) fr K → Q .normal fr K) : W Go.Proofs.Tryd.prog 4 (cpre 1 (cpost 5 f17.body)) Q fr K := by
  obtain ⟨x5, x6, x7, x8, x9, x10, x11, x12, x13, x14, x15, rfl, hkK⟩ := hm
  have lp := h.g.len
  have ip := Sl.is h.g
  have ls := h.s.len
  have is := Sl.is h.s
  simp (disch := first | assumption | omega | (simp only [LN] <;> omega) | (simp (disch := first | assumption | omega | (simp only [LN] <;> omega)) only [row_alloc, row_set]; assumption)) only [ f17, cpre, cpost, P3, ↓reduceIte, reduceAdd, reduceEqDiff, reduceCtorEq, initFr, reduceLT, clsA, reduceLeDiff, reduceMul, reduceSub, reduceIte]
  rw [W_block]
  refine W_loop2 (fun k fr K => ∃ i xc, fr = [A, ptr H.n 0, .string ⟨([] : List UInt8).toArray⟩, .int .i64 0, .string ⟨(T ++ (L.g.take i).flatMap (wP sgW L.s)).toArray⟩, x5, x6, .int .i64 ((i : Nat) : Int), x8, x9, x10, x11, x12, xc, x14, x15] ∧ Keeps (vB H u) K ∧ i ≤ L.g.length ∧ k = L.g.length - i) L.g.length
    ⟨0, x13, by simp, hkK, by omega, rfl⟩ ?_
  clear hkK
  rintro Q' k fr K ⟨i, xc, rfl, hkK, hi, rfl⟩ hn hx hret
  have gl := hkK.at_ (vB_g H u)
  simp only [V4.l] at gl
  by_cases hlt : i < L.g.length
  · have h3 : (i : Int) < ((L.g.length : Nat) : Int) := by omega
    obtain ⟨na, ra⟩ := (h.g.keeps ((vB_k H u).trans hkK)).at_ hlt
    have h1 : (0 : Int) ≤ (i : Int) := by omega
    have h2 : (i : Int) < ((lenS u.g : Nat) : Int) := by omega
    have hT2 := pre_le (wP sgW L.s) (([] : List UInt8), (0 : Int)) hlt
    have hnx := pre_next (wP sgW L.s) (([] : List UInt8), (0 : Int)) hlt
    have hy := hS _ (getD_mem (d := (([] : List UInt8), (0 : Int))) hlt)
    have hT' : (T ++ L.g.flatMap (wP sgW L.s)).length ≤ 140737488355328 := hT
    have hw : IntKind.i64.wrap ((i : Int) + 1) = ((i + 1 : Nat) : Int) := by rw [wrap_i64 (by omega) (by omega)]; simp
    generalize L.g.getD i ([], 0) = y at *
    obtain ⟨y, k⟩ := y
    simp only [wP] at hT2 hy ra hnx
    obtain ⟨ns, rs⟩ := (h.s.keeps ((vB_k H u).trans hkK)).at_ (i := k.toNat) (by omega)
    have h4 : (0 : Int) ≤ k := by omega
    have h5 : k < ((lenS u.s : Nat) : Int) := by omega
    rw [nm_get hy] at rs
    unfold tRow at rs
    generalize nmAt L.s k = z at *
    have hb1 := b_addS (a := T ++ (L.g.take i).flatMap (wP sgW L.s)) (b := [115, 105, 103, 110, 97, 108, 32]) (by simp only [List.length_append, List.length_cons, List.length_nil, sgW] at *; omega)
    have hb2 := b_addS (a := (T ++ (L.g.take i).flatMap (wP sgW L.s)) ++ [115, 105, 103, 110, 97, 108, 32]) (b := y) (by simp only [List.length_append, List.length_cons, List.length_nil, sgW] at *; omega)
    have hb3 := b_addS (a := ((T ++ (L.g.take i).flatMap (wP sgW L.s)) ++ [115, 105, 103, 110, 97, 108, 32]) ++ y) (b := [32]) (by simp only [List.length_append, List.length_cons, List.length_nil, sgW] at *; omega)
    have hb4 := b_addS (a := (((T ++ (L.g.take i).flatMap (wP sgW L.s)) ++ [115, 105, 103, 110, 97, 108, 32]) ++ y) ++ [32]) (b := z) (by simp only [List.length_append, List.length_cons, List.length_nil, sgW] at *; omega)
    have hb5 := b_addS (a := ((((T ++ (L.g.take i).flatMap (wP sgW L.s)) ++ [115, 105, 103, 110, 97, 108, 32]) ++ y) ++ [32]) ++ z) (b := [10]) (by simp only [List.length_append, List.length_cons, List.length_nil, sgW] at *; omega)
    have e : ((((((T ++ (L.g.take i).flatMap (wP sgW L.s)) ++ [115, 105, 103, 110, 97, 108, 32]) ++ y) ++ [32]) ++ z) ++ [10]) = T ++ (L.g.take (i + 1)).flatMap (wP sgW L.s) := by rw [hnx]; simp [sgW]
    generalize (T ++ (L.g.take i).flatMap (wP sgW L.s)) = T0 at *
    simp (disch := first | assumption | omega | (simp only [LN] <;> omega) | (simp (disch := first | assumption | omega | (simp only [LN] <;> omega)) only [row_alloc, row_set]; assumption)) only [W_block, P3, ↓reduceIte, reduceAdd, reduceEqDiff, reduceCtorEq, initFr, reduceLT, clsA, reduceLeDiff, reduceMul, reduceSub, reduceIte, gl, lp, ip, ls, is, ra, na, rs, ns, h1, h2, h3, h4, h5, a_load1v, hb1, hb2, hb3, hb4, hb5, hw]
    rw [e]
    refine hn _ _ _ ⟨i + 1, _, rfl, hkK, by omega, rfl⟩ (by omega)
  · have h3 : ¬ (i : Int) < ((L.g.length : Nat) : Int) := by omega
    have ei : i = L.g.length := by omega
    subst ei
    rw [show T ++ (L.g.take L.g.length).flatMap (wP sgW L.s) = T ++ txP sgW L.s L.g from by rw [List.take_length]; rfl]
    generalize T ++ txP sgW L.s L.g = T0 at *
    simp (disch := first | assumption | omega | (simp only [LN] <;> omega) | (simp (disch := first | assumption | omega | (simp only [LN] <;> omega)) only [row_alloc, row_set]; assumption)) only [W_block, P3, ↓reduceIte, reduceAdd, reduceEqDiff, reduceCtorEq, initFr, reduceLT, clsA, reduceLeDiff, reduceMul, reduceSub, reduceIte, gl, lp, h3]
    refine hx 4 _ _ ?_
    exact hk _ _ ⟨_, _, _, _, _, _, _, _, _, _, _, rfl, hkK⟩
set_option maxHeartbeats 4000000 in
theorem pr4 {H : AHeap} {u : V4} {xs : List RV} {L : Ly} {Q : AQ} {A : Value} {fr : List Value} {K : AHeap} {T : List UInt8} (h : LyR H u xs L) (ok : LyOK L) (hP : ∀ x ∈ L.p, x.1.length ≤ 1000000) (hT : (T ++ txR L L.r).length ≤ 140737488355328) (hm : PM A H u T fr K)
    (hk : ∀ fr K, PM A H u (T ++ txR L L.r) fr K → Q .normal fr K) : W Go.Proofs.Tryd.prog 4 (cpre 1 (cpost 6 f17.body)) Q fr K := by
  obtain ⟨x5, x6, x7, x8, x9, x10, x11, x12, x13, x14, x15, rfl, hkK⟩ := hm
  have lp := h.r.len
  rw [h.rlen] at lp
  have ip := Sl.is h.r
  have ig := Sl.is h.g
  have lg := h.g.len
  have hrl := ok.r.1
  simp (disch := first | assumption | omega | (simp only [LN] <;> omega) | (simp (disch := first | assumption | omega | (simp only [LN] <;> omega)) only [row_alloc, row_set]; assumption)) only [ f17, cpre, cpost, P3, ↓reduceIte, reduceAdd, reduceEqDiff, reduceCtorEq, initFr, reduceLT, clsA, reduceLeDiff, reduceMul, reduceSub, reduceIte]
  rw [W_block]
  refine W_loop2 (fun k fr K => ∃ i x9 xc, fr = [A, ptr H.n 0, .string ⟨([] : List UInt8).toArray⟩, .int .i64 0, .string ⟨(T ++ (L.r.take i).flatMap (tx1 L)).toArray⟩, x5, x6, x7, .int .i64 ((i : Nat) : Int), x9, x10, x11, x12, x13, xc, x15] ∧ Keeps (vB H u) K ∧ i ≤ L.r.length ∧ k = L.r.length - i) L.r.length
    ⟨0, x9, x14, by simp, hkK, by omega, rfl⟩ ?_
  clear hkK
  rintro Q' k fr K ⟨i, x9, xc, rfl, hkK, hi, rfl⟩ hn hx hret
  have gl := hkK.at_ (vB_g H u)
  have hHK := (vB_k H u).trans hkK
  by_cases hlt : i < L.r.length
  · have h3 : (i : Int) < ((L.r.length : Nat) : Int) := by omega
    have hlt' : i < xs.length := by rw [h.rlen]; exact hlt
    obtain ⟨na, ra⟩ := RL.at_ (h.r.keeps hHK) hlt'
    obtain ⟨xok, xr⟩ := h.rat hlt
    have h1 : (0 : Int) ≤ (i : Int) := by omega
    have h2 : (i : Int) < ((lenS u.r : Nat) : Int) := by omega
    have hw : IntKind.i64.wrap ((i : Int) + 1) = ((i + 1 : Nat) : Int) := by rw [wrap_i64 (by omega) (by omega)]; simp
    have hro := ok.r.2 _ (getD_mem (d := rv0.r) hlt)
    have hT2 := pre_le (tx1 L) rv0.r hlt
    have hnx := pre_next (tx1 L) rv0.r hlt
    have hT' : (T ++ L.r.flatMap (tx1 L)).length ≤ 140737488355328 := hT
    rw [← xr] at hro hT2 hnx
    generalize xs.getD i rv0 = y at *
    simp only [RV.row] at ra
    have o3 := one_isS (Sl.is xok.p)
    have o4 := one_isS (Sl.is xok.q)
    have o5 := one_isS (Sl.is xok.o)
    have o6 := one_isS (Sl.is xok.f)
    obtain ⟨⟨g1, g2⟩, ⟨p1, p2⟩, ⟨q1, q2⟩, ⟨v1, v2⟩, ⟨f1, f2⟩⟩ := hro
    obtain ⟨X, hX⟩ : ∃ X, X = K.alloc (.cells true false 6 [.string ⟨y.r.n.toArray⟩, .int .i64 y.r.g, y.vp, y.vq, y.vo, y.vf] 43) := ⟨_, rfl⟩
    have kX : Keeps K X := by rw [hX]; exact (Keeps.refl K).alloc _
    have gX := kX.at_ gl
    have gr : X.get K.n = some (.cells true false 6 [.string ⟨y.r.n.toArray⟩, .int .i64 y.r.g, y.vp, y.vq, y.vo, y.vf] 43) := by rw [hX]; exact AHeap.get_alloc_new K _
    have hHX := hHK.trans kX
    obtain ⟨ng, rg⟩ := (h.g.keeps hHX).at_ (i := y.r.g.toNat) (by omega)
    have h4 : (0 : Int) ≤ y.r.g := g1
    have h5 : y.r.g < ((lenS u.g : Nat) : Int) := by omega
    have hgn : nmAt (L.g.map (·.1)) y.r.g = (L.g.getD y.r.g.toNat ([], 0)).1 := by
      simp only [nmAt, List.getD, List.getElem?_map]
      cases L.g[y.r.g.toNat]? <;> rfl
    rw [← hgn] at rg
    have tl : (tx1 L y.r).length = 5 + (y.r.n.length + 1) + ((nmAt (L.g.map (·.1)) y.r.g).length + 1) + (txI L.s y.r.path).length + (txN L.p y.r.pts).length + (txI L.s y.r.ov).length + (txN L.p y.r.fl).length + 1 := by
      simp only [tx1, rtW, List.length_append, List.length_cons, List.length_nil]
    have hTl : (T ++ (L.r.take i).flatMap (tx1 L)).length + (tx1 L y.r).length ≤ 140737488355328 := by
      simp only [List.length_append] at *; omega
    rw [tl] at hTl
    have cP := t41s (h.keeps hHX) (xok.p.keeps hHX) (by omega) p2 (by omega)
    have cQ := t41n (h.keeps hHX) (xok.q.keeps hHX) (by omega) q2 (by omega) hP
    have cO := t41s (h.keeps hHX) (xok.o.keeps hHX) (by omega) v2 (by omega)
    have cF := t41n (h.keeps hHX) (xok.f.keeps hHX) (by omega) f2 (by omega) hP
    have e : (((((((((T ++ (L.r.take i).flatMap (tx1 L) ++ [114, 111, 117, 116, 101, 32]) ++ y.r.n) ++ [32]) ++ nmAt (L.g.map (·.1)) y.r.g) ++ txI L.s y.r.path) ++ txN L.p y.r.pts) ++ txI L.s y.r.ov) ++ txN L.p y.r.fl) ++ [10]) = T ++ (L.r.take (i + 1)).flatMap (tx1 L) := by rw [hnx]; simp [tx1, rtW]
    clear hT2 hnx tl hT' hT
    generalize (T ++ (L.r.take i).flatMap (tx1 L)) = T0 at *
    generalize nmAt (L.g.map (·.1)) y.r.g = Gn at *
    generalize txI L.s y.r.path = Pn at *
    generalize txN L.p y.r.pts = Qn at *
    generalize txI L.s y.r.ov = On at *
    generalize txN L.p y.r.fl = Fn at *
    have hb1 := b_addS (a := T0) (b := [114, 111, 117, 116, 101, 32]) (by simp only [List.length_append, List.length_cons, List.length_nil] at *; omega)
    have hb2 := b_addS (a := (T0 ++ [114, 111, 117, 116, 101, 32])) (b := y.r.n) (by simp only [List.length_append, List.length_cons, List.length_nil] at *; omega)
    have hb3 := b_addS (a := ((T0 ++ [114, 111, 117, 116, 101, 32]) ++ y.r.n)) (b := [32]) (by simp only [List.length_append, List.length_cons, List.length_nil] at *; omega)
    have hb4 := b_addS (a := (((T0 ++ [114, 111, 117, 116, 101, 32]) ++ y.r.n) ++ [32])) (b := Gn) (by simp only [List.length_append, List.length_cons, List.length_nil] at *; omega)
    have hb5 := b_addS (a := ((((T0 ++ [114, 111, 117, 116, 101, 32]) ++ y.r.n) ++ [32]) ++ Gn)) (b := Pn) (by simp only [List.length_append, List.length_cons, List.length_nil] at *; omega)
    have hb6 := b_addS (a := (((((T0 ++ [114, 111, 117, 116, 101, 32]) ++ y.r.n) ++ [32]) ++ Gn) ++ Pn)) (b := Qn) (by simp only [List.length_append, List.length_cons, List.length_nil] at *; omega)
    have hb7 := b_addS (a := ((((((T0 ++ [114, 111, 117, 116, 101, 32]) ++ y.r.n) ++ [32]) ++ Gn) ++ Pn) ++ Qn)) (b := On) (by simp only [List.length_append, List.length_cons, List.length_nil] at *; omega)
    have hb8 := b_addS (a := (((((((T0 ++ [114, 111, 117, 116, 101, 32]) ++ y.r.n) ++ [32]) ++ Gn) ++ Pn) ++ Qn) ++ On)) (b := Fn) (by simp only [List.length_append, List.length_cons, List.length_nil] at *; omega)
    have hb9 := b_addS (a := ((((((((T0 ++ [114, 111, 117, 116, 101, 32]) ++ y.r.n) ++ [32]) ++ Gn) ++ Pn) ++ Qn) ++ On) ++ Fn)) (b := [10]) (by simp only [List.length_append, List.length_cons, List.length_nil] at *; omega)
    obtain ⟨us, up, ug, ur⟩ := u
    have ll : [us, up, ug, ur].length = 4 := rfl
    simp only [V4.l] at *
    simp (disch := first | assumption | omega | (simp only [LN] <;> omega) | (simp (disch := first | assumption | omega | (simp only [LN] <;> omega)) only [row_alloc, row_set]; assumption)) only [W_block, P3, ↓reduceIte, reduceAdd, reduceEqDiff, reduceCtorEq, initFr, reduceLT, clsA, reduceLeDiff, reduceMul, reduceSub, reduceIte, gl, lp, ip, ra, na, h1, h2, h3, a_loadnvf, o3, o4, o5, o6, ← hX]
    simp (disch := first | assumption | omega | (simp only [LN] <;> omega) | (simp (disch := first | assumption | omega | (simp only [LN] <;> omega)) only [row_alloc, row_set]; assumption)) only [W_block, P3, ↓reduceIte, reduceAdd, reduceEqDiff, reduceCtorEq, initFr, reduceLT, clsA, reduceLeDiff, reduceMul, reduceSub, reduceIte, gX, gr, ig, lg, rg, ng, h4, h5, ll, a_load1v, hb1, hb2, hb3, hb4]
    refine callK cP ?_
    rintro _ _ ⟨rfl, rfl⟩
    simp (disch := first | assumption | omega | (simp only [LN] <;> omega) | (simp (disch := first | assumption | omega | (simp only [LN] <;> omega)) only [row_alloc, row_set]; assumption)) only [W_block, P3, ↓reduceIte, reduceAdd, reduceEqDiff, reduceCtorEq, initFr, reduceLT, clsA, reduceLeDiff, reduceMul, reduceSub, reduceIte, gX, gr, ll, hb5]
    repeat (refine ⟨by first | exact AHeap.get_lt gX | exact AHeap.get_lt gr | simp, ?_⟩)
    refine callK cQ ?_
    rintro _ _ ⟨rfl, hZ⟩
    rw [hZ]
    simp (disch := first | assumption | omega | (simp only [LN] <;> omega) | (simp (disch := first | assumption | omega | (simp only [LN] <;> omega)) only [row_alloc, row_set]; assumption)) only [W_block, P3, ↓reduceIte, reduceAdd, reduceEqDiff, reduceCtorEq, initFr, reduceLT, clsA, reduceLeDiff, reduceMul, reduceSub, reduceIte, gX, gr, ll, hb6]
    repeat (refine ⟨by first | exact AHeap.get_lt gX | exact AHeap.get_lt gr | simp, ?_⟩)
    refine callK cO ?_
    rintro _ _ ⟨rfl, hZ⟩
    rw [hZ]
    simp (disch := first | assumption | omega | (simp only [LN] <;> omega) | (simp (disch := first | assumption | omega | (simp only [LN] <;> omega)) only [row_alloc, row_set]; assumption)) only [W_block, P3, ↓reduceIte, reduceAdd, reduceEqDiff, reduceCtorEq, initFr, reduceLT, clsA, reduceLeDiff, reduceMul, reduceSub, reduceIte, gX, gr, ll, hb7]
    repeat (refine ⟨by first | exact AHeap.get_lt gX | exact AHeap.get_lt gr | simp, ?_⟩)
    refine callK cF ?_
    rintro _ _ ⟨rfl, hZ⟩
    rw [hZ]
    simp (disch := first | assumption | omega | (simp only [LN] <;> omega) | (simp (disch := first | assumption | omega | (simp only [LN] <;> omega)) only [row_alloc, row_set]; assumption)) only [W_block, P3, ↓reduceIte, reduceAdd, reduceEqDiff, reduceCtorEq, initFr, reduceLT, clsA, reduceLeDiff, reduceMul, reduceSub, reduceIte, hb8, hb9, hw]
    rw [e]
    refine ⟨by simp, ?_⟩
    refine hn _ _ _ ⟨i + 1, _, _, rfl, hkK.trans kX, by omega, rfl⟩ (by omega)
  · have h3 : ¬ (i : Int) < ((L.r.length : Nat) : Int) := by omega
    have ei : i = L.r.length := by omega
    subst ei
    rw [show T ++ (L.r.take L.r.length).flatMap (tx1 L) = T ++ txR L L.r from by rw [List.take_length]; rfl]
    generalize T ++ txR L L.r = T0 at *
    simp only [V4.l] at gl
    simp (disch := first | assumption | omega | (simp only [LN] <;> omega) | (simp (disch := first | assumption | omega | (simp only [LN] <;> omega)) only [row_alloc, row_set]; assumption)) only [W_block, P3, ↓reduceIte, reduceAdd, reduceEqDiff, reduceCtorEq, initFr, reduceLT, clsA, reduceLeDiff, reduceMul, reduceSub, reduceIte, gl, lp, h3]
    refine hx 6 _ _ ?_
    exact hk _ _ ⟨_, _, _, _, _, _, _, _, _, _, _, rfl, hkK⟩
end Go.AM.Fd

set_option linter.unusedSimpArgs false
set_option linter.unusedVariables false
namespace Go.AM
def AO.unown : AO → AO
  | .dead => .dead
  | .cells _ room esz c e => .cells false room esz c e
  | .obj _ o => .obj false o
  | .loop _ st pe L => .loop false st pe L
def AHeap.unown (H : AHeap) : AHeap := ⟨H.n, H.l.map AO.unown⟩
theorem AHeap.unown_n (H : AHeap) : H.unown.n = H.n := _root_.id rfl
theorem AHeap.unown_get (H : AHeap) (b : Nat) : H.unown.get b = (H.get b).map AO.unown := by
  unfold AHeap.get AHeap.unown
  split <;> simp
theorem AO.unown_own (o : AO) : o.unown.own = false := by cases o <;> rfl
theorem AHeap.unown_no (H : AHeap) : NoOwn H.unown := fun b o h => by
  rw [AHeap.unown_get] at h
  cases hb : H.get b with
  | none => rw [hb] at h; cases h
  | some x => rw [hb] at h; cases h; exact AO.unown_own x
theorem OR.unown {σ : Sg} {w : World} {i : BI} {o : AO} (h : OR σ w i o) : OR σ w i o.unown := by
  cases o with
  | dead => trivial
  | cells own room esz c e =>
    obtain ⟨a1, a2, a3, a4, a5, c', fr, a6, a7, a8, a9⟩ := h
    exact ⟨a1, a2, a3, a4, a5, c', fr, a6, a7, a8, fun h => by cases h⟩
  | obj own o => exact h
  | loop own st pe L => exact h
theorem HR.unown {ng : Nat} {σ : Sg} {H : AHeap} {w : World} (h : HR ng σ H.get w) : HR ng σ H.unown.get w := by
  refine ⟨fun b i hb => ?_, fun b1 b2 i1 i2 o1 o2 _ _ _ g1 _ hw => ?_, h.lt, h.glob⟩
  · obtain ⟨o, h1, h2⟩ := h.obj b i hb
    exact ⟨o.unown, by rw [AHeap.unown_get, h1]; rfl, h2.unown⟩
  · rw [H.unown_no b1 o1 g1] at hw; cases hw
def over (H H' : AHeap) : AHeap := ⟨H'.n, (List.range (H'.n - H.n)).map (fun i => (H'.l[i]?).getD .dead) ++ H.l⟩
theorem over_old {H H' : AHeap} (hn : H.n ≤ H'.n) {b : Nat} (hb : b < H.n) : (over H H').get b = H.get b := by
  unfold AHeap.get over
  simp only
  rw [if_pos (by omega), if_pos hb, List.getElem?_append_right (by simp; omega)]
  simp only [List.length_map, List.length_range]
  rw [show H'.n - 1 - b - (H'.n - H.n) = H.n - 1 - b by omega]
theorem over_new {H H' : AHeap} {b : Nat} (hb : H.n ≤ b) (hb2 : b < H'.n) {o : AO} (h : H'.get b = some o) : (over H H').get b = some o := by
  unfold AHeap.get over at *
  simp only
  rw [if_pos hb2] at h ⊢
  rw [List.getElem?_append_left (by simp; omega)]
  simp only [List.getElem?_map]
  rw [List.getElem?_range (by omega)]
  simp [h]
theorem over_keeps {H H' : AHeap} (hn : H.n ≤ H'.n) : Keeps H (over H H') := ⟨hn, fun b hb => over_old hn hb⟩
variable {P : Program} {ng : Nat} {f : FuncId} {args : List Value} {H H' : AHeap} {v : Value}
theorem ARun.over (h : ARun P ng f args H.unown v H') : ARun P ng f args H v (AM.over H H') ∧ Keeps H (AM.over H H') := by
  obtain ⟨h0, h1, h2⟩ := h
  rw [AHeap.unown_n] at h1
  refine ⟨⟨h0, h1, fun σ w args' hr ha => ?_⟩, over_keeps h1⟩
  refine (h2 σ w args' hr.unown ha).mono ?_
  rintro e w' ⟨v', σ', rfl, k1, k2, k3⟩
  have hk : ∀ k, k < w.heap.size → w'.heap[k]? = w.heap[k]? := fun k hk => k2.keep k hk (fun b i o hb ho hw => by rw [H.unown_no b o ho] at hw; cases hw)
  have old : ∀ b i, σ b = some i → b < H.n := fun b i hb => by
    obtain ⟨o, g, _⟩ := hr.obj b i hb
    exact AHeap.get_lt g
  have back : ∀ b i, b < H.n → σ' b = some i → σ b = some i := fun b i hb hs => by
    cases hsb : σ b with
    | none =>
      have := (k2.new b i hsb hs).1.1
      rw [AHeap.unown_n] at this; omega
    | some j => have := k2.sub b j hsb; rw [hs] at this; exact this.symm
  have fresh : ∀ b i, H.n ≤ b → σ' b = some i → w.heap.size ≤ i.c := fun b i hb hs => by
    have hsb : σ b = none := by
      cases hsb : σ b with
      | none => rfl
      | some j => have := old b j hsb; omega
    rcases (k2.new b i hsb hs).2 with h | ⟨b0, i0, o0, _, e2, e3, _⟩
    · exact h
    · rw [H.unown_no b0 o0 e2] at e3; cases e3
  have obj : ∀ b i, σ' b = some i → (b < H.n ∧ σ b = some i ∧ i.c < w.heap.size) ∨ (H.n ≤ b ∧ w.heap.size ≤ i.c ∧ ∃ o, H'.get b = some o ∧ (AM.over H H').get b = some o ∧ OR σ' w' i o) := fun b i hs => by
    by_cases hb : b < H.n
    · have := back b i hb hs
      exact .inl ⟨hb, this, hr.lt b i this⟩
    · obtain ⟨o, g1, g2⟩ := k1.obj b i hs
      exact .inr ⟨by omega, fresh b i (by omega) hs, o, g1, over_new (by omega) (AHeap.get_lt g1) g1, g2⟩
  refine ⟨v', σ', rfl, ⟨?_, ?_, k1.lt, k1.glob⟩, ⟨k2.sub, ?_, ?_, ?_, ?_, k2.size, h1, k2.os, k2.tape, k2.output⟩, k3⟩
  · intro b i hs
    rcases obj b i hs with ⟨hb, hs0, _⟩ | ⟨_, _, o, _, g2, g3⟩
    · obtain ⟨o, g1, g2⟩ := hr.obj b i hs0
      exact ⟨o, by rw [over_old h1 hb]; exact g1, (g2.congr (fun _ => hk _ (hr.lt b i hs0))).mono k2.sub⟩
    · exact ⟨o, g2, g3⟩
  · intro b1 b2 i1 i2 o1 o2 hne s1 s2 g1 g2 hw hl
    rcases obj b1 i1 s1 with ⟨hb1, t1, l1⟩ | ⟨hb1, l1, p1, q1, q2, q3⟩
    · rcases obj b2 i2 s2 with ⟨hb2, t2, l2⟩ | ⟨hb2, l2, p2, r1, r2, r3⟩
      · rw [over_old h1 hb1] at g1
        rw [over_old h1 hb2] at g2
        exact hr.inj b1 b2 i1 i2 o1 o2 hne t1 t2 g1 g2 hw hl
      · omega
    · rcases obj b2 i2 s2 with ⟨hb2, t2, l2⟩ | ⟨hb2, l2, p2, r1, r2, r3⟩
      · omega
      · rw [q2] at g1; cases g1
        rw [r2] at g2; cases g2
        exact k1.inj b1 b2 i1 i2 _ _ hne s1 s2 q1 r1 hw hl
  · intro b i hb hs
    have := k2.new b i hb hs
    rw [AHeap.unown_n] at this
    rcases obj b i hs with ⟨_, hs0, _⟩ | ⟨_, l, _⟩
    · rw [hb] at hs0; cases hs0
    · exact ⟨this.1, .inl l⟩
  · intro b i o' hb ho hw
    obtain ⟨o, g1, _⟩ := hr.obj b i hb
    rw [over_old h1 (old b i hb), g1] at ho
    cases ho
    exact ⟨_, g1, hw⟩
  · intro b i o' hb ho hw
    obtain ⟨o, g1, _⟩ := hr.obj b i hb
    rw [over_old h1 (old b i hb), g1] at ho
    cases ho
    exact ⟨_, g1, hw⟩
  · intro k hlt _
    exact hk k hlt
theorem ARun.pure (h : ARun P ng f args H.unown v H') (hv : plain1 v = true) : ARun P ng f args H v H := by
  obtain ⟨h1, h2⟩ := h.over
  exact h1.gc0 h2 (.inr (NV.plain hv))
end Go.AM

set_option linter.unusedVariables false
set_option linter.unusedSimpArgs false
namespace Go.AM.Ky
open Go.Proofs Go.Shelf Go.RowKit Go.AM.Fd
theorem addr_add (b o n : Nat) : (Addr.add ⟨b, o, none⟩ n) = ⟨b, o + n, none⟩ := by
  unfold Addr.add; split <;> simp_all
theorem sl_v {σ : Sg} {n : Nat} {a : Option Addr} {k : Nat} {v' : Value} (hv : VR σ (.slice a n k) v') : ∃ a' c, v' = .slice a' n c ∧ n ≤ c ∧ (0 < n → ∃ c o, a' = some ⟨c, o, none⟩) := by
  cases hv with
  | nilSl => exact ⟨_, _, rfl, Nat.le_refl _, fun h => absurd h (by omega)⟩
  | @sl b o n k k' i hb hn hk => 
    refine ⟨_, _, rfl, ?_, fun _ => ⟨_, _, rfl⟩⟩
    rcases hk with h | h
    · omega
    · omega
  | sl0 hb => exact ⟨_, _, rfl, Nat.le_refl _, fun h => absurd h (by omega)⟩
  | slz hx => exact ⟨_, _, rfl, Nat.le_refl _, fun h => absurd h (by omega)⟩
theorem sl_c {ng : Nat} {σ : Sg} {H : AHeap} {w : World} (hr : HR ng σ H.get w) {esz : Nat} (hz : 0 < esz) {v v' : Value} {rows : List (List Value)} (h : Sl H esz v rows) (hv : VR σ v v') :
    ∃ ad c, v' = .slice ad rows.length c ∧ rows.length ≤ c ∧ ∀ i r, rows[i]? = some r → ∃ r', VL σ r r' ∧ At w w.heap.size ad i esz r' := by
  obtain ⟨a', n, k', l', e1, e2, e3, e4, e5, e6⟩ := elemsA_sound hr hv h.el
  have hf := flat_len h.row
  obtain ⟨a, k, rfl⟩ := h.sh
  obtain ⟨a2, c, e7, hc, hpos⟩ := sl_v hv
  rw [e7] at e1
  injection e1 with q1 q2 q3
  subst q1
  refine ⟨a2, c, e7, hc, fun j r hj => ?_⟩
  obtain ⟨hjl, rfl⟩ := List.getElem?_eq_some_iff.1 hj
  obtain ⟨B, o, rfl⟩ := hpos (by omega)
  have ef := flat_at h.row j hjl
  have hm : (j + 1) * esz ≤ rows.length * esz := Nat.mul_le_mul_right esz hjl
  rw [Nat.add_mul, Nat.one_mul] at hm
  refine ⟨(l'.drop (j * esz)).take esz, ?_, ?_⟩
  · rw [← ef]
    exact (e3.drop _).take _
  · rcases e6 with ⟨e6, _⟩ | ⟨ad, e6, hcell⟩
    · cases e6
    · injection e6 with e6; subst e6
      refine ⟨_, _, rfl, ?_, ?_⟩
      · have hx : j * esz < l'.length := by rw [e4, ← q2]; omega
        have := hcell _ _ (List.getElem?_eq_getElem hx)
        rw [addr_add] at this
        exact World.block_lt_of_cell? w _ this
      · intro t x ht
        have hx : l'[j * esz + t]? = some x := by
          rw [List.getElem?_take] at ht
          split at ht
          · rwa [List.getElem?_drop] at ht
          · cases ht
        have := hcell _ x hx
        rw [addr_add] at this
        rw [Nat.add_assoc]
        exact this
theorem ci_of {ng : Nat} {σ : Sg} {H : AHeap} {w : World} (hr : HR ng σ H.get w) {v v' : Value} {l : List Int} (h : Fd.IL H v l) (hv : VR σ v v') : CI w w.heap.size v' l := by
  obtain ⟨ad, c, rfl, h1, h2⟩ := sl_c hr (by omega) h hv
  simp only [List.length_map] at h1 ⊢
  refine ⟨ad, c, rfl, h1, fun i x hx => ?_⟩
  obtain ⟨r', h3, h4⟩ := h2 i (iRow x) (by rw [List.getElem?_map, hx]; rfl)
  cases h3 with
  | cons a b =>
    cases b; cases a
    exact h4
theorem cn_of {ng : Nat} {σ : Sg} {H : AHeap} {w : World} (hr : HR ng σ H.get w) {v v' : Value} {l : List (Int × Bool)} (h : Fd.NL H v l) (hv : VR σ v v') : CN w w.heap.size v' l := by
  obtain ⟨ad, c, rfl, h1, h2⟩ := sl_c hr (by omega) h hv
  simp only [List.length_map] at h1 ⊢
  refine ⟨ad, c, rfl, h1, fun i x hx => ?_⟩
  obtain ⟨r', h3, h4⟩ := h2 i (nRow x) (by rw [List.getElem?_map, hx]; rfl)
  cases h3 with
  | cons a b =>
    cases b with
    | cons b c => cases c; cases a; cases b; exact h4
theorem cl_of {ng : Nat} {σ : Sg} {H : AHeap} {w : World} (hr : HR ng σ H.get w) {u : V4} {xs : List RV} {L : Ly} (h : LyR H u xs L) {args' : List Value} (ha : VL σ [.agg u.l.toArray] args') :
    ∃ sad pad gad rad sc pc gc rc, args' = [.agg #[.slice sad L.s.length sc, .slice pad L.p.length pc, .slice gad L.g.length gc, .slice rad L.r.length rc]] ∧ CL w w.heap.size L sad pad gad rad sc pc gc rc := by
  cases ha with
  | cons a b =>
  cases b
  cases a with
  | agg _ X h1 h2 =>
  have hl := VL.of_arr h1 h2
  obtain ⟨X⟩ := X
  obtain ⟨us, up, ug, ur⟩ := u
  simp only [V4.l] at hl
  cases hl with
  | cons a1 t =>
  cases t with
  | cons a2 t =>
  cases t with
  | cons a3 t =>
  cases t with
  | cons a4 t =>
  cases t
  obtain ⟨sad, sc, rfl, s1, s2⟩ := sl_c hr (by omega) h.s a1
  obtain ⟨pad, pc, rfl, p1, p2⟩ := sl_c hr (by omega) h.p a2
  obtain ⟨gad, gc, rfl, g1, g2⟩ := sl_c hr (by omega) h.g a3
  obtain ⟨rad, rc, rfl, r1, r2⟩ := sl_c hr (by omega) h.r a4
  have hrl : xs.length = L.r.length := by rw [← h.e, List.length_map]
  simp only [List.length_map, txs] at s1 s2 p1 g1 r1 ⊢
  rw [hrl] at r1 ⊢
  refine ⟨_, _, _, _, _, _, _, _, rfl, s1, fun i x hx => ?_, p1, fun i x hx => ?_, g1, fun i x hx => ?_, r1, fun i x hx => ?_⟩
  · obtain ⟨r', h3, h4⟩ := s2 i (tRow x) (by rw [List.getElem?_map, hx]; rfl)
    cases h3 with
    | cons a b => cases b; cases a; exact h4
  · obtain ⟨r', h3, h4⟩ := p2 i (pRow x) (by rw [List.getElem?_map, hx]; rfl)
    cases h3 with
    | cons a b =>
      cases b with
      | cons b c => cases c; cases a; cases b; exact h4
  · obtain ⟨r', h3, h4⟩ := g2 i (pRow x) (by rw [List.getElem?_map, hx]; rfl)
    cases h3 with
    | cons a b =>
      cases b with
      | cons b c => cases c; cases a; cases b; exact h4
  · rw [← h.e, List.getElem?_map, Option.map_eq_some_iff] at hx
    obtain ⟨y, hy, rfl⟩ := hx
    have ok := h.ok y (List.mem_of_getElem? hy)
    obtain ⟨r', h3, h4⟩ := r2 i y.row (by rw [List.getElem?_map, hy]; rfl)
    unfold RV.row at h3
    cases h3 with
    | cons b1 t =>
    cases t with
    | cons b2 t =>
    cases t with
    | cons b3 t =>
    cases t with
    | cons b4 t =>
    cases t with
    | cons b5 t =>
    cases t with
    | cons b6 t =>
    cases t
    cases b1; cases b2
    exact ⟨_, _, _, _, h4, ci_of hr ok.p b3, cn_of hr ok.q b4, ci_of hr ok.o b5, cn_of hr ok.f b6⟩
theorem Sl.un {H : AHeap} {esz : Nat} {v : Value} {rows : List (List Value)} (h : Sl H esz v rows) : Sl H.unown esz v rows := by
  refine ⟨h.sh, h.row, ?_⟩
  have h2 := h.el
  unfold elemsA at h2 ⊢
  split at h2
  · exact h2
  · rename_i b o n k
    rw [AHeap.unown_get]
    split at h2
    · rename_i own room z c e hg
      rw [hg]
      exact h2
    · cases h2
  · exact h2
  · cases h2
theorem LyR.un {H : AHeap} {u : V4} {xs : List RV} {L : Ly} (h : LyR H u xs L) : LyR H.unown u xs L :=
  ⟨Sl.un h.s, Sl.un h.p, Sl.un h.g, Sl.un h.r, h.e, fun x hx => have k := h.ok x hx; ⟨Sl.un k.p, Sl.un k.q, Sl.un k.o, Sl.un k.f⟩⟩
def prV (L : Ly) : Value := if mayB L then (if (printT L).length ≤ 16384 then .tuple #[.string (sB (printT L)), .int .i64 0] else .tuple #[.string (sB []), .int .i64 3]) else .tuple #[.string (sB []), .int .i64 2]
theorem prV_r (σ : Sg) (L : Ly) : VR σ (prV L) (prV L) := by
  have two : ∀ (s : ByteArray) (n : Int), VR σ (.tuple #[.string s, .int .i64 n]) (.tuple #[.string s, .int .i64 n]) := fun s n => .tuple _ _ rfl fun i a b => by
    match i, a with
    | 0, _ => exact .string _
    | 1, _ => exact .int _ _
  unfold prV
  split
  · split <;> exact two _ _
  · exact two _ _
theorem lPrintA {H : AHeap} {u : V4} {xs : List RV} {L : Ly} (h : LyR H u xs L) (hf : LyIn 9223372036854775807 L) : ∃ w H', ARun Go.Proofs.Tryd.prog 4 16 [.agg u.l.toArray] H w H' ∧ w = prV L ∧ H' = H := by
  have B16 : Bodied Go.Proofs.Tryd.prog 16 := bodied_of (by kernel_rfl)
  have B13 : Bodied Go.Proofs.Tryd.prog 13 := bodied_of (by kernel_rfl)
  refine ⟨_, _, ⟨⟨_, B16.choose_spec.1⟩, Nat.le_refl _, fun σ w args' hr ha => ?_⟩, rfl, rfl⟩
  obtain ⟨sad, pad, gad, rad, sc, pc, gc, rc, e, hC⟩ := cl_of hr h ha
  refine .body B16 ?_
  subst e
  refine (print_c join_c L sad pad gad rad sc pc gc rc w hC (mayB L) (fun W hW => ?_) may_ok).mono ?_
  · obtain ⟨_, _, ⟨a1, a2, a3⟩, rfl, rfl⟩ := lMayA (LyR.un h) hf
    have hr2 : HR 4 σ H.unown.get W := hr.unown.other hW.size (fun b i hb => hW.block _ (hr.lt b i hb))
    refine ((a3 σ W _ hr2 ha).calls B13).mono ?_
    rintro e W' ⟨v', σ', rfl, k1, k2, k3⟩
    cases k3
    exact ⟨rfl, k2.os, k2.tape, k2.output, k2.size, fun k hk => k2.keep k hk (fun b i o hb ho hw => by rw [H.unown_no b o ho] at hw; cases hw)⟩
  · rintro e w' ⟨rfl, b⟩
    have hr2 : HR 4 σ H.get w' := hr.other b.size (fun c i hb => b.block _ (hr.lt c i hb))
    refine ⟨prV L, σ, rfl, hr2, ⟨Sg.le.refl σ, (fun b i h h' => by rw [h] at h'; cases h'), fun _ _ o' _ h h' => ⟨o', h, h'⟩, fun _ _ o' _ h h' => ⟨o', h, h'⟩, fun k hk _ => b.block k hk, b.size, Nat.le_refl _, b.os, b.tape, b.output⟩, prV_r σ L⟩
end Go.AM.Ky

set_option linter.unusedVariables false
set_option linter.unusedSimpArgs false
namespace Go.AM.Fd
open Nat (reduceAdd reduceEqDiff reduceLT reduceLeDiff reduceMul reduceSub)
open Go.Proofs Go.AM.F Go.AM.Ky
theorem may_names {L : Ly} (h : mayB L = true) : ∀ x ∈ L.p, x.1.length ≤ 1000000 := by
  unfold mayB at h
  simp only [Bool.and_eq_true, okN, List.all_eq_true] at h
  intro x hx
  have := rightB_len (h.2.1.1 x.1 (by simp only [namesL, List.mem_append, List.mem_map]; exact .inl (.inl (.inr ⟨x, hx, rfl⟩))))
  omega
theorem prV_n (ρ : Nat → Option Nat) (L : Ly) : Go.AM.NV ρ (prV L) (prV L) := by
  have two : ∀ (s : ByteArray) (n : Int), Go.AM.NV ρ (.tuple #[.string s, .int .i64 n]) (.tuple #[.string s, .int .i64 n]) := fun s n => .tuple _ _ rfl fun i a b => by
    match i, a with
    | 0, _ => exact .string _
    | 1, _ => exact .int _ _
  unfold prV
  split
  · split <;> exact two _ _
  · exact two _ _
set_option maxHeartbeats 2000000 in
theorem t17 {H : AHeap} {u : V4} {xs : List RV} {L : Ly} (h : LyR H u xs L) (hf : LyIn 9223372036854775807 L) : ∃ w H', ARun Go.Proofs.Tryd.prog 4 17 [.agg u.l.toArray] H w H' ∧ w = prV L ∧ H' = H := by
  suffices h' : ∃ w H', ARun Go.Proofs.Tryd.prog 4 17 [.agg u.l.toArray] H w H' ∧ w = prV L ∧ Keeps H H' by
    obtain ⟨_, _, a, rfl, k⟩ := h'
    exact ⟨_, _, a.gc0 k (.inr (prV_n _ L)), rfl, rfl⟩
  refine walk2 f17_ok f17_n ?_
  intro Q hq1 hq2
  have os := Sl.one h.s
  have op := Sl.one h.p
  have og := Sl.one h.g
  have or := Sl.one h.r
  have kv := vB_k H u
  have hv := h.keeps kv
  have gv := vB_g H u
  cases hma : mayB L with
  | false =>
    unfold vB at *
    obtain ⟨us, up, ug, ur⟩ := u
    have ll : [us, up, ug, ur].length = 4 := rfl
    simp only [V4.l] at *
    simp (disch := first | assumption | omega | (simp only [LN] <;> omega) | (simp (disch := first | assumption | omega | (simp only [LN] <;> omega)) only [row_alloc, row_set]; assumption)) only [f17, W_block, P3, ↓reduceIte, reduceAdd, reduceEqDiff, reduceCtorEq, initFr, reduceLT, clsA, reduceLeDiff, reduceMul, reduceSub, reduceIte, os, op, og, or, ll]
    refine callK (rMayA hv hf) ?_
    rintro _ X ⟨rfl, hX⟩
    rw [hX, hma]
    simp (disch := first | assumption | omega | (simp only [LN] <;> omega) | (simp (disch := first | assumption | omega | (simp only [LN] <;> omega)) only [row_alloc, row_set]; assumption)) only [W_block, P3, ↓reduceIte, reduceAdd, reduceEqDiff, reduceCtorEq, initFr, reduceLT, clsA, reduceLeDiff, reduceMul, reduceSub, reduceIte]
    exact hq2 _ _ ⟨_, rfl, by simp [prV, hma, tupV], kv⟩
  | true =>
    have ok := may_ok hma
    have hP := may_names hma
    have t0 := ok.t
    unfold printT at t0
    simp only [List.length_append] at t0
    refine W_part 3 (PM (.agg u.l.toArray) H u []) (by kernel_rfl) ?_ (fun fr K m => ?_)
    · intro Q' a _ _
      unfold PM vB at *
      obtain ⟨us, up, ug, ur⟩ := u
      have ll : [us, up, ug, ur].length = 4 := rfl
      simp only [V4.l] at *
      simp (disch := first | assumption | omega | (simp only [LN] <;> omega) | (simp (disch := first | assumption | omega | (simp only [LN] <;> omega)) only [row_alloc, row_set]; assumption)) only [f17, cpre, W_block, P3, ↓reduceIte, reduceAdd, reduceEqDiff, reduceCtorEq, initFr, reduceLT, clsA, reduceLeDiff, reduceMul, reduceSub, reduceIte, os, op, og, or, ll]
      refine callK (rMayA hv hf) ?_
      rintro _ X ⟨rfl, hX⟩
      rw [hX, hma]
      simp (disch := first | assumption | omega | (simp only [LN] <;> omega) | (simp (disch := first | assumption | omega | (simp only [LN] <;> omega)) only [row_alloc, row_set]; assumption)) only [W_block, P3, ↓reduceIte, reduceAdd, reduceEqDiff, reduceCtorEq, initFr, reduceLT, clsA, reduceLeDiff, reduceMul, reduceSub, reduceIte]
      exact a _ _ ⟨_, _, _, _, _, _, _, _, _, _, _, rfl, Keeps.refl _⟩
    refine W_part 1 (PM (.agg u.l.toArray) H u ([] ++ txS L.s)) (by kernel_rfl) (fun Q' a _ _ => pr1 h (by have := ok.s; omega) (by simp only [List.length_append, List.length_nil]; omega) m a) (fun fr K m => ?_)
    refine W_part 1 (PM (.agg u.l.toArray) H u ([] ++ txS L.s ++ txP ptW L.s L.p)) (by kernel_rfl) (fun Q' a _ _ => pr2 h (by have := ok.p.1; omega) ok.p.2 (by simp only [List.length_append, List.length_nil]; omega) m a) (fun fr K m => ?_)
    refine W_part 1 (PM (.agg u.l.toArray) H u ([] ++ txS L.s ++ txP ptW L.s L.p ++ txP sgW L.s L.g)) (by kernel_rfl) (fun Q' a _ _ => pr3 h (by have := ok.g.1; omega) ok.g.2 (by simp only [List.length_append, List.length_nil]; omega) m a) (fun fr K m => ?_)
    refine W_part 1 (PM (.agg u.l.toArray) H u ([] ++ txS L.s ++ txP ptW L.s L.p ++ txP sgW L.s L.g ++ txR L L.r)) (by kernel_rfl) (fun Q' a _ _ => pr4 h ok hP (by simp only [List.length_append, List.length_nil]; omega) m a) (fun fr K m => ?_)
    obtain ⟨x5, x6, x7, x8, x9, x10, x11, x12, x13, x14, x15, rfl, hkK⟩ := m
    have et : ([] ++ txS L.s ++ txP ptW L.s L.p ++ txP sgW L.s L.g ++ txR L L.r) = printT L := rfl
    rw [et]
    have hr : prV L = if (printT L).length ≤ 16384 then .tuple #[.string ⟨(printT L).toArray⟩, .int .i64 0] else .tuple #[.string ⟨([] : List UInt8).toArray⟩, .int .i64 3] := by unfold prV; rw [hma]; rfl
    rw [hr] at hq2
    generalize printT L = T at *
    by_cases hlen : T.length ≤ 16384
    · have h1 : ¬ (16384 : Int) < ((T.length : Nat) : Int) := by omega
      rw [if_pos hlen] at hq2
      simp (disch := first | assumption | omega | (simp only [LN] <;> omega) | (simp (disch := first | assumption | omega | (simp only [LN] <;> omega)) only [row_alloc, row_set]; assumption)) only [f17, cpost, W_block, P3, ↓reduceIte, reduceAdd, reduceEqDiff, reduceCtorEq, initFr, reduceLT, clsA, reduceLeDiff, reduceMul, reduceSub, reduceIte, a_lens, h1]
      exact hq2 _ _ ⟨_, rfl, by simp [tupV], kv.trans hkK⟩
    · have h1 : (16384 : Int) < ((T.length : Nat) : Int) := by omega
      rw [if_neg hlen] at hq2
      simp (disch := first | assumption | omega | (simp only [LN] <;> omega) | (simp (disch := first | assumption | omega | (simp only [LN] <;> omega)) only [row_alloc, row_set]; assumption)) only [f17, cpost, W_block, P3, ↓reduceIte, reduceAdd, reduceEqDiff, reduceCtorEq, initFr, reduceLT, clsA, reduceLeDiff, reduceMul, reduceSub, reduceIte, a_lens, h1]
      exact hq2 _ _ ⟨_, rfl, by simp [tupV], kv.trans hkK⟩
end Go.AM.Fd

set_option linter.unusedSimpArgs false
set_option linter.unusedVariables false
set_option maxRecDepth 8000
namespace Go.AM.Fd
open Nat (reduceAdd reduceEqDiff reduceLT reduceLeDiff reduceMul reduceSub)
open Go.Proofs Go.AM.F
def RB : Nat := 140737488351232
theorem ar_lenB {P : Program} {H : AHeap} {v : Value} {t e : Nat} (hu : P.underlying t = some (.slice e)) (h : AR P H.get t [v]) : lenS v * P.bytesOf e ≤ RB := by
  rcases h.slice_inv hu with h2 | ⟨x, hx, h2⟩ | ⟨b, n, k, c, u, h2, h3, h4, ⟨_, h5⟩, _⟩
  · cases h2; simp [lenS]
  · cases h2; simp [lenS]
  · cases h2
    have : reachBytes = RB := by unfold reachBytes RB; rfl
    rw [this] at h5
    simp only [slc, lenS]
    exact Nat.le_trans (Nat.mul_le_mul_right _ h4) h5
structure RVB (x : RV) : Prop where
  p : x.r.path.length * 8 ≤ RB
  q : x.r.pts.length * 16 ≤ RB
  o : x.r.ov.length * 8 ≤ RB
  f : x.r.fl.length * 16 ≤ RB
structure LyB (xs : List RV) (L : Ly) : Prop where
  s : L.s.length * 16 ≤ RB
  p : L.p.length * 24 ≤ RB
  g : L.g.length * 24 ≤ RB
  r : L.r.length * 120 ≤ RB
  x : ∀ y ∈ xs, RVB y
theorem ar_routeB {H : AHeap} {r : List Value} (h : AR Go.Proofs.Tryd.prog H.get 43 r) : ∃ x : RV, r = x.row ∧ (x.ok H ∧ x.r.n.length ≤ 9223372036854775807 ∧ x.r.path.length ≤ 9223372036854775807 ∧ x.r.pts.length ≤ 9223372036854775807 ∧ x.r.ov.length ≤ 9223372036854775807 ∧ x.r.fl.length ≤ 9223372036854775807) ∧ RVB x := by
  have h1 := h.flat (d := 6) (ks := [.str, .int .i64, .sl 40, .sl 41, .sl 40, .sl 41]) (by kernel_rfl)
  obtain ⟨a, as1, rfl, ha, h2⟩ := h1.inv
  obtain ⟨b, bs, rfl, hb, h3⟩ := h2.inv
  obtain ⟨c, cs, rfl, hc, h4⟩ := h3.inv
  obtain ⟨d, ds, rfl, hd, h5⟩ := h4.inv
  obtain ⟨e, es, rfl, he, h6⟩ := h5.inv
  obtain ⟨f, fs, rfl, hf, h7⟩ := h6.inv
  have := h7.end_; subst this
  obtain ⟨s, rfl, hz⟩ := ha
  obtain ⟨m, rfl, _⟩ := hb
  obtain ⟨l, rfl⟩ := str_exL s
  obtain ⟨p, hp, lp⟩ := ar_ints hc
  obtain ⟨q, hq, lq⟩ := ar_needs hd
  obtain ⟨o, ho, lo⟩ := ar_ints he
  obtain ⟨g, hg, lg⟩ := ar_needs hf
  have b1 := ar_lenB (e := 3) (by kernel_rfl) hc
  have b2 := ar_lenB (e := 45) (by kernel_rfl) hd
  have b3 := ar_lenB (e := 3) (by kernel_rfl) he
  have b4 := ar_lenB (e := 45) (by kernel_rfl) hf
  have z1 : Program.bytesOf Go.Proofs.Tryd.prog 3 = 8 := by kernel_rfl
  have z2 : Program.bytesOf Go.Proofs.Tryd.prog 45 = 16 := by kernel_rfl
  rw [hp.len, z1] at b1
  rw [hq.len, z2] at b2
  rw [ho.len, z1] at b3
  rw [hg.len, z2] at b4
  have : maxLen = 9223372036854775807 := by unfold maxLen; rfl
  have : (⟨l.toArray⟩ : ByteArray).size = l.length := by simp [ByteArray.size]
  exact ⟨⟨⟨l, m, p, q, o, g⟩, c, d, e, f⟩, rfl, ⟨⟨hp, hq, ho, hg⟩, by simp only; omega, lp, lq, lo, lg⟩, ⟨b1, b2, b3, b4⟩⟩
theorem ar_lyB {H : AHeap} {cs : List Value} (h : AR Go.Proofs.Tryd.prog H.get 28 cs) : ∃ u xs L, cs = V4.l u ∧ LyR H u xs L ∧ LyIn 9223372036854775807 L ∧ LyB xs L := by
  have h1 := h.flat (d := 6) (ks := [.sl 23, .sl 24, .sl 25, .sl 26]) (by kernel_rfl)
  obtain ⟨a, as1, rfl, ha, h2⟩ := h1.inv
  obtain ⟨b, bs, rfl, hb, h3⟩ := h2.inv
  obtain ⟨c, cs, rfl, hc, h4⟩ := h3.inv
  obtain ⟨d, ds, rfl, hd, h5⟩ := h4.inv
  have := h5.end_; subst this
  obtain ⟨s, hs, ls, bs⟩ := ar_txs ha
  obtain ⟨p, hp, lp, bp⟩ := ar_named (e := 58) (by kernel_rfl) (by kernel_rfl) (by kernel_rfl) hb
  obtain ⟨g, hg, lg, bg⟩ := ar_named (e := 59) (by kernel_rfl) (by kernel_rfl) (by kernel_rfl) hc
  obtain ⟨rows, ⟨hr, lr⟩, hrow⟩ := ar_rows (e := 43) (esz := 6) (by kernel_rfl) (by kernel_rfl) hd
  obtain ⟨xs, rfl, hx⟩ := list_choose (f := RV.row) (Q := fun x : RV => (x.ok H ∧ x.r.n.length ≤ 9223372036854775807 ∧ x.r.path.length ≤ 9223372036854775807 ∧ x.r.pts.length ≤ 9223372036854775807 ∧ x.r.ov.length ≤ 9223372036854775807 ∧ x.r.fl.length ≤ 9223372036854775807) ∧ RVB x) (l := rows) (fun r hm => ar_routeB (hrow r hm))
  have b1 := ar_lenB (e := 9) (by kernel_rfl) ha
  have b2 := ar_lenB (e := 58) (by kernel_rfl) hb
  have b3 := ar_lenB (e := 59) (by kernel_rfl) hc
  have b4 := ar_lenB (e := 43) (by kernel_rfl) hd
  have z1 : Program.bytesOf Go.Proofs.Tryd.prog 9 = 16 := by kernel_rfl
  have z2 : Program.bytesOf Go.Proofs.Tryd.prog 58 = 24 := by kernel_rfl
  have z3 : Program.bytesOf Go.Proofs.Tryd.prog 59 = 24 := by kernel_rfl
  have z4 : Program.bytesOf Go.Proofs.Tryd.prog 43 = 120 := by kernel_rfl
  rw [hs.len, z1] at b1
  rw [hp.len, z2] at b2
  rw [hg.len, z3] at b3
  rw [Sl.len hr, z4] at b4
  refine ⟨⟨a, b, c, d⟩, xs, ⟨s, p, g, xs.map (·.r)⟩, rfl, ⟨hs, hp, hg, hr, rfl, fun x hm => (hx x hm).1.1⟩, ⟨⟨ls, bs⟩, ⟨lp, bp⟩, ⟨lg, bg⟩, ⟨by simpa using lr, fun x hm => ?_⟩⟩, ⟨b1, b2, b3, by simpa using b4, fun y hy => (hx y hy).2⟩⟩
  obtain ⟨y, hy, rfl⟩ := List.mem_map.1 hm
  exact (hx y hy).1.2
theorem av_lyB {H : AHeap} {v : Value} (h : AV Go.Proofs.Tryd.prog H.get 28 v) : ∃ u xs L, v = .agg (V4.l u).toArray ∧ LyR H u xs L ∧ LyIn 9223372036854775807 L ∧ LyB xs L := by
  obtain ⟨cs, rfl⟩ := h.2.1 (by kernel_rfl)
  obtain ⟨u, xs, L, h1, h2⟩ := ar_lyB h.1
  have e : cs.toList = V4.l u := by simpa [Value.cells] using h1
  exact ⟨u, xs, L, by rw [← e], h2⟩
theorem RV.ones {H : AHeap} {x : RV} (h : x.ok H) : x.vp.oneCell' = true ∧ x.vq.oneCell' = true ∧ x.vo.oneCell' = true ∧ x.vf.oneCell' = true := ⟨Sl.one h.p, Sl.one h.q, Sl.one h.o, Sl.one h.f⟩
def ro (L : Ly) (i : Nat) : Ro := L.r.getD i rv0.r
theorem ro_eq {L : Ly} {i : Nat} (h : i < L.r.length) : ro L i = L.r[i] := by unfold ro; rw [List.getD_eq_getElem?_getD, List.getElem?_eq_getElem h]; rfl
theorem rv_ro {H : AHeap} {u : V4} {xs : List RV} {L : Ly} (h : LyR H u xs L) {i : Nat} (hi : i < L.r.length) : (xs.getD i rv0).r = ro L i ∧ (xs.getD i rv0).ok H := by
  have hl : i < xs.length := by have := h.e; rw [← this] at hi; simpa using hi
  have e0 : xs.getD i rv0 = xs[i] := by rw [List.getD_eq_getElem?_getD, List.getElem?_eq_getElem hl]; rfl
  rw [e0]
  refine ⟨?_, h.ok _ (List.getElem_mem hl)⟩
  rw [ro_eq hi]
  have e := congrArg (fun l : List Ro => l[i]?) h.e
  simp only [List.getElem?_map, List.getElem?_eq_getElem hl, List.getElem?_eq_getElem hi, Option.map_some] at e
  exact Option.some.inj e
def NoZ (K : AHeap) (S : List Nat) (z : Nat) : Prop := ∀ b ∈ S, ∀ o r esz c t, K.get b = some (.cells o r esz c t) → esz ≠ z
theorem ap_z {K K' : AHeap} {e z m : Nat} {v : Value} {c : List Value} {S : List Nat} (h : AP K e z v m c) (cc : Chg S K K') (hS : NoZ K S z) : AP K' e z v m c := by
  rcases h with h | ⟨b, room, rfl, h1, h2⟩
  · exact .inl h
  · refine .inr ⟨b, room, rfl, h1, cc.at_ h2 (fun hb => hS b hb _ _ _ _ _ h2 rfl)⟩
theorem noz_blk {e z z' : Nat} {H K : AHeap} {v : Value} {rows : List (List Value)} (h : OW e z H K v rows) (hz : z ≠ z') : NoZ K (blkL v) z' := by
  intro b hb o r esz c t g
  rw [mem_blkL] at hb
  rcases h.ap with ⟨rfl, _, _⟩ | ⟨b', room, rfl, _, h2⟩
  · cases hb
  · cases hb
    rw [h2] at g
    injection (Option.some.inj g) with _ _ e3 _ _
    omega
theorem noz_one {K : AHeap} {b z z' : Nat} {o r : Bool} {c : List Value} {t : Nat} (g : K.get b = some (.cells o r z c t)) (hz : z ≠ z') : NoZ K [b] z' := by
  intro b' hb o' r' esz c' t' g'
  rw [List.mem_singleton] at hb
  subst hb
  rw [g] at g'
  injection (Option.some.inj g') with _ _ e3 _ _
  omega
theorem ow_z {e z : Nat} {H K K' : AHeap} {v : Value} {rows : List (List Value)} {S : List Nat} (h : OW e z H K v rows) (cc : Chg S K K') (hS : NoZ K S z) (k : Keeps H K') : OW e z H K' v rows := ⟨ap_z h.ap cc hS, h.r, k, h.f⟩
structure RVo (H K : AHeap) (y : RV) : Prop where
  p : OW 3 1 H K y.vp (y.r.path.map iRow)
  q : OW 45 2 H K y.vq (y.r.pts.map nRow)
  o : OW 3 1 H K y.vo (y.r.ov.map iRow)
  f : OW 45 2 H K y.vf (y.r.fl.map nRow)
theorem RVo.ok {H K : AHeap} {y : RV} (h : RVo H K y) : y.ok K := ⟨h.p.sl, h.q.sl, h.o.sl, h.f.sl⟩
theorem RVo.keeps {H K K' : AHeap} {y : RV} (h : RVo H K y) (k : Keeps K K') : RVo H K' y := ⟨h.p.keeps k, h.q.keeps k, h.o.keeps k, h.f.keeps k⟩
theorem RVo.z {H K K' : AHeap} {y : RV} {S : List Nat} (h : RVo H K y) (cc : Chg S K K') (h1 : NoZ K S 1) (h2 : NoZ K S 2) (k : Keeps H K') : RVo H K' y := ⟨ow_z h.p cc h1 k, ow_z h.q cc h2 k, ow_z h.o cc h1 k, ow_z h.f cc h2 k⟩
structure CpI (H K : AHeap) (u : V4) (L : Ly) (ys : List RV) : Prop where
  s : OW 9 1 H K u.s (L.s.map tRow)
  p : OW 58 2 H K u.p (L.p.map pRow)
  g : OW 59 2 H K u.g (L.g.map pRow)
  r : OW 43 6 H K u.r (ys.map RV.row)
  y : ∀ y ∈ ys, RVo H K y
theorem CpI.keeps {H K K' : AHeap} {u : V4} {L : Ly} {ys : List RV} (h : CpI H K u L ys) (k : Keeps K K') : CpI H K' u L ys := ⟨h.s.keeps k, h.p.keeps k, h.g.keeps k, h.r.keeps k, fun y hy => (h.y y hy).keeps k⟩
theorem CpI.z {H K K' : AHeap} {u : V4} {L : Ly} {ys : List RV} {b z t : Nat} {o r : Bool} {c : List Value} (h : CpI H K u L ys) (cc : Chg [b] K K') (g : K.get b = some (.cells o r z c t)) (h1 : z ≠ 1) (h2 : z ≠ 2) (h6 : z ≠ 6) (k : Keeps H K') : CpI H K' u L ys :=
  ⟨ow_z h.s cc (noz_one g h1) k, ow_z h.p cc (noz_one g h2) k, ow_z h.g cc (noz_one g h2) k, ow_z h.r cc (noz_one g h6) k, fun y hy => (h.y y hy).z cc (noz_one g h1) (noz_one g h2) k⟩
theorem CpI.ly {H K : AHeap} {u : V4} {L : Ly} {ys : List RV} (h : CpI H K u L ys) (e : ys.map (·.r) = L.r) : LyR K u ys L := ⟨h.s.sl, h.p.sl, h.g.sl, h.r.sl, e, fun y hy => (h.y y hy).ok⟩
theorem nilK {K K' : AHeap} (c : Chg (blkL (.slice none 0 0)) K K') : Keeps K K' := by
  rw [show blkL (Value.slice none 0 0) = [] from rfl] at c; exact c.keeps (by simp)
theorem fillR6 (a : ByteArray) (k : Int) : fillA [.string ByteArray.empty, .int .i64 0, .slice none 0 0, .slice none 0 0, .slice none 0 0, .slice none 0 0] [(0, 1, .string a), (1, 1, .int .i64 k)] = some [.string a, .int .i64 k, .slice none 0 0, .slice none 0 0, .slice none 0 0, .slice none 0 0] := rfl
theorem fillR7 (x : ByteArray) (y : Int) (a b c d e f g h i j : Value) : fillA [.string x, .int .i64 y, g, h, i, j] [(0, 6, .agg #[a, b, c, d, e, f])] = some [a, b, c, d, e, f] := rfl
set_option maxHeartbeats 8000000 in
theorem t15 {H : AHeap} {u : V4} {xs : List RV} {L : Ly} (h : LyR H u xs L) (hb : LyB xs L) :
    ∃ w H', ARun Go.Proofs.Tryd.prog 4 15 [.agg u.l.toArray] H w H' ∧ Keeps H H' ∧ ∃ u' ys, w = .agg (V4.l u').toArray ∧ CpI H H' u' L ys ∧ ys.map (·.r) = L.r := by
  refine walk2 f15_ok f15_n ?_
  intro Q hq1 hq2
  have B1 := hb.s
  have B2 := hb.p
  have B3 := hb.g
  have B4 := hb.r
  unfold RB at B1 B2 B3 B4
  have os := Sl.one h.s
  have op := Sl.one h.p
  have og := Sl.one h.g
  have or := Sl.one h.r
  have ir := Sl.is h.r
  have lenr := h.r.len
  rw [h.rlen] at lenr
  have hul : u.l = [u.s, u.p, u.g, u.r] := rfl
  obtain ⟨K0, hK0⟩ : ∃ X, X = ((H.alloc (.cells true false 4 [u.s, u.p, u.g, u.r] 28)).alloc (.cells true false 4 [.slice none 0 0, .slice none 0 0, .slice none 0 0, .slice none 0 0] 28)).alloc (.cells true false 4 [.slice none 0 0, .slice none 0 0, .slice none 0 0, .slice none 0 0] 28) := ⟨_, rfl⟩
  have k0 : Keeps H K0 := by rw [hK0]; exact (((Keeps.refl H).alloc _).alloc _).alloc _
  have n0 : K0.n = H.n + 3 := by rw [hK0]; rfl
  have gl0 : K0.get H.n = some (.cells true false 4 [u.s, u.p, u.g, u.r] 28) := by rw [hK0]; exact (((Keeps.refl _).alloc _).alloc _).at_ (AHeap.get_alloc_new H _)
  have gw0 : K0.get (H.n + 1) = some (.cells true false 4 [.slice none 0 0, .slice none 0 0, .slice none 0 0, .slice none 0 0] 28) := by rw [hK0]; exact ((Keeps.refl _).alloc _).at_ (AHeap.get_alloc_new (H.alloc _) _)
  have go0 : K0.get (H.n + 2) = some (.cells true false 4 [.slice none 0 0, .slice none 0 0, .slice none 0 0, .slice none 0 0] 28) := by rw [hK0]; exact AHeap.get_alloc_new ((H.alloc _).alloc _) _
  rw [hul]
  simp (disch := first | assumption | omega | (simp only [LN] <;> omega) | (simp (disch := first | assumption | omega | (simp only [LN] <;> omega)) only [row_alloc, row_set]; assumption)) only [f15, W_block, P3, ↓reduceIte, reduceAdd, reduceEqDiff, reduceCtorEq, initFr, reduceLT, clsA, reduceLeDiff, reduceMul, reduceSub, reduceIte, os, op, og, or]
  simp only [← hK0]
  -- sections
  refine OW.appR (OW.nil 9 1 k0) (Sl.keeps h.s k0) (by simp; omega) ?_
  intro v1 K1 w1 c1
  have k1 := nilK c1
  have gl1 := k1.at_ gl0
  have gw1 := k1.at_ gw0
  have go1 := k1.at_ go0
  have lo1 := AHeap.get_lt go1
  have o1 := w1.one
  obtain ⟨K2, hK2⟩ : ∃ X, X = K1.set (H.n + 2) (.cells true false 4 [v1, .slice none 0 0, .slice none 0 0, .slice none 0 0] 28) := ⟨_, rfl⟩
  have c2 : Chg [H.n + 2] K1 K2 := by rw [hK2]; exact Chg.set K1 lo1 _
  have k2 : Keeps H K2 := (k0.trans k1).chg_trans c2 (by simp)
  have gl2 := c2.at_ gl1 (by simp)
  have gw2 := c2.at_ gw1 (by simp)
  have go2 : K2.get (H.n + 2) = some (.cells true false 4 [v1, .slice none 0 0, .slice none 0 0, .slice none 0 0] 28) := by rw [hK2]; exact AHeap.get_set_same go1 _
  have w2 := ow_z w1 c2 (noz_one go1 (by omega)) k2
  simp (disch := first | assumption | omega | (simp only [LN] <;> omega) | (simp (disch := first | assumption | omega | (simp only [LN] <;> omega)) only [row_alloc, row_set]; assumption)) only [W_block, P3, ↓reduceIte, reduceAdd, reduceEqDiff, reduceCtorEq, initFr, reduceLT, clsA, reduceLeDiff, reduceMul, reduceSub, reduceIte, go1, gl1, o1]
  simp only [← hK2]
  -- points
  refine OW.appR (OW.nil 58 2 k2) (Sl.keeps h.p k2) (by simp; omega) ?_
  intro v2 K3 w3 c3
  have k3 := nilK c3
  have kH3 := k2.trans k3
  have go3 := k3.at_ go2
  have gl3 := k3.at_ gl2
  have lo3 := AHeap.get_lt go3
  have o2 := w3.one
  obtain ⟨K4, hK4⟩ : ∃ X, X = K3.set (H.n + 2) (.cells true false 4 [v1, v2, .slice none 0 0, .slice none 0 0] 28) := ⟨_, rfl⟩
  have c4 : Chg [H.n + 2] K3 K4 := by rw [hK4]; exact Chg.set K3 lo3 _
  have k4 : Keeps H K4 := kH3.chg_trans c4 (by simp)
  have gl4 := c4.at_ gl3 (by simp)
  have go4 : K4.get (H.n + 2) = some (.cells true false 4 [v1, v2, .slice none 0 0, .slice none 0 0] 28) := by rw [hK4]; exact AHeap.get_set_same go3 _
  have w1_4 := ow_z (w2.keeps k3) c4 (noz_one go3 (by omega)) k4
  have w2_4 := ow_z w3 c4 (noz_one go3 (by omega)) k4
  simp (disch := first | assumption | omega | (simp only [LN] <;> omega) | (simp (disch := first | assumption | omega | (simp only [LN] <;> omega)) only [row_alloc, row_set]; assumption)) only [W_block, P3, ↓reduceIte, reduceAdd, reduceEqDiff, reduceCtorEq, initFr, reduceLT, clsA, reduceLeDiff, reduceMul, reduceSub, reduceIte, go3, gl3, o2]
  simp only [← hK4]
  -- signals
  refine OW.appR (OW.nil 59 2 k4) (Sl.keeps h.g k4) (by simp; omega) ?_
  intro v3 K5 w5 c5
  have k5 := nilK c5
  have kH5 := k4.trans k5
  have go5 := k5.at_ go4
  have gl5 := k5.at_ gl4
  have gw5 := (k5.at_ (c4.at_ (k3.at_ gw2) (by simp)))
  have lo5 := AHeap.get_lt go5
  have o3 := w5.one
  obtain ⟨K6, hK6⟩ : ∃ X, X = K5.set (H.n + 2) (.cells true false 4 [v1, v2, v3, .slice none 0 0] 28) := ⟨_, rfl⟩
  have c6 : Chg [H.n + 2] K5 K6 := by rw [hK6]; exact Chg.set K5 lo5 _
  have k6 : Keeps H K6 := kH5.chg_trans c6 (by simp)
  have gl6 := c6.at_ gl5 (by simp)
  have gw6 := c6.at_ gw5 (by simp)
  have go6 : K6.get (H.n + 2) = some (.cells true false 4 [v1, v2, v3, .slice none 0 0] 28) := by rw [hK6]; exact AHeap.get_set_same go5 _
  have cp0 : CpI H K6 ⟨v1, v2, v3, .slice none 0 0⟩ L [] := ⟨ow_z (w1_4.keeps k5) c6 (noz_one go5 (by omega)) k6, ow_z (w2_4.keeps k5) c6 (noz_one go5 (by omega)) k6, ow_z w5 c6 (noz_one go5 (by omega)) k6, OW.nil _ _ k6, by simp⟩
  simp (disch := first | assumption | omega | (simp only [LN] <;> omega) | (simp (disch := first | assumption | omega | (simp only [LN] <;> omega)) only [row_alloc, row_set]; assumption)) only [ P3, ↓reduceIte, reduceAdd, reduceEqDiff, reduceCtorEq, initFr, reduceLT, clsA, reduceLeDiff, reduceMul, reduceSub, reduceIte, go5, gl5, o3]
  simp only [← hK6]
  obtain ⟨A1, hA1⟩ : ∃ v : Value, v = .agg #[u.s, u.p, u.g, u.r] := ⟨_, rfl⟩
  rw [W_block, ← hA1]
  refine W_loop2 (fun q fr M => ∃ i vr ys x5 x6 x7, fr = [A1, ptr H.n 0, ptr (H.n + 1) 0, ptr (H.n + 2) 0, .int .i64 ((i : Nat) : Int), x5, x6, x7] ∧ CpI H M ⟨v1, v2, v3, vr⟩ L ys ∧ ys.map (·.r) = L.r.take i ∧
      M.get (H.n + 2) = some (.cells true false 4 [v1, v2, v3, vr] 28) ∧ M.get H.n = some (.cells true false 4 [u.s, u.p, u.g, u.r] 28) ∧ M.get (H.n + 1) = some (.cells true false 4 [.slice none 0 0, .slice none 0 0, .slice none 0 0, .slice none 0 0] 28) ∧ i ≤ L.r.length ∧ q = L.r.length - i) L.r.length
    ⟨0, .slice none 0 0, [], _, _, _, rfl, cp0, rfl, go6, gl6, gw6, by omega, rfl⟩ ?_
  rintro Q' q fr M ⟨i, vr, ys, x5, x6, x7, rfl, cp, hys, go, gl, gw, hi, rfl⟩ hn' hx' hret
  have kM := cp.s.k
  have lo := AHeap.get_lt go
  by_cases hlt : i < L.r.length
  · obtain ⟨hyr, hyo⟩ := rv_ro h hlt
    obtain ⟨na, ra⟩ := (h.r.keeps kM).at_ (i := i) (by rw [h.rlen]; exact hlt)
    have hyb := hb.x (xs.getD i rv0) (by
      have hl : i < xs.length := by rw [h.rlen]; exact hlt
      rw [List.getD_eq_getElem?_getD, List.getElem?_eq_getElem hl]; exact List.getElem_mem hl)
    have htk : L.r.take (i + 1) = L.r.take i ++ [(xs.getD i rv0).r] := by rw [hyr, ro_eq hlt, List.take_add_one, List.getElem?_eq_getElem hlt]; rfl
    generalize xs.getD i rv0 = y at *
    have D1 := hyb.p
    have D2 := hyb.q
    have D3 := hyb.o
    have D4 := hyb.f
    unfold RB at D1 D2 D3 D4
    have rowy : y.row = [.string ⟨y.r.n.toArray⟩, .int .i64 y.r.g, y.vp, y.vq, y.vo, y.vf] := rfl
    obtain ⟨a3, a4, a5, a6⟩ := RV.ones hyo
    have a1 : one1 (Value.int .i64 y.r.g) = True := by simp [one1, one_int]
    have a2 : one1 (Value.string ⟨y.r.n.toArray⟩) = True := by simp [one1, one_str]
    have e0 : (0 : Int) ≤ (i : Int) := by omega
    have e1 : (i : Int) < ((L.r.length : Nat) : Int) := by omega
    have hw : IntKind.i64.wrap ((i : Int) + 1) = ((i + 1 : Nat) : Int) := by rw [wrap_i64 (by omega) (by omega)]; simp
    obtain ⟨M1, hM1⟩ : ∃ X, X = (M.alloc (.cells true false 6 y.row 43)).alloc (.cells true false 6 [.string ⟨y.r.n.toArray⟩, .int .i64 y.r.g, .slice none 0 0, .slice none 0 0, .slice none 0 0, .slice none 0 0] 43) := ⟨_, rfl⟩
    have kM1 : Keeps M M1 := by rw [hM1]; exact ((Keeps.refl M).alloc _).alloc _
    have nM1 : M1.n = M.n + 2 := by rw [hM1]; rfl
    have gy1 : M1.get M.n = some (.cells true false 6 y.row 43) := by rw [hM1]; exact ((Keeps.refl _).alloc _).at_ (AHeap.get_alloc_new M _)
    have gx1 : M1.get (M.n + 1) = some (.cells true false 6 [.string ⟨y.r.n.toArray⟩, .int .i64 y.r.g, .slice none 0 0, .slice none 0 0, .slice none 0 0, .slice none 0 0] 43) := by rw [hM1]; exact AHeap.get_alloc_new (M.alloc _) _
    rw [rowy] at hM1 gy1 ra
    have kHM1 := kM.trans kM1
    simp (disch := first | assumption | omega | (simp only [LN] <;> omega) | (simp (disch := first | assumption | omega | (simp only [LN] <;> omega)) only [row_alloc, row_set]; assumption)) only [W_block, P3, ↓reduceIte, reduceAdd, reduceEqDiff, reduceCtorEq, initFr, reduceLT, clsA, reduceLeDiff, reduceMul, reduceSub, reduceIte, gl, ir, lenr, na, ra, e0, e1, a_loadnvf, a1, a2, a3, a4, a5, a6, fillR6]
    simp only [← hM1]
    refine OW.appR (OW.nil 3 1 kHM1) (Sl.keeps hyo.p kHM1) (by simp; omega) ?_
    intro z0 P0a wz0 cz0
    have kz0 := nilK cz0
    have kHz0 := (kHM1).trans kz0
    have gxa0 := kz0.at_ gx1
    have gya0 := kz0.at_ gy1
    have lxa0 := AHeap.get_lt gxa0
    have oz0 := wz0.one
    obtain ⟨P0b, hB0⟩ : ∃ X, X = P0a.set (M.n + 1) (.cells true false 6 [.string ⟨y.r.n.toArray⟩, .int .i64 y.r.g, z0, .slice none 0 0, .slice none 0 0, .slice none 0 0] 43) := ⟨_, rfl⟩
    have cb0 : Chg [M.n + 1] P0a P0b := by rw [hB0]; exact Chg.set P0a lxa0 _
    have kHb0 : Keeps H P0b := kHz0.chg_trans cb0 (by simp; omega)
    have gxb0 : P0b.get (M.n + 1) = some (.cells true false 6 [.string ⟨y.r.n.toArray⟩, .int .i64 y.r.g, z0, .slice none 0 0, .slice none 0 0, .slice none 0 0] 43) := by rw [hB0]; exact AHeap.get_set_same gxa0 _
    have gyb0 := cb0.at_ gya0 (by simp)
    have w0_0 := ow_z wz0 cb0 (noz_one gxa0 (by omega)) kHb0
    simp (disch := first | assumption | omega | (simp only [LN] <;> omega) | (simp (disch := first | assumption | omega | (simp only [LN] <;> omega)) only [row_alloc, row_set]; assumption)) only [W_block, P3, ↓reduceIte, reduceAdd, reduceEqDiff, reduceCtorEq, initFr, reduceLT, clsA, reduceLeDiff, reduceMul, reduceSub, reduceIte, gxa0, gya0, oz0, a1, a2]
    simp only [← hB0]
    refine OW.appR (OW.nil 45 2 kHb0) (Sl.keeps hyo.q kHb0) (by simp; omega) ?_
    intro z1 P1a wz1 cz1
    have kz1 := nilK cz1
    have kHz1 := (kHb0).trans kz1
    have gxa1 := kz1.at_ gxb0
    have gya1 := kz1.at_ gyb0
    have lxa1 := AHeap.get_lt gxa1
    have oz1 := wz1.one
    obtain ⟨P1b, hB1⟩ : ∃ X, X = P1a.set (M.n + 1) (.cells true false 6 [.string ⟨y.r.n.toArray⟩, .int .i64 y.r.g, z0, z1, .slice none 0 0, .slice none 0 0] 43) := ⟨_, rfl⟩
    have cb1 : Chg [M.n + 1] P1a P1b := by rw [hB1]; exact Chg.set P1a lxa1 _
    have kHb1 : Keeps H P1b := kHz1.chg_trans cb1 (by simp; omega)
    have gxb1 : P1b.get (M.n + 1) = some (.cells true false 6 [.string ⟨y.r.n.toArray⟩, .int .i64 y.r.g, z0, z1, .slice none 0 0, .slice none 0 0] 43) := by rw [hB1]; exact AHeap.get_set_same gxa1 _
    have gyb1 := cb1.at_ gya1 (by simp)
    have w0_1 := ow_z (w0_0.keeps kz1) cb1 (noz_one gxa1 (by omega)) kHb1
    have w1_1 := ow_z wz1 cb1 (noz_one gxa1 (by omega)) kHb1
    simp (disch := first | assumption | omega | (simp only [LN] <;> omega) | (simp (disch := first | assumption | omega | (simp only [LN] <;> omega)) only [row_alloc, row_set]; assumption)) only [W_block, P3, ↓reduceIte, reduceAdd, reduceEqDiff, reduceCtorEq, initFr, reduceLT, clsA, reduceLeDiff, reduceMul, reduceSub, reduceIte, gxa1, gya1, oz1, a1, a2]
    simp only [← hB1]
    refine OW.appR (OW.nil 3 1 kHb1) (Sl.keeps hyo.o kHb1) (by simp; omega) ?_
    intro z2 P2a wz2 cz2
    have kz2 := nilK cz2
    have kHz2 := (kHb1).trans kz2
    have gxa2 := kz2.at_ gxb1
    have gya2 := kz2.at_ gyb1
    have lxa2 := AHeap.get_lt gxa2
    have oz2 := wz2.one
    obtain ⟨P2b, hB2⟩ : ∃ X, X = P2a.set (M.n + 1) (.cells true false 6 [.string ⟨y.r.n.toArray⟩, .int .i64 y.r.g, z0, z1, z2, .slice none 0 0] 43) := ⟨_, rfl⟩
    have cb2 : Chg [M.n + 1] P2a P2b := by rw [hB2]; exact Chg.set P2a lxa2 _
    have kHb2 : Keeps H P2b := kHz2.chg_trans cb2 (by simp; omega)
    have gxb2 : P2b.get (M.n + 1) = some (.cells true false 6 [.string ⟨y.r.n.toArray⟩, .int .i64 y.r.g, z0, z1, z2, .slice none 0 0] 43) := by rw [hB2]; exact AHeap.get_set_same gxa2 _
    have gyb2 := cb2.at_ gya2 (by simp)
    have w0_2 := ow_z (w0_1.keeps kz2) cb2 (noz_one gxa2 (by omega)) kHb2
    have w1_2 := ow_z (w1_1.keeps kz2) cb2 (noz_one gxa2 (by omega)) kHb2
    have w2_2 := ow_z wz2 cb2 (noz_one gxa2 (by omega)) kHb2
    simp (disch := first | assumption | omega | (simp only [LN] <;> omega) | (simp (disch := first | assumption | omega | (simp only [LN] <;> omega)) only [row_alloc, row_set]; assumption)) only [W_block, P3, ↓reduceIte, reduceAdd, reduceEqDiff, reduceCtorEq, initFr, reduceLT, clsA, reduceLeDiff, reduceMul, reduceSub, reduceIte, gxa2, gya2, oz2, a1, a2]
    simp only [← hB2]
    refine OW.appR (OW.nil 45 2 kHb2) (Sl.keeps hyo.f kHb2) (by simp; omega) ?_
    intro z3 P3a wz3 cz3
    have kz3 := nilK cz3
    have kHz3 := (kHb2).trans kz3
    have gxa3 := kz3.at_ gxb2
    have gya3 := kz3.at_ gyb2
    have lxa3 := AHeap.get_lt gxa3
    have oz3 := wz3.one
    obtain ⟨P3b, hB3⟩ : ∃ X, X = P3a.set (M.n + 1) (.cells true false 6 [.string ⟨y.r.n.toArray⟩, .int .i64 y.r.g, z0, z1, z2, z3] 43) := ⟨_, rfl⟩
    have cb3 : Chg [M.n + 1] P3a P3b := by rw [hB3]; exact Chg.set P3a lxa3 _
    have kHb3 : Keeps H P3b := kHz3.chg_trans cb3 (by simp; omega)
    have gxb3 : P3b.get (M.n + 1) = some (.cells true false 6 [.string ⟨y.r.n.toArray⟩, .int .i64 y.r.g, z0, z1, z2, z3] 43) := by rw [hB3]; exact AHeap.get_set_same gxa3 _
    have gyb3 := cb3.at_ gya3 (by simp)
    have w0_3 := ow_z (w0_2.keeps kz3) cb3 (noz_one gxa3 (by omega)) kHb3
    have w1_3 := ow_z (w1_2.keeps kz3) cb3 (noz_one gxa3 (by omega)) kHb3
    have w2_3 := ow_z (w2_2.keeps kz3) cb3 (noz_one gxa3 (by omega)) kHb3
    have w3_3 := ow_z wz3 cb3 (noz_one gxa3 (by omega)) kHb3
    have kMP : Keeps M P3b := ((((((((kM1).trans kz0).chg_trans cb0 (by simp)).trans kz1).chg_trans cb1 (by simp)).trans kz2).chg_trans cb2 (by simp)).trans kz3).chg_trans cb3 (by simp)
    simp (disch := first | assumption | omega | (simp only [LN] <;> omega) | (simp (disch := first | assumption | omega | (simp only [LN] <;> omega)) only [row_alloc, row_set]; assumption)) only [W_block, P3, ↓reduceIte, reduceAdd, reduceEqDiff, reduceCtorEq, initFr, reduceLT, clsA, reduceLeDiff, reduceMul, reduceSub, reduceIte, gxa3, gya3, oz3, a1, a2]
    simp only [← hB3]
    have kMa : Keeps M P3a := ((((((((kM1).trans kz0).chg_trans cb0 (by simp)).trans kz1).chg_trans cb1 (by simp)).trans kz2).chg_trans cb2 (by simp))).trans kz3
    have goA := kMa.at_ go
    have goB := kMP.at_ go
    have glB := kMP.at_ gl
    have gwB := kMP.at_ gw
    have loB := AHeap.get_lt goB
    have cpB := cp.keeps kMP
    have isr := cpB.r.is
    have oz0' := w0_3.one
    have oz1' := w1_3.one
    have oz2' := w2_3.one
    have oz3' := w3_3.one
    obtain ⟨y', hy'⟩ : ∃ y' : RV, y' = ⟨y.r, z0, z1, z2, z3⟩ := ⟨_, rfl⟩
    have ry' : y'.row = [.string ⟨y.r.n.toArray⟩, .int .i64 y.r.g, z0, z1, z2, z3] := by rw [hy']; rfl
    have yo : RVo H P3b y' := by rw [hy']; exact ⟨w0_3, w1_3, w2_3, w3_3⟩
    obtain ⟨P4, hP4⟩ : ∃ X, X = P3b.alloc (.cells true false 6 y'.row 43) := ⟨_, rfl⟩
    have kP4 : Keeps P3b P4 := by rw [hP4]; exact (Keeps.refl P3b).alloc _
    have slP4 : Sl P4 6 (slc P3b.n 0 1 1) [y'.row] := by rw [hP4]; exact Sl.one1 rfl (by rw [ry']; rfl)
    have cp4 := cpB.keeps kP4
    have yo4 := yo.keeps kP4
    have go4' := kP4.at_ goB
    have yl : ys.length = i := by have := congrArg List.length hys; simp at this; omega
    rw [ry'] at hP4 slP4
    simp (disch := first | assumption | omega | (simp only [LN] <;> omega) | (simp (disch := first | assumption | omega | (simp only [LN] <;> omega)) only [row_alloc, row_set]; assumption)) only [W_block, P3, ↓reduceIte, reduceAdd, reduceEqDiff, reduceCtorEq, initFr, reduceLT, clsA, reduceLeDiff, reduceMul, reduceSub, reduceIte, goA, gxb3, fillR7, a1, a2, oz0', oz1', oz2', oz3']
    simp only [← hP4]
    refine OW.appR cp4.r slP4 (by simp [yl]; omega) ?_
    intro vr' K' ow' c'
    have kP4' : Keeps H K' := ow'.k
    have nz1 := noz_blk (z' := 1) cp4.r (by omega)
    have nz2 := noz_blk (z' := 2) cp4.r (by omega)
    have nz4 := noz_blk (z' := 4) cp4.r (by omega)
    have hob : H.n + 2 ∉ blkL vr := fun hm => nz4 _ hm _ _ _ _ _ go4' rfl
    have hlb : H.n ∉ blkL vr := fun hm => nz4 _ hm _ _ _ _ _ (kP4.at_ glB) rfl
    have hwb : H.n + 1 ∉ blkL vr := fun hm => nz4 _ hm _ _ _ _ _ (kP4.at_ gwB) rfl
    have goK := c'.at_ go4' hob
    have glK := c'.at_ (kP4.at_ glB) hlb
    have gwK := c'.at_ (kP4.at_ gwB) hwb
    have loK := AHeap.get_lt goK
    have or' := ow'.one
    have e7 : (ys ++ [y']).map RV.row = ys.map RV.row ++ [[.string ⟨y.r.n.toArray⟩, .int .i64 y.r.g, z0, z1, z2, z3]] := by rw [List.map_append, ← ry']; rfl
    have cpK : CpI H K' ⟨v1, v2, v3, vr'⟩ L (ys ++ [y']) := ⟨ow_z cp4.s c' nz1 kP4', ow_z cp4.p c' nz2 kP4', ow_z cp4.g c' nz2 kP4', by rw [e7]; exact ow', fun z hz => by
      rcases List.mem_append.1 hz with hz | hz
      · exact (cp4.y z hz).z c' nz1 nz2 kP4'
      · rw [List.mem_singleton] at hz; subst hz; exact yo4.z c' nz1 nz2 kP4'⟩
    simp (disch := first | assumption | omega | (simp only [LN] <;> omega) | (simp (disch := first | assumption | omega | (simp only [LN] <;> omega)) only [row_alloc, row_set]; assumption)) only [W_block, P3, ↓reduceIte, reduceAdd, reduceEqDiff, reduceCtorEq, initFr, reduceLT, clsA, reduceLeDiff, reduceMul, reduceSub, reduceIte, goK, or', hw]
    exact hn' _ _ _ ⟨i + 1, vr', ys ++ [y'], _, _, _, rfl, cpK.z (Chg.set K' loK _) goK (by omega) (by omega) (by omega) (kP4'.set (by omega) loK _), by rw [List.map_append, hys, htk, hy']; rfl, AHeap.get_set_same goK _,
      by rw [AHeap.get_set_other K' (by omega) loK]; exact glK, by rw [AHeap.get_set_other K' (by omega) loK]; exact gwK, by omega, rfl⟩ (by omega)
  · have e1 : ¬ ((i : Nat) : Int) < ((L.r.length : Nat) : Int) := by omega
    have hie : i = L.r.length := by omega
    subst hie
    rw [List.take_length] at hys
    have hwl := AHeap.get_lt gw
    have p1 := cp.s.one
    have p2 := cp.p.one
    have p3 := cp.g.one
    have p4 := cp.r.one
    simp only at p1 p2 p3 p4
    simp (disch := first | assumption | omega | (simp only [LN] <;> omega) | (simp (disch := first | assumption | omega | (simp only [LN] <;> omega)) only [row_alloc, row_set]; assumption)) only [W_block, P3, ↓reduceIte, reduceAdd, reduceEqDiff, reduceCtorEq, initFr, reduceLT, clsA, reduceLeDiff, reduceMul, reduceSub, reduceIte, gl, ir, lenr, e1]
    refine hx' _ _ _ ?_
    simp (disch := first | assumption | omega | (simp only [LN] <;> omega) | (simp (disch := first | assumption | omega | (simp only [LN] <;> omega)) only [row_alloc, row_set]; assumption)) only [W_block, P3, ↓reduceIte, reduceAdd, reduceEqDiff, reduceCtorEq, initFr, reduceLT, clsA, reduceLeDiff, reduceMul, reduceSub, reduceIte, go, gw, p1, p2, p3, p4]
    refine hq2 _ _ ⟨.agg (V4.l ⟨v1, v2, v3, vr⟩).toArray, ?_, kM.set (by omega) hwl _, ⟨v1, v2, v3, vr⟩, ys, rfl, cp.z (Chg.set M hwl _) gw (by omega) (by omega) (by omega) (kM.set (by omega) hwl _), hys⟩
    show resO [.cn 4 2] _ _ = _
    rw [resC]
    show celln 4 (ptr (H.n + 1) 0) _ = _
    rw [cellnp, rangeA_e, AHeap.get_set_same gw]; rfl
end Go.AM.Fd

set_option linter.unusedSimpArgs false
set_option linter.unusedVariables false
namespace Go.AM.Fd
open Nat (reduceAdd reduceEqDiff reduceLT reduceLeDiff reduceMul reduceSub)
open Go.Proofs Go.AM.F
def fstE : List Int → Int
  | [] => 0
  | x :: l => if x = 0 then fstE l else x
theorem fstE_at {l : List Int} {i : Nat} (h : i < l.length) : fstE (l.drop i) = if l.getD i 0 = 0 then fstE (l.drop (i + 1)) else l.getD i 0 := by
  rw [List.drop_eq_getElem_cons h]
  simp only [fstE, List.getD, List.getElem?_eq_getElem h, Option.getD_some]
theorem t70 {H : AHeap} {v : Value} {l : List Int} (h : IL H v l) (hl : l.length ≤ 1000000000) : ∃ w H', ARun Go.Proofs.Tryd.prog 4 70 [v] H w H' ∧ w = .int .i64 (fstE l) ∧ H' = H := by
  refine walk2 f70_ok f70_n ?_
  intro Q hq1 hq2
  have ia := Sl.is h
  have la := h.len
  simp (disch := first | assumption | omega | (simp only [LN] <;> omega) | (simp (disch := first | assumption | omega | (simp only [LN] <;> omega)) only [row_alloc, row_set]; assumption)) only [ f70, P3, ↓reduceIte, reduceAdd, reduceEqDiff, reduceCtorEq, initFr, reduceLT, clsA, reduceLeDiff, reduceMul, reduceSub, reduceIte]
  rw [W_block]
  refine W_loop2 (fun k fr K => ∃ i x3 x4, fr = [v, .int .i64 0, .int .i64 ((i : Nat) : Int), x3, x4] ∧ K = H ∧ i ≤ l.length ∧ fstE l = fstE (l.drop i) ∧ k = l.length - i) l.length
    ⟨0, _, _, rfl, rfl, by omega, by simp, rfl⟩ ?_
  rintro Q' k fr _ ⟨i, x3, x4, rfl, rfl, hi, hp, rfl⟩ hn hx hret
  by_cases hlt : i < l.length
  · obtain ⟨na, ra⟩ := h.at_ hlt
    have h0 : (0 : Int) ≤ (i : Int) := by omega
    have h1 : (i : Int) < ((lenS v : Nat) : Int) := by omega
    have h3 : (i : Int) < ((l.length : Nat) : Int) := by omega
    have hw : IntKind.i64.wrap ((i : Int) + 1) = ((i + 1 : Nat) : Int) := by rw [wrap_i64 (by omega) (by omega)]; simp
    rw [fstE_at hlt] at hp
    generalize l.getD i 0 = n at *
    by_cases hz : n = 0
    · have e0 : (n != 0) = false := bnei_no hz
      rw [if_pos hz] at hp
      simp (disch := first | assumption | omega | (simp only [LN] <;> omega) | (simp (disch := first | assumption | omega | (simp only [LN] <;> omega)) only [row_alloc, row_set]; assumption)) only [W_block, P3, ↓reduceIte, reduceAdd, reduceEqDiff, reduceCtorEq, initFr, reduceLT, clsA, reduceLeDiff, reduceMul, reduceSub, reduceIte, la, ra, na, a_load1v, e0, hw]
      exact hn _ _ _ ⟨i + 1, _, _, rfl, rfl, by omega, hp, rfl⟩ (by omega)
    · have e0 : (n != 0) = true := bnei_yes hz
      rw [if_neg hz] at hp
      simp (disch := first | assumption | omega | (simp only [LN] <;> omega) | (simp (disch := first | assumption | omega | (simp only [LN] <;> omega)) only [row_alloc, row_set]; assumption)) only [W_block, P3, ↓reduceIte, reduceAdd, reduceEqDiff, reduceCtorEq, initFr, reduceLT, clsA, reduceLeDiff, reduceMul, reduceSub, reduceIte, la, ra, na, a_load1v, e0]
      exact hret _ _ (hq2 _ _ ⟨_, rfl, by rw [hp]; rfl, rfl⟩)
  · have h3 : ¬ (i : Int) < ((l.length : Nat) : Int) := by omega
    simp (disch := first | assumption | omega | (simp only [LN] <;> omega) | (simp (disch := first | assumption | omega | (simp only [LN] <;> omega)) only [row_alloc, row_set]; assumption)) only [W_block, P3, ↓reduceIte, reduceAdd, reduceEqDiff, reduceCtorEq, initFr, reduceLT, clsA, reduceLeDiff, reduceMul, reduceSub, reduceIte, la]
    refine hx 0 _ _ ?_
    simp (disch := first | assumption | omega | (simp only [LN] <;> omega) | (simp (disch := first | assumption | omega | (simp only [LN] <;> omega)) only [row_alloc, row_set]; assumption)) only [W_block, P3, ↓reduceIte, reduceAdd, reduceEqDiff, reduceCtorEq, initFr, reduceLT, clsA, reduceLeDiff, reduceMul, reduceSub, reduceIte]
    rw [List.drop_of_length_le (by omega)] at hp
    exact hq2 _ _ ⟨_, rfl, by rw [hp]; rfl, rfl⟩
def dT (u : V4) (xs : List RV) (L : Ly) (ex : List Th) : List Th :=
  thA 9 1 u.s L.s.length (L.s.map tRow).flatten :: thA 58 2 u.p L.p.length (L.p.map pRow).flatten :: thA 59 2 u.g L.g.length (L.g.map pRow).flatten :: thA 43 6 u.r xs.length (xs.map RV.row).flatten :: thI xs :: ex
structure DR (B K : AHeap) (u : V4) (xs : List RV) (L : Ly) (ex : List Th) : Prop where
  sep : SepH B K (dT u xs L ex)
  e : xs.map (·.r) = L.r
theorem ly_of {K : AHeap} {u : V4} {xs : List RV} {L : Ly} (a1 : AP K 9 1 u.s L.s.length (L.s.map tRow).flatten) (a2 : AP K 58 2 u.p L.p.length (L.p.map pRow).flatten) (a3 : AP K 59 2 u.g L.g.length (L.g.map pRow).flatten) (a4 : AP K 43 6 u.r xs.length (xs.map RV.row).flatten) (a5 : (thI xs).P K) (e : xs.map (·.r) = L.r) : LyR K u xs L :=
  ⟨a1.sl (by intro r hr; obtain ⟨x, _, rfl⟩ := List.mem_map.1 hr; rfl) (by simp), a2.sl (by intro r hr; obtain ⟨x, _, rfl⟩ := List.mem_map.1 hr; rfl) (by simp), a3.sl (by intro r hr; obtain ⟨x, _, rfl⟩ := List.mem_map.1 hr; rfl) (by simp), a4.sl (by intro r hr; obtain ⟨x, _, rfl⟩ := List.mem_map.1 hr; rfl) (by simp), e, a5⟩
theorem DR.ly {B K : AHeap} {u : V4} {xs : List RV} {L : Ly} {ex : List Th} (h : DR B K u xs L ex) : LyR K u xs L :=
  ly_of (h.sep.at_ 0 rfl) (h.sep.at_ 1 rfl) (h.sep.at_ 2 rfl) (h.sep.at_ 3 rfl) (h.sep.at_ 4 rfl) h.e
theorem DR.keeps {B K K' : AHeap} {u : V4} {xs : List RV} {L : Ly} {ex : List Th} (h : DR B K u xs L ex) (k : Keeps K K') : DR B K' u xs L ex := ⟨h.sep.keeps k, h.e⟩
def lO (c : List Value) : AO := .cells true false 4 c 28
end Go.AM.Fd

set_option linter.unusedSimpArgs false
set_option linter.unusedVariables false
namespace Go.AM.Fd
open Nat (reduceAdd reduceEqDiff reduceLT reduceLeDiff reduceMul reduceSub)
open Go.Proofs Go.AM.F
theorem t20 (H : AHeap) (s : List UInt8) (hl : s.length ≤ 1000000) : ∃ w K, ARun Go.Proofs.Tryd.prog 4 20 [.string ⟨s.toArray⟩] H w K ∧ Keeps H K ∧ AP K 9 1 w (splitB 10 s).length (txs (splitB 10 s)) ∧ Fresh H.n w := by
  refine walk2 f20_ok f20_n ?_
  intro Q hq1 hq2
  simp (disch := first | assumption | omega | (simp only [LN] <;> omega) | (simp (disch := first | assumption | omega | (simp only [LN] <;> omega)) only [row_alloc, row_set]; assumption)) only [ f20, P3, ↓reduceIte, reduceAdd, reduceEqDiff, reduceCtorEq, initFr, reduceLT, clsA, reduceLeDiff, reduceMul, reduceSub, reduceIte]
  rw [W_block]
  refine W_loop2 (fun k fr M => ∃ i f ts v x5 x6, fr = [.string ⟨s.toArray⟩, .slice none 0 0, v, .int .i64 ((f : Nat) : Int), .int .i64 ((i : Nat) : Int), x5, x6] ∧
      Keeps H M ∧ AP M 9 1 v ts.length (txs ts) ∧ Fresh H.n v ∧ f ≤ i ∧ i ≤ s.length ∧ k = s.length - i ∧ ts.length ≤ i ∧ (∀ j, f ≤ j → j < i → s.getD j 0 ≠ 10) ∧ splitB 10 s = ts ++ splitB 10 (s.drop f)) s.length
    ⟨0, 0, [], _, _, _, rfl, Keeps.refl H, .inl ⟨rfl, rfl, rfl⟩, (fun b hb => by cases hb), Nat.le_refl _, by omega, rfl, by simp, fun j h1 h2 => absurd h2 (by omega), by simp⟩ ?_
  rintro Q2 k fr M ⟨i, f, ts, v, x5, x6, rfl, km, ha, hfr, hfi, hi, rfl, htl, hns, hws⟩ hn2 hx2 hret2
  have hw : IntKind.i64.wrap ((i : Int) + 1) = ((i + 1 : Nat) : Int) := by rw [wrap_i64 (by omega) (by omega)]; simp
  have hkn := km.n
  by_cases hlt : i < s.length
  · have h3 : (i : Int) < ((s.length : Nat) : Int) := by omega
    have e0 : ((((s.getD i 0).toNat : Nat) : Int) == 10) = (s.getD i 0 == 10) := u8_eqi (s.getD i 0) 10 (by omega)
    by_cases he : s.getD i 0 = 10
    · have e1 : (s.getD i 0 == 10) = true := by simpa using he
      rw [e1] at e0
      have hix := ixB_drop hfi hlt he hns
      have hsp : splitB 10 (s.drop f) = (s.take i).drop f :: splitB 10 (s.drop (i + 1)) := by
        rw [splitB_ix, hix]
        simp only
        rw [List.drop_drop, show f + (i - f + 1) = i + 1 by omega, List.drop_take]
      have hfl : fillA [.string ByteArray.empty] [(0, 1, .string ⟨((s.take i).drop f).toArray⟩)] = some [.string ⟨((s.take i).drop f).toArray⟩] := rfl
      have k4 := (Keeps.refl M).alloc (.cells true false 1 [.string ⟨((s.take i).drop f).toArray⟩] 9)
      simp (disch := first | assumption | omega | (simp only [LN] <;> omega) | (simp (disch := first | assumption | omega | (simp only [LN] <;> omega)) only [row_alloc, row_set]; assumption)) only [W_block, P3, ↓reduceIte, reduceAdd, reduceEqDiff, reduceCtorEq, initFr, reduceLT, clsA, reduceLeDiff, reduceMul, reduceSub, reduceIte, a_idxS, e0, a_slsM, hfl]
      refine appG (ha.keeps k4) ⟨_, _, rfl⟩ (elems_new rfl rfl) rfl (by omega) ?_
      intro v' M2 a2 c2 b2
      simp (disch := first | assumption | omega | (simp only [LN] <;> omega) | (simp (disch := first | assumption | omega | (simp only [LN] <;> omega)) only [row_alloc, row_set]; assumption)) only [W_block, P3, ↓reduceIte, reduceAdd, reduceEqDiff, reduceCtorEq, initFr, reduceLT, clsA, reduceLeDiff, reduceMul, reduceSub, reduceIte, hw]
      have hk2 : Keeps H M2 := (km.trans k4).chg_trans c2 (hfr.L)
      refine hn2 _ _ _ ⟨i + 1, i + 1, ts ++ [(s.take i).drop f], v', _, _, rfl, hk2, ?_, hfr.app (by simp [AHeap.alloc]; omega) b2, Nat.le_refl _, by omega, rfl, by simp; omega, fun j h1 h2 => absurd h2 (by omega), ?_⟩ (by omega)
      · simpa [txs_app] using a2
      · rw [hws, hsp]; simp
    · have e1 : (s.getD i 0 == 10) = false := by simpa using he
      rw [e1] at e0
      simp (disch := first | assumption | omega | (simp only [LN] <;> omega) | (simp (disch := first | assumption | omega | (simp only [LN] <;> omega)) only [row_alloc, row_set]; assumption)) only [W_block, P3, ↓reduceIte, reduceAdd, reduceEqDiff, reduceCtorEq, initFr, reduceLT, clsA, reduceLeDiff, reduceMul, reduceSub, reduceIte, a_idxS, e0, hw]
      refine hn2 _ _ _ ⟨i + 1, f, ts, v, _, _, rfl, km, ha, hfr, by omega, by omega, rfl, by omega, fun j h1 h2 => ?_, hws⟩ (by omega)
      rcases Nat.lt_or_ge j i with h | h
      · exact hns j h1 h
      · rw [show j = i by omega]; exact he
  · have h3 : ¬ (i : Int) < ((s.length : Nat) : Int) := by omega
    have hsp : splitB 10 (s.drop f) = [s.drop f] := by
      rw [splitB_ix, ixB_drop_no (fun j h1 h2 => hns j h1 (by omega))]
    have hfs : f ≤ s.length := by omega
    have hfl : fillA [.string ByteArray.empty] [(0, 1, .string ⟨(s.drop f).toArray⟩)] = some [.string ⟨(s.drop f).toArray⟩] := rfl
    have k4 := (Keeps.refl M).alloc (.cells true false 1 [.string ⟨(s.drop f).toArray⟩] 9)
    simp (disch := first | assumption | omega | (simp only [LN] <;> omega) | (simp (disch := first | assumption | omega | (simp only [LN] <;> omega)) only [row_alloc, row_set]; assumption)) only [W_block, P3, ↓reduceIte, reduceAdd, reduceEqDiff, reduceCtorEq, initFr, reduceLT, clsA, reduceLeDiff, reduceMul, reduceSub, reduceIte]
    refine hx2 0 _ _ ?_
    simp (disch := first | assumption | omega | (simp only [LN] <;> omega) | (simp (disch := first | assumption | omega | (simp only [LN] <;> omega)) only [row_alloc, row_set]; assumption)) only [W_block, P3, ↓reduceIte, reduceAdd, reduceEqDiff, reduceCtorEq, initFr, reduceLT, clsA, reduceLeDiff, reduceMul, reduceSub, reduceIte, a_slsT, hfl]
    refine appG (ha.keeps k4) ⟨_, _, rfl⟩ (elems_new rfl rfl) rfl (by omega) ?_
    intro v' M2 a2 c2 b2
    simp (disch := first | assumption | omega | (simp only [LN] <;> omega) | (simp (disch := first | assumption | omega | (simp only [LN] <;> omega)) only [row_alloc, row_set]; assumption)) only [W_block, P3, ↓reduceIte, reduceAdd, reduceEqDiff, reduceCtorEq, initFr, reduceLT, clsA, reduceLeDiff, reduceMul, reduceSub, reduceIte]
    have hk2 : Keeps H M2 := (km.trans k4).chg_trans c2 (hfr.L)
    refine hq2 _ _ ⟨_, rfl, hk2, ?_, hfr.app (by simp [AHeap.alloc]; omega) b2⟩
    rw [hws, hsp]
    simpa [txs_app, txs, tupV] using a2
end Go.AM.Fd

set_option linter.unusedSimpArgs false
set_option linter.unusedVariables false
namespace Go.AM.Fd
open Nat (reduceAdd reduceEqDiff reduceLT reduceLeDiff reduceMul reduceSub)
open Go.Proofs Go.AM.F
theorem DR.lyS {B K K' : AHeap} {u : V4} {xs : List RV} {L : Ly} {ex : List Th} {S : List Nat} (h : DR B K u xs L ex) (c : Chg S K K') (hS : ∀ y ∈ S, y < B.n) : LyR K' u xs L := by
  have key : ∀ (i : Nat) (t : Th), (dT u xs L ex)[i]? = some t → t.P K' := fun i t hi => by
    have hp := h.sep.at_ i hi
    refine t.st K K' hp c.n (fun y hy => c.get y (t.lt K hp y hy) (fun hm => ?_))
    have h1 := h.sep.gei i hi hy
    have h2 := hS y hm
    omega
  exact ly_of (key 0 _ rfl) (key 1 _ rfl) (key 2 _ rfl) (key 3 _ rfl) (key 4 _ rfl) h.e
end Go.AM.Fd

set_option linter.unusedSimpArgs false
set_option linter.unusedVariables false
namespace Go.AM.Fd
open Nat (reduceAdd reduceEqDiff reduceLT reduceLeDiff reduceMul reduceSub)
open Go.Proofs Go.AM.F
theorem q_str (s : ByteArray) : binA .eql (.string s) (.string s) = some (.bool true) := by rw [b_seql]; simp
theorem q_ib (a : Int) (b : Bool) (X : AHeap) : asem (.eqs [1, 0] true (.agg #[.int .i64 a, .bool b]) (.agg #[.int .i64 a, .bool b])) X = some (.bool false, X) := by simp [asem, eqCs, eqC]
theorem q_si (a : ByteArray) (b : Int) (X : AHeap) : asem (.eqs [2, 1] true (.agg #[.string a, .int .i64 b]) (.agg #[.string a, .int .i64 b])) X = some (.bool false, X) := by simp [asem, eqCs, eqC]
theorem t50 {H : AHeap} {v u : Value} {l : List Int} (ha : IL H v l) (hb : IL H u l) (hl : l.length ≤ 9223372036854775807) : ∃ w H', ARun Go.Proofs.Tryd.prog 4 50 [v, u] H w H' ∧ w = .bool true ∧ H' = H := by
  refine walk2 f50_ok f50_n ?_
  intro Q hq1 hq2
  have ia := Sl.is ha
  have ib := Sl.is hb
  have la := ha.len
  have lb := hb.len
  have e1 : (((l.length : Nat) : Int) != ((l.length : Nat) : Int)) = false := bnei_no rfl
  simp (disch := first | assumption | omega | (simp only [LN] <;> omega) | (simp (disch := first | assumption | omega | (simp only [LN] <;> omega)) only [row_alloc, row_set]; assumption)) only [ f50, P3, ↓reduceIte, reduceAdd, reduceEqDiff, reduceCtorEq, initFr, reduceLT, clsA, reduceLeDiff, reduceMul, reduceSub, reduceIte, la, lb, e1]
  rw [W_block]
  refine W_loop2 (fun k fr K => ∃ i x2 x5 x6, fr = [v, u, x2, .int .i64 ((i : Nat) : Int), .bool false, x5, x6] ∧ K = H ∧ i ≤ l.length ∧ k = l.length - i) l.length
    ⟨0, _, _, _, rfl, rfl, by omega, rfl⟩ ?_
  rintro Q' k fr K ⟨i, x2, x5, x6, rfl, rfl, hi, rfl⟩ hn hx hret
  by_cases hlt : i < l.length
  · obtain ⟨na, ra⟩ := ha.at_ hlt
    obtain ⟨nb, rb⟩ := hb.at_ hlt
    have h0 : (0 : Int) ≤ (i : Int) := by omega
    have h1 : (i : Int) < ((lenS v : Nat) : Int) := by omega
    have h2 : (i : Int) < ((lenS u : Nat) : Int) := by omega
    have h3 : (i : Int) < ((l.length : Nat) : Int) := by omega
    have hw : IntKind.i64.wrap ((i : Int) + 1) = ((i + 1 : Nat) : Int) := by rw [wrap_i64 (by omega) (by omega)]; simp
    generalize l.getD i 0 = n at *
    have e2 : ∀ n : Int, (n != n) = false := fun n => bnei_no rfl
    simp (disch := first | assumption | omega | (simp only [LN] <;> omega) | (simp (disch := first | assumption | omega | (simp only [LN] <;> omega)) only [row_alloc, row_set]; assumption)) only [W_block, P3, ↓reduceIte, reduceAdd, reduceEqDiff, reduceCtorEq, initFr, reduceLT, clsA, reduceLeDiff, reduceMul, reduceSub, reduceIte, la, lb, ra, rb, na, nb, a_load1v, a_loadnvf, e2, q_ib, hw]
    exact hn _ _ _ ⟨i + 1, _, _, _, rfl, rfl, by omega, rfl⟩ (by omega)
  · have h3 : ¬ (i : Int) < ((l.length : Nat) : Int) := by omega
    simp (disch := first | assumption | omega | (simp only [LN] <;> omega) | (simp (disch := first | assumption | omega | (simp only [LN] <;> omega)) only [row_alloc, row_set]; assumption)) only [W_block, P3, ↓reduceIte, reduceAdd, reduceEqDiff, reduceCtorEq, initFr, reduceLT, clsA, reduceLeDiff, reduceMul, reduceSub, reduceIte, la, lb]
    refine hx 0 _ _ ?_
    simp (disch := first | assumption | omega | (simp only [LN] <;> omega) | (simp (disch := first | assumption | omega | (simp only [LN] <;> omega)) only [row_alloc, row_set]; assumption)) only [W_block, P3, ↓reduceIte, reduceAdd, reduceEqDiff, reduceCtorEq, initFr, reduceLT, clsA, reduceLeDiff, reduceMul, reduceSub, reduceIte]
    exact hq2 _ _ ⟨_, rfl, rfl, rfl⟩
theorem t51 {H : AHeap} {v u : Value} {l : List (Int × Bool)} (ha : NL H v l) (hb : NL H u l) (hl : l.length ≤ 9223372036854775807) : ∃ w H', ARun Go.Proofs.Tryd.prog 4 51 [v, u] H w H' ∧ w = .bool true ∧ H' = H := by
  refine walk2 f51_ok f51_n ?_
  intro Q hq1 hq2
  have ia := Sl.is ha
  have ib := Sl.is hb
  have la := ha.len
  have lb := hb.len
  have e1 : (((l.length : Nat) : Int) != ((l.length : Nat) : Int)) = false := bnei_no rfl
  simp (disch := first | assumption | omega | (simp only [LN] <;> omega) | (simp (disch := first | assumption | omega | (simp only [LN] <;> omega)) only [row_alloc, row_set]; assumption)) only [ f51, P3, ↓reduceIte, reduceAdd, reduceEqDiff, reduceCtorEq, initFr, reduceLT, clsA, reduceLeDiff, reduceMul, reduceSub, reduceIte, la, lb, e1]
  rw [W_block]
  refine W_loop2 (fun k fr K => ∃ i x2 x5 x6, fr = [v, u, x2, .int .i64 ((i : Nat) : Int), .bool false, x5, x6] ∧ K = H ∧ i ≤ l.length ∧ k = l.length - i) l.length
    ⟨0, _, _, _, rfl, rfl, by omega, rfl⟩ ?_
  rintro Q' k fr K ⟨i, x2, x5, x6, rfl, rfl, hi, rfl⟩ hn hx hret
  by_cases hlt : i < l.length
  · obtain ⟨na, ra⟩ := ha.at_ hlt
    obtain ⟨nb, rb⟩ := hb.at_ hlt
    have h0 : (0 : Int) ≤ (i : Int) := by omega
    have h1 : (i : Int) < ((lenS v : Nat) : Int) := by omega
    have h2 : (i : Int) < ((lenS u : Nat) : Int) := by omega
    have h3 : (i : Int) < ((l.length : Nat) : Int) := by omega
    have hw : IntKind.i64.wrap ((i : Int) + 1) = ((i + 1 : Nat) : Int) := by rw [wrap_i64 (by omega) (by omega)]; simp
    generalize l.getD i (0, false) = n at *
    have e2 : ∀ n : Int, (n != n) = false := fun n => bnei_no rfl
    simp (disch := first | assumption | omega | (simp only [LN] <;> omega) | (simp (disch := first | assumption | omega | (simp only [LN] <;> omega)) only [row_alloc, row_set]; assumption)) only [W_block, P3, ↓reduceIte, reduceAdd, reduceEqDiff, reduceCtorEq, initFr, reduceLT, clsA, reduceLeDiff, reduceMul, reduceSub, reduceIte, la, lb, ra, rb, na, nb, a_load1v, a_loadnvf, e2, q_ib, hw]
    exact hn _ _ _ ⟨i + 1, _, _, _, rfl, rfl, by omega, rfl⟩ (by omega)
  · have h3 : ¬ (i : Int) < ((l.length : Nat) : Int) := by omega
    simp (disch := first | assumption | omega | (simp only [LN] <;> omega) | (simp (disch := first | assumption | omega | (simp only [LN] <;> omega)) only [row_alloc, row_set]; assumption)) only [W_block, P3, ↓reduceIte, reduceAdd, reduceEqDiff, reduceCtorEq, initFr, reduceLT, clsA, reduceLeDiff, reduceMul, reduceSub, reduceIte, la, lb]
    refine hx 0 _ _ ?_
    simp (disch := first | assumption | omega | (simp only [LN] <;> omega) | (simp (disch := first | assumption | omega | (simp only [LN] <;> omega)) only [row_alloc, row_set]; assumption)) only [W_block, P3, ↓reduceIte, reduceAdd, reduceEqDiff, reduceCtorEq, initFr, reduceLT, clsA, reduceLeDiff, reduceMul, reduceSub, reduceIte]
    exact hq2 _ _ ⟨_, rfl, rfl, rfl⟩
set_option maxHeartbeats 1000000 in
theorem t25 {H : AHeap} {x y : RV} (hx : x.ok H) (hy : y.ok H) (e : x.r = y.r) (h1 : x.r.path.length ≤ 9223372036854775807) (h2 : x.r.pts.length ≤ 9223372036854775807) (h3 : x.r.ov.length ≤ 9223372036854775807) (h4 : x.r.fl.length ≤ 9223372036854775807) :
    ∃ w H', ARun Go.Proofs.Tryd.prog 4 25 [.agg x.row.toArray, .agg y.row.toArray] H w H' ∧ w = .bool true ∧ Keeps H H' := by
  refine walk2 f25_ok f25_n ?_
  intro Q hq1 hq2
  obtain ⟨r, xp, xq, xo, xf⟩ := x
  obtain ⟨r', yp, yq, yo, yf⟩ := y
  simp only at e
  subst e
  have k : ∀ o o', Keeps H ((H.alloc o).alloc o') := fun o o' => ((Keeps.refl H).alloc o).alloc o'
  have hx2 := hx.keeps (k (.cells true false 6 [.string ⟨r.n.toArray⟩, .int .i64 r.g, xp, xq, xo, xf] 43) (.cells true false 6 [.string ⟨r.n.toArray⟩, .int .i64 r.g, yp, yq, yo, yf] 43))
  have hy2 := hy.keeps (k (.cells true false 6 [.string ⟨r.n.toArray⟩, .int .i64 r.g, xp, xq, xo, xf] 43) (.cells true false 6 [.string ⟨r.n.toArray⟩, .int .i64 r.g, yp, yq, yo, yf] 43))
  have a1 : [.string ⟨r.n.toArray⟩, .int .i64 r.g, xp, xq, xo, xf].all Value.oneCell' = true := by
    simp only [List.all_cons, List.all_nil, Sl.one hx.p, Sl.one hx.q, Sl.one hx.o, Sl.one hx.f]; rfl
  have a2 : [.string ⟨r.n.toArray⟩, .int .i64 r.g, yp, yq, yo, yf].all Value.oneCell' = true := by
    simp only [List.all_cons, List.all_nil, Sl.one hy.p, Sl.one hy.q, Sl.one hy.o, Sl.one hy.f]; rfl
  have g1 := k (.cells true false 6 [.string ⟨r.n.toArray⟩, .int .i64 r.g, xp, xq, xo, xf] 43) (.cells true false 6 [.string ⟨r.n.toArray⟩, .int .i64 r.g, yp, yq, yo, yf] 43)
  have eq1 : ∀ n : Int, (n == n) = true := fun n => beqi_yes rfl
  simp only [RV.row] at *
  simp (disch := first | assumption | omega | (simp only [LN] <;> omega) | (simp (disch := first | assumption | omega | (simp only [LN] <;> omega)) only [row_alloc, row_set]; assumption)) only [f25, W_block, P3, ↓reduceIte, reduceAdd, reduceEqDiff, reduceCtorEq, initFr, reduceLT, clsA, reduceLeDiff, reduceMul, reduceSub, reduceIte, a1, a2, q_str, eq1]
  refine callK (t50 hx2.p hy2.p h1) ?_
  rintro _ X ⟨rfl, hX⟩
  rw [hX]
  simp (disch := first | assumption | omega | (simp only [LN] <;> omega) | (simp (disch := first | assumption | omega | (simp only [LN] <;> omega)) only [row_alloc, row_set]; assumption)) only [W_block, P3, ↓reduceIte, reduceAdd, reduceEqDiff, reduceCtorEq, initFr, reduceLT, clsA, reduceLeDiff, reduceMul, reduceSub, reduceIte]
  refine callK (t51 hx2.q hy2.q h2) ?_
  rintro _ X ⟨rfl, hX⟩
  rw [hX]
  simp (disch := first | assumption | omega | (simp only [LN] <;> omega) | (simp (disch := first | assumption | omega | (simp only [LN] <;> omega)) only [row_alloc, row_set]; assumption)) only [W_block, P3, ↓reduceIte, reduceAdd, reduceEqDiff, reduceCtorEq, initFr, reduceLT, clsA, reduceLeDiff, reduceMul, reduceSub, reduceIte]
  refine callK (t50 hx2.o hy2.o h3) ?_
  rintro _ X ⟨rfl, hX⟩
  rw [hX]
  simp (disch := first | assumption | omega | (simp only [LN] <;> omega) | (simp (disch := first | assumption | omega | (simp only [LN] <;> omega)) only [row_alloc, row_set]; assumption)) only [W_block, P3, ↓reduceIte, reduceAdd, reduceEqDiff, reduceCtorEq, initFr, reduceLT, clsA, reduceLeDiff, reduceMul, reduceSub, reduceIte]
  refine callK (t51 hx2.f hy2.f h4) ?_
  rintro _ X ⟨rfl, hX⟩
  rw [hX]
  simp (disch := first | assumption | omega | (simp only [LN] <;> omega) | (simp (disch := first | assumption | omega | (simp only [LN] <;> omega)) only [row_alloc, row_set]; assumption)) only [W_block, P3, ↓reduceIte, reduceAdd, reduceEqDiff, reduceCtorEq, initFr, reduceLT, clsA, reduceLeDiff, reduceMul, reduceSub, reduceIte]
  exact hq2 _ _ ⟨_, rfl, rfl, g1⟩
end Go.AM.Fd

set_option linter.unusedSimpArgs false
set_option linter.unusedVariables false
namespace Go.AM.Fd
open Nat (reduceAdd reduceEqDiff reduceLT reduceLeDiff reduceMul reduceSub)
open Go.Proofs Go.AM.F
set_option maxHeartbeats 4000000 in
theorem t11 {H : AHeap} {u u' : V4} {xs xs' : List RV} {L : Ly} (ha : LyR H u xs L) (hb : LyR H u' xs' L) (hf : LyIn 9223372036854775807 L) :
    ∃ w H', ARun Go.Proofs.Tryd.prog 4 11 [.agg u.l.toArray, .agg u'.l.toArray] H w H' ∧ w = .bool true ∧ Keeps H H' := by
  refine walk2 f11_ok f11_n ?_
  intro Q hq1 hq2
  have o1 := ly_ones ha
  have o2 := ly_ones hb
  have k0 : Keeps H ((H.alloc (lO u.l)).alloc (lO u'.l)) := ((Keeps.refl H).alloc _).alloc _
  have g1 : ((H.alloc (lO u.l)).alloc (lO u'.l)).get H.n = some (.cells true false 4 u.l 28) := (AHeap.get_alloc_old _ _ (by simp [AHeap.alloc])).trans (AHeap.get_alloc_new _ _)
  have g2 : ((H.alloc (lO u.l)).alloc (lO u'.l)).get (H.n + 1) = some (.cells true false 4 u'.l 28) := AHeap.get_alloc_new _ _
  have a1 := ha.keeps k0
  have b1 := hb.keeps k0
  simp only [lO] at k0 g1 g2 a1 b1
  have ll : ∀ u : V4, u.l.length = 4 := fun _ => rfl
  have s1 := Sl.is ha.p
  have s2 := Sl.is hb.p
  have s3 := Sl.is ha.g
  have s4 := Sl.is hb.g
  have s5 := Sl.is ha.r
  have s6 := Sl.is hb.r
  have l1 := ha.p.len
  have l2 := hb.p.len
  have l3 := ha.g.len
  have l4 := hb.g.len
  have l5 : lenS u.r = L.r.length := by rw [ha.r.len, ha.rlen]
  have l6 : lenS u'.r = L.r.length := by rw [hb.r.len, hb.rlen]
  have ne1 : ∀ n : Int, (n != n) = false := fun n => bnei_no rfl
  obtain ⟨us, up, ug, ur⟩ := u
  obtain ⟨vs, vp, vg, vr⟩ := u'
  simp only [V4.l] at *
  simp (disch := first | assumption | omega | (simp only [LN] <;> omega) | (simp (disch := first | assumption | omega | (simp only [LN] <;> omega)) only [row_alloc, row_set]; assumption)) only [f11, W_block, P3, ↓reduceIte, reduceAdd, reduceEqDiff, reduceCtorEq, initFr, reduceLT, clsA, reduceLeDiff, reduceMul, reduceSub, reduceIte, o1, o2]
  generalize (H.alloc (.cells true false 4 [us, up, ug, ur] 28)).alloc (.cells true false 4 [vs, vp, vg, vr] 28) = K0 at *
  have n1 := AHeap.get_lt g1
  have n2 := AHeap.get_lt g2
  refine callK (t24 a1.s b1.s hf.s.1) ?_
  rintro _ X ⟨rfl, hX⟩
  rw [hX, decide_eq_true rfl]
  simp (disch := first | assumption | omega | (simp only [LN] <;> omega) | (simp (disch := first | assumption | omega | (simp only [LN] <;> omega)) only [row_alloc, row_set]; assumption)) only [ P3, ↓reduceIte, reduceAdd, reduceEqDiff, reduceCtorEq, initFr, reduceLT, clsA, reduceLeDiff, reduceMul, reduceSub, reduceIte, g1, g2, l1, l2, l3, l4, l5, l6, ne1]
  rw [W_block]
  refine W_loop2 (fun k fr K => ∃ i x6 x7 x9 x10 x11 x12 x13 x14, fr = [.agg #[us, up, ug, ur], .agg #[vs, vp, vg, vr], ptr H.n 0, ptr (H.n + 1) 0, .bool false, .int .i64 ((i : Nat) : Int), x6, x7, .bool false, x9, x10, x11, x12, x13, x14] ∧ K0 = K ∧ i ≤ L.p.length ∧ k = L.p.length - i) L.p.length
    ⟨0, _, _, _, _, _, _, _, _, rfl, rfl, by omega, rfl⟩ ?_
  rintro Q5 k fr K ⟨i, x6, x7, x9, x10, x11, x12, x13, x14, rfl, rfl, hi, rfl⟩ hn hx hret
  by_cases hlt : i < L.p.length
  · obtain ⟨na, ra⟩ := a1.p.at_ hlt
    obtain ⟨nb, rb⟩ := b1.p.at_ hlt
    have h0 : (0 : Int) ≤ (i : Int) := by omega
    have h1 : (i : Int) < ((lenS up : Nat) : Int) := by omega
    have h2 : (i : Int) < ((lenS vp : Nat) : Int) := by omega
    have h3 : (i : Int) < ((L.p.length : Nat) : Int) := by omega
    have hfl := hf.p.1
    have hw : IntKind.i64.wrap ((i : Int) + 1) = ((i + 1 : Nat) : Int) := by rw [wrap_i64 (by omega) (by omega)]; simp
    simp (disch := first | assumption | omega | (simp only [LN] <;> omega) | (simp (disch := first | assumption | omega | (simp only [LN] <;> omega)) only [row_alloc, row_set]; assumption)) only [W_block, P3, ↓reduceIte, reduceAdd, reduceEqDiff, reduceCtorEq, initFr, reduceLT, clsA, reduceLeDiff, reduceMul, reduceSub, reduceIte, g1, g2, l1, l2, ra, rb, na, nb, a_loadnvf, q_si, hw]
    exact hn _ _ _ ⟨i + 1, _, _, _, _, _, _, _, _, rfl, rfl, by omega, rfl⟩ (by omega)
  have h3 : ¬ (i : Int) < ((L.p.length : Nat) : Int) := by omega
  simp (disch := first | assumption | omega | (simp only [LN] <;> omega) | (simp (disch := first | assumption | omega | (simp only [LN] <;> omega)) only [row_alloc, row_set]; assumption)) only [W_block, P3, ↓reduceIte, reduceAdd, reduceEqDiff, reduceCtorEq, initFr, reduceLT, clsA, reduceLeDiff, reduceMul, reduceSub, reduceIte, g1, g2, l1]
  refine hx 0 _ _ ?_
  clear hn hx hret
  simp (disch := first | assumption | omega | (simp only [LN] <;> omega) | (simp (disch := first | assumption | omega | (simp only [LN] <;> omega)) only [row_alloc, row_set]; assumption)) only [ P3, ↓reduceIte, reduceAdd, reduceEqDiff, reduceCtorEq, initFr, reduceLT, clsA, reduceLeDiff, reduceMul, reduceSub, reduceIte]
  rw [W_block]
  refine W_loop2 (fun k fr K => ∃ i x5 x7 x9 x10 x11 x12 x13 x14, fr = [.agg #[us, up, ug, ur], .agg #[vs, vp, vg, vr], ptr H.n 0, ptr (H.n + 1) 0, .bool false, x5, .int .i64 ((i : Nat) : Int), x7, .bool false, x9, x10, x11, x12, x13, x14] ∧ K0 = K ∧ i ≤ L.g.length ∧ k = L.g.length - i) L.g.length
    ⟨0, _, _, _, _, _, _, _, _, rfl, rfl, by omega, rfl⟩ ?_
  rintro Q6 k fr K ⟨i, x5, x7, x9, x10, x11, x12, x13, x14, rfl, rfl, hi, rfl⟩ hn hx hret
  by_cases hlt : i < L.g.length
  · obtain ⟨na, ra⟩ := a1.g.at_ hlt
    obtain ⟨nb, rb⟩ := b1.g.at_ hlt
    have h0 : (0 : Int) ≤ (i : Int) := by omega
    have h1 : (i : Int) < ((lenS ug : Nat) : Int) := by omega
    have h2 : (i : Int) < ((lenS vg : Nat) : Int) := by omega
    have h3 : (i : Int) < ((L.g.length : Nat) : Int) := by omega
    have hfl := hf.g.1
    have hw : IntKind.i64.wrap ((i : Int) + 1) = ((i + 1 : Nat) : Int) := by rw [wrap_i64 (by omega) (by omega)]; simp
    simp (disch := first | assumption | omega | (simp only [LN] <;> omega) | (simp (disch := first | assumption | omega | (simp only [LN] <;> omega)) only [row_alloc, row_set]; assumption)) only [W_block, P3, ↓reduceIte, reduceAdd, reduceEqDiff, reduceCtorEq, initFr, reduceLT, clsA, reduceLeDiff, reduceMul, reduceSub, reduceIte, g1, g2, l3, l4, ra, rb, na, nb, a_loadnvf, q_si, hw]
    exact hn _ _ _ ⟨i + 1, _, _, _, _, _, _, _, _, rfl, rfl, by omega, rfl⟩ (by omega)
  have h3 : ¬ (i : Int) < ((L.g.length : Nat) : Int) := by omega
  simp (disch := first | assumption | omega | (simp only [LN] <;> omega) | (simp (disch := first | assumption | omega | (simp only [LN] <;> omega)) only [row_alloc, row_set]; assumption)) only [W_block, P3, ↓reduceIte, reduceAdd, reduceEqDiff, reduceCtorEq, initFr, reduceLT, clsA, reduceLeDiff, reduceMul, reduceSub, reduceIte, g1, g2, l3]
  refine hx 2 _ _ ?_
  clear hn hx hret
  simp (disch := first | assumption | omega | (simp only [LN] <;> omega) | (simp (disch := first | assumption | omega | (simp only [LN] <;> omega)) only [row_alloc, row_set]; assumption)) only [ P3, ↓reduceIte, reduceAdd, reduceEqDiff, reduceCtorEq, initFr, reduceLT, clsA, reduceLeDiff, reduceMul, reduceSub, reduceIte]
  rw [W_block]
  refine W_loop2 (fun k fr K => ∃ i x5 x6 x9 x10 x11 x12 x13 x14, fr = [.agg #[us, up, ug, ur], .agg #[vs, vp, vg, vr], ptr H.n 0, ptr (H.n + 1) 0, .bool false, x5, x6, .int .i64 ((i : Nat) : Int), .bool false, x9, x10, x11, x12, x13, x14] ∧ Keeps K0 K ∧ i ≤ L.r.length ∧ k = L.r.length - i) L.r.length
    ⟨0, _, _, _, _, _, _, _, _, rfl, Keeps.refl _, by omega, rfl⟩ ?_
  rintro Q7 k fr K ⟨i, x5, x6, x9, x10, x11, x12, x13, x14, rfl, kk, hi, rfl⟩ hn hx hret
  have g1k := kk.at_ g1
  have g2k := kk.at_ g2
  by_cases hlt : i < L.r.length
  · have hlt1 : i < xs.length := by rw [ha.rlen]; exact hlt
    have hlt2 : i < xs'.length := by rw [hb.rlen]; exact hlt
    obtain ⟨na, ra⟩ := RL.at_ (a1.keeps kk).r hlt1
    obtain ⟨nb, rb⟩ := RL.at_ (b1.keeps kk).r hlt2
    obtain ⟨xok, xr⟩ := (a1.keeps kk).rat hlt
    obtain ⟨yok, yr⟩ := (b1.keeps kk).rat hlt
    have h0 : (0 : Int) ≤ (i : Int) := by omega
    have h1 : (i : Int) < ((lenS ur : Nat) : Int) := by omega
    have h2 : (i : Int) < ((lenS vr : Nat) : Int) := by omega
    have h3 : (i : Int) < ((L.r.length : Nat) : Int) := by omega
    have hfl := hf.r.1
    obtain ⟨f1, f2, f3, f4, f5⟩ := hf.r.2 _ (getD_mem (d := rv0.r) hlt)
    rw [← xr] at f1 f2 f3 f4 f5
    have hw : IntKind.i64.wrap ((i : Int) + 1) = ((i + 1 : Nat) : Int) := by rw [wrap_i64 (by omega) (by omega)]; simp
    have exy := xr.trans yr.symm
    generalize xs.getD i rv0 = x at *
    generalize xs'.getD i rv0 = y at *
    simp (disch := first | assumption | omega | (simp only [LN] <;> omega) | (simp (disch := first | assumption | omega | (simp only [LN] <;> omega)) only [row_alloc, row_set]; assumption)) only [W_block, P3, ↓reduceIte, reduceAdd, reduceEqDiff, reduceCtorEq, initFr, reduceLT, clsA, reduceLeDiff, reduceMul, reduceSub, reduceIte, g1k, g2k, l5, l6, ra, rb, na, nb, a_loadnvf]
    refine callK (t25 xok yok exy f2 f3 f4 f5) ?_
    rintro _ X ⟨rfl, kx⟩
    simp (disch := first | assumption | omega | (simp only [LN] <;> omega) | (simp (disch := first | assumption | omega | (simp only [LN] <;> omega)) only [row_alloc, row_set]; assumption)) only [W_block, P3, ↓reduceIte, reduceAdd, reduceEqDiff, reduceCtorEq, initFr, reduceLT, clsA, reduceLeDiff, reduceMul, reduceSub, reduceIte, hw]
    exact hn _ _ _ ⟨i + 1, _, _, _, _, _, _, _, _, rfl, kk.trans kx, by omega, rfl⟩ (by omega)
  have h3 : ¬ (i : Int) < ((L.r.length : Nat) : Int) := by omega
  simp (disch := first | assumption | omega | (simp only [LN] <;> omega) | (simp (disch := first | assumption | omega | (simp only [LN] <;> omega)) only [row_alloc, row_set]; assumption)) only [W_block, P3, ↓reduceIte, reduceAdd, reduceEqDiff, reduceCtorEq, initFr, reduceLT, clsA, reduceLeDiff, reduceMul, reduceSub, reduceIte, g1k, g2k, l5]
  refine hx 4 _ _ ?_
  simp (disch := first | assumption | omega | (simp only [LN] <;> omega) | (simp (disch := first | assumption | omega | (simp only [LN] <;> omega)) only [row_alloc, row_set]; assumption)) only [W_block, P3, ↓reduceIte, reduceAdd, reduceEqDiff, reduceCtorEq, initFr, reduceLT, clsA, reduceLeDiff, reduceMul, reduceSub, reduceIte]
  exact hq2 _ _ ⟨_, rfl, rfl, k0.trans kk⟩
end Go.AM.Fd

set_option linter.unusedSimpArgs false
set_option linter.unusedVariables false
namespace Go.AM.Fd
open Nat (reduceAdd reduceEqDiff reduceLT reduceLeDiff reduceMul reduceSub)
open Go.Proofs Go.AM.F Go.AM.Ky
theorem prV_two (L : Ly) : ∃ (s : List UInt8) (e : Int), prV L = .tuple #[.string ⟨s.toArray⟩, .int .i64 e] := by
  unfold prV
  split
  · split <;> exact ⟨_, _, rfl⟩
  · exact ⟨_, _, rfl⟩
set_option maxHeartbeats 4000000 in
theorem t6L {H : AHeap} {u : V4} {xs : List RV} {L : Ly} (hl : LyR H u xs L) (hi : LyIn 9223372036854775807 L) (hB : LyB xs L) : ∃ w H', ARun Go.Proofs.Tryd.prog 4 6 [.agg u.l.toArray] H w H' ∧ w = .bool true := by
  refine walk2 f6_ok f6_n ?_
  intro Q hq1 hq2
  have hk := hl.keeps ((Keeps.refl H).alloc (.cells true false 4 u.l 28))
  have ho := ly_ones hl
  have gl : (H.alloc (.cells true false 4 u.l 28)).get H.n = some (.cells true false 4 u.l 28) := AHeap.get_alloc_new _ _
  have ll : u.l.length = 4 := rfl
  simp (disch := first | assumption | omega | (simp only [LN] <;> omega) | (simp (disch := first | assumption | omega | (simp only [LN] <;> omega)) only [row_alloc, row_set]; assumption)) only [f6, W_block, P3, ↓reduceIte, reduceAdd, reduceEqDiff, reduceCtorEq, initFr, reduceLT, clsA, reduceLeDiff, reduceMul, reduceSub, reduceIte, ho, gl, ll]
  generalize H.alloc (.cells true false 4 u.l 28) = K0 at *
  refine callK (t12 (top := 1500) (by omega) hk hi) ?_
  rintro _ X ⟨⟨n, rfl⟩, hX⟩
  rw [hX]
  by_cases hn : (1500 : Int) < n
  · simp (disch := first | assumption | omega | (simp only [LN] <;> omega) | (simp (disch := first | assumption | omega | (simp only [LN] <;> omega)) only [row_alloc, row_set]; assumption)) only [W_block, P3, ↓reduceIte, reduceAdd, reduceEqDiff, reduceCtorEq, initFr, reduceLT, clsA, reduceLeDiff, reduceMul, reduceSub, reduceIte]
    refine callK (t8 _) ?_
    rintro _ K ⟨rfl, k⟩
    simp (disch := first | assumption | omega | (simp only [LN] <;> omega) | (simp (disch := first | assumption | omega | (simp only [LN] <;> omega)) only [row_alloc, row_set]; assumption)) only [W_block, P3, ↓reduceIte, reduceAdd, reduceEqDiff, reduceCtorEq, initFr, reduceLT, clsA, reduceLeDiff, reduceMul, reduceSub, reduceIte]
    exact hq2 _ _ ⟨_, rfl, rfl⟩
  simp (disch := first | assumption | omega | (simp only [LN] <;> omega) | (simp (disch := first | assumption | omega | (simp only [LN] <;> omega)) only [row_alloc, row_set]; assumption)) only [W_block, P3, ↓reduceIte, reduceAdd, reduceEqDiff, reduceCtorEq, initFr, reduceLT, clsA, reduceLeDiff, reduceMul, reduceSub, reduceIte, gl, ll]
  refine callK (t15 hk hB) ?_
  rintro _ K1 ⟨k1, u', ys, rfl, cp, hys⟩
  have gl1 := k1.at_ gl
  have hk1 := hk.keeps k1
  have hy1 := cp.ly hys
  have ho' := ly_ones hy1
  have ll' : u'.l.length = 4 := rfl
  have k2 : Keeps K1 (K1.alloc (.cells true false 4 u'.l 28)) := (Keeps.refl K1).alloc _
  have gl2 := k2.at_ gl1
  have gw2 : (K1.alloc (.cells true false 4 u'.l 28)).get K1.n = some (.cells true false 4 u'.l 28) := AHeap.get_alloc_new K1 _
  have hk2 := hk1.keeps k2
  have hy2 := hy1.keeps k2
  obtain ⟨s, e, hpv⟩ := prV_two L
  simp (disch := first | assumption | omega | (simp only [LN] <;> omega) | (simp (disch := first | assumption | omega | (simp only [LN] <;> omega)) only [row_alloc, row_set]; assumption)) only [W_block, P3, ↓reduceIte, reduceAdd, reduceEqDiff, reduceCtorEq, initFr, reduceLT, clsA, reduceLeDiff, reduceMul, reduceSub, reduceIte, ho', ll']
  generalize hK2 : K1.alloc (.cells true false 4 u'.l 28) = K2 at *
  refine callK (lPrintA hy2 hi) ?_
  rintro _ X ⟨rfl, hX⟩
  rw [hX, hpv]
  simp (disch := first | assumption | omega | (simp only [LN] <;> omega) | (simp (disch := first | assumption | omega | (simp only [LN] <;> omega)) only [row_alloc, row_set]; assumption)) only [W_block, P3, ↓reduceIte, reduceAdd, reduceEqDiff, reduceCtorEq, initFr, reduceLT, clsA, reduceLeDiff, reduceMul, reduceSub, reduceIte, gl2, ll]
  refine callK (t17 hk2 hi) ?_
  rintro _ X ⟨rfl, hX⟩
  rw [hX, hpv]
  have es := b_eqS s s
  rw [decide_eq_true rfl] at es
  simp (disch := first | assumption | omega | (simp only [LN] <;> omega) | (simp (disch := first | assumption | omega | (simp only [LN] <;> omega)) only [row_alloc, row_set]; assumption)) only [W_block, P3, ↓reduceIte, reduceAdd, reduceEqDiff, reduceCtorEq, initFr, reduceLT, clsA, reduceLeDiff, reduceMul, reduceSub, reduceIte, es, gl2, gw2, ll, ll']
  refine callK (t11 hy2 hk2 hi) ?_
  rintro _ X ⟨rfl, k3⟩
  simp (disch := first | assumption | omega | (simp only [LN] <;> omega) | (simp (disch := first | assumption | omega | (simp only [LN] <;> omega)) only [row_alloc, row_set]; assumption)) only [W_block, P3, ↓reduceIte, reduceAdd, reduceEqDiff, reduceCtorEq, initFr, reduceLT, clsA, reduceLeDiff, reduceMul, reduceSub, reduceIte]
  refine callK (t8 _) ?_
  rintro _ X2 ⟨rfl, k4⟩
  simp (disch := first | assumption | omega | (simp only [LN] <;> omega) | (simp (disch := first | assumption | omega | (simp only [LN] <;> omega)) only [row_alloc, row_set]; assumption)) only [W_block, P3, ↓reduceIte, reduceAdd, reduceEqDiff, reduceCtorEq, initFr, reduceLT, clsA, reduceLeDiff, reduceMul, reduceSub, reduceIte]
  exact hq2 _ _ ⟨_, rfl, rfl⟩
theorem lawPrints : ∀ H args, NoOwn H → AVs Go.Proofs.Tryd.prog H.get [28] args → ∃ H', ARun Go.Proofs.Tryd.prog 4 6 args H (.bool true) H' := by
  intro H args _ h
  match args, h with
  | [v], ⟨h0, _⟩ =>
    obtain ⟨u, xs, L, rfl, hl, hi, hB⟩ := av_lyB h0
    obtain ⟨_, K, a, rfl⟩ := t6L hl hi hB
    exact ⟨K, a⟩
end Go.AM.Fd
