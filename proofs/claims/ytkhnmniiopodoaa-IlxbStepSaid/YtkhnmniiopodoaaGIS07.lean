/- Part of the proof. -/
import Derived.Test.YtkhnmniiopodoaaGIS06
set_option linter.unusedSimpArgs false
set_option linter.unusedVariables false
set_option linter.unusedSimpArgs false
set_option linter.unusedVariables false
set_option maxRecDepth 8000
namespace Go.AM.Fd
open Nat (reduceAdd reduceEqDiff reduceLT reduceLeDiff reduceMul reduceSub)
open Go.Proofs Go.AM.F
def cmdD (L : Ly) (x : Inp) (s : Sta) (cs : List (Int × Int)) : Sta := cs.foldl (fun s c => comD L x s c.1 c.2) s
def rosD (L : Ly) (x : Inp) (us : Nat → Bool) (s : Sta) (i : Nat) : Sta := (List.range i).foldl (fun s i => if s.lo i then roD L x us s i else s) s
def stepD (L : Ly) (s : Sta) (x : Inp) (cs : List (Int × Int)) : Sta := rosD L x (tidyS L s).us (cmdD L x (tidyS L s) (cs.take 8)) L.r.length
theorem cmdD_snoc (L : Ly) (x : Inp) (s : Sta) (cs : List (Int × Int)) (c : Int × Int) : cmdD L x s (cs ++ [c]) = comD L x (cmdD L x s cs) c.1 c.2 := by
  unfold cmdD; rw [List.foldl_append]; rfl
theorem rosD_s (L : Ly) (x : Inp) (us : Nat → Bool) (s : Sta) (i : Nat) : rosD L x us s (i + 1) = if (rosD L x us s i).lo i then roD L x us (rosD L x us s i) i else rosD L x us s i := by
  unfold rosD; rw [List.range_succ, List.foldl_append]; rfl
theorem upd_le {t : Nat → Nat} {i n m : Nat} (h : ∀ j, t j ≤ m) (hn : n ≤ m) (j : Nat) : upd t i n j ≤ m := by
  unfold upd; split
  · exact hn
  · exact h j
theorem comD_ti {L : Ly} {x : Inp} {s : Sta} {kd n : Int} (h : ∀ i, s.ti i ≤ 20) (i : Nat) : (comD L x s kd n).ti i ≤ 20 := by
  unfold comD
  repeat' split
  all_goals first | exact h i | exact upd_le h (by omega) i | (refine upd_le h ?_ i; split <;> omega)
theorem roD_ti {L : Ly} {x : Inp} {us : Nat → Bool} {s : Sta} {k : Nat} (h : ∀ i, s.ti i ≤ 20) (i : Nat) : (roD L x us s k).ti i ≤ 20 := by
  unfold roD relS
  repeat' split
  all_goals first | exact h i | exact upd_le h (by have := h k; omega) i
theorem cmdD_ti {L : Ly} {x : Inp} : ∀ {cs : List (Int × Int)} {s : Sta}, (∀ i, s.ti i ≤ 20) → ∀ i, (cmdD L x s cs).ti i ≤ 20
  | [], s, h => h
  | c :: cs, s, h => cmdD_ti (cs := cs) (comD_ti h)
theorem rosD_ti {L : Ly} {x : Inp} {us : Nat → Bool} {s : Sta} (h : ∀ i, s.ti i ≤ 20) : ∀ k i, (rosD L x us s k).ti i ≤ 20
  | 0 => h
  | k + 1 => by
    rw [rosD_s]
    split
    · exact roD_ti (rosD_ti h k)
    · exact rosD_ti h k
theorem fillO1 (b : Nat → Bool) : fillA [.int .u64 0, .int .u32 0] [(1, 1, S32 b)] = some [.int .u64 0, S32 b] := rfl
set_option maxHeartbeats 8000000 in
theorem t15 {H : AHeap} {u : V4} {xs : List RV} {L : Ly} {s : Sta} {x : Inp} {cv : Value} {cs : List (Int × Int)} (h : LyR H u xs L) (he : checkE L = 0) (hc : CL H cv cs) (hcl : cs.length ≤ 1000000) :
    ∃ w H', ARun Go.Proofs.Try.prog 0 15 [.agg u.l.toArray, .agg (stl s).toArray, .agg (inl x cv).toArray] H w H' ∧ w = .tuple #[.agg (stl (stepD L s x cs)).toArray, .agg #[S64 (fun i => decide (i < L.r.length) && proD L x (stepD L s x cs) i), S32 (stepD L s x cs).po]] ∧ H' = H := by
  suffices h' : ∃ w H', ARun Go.Proofs.Try.prog 0 15 [.agg u.l.toArray, .agg (stl s).toArray, .agg (inl x cv).toArray] H w H' ∧ w = .tuple #[.agg (stl (stepD L s x cs)).toArray, .agg #[S64 (fun i => decide (i < L.r.length) && proD L x (stepD L s x cs) i), S32 (stepD L s x cs).po]] ∧ Keeps H H' by
    obtain ⟨_, _, a, rfl, k⟩ := h'
    exact ⟨_, _, a.gc0 k (.inr (NV.tuple_of (.cons (nv_stl _ _) (.cons (NV.agg_of (l := [S64 (fun i => decide (i < L.r.length) && proD L x (stepD L s x cs) i), S32 (stepD L s x cs).po]) (NL.plain rfl)) .nil)))), rfl, rfl⟩
  refine walk2 f15_ok f15_n ?_
  intro Q hq1 hq2
  have hmay := check_may he
  have hL := may_lim hmay
  have lr := hL.r
  have lpp := hL.p
  have os := Sl.one h.s
  have op := Sl.one h.p
  have og := Sl.one h.g
  have or := Sl.one h.r
  have ir := Sl.is h.r
  have lenr := h.r.len
  rw [h.rlen] at lenr
  have isc := Sl.is hc
  have onec := Sl.one hc
  have clen := hc.len
  have hul : u.l = [u.s, u.p, u.g, u.r] := rfl
  have hinl : inl x cv = [S64 x.oc, S32 x.nr, S32 x.rv, cv] := rfl
  obtain ⟨K0, hK0⟩ : ∃ X, X = ((((H.alloc (.cells true false 4 [u.s, u.p, u.g, u.r] 27)).alloc (.cells true false 68 (stl s) 32)).alloc (.cells true false 4 (inl x cv) 43)).alloc (.cells true false 68 (stl Sta0) 32)).alloc (.cells true false 2 [.int .u64 0, .int .u32 0] 52) := ⟨_, rfl⟩
  have k0 : Keeps H K0 := by rw [hK0]; exact (((((Keeps.refl H).alloc _).alloc _).alloc _).alloc _).alloc _
  have n0 : K0.n = H.n + 5 := by rw [hK0]; rfl
  have gl0 : K0.get H.n = some (.cells true false 4 [u.s, u.p, u.g, u.r] 27) := by rw [hK0]; exact (((((Keeps.refl _).alloc _).alloc _).alloc _).alloc _).at_ (AHeap.get_alloc_new H _)
  have gs0 : K0.get (H.n + 1) = some (.cells true false 68 (stl s) 32) := by rw [hK0]; exact ((((Keeps.refl _).alloc _).alloc _).alloc _).at_ (AHeap.get_alloc_new (H.alloc _) _)
  have gi0 : K0.get (H.n + 2) = some (.cells true false 4 (inl x cv) 43) := by rw [hK0]; exact (((Keeps.refl _).alloc _).alloc _).at_ (AHeap.get_alloc_new ((H.alloc _).alloc _) _)
  have gw0 : K0.get (H.n + 3) = some (.cells true false 68 (stl Sta0) 32) := by rw [hK0]; exact ((Keeps.refl _).alloc _).at_ (AHeap.get_alloc_new (((H.alloc _).alloc _).alloc _) _)
  have go0 : K0.get (H.n + 4) = some (.cells true false 2 [.int .u64 0, .int .u32 0] 52) := by rw [hK0]; exact AHeap.get_alloc_new ((((H.alloc _).alloc _).alloc _).alloc _) _
  have l1 := AHeap.get_lt gs0
  have tT := t10 (h.keeps k0) hL s
  have tC := fun K (k : Keeps H K) (t : Sta) (kd n : Int) => t39 (x := x) (cv := cv) (h.keeps k) he t isc kd n
  have tR := fun K (k : Keeps H K) (t : Sta) (us : Nat → Bool) (ht : ∀ i, t.ti i < 256) (i : Nat) (hi : i < L.r.length) => t40 (x := x) (cv := cv) (h.keeps k) he t us isc ht hi
  have tP := fun K (k : Keeps H K) (t : Sta) (i : Nat) (hi : i < L.r.length) => t41 (x := x) (cv := cv) (h.keeps k) he t isc hi
  rw [hinl] at hK0 gi0
  rw [hul] at tT
  simp only [hul, hinl] at tC tR tP
  rw [hul, hinl]
  simp (disch := first | assumption | omega | (simp only [LN] <;> omega) | (simp (disch := first | assumption | omega | (simp only [LN] <;> omega)) only [row_alloc, row_set]; assumption)) only [f15, W_block, P3, ↓reduceIte, reduceAdd, reduceEqDiff, reduceCtorEq, initFr, reduceLT, clsA, reduceLeDiff, reduceMul, reduceSub, reduceIte, os, op, og, or, stl_one, stl_len, rng68, onec, o_s64, o_s32, one_s64, one_s32, Z68I_z']
  simp only [← hK0]
  refine callK tT ?_
  rintro _ X ⟨rfl, hX⟩
  rw [hX]
  obtain ⟨s0, hs0e⟩ : ∃ t, t = tidyS L s := ⟨_, rfl⟩
  rw [← hs0e]
  obtain ⟨K1, hK1⟩ : ∃ X, X = K0.set (H.n + 1) (.cells true false 68 (stl s0) 32) := ⟨_, rfl⟩
  have k1 : Keeps H K1 := by rw [hK1]; exact k0.set (by omega) l1 _
  have oth : ∀ b, b ≠ H.n + 1 → K1.get b = K0.get b := fun b hb => by rw [hK1]; exact AHeap.get_set_other K0 hb l1 _
  have gs1 : K1.get (H.n + 1) = some (.cells true false 68 (stl s0) 32) := by rw [hK1]; exact AHeap.get_set_same gs0 _
  have gl1 := (oth H.n (by omega)).trans gl0
  have gi1 := (oth (H.n + 2) (by omega)).trans gi0
  have gw1 := (oth (H.n + 3) (by omega)).trans gw0
  have go1 := (oth (H.n + 4) (by omega)).trans go0
  have n1 : K1.n = H.n + 5 := by rw [hK1, set_n, n0]
  simp (disch := first | assumption | omega | (simp only [LN] <;> omega) | (simp (disch := first | assumption | omega | (simp only [LN] <;> omega)) only [row_alloc, row_set]; assumption)) only [ P3, ↓reduceIte, reduceAdd, reduceEqDiff, reduceCtorEq, initFr, reduceLT, clsA, reduceLeDiff, reduceMul, reduceSub, reduceIte, gs0, stn68s, stl_1]
  simp only [← hK1]
  obtain ⟨A1, hA1⟩ : ∃ v : Value, v = .agg #[u.s, u.p, u.g, u.r] := ⟨_, rfl⟩
  obtain ⟨A2, hA2⟩ : ∃ v : Value, v = .agg (stl s).toArray := ⟨_, rfl⟩
  obtain ⟨A4, hA4⟩ : ∃ v : Value, v = .agg #[S64 x.oc, S32 x.nr, S32 x.rv, cv] := ⟨_, rfl⟩
  rw [W_block, ← hA1, ← hA2, ← hA4]
  refine W_loop2 (fun q fr X => ∃ i x13, fr = [A1, A2, A4, ptr H.n 0, ptr (H.n + 1) 0, ptr (H.n + 2) 0, ptr (H.n + 3) 0, ptr (H.n + 4) 0, S64 s0.us, .int .i64 ((i : Nat) : Int), undef, undef, undef, x13, undef, undef, undef, undef] ∧
      Chg [H.n + 1] K1 X ∧ X.n = K1.n ∧ X.get (H.n + 1) = some (.cells true false 68 (stl (cmdD L x s0 (cs.take i))) 32) ∧ i ≤ cs.length ∧ i ≤ 8 ∧ q = 8 - i) 8
    ⟨0, _, rfl, Chg.refl _ _, rfl, gs1, by omega, by omega, rfl⟩ ?_
  rintro Q' q fr X ⟨i, x13, rfl, cX, nX, gsX, hi, hi8, rfl⟩ hn' hx' hret
  have kX : Keeps H X := k1.chg_trans cX (by simp)
  have glX := cX.at_ gl1 (by simp)
  have giX := cX.at_ gi1 (by simp)
  have lX := AHeap.get_lt gsX
  -- behind the commands
  have goon : ∀ {v9 v13 : Value} (hcm : cmdD L x s0 (cs.take i) = cmdD L x s0 (cs.take 8)), Q' (.exit 0) [A1, A2, A4, ptr H.n 0, ptr (H.n + 1) 0, ptr (H.n + 2) 0, ptr (H.n + 3) 0, ptr (H.n + 4) 0, S64 s0.us, v9, undef, undef, undef, v13, undef, undef, undef, undef] X := by
    intro v9 v13 hcm
    rw [hcm] at gsX
    obtain ⟨s1, hs1⟩ : ∃ t, t = cmdD L x s0 (cs.take 8) := ⟨_, rfl⟩
    rw [← hs1] at gsX
    have ti1 : ∀ i, s1.ti i ≤ 20 := by rw [hs1, hs0e]; exact cmdD_ti (tidy_ti L s)
    have hst : stepD L s x cs = rosD L x s0.us s1 L.r.length := by unfold stepD; rw [hs1, hs0e]
    rw [hst] at hq1 hq2
    refine hx' _ _ _ ?_
    simp (disch := first | assumption | omega | (simp only [LN] <;> omega) | (simp (disch := first | assumption | omega | (simp only [LN] <;> omega)) only [row_alloc, row_set]; assumption)) only [ P3, ↓reduceIte, reduceAdd, reduceEqDiff, reduceCtorEq, initFr, reduceLT, clsA, reduceLeDiff, reduceMul, reduceSub, reduceIte]
    rw [W_block]
    refine W_loop2 (fun q fr Y => ∃ k x14 x15, fr = [A1, A2, A4, ptr H.n 0, ptr (H.n + 1) 0, ptr (H.n + 2) 0, ptr (H.n + 3) 0, ptr (H.n + 4) 0, S64 s0.us, v9, .int .i64 ((k : Nat) : Int), undef, undef, v13, x14, x15, undef, undef] ∧
        Chg [H.n + 1] K1 Y ∧ Y.n = K1.n ∧ Y.get (H.n + 1) = some (.cells true false 68 (stl (rosD L x s0.us s1 k)) 32) ∧ k ≤ L.r.length ∧ q = L.r.length - k) L.r.length
      ⟨0, _, _, rfl, cX, nX, gsX, by omega, rfl⟩ ?_
    rintro Q2 q fr Y ⟨k, x14, x15, rfl, cY, nY, gsY, hk, rfl⟩ hn2 hx2 hret2
    have kY : Keeps H Y := k1.chg_trans cY (by simp)
    have glY := cY.at_ gl1 (by simp)
    have giY := cY.at_ gi1 (by simp)
    have gwY := cY.at_ gw1 (by simp)
    have goY := cY.at_ go1 (by simp)
    have lY := AHeap.get_lt gsY
    by_cases hlk : k < L.r.length
    · have kN : k < 64 := by omega
      have c0 : (0 : Int) ≤ (k : Int) := by omega
      have c1 : ((k : Nat) : Int) < ((L.r.length : Nat) : Int) := by omega
      have hw2 : IntKind.i64.wrap ((k : Int) + 1) = ((k + 1 : Nat) : Int) := by rw [wrap_i64 (by omega) (by omega)]; simp
      have hrs := rosD_s L x s0.us s1 k
      have tik := rosD_ti (L := L) (x := x) (us := s0.us) ti1 k
      generalize rosD L x s0.us s1 k = t at *
      simp (disch := first | assumption | omega | (simp only [LN] <;> omega) | (simp (disch := first | assumption | omega | (simp only [LN] <;> omega)) only [row_alloc, row_set]; assumption)) only [W_block, P3, ↓reduceIte, reduceAdd, reduceEqDiff, reduceCtorEq, initFr, reduceLT, clsA, reduceLeDiff, reduceMul, reduceSub, reduceIte, glY, gsY, stl_0, ir, lenr, c1]
      refine callK (t24 _ _) ?_
      rintro _ Z ⟨rfl, hZ⟩
      rw [hZ, has_nat _ kN]
      cases hlo : t.lo k with
      | false =>
        rw [hlo] at hrs
        simp (disch := first | assumption | omega | (simp only [LN] <;> omega) | (simp (disch := first | assumption | omega | (simp only [LN] <;> omega)) only [row_alloc, row_set]; assumption)) only [W_block, P3, ↓reduceIte, reduceAdd, reduceEqDiff, reduceCtorEq, initFr, reduceLT, clsA, reduceLeDiff, reduceMul, reduceSub, reduceIte, hw2]
        exact hn2 _ _ _ ⟨k + 1, _, _, rfl, cY, nY, by rw [hrs]; exact gsY, by omega, rfl⟩ (by omega)
      | true =>
        rw [hlo] at hrs
        simp (disch := first | assumption | omega | (simp only [LN] <;> omega) | (simp (disch := first | assumption | omega | (simp only [LN] <;> omega)) only [row_alloc, row_set]; assumption)) only [W_block, P3, ↓reduceIte, reduceAdd, reduceEqDiff, reduceCtorEq, initFr, reduceLT, clsA, reduceLeDiff, reduceMul, reduceSub, reduceIte, glY, gsY, giY, rng68]
        refine callK (tR _ kY t s0.us (fun i => by have := tik i; omega) k hlk) ?_
        rintro _ Z ⟨rfl, hZ⟩
        rw [hZ]
        simp (disch := first | assumption | omega | (simp only [LN] <;> omega) | (simp (disch := first | assumption | omega | (simp only [LN] <;> omega)) only [row_alloc, row_set]; assumption)) only [W_block, P3, ↓reduceIte, reduceAdd, reduceEqDiff, reduceCtorEq, initFr, reduceLT, clsA, reduceLeDiff, reduceMul, reduceSub, reduceIte, gsY, stn68s, hw2]
        exact hn2 _ _ _ ⟨k + 1, _, _, rfl, cY.trans (Chg.set Y lY _) (by simp), by rw [set_n]; exact nY, by rw [AHeap.get_set_same gsY, hrs]; rfl, by omega, rfl⟩ (by omega)
    · have c1 : ¬ ((k : Nat) : Int) < ((L.r.length : Nat) : Int) := by omega
      have hke : k = L.r.length := by omega
      subst hke
      obtain ⟨t, ht⟩ : ∃ t, t = rosD L x s0.us s1 L.r.length := ⟨_, rfl⟩
      rw [← ht] at hq1 hq2 gsY
      simp (disch := first | assumption | omega | (simp only [LN] <;> omega) | (simp (disch := first | assumption | omega | (simp only [LN] <;> omega)) only [row_alloc, row_set]; assumption)) only [W_block, P3, ↓reduceIte, reduceAdd, reduceEqDiff, reduceCtorEq, initFr, reduceLT, clsA, reduceLeDiff, reduceMul, reduceSub, reduceIte, glY, ir, lenr, c1]
      refine hx2 _ _ _ ?_
      obtain ⟨Z0, hZ0⟩ : ∃ Z, Z = Y.alloc (.cells true false 2 [S64 fun j => decide (j < 0) && proD L x t j, S32 t.po] 52) := ⟨_, rfl⟩
      have kZ0 : Keeps Y Z0 := by rw [hZ0]; exact (Keeps.refl Y).alloc _
      have gz0 : Z0.get Y.n = some (.cells true false 2 [S64 fun j => decide (j < 0) && proD L x t j, S32 t.po] 52) := by rw [hZ0]; exact AHeap.get_alloc_new Y _
      have e00 : Value.int .u64 0 = S64 fun j => decide (j < 0) && proD L x t j := by rw [s_zero]; exact s64_ext fun i _ => by simp
      simp (disch := first | assumption | omega | (simp only [LN] <;> omega) | (simp (disch := first | assumption | omega | (simp only [LN] <;> omega)) only [row_alloc, row_set]; assumption)) only [ P3, ↓reduceIte, reduceAdd, reduceEqDiff, reduceCtorEq, initFr, reduceLT, clsA, reduceLeDiff, reduceMul, reduceSub, reduceIte, gsY, stl_67, fillO1, o_s32, one_s32]
      rw [e00, ← hZ0, W_block]
      refine W_loop2 (fun q fr Z => ∃ k x16 x17, fr = [A1, A2, A4, ptr H.n 0, ptr (H.n + 1) 0, ptr (H.n + 2) 0, ptr (H.n + 3) 0, ptr (H.n + 4) 0, S64 s0.us, v9, .int .i64 ((L.r.length : Nat) : Int), ptr Y.n 0, .int .i64 ((k : Nat) : Int), v13, .bool false, x15, x16, x17] ∧
          Chg [Y.n] Z0 Z ∧ Z.get Y.n = some (.cells true false 2 [S64 fun j => decide (j < k) && proD L x t j, S32 t.po] 52) ∧ k ≤ L.r.length ∧ q = L.r.length - k) L.r.length
        ⟨0, _, _, rfl, Chg.refl _ _, gz0, by omega, rfl⟩ ?_
      rintro Q3 q fr Z ⟨k, x16, x17, rfl, cZ, gz, hk, rfl⟩ hn3 hx3 hret3
      have lYn := Nat.lt_of_lt_of_le (AHeap.get_lt gwY) (Nat.le_refl _)
      have kYZ : Keeps Y Z := kZ0.chg_trans cZ (by simp)
      have kZ : Keeps H Z := kY.trans kYZ
      have glZ := kYZ.at_ glY
      have giZ := kYZ.at_ giY
      have gsZ := kYZ.at_ gsY
      have gwZ := kYZ.at_ gwY
      have goZ := kYZ.at_ goY
      have lZ := AHeap.get_lt gz
      by_cases hlk : k < L.r.length
      · have kN : k < 64 := by omega
        have c1 : ((k : Nat) : Int) < ((L.r.length : Nat) : Int) := by omega
        have hw2 : IntKind.i64.wrap ((k : Int) + 1) = ((k + 1 : Nat) : Int) := by rw [wrap_i64 (by omega) (by omega)]; simp
        have sh := s_shl1 kN
        simp (disch := first | assumption | omega | (simp only [LN] <;> omega) | (simp (disch := first | assumption | omega | (simp only [LN] <;> omega)) only [row_alloc, row_set]; assumption)) only [W_block, P3, ↓reduceIte, reduceAdd, reduceEqDiff, reduceCtorEq, initFr, reduceLT, clsA, reduceLeDiff, reduceMul, reduceSub, reduceIte, glZ, giZ, gsZ, ir, lenr, c1, rng68]
        refine callK (tP _ kZ t k hlk) ?_
        rintro _ Z' ⟨rfl, hZ'⟩
        rw [hZ']
        cases hp : proD L x t k with
        | false =>
          simp (disch := first | assumption | omega | (simp only [LN] <;> omega) | (simp (disch := first | assumption | omega | (simp only [LN] <;> omega)) only [row_alloc, row_set]; assumption)) only [W_block, P3, ↓reduceIte, reduceAdd, reduceEqDiff, reduceCtorEq, initFr, reduceLT, clsA, reduceLeDiff, reduceMul, reduceSub, reduceIte, hw2]
          exact hn3 _ _ _ ⟨k + 1, _, _, rfl, cZ, by rw [gz, with_n (proD L x t) k hp], by omega, rfl⟩ (by omega)
        | true =>
          simp (disch := first | assumption | omega | (simp only [LN] <;> omega) | (simp (disch := first | assumption | omega | (simp only [LN] <;> omega)) only [row_alloc, row_set]; assumption)) only [W_block, P3, ↓reduceIte, reduceAdd, reduceEqDiff, reduceCtorEq, initFr, reduceLT, clsA, reduceLeDiff, reduceMul, reduceSub, reduceIte, gz, sh, s_or, o_s64, one_s64, hw2]
          refine hn3 _ _ _ ⟨k + 1, _, _, rfl, cZ.trans (Chg.set Z lZ _) (by simp), ?_, by omega, rfl⟩ (by omega)
          rw [AHeap.get_set_same gz, ← with_p (proD L x t) k hp]
          congr 4
          congr 1
          funext j
          simp only [oneP, Int.ofNat_inj]
      · have c1 : ¬ ((k : Nat) : Int) < ((L.r.length : Nat) : Int) := by omega
        have hke : k = L.r.length := by omega
        subst hke
        have hwl := AHeap.get_lt gwZ
        have hol := AHeap.get_lt goZ
        have oa : ∀ o, (Z.set (H.n + 3) o).get (H.n + 4) = Z.get (H.n + 4) := fun o => AHeap.get_set_other Z (by omega) hwl o
        simp (disch := first | assumption | omega | (simp only [LN] <;> omega) | (simp (disch := first | assumption | omega | (simp only [LN] <;> omega)) only [row_alloc, row_set]; assumption)) only [W_block, P3, ↓reduceIte, reduceAdd, reduceEqDiff, reduceCtorEq, initFr, reduceLT, clsA, reduceLeDiff, reduceMul, reduceSub, reduceIte, glZ, ir, lenr, c1]
        refine hx3 _ _ _ ?_
        simp (disch := first | assumption | omega | (simp only [LN] <;> omega) | (simp (disch := first | assumption | omega | (simp only [LN] <;> omega)) only [row_alloc, row_set]; assumption)) only [W_block, P3, ↓reduceIte, reduceAdd, reduceEqDiff, reduceCtorEq, initFr, reduceLT, clsA, reduceLeDiff, reduceMul, reduceSub, reduceIte, gsZ, gz, gwZ, goZ, oa, rng68, stn68s, o_s64, o_s32, one_s64, one_s32]
        obtain ⟨pr, hpr⟩ : ∃ pr : Nat → Bool, pr = fun j => decide (j < L.r.length) && proD L x t j := ⟨_, rfl⟩
        rw [← hpr] at hq2 ⊢
        refine ⟨by simp, hq2 _ _ ⟨.tuple #[.agg (stl t).toArray, .agg #[S64 pr, S32 t.po]], ?_, rfl, (kZ.set (by omega) hwl _).set (by omega) (by rw [set_n]; exact hol) _⟩⟩
        have ga3 : ((Z.set (H.n + 3) (.cells true false 68 (stl t) 32)).set (H.n + 4) (.cells true false 2 [S64 pr, S32 t.po] 52)).get (H.n + 3) = some (.cells true false 68 (stl t) 32) := by
          rw [AHeap.get_set_other _ (by omega) (by rw [set_n]; exact hol)]; exact AHeap.get_set_same gwZ _
        have go3 : ((Z.set (H.n + 3) (.cells true false 68 (stl t) 32)).set (H.n + 4) (.cells true false 2 [S64 pr, S32 t.po] 52)).get (H.n + 4) = some (.cells true false 2 [S64 pr, S32 t.po] 52) :=
          AHeap.get_set_same ((oa _).trans goZ) _
        show resO [.cn 68 6, .cn 2 7] _ _ = _
        have r1' : celln 68 (ptr (H.n + 3) 0) ((Z.set (H.n + 3) (.cells true false 68 (stl t) 32)).set (H.n + 4) (.cells true false 2 [S64 pr, S32 t.po] 52)) = some (.agg (stl t).toArray) := by
          rw [cellnp, rangeA_e, ga3, rng68]; rfl
        have r2' : celln 2 (ptr (H.n + 4) 0) ((Z.set (H.n + 3) (.cells true false 68 (stl t) 32)).set (H.n + 4) (.cells true false 2 [S64 pr, S32 t.po] 52)) = some (.agg #[S64 pr, S32 t.po]) := by
          rw [cellnp, rangeA_e, go3]; rfl
        have e5 : ∀ l : List Value, l.getD 6 undef = ptr (H.n + 3) 0 → l.getD 7 undef = ptr (H.n + 4) 0 → ∀ K, celln 68 (ptr (H.n + 3) 0) K = some (.agg (stl t).toArray) → celln 2 (ptr (H.n + 4) 0) K = some (.agg #[S64 pr, S32 t.po]) →
            resO [.cn 68 6, .cn 2 7] l K = some (.tuple #[.agg (stl t).toArray, .agg #[S64 pr, S32 t.po]]) := fun l a b K c d => by
          simp only [resO, resVs, RX.get, a, b, c, d]; rfl
        exact e5 _ rfl rfl _ r1' r2'
  by_cases h1 : i < cs.length
  · by_cases h2 : i < 8
    · obtain ⟨nc, rc⟩ := (hc.keeps kX).at_ h1
      have e0 : (0 : Int) ≤ (i : Int) := by omega
      have e1 : (i : Int) < ((cs.length : Nat) : Int) := by omega
      have e8 : (i : Int) < 8 := by omega
      have hw : IntKind.i64.wrap ((i : Int) + 1) = ((i + 1 : Nat) : Int) := by rw [wrap_i64 (by omega) (by omega)]; simp
      have hgd : cs.getD i (0, 0) = cs[i] := by rw [List.getD_eq_getElem?_getD, List.getElem?_eq_getElem h1]; rfl
      have htk : cs.take (i + 1) = cs.take i ++ [cs[i]] := by rw [List.take_add_one, List.getElem?_eq_getElem h1]; rfl
      rw [hgd] at rc
      generalize cs[i] = c at *
      obtain ⟨kd, n⟩ := c
      simp (disch := first | assumption | omega | (simp only [LN] <;> omega) | (simp (disch := first | assumption | omega | (simp only [LN] <;> omega)) only [row_alloc, row_set]; assumption)) only [W_block, P3, ↓reduceIte, reduceAdd, reduceEqDiff, reduceCtorEq, initFr, reduceLT, clsA, reduceLeDiff, reduceMul, reduceSub, reduceIte, glX, giX, gsX, isc, clen, nc, rc, e0, e1, e8, a_loadnvf, rng68]
      refine callK (tC _ kX _ kd n) ?_
      rintro _ Y ⟨rfl, hY⟩
      rw [hY]
      simp (disch := first | assumption | omega | (simp only [LN] <;> omega) | (simp (disch := first | assumption | omega | (simp only [LN] <;> omega)) only [row_alloc, row_set]; assumption)) only [W_block, P3, ↓reduceIte, reduceAdd, reduceEqDiff, reduceCtorEq, initFr, reduceLT, clsA, reduceLeDiff, reduceMul, reduceSub, reduceIte, gsX, stn68s, hw]
      exact hn' _ _ _ ⟨i + 1, _, rfl, cX.trans (Chg.set X lX _) (by simp), by rw [set_n]; exact nX, by rw [AHeap.get_set_same gsX, htk, cmdD_snoc], by omega, by omega, rfl⟩ (by omega)
    · have e1 : (i : Int) < ((cs.length : Nat) : Int) := by omega
      have e8 : ¬ (i : Int) < 8 := by omega
      have hi8' : i = 8 := by omega
      simp (disch := first | assumption | omega | (simp only [LN] <;> omega) | (simp (disch := first | assumption | omega | (simp only [LN] <;> omega)) only [row_alloc, row_set]; assumption)) only [W_block, P3, ↓reduceIte, reduceAdd, reduceEqDiff, reduceCtorEq, initFr, reduceLT, clsA, reduceLeDiff, reduceMul, reduceSub, reduceIte, giX, isc, clen, e1, e8]
      exact goon (by rw [hi8'])
  · have e1 : ¬ (i : Int) < ((cs.length : Nat) : Int) := by omega
    have hil : i = cs.length := by omega
    simp (disch := first | assumption | omega | (simp only [LN] <;> omega) | (simp (disch := first | assumption | omega | (simp only [LN] <;> omega)) only [row_alloc, row_set]; assumption)) only [W_block, P3, ↓reduceIte, reduceAdd, reduceEqDiff, reduceCtorEq, initFr, reduceLT, clsA, reduceLeDiff, reduceMul, reduceSub, reduceIte, giX, isc, clen, e1]
    exact goon (by rw [List.take_of_length_le (by omega), List.take_of_length_le (by omega)])
end Go.AM.Fd

set_option linter.unusedSimpArgs false
set_option linter.unusedVariables false
namespace Go.AM.Fd
open Go.Proofs Go.AM.F
theorem n64_iff {f : Nat → Bool} : none64 f = true ↔ ∀ i, i < 64 → f i = false := by
  unfold none64; simp
theorem n32_iff {f : Nat → Bool} : none32 f = true ↔ ∀ i, i < 32 → f i = false := by
  unfold none32; simp
theorem n64_and (f g : Nat → Bool) : none64 (fun i => f i || g i) = (none64 f && none64 g) := by
  rw [Bool.eq_iff_iff, Bool.and_eq_true, n64_iff, n64_iff, n64_iff]
  constructor
  · intro h
    exact ⟨fun i hi => by have := h i hi; simp at this; exact this.1, fun i hi => by have := h i hi; simp at this; exact this.2⟩
  · rintro ⟨h, k⟩ i hi
    rw [h i hi, k i hi]; rfl
theorem none_one (f : Nat → Bool) (n : Int) : none64 (fun j => oneP n j && f j) = !hasB f n := by
  rw [Bool.eq_iff_iff, n64_iff]
  unfold hasB oneP
  constructor
  · intro h
    by_cases h0 : 0 ≤ n
    · by_cases h1 : n < 64
      · have := h n.toNat (by omega)
        have e : decide (((n.toNat : Nat) : Int) = n) = true := by simp; omega
        rw [e] at this
        simp at this
        simp [this]
      · simp [h1]
    · simp [h0]
  · intro h i hi
    by_cases e : (i : Int) = n
    · subst e
      have e1 : decide ((0 : Int) ≤ (i : Int)) = true := by simp
      have e2 : decide ((i : Int) < 64) = true := by simp; omega
      rw [e1, e2] at h
      simp at h
      simp [h]
    · simp [e]
theorem none_comm (f g : Nat → Bool) : none64 (fun j => f j && g j) = none64 (fun j => g j && f j) := by
  congr 1; funext j; rw [Bool.and_comm]
theorem ent_eq {L : Ly} {x : Inp} {i : Nat} (hi : i < L.r.length) : entB L x i = hasB x.oc ((ro L i).path.getD 0 0) := by
  unfold entB fiP
  rw [none_one]; simp [hi]
theorem free_eq {L : Ly} {x : Inp} {i : Nat} (he : checkE L = 0) (hi : i < L.r.length) : (none64 fun j => trP (ro L i) j && x.oc j) = frD x (ro L i) := by
  have hg := check_good he (List.getElem_mem hi)
  rw [← ro_eq hi] at hg
  have hL := (may_lim (check_may he)).s
  rw [Bool.eq_iff_iff, n64_iff]
  unfold frD trP
  rw [List.all_eq_true]
  constructor
  · intro h t ht
    obtain ⟨h0, h1⟩ := hg.tr t ht
    obtain ⟨m, rfl⟩ : ∃ m : Nat, t = (m : Int) := ⟨t.toNat, by omega⟩
    have hm : m < 64 := by omega
    have := h m hm
    rw [List.contains_iff_mem.2 ht] at this
    rw [has_nat _ hm]
    simpa using this
  · intro h j hj
    by_cases hc : (trk (ro L i)).contains (j : Int) = true
    · have := h _ (List.contains_iff_mem.1 hc)
      rw [has_nat _ hj] at this
      rw [hc]; simpa using this
    · simp only [Bool.not_eq_true] at hc
      rw [hc]; rfl
theorem nds_nodup {L : Ly} {i : Nat} (he : checkE L = 0) (hi : i < L.r.length) : ((nds (ro L i)).map (·.1)).Nodup := by
  have hf := check_form he (List.getElem_mem hi)
  rw [← ro_eq hi] at hf
  simp only [formedB, badB, Bool.and_eq_true, Bool.not_eq_true', Bool.or_eq_false_iff, Bool.not_eq_false', decide_eq_true_eq] at hf
  exact hf.1.2
theorem side_mem {l : List (Int × Bool)} (hn : (l.map (·.1)).Nodup) {p : Int} {b : Bool} : (p, b) ∈ l ↔ sideO p l = some b := by
  induction l with
  | nil => simp [sideO]
  | cons z l ih =>
    obtain ⟨zp, zb⟩ := z
    simp only [List.map_cons, List.nodup_cons] at hn
    have ih := ih hn.2
    by_cases e : zp = p
    · subst e
      have hs : sideO zp ((zp, zb) :: l) = some zb := by simp [sideO]
      rw [hs]
      constructor
      · intro h
        rcases List.mem_cons.1 h with h | h
        · cases h; rfl
        · exact absurd (List.mem_map.2 ⟨_, h, rfl⟩) hn.1
      · intro h; cases h; exact List.mem_cons_self
    · have hs : sideO p ((zp, zb) :: l) = sideO p l := by
        have : (zp == p) = false := by simp [e]
        simp [sideO, this]
      rw [hs, ← ih]
      constructor
      · intro h
        rcases List.mem_cons.1 h with h | h
        · cases h; exact absurd rfl e
        · exact h
      · intro h; exact List.mem_cons_of_mem _ h
theorem poD_side {l : List (Int × Bool)} (hn : (l.map (·.1)).Nodup) (h0 : ∀ z ∈ l, 0 ≤ z.1) (f : Nat → Bool) (p : Nat) : poD l f p = match sideO (p : Int) l with | some b => b | none => f p := by
  induction l generalizing f with
  | nil => rfl
  | cons z l ih =>
    obtain ⟨zp, zb⟩ := z
    simp only [List.map_cons, List.nodup_cons] at hn
    have hz := h0 (zp, zb) List.mem_cons_self
    obtain ⟨m, rfl⟩ : ∃ m : Nat, zp = (m : Int) := ⟨zp.toNat, by simp only at hz; omega⟩
    have e1 : poD (((m : Int), zb) :: l) f = poD l (fun p => if p = m then zb else f p) := by
      unfold poD; simp
    rw [e1, ih hn.2 (fun z hz => h0 z (List.mem_cons_of_mem _ hz))]
    by_cases e : p = m
    · subst e
      have hs : sideO (p : Int) (((p : Int), zb) :: l) = some zb := by simp [sideO]
      have hno : sideO (p : Int) l = none := by
        unfold sideO
        have : l.find? (fun x => x.1 == (p : Int)) = none := List.find?_eq_none.2 (fun y hy he => hn.1 (List.mem_map.2 ⟨y, hy, by simpa using he⟩))
        rw [this]; rfl
      rw [hs, hno]; simp
    · have hs : sideO (p : Int) (((m : Int), zb) :: l) = sideO (p : Int) l := by
        have : ((m : Int) == (p : Int)) = false := by simp; omega
        simp [sideO, this]
      rw [hs]
      cases sideO (p : Int) l <;> simp [e]
theorem turn_side {L : Ly} {i : Nat} (he : checkE L = 0) (hi : i < L.r.length) (s : Sta) (p : Nat) : turnP L s i p = match sideO (p : Int) (nds (ro L i)) with | some b => (s.po p != b) | none => false := by
  have hn := nds_nodup he hi
  have e1 : nor L i p = decide (sideO (p : Int) (nds (ro L i)) = some false) := by
    unfold nor ndP
    rw [Bool.eq_iff_iff, List.contains_iff_mem, decide_eq_true_eq]
    exact side_mem hn
  have e2 : rev L i p = decide (sideO (p : Int) (nds (ro L i)) = some true) := by
    unfold rev ndP
    rw [Bool.eq_iff_iff, List.contains_iff_mem, decide_eq_true_eq]
    exact side_mem hn
  unfold turnP
  rw [e1, e2]
  cases sideO (p : Int) (nds (ro L i)) with
  | none => simp
  | some b => cases b <;> cases s.po p <;> rfl
theorem po_turn {L : Ly} {i : Nat} (he : checkE L = 0) (hi : i < L.r.length) (s : Sta) (p : Nat) : (s.po p ^^ turnP L s i p) = poD (nds (ro L i)) s.po p := by
  have hg := check_good he (List.getElem_mem hi)
  rw [← ro_eq hi] at hg
  rw [turn_side he hi, poD_side (nds_nodup he hi) (fun z hz => (hg.nd z hz).1)]
  cases sideO (p : Int) (nds (ro L i)) with
  | none => simp
  | some b => cases b <;> cases s.po p <;> rfl
theorem lie_none {L : Ly} (hp : L.p.length ≤ 32) (oc f : Nat → Bool) : (none64 fun j => oc j && lieU L f j) = (List.range L.p.length).all fun p => !(f p && hasB oc (L.p.getD p ([], 0)).2) := by
  rw [Bool.eq_iff_iff, n64_iff, List.all_eq_true]
  unfold lieU anyN
  constructor
  · intro h p hpm
    have hpl := List.mem_range.1 hpm
    have h1 := none_one oc (L.p.getD p ([], 0)).2
    cases hf : f p with
    | false => rfl
    | true =>
      have : none64 (fun j => oneP (L.p.getD p ([], 0)).2 j && oc j) = true := n64_iff.2 (fun j hj => by
        have hj2 := h j hj
        cases ho : oc j with
        | false => simp
        | true =>
          rw [ho] at hj2
          simp only [Bool.true_and] at hj2
          rw [List.any_eq_false] at hj2
          have := hj2 p hpm
          have h32 : p < 32 := by omega
          simp [hf, h32, lieP] at this
          simp [this])
      rw [this] at h1
      simp only [Bool.true_and]
      exact h1.symm
  · intro h j hj
    cases ho : oc j with
    | false => rfl
    | true =>
      simp only [Bool.true_and]
      rw [List.any_eq_false]
      intro p hpm
      have hpl := List.mem_range.1 hpm
      have := h p hpm
      cases hf : f p with
      | false => simp
      | true =>
        rw [hf] at this
        simp only [Bool.true_and, Bool.not_eq_true'] at this
        have h1 := none_one oc (L.p.getD p ([], 0)).2
        rw [this] at h1
        have := n64_iff.1 h1 j hj
        rw [ho] at this
        simp only [Bool.and_true] at this
        have h2 : lieP L p j = false := this
        simp [h2]
theorem set_eq {L : Ly} {x : Inp} {i : Nat} (he : checkE L = 0) (hi : i < L.r.length) (s : Sta) : setC L x.oc s i = setD L x s i := by
  have hg := check_good he (List.getElem_mem hi)
  rw [← ro_eq hi] at hg
  have hL := may_lim (check_may he)
  have lr := hL.r
  have lp := hL.p
  have hn := nds_nodup he hi
  unfold setC setD
  have e1 : (none64 fun j => s.lo j && (oneP (i : Nat) j || tabP L i j)) = (!s.lo i && (List.range L.r.length).all (fun k => !(s.lo k && cf L i k))) := by
    rw [Bool.eq_iff_iff, n64_iff, Bool.and_eq_true, List.all_eq_true]
    constructor
    · intro h
      have h0 : s.lo i = false := by
        have := h i (by omega)
        simpa [oneP] using this
      refine ⟨by simp [h0], fun k hk => ?_⟩
      have hkl := List.mem_range.1 hk
      by_cases e : k = i
      · subst e; simp [h0]
      · have := h k (by omega)
        have e2 : ¬ ((k : Int) = (i : Int)) := by omega
        cases hlo : s.lo k with
        | false => rfl
        | true =>
          simp [oneP, e2, tabP, hkl, e, hlo] at this
          simp [this]
    · rintro ⟨h0, h⟩ j hj
      cases hlo : s.lo j with
      | false => rfl
      | true =>
        have hji : ¬ j = i := fun e => by subst e; rw [hlo] at h0; cases h0
        have e2 : ¬ ((j : Int) = (i : Int)) := by omega
        by_cases hjl : j < L.r.length
        · have := h j (List.mem_range.2 hjl)
          rw [hlo] at this
          simp at this
          simp [oneP, e2, tabP, this]
        · simp [oneP, e2, tabP, hjl]
  have e2 : (none64 fun j => x.oc j && (trP (ro L i) j || lieU L (turnP L s i) j)) = (frD x (ro L i) && (nds (ro L i)).all fun z => !((s.po z.1.toNat != z.2) && hasB x.oc (L.p.getD z.1.toNat ([], 0)).2)) := by
    have : (fun j => x.oc j && (trP (ro L i) j || lieU L (turnP L s i) j)) = fun j => (trP (ro L i) j && x.oc j) || (x.oc j && lieU L (turnP L s i) j) := by
      funext j; cases x.oc j <;> simp
    rw [this, n64_and, free_eq he hi, lie_none lp]
    congr 1
    rw [Bool.eq_iff_iff, List.all_eq_true, List.all_eq_true]
    constructor
    · intro h z hz
      obtain ⟨zp, zb⟩ := z
      obtain ⟨h0, h1⟩ := hg.nd _ hz
      obtain ⟨m, rfl⟩ : ∃ m : Nat, zp = (m : Int) := ⟨zp.toNat, by simp only at h0; omega⟩
      have hml : m < L.p.length := by simp only at h1; omega
      have := h m (List.mem_range.2 hml)
      rw [turn_side he hi, (side_mem hn).1 hz] at this
      exact this
    · intro h p hp
      rw [turn_side he hi]
      cases hs : sideO (p : Int) (nds (ro L i)) with
      | none => rfl
      | some b => exact h _ ((side_mem hn).2 hs)
  rw [e1, e2]
  cases s.lo i <;> cases frD x (ro L i) <;> cases (List.range L.r.length).all (fun k => !(s.lo k && cf L i k)) <;> rfl
theorem oneP_nat (i j : Nat) : oneP (i : Nat) j = decide (j = i) := by unfold oneP; simp only [Int.ofNat_inj]
theorem canc_eq {L : Ly} {i : Nat} (hi : i < 64) (s : Sta) : cancC s i = ((s.lo i && !s.us i) && !s.ca i) := by
  unfold cancC
  have : (fun j => ((oneP (i : Nat) j && s.lo j) && !s.us j) && !s.ca j) = fun j => oneP (i : Nat) j && ((s.lo j && !s.us j) && !s.ca j) := by
    funext j; cases oneP (i : Nat) j <;> simp
  rw [this, none_one (fun j => (s.lo j && !s.us j) && !s.ca j), has_nat _ hi, Bool.not_not]
theorem any_need (L : Ly) (s : Sta) (p : Nat) : (anyR L s.lo (nor L) p || anyR L s.lo (rev L) p) = needD L s (p : Int) := by
  unfold anyR needD nor rev ndP
  rw [Bool.eq_iff_iff]
  simp only [Bool.or_eq_true, List.any_eq_true, Bool.and_eq_true, List.contains_iff_mem, beq_iff_eq]
  constructor
  · rintro (⟨i, hi, h1, h2⟩ | ⟨i, hi, h1, h2⟩)
    · exact ⟨i, hi, _, h2, h1, rfl⟩
    · exact ⟨i, hi, _, h2, h1, rfl⟩
  · rintro ⟨i, hi, ⟨zp, zb⟩, h2, h1, h3⟩
    simp only at h3
    subst h3
    cases zb
    · exact .inl ⟨i, hi, h1, h2⟩
    · exact .inr ⟨i, hi, h1, h2⟩
theorem move_eq {L : Ly} {x : Inp} {n : Int} (he : checkE L = 0) (s : Sta) : moveC L x.oc s n = ((decide (0 ≤ n) && decide (n < (L.p.length : Nat))) && (!hasB x.oc (L.p.getD n.toNat ([], 0)).2 && !needD L s n)) := by
  have hL := may_lim (check_may he)
  have lp := hL.p
  unfold moveC
  by_cases h : 0 ≤ n ∧ n < (L.p.length : Nat)
  · obtain ⟨i, rfl⟩ : ∃ i : Nat, n = (i : Int) := ⟨n.toNat, by omega⟩
    have hi : i < L.p.length := by omega
    have e0 : none64 (fun j => decide (j + 32 < 64) && oneP (i : Int) (j + 32)) = true := n64_iff.2 (fun j hj => by
      have : ¬ j + 32 = i := by omega
      rw [oneP_nat]; simp [this])
    have e1 : none32 (fun j => ptP L (i : Int) j && !(anyR L s.lo (nor L) j || anyR L s.lo (rev L) j)) = needD L s (i : Int) := by
      rw [Bool.eq_iff_iff, n32_iff]
      constructor
      · intro h
        have := h i (by omega)
        rw [any_need] at this
        have hp : ptP L (i : Int) i = true := by unfold ptP; rw [oneP_nat]; simp [lowP, hi]
        rw [hp] at this
        simpa using this
      · intro h j hj
        by_cases e : j = i
        · subst e; rw [any_need, h]; simp
        · have hp : ptP L (i : Int) j = false := by unfold ptP; rw [oneP_nat]; simp [e]
          rw [hp]; rfl
    have e2 : none64 (fun j => lieU L (ptP L (i : Int)) j && x.oc j) = !hasB x.oc (L.p.getD i ([], 0)).2 := by
      rw [none_comm, lie_none lp, Bool.eq_iff_iff, List.all_eq_true]
      constructor
      · intro h
        have := h i (List.mem_range.2 hi)
        have hp : ptP L (i : Int) i = true := by unfold ptP; rw [oneP_nat]; simp [lowP, hi]
        rw [hp] at this
        simpa using this
      · intro h p hp
        by_cases e : p = i
        · subst e; cases ptP L (p : Int) p <;> simp at h ⊢; exact h
        · have hp : ptP L (i : Int) p = false := by unfold ptP; rw [oneP_nat]; simp [e]
          rw [hp]; rfl
    have e3 : Int.toNat (i : Int) = i := by omega
    rw [e0, e1, e2, e3]
    have d1 : decide ((0 : Int) ≤ (i : Int)) = true := by simp
    have d2 : decide ((i : Int) < ((L.p.length : Nat) : Int)) = true := by simp; omega
    rw [d1, d2]
    cases needD L s (i : Int) <;> cases hasB x.oc (L.p.getD i ([], 0)).2 <;> rfl
  · have e1 : none32 (fun j => ptP L n j && !(anyR L s.lo (nor L) j || anyR L s.lo (rev L) j)) = true := n32_iff.2 (fun j hj => by
      have hp : ptP L n j = false := by
        unfold ptP oneP lowP
        by_cases e : (j : Int) = n
        · have : ¬ (j : Int) < (L.p.length : Nat) := by omega
          simp [this]
        · simp [e]
      rw [hp]; rfl)
    have d : (decide (0 ≤ n) && decide (n < ((L.p.length : Nat) : Int))) = false := by
      rw [Bool.eq_false_iff]; intro hh; simp at hh; exact h hh
    rw [e1, d]; simp
theorem com_eq {L : Ly} {x : Inp} (he : checkE L = 0) (s : Sta) (kd n : Int) : comB L x.oc s kd n = comD L x s kd n := by
  have hL := may_lim (check_may he)
  have lr := hL.r
  have lp := hL.p
  unfold comB comD okC
  by_cases k1 : kd = 1
  · subst k1
    rw [if_pos rfl]
    by_cases h : 0 ≤ n ∧ n < L.r.length
    · rw [if_pos h]
      have d : ((decide ((1 : Int) ≤ 1) && decide ((1 : Int) ≤ 3)) && (decide (0 ≤ n) && decide (n < if (1 : Int) = 3 then ((L.p.length : Nat) : Int) else ((L.r.length : Nat) : Int)))) = true := by simp [h]
      rw [if_pos d]
      have hi : n.toNat < L.r.length := by omega
      rw [set_eq he hi]
      cases hs : setD L x s n.toNat with
      | false => simp
      | true =>
        rw [if_pos rfl, if_pos ⟨rfl, rfl⟩]
        unfold setS
        congr 1
        · funext j; rw [oneP_nat]
        · funext p; exact po_turn he hi s p
    · rw [if_neg h, if_neg]
      intro hd
      simp at hd
      exact h ⟨hd.1, hd.2⟩
  · rw [if_neg k1]
    by_cases k2 : kd = 2
    · subst k2
      rw [if_pos rfl]
      by_cases h : 0 ≤ n ∧ n < L.r.length
      · rw [if_pos h]
        have d : ((decide ((1 : Int) ≤ 2) && decide ((2 : Int) ≤ 3)) && (decide (0 ≤ n) && decide (n < if (2 : Int) = 3 then ((L.p.length : Nat) : Int) else ((L.r.length : Nat) : Int)))) = true := by simp [h]
        have z1 : ¬ ((2 : Int) = 1 ∧ setD L x s n.toNat = true) := fun h => by cases h.1
        rw [if_pos d, if_neg z1]
        have hi : n.toNat < L.r.length := by omega
        rw [canc_eq (L := L) (by omega)]
        cases hs : ((s.lo n.toNat && !s.us n.toNat) && !s.ca n.toNat) with
        | false => simp
        | true =>
          rw [if_pos rfl, if_pos ⟨rfl, rfl⟩]
          unfold cancS ahP
          rw [none_one]
          congr 1
          · funext j; rw [oneP_nat]
          · rw [Bool.not_not]
      · rw [if_neg h, if_neg]
        intro hd
        simp at hd
        exact h ⟨hd.1, hd.2⟩
    · rw [if_neg k2]
      by_cases k3 : kd = 3
      · subst k3
        rw [if_pos rfl, move_eq he]
        by_cases h : 0 ≤ n ∧ n < (L.p.length : Nat)
        · have d : ((decide ((1 : Int) ≤ 3) && decide ((3 : Int) ≤ 3)) && (decide (0 ≤ n) && decide (n < if (3 : Int) = 3 then ((L.p.length : Nat) : Int) else ((L.r.length : Nat) : Int)))) = true := by simp [h]
          have d2 : (decide (0 ≤ n) && decide (n < ((L.p.length : Nat) : Int))) = true := by simp [h]
          have z1 : ¬ ((3 : Int) = 1 ∧ setD L x s n.toNat = true) := fun h => by cases h.1
          have z2 : ¬ ((3 : Int) = 2 ∧ ((s.lo n.toNat && !s.us n.toNat) && !s.ca n.toNat) = true) := fun h => by cases h.1
          rw [if_pos d, if_neg z1, if_neg z2, d2, Bool.true_and]
          cases hs : (!hasB x.oc (L.p.getD n.toNat ([], 0)).2 && !needD L s n) with
          | false => simp
          | true =>
            rw [if_pos rfl, if_pos ⟨rfl, rfl⟩]
            unfold moveS
            congr 1
            funext j
            congr 1
            obtain ⟨i, rfl⟩ : ∃ i : Nat, n = (i : Int) := ⟨n.toNat, by omega⟩
            have e3 : Int.toNat (i : Int) = i := by omega
            unfold ptP
            rw [oneP_nat, e3]
            by_cases e : j = i
            · subst e; simp [lowP]; omega
            · simp [e]
        · have d : (decide (0 ≤ n) && decide (n < ((L.p.length : Nat) : Int))) = false := by
            rw [Bool.eq_false_iff]; intro hh; simp at hh; exact h hh
          rw [d, if_neg (by simp), if_neg]
          intro hd
          simp at hd
          exact h ⟨hd.1, hd.2⟩
      · rw [if_neg k3, if_neg]
        intro hd
        simp at hd
        omega
theorem cmd_eq {L : Ly} {x : Inp} (he : checkE L = 0) : ∀ (cs : List (Int × Int)) (s : Sta), cmdB L x.oc s cs = cmdD L x s cs
  | [], s => rfl
  | c :: cs, s => by
    show cmdB L x.oc (comB L x.oc s c.1 c.2) cs = cmdD L x (comD L x s c.1 c.2) cs
    rw [com_eq he, cmd_eq he cs]
end Go.AM.Fd

set_option linter.unusedSimpArgs false
set_option linter.unusedVariables false
namespace Go.AM.Fd
open Go.Proofs Go.AM.F
structure SI (L : Ly) (us : Nat → Bool) (s : Sta) : Prop where
  u : s.us = us
  ul : ∀ i, us i = true → s.lo i = true
  cl : ∀ i, s.ca i = true → s.lo i = true
  ln : ∀ i, s.lo i = true → i < L.r.length
theorem si_tidy (L : Ly) (s : Sta) : SI L (tidyS L s).us (tidyS L s) := by
  refine ⟨rfl, fun i h => ?_, fun i h => ?_, fun i h => ?_⟩
  · have h' : (s.us i && (s.lo i && lowP L.r.length i)) = true := h
    show (s.lo i && lowP L.r.length i) = true
    simp only [Bool.and_eq_true] at h' ⊢; exact h'.2
  · have h' : (s.ca i && (s.lo i && lowP L.r.length i)) = true := h
    show (s.lo i && lowP L.r.length i) = true
    simp only [Bool.and_eq_true] at h' ⊢; exact h'.2
  · have h' : (s.lo i && lowP L.r.length i) = true := h
    simp only [Bool.and_eq_true, lowP, decide_eq_true_eq] at h'
    omega
theorem si_com {L : Ly} {x : Inp} {us : Nat → Bool} {s : Sta} (h : SI L us s) (kd n : Int) : SI L us (comD L x s kd n) := by
  unfold comD
  split
  · rename_i hok
    simp only [okC, Bool.and_eq_true, decide_eq_true_eq] at hok
    split
    · rename_i hk
      have hn : n.toNat < L.r.length := by
        have := hok.2.2
        rw [hk.1, if_neg (by omega)] at this
        omega
      refine ⟨h.u, fun i hi => ?_, fun i hi => ?_, fun i hi => ?_⟩
      · show (s.lo i || decide (i = n.toNat)) = true
        rw [h.ul i hi]; rfl
      · show (s.lo i || decide (i = n.toNat)) = true
        rw [h.cl i hi]; rfl
      · have hi' : (s.lo i || decide (i = n.toNat)) = true := hi
        simp only [Bool.or_eq_true, decide_eq_true_eq] at hi'
        rcases hi' with h1 | h1
        · exact h.ln i h1
        · omega
    · split
      · rename_i hk
        simp only [Bool.and_eq_true] at hk
        refine ⟨h.u, h.ul, fun i hi => ?_, h.ln⟩
        have hi' : (s.ca i || decide (i = n.toNat)) = true := hi
        simp only [Bool.or_eq_true, decide_eq_true_eq] at hi'
        rcases hi' with h1 | h1
        · exact h.cl i h1
        · rw [h1]; exact hk.2.1.1
      · split
        · exact ⟨h.u, h.ul, h.cl, h.ln⟩
        · exact h
  · exact h
theorem si_cmd {L : Ly} {x : Inp} {us : Nat → Bool} : ∀ {cs : List (Int × Int)} {s : Sta}, SI L us s → SI L us (cmdD L x s cs)
  | [], s, h => h
  | c :: cs, s, h => si_cmd (cs := cs) (si_com h c.1 c.2)
def at_eq (s t : Sta) (j : Nat) : Prop := s.lo j = t.lo j ∧ s.us j = t.us j ∧ s.ca j = t.ca j ∧ s.ti j = t.ti j
theorem at_refl (s : Sta) (j : Nat) : at_eq s s j := ⟨rfl, rfl, rfl, rfl⟩
theorem at_trans {s t u : Sta} {j : Nat} (h : at_eq s t j) (k : at_eq t u j) : at_eq s u j := ⟨h.1.trans k.1, h.2.1.trans k.2.1, h.2.2.1.trans k.2.2.1, h.2.2.2.trans k.2.2.2⟩
theorem ro_po (L : Ly) (x : Inp) (us : Nat → Bool) (s : Sta) (i : Nat) : (roD L x us s i).po = s.po := by
  unfold roD relS; repeat' split
  all_goals rfl
theorem ro_other (L : Ly) (x : Inp) (us : Nat → Bool) (s : Sta) {i j : Nat} (h : j ≠ i) : at_eq (roD L x us s i) s j := by
  unfold roD relS at_eq upd
  repeat' split
  all_goals simp [h]
theorem ro_here (L : Ly) (x : Inp) (us : Nat → Bool) {s t : Sta} {i : Nat} (h : at_eq s t i) : at_eq (roD L x us s i) (roD L x us t i) i := by
  obtain ⟨h1, h2, h3, h4⟩ := h
  unfold roD relS at_eq upd
  rw [h3, h4]
  repeat' split
  all_goals simp [h1, h2, h3, h4]
theorem ros_at (L : Ly) (x : Inp) (us : Nat → Bool) (s : Sta) (j : Nat) : ∀ k, at_eq (rosD L x us s k) (if j < k ∧ s.lo j = true then roD L x us s j else s) j ∧ (rosD L x us s k).po = s.po
  | 0 => ⟨by rw [if_neg (by omega)]; exact at_refl _ _, rfl⟩
  | k + 1 => by
    obtain ⟨ih, ihp⟩ := ros_at L x us s j k
    rw [rosD_s]
    by_cases e : j = k
    · subst e
      rw [if_neg (by omega)] at ih
      have hl := ih.1
      cases hlo : s.lo j with
      | false =>
        rw [hlo] at hl
        rw [if_neg (by rw [hl]; simp), if_neg (by simp)]
        exact ⟨ih, ihp⟩
      | true =>
        rw [hlo] at hl
        rw [if_pos hl, if_pos ⟨by omega, rfl⟩]
        exact ⟨ro_here L x us ih, by rw [ro_po]; exact ihp⟩
    · have ec : (j < k + 1 ∧ s.lo j = true) = (j < k ∧ s.lo j = true) := by
        apply propext
        exact ⟨fun h => ⟨by omega, h.2⟩, fun h => ⟨by omega, h.2⟩⟩
      simp only [ec]
      split
      · exact ⟨at_trans (ro_other L x us _ e) ih, by rw [ro_po]; exact ihp⟩
      · exact ⟨ih, ihp⟩
theorem sta_ext {s t : Sta} (h : ∀ j, at_eq s t j) (hp : s.po = t.po) : s = t := by
  obtain ⟨a, b, c, d, e⟩ := s
  obtain ⟨a', b', c', d', e'⟩ := t
  simp only at hp
  subst hp
  have h1 : a = a' := funext fun j => (h j).1
  have h2 : b = b' := funext fun j => (h j).2.1
  have h3 : c = c' := funext fun j => (h j).2.2.1
  have h4 : d = d' := funext fun j => (h j).2.2.2
  subst h1 h2 h3 h4; rfl
theorem end_eq {L : Ly} {x : Inp} (he : checkE L = 0) {us : Nat → Bool} {s : Sta} (h : SI L us s) : endS L x us s = rosD L x us s L.r.length := by
  refine sta_ext (fun j => ?_) (by rw [(ros_at L x us s 0 L.r.length).2]; rfl)
  have hr := (ros_at L x us s j L.r.length).1
  obtain ⟨r1, r2, r3, r4⟩ := hr
  unfold at_eq
  rw [r1, r2, r3, r4]
  clear r1 r2 r3 r4
  have hu : s.us j = us j := by rw [h.u]
  show (s.lo j && !relB L x us s j) = _ ∧ ((s.lo j && !relB L x us s j) && (us j || entB L x j)) = _ ∧ (s.ca j && !relB L x us s j) = _ ∧ (if relB L x us s j then 0 else if waitB L x us s j && !decide (s.ti j = 0) then s.ti j - 1 else s.ti j) = _
  cases hlo : s.lo j with
  | false =>
    have hus : us j = false := by
      cases hx : us j with
      | false => rfl
      | true => have := h.ul j hx; rw [hlo] at this; cases this
    have hca : s.ca j = false := by
      cases hx : s.ca j with
      | false => rfl
      | true => have := h.cl j hx; rw [hlo] at this; cases this
    rw [if_neg (by simp)]
    have hw : waitB L x us s j = false := by unfold waitB; rw [hca]; rfl
    have hrel : relB L x us s j = false := by unfold relB; rw [hus, hw]; simp
    rw [hrel, hw, hca, hlo, hu, hus]; simp
  | true =>
    have hj := h.ln j hlo
    rw [if_pos ⟨hj, rfl⟩]
    have hfree : freeB L x j = frD x (ro L j) := by unfold freeB; rw [free_eq he hj]; simp [hj]
    have hent := ent_eq (x := x) hj
    unfold relB waitB roD relS upd
    rw [hfree, hent]
    cases hus : us j <;> cases hen : hasB x.oc ((ro L j).path.getD 0 0) <;> cases hfr : frD x (ro L j) <;> cases hca : s.ca j <;> by_cases ht : s.ti j = 0 <;>
      (have ht' : (0 < s.ti j) = (¬ s.ti j = 0) := by apply propext; omega
       rw [hus] at hu
       simp [hlo, hu, hca, ht, ht'])
theorem step_eq {L : Ly} (he : checkE L = 0) (s : Sta) (x : Inp) (cs : List (Int × Int)) : stepB L s x cs = stepD L s x cs := by
  unfold stepB stepD
  rw [cmd_eq he]
  exact end_eq he (si_cmd (si_tidy L s))
theorem pr_eq {L : Ly} {x : Inp} (he : checkE L = 0) (s : Sta) (i : Nat) : prB L x s i = (decide (i < L.r.length) && proD L x s i) := by
  unfold prB proD freeB detB
  by_cases hi : i < L.r.length
  · rw [free_eq he hi]
    have hg := check_good he (List.getElem_mem hi)
    rw [← ro_eq hi] at hg
    have lp := (may_lim (check_may he)).p
    have e : ((none32 fun p => nor L i p && !sideN x p) && (none32 fun p => rev L i p && !sideR x p)) = (nds (ro L i)).all fun z => if z.2 then sideR x z.1.toNat else sideN x z.1.toNat := by
      rw [Bool.eq_iff_iff, Bool.and_eq_true, n32_iff, n32_iff, List.all_eq_true]
      constructor
      · rintro ⟨h1, h2⟩ ⟨zp, zb⟩ hz
        obtain ⟨g0, g1⟩ := hg.nd _ hz
        obtain ⟨m, rfl⟩ : ∃ m : Nat, zp = (m : Int) := ⟨zp.toNat, by simp only at g0; omega⟩
        have hm : m < 32 := by simp only at g1; omega
        have hmt : (Int.toNat (m : Int)) = m := by omega
        simp only [hmt]
        cases zb with
        | false =>
          have hc : nor L i m = true := List.contains_iff_mem.2 hz
          have := h1 m hm
          rw [hc] at this
          simpa using this
        | true =>
          have hc : rev L i m = true := List.contains_iff_mem.2 hz
          have := h2 m hm
          rw [hc] at this
          simpa using this
      · intro h
        refine ⟨fun p hp => ?_, fun p hp => ?_⟩
        · cases hc : nor L i p with
          | false => rfl
          | true =>
            have := h _ (List.contains_iff_mem.1 (show (nds (ro L i)).contains ((p : Int), false) = true from hc))
            have hmt : (Int.toNat (p : Int)) = p := by omega
            simp only [hmt, Bool.false_eq_true, if_false] at this
            rw [this]; rfl
        · cases hc : rev L i p with
          | false => rfl
          | true =>
            have := h _ (List.contains_iff_mem.1 (show (nds (ro L i)).contains ((p : Int), true) = true from hc))
            have hmt : (Int.toNat (p : Int)) = p := by omega
            simp only [hmt, if_true] at this
            rw [this]; rfl
    rw [e]
    simp only [hi, decide_true, Bool.true_and]
    cases s.lo i <;> cases s.us i <;> cases s.ca i <;> cases frD x (ro L i) <;> simp
  · simp [hi]
end Go.AM.Fd

set_option linter.unusedSimpArgs false
set_option linter.unusedVariables false
set_option maxRecDepth 20000
namespace Go.AM.Fd
open Nat (reduceAdd reduceEqDiff reduceLT reduceLeDiff reduceMul reduceSub)
open Go.Proofs Go.AM.F
structure MutS (K : AHeap) (n0 n1 : Nat) (X : AHeap) : Prop where
  n : X.n = K.n
  same : ∀ b, (b < n0 ∨ n1 ≤ b) → X.get b = K.get b
  shape : ∀ b r z c e, K.get b = some (.cells true r z c e) → ∃ c', X.get b = some (.cells true r z c' e) ∧ c'.length = c.length ∧ (z = 6 → c' = c)
theorem MutS.refl (K : AHeap) (n0 n1 : Nat) : MutS K n0 n1 K := ⟨rfl, fun _ _ => rfl, fun b r z c e g => ⟨c, g, rfl, fun _ => rfl⟩⟩
theorem MutS.set {K X : AHeap} {n0 n1 b z e : Nat} {rm : Bool} {c c' : List Value} (h : MutS K n0 n1 X) (g : K.get b = some (.cells true rm z c e)) (hz : z ≠ 6) (h0 : n0 ≤ b) (h1 : b < n1) (hl : c'.length = c.length) : MutS K n0 n1 (X.set b (.cells true rm z c' e)) := by
  have hbX : b < X.n := by rw [h.n]; exact AHeap.get_lt g
  obtain ⟨c0, gX, _, _⟩ := h.shape b rm z c e g
  refine ⟨by rw [set_n]; exact h.n, fun d hd => ?_, fun d r' z' c1 e' gd => ?_⟩
  · rw [AHeap.get_set_other X (by omega) hbX]; exact h.same d hd
  · by_cases e1 : d = b
    · subst e1
      rw [g] at gd
      cases gd
      exact ⟨c', AHeap.get_set_same gX _, hl, fun e => absurd e hz⟩
    · rw [AHeap.get_set_other X e1 hbX]
      exact h.shape d r' z' c1 e' gd
theorem MutS.sl6 {K X H : AHeap} {n0 n1 e : Nat} {v : Value} {rows : List (List Value)} (h : MutS K n0 n1 X) (w : OW e 6 H K v rows) : Sl X 6 v rows := by
  refine (w.sl).get' fun b hb hl => ?_
  rcases w.ap with ⟨rfl, _, _⟩ | ⟨b', room, rfl, h1, h2⟩
  · cases hb
  · cases hb
    obtain ⟨c', g, _, e6⟩ := h.shape _ _ _ _ _ h2
    rw [g, h2, e6 rfl]
theorem eq_out (K : AHeap) (neg : Bool) (f g : Nat → Bool) : asem (.eqs [1, 1] neg (.agg #[S64 f, S32 g]) (.agg #[S64 f, S32 g])) K = some (.bool (if neg then false else true), K) := by
  simp [asem, eqCs, eqC, S64, S32]
theorem staB_refl (s : Sta) : staB s s = true := by unfold staB; simp
set_option maxHeartbeats 8000000 in
theorem lawStep : ∀ H args, NoOwn H → AVs Go.Proofs.Try.prog H.get [27, 32, 43] args → ∃ H', ARun Go.Proofs.Try.prog 0 4 args H (.bool true) H' := by
  intro H args _ h
  match args, h with
  | [v, z, y], ⟨h0, h1, h2, _⟩ =>
    obtain ⟨u, xs, L, rfl, hl, hi, hb⟩ := av_lyB h0
    obtain ⟨s, rfl⟩ := av_state h1
    obtain ⟨x, cv, cs, rfl, hc, hcl⟩ := av_inp h2
    suffices h' : ∃ w H', ARun Go.Proofs.Try.prog 0 4 [.agg u.l.toArray, .agg (stl s).toArray, .agg (inl x cv).toArray] H w H' ∧ w = .bool true by
      obtain ⟨_, K, a, rfl⟩ := h'
      exact ⟨K, a⟩
    refine walk2 f4_ok f4_n ?_
    intro Q hq1 hq2
    have ho := ly_ones hl
    have ll : u.l.length = 4 := rfl
    have hinl : inl x cv = [S64 x.oc, S32 x.nr, S32 x.rv, cv] := rfl
    have isc := Sl.is hc
    have onec := Sl.one hc
    have clen := hc.len
    obtain ⟨K0, hK0⟩ : ∃ X, X = ((H.alloc (.cells true false 4 u.l 27)).alloc (.cells true false 68 (stl s) 32)).alloc (.cells true false 4 (inl x cv) 43) := ⟨_, rfl⟩
    have k0 : Keeps H K0 := by rw [hK0]; exact (((Keeps.refl H).alloc _).alloc _).alloc _
    have n0 : K0.n = H.n + 3 := by rw [hK0]; rfl
    have gl0 : K0.get H.n = some (.cells true false 4 u.l 27) := by rw [hK0]; exact (((Keeps.refl _).alloc _).alloc _).at_ (AHeap.get_alloc_new H _)
    have gs0 : K0.get (H.n + 1) = some (.cells true false 68 (stl s) 32) := by rw [hK0]; exact ((Keeps.refl _).alloc _).at_ (AHeap.get_alloc_new (H.alloc _) _)
    have gi0 : K0.get (H.n + 2) = some (.cells true false 4 (inl x cv) 43) := by rw [hK0]; exact AHeap.get_alloc_new ((H.alloc _).alloc _) _
    have hl0 := hl.keeps k0
    have hc0 := hc.keeps k0
    rw [hinl] at hK0 gi0 ⊢
    by_cases hbig : (100 : Int) < ((cs.length : Nat) : Int)
    · simp (disch := first | assumption | omega | (simp only [LN] <;> omega) | (simp (disch := first | assumption | omega | (simp only [LN] <;> omega)) only [row_alloc, row_set]; assumption)) only [f4, W_block, P3, ↓reduceIte, reduceAdd, reduceEqDiff, reduceCtorEq, initFr, reduceLT, clsA, reduceLeDiff, reduceMul, reduceSub, reduceIte, ho, ll, stl_one, stl_len, onec, o_s64, o_s32, one_s64, one_s32, isc, clen, hbig]
      refine callK (t8 _) ?_
      rintro _ X ⟨rfl, hX⟩
      rw [hX]
      simp (disch := first | assumption | omega | (simp only [LN] <;> omega) | (simp (disch := first | assumption | omega | (simp only [LN] <;> omega)) only [row_alloc, row_set]; assumption)) only [W_block, P3, ↓reduceIte, reduceAdd, reduceEqDiff, reduceCtorEq, initFr, reduceLT, clsA, reduceLeDiff, reduceMul, reduceSub, reduceIte]
      exact hq2 _ _ ⟨_, rfl, rfl⟩
    simp (disch := first | assumption | omega | (simp only [LN] <;> omega) | (simp (disch := first | assumption | omega | (simp only [LN] <;> omega)) only [row_alloc, row_set]; assumption)) only [f4, W_block, P3, ↓reduceIte, reduceAdd, reduceEqDiff, reduceCtorEq, initFr, reduceLT, clsA, reduceLeDiff, reduceMul, reduceSub, reduceIte, ho, ll, stl_one, stl_len, onec, o_s64, o_s32, one_s64, one_s32, isc, clen, hbig]
    simp only [← hK0]
    refine callK (t13 hl0 hb) ?_
    rintro _ K1 ⟨k1, u', ys, rfl, cp, hys⟩
    have hl1 := cp.ly hys
    have ho1 := ly_ones hl1
    have ll1 : (V4.l u').length = 4 := rfl
    obtain ⟨K2, hK2⟩ : ∃ X, X = K1.alloc (.cells true false 4 (V4.l u') 27) := ⟨_, rfl⟩
    have k2 : Keeps K1 K2 := by rw [hK2]; exact (Keeps.refl K1).alloc _
    have n2 : K2.n = K1.n + 1 := by rw [hK2]; rfl
    have go2 : K2.get K1.n = some (.cells true false 4 (V4.l u') 27) := by rw [hK2]; exact AHeap.get_alloc_new K1 _
    simp (disch := first | assumption | omega | (simp only [LN] <;> omega) | (simp (disch := first | assumption | omega | (simp only [LN] <;> omega)) only [row_alloc, row_set]; assumption)) only [W_block, P3, ↓reduceIte, reduceAdd, reduceEqDiff, reduceCtorEq, initFr, reduceLT, clsA, reduceLeDiff, reduceMul, reduceSub, reduceIte, ho1, ll1]
    simp only [← hK2]
    refine callK (t7 (hl1.keeps k2) hi) ?_
    rintro _ K3 ⟨k3, hm⟩
    rcases hm with rfl | ⟨b, he, rfl, hMF⟩
    · simp (disch := first | assumption | omega | (simp only [LN] <;> omega) | (simp (disch := first | assumption | omega | (simp only [LN] <;> omega)) only [row_alloc, row_set]; assumption)) only [W_block, P3, ↓reduceIte, reduceAdd, reduceEqDiff, reduceCtorEq, initFr, reduceLT, clsA, reduceLeDiff, reduceMul, reduceSub, reduceIte]
      refine callK (t8 _) ?_
      rintro _ X ⟨rfl, hX⟩
      rw [hX]
      simp (disch := first | assumption | omega | (simp only [LN] <;> omega) | (simp (disch := first | assumption | omega | (simp only [LN] <;> omega)) only [row_alloc, row_set]; assumption)) only [W_block, P3, ↓reduceIte, reduceAdd, reduceEqDiff, reduceCtorEq, initFr, reduceLT, clsA, reduceLeDiff, reduceMul, reduceSub, reduceIte]
      exact hq2 _ _ ⟨_, rfl, rfl⟩
    have hL := may_lim (check_may he)
    have lpp := hL.p
    have lrr := hL.r
    have cp3 := (cp.keeps k2).keeps k3
    have go3 := k3.at_ go2
    have k13 := k2.trans k3
    have lenp := cp3.p.len
    have isp := cp3.p.is
    have lenr := cp3.r.len
    have isr := cp3.r.is
    simp only [List.length_map] at lenp lenr
    have ylen : ys.length = L.r.length := by rw [← hys]; simp
    rw [ylen] at lenr
    have hul' : V4.l u' = [u'.s, u'.p, u'.g, u'.r] := rfl
    rw [hul'] at go3
    obtain ⟨A1, hA1⟩ : ∃ v : Value, v = .agg u.l.toArray := ⟨_, rfl⟩
    obtain ⟨A2, hA2⟩ : ∃ v : Value, v = .agg (stl s).toArray := ⟨_, rfl⟩
    obtain ⟨A4, hA4⟩ : ∃ v : Value, v = .agg #[S64 x.oc, S32 x.nr, S32 x.rv, cv] := ⟨_, rfl⟩
    simp (disch := first | assumption | omega | (simp only [LN] <;> omega) | (simp (disch := first | assumption | omega | (simp only [LN] <;> omega)) only [row_alloc, row_set]; assumption)) only [ P3, ↓reduceIte, reduceAdd, reduceEqDiff, reduceCtorEq, initFr, reduceLT, clsA, reduceLeDiff, reduceMul, reduceSub, reduceIte]
    rw [W_block, ← hA1, ← hA2, ← hA4]
    refine W_loop2 (fun q fr X => ∃ i x20, fr = [A1, A2, A4, ptr H.n 0, ptr (H.n + 1) 0, ptr (H.n + 2) 0, .bool false, ptr K1.n 0, ptr b 0, .bool true, .int .i64 ((i : Nat) : Int), undef, undef, undef, undef, undef, undef, undef, .bool false, .bool false, x20, undef] ∧
        MutS K3 K0.n K1.n X ∧ i ≤ L.p.length ∧ q = L.p.length - i) L.p.length
      ⟨0, _, rfl, MutS.refl _ _ _, by omega, rfl⟩ ?_
    rintro Q' q fr X ⟨i, x20, rfl, mX, hile, rfl⟩ hn' hx' hret
    have goX := (mX.same K1.n (.inr (Nat.le_refl _))).trans go3
    by_cases hlt : i < L.p.length
    · rcases cp.p.ap with ⟨_, h9, _⟩ | ⟨pb, room, hpv, h9, h10⟩
      · exfalso; rw [List.length_map] at h9; omega
      have g3 := k13.at_ h10
      obtain ⟨c', gX, hcl', _⟩ := mX.shape _ _ _ _ _ g3
      have e0 : (0 : Int) ≤ (i : Int) := by omega
      have e1 : (i : Int) < ((L.p.length : Nat) : Int) := by omega
      have hw : IntKind.i64.wrap ((i : Int) + 1) = ((i + 1 : Nat) : Int) := by rw [wrap_i64 (by omega) (by omega)]; simp
      have hlen : (L.p.map pRow).flatten.length = L.p.length * 2 := by rw [flat_len cp.p.r]; simp
      have hll : i * 2 + 1 < c'.length := by omega
      have hpv2 : u'.p = slc pb 0 L.p.length L.p.length := by simpa using hpv
      have hpb0 : K0.n ≤ pb := cp.p.f pb (by rw [hpv2]; rfl)
      have hpb1 : pb < K1.n := AHeap.get_lt h10
      simp (disch := first | assumption | omega | (simp only [LN] <;> omega) | (simp (disch := first | assumption | omega | (simp only [LN] <;> omega)) only [row_alloc, row_set]; assumption)) only [W_block, P3, ↓reduceIte, reduceAdd, reduceEqDiff, reduceCtorEq, initFr, reduceLT, clsA, reduceLeDiff, reduceMul, reduceSub, reduceIte, goX, hpv2, e0, e1, gX, hll, hw, Int.toNat_natCast, Nat.zero_add]
      exact hn' _ _ _ ⟨i + 1, _, rfl, mX.set g3 (by omega) hpb0 hpb1 (by rw [List.length_set]; exact hcl'), by omega, rfl⟩ (by omega)
    · have hie : i = L.p.length := by omega
      subst hie
      have e1 : ¬ ((L.p.length : Nat) : Int) < ((L.p.length : Nat) : Int) := by omega
      simp (disch := first | assumption | omega | (simp only [LN] <;> omega) | (simp (disch := first | assumption | omega | (simp only [LN] <;> omega)) only [row_alloc, row_set]; assumption)) only [W_block, P3, ↓reduceIte, reduceAdd, reduceEqDiff, reduceCtorEq, initFr, reduceLT, clsA, reduceLeDiff, reduceMul, reduceSub, reduceIte, goX, isp, lenp, e1]
      refine hx' _ _ _ ?_
      simp (disch := first | assumption | omega | (simp only [LN] <;> omega) | (simp (disch := first | assumption | omega | (simp only [LN] <;> omega)) only [row_alloc, row_set]; assumption)) only [ P3, ↓reduceIte, reduceAdd, reduceEqDiff, reduceCtorEq, initFr, reduceLT, clsA, reduceLeDiff, reduceMul, reduceSub, reduceIte]
      rw [W_block]
      refine W_loop2 (fun q fr Y => ∃ i x21, fr = [A1, A2, A4, ptr H.n 0, ptr (H.n + 1) 0, ptr (H.n + 2) 0, .bool false, ptr K1.n 0, ptr b 0, .bool true, .int .i64 ((L.p.length : Nat) : Int), .int .i64 ((i : Nat) : Int), undef, undef, undef, undef, undef, undef, .bool false, .bool false, .bool false, x21] ∧
          MutS K3 K0.n K1.n Y ∧ i ≤ L.r.length ∧ q = L.r.length - i) L.r.length
        ⟨0, _, rfl, mX, by omega, rfl⟩ ?_
      rintro Q2 q fr Y ⟨i, x21, rfl, mY, hile, rfl⟩ hn2 hx2 hret2
      have goY := (mY.same K1.n (.inr (Nat.le_refl _))).trans go3
      by_cases hlt : i < L.r.length
      · have hiy : i < ys.length := by rw [ylen]; exact hlt
        have hyr : (ys.getD i rv0).r = L.r[i] := by
          have e := congrArg (fun l : List Ro => l[i]?) hys
          simp only [List.getElem?_map, List.getElem?_eq_getElem hiy, List.getElem?_eq_getElem hlt, Option.map_some] at e
          rw [List.getD_eq_getElem?_getD, List.getElem?_eq_getElem hiy]
          exact Option.some.inj e
        have hym : ys.getD i rv0 ∈ ys := by rw [List.getD_eq_getElem?_getD, List.getElem?_eq_getElem hiy]; exact List.getElem_mem hiy
        have hgood := check_good he (List.getElem_mem hlt)
        rw [← hyr] at hgood
        have yo := cp.y _ hym
        obtain ⟨na, ra⟩ := RL.at_ (H := Y) (v := u'.r) (l := ys) (mY.sl6 cp3.r) hiy
        generalize ys.getD i rv0 = w at *
        have rowy : w.row = [.string ⟨w.r.n.toArray⟩, .int .i64 w.r.g, w.vp, w.vq, w.vo, w.vf] := rfl
        rw [rowy] at ra
        rcases yo.p.ap with ⟨_, h9, _⟩ | ⟨pb, room, hpv, h9, h10⟩
        · exfalso; rw [List.length_map] at h9; have := hgood.ne; omega
        have g3 := k13.at_ h10
        obtain ⟨c', gY, hcl', _⟩ := mY.shape _ _ _ _ _ g3
        have e0 : (0 : Int) ≤ (i : Int) := by omega
        have e1 : (i : Int) < ((L.r.length : Nat) : Int) := by omega
        have hw : IntKind.i64.wrap ((i : Int) + 1) = ((i + 1 : Nat) : Int) := by rw [wrap_i64 (by omega) (by omega)]; simp
        have hlen : (w.r.path.map iRow).flatten.length = w.r.path.length := by rw [flat_len yo.p.r]; simp
        have hne := hgood.ne
        have hll : 0 < c'.length := by omega
        have hpv2 : w.vp = slc pb 0 w.r.path.length w.r.path.length := by simpa using hpv
        have hpb0 : K0.n ≤ pb := yo.p.f pb (by rw [hpv2]; rfl)
        have hpb1 : pb < K1.n := AHeap.get_lt h10
        have p0 : (0 : Int) < ((w.r.path.length : Nat) : Int) := by omega
        have t0 : Int.toNat 0 = 0 := rfl
        rw [hpv2] at ra
        simp (disch := first | assumption | omega | (simp only [LN] <;> omega) | (simp (disch := first | assumption | omega | (simp only [LN] <;> omega)) only [row_alloc, row_set]; assumption)) only [W_block, P3, ↓reduceIte, reduceAdd, reduceEqDiff, reduceCtorEq, initFr, reduceLT, clsA, reduceLeDiff, reduceMul, reduceSub, reduceIte, goY, isr, lenr, na, ra, e0, e1, p0, t0, a_load1v, gY, hll, hw, Nat.zero_add]
        exact hn2 _ _ _ ⟨i + 1, _, rfl, mY.set g3 (by omega) hpb0 hpb1 (by rw [List.length_set]; exact hcl'), by omega, rfl⟩ (by omega)
      · have hie : i = L.r.length := by omega
        subst hie
        have e1 : ¬ ((L.r.length : Nat) : Int) < ((L.r.length : Nat) : Int) := by omega
        simp (disch := first | assumption | omega | (simp only [LN] <;> omega) | (simp (disch := first | assumption | omega | (simp only [LN] <;> omega)) only [row_alloc, row_set]; assumption)) only [W_block, P3, ↓reduceIte, reduceAdd, reduceEqDiff, reduceCtorEq, initFr, reduceLT, clsA, reduceLeDiff, reduceMul, reduceSub, reduceIte, goY, isr, lenr, e1]
        refine hx2 _ _ _ ?_
        have kY : Keeps K0 Y := ⟨by rw [mY.n]; have := k1.n; have := k13.n; omega, fun c hc => by rw [mY.same c (.inl hc)]; exact ((k1.trans k13).get c hc)⟩
        have glY := kY.at_ gl0
        have gsY := kY.at_ gs0
        have giY := kY.at_ gi0
        have hlY := hl0.keeps kY
        have hcY := hc0.keeps kY
        have hMY : MaR Y b L := (hMF.base (show K1.n ≤ K2.n by omega)).same (fun c hc1 _ => mY.same c (.inr hc1)) |>.r
        have hcs : cs.length ≤ 1000000 := by omega
        have t1 := fun Z (k : Keeps Y Z) => t14 (s := s) (x := x) (hMY.keeps k) hL (hcY.keeps k) hcs
        have t2 := fun Z (k : Keeps Y Z) => t15 (s := s) (x := x) (hlY.keeps k) he (hcY.keeps k) hcs
        have hst := step_eq he s x cs
        have hpr : prB L x (stepD L s x cs) = fun i => decide (i < L.r.length) && proD L x (stepD L s x cs) i := funext fun i => pr_eq he _ i
        rw [hst, hpr] at t1
        obtain ⟨t, ht⟩ : ∃ t, t = stepD L s x cs := ⟨_, rfl⟩
        obtain ⟨pr, hprr⟩ : ∃ pr : Nat → Bool, pr = fun i => decide (i < L.r.length) && proD L x t i := ⟨_, rfl⟩
        simp only [hinl] at t1 t2
        rw [← ht, ← hprr] at t1 t2
        have ly0 := AHeap.get_lt glY
        have ly1 := AHeap.get_lt gsY
        have ly2 := AHeap.get_lt giY
        simp (disch := first | assumption | omega | (simp only [LN] <;> omega) | (simp (disch := first | assumption | omega | (simp only [LN] <;> omega)) only [row_alloc, row_set]; assumption)) only [W_block, P3, ↓reduceIte, reduceAdd, reduceEqDiff, reduceCtorEq, initFr, reduceLT, clsA, reduceLeDiff, reduceMul, reduceSub, reduceIte, glY, gsY, giY, rng68, ll]
        refine callK (t1 _ (Keeps.refl Y)) ?_
        rintro _ X' ⟨rfl, hX'⟩
        rw [hX']
        obtain ⟨Y1, hY1⟩ : ∃ Z, Z = (Y.alloc (.cells true false 68 (stl t) 32)).alloc (.cells true false 2 [S64 pr, S32 t.po] 52) := ⟨_, rfl⟩
        have kk1 : Keeps Y Y1 := by rw [hY1]; exact ((Keeps.refl Y).alloc _).alloc _
        have ga1 : Y1.get Y.n = some (.cells true false 68 (stl t) 32) := by rw [hY1]; exact ((Keeps.refl _).alloc _).at_ (AHeap.get_alloc_new Y _)
        have gb1 : Y1.get (Y.n + 1) = some (.cells true false 2 [S64 pr, S32 t.po] 52) := by rw [hY1]; exact AHeap.get_alloc_new (Y.alloc _) _
        have kY1 : Keeps Y Y1 := (Keeps.refl Y).trans kk1
        have gl1 := kY1.at_ glY
        have gs1 := kY1.at_ gsY
        have gi1 := kY1.at_ giY
        simp (disch := first | assumption | omega | (simp only [LN] <;> omega) | (simp (disch := first | assumption | omega | (simp only [LN] <;> omega)) only [row_alloc, row_set]; assumption)) only [W_block, P3, ↓reduceIte, reduceAdd, reduceEqDiff, reduceCtorEq, initFr, reduceLT, clsA, reduceLeDiff, reduceMul, reduceSub, reduceIte, glY, gsY, giY, rng68, stn68s, stl_one, stl_len, Z68I_z, ll, o_s64, o_s32, one_s64, one_s32, ly0, ly1, ly2]
        simp only [← hY1]
        have la1 := AHeap.get_lt gl1
        have lb1 := AHeap.get_lt gs1
        have lc1 := AHeap.get_lt gi1
        refine callK (t2 _ kY1) ?_
        rintro _ X' ⟨rfl, hX'⟩
        rw [hX']
        obtain ⟨Y2, hY2⟩ : ∃ Z, Z = (Y1.alloc (.cells true false 68 (stl t) 32)).alloc (.cells true false 2 [S64 pr, S32 t.po] 52) := ⟨_, rfl⟩
        have kk2 : Keeps Y1 Y2 := by rw [hY2]; exact ((Keeps.refl Y1).alloc _).alloc _
        have ga2 : Y2.get Y1.n = some (.cells true false 68 (stl t) 32) := by rw [hY2]; exact ((Keeps.refl _).alloc _).at_ (AHeap.get_alloc_new Y1 _)
        have gb2 : Y2.get (Y1.n + 1) = some (.cells true false 2 [S64 pr, S32 t.po] 52) := by rw [hY2]; exact AHeap.get_alloc_new (Y1.alloc _) _
        have kY2 : Keeps Y Y2 := kY1.trans kk2
        have gl2 := kY2.at_ glY
        have gs2 := kY2.at_ gsY
        have gi2 := kY2.at_ giY
        simp (disch := first | assumption | omega | (simp only [LN] <;> omega) | (simp (disch := first | assumption | omega | (simp only [LN] <;> omega)) only [row_alloc, row_set]; assumption)) only [W_block, P3, ↓reduceIte, reduceAdd, reduceEqDiff, reduceCtorEq, initFr, reduceLT, clsA, reduceLeDiff, reduceMul, reduceSub, reduceIte, gl1, gs1, gi1, rng68, stn68s, stl_one, stl_len, Z68I_z, ll, o_s64, o_s32, one_s64, one_s32, la1, lb1, lc1]
        simp only [← hY2]
        have la2 := AHeap.get_lt gl2
        have lb2 := AHeap.get_lt gs2
        have lc2 := AHeap.get_lt gi2
        refine callK (t1 _ kY2) ?_
        rintro _ X' ⟨rfl, hX'⟩
        rw [hX']
        obtain ⟨Y3, hY3⟩ : ∃ Z, Z = (Y2.alloc (.cells true false 68 (stl t) 32)).alloc (.cells true false 2 [S64 pr, S32 t.po] 52) := ⟨_, rfl⟩
        have kk3 : Keeps Y2 Y3 := by rw [hY3]; exact ((Keeps.refl Y2).alloc _).alloc _
        have ga3 : Y3.get Y2.n = some (.cells true false 68 (stl t) 32) := by rw [hY3]; exact ((Keeps.refl _).alloc _).at_ (AHeap.get_alloc_new Y2 _)
        have gb3 : Y3.get (Y2.n + 1) = some (.cells true false 2 [S64 pr, S32 t.po] 52) := by rw [hY3]; exact AHeap.get_alloc_new (Y2.alloc _) _
        have kY3 : Keeps Y Y3 := kY2.trans kk3
        have gl3 := kY3.at_ glY
        have gs3 := kY3.at_ gsY
        have gi3 := kY3.at_ giY
        simp (disch := first | assumption | omega | (simp only [LN] <;> omega) | (simp (disch := first | assumption | omega | (simp only [LN] <;> omega)) only [row_alloc, row_set]; assumption)) only [W_block, P3, ↓reduceIte, reduceAdd, reduceEqDiff, reduceCtorEq, initFr, reduceLT, clsA, reduceLeDiff, reduceMul, reduceSub, reduceIte, gl2, gs2, gi2, rng68, stn68s, stl_one, stl_len, Z68I_z, ll, o_s64, o_s32, one_s64, one_s32, la2, lb2, lc2]
        simp only [← hY3]
        have la3 := AHeap.get_lt gl3
        have lb3 := AHeap.get_lt gs3
        have lc3 := AHeap.get_lt gi3
        have k23 := kk2.trans kk3
        have e1a := k23.at_ ga1
        have e1b := k23.at_ gb1
        have e2a := kk3.at_ ga2
        have e2b := kk3.at_ gb2
        have eqs0 := fun K a c => eq_stl K false a c
        have eqo := fun K => eq_out K false pr t.po
        have rfl68 : ∀ t : Sta, staB t t = true := staB_refl
        have rg2 : ∀ (o r : Bool) (T : Nat), rangeO (some (.cells o r 2 [S64 pr, S32 t.po] T)) 0 2 = some [S64 pr, S32 t.po] := fun o r T => rng_full rfl
        simp (disch := first | assumption | omega | (simp only [LN] <;> omega) | (simp (disch := first | assumption | omega | (simp only [LN] <;> omega)) only [row_alloc, row_set]; assumption)) only [W_block, P3, ↓reduceIte, reduceAdd, reduceEqDiff, reduceCtorEq, initFr, reduceLT, clsA, reduceLeDiff, reduceMul, reduceSub, reduceIte, e1a, e1b, e2a, e2b, ga3, gb3, rng68, rg2, eqs0, eqo, rfl68, O68I_r]
        refine callK (t8 _) ?_
        rintro _ X' ⟨rfl, hX'⟩
        rw [hX']
        simp (disch := first | assumption | omega | (simp only [LN] <;> omega) | (simp (disch := first | assumption | omega | (simp only [LN] <;> omega)) only [row_alloc, row_set]; assumption)) only [W_block, P3, ↓reduceIte, reduceAdd, reduceEqDiff, reduceCtorEq, initFr, reduceLT, clsA, reduceLeDiff, reduceMul, reduceSub, reduceIte]
        exact hq2 _ _ ⟨_, rfl, rfl⟩
end Go.AM.Fd
