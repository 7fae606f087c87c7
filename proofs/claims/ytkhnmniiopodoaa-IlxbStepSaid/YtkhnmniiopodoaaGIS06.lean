/- Part of the proof. -/
import Derived.Test.YtkhnmniiopodoaaGIS05
set_option linter.unusedSimpArgs false
set_option linter.unusedVariables false
set_option linter.unusedSimpArgs false
set_option linter.unusedVariables false
set_option maxRecDepth 8000
namespace Go.AM.Fd
open Nat (reduceAdd reduceEqDiff reduceLT reduceLeDiff reduceMul reduceSub)
open Go.Proofs Go.AM.F
theorem Z68G_z : Z68G = stl Sta0 := stl_zero
theorem fillO (a b : Nat → Bool) : fillA [.int .u64 0, .int .u32 0] [(0, 1, S64 a), (1, 1, S32 b)] = some [S64 a, S32 b] := rfl
def cRow (c : Int × Int) : List Value := [.int .u8 c.1, .int .i64 c.2]
def CL (H : AHeap) (v : Value) (l : List (Int × Int)) : Prop := Sl H 2 v (l.map cRow)
theorem CL.at_ {H : AHeap} {v : Value} {l : List (Int × Int)} (h : CL H v l) {i : Nat} (hi : i < l.length) : nnS v = true ∧ rowA H 2 v i = some [.int .u8 (l.getD i (0, 0)).1, .int .i64 (l.getD i (0, 0)).2] := by
  have := Sl.at_ h (by omega) (i := i) (by simpa using hi)
  refine ⟨this.1, ?_⟩
  rw [this.2]; simp [List.getD, List.getElem?_eq_getElem hi, cRow]
theorem CL.len {H : AHeap} {v : Value} {l : List (Int × Int)} (h : CL H v l) : lenS v = l.length := by have := Sl.len h; simpa using this
theorem CL.keeps {H K : AHeap} {v : Value} {l : List (Int × Int)} (h : CL H v l) (k : Keeps H K) : CL K v l := Sl.keeps h k
def cmdB (L : Ly) (oc : Nat → Bool) (s : Sta) (cs : List (Int × Int)) : Sta := cs.foldl (fun s c => comB L oc s c.1 c.2) s
def freeB (L : Ly) (x : Inp) (i : Nat) : Bool := decide (i < L.r.length) && none64 (fun j => trP (ro L i) j && x.oc j)
def entB (L : Ly) (x : Inp) (i : Nat) : Bool := decide (i < L.r.length) && !none64 (fun j => fiP (ro L i) j && x.oc j)
def detB (L : Ly) (x : Inp) (i : Nat) : Bool := decide (i < L.r.length) && ((none32 fun p => nor L i p && !sideN x p) && (none32 fun p => rev L i p && !sideR x p))
def waitB (L : Ly) (x : Inp) (us : Nat → Bool) (s : Sta) (i : Nat) : Bool := (s.ca i && !us i) && !entB L x i
def relB (L : Ly) (x : Inp) (us : Nat → Bool) (s : Sta) (i : Nat) : Bool := freeB L x i && (us i || (waitB L x us s i && decide (s.ti i = 0)))
def endS (L : Ly) (x : Inp) (us : Nat → Bool) (s : Sta) : Sta where
  lo := fun i => s.lo i && !relB L x us s i
  us := fun i => (s.lo i && !relB L x us s i) && (us i || entB L x i)
  ca := fun i => s.ca i && !relB L x us s i
  ti := fun i => if relB L x us s i then 0 else if waitB L x us s i && !decide (s.ti i = 0) then s.ti i - 1 else s.ti i
  po := s.po
def stepB (L : Ly) (s : Sta) (x : Inp) (cs : List (Int × Int)) : Sta := endS L x (tidyS L s).us (cmdB L x.oc (tidyS L s) (cs.take 8))
def prB (L : Ly) (x : Inp) (s : Sta) (i : Nat) : Bool := (((s.lo i && freeB L x i) && detB L x i) && !s.us i) && !s.ca i
theorem tidy_ti (L : Ly) (s : Sta) (i : Nat) : (tidyS L s).ti i ≤ 20 := by
  show (if _ then _ else _) ≤ 20
  split
  · exact Nat.min_le_right _ _
  · omega
theorem com_ti {L : Ly} {oc : Nat → Bool} {s : Sta} {kd n : Int} (h : ∀ i, s.ti i ≤ 20) (i : Nat) : (comB L oc s kd n).ti i ≤ 20 := by
  unfold comB setS cancS moveS
  repeat' split
  all_goals first | exact h i | skip
  all_goals (show upd _ _ _ i ≤ 20; unfold upd; split <;> first | omega | exact h i)
theorem cmd_ti {L : Ly} {oc : Nat → Bool} : ∀ {cs : List (Int × Int)} {s : Sta}, (∀ i, s.ti i ≤ 20) → ∀ i, (cmdB L oc s cs).ti i ≤ 20
  | [], s, h => h
  | c :: cs, s, h => cmd_ti (cs := cs) (com_ti h)
theorem cmd_snoc (L : Ly) (oc : Nat → Bool) (s : Sta) (cs : List (Int × Int)) (c : Int × Int) : cmdB L oc s (cs ++ [c]) = comB L oc (cmdB L oc s cs) c.1 c.2 := by
  unfold cmdB; rw [List.foldl_append]; rfl
def tiA (t : Nat → Nat) (l : List Nat) (j : Nat) : Nat := if l.contains j then t j - 1 else t j
def tiB (t : Nat → Nat) (l : List Nat) (j : Nat) : Nat := if l.contains j then 0 else t j
theorem tiA_s {t : Nat → Nat} {l : List Nat} {i : Nat} (h : i ∉ l) : upd (tiA t l) i (t i - 1) = tiA t (l ++ [i]) := by
  funext j
  unfold upd tiA
  rw [List.contains_append]
  by_cases e : j = i
  · subst e; simp
  · simp [e]
theorem tiB_s {t : Nat → Nat} {l : List Nat} {i : Nat} : upd (tiB t l) i 0 = tiB t (l ++ [i]) := by
  funext j
  unfold upd tiB
  rw [List.contains_append]
  by_cases e : j = i
  · subst e; simp
  · simp [e]
theorem fl_at {f : Nat → Bool} {k : Nat} (h : k < ((List.range 64).filter f).length) : ((List.range 64).filter f)[k] < 64 ∧ f ((List.range 64).filter f)[k] = true ∧ ((List.range 64).filter f)[k] ∉ ((List.range 64).filter f).take k := by
  have hm := List.mem_filter.1 (List.getElem_mem h)
  refine ⟨List.mem_range.1 hm.1, hm.2, fun hk => ?_⟩
  have hn : ((List.range 64).filter f).Nodup := List.nodup_range.filter _
  obtain ⟨j, hj, e⟩ := List.mem_iff_getElem.1 hk
  rw [List.length_take] at hj
  rw [List.getElem_take] at e
  exact (List.pairwise_iff_getElem.1 hn) j k (by omega) h (by omega) e
theorem fl_mem {f : Nat → Bool} {j : Nat} (h : j < 64) : ((List.range 64).filter f).contains j = f j := by
  rw [Bool.eq_iff_iff, List.contains_iff_mem, List.mem_filter, List.mem_range]
  exact ⟨fun a => a.2, fun a => ⟨h, a⟩⟩
set_option maxHeartbeats 4000000 in
theorem t14 {H : AHeap} {b : Nat} {L : Ly} {s : Sta} {x : Inp} {cv : Value} {cs : List (Int × Int)} (h : MaR H b L) (hL : LyLim L) (hc : CL H cv cs) (hcl : cs.length ≤ 1000000) :
    ∃ w H', ARun Go.Proofs.Try.prog 0 14 [ptr b 0, .agg (stl s).toArray, .agg (inl x cv).toArray] H w H' ∧ w = .tuple #[.agg (stl (stepB L s x cs)).toArray, .agg #[S64 (prB L x (stepB L s x cs)), S32 (stepB L s x cs).po]] ∧ H' = H := by
  suffices h' : ∃ w H', ARun Go.Proofs.Try.prog 0 14 [ptr b 0, .agg (stl s).toArray, .agg (inl x cv).toArray] H w H' ∧ w = .tuple #[.agg (stl (stepB L s x cs)).toArray, .agg #[S64 (prB L x (stepB L s x cs)), S32 (stepB L s x cs).po]] ∧ Keeps H H' by
    obtain ⟨_, _, a, rfl, k⟩ := h'
    exact ⟨_, _, a.gc0 k (.inr (NV.tuple_of (.cons (nv_stl _ _) (.cons (NV.agg_of (l := [S64 (prB L x (stepB L s x cs)), S32 (stepB L s x cs).po]) (NL.plain rfl)) .nil)))), rfl, rfl⟩
  refine walk2 f14_ok f14_n ?_
  intro Q hq1 hq2
  have lr := hL.r
  have lp := hL.p
  have isc := Sl.is hc
  have onec := Sl.one hc
  have clen := hc.len
  have hM := h
  obtain ⟨vr, vl, own, room, TT, gb, ms⟩ := h
  have hbl := AHeap.get_lt gb
  have r1 := Sl.one ms.r
  have l1 := Sl.one ms.l
  obtain ⟨K0, hK0⟩ : ∃ X, X = (((H.alloc (.cells true false 68 (stl s) 32)).alloc (.cells true false 4 (inl x cv) 43)).alloc (.cells true false 68 (stl Sta0) 32)).alloc (.cells true false 2 [.int .u64 0, .int .u32 0] 52) := ⟨_, rfl⟩
  have k0 : Keeps H K0 := by rw [hK0]; exact ((((Keeps.refl H).alloc _).alloc _).alloc _).alloc _
  have n0 : K0.n = H.n + 4 := by rw [hK0]; rfl
  have gs0 : K0.get H.n = some (.cells true false 68 (stl s) 32) := by rw [hK0]; exact ((((Keeps.refl _).alloc _).alloc _).alloc _).at_ (AHeap.get_alloc_new H _)
  have gi0 : K0.get (H.n + 1) = some (.cells true false 4 (inl x cv) 43) := by rw [hK0]; exact (((Keeps.refl _).alloc _).alloc _).at_ (AHeap.get_alloc_new (H.alloc _) _)
  have ga0 : K0.get (H.n + 2) = some (.cells true false 68 (stl Sta0) 32) := by rw [hK0]; exact ((Keeps.refl _).alloc _).at_ (AHeap.get_alloc_new ((H.alloc _).alloc _) _)
  have go0 : K0.get (H.n + 3) = some (.cells true false 2 [.int .u64 0, .int .u32 0] 52) := by rw [hK0]; exact AHeap.get_alloc_new (((H.alloc _).alloc _).alloc _) _
  have tT := t9 (hM.keeps k0) s
  have hinl : inl x cv = [S64 x.oc, S32 x.nr, S32 x.rv, cv] := rfl
  rw [hinl] at hK0 gi0 ⊢
  simp (disch := first | assumption | omega | (simp only [LN] <;> omega) | (simp (disch := first | assumption | omega | (simp only [LN] <;> omega)) only [row_alloc, row_set]; assumption)) only [ f14, P3, ↓reduceIte, reduceAdd, reduceEqDiff, reduceCtorEq, initFr, reduceLT, clsA, reduceLeDiff, reduceMul, reduceSub, reduceIte, stl_one, stl_len, Z68G_z, rng68, o_s64, o_s32, one_s64, one_s32, onec]
  simp only [← hK0]
  refine callK tT ?_
  rintro _ X ⟨rfl, hX⟩
  rw [hX]
  have hs0 := AHeap.get_lt gs0
  obtain ⟨s0, hs0e⟩ : ∃ t, t = tidyS L s := ⟨_, rfl⟩
  rw [← hs0e]
  obtain ⟨K1, hK1⟩ : ∃ X, X = K0.set H.n (.cells true false 68 (stl s0) 32) := ⟨_, rfl⟩
  have k1 : Keeps H K1 := by rw [hK1]; exact k0.set (Nat.le_refl _) hs0 _
  have gs1 : K1.get H.n = some (.cells true false 68 (stl s0) 32) := by rw [hK1]; exact AHeap.get_set_same gs0 _
  have oth1 : ∀ b, b ≠ H.n → K1.get b = K0.get b := fun b hb => by rw [hK1]; exact AHeap.get_set_other K0 hb hs0 _
  have gi1 := (oth1 (H.n + 1) (by omega)).trans gi0
  have ga1 := (oth1 (H.n + 2) (by omega)).trans ga0
  have go1 := (oth1 (H.n + 3) (by omega)).trans go0
  simp (disch := first | assumption | omega | (simp only [LN] <;> omega) | (simp (disch := first | assumption | omega | (simp only [LN] <;> omega)) only [row_alloc, row_set]; assumption)) only [ P3, ↓reduceIte, reduceAdd, reduceEqDiff, reduceCtorEq, initFr, reduceLT, clsA, reduceLeDiff, reduceMul, reduceSub, reduceIte, gs0, gi0, stn68s, stl_1, rng68, isc, clen]
  simp only [← hK1]
  rw [W_block]
  refine W_loop2 (fun q fr K => ∃ i x8 x9 x24 x25, fr = [ptr b 0, .agg (stl s).toArray, .agg #[S64 x.oc, S32 x.nr, S32 x.rv, cv], ptr H.n 0, ptr (H.n + 1) 0, ptr (H.n + 2) 0, ptr (H.n + 3) 0, S64 s0.us, x8, x9,
      undef, undef, undef, undef, undef, undef, undef, undef, undef, undef, .bool false, cv, .int .i64 ((cs.length : Nat) : Int), .int .i64 ((i : Nat) : Int), x24, x25, undef, undef, undef, undef, undef, undef, undef, undef] ∧
      Keeps H K ∧ K.get H.n = some (.cells true false 68 (stl (cmdB L x.oc s0 (cs.take (min i 8)))) 32) ∧ K.get (H.n + 1) = some (.cells true false 4 [S64 x.oc, S32 x.nr, S32 x.rv, cv] 43) ∧
      K.get (H.n + 2) = some (.cells true false 68 (stl Sta0) 32) ∧ K.get (H.n + 3) = some (.cells true false 2 [.int .u64 0, .int .u32 0] 52) ∧ i ≤ cs.length ∧ q = cs.length - i) cs.length
    ⟨0, _, _, _, _, rfl, k1, gs1, gi1, ga1, go1, by omega, rfl⟩ ?_
  rintro Q' q fr K ⟨i, x8, x9, x24, x25, rfl, kK, gs, gi, ga, go, hi, rfl⟩ hn' hx' hret
  by_cases hlt : i < cs.length
  · obtain ⟨na, ra⟩ := (hc.keeps kK).at_ hlt
    have e0 : (0 : Int) ≤ (i : Int) := by omega
    have e1 : (i : Int) < ((cs.length : Nat) : Int) := by omega
    have hw : IntKind.i64.wrap ((i : Int) + 1) = ((i + 1 : Nat) : Int) := by rw [wrap_i64 (by omega) (by omega)]; simp
    have hgd : cs.getD i (0, 0) = cs[i] := by rw [List.getD_eq_getElem?_getD, List.getElem?_eq_getElem hlt]; rfl
    have htk : i < 8 → cs.take (min (i + 1) 8) = cs.take (min i 8) ++ [cs.getD i (0, 0)] := fun h8 => by
      rw [Nat.min_eq_left (by omega), Nat.min_eq_left (by omega), List.take_add_one, List.getElem?_eq_getElem hlt, hgd]; rfl
    have htn : ¬ i < 8 → cs.take (min (i + 1) 8) = cs.take (min i 8) := fun h8 => by rw [Nat.min_eq_right (by omega), Nat.min_eq_right (by omega)]
    generalize cs.getD i (0, 0) = c at *
    obtain ⟨kd, n⟩ := c
    obtain ⟨K2, hK2⟩ : ∃ X, X = K.alloc (.cells true false 2 [.int .u8 kd, .int .i64 n] 70) := ⟨_, rfl⟩
    have kK2 : Keeps K K2 := by rw [hK2]; exact (Keeps.refl K).alloc _
    have gc2 : K2.get K.n = some (.cells true false 2 [.int .u8 kd, .int .i64 n] 70) := by rw [hK2]; exact AHeap.get_alloc_new K _
    have gs2 := kK2.at_ gs
    have gi2 := kK2.at_ gi
    have ga2 := kK2.at_ ga
    have go2 := kK2.at_ go
    have hsK := AHeap.get_lt gs
    have hiK := AHeap.get_lt gi
    by_cases h8 : i < 8
    · have e8 : (i : Int) < 8 := by omega
      have tC := t30 (kd := kd) (n := n) (oc := x.oc) hM (kK.trans kK2) (Nat.le_refl _) lr lp gs2
      simp (disch := first | assumption | omega | (simp only [LN] <;> omega) | (simp (disch := first | assumption | omega | (simp only [LN] <;> omega)) only [row_alloc, row_set]; assumption)) only [W_block, P3, ↓reduceIte, reduceAdd, reduceEqDiff, reduceCtorEq, initFr, reduceLT, clsA, reduceLeDiff, reduceMul, reduceSub, reduceIte, e0, e1, e8, na, ra, clen, a_loadnvf, gi, hiK]
      simp only [← hK2]
      refine callK tC ?_
      rintro _ K3 ⟨c3, gs3⟩
      simp (disch := first | assumption | omega | (simp only [LN] <;> omega) | (simp (disch := first | assumption | omega | (simp only [LN] <;> omega)) only [row_alloc, row_set]; assumption)) only [W_block, P3, ↓reduceIte, reduceAdd, reduceEqDiff, reduceCtorEq, initFr, reduceLT, clsA, reduceLeDiff, reduceMul, reduceSub, reduceIte, hw]
      refine hn' _ _ _ ⟨i + 1, _, _, _, _, rfl, (kK.trans kK2).chg_trans c3 (by simp), ?_, c3.at_ gi2 (by simp), c3.at_ ga2 (by simp), c3.at_ go2 (by simp), by omega, rfl⟩ (by omega)
      rw [htk h8, cmd_snoc]; exact gs3
    · have e8 : ¬ (i : Int) < 8 := by omega
      simp (disch := first | assumption | omega | (simp only [LN] <;> omega) | (simp (disch := first | assumption | omega | (simp only [LN] <;> omega)) only [row_alloc, row_set]; assumption)) only [W_block, P3, ↓reduceIte, reduceAdd, reduceEqDiff, reduceCtorEq, initFr, reduceLT, clsA, reduceLeDiff, reduceMul, reduceSub, reduceIte, e0, e1, e8, na, ra, clen, a_loadnvf, gi, hiK, hw]
      simp only [← hK2]
      refine hn' _ _ _ ⟨i + 1, _, _, _, _, rfl, kK.trans kK2, ?_, gi2, ga2, go2, by omega, rfl⟩ (by omega)
      rw [htn h8]; exact gs2
  · have e1 : ¬ ((i : Nat) : Int) < ((cs.length : Nat) : Int) := by omega
    have hie : i = cs.length := by omega
    subst hie
    have htk8 : cs.take (min cs.length 8) = cs.take 8 := by
      by_cases h : cs.length ≤ 8
      · rw [Nat.min_eq_left h, List.take_of_length_le (Nat.le_refl _), List.take_of_length_le h]
      · rw [Nat.min_eq_right (by omega)]
    rw [htk8] at gs
    obtain ⟨s1, hs1⟩ : ∃ t, t = cmdB L x.oc s0 (cs.take 8) := ⟨_, rfl⟩
    rw [← hs1] at gs
    have ti1 : ∀ i, s1.ti i ≤ 20 := by rw [hs1, hs0e]; exact cmd_ti (tidy_ti L s)
    have hst : stepB L s x cs = endS L x s0.us s1 := by unfold stepB; rw [hs1, hs0e]
    rw [hst] at hq1 hq2
    have gbK := kK.at_ gb
    have msK := ms.keeps kK
    unfold mcells at gbK
    simp (disch := first | assumption | omega | (simp only [LN] <;> omega) | (simp (disch := first | assumption | omega | (simp only [LN] <;> omega)) only [row_alloc, row_set]; assumption)) only [W_block, P3, ↓reduceIte, reduceAdd, reduceEqDiff, reduceCtorEq, initFr, reduceLT, clsA, reduceLeDiff, reduceMul, reduceSub, reduceIte, e1]
    refine hx' _ _ _ ?_
    simp (disch := first | assumption | omega | (simp only [LN] <;> omega) | (simp (disch := first | assumption | omega | (simp only [LN] <;> omega)) only [row_alloc, row_set]; assumption)) only [ P3, ↓reduceIte, reduceAdd, reduceEqDiff, reduceCtorEq, initFr, reduceLT, clsA, reduceLeDiff, reduceMul, reduceSub, reduceIte, gbK, r1, l1]
    have tF := t31 (H := K) (p := fun i => none64 fun j => trP (ro L i) j && x.oc j) (fn := 32) (ca := #[ptr (H.n + 1) 0]) msK.r lr (fun K' i k _ => t32 (k.at_ (by rw [hinl]; exact gi)))
    have tE := t31 (H := K) (p := fun i => !none64 fun j => fiP (ro L i) j && x.oc j) (fn := 33) (ca := #[ptr (H.n + 1) 0]) msK.r lr (fun K' i k _ => t33 (k.at_ (by rw [hinl]; exact gi)))
    have t8 := t34 gs
    refine callK tF ?_
    rintro _ X ⟨rfl, hX⟩
    rw [hX]
    simp (disch := first | assumption | omega | (simp only [LN] <;> omega) | (simp (disch := first | assumption | omega | (simp only [LN] <;> omega)) only [row_alloc, row_set]; assumption)) only [ P3, ↓reduceIte, reduceAdd, reduceEqDiff, reduceCtorEq, initFr, reduceLT, clsA, reduceLeDiff, reduceMul, reduceSub, reduceIte, gbK, r1, l1]
    refine callK tE ?_
    rintro _ X ⟨rfl, hX⟩
    rw [hX]
    obtain ⟨fr_, hfr⟩ : ∃ f, f = freeB L x := ⟨_, rfl⟩
    obtain ⟨en_, hen⟩ : ∃ f, f = entB L x := ⟨_, rfl⟩
    have hfr' : (fun i => decide (i < L.r.length) && none64 fun j => trP (ro L i) j && x.oc j) = fr_ := by rw [hfr]; rfl
    have hen' : (fun i => decide (i < L.r.length) && !none64 fun j => fiP (ro L i) j && x.oc j) = en_ := by rw [hen]; rfl
    rw [hfr', hen']
    have hsl : asem (.slarr 1 64 (ptr H.n 3) none none none) K = some (slc H.n 3 64 64, K) := rfl
    simp (disch := first | assumption | omega | (simp only [LN] <;> omega) | (simp (disch := first | assumption | omega | (simp only [LN] <;> omega)) only [row_alloc, row_set]; assumption)) only [ P3, ↓reduceIte, reduceAdd, reduceEqDiff, reduceCtorEq, initFr, reduceLT, clsA, reduceLeDiff, reduceMul, reduceSub, reduceIte, gs, stl_2, s_andn, hsl]
    refine callK t8 ?_
    rintro _ X ⟨rfl, hX⟩
    rw [hX]
    simp (disch := first | assumption | omega | (simp only [LN] <;> omega) | (simp (disch := first | assumption | omega | (simp only [LN] <;> omega)) only [row_alloc, row_set]; assumption)) only [ P3, ↓reduceIte, reduceAdd, reduceEqDiff, reduceCtorEq, initFr, reduceLT, clsA, reduceLeDiff, reduceMul, reduceSub, reduceIte, s_and, s_or, s_andn]
    refine callK (t36 _) ?_
    rintro w1 K2 ⟨il1, k2, f1⟩
    have rel_ : (fun i => fr_ i && (s0.us i || (((s1.ca i && !s0.us i) && !en_ i) && decide (s1.ti i = 0)))) = relB L x s0.us s1 := by rw [hfr, hen]; rfl
    have wai_ : (fun i => ((s1.ca i && !s0.us i) && !en_ i) && !decide (s1.ti i = 0)) = fun i => waitB L x s0.us s1 i && !decide (s1.ti i = 0) := by rw [hen]; rfl
    rw [wai_] at il1
    have is1 := Sl.is il1
    have len1 := il1.len
    simp only [List.length_map] at len1
    obtain ⟨l1_, hl1⟩ : ∃ l, l = (List.range 64).filter (fun i => waitB L x s0.us s1 i && !decide (s1.ti i = 0)) := ⟨_, rfl⟩
    have gsK2 := k2.at_ gs
    simp (disch := first | assumption | omega | (simp only [LN] <;> omega) | (simp (disch := first | assumption | omega | (simp only [LN] <;> omega)) only [row_alloc, row_set]; assumption)) only [ P3, ↓reduceIte, reduceAdd, reduceEqDiff, reduceCtorEq, initFr, reduceLT, clsA, reduceLeDiff, reduceMul, reduceSub, reduceIte, is1, len1]
    have wai2 : (fun i => (s1.ca i && !s0.us i) && !en_ i) = waitB L x s0.us s1 := by rw [hen]; rfl
    rw [rel_, wai2, W_block]
    rw [← hl1] at il1 len1
    simp only [← hl1]
    have l1len : l1_.length ≤ 64 := by rw [hl1]; exact fl_le _ 64
    refine W_loop2 (fun q fr X => ∃ k x15 x29, fr = [ptr b 0, .agg (stl s).toArray, .agg #[S64 x.oc, S32 x.nr, S32 x.rv, cv], ptr H.n 0, ptr (H.n + 1) 0, ptr (H.n + 2) 0, ptr (H.n + 3) 0, S64 s0.us, x8, x9, S64 fr_, S64 en_, S64 (waitB L x s0.us s1), S64 (fun i => decide (s1.ti i = 0)), S64 (relB L x s0.us s1), x15, undef, undef, undef, undef, .bool false, cv, .int .i64 ((cs.length : Nat) : Int), .int .i64 ((cs.length : Nat) : Int), .bool false, x25, w1, .int .i64 ((l1_.length : Nat) : Int), .int .i64 ((k : Nat) : Int), x29, undef, undef, undef, undef] ∧
        Chg [H.n] K2 X ∧ X.get H.n = some (.cells true false 68 (stl { s1 with ti := tiA s1.ti (l1_.take k) }) 32) ∧ k ≤ l1_.length ∧ q = l1_.length - k) l1_.length
      ⟨0, _, _, rfl, Chg.refl _ _, by rw [gsK2, List.take_zero]; rfl, by omega, rfl⟩ ?_
    rintro Q2 q fr X ⟨k, x15, x29, rfl, cX, gsX, hk, rfl⟩ hn2 hx2 hret2
    have hsX := AHeap.get_lt gsX
    by_cases hlk : k < l1_.length
    · obtain ⟨n1, ro1⟩ := (IL.at_ (Sl.chg il1 cX (fun b hb => by have := f1 b hb; have := AHeap.get_lt gs; simp; omega)) (i := k) (by simpa using hlk))
      have fa := fl_at (f := fun i => waitB L x s0.us s1 i && !decide (s1.ti i = 0)) (k := k) (by rw [← hl1]; exact hlk)
      simp only [← hl1] at fa
      have hgd : (l1_.map fun (i : Nat) => (i : Int)).getD k 0 = ((l1_[k] : Nat) : Int) := by rw [List.getD_eq_getElem?_getD, List.getElem?_map, List.getElem?_eq_getElem hlk]; rfl
      rw [hgd] at ro1
      have htk : l1_.take (k + 1) = l1_.take k ++ [l1_[k]] := by rw [List.take_add_one, List.getElem?_eq_getElem hlk]; rfl
      obtain ⟨m, hm⟩ : ∃ m, m = l1_[k] := ⟨_, rfl⟩
      rw [← hm] at fa ro1 htk
      obtain ⟨f1a, f1b, f1c⟩ := fa
      simp only [Bool.and_eq_true, Bool.not_eq_true', decide_eq_false_iff_not] at f1b
      have tim := ti1 m
      have e0 : (0 : Int) ≤ (k : Int) := by omega
      have e1 : (k : Int) < ((l1_.length : Nat) : Int) := by omega
      have m0 : (0 : Int) ≤ (m : Int) := by omega
      have m1 : (m : Int) < 64 := by omega
      have hll : 3 + m < 68 := by omega
      have hw : IntKind.i64.wrap ((k : Int) + 1) = ((k + 1 : Nat) : Int) := by rw [wrap_i64 (by omega) (by omega)]; simp
      have hta : tiA s1.ti (l1_.take k) m = s1.ti m := by unfold tiA; simp [f1c]
      have st := stl_t { s1 with ti := tiA s1.ti (l1_.take k) } f1a
      simp only [hta] at st
      have hsub : IntKind.u8.wrap (((s1.ti m : Nat) : Int) - 1) = ((s1.ti m - 1 : Nat) : Int) := by rw [wrap_u8]; omega
      have sett := set_t { s1 with ti := tiA s1.ti (l1_.take k) } f1a (s1.ti m - 1)
      simp only [tiA_s f1c, ← htk] at sett
      simp (disch := first | assumption | omega | (simp only [LN] <;> omega) | (simp (disch := first | assumption | omega | (simp only [LN] <;> omega)) only [row_alloc, row_set]; assumption)) only [W_block, P3, ↓reduceIte, reduceAdd, reduceEqDiff, reduceCtorEq, initFr, reduceLT, clsA, reduceLeDiff, reduceMul, reduceSub, reduceIte, e0, e1, n1, ro1, len1, a_load1v, m0, m1, a_iaddrp, gsX, st, hsub, sett, stl_len, hll, hw, Int.toNat_natCast, Nat.mul_one]
      exact hn2 _ _ _ ⟨k + 1, _, _, rfl, cX.trans (Chg.set X hsX _) (by simp), AHeap.get_set_same gsX _, by omega, rfl⟩ (by omega)
    · have hke : k = l1_.length := by omega
      subst hke
      rw [List.take_length] at gsX
      have e1 : ¬ ((l1_.length : Nat) : Int) < ((l1_.length : Nat) : Int) := by omega
      simp (disch := first | assumption | omega | (simp only [LN] <;> omega) | (simp (disch := first | assumption | omega | (simp only [LN] <;> omega)) only [row_alloc, row_set]; assumption)) only [W_block, P3, ↓reduceIte, reduceAdd, reduceEqDiff, reduceCtorEq, initFr, reduceLT, clsA, reduceLeDiff, reduceMul, reduceSub, reduceIte, e1]
      refine hx2 _ _ _ ?_
      simp (disch := first | assumption | omega | (simp only [LN] <;> omega) | (simp (disch := first | assumption | omega | (simp only [LN] <;> omega)) only [row_alloc, row_set]; assumption)) only [W_block, P3, ↓reduceIte, reduceAdd, reduceEqDiff, reduceCtorEq, initFr, reduceLT, clsA, reduceLeDiff, reduceMul, reduceSub, reduceIte]
      refine callK (t36 _) ?_
      rintro w2 X2 ⟨il2, kX2, f2⟩
      have is2 := Sl.is il2
      have len2 := il2.len
      simp only [List.length_map] at len2
      obtain ⟨l2_, hl2⟩ : ∃ l, l = (List.range 64).filter (relB L x s0.us s1) := ⟨_, rfl⟩
      rw [← hl2] at il2 len2
      have gsX2 := kX2.at_ gsX
      simp (disch := first | assumption | omega | (simp only [LN] <;> omega) | (simp (disch := first | assumption | omega | (simp only [LN] <;> omega)) only [row_alloc, row_set]; assumption)) only [ P3, ↓reduceIte, reduceAdd, reduceEqDiff, reduceCtorEq, initFr, reduceLT, clsA, reduceLeDiff, reduceMul, reduceSub, reduceIte, is2, len2]
      rw [W_block]
      have l2len : l2_.length ≤ 64 := by rw [hl2]; exact fl_le _ 64
      refine W_loop2 (fun q fr Y => ∃ k x16 x33, fr = [ptr b 0, .agg (stl s).toArray, .agg #[S64 x.oc, S32 x.nr, S32 x.rv, cv], ptr H.n 0, ptr (H.n + 1) 0, ptr (H.n + 2) 0, ptr (H.n + 3) 0, S64 s0.us, x8, x9, S64 fr_, S64 en_, S64 (waitB L x s0.us s1), S64 (fun i => decide (s1.ti i = 0)), S64 (relB L x s0.us s1), x15, x16, undef, undef, undef, .bool false, cv, .int .i64 ((cs.length : Nat) : Int), .int .i64 ((cs.length : Nat) : Int), .bool false, x25, w1, .int .i64 ((l1_.length : Nat) : Int), .int .i64 ((l1_.length : Nat) : Int), .bool false, w2, .int .i64 ((l2_.length : Nat) : Int), .int .i64 ((k : Nat) : Int), x33] ∧
          Chg [H.n] X2 Y ∧ Y.get H.n = some (.cells true false 68 (stl { s1 with ti := tiB (tiA s1.ti l1_) (l2_.take k) }) 32) ∧ k ≤ l2_.length ∧ q = l2_.length - k) l2_.length
        ⟨0, _, _, rfl, Chg.refl _ _, by rw [gsX2, List.take_zero]; rfl, by omega, rfl⟩ ?_
      rintro Q3 q fr Y ⟨k, x16, x33, rfl, cY, gsY, hk, rfl⟩ hn3 hx3 hret3
      have hsY := AHeap.get_lt gsY
      by_cases hlk : k < l2_.length
      · obtain ⟨n1, ro1⟩ := (IL.at_ (Sl.chg il2 cY (fun b hb => by have := f2 b hb; have := AHeap.get_lt gsX; simp; omega)) (i := k) (by simpa using hlk))
        have fa := fl_at (f := relB L x s0.us s1) (k := k) (by rw [← hl2]; exact hlk)
        simp only [← hl2] at fa
        have hgd : (l2_.map fun (i : Nat) => (i : Int)).getD k 0 = ((l2_[k] : Nat) : Int) := by rw [List.getD_eq_getElem?_getD, List.getElem?_map, List.getElem?_eq_getElem hlk]; rfl
        rw [hgd] at ro1
        have htk : l2_.take (k + 1) = l2_.take k ++ [l2_[k]] := by rw [List.take_add_one, List.getElem?_eq_getElem hlk]; rfl
        obtain ⟨m, hm⟩ : ∃ m, m = l2_[k] := ⟨_, rfl⟩
        rw [← hm] at fa ro1 htk
        obtain ⟨f1a, f1b, f1c⟩ := fa
        have e0 : (0 : Int) ≤ (k : Int) := by omega
        have e1 : (k : Int) < ((l2_.length : Nat) : Int) := by omega
        have m0 : (0 : Int) ≤ (m : Int) := by omega
        have m1 : (m : Int) < 64 := by omega
        have hll : 3 + m < 68 := by omega
        have hw : IntKind.i64.wrap ((k : Int) + 1) = ((k + 1 : Nat) : Int) := by rw [wrap_i64 (by omega) (by omega)]; simp
        have sett := set_t0 { s1 with ti := tiB (tiA s1.ti l1_) (l2_.take k) } f1a
        simp only [tiB_s, ← htk] at sett
        simp (disch := first | assumption | omega | (simp only [LN] <;> omega) | (simp (disch := first | assumption | omega | (simp only [LN] <;> omega)) only [row_alloc, row_set]; assumption)) only [W_block, P3, ↓reduceIte, reduceAdd, reduceEqDiff, reduceCtorEq, initFr, reduceLT, clsA, reduceLeDiff, reduceMul, reduceSub, reduceIte, e0, e1, n1, ro1, len2, a_load1v, m0, m1, a_iaddrp, gsY, sett, stl_len, hll, hw, Int.toNat_natCast, Nat.mul_one]
        exact hn3 _ _ _ ⟨k + 1, _, _, rfl, cY.trans (Chg.set Y hsY _) (by simp), AHeap.get_set_same gsY _, by omega, rfl⟩ (by omega)
      · have hke : k = l2_.length := by omega
        subst hke
        rw [List.take_length] at gsY
        have e1 : ¬ ((l2_.length : Nat) : Int) < ((l2_.length : Nat) : Int) := by omega
        have kKX : Keeps H X2 := ((kK.trans k2).chg_trans cX (by simp)).trans kX2
        have kHY : Keeps H Y := kKX.chg_trans cY (by simp)
        have giY : Y.get (H.n + 1) = some (.cells true false 4 [S64 x.oc, S32 x.nr, S32 x.rv, cv] 43) := cY.at_ (kX2.at_ (cX.at_ (k2.at_ gi) (by simp))) (by simp)
        have gaY : Y.get (H.n + 2) = some (.cells true false 68 (stl Sta0) 32) := cY.at_ (kX2.at_ (cX.at_ (k2.at_ ga) (by simp))) (by simp)
        have goY : Y.get (H.n + 3) = some (.cells true false 2 [.int .u64 0, .int .u32 0] 52) := cY.at_ (kX2.at_ (cX.at_ (k2.at_ go) (by simp))) (by simp)
        have gbY := kHY.at_ gb
        have msY := ms.keeps kHY
        unfold mcells at gbY
        have stE : stl { s1 with ti := tiB (tiA s1.ti l1_) l2_ } = stl { s1 with ti := (endS L x s0.us s1).ti } := by
          refine stl_ext (fun _ _ => rfl) (fun _ _ => rfl) (fun _ _ => rfl) (fun j hj => ?_) (fun _ _ => rfl)
          show tiB (tiA s1.ti l1_) l2_ j = (if relB L x s0.us s1 j then 0 else if waitB L x s0.us s1 j && !decide (s1.ti j = 0) then s1.ti j - 1 else s1.ti j)
          unfold tiB tiA
          rw [hl1, hl2, fl_mem hj, fl_mem hj]
        rw [stE] at gsY
        simp (disch := first | assumption | omega | (simp only [LN] <;> omega) | (simp (disch := first | assumption | omega | (simp only [LN] <;> omega)) only [row_alloc, row_set]; assumption)) only [W_block, P3, ↓reduceIte, reduceAdd, reduceEqDiff, reduceCtorEq, initFr, reduceLT, clsA, reduceLeDiff, reduceMul, reduceSub, reduceIte, e1]
        refine hx3 _ _ _ ?_
        obtain ⟨Y1, hY1⟩ : ∃ Z, Z = Y.set H.n (.cells true false 68 (stl (endS L x s0.us s1)) 32) := ⟨_, rfl⟩
        simp (disch := first | assumption | omega | (simp only [LN] <;> omega) | (simp (disch := first | assumption | omega | (simp only [LN] <;> omega)) only [row_alloc, row_set]; assumption)) only [W_block, P3, ↓reduceIte, reduceAdd, reduceEqDiff, reduceCtorEq, initFr, reduceLT, clsA, reduceLeDiff, reduceMul, reduceSub, reduceIte, gsY, giY, stl_0, stl_1, stl_2, stl_len, set_0, set_1, set_2, s_andn, s_and, s_or, one_s64, o_s64]
        have eE : stl (⟨fun i => s1.lo i && !relB L x s0.us s1 i, fun i => (s1.lo i && !relB L x s0.us s1 i) && (s0.us i || en_ i), fun i => s1.ca i && !relB L x s0.us s1 i, (endS L x s0.us s1).ti, s1.po⟩ : Sta) = stl (endS L x s0.us s1) := by rw [hen]; rfl
        have kY1 : Keeps H Y1 := by rw [hY1]; exact kHY.set (Nat.le_refl _) hsY _
        have gsY1 : Y1.get H.n = some (.cells true false 68 (stl (endS L x s0.us s1)) 32) := by rw [hY1]; exact AHeap.get_set_same gsY _
        have othY : ∀ b, b ≠ H.n → Y1.get b = Y.get b := fun b hb => by rw [hY1]; exact AHeap.get_set_other Y hb hsY _
        have gaY1 := (othY (H.n + 2) (by omega)).trans gaY
        have goY1 := (othY (H.n + 3) (by omega)).trans goY
        have tS := t37 (H := Y1) (x := x) isc
        rw [hinl] at tS
        rw [eE, ← hY1]
        refine callK tS ?_
        rintro _ X' ⟨rfl, hX'⟩
        rw [hX']
        obtain ⟨Y2, hY2⟩ : ∃ Z, Z = (Y1.alloc (.cells true false 1 [S32 (sideN x)] 30)).alloc (.cells true false 1 [S32 (sideR x)] 30) := ⟨_, rfl⟩
        have kY2 : Keeps Y1 Y2 := by rw [hY2]; exact ((Keeps.refl Y1).alloc _).alloc _
        have g1 : Y2.get Y1.n = some (.cells true false 1 [S32 (sideN x)] 30) := by rw [hY2]; exact ((Keeps.refl _).alloc _).at_ (AHeap.get_alloc_new Y1 _)
        have g2 : Y2.get (Y1.n + 1) = some (.cells true false 1 [S32 (sideR x)] 30) := by rw [hY2]; exact AHeap.get_alloc_new (Y1.alloc _) _
        have kH2 := kY1.trans kY2
        have gb2 := kH2.at_ gb
        have ms2 := ms.keeps kH2
        have gb1 := kY1.at_ gb
        have hb1 := AHeap.get_lt gb1
        unfold mcells at gb2 gb1
        have gs2 := kY2.at_ gsY1
        have ga2 := kY2.at_ gaY1
        have go2 := kY2.at_ goY1
        have hs2 := AHeap.get_lt gs2
        have ha2 := AHeap.get_lt ga2
        have ho2 := AHeap.get_lt go2
        have tD := t31 (H := Y2) (p := fun i => (none32 fun p => nor L i p && !sideN x p) && (none32 fun p => rev L i p && !sideR x p)) (fn := 38) (ca := #[ptr Y1.n 0, ptr (Y1.n + 1) 0]) ms2.r lr (fun K' i k _ => t38 (k.at_ g1) (k.at_ g2))
        have hb1' : b < Y1.n + 1 := by omega
        simp (disch := first | assumption | omega | (simp only [LN] <;> omega) | (simp (disch := first | assumption | omega | (simp only [LN] <;> omega)) only [row_alloc, row_set]; assumption)) only [W_block, P3, ↓reduceIte, reduceAdd, reduceEqDiff, reduceCtorEq, initFr, reduceLT, clsA, reduceLeDiff, reduceMul, reduceSub, reduceIte, gb1, hb1, hb1', r1, l1, o_s32, one_s32]
        simp only [← hY2]
        refine callK tD ?_
        rintro _ X' ⟨rfl, hX'⟩
        rw [hX']
        have hde : (fun i => decide (i < L.r.length) && ((none32 fun p => nor L i p && !sideN x p) && none32 fun p => rev L i p && !sideR x p)) = detB L x := rfl
        rw [hde]
        obtain ⟨e, hee⟩ : ∃ e, e = endS L x s0.us s1 := ⟨_, rfl⟩
        rw [← hee] at gs2 hq1 hq2
        have oa : ∀ o, (Y2.set (H.n + 2) o).get (H.n + 3) = Y2.get (H.n + 3) := fun o => AHeap.get_set_other Y2 (by omega) ha2 o
        have oh : ∀ o, (Y2.set (H.n + 2) o).get H.n = Y2.get H.n := fun o => AHeap.get_set_other Y2 (by omega) ha2 o
        simp (disch := first | assumption | omega | (simp only [LN] <;> omega) | (simp (disch := first | assumption | omega | (simp only [LN] <;> omega)) only [row_alloc, row_set]; assumption)) only [W_block, P3, ↓reduceIte, reduceAdd, reduceEqDiff, reduceCtorEq, initFr, reduceLT, clsA, reduceLeDiff, reduceMul, reduceSub, reduceIte, gs2, ga2, go2, oa, oh, rng68, stn68s, stl_0, stl_1, stl_2, stl_67, s_and, s_andn, fillO, o_s64, o_s32, one_s64, one_s32, cells_s64, cells_s32]
        have hpr : (fun i => (((e.lo i && fr_ i) && detB L x i) && !e.us i) && !e.ca i) = prB L x e := by rw [hfr]; rfl
        rw [hpr]
        refine ⟨by simp, hq2 _ _ ⟨.tuple #[.agg (stl e).toArray, .agg #[S64 (prB L x e), S32 e.po]], ?_, rfl, (kH2.set (by omega) ha2 _).set (by omega) (by rw [set_n]; exact ho2) _⟩⟩
        have ga3 : ((Y2.set (H.n + 2) (.cells true false 68 (stl e) 32)).set (H.n + 3) (.cells true false 2 [S64 (prB L x e), S32 e.po] 52)).get (H.n + 2) = some (.cells true false 68 (stl e) 32) := by
          rw [AHeap.get_set_other _ (by omega) (by rw [set_n]; exact ho2)]; exact AHeap.get_set_same ga2 _
        have go3 : ((Y2.set (H.n + 2) (.cells true false 68 (stl e) 32)).set (H.n + 3) (.cells true false 2 [S64 (prB L x e), S32 e.po] 52)).get (H.n + 3) = some (.cells true false 2 [S64 (prB L x e), S32 e.po] 52) :=
          AHeap.get_set_same ((oa _).trans go2) _
        show resO [.cn 68 5, .cn 2 6] _ _ = _
        have r1' : celln 68 (ptr (H.n + 2) 0) ((Y2.set (H.n + 2) (.cells true false 68 (stl e) 32)).set (H.n + 3) (.cells true false 2 [S64 (prB L x e), S32 e.po] 52)) = some (.agg (stl e).toArray) := by
          rw [cellnp, rangeA_e, ga3, rng68]; rfl
        have r2' : celln 2 (ptr (H.n + 3) 0) ((Y2.set (H.n + 2) (.cells true false 68 (stl e) 32)).set (H.n + 3) (.cells true false 2 [S64 (prB L x e), S32 e.po] 52)) = some (.agg #[S64 (prB L x e), S32 e.po]) := by
          rw [cellnp, rangeA_e, go3]; rfl
        have e5 : ∀ l : List Value, l.getD 5 undef = ptr (H.n + 2) 0 → l.getD 6 undef = ptr (H.n + 3) 0 → ∀ K, celln 68 (ptr (H.n + 2) 0) K = some (.agg (stl e).toArray) → celln 2 (ptr (H.n + 3) 0) K = some (.agg #[S64 (prB L x e), S32 e.po]) →
            resO [.cn 68 5, .cn 2 6] l K = some (.tuple #[.agg (stl e).toArray, .agg #[S64 (prB L x e), S32 e.po]]) := fun l a b K c d => by
          simp only [resO, resVs, RX.get, a, b, c, d]; rfl
        exact e5 _ rfl rfl _ r1' r2'
end Go.AM.Fd

set_option maxRecDepth 100000
set_option maxHeartbeats 0
namespace Go.AM.F
def Z68I : List Value := [(.int .u64 0), (.int .u64 0), (.int .u64 0)] ++ List.replicate 64 (.int .u8 0) ++ [(.int .u32 0)]
def O68I : List Nat := List.replicate 68 1
def zclI : TypeId → List Value
 | 32 => Z68I
 | 27 => [(.slice none 0 0), (.slice none 0 0), (.slice none 0 0), (.slice none 0 0)]
 | 52 => [(.int .u64 0), (.int .u32 0)]
 | 46 => [(.string ByteArray.empty), (.int .i64 0)]
 | 66 => [(.string ByteArray.empty), (.int .i64 0)]
 | 68 => [(.int .i64 0), (.bool false)]
 | 50 => [(.string ByteArray.empty), (.int .i64 0), (.slice none 0 0), (.slice none 0 0), (.slice none 0 0), (.slice none 0 0)]
 | 70 => [(.int .u8 0), (.int .i64 0)]
 | 43 => [(.int .u64 0), (.int .u32 0), (.int .u32 0), (.slice none 0 0)]
 | _ => []
def zvlI : TypeId → Value
 | _ => undef
def zklI : TypeId → List Nat
 | 32 => O68I
 | 52 => [1, 1]
 | _ => []
def zrlI : Nat → TypeId → List Value
 | 3, 9 => [(.string ByteArray.empty), (.string ByteArray.empty), (.string ByteArray.empty)]
 | 1, 46 => [(.string ByteArray.empty), (.int .i64 0)]
 | 1, 66 => [(.string ByteArray.empty), (.int .i64 0)]
 | 2, 3 => [(.int .i64 0), (.int .i64 0)]
 | 1, 68 => [(.int .i64 0), (.bool false)]
 | 1, 50 => [(.string ByteArray.empty), (.int .i64 0), (.slice none 0 0), (.slice none 0 0), (.slice none 0 0), (.slice none 0 0)]
 | 1, 70 => [(.int .u8 0), (.int .i64 0)]
 | _, _ => []
noncomputable def f4 : AFunc := by
 refine (fun (_ : Cz zclI zvlI zklI zrlI Go.Proofs.Try.prog 0 [0, 1, 2, 3, 4, 5, 6, 7, 8, 9, 10, 11, 12, 13, 14, 15, 16, 17, 21, 31, 37, 49] 4 ?a) => ?a) ?h
 case h =>
 intro zc zv zk zr hc hv hk hr
 conv => lhs; cbv; try simp only [hc, hv, hk, hr, zclI, zvlI, zklI, zrlI]
theorem f4_ok : compF Go.Proofs.Try.prog 0 [0, 1, 2, 3, 4, 5, 6, 7, 8, 9, 10, 11, 12, 13, 14, 15, 16, 17, 21, 31, 37, 49] 4 = some f4 := by kernel_rfl
theorem f4_n : argsOK Go.Proofs.Try.prog 4 3 = true := by kernel_rfl
noncomputable def f8 : AFunc := by
 refine (fun (_ : Cz zclI zvlI zklI zrlI Go.Proofs.Try.prog 0 [0, 1, 2, 3, 4, 5, 6, 8, 9, 10, 11, 13] 8 ?a) => ?a) ?h
 case h =>
 intro zc zv zk zr hc hv hk hr
 conv => lhs; cbv; try simp only [hc, hv, hk, hr, zclI, zvlI, zklI, zrlI]
theorem f8_ok : compF Go.Proofs.Try.prog 0 [0, 1, 2, 3, 4, 5, 6, 8, 9, 10, 11, 13] 8 = some f8 := by kernel_rfl
theorem f8_n : argsOK Go.Proofs.Try.prog 8 0 = true := by kernel_rfl
noncomputable def f13 : AFunc := by
 refine (fun (_ : Cz zclI zvlI zklI zrlI Go.Proofs.Try.prog 0 [0, 1, 2, 3, 4, 5, 6, 29] 13 ?a) => ?a) ?h
 case h =>
 intro zc zv zk zr hc hv hk hr
 conv => lhs; cbv; try simp only [hc, hv, hk, hr, zclI, zvlI, zklI, zrlI]
theorem f13_ok : compF Go.Proofs.Try.prog 0 [0, 1, 2, 3, 4, 5, 6, 29] 13 = some f13 := by kernel_rfl
theorem f13_n : argsOK Go.Proofs.Try.prog 13 1 = true := by kernel_rfl
noncomputable def f15 : AFunc := by
 refine (fun (_ : Cz zclI zvlI zklI zrlI Go.Proofs.Try.prog 0 [0, 1, 2, 3, 4, 5, 6, 7, 8, 9, 10, 11, 12, 26, 42, 48, 62, 69] 15 ?a) => ?a) ?h
 case h =>
 intro zc zv zk zr hc hv hk hr
 conv => lhs; cbv; try simp only [hc, hv, hk, hr, zclI, zvlI, zklI, zrlI]
theorem f15_ok : compF Go.Proofs.Try.prog 0 [0, 1, 2, 3, 4, 5, 6, 7, 8, 9, 10, 11, 12, 26, 42, 48, 62, 69] 15 = some f15 := by kernel_rfl
theorem f15_n : argsOK Go.Proofs.Try.prog 15 3 = true := by kernel_rfl
noncomputable def f39 : AFunc := by
 refine (fun (_ : Cz zclI zvlI zklI zrlI Go.Proofs.Try.prog 0 [0, 1, 2, 3, 4, 5, 6, 7, 8, 9, 10, 16, 18, 47, 64, 75, 117, 122] 39 ?a) => ?a) ?h
 case h =>
 intro zc zv zk zr hc hv hk hr
 conv => lhs; cbv; try simp only [hc, hv, hk, hr, zclI, zvlI, zklI, zrlI]
theorem f39_ok : compF Go.Proofs.Try.prog 0 [0, 1, 2, 3, 4, 5, 6, 7, 8, 9, 10, 16, 18, 47, 64, 75, 117, 122] 39 = some f39 := by kernel_rfl
theorem f39_n : argsOK Go.Proofs.Try.prog 39 4 = true := by kernel_rfl
noncomputable def f40 : AFunc := by
 refine (fun (_ : Cz zclI zvlI zklI zrlI Go.Proofs.Try.prog 0 [0, 1, 2, 3, 4, 5, 6, 7, 10, 11, 17, 23, 27, 41, 60] 40 ?a) => ?a) ?h
 case h =>
 intro zc zv zk zr hc hv hk hr
 conv => lhs; cbv; try simp only [hc, hv, hk, hr, zclI, zvlI, zklI, zrlI]
theorem f40_ok : compF Go.Proofs.Try.prog 0 [0, 1, 2, 3, 4, 5, 6, 7, 10, 11, 17, 23, 27, 41, 60] 40 = some f40 := by kernel_rfl
theorem f40_n : argsOK Go.Proofs.Try.prog 40 5 = true := by kernel_rfl
noncomputable def f41 : AFunc := by
 refine (fun (_ : Cz zclI zvlI zklI zrlI Go.Proofs.Try.prog 0 [0, 1, 2, 3, 4, 5, 6, 8, 9, 10, 11, 12, 13, 34, 49, 57, 67] 41 ?a) => ?a) ?h
 case h =>
 intro zc zv zk zr hc hv hk hr
 conv => lhs; cbv; try simp only [hc, hv, hk, hr, zclI, zvlI, zklI, zrlI]
theorem f41_ok : compF Go.Proofs.Try.prog 0 [0, 1, 2, 3, 4, 5, 6, 8, 9, 10, 11, 12, 13, 34, 49, 57, 67] 41 = some f41 := by kernel_rfl
theorem f41_n : argsOK Go.Proofs.Try.prog 41 4 = true := by kernel_rfl
noncomputable def f70 : AFunc := by
 refine (fun (_ : Cz zclI zvlI zklI zrlI Go.Proofs.Try.prog 0 [0, 1, 2, 3, 4, 5, 6, 7, 8, 22, 40, 45, 59, 82] 70 ?a) => ?a) ?h
 case h =>
 intro zc zv zk zr hc hv hk hr
 conv => lhs; cbv; try simp only [hc, hv, hk, hr, zclI, zvlI, zklI, zrlI]
theorem f70_ok : compF Go.Proofs.Try.prog 0 [0, 1, 2, 3, 4, 5, 6, 7, 8, 22, 40, 45, 59, 82] 70 = some f70 := by kernel_rfl
theorem f70_n : argsOK Go.Proofs.Try.prog 70 2 = true := by kernel_rfl
noncomputable def f71 : AFunc := by
 refine (fun (_ : Cz zclI zvlI zklI zrlI Go.Proofs.Try.prog 0 [0, 1, 2, 3, 4, 5, 6, 8, 9, 10, 11, 12, 27, 32, 48, 54, 84] 71 ?a) => ?a) ?h
 case h =>
 intro zc zv zk zr hc hv hk hr
 conv => lhs; cbv; try simp only [hc, hv, hk, hr, zclI, zvlI, zklI, zrlI]
theorem f71_ok : compF Go.Proofs.Try.prog 0 [0, 1, 2, 3, 4, 5, 6, 8, 9, 10, 11, 12, 27, 32, 48, 54, 84] 71 = some f71 := by kernel_rfl
theorem f71_n : argsOK Go.Proofs.Try.prog 71 4 = true := by kernel_rfl
noncomputable def f72 : AFunc := by
 refine (fun (_ : Cz zclI zvlI zklI zrlI Go.Proofs.Try.prog 0 [0, 1, 2, 4] 72 ?a) => ?a) ?h
 case h =>
 intro zc zv zk zr hc hv hk hr
 conv => lhs; cbv; try simp only [hc, hv, hk, hr, zclI, zvlI, zklI, zrlI]
theorem f72_ok : compF Go.Proofs.Try.prog 0 [0, 1, 2, 4] 72 = some f72 := by kernel_rfl
theorem f72_n : argsOK Go.Proofs.Try.prog 72 2 = true := by kernel_rfl
noncomputable def f73 : AFunc := by
 refine (fun (_ : Cz zclI zvlI zklI zrlI Go.Proofs.Try.prog 0 [0, 1, 2, 3, 4, 6, 7, 8, 9, 14, 26, 41] 73 ?a) => ?a) ?h
 case h =>
 intro zc zv zk zr hc hv hk hr
 conv => lhs; cbv; try simp only [hc, hv, hk, hr, zclI, zvlI, zklI, zrlI]
theorem f73_ok : compF Go.Proofs.Try.prog 0 [0, 1, 2, 3, 4, 6, 7, 8, 9, 14, 26, 41] 73 = some f73 := by kernel_rfl
theorem f73_n : argsOK Go.Proofs.Try.prog 73 3 = true := by kernel_rfl
noncomputable def f74 : AFunc := by
 refine (fun (_ : Cz zclI zvlI zklI zrlI Go.Proofs.Try.prog 0 [0, 1, 2, 3, 4, 5, 6, 12, 21] 74 ?a) => ?a) ?h
 case h =>
 intro zc zv zk zr hc hv hk hr
 conv => lhs; cbv; try simp only [hc, hv, hk, hr, zclI, zvlI, zklI, zrlI]
theorem f74_ok : compF Go.Proofs.Try.prog 0 [0, 1, 2, 3, 4, 5, 6, 12, 21] 74 = some f74 := by kernel_rfl
theorem f74_n : argsOK Go.Proofs.Try.prog 74 2 = true := by kernel_rfl
noncomputable def f75 : AFunc := by
 refine (fun (_ : Cz zclI zvlI zklI zrlI Go.Proofs.Try.prog 0 [0, 1, 2, 4] 75 ?a) => ?a) ?h
 case h =>
 intro zc zv zk zr hc hv hk hr
 conv => lhs; cbv; try simp only [hc, hv, hk, hr, zclI, zvlI, zklI, zrlI]
theorem f75_ok : compF Go.Proofs.Try.prog 0 [0, 1, 2, 4] 75 = some f75 := by kernel_rfl
theorem f75_n : argsOK Go.Proofs.Try.prog 75 2 = true := by kernel_rfl
noncomputable def f76 : AFunc := by
 refine (fun (_ : Cz zclI zvlI zklI zrlI Go.Proofs.Try.prog 0 [0, 1, 2, 3] 76 ?a) => ?a) ?h
 case h =>
 intro zc zv zk zr hc hv hk hr
 conv => lhs; cbv; try simp only [hc, hv, hk, hr, zclI, zvlI, zklI, zrlI]
theorem f76_ok : compF Go.Proofs.Try.prog 0 [0, 1, 2, 3] 76 = some f76 := by kernel_rfl
theorem f76_n : argsOK Go.Proofs.Try.prog 76 1 = true := by kernel_rfl
end Go.AM.F

set_option linter.unusedSimpArgs false
set_option linter.unusedVariables false
set_option maxRecDepth 20000
namespace Go.AM.Fd
open Nat (reduceAdd reduceEqDiff reduceLT reduceLeDiff reduceMul reduceSub)
open Go.Proofs Go.AM.F
theorem Z68I_z : Z68I = stl Sta0 := stl_zero
theorem O68I_r : O68I = List.replicate 68 1 := rfl
theorem newSl {H : AHeap} {o rm : Bool} {esz e n : Nat} {c : List Value} {rows : List (List Value)} (hr : ∀ r ∈ rows, r.length = esz) (hc : c = rows.flatten) (hn : n = rows.length) : Sl (H.alloc (.cells o rm esz c e)) esz (slc H.n 0 n n) rows := by
  subst hc hn
  exact ⟨⟨_, _, rfl⟩, hr, elems_new rfl (flat_len hr)⟩
def wL : Ly := ⟨[[97], [98], [99]], [([80], 1)], [([71], 0)], [⟨[82], 0, [1, 2], [(0, false)], [], []⟩]⟩
def w0 : Nat → Bool := fun i => decide (i = 0)
def w1 : Nat → Bool := fun i => decide (i = 1)
def wn : Nat → Bool := fun _ => false
def wA : Sta := stepB wL Sta0 ⟨wn, w0, wn⟩ [(1, 0)]
def wB : Sta := stepB wL Sta0 ⟨wn, wn, wn⟩ [(1, 0)]
def wC : Sta := stepB wL wA ⟨w1, w0, wn⟩ []
def wD : Sta := stepB wL wC ⟨wn, w0, wn⟩ []
def wE : Sta := stepB wL wA ⟨w0, w0, wn⟩ [(2, 0)]
theorem c0_64 : Value.int .u64 1 = S64 w0 := congrArg (fun n : Nat => Value.int .u64 (n : Int)) (by decide +kernel : 1 = bitsN w0 64)
theorem c1_64 : Value.int .u64 2 = S64 w1 := congrArg (fun n : Nat => Value.int .u64 (n : Int)) (by decide +kernel : 2 = bitsN w1 64)
theorem c0_32 : Value.int .u32 1 = S32 w0 := congrArg (fun n : Nat => Value.int .u32 (n : Int)) (by decide +kernel : 1 = bitsN w0 32)
theorem wL_ok : checkE wL = 0 := by decide +kernel
theorem wA_lo : S64 wA.lo = .int .u64 1 := congrArg (fun n : Nat => Value.int .u64 (n : Int)) (by decide +kernel : bitsN wA.lo 64 = 1)
theorem wA_pr : S64 (prB wL ⟨wn, w0, wn⟩ wA) = .int .u64 1 := congrArg (fun n : Nat => Value.int .u64 (n : Int)) (by decide +kernel : bitsN (prB wL ⟨wn, w0, wn⟩ wA) 64 = 1)
theorem wB_pr : S64 (prB wL ⟨wn, wn, wn⟩ wB) = .int .u64 0 := congrArg (fun n : Nat => Value.int .u64 (n : Int)) (by decide +kernel : bitsN (prB wL ⟨wn, wn, wn⟩ wB) 64 = 0)
theorem wC_us : S64 wC.us = .int .u64 1 := congrArg (fun n : Nat => Value.int .u64 (n : Int)) (by decide +kernel : bitsN wC.us 64 = 1)
theorem wC_pr : S64 (prB wL ⟨w1, w0, wn⟩ wC) = .int .u64 0 := congrArg (fun n : Nat => Value.int .u64 (n : Int)) (by decide +kernel : bitsN (prB wL ⟨w1, w0, wn⟩ wC) 64 = 0)
theorem wD_eq : staB wD Sta0 = true := by decide +kernel
theorem wE_ca : S64 wE.ca = .int .u64 1 := congrArg (fun n : Nat => Value.int .u64 (n : Int)) (by decide +kernel : bitsN wE.ca 64 = 1)
theorem wE_ti : wE.ti 0 = 19 := by decide +kernel
theorem wA_r : rgtB wL wA = true := by decide +kernel
theorem F1 (x y z a b c : ByteArray) : fillA [.string x, .string y, .string z] [(0, 1, .string a), (1, 1, .string b), (2, 1, .string c)] = some [.string a, .string b, .string c] := rfl
theorem F2 (x a : ByteArray) (k j : IntKind) (n m : Int) : fillA [.string x, .int k m] [(0, 1, .string a), (1, 1, .int j n)] = some [.string a, .int j n] := rfl
theorem F3 (x a : ByteArray) (k : IntKind) (m : Int) : fillA [.string x, .int k m] [(0, 1, .string a)] = some [.string a, .int k m] := rfl
theorem F4 (k j : IntKind) (n m p q : Int) : fillA [.int k n, .int k m] [(0, 1, .int j p), (1, 1, .int j q)] = some [.int j p, .int j q] := rfl
theorem F5 (a b c d : Value) : fillA [c, d] [(0, 2, .agg #[a, b])] = some [a, b] := rfl
theorem F6 (x a : ByteArray) (k : IntKind) (m : Int) (b c d e f g h i j l : Nat) : fillA [.string x, .int k m, .slice none 0 0, .slice none 0 0, .slice none 0 0, .slice none 0 0] [(0, 1, .string a), (2, 1, slc b c d e), (3, 1, slc f g h i)] = some [.string a, .int k m, slc b c d e, slc f g h i, .slice none 0 0, .slice none 0 0] := rfl
theorem F7 (a b c d e f g h i j k l : Value) : fillA [g, h, i, j, k, l] [(0, 6, .agg #[a, b, c, d, e, f])] = some [a, b, c, d, e, f] := rfl
theorem F8 (x y z w a b c d e f g h i j k l : Nat) : fillA [.slice none 0 0, .slice none 0 0, .slice none 0 0, .slice none 0 0] [(0, 1, slc a b c d), (1, 1, slc e f g h), (2, 1, slc i j k l), (3, 1, slc x y z w)] = some [slc a b c d, slc e f g h, slc i j k l, slc x y z w] := rfl
theorem F9 (k j : IntKind) (n m q : Int) : fillA [.int k n, .int j m] [(0, 1, .int k q)] = some [.int k q, .int j m] := rfl
theorem FA (a b c : Int) (d : Value) (x y z w : Nat) : fillA [.int .u64 a, .int .u32 b, .int .u32 c, d] [(1, 1, .int .u32 1), (3, 1, slc x y z w)] = some [.int .u64 a, .int .u32 1, .int .u32 c, slc x y z w] := rfl
theorem FB (a b c : Int) (d : Value) (x y z w : Nat) : fillA [.int .u64 a, .int .u32 b, .int .u32 c, d] [(3, 1, slc x y z w)] = some [.int .u64 a, .int .u32 b, .int .u32 c, slc x y z w] := rfl
theorem FC (a b c e : Int) (d : Value) : fillA [.int .u64 a, .int .u32 b, .int .u32 c, d] [(1, 1, .int .u32 1), (0, 1, .int .u64 e)] = some [.int .u64 e, .int .u32 1, .int .u32 c, d] := rfl
theorem FD (a b c : Int) (d : Value) : fillA [.int .u64 a, .int .u32 b, .int .u32 c, d] [(1, 1, .int .u32 1)] = some [.int .u64 a, .int .u32 1, .int .u32 c, d] := rfl
theorem FE (a b c e : Int) (d : Value) (x y z w : Nat) : fillA [.int .u64 a, .int .u32 b, .int .u32 c, d] [(1, 1, .int .u32 1), (0, 1, .int .u64 e), (3, 1, slc x y z w)] = some [.int .u64 e, .int .u32 1, .int .u32 c, slc x y z w] := rfl
theorem z64 : Value.int .u64 0 = S64 wn := s_zero
theorem z32 : Value.int .u32 0 = S32 wn := p_zero
theorem i1v (cv : Value) : inl ⟨wn, w0, wn⟩ cv = [.int .u64 0, .int .u32 1, .int .u32 0, cv] := by unfold inl; rw [z64, z32, c0_32]
theorem i2v (cv : Value) : inl ⟨wn, wn, wn⟩ cv = [.int .u64 0, .int .u32 0, .int .u32 0, cv] := by unfold inl; rw [z64, z32]
theorem i3v (cv : Value) : inl ⟨w1, w0, wn⟩ cv = [.int .u64 2, .int .u32 1, .int .u32 0, cv] := by unfold inl; rw [c1_64, z32, c0_32]
theorem i4v (cv : Value) : inl ⟨w0, w0, wn⟩ cv = [.int .u64 1, .int .u32 1, .int .u32 0, cv] := by unfold inl; rw [c0_64, z32, c0_32]
theorem wL_lim : LyLim wL := ⟨by decide, by decide, by decide, by decide⟩
theorem CLnil (K : AHeap) : CL K (.slice none 0 0) [] := Sl.nil K 2
def wU (H : AHeap) : V4 := ⟨slc H.n 0 3 3, slc (H.n + 1) 0 1 1, slc (H.n + 2) 0 1 1, slc (H.n + 5) 0 1 1⟩
def wX (H : AHeap) : RV := ⟨⟨[82], 0, [1, 2], [(0, false)], [], []⟩, slc (H.n + 3) 0 2 2, slc (H.n + 4) 0 1 1, .slice none 0 0, .slice none 0 0⟩
def wK (H : AHeap) : AHeap := (((((H.alloc (.cells true false 1 [.string ⟨#[97]⟩, .string ⟨#[98]⟩, .string ⟨#[99]⟩] 9)).alloc (.cells true false 2 [.string ⟨#[80]⟩, .int .i64 1] 46)).alloc
  (.cells true false 2 [.string ⟨#[71]⟩, .int .i64 0] 66)).alloc (.cells true false 1 [.int .i64 1, .int .i64 2] 3)).alloc (.cells true false 2 [.int .i64 0, .bool false] 68)).alloc (.cells true false 6 (wX H).row 50)
theorem wK_ly (H : AHeap) : LyR (wK H) (wU H) [wX H] wL := by
  refine ⟨?_, ?_, ?_, ?_, rfl, ?_⟩
  · exact Sl.keeps (newSl (rows := [[.string ⟨#[97]⟩], [.string ⟨#[98]⟩], [.string ⟨#[99]⟩]]) (by simp) rfl rfl) ((((((Keeps.refl _).alloc _).alloc _).alloc _).alloc _).alloc _)
  · exact Sl.keeps (newSl (rows := [[.string ⟨#[80]⟩, .int .i64 1]]) (by simp) rfl rfl) (((((Keeps.refl _).alloc _).alloc _).alloc _).alloc _)
  · exact Sl.keeps (newSl (rows := [[.string ⟨#[71]⟩, .int .i64 0]]) (by simp) rfl rfl) ((((Keeps.refl _).alloc _).alloc _).alloc _)
  · exact newSl (rows := [(wX H).row]) (by simp [RV.row]) (by simp) rfl
  · intro x hx
    rw [List.mem_singleton] at hx
    subst hx
    refine ⟨?_, ?_, Sl.nil _ _, Sl.nil _ _⟩
    · exact Sl.keeps (newSl (rows := [[.int .i64 1], [.int .i64 2]]) (by simp) rfl rfl) (((Keeps.refl _).alloc _).alloc _)
    · exact Sl.keeps (newSl (rows := [[.int .i64 0, .bool false]]) (by simp) rfl rfl) ((Keeps.refl _).alloc _)
theorem wK_k (H : AHeap) : Keeps H (wK H) := ((((((Keeps.refl H).alloc _).alloc _).alloc _).alloc _).alloc _).alloc _
theorem wL_in : LyIn 9223372036854775807 wL := by
  refine ⟨?_, ?_, ?_, ?_⟩ <;> decide
set_option maxHeartbeats 4000000 in
theorem t8 (H : AHeap) : ∃ w K, ARun Go.Proofs.Try.prog 0 8 [] H w K ∧ w = .bool true ∧ K = H := by
  suffices h' : ∃ w K, ARun Go.Proofs.Try.prog 0 8 [] H w K ∧ w = .bool true ∧ Keeps H K by
    obtain ⟨_, _, a, rfl, k⟩ := h'
    exact ⟨_, _, a.gc0 k (.inr (.bool _)), rfl, rfl⟩
  refine walk2 f8_ok f8_n ?_
  intro Q hq1 hq2
  have kW := wK_k H
  have tN := t21 ((wK_ly H).keeps ((Keeps.refl _).alloc (.cells true false 4 (wU H).l 27))) wL_in
  unfold wK wX RV.row at tN
  simp only [V4.l, wU] at tN
  simp (disch := first | assumption | omega | (simp only [LN] <;> omega) | (simp (disch := first | assumption | omega | (simp only [LN] <;> omega)) only [row_alloc, row_set]; assumption)) only [f8, W_block, P3, ↓reduceIte, reduceAdd, reduceEqDiff, reduceCtorEq, initFr, reduceLT, clsA, reduceLeDiff, reduceMul, reduceSub, reduceIte, F1, F2, F3, F4, F5, F6, F7, F8]
  refine callK tN ?_
  rintro _ K1 ⟨k1, _, e2⟩
  obtain ⟨b, rfl, hMF⟩ := e2 wL_ok
  have hM := hMF.r
  have kH1 : Keeps H K1 := (kW.alloc _).trans k1
  obtain ⟨K2, hK2⟩ : ∃ X, X = K1.alloc (.cells true false 2 [.int .u8 1, .int .i64 0] 70) := ⟨_, rfl⟩
  have k2 : Keeps K1 K2 := by rw [hK2]; exact (Keeps.refl K1).alloc _
  have cl2 : CL K2 (slc K1.n 0 1 1) [(1, 0)] := by rw [hK2]; exact newSl (rows := [[.int .u8 1, .int .i64 0]]) (by simp) rfl rfl
  have hM2 := hM.keeps k2
  have t1 := t14 (s := Sta0) (x := ⟨wn, w0, wn⟩) hM2 wL_lim cl2 (by simp)
  have t2 := fun K (k : Keeps K2 K) => t14 (s := Sta0) (x := ⟨wn, wn, wn⟩) (hM2.keeps k) wL_lim (cl2.keeps k) (by simp)
  have t3 := fun K (k : Keeps K2 K) => t14 (s := wA) (x := ⟨w1, w0, wn⟩) (hM2.keeps k) wL_lim (CLnil K) (by simp)
  have t4 := fun K (k : Keeps K2 K) => t14 (s := wC) (x := ⟨wn, w0, wn⟩) (hM2.keeps k) wL_lim (CLnil K) (by simp)
  have t6 := fun K (k : Keeps K2 K) => t11 (hM2.keeps k) (by decide) wA
  rw [i1v] at t1
  simp only [i2v, i3v] at t2 t3
  simp only [i1v] at t4
  simp (disch := first | assumption | omega | (simp only [LN] <;> omega) | (simp (disch := first | assumption | omega | (simp only [LN] <;> omega)) only [row_alloc, row_set]; assumption)) only [W_block, P3, ↓reduceIte, reduceAdd, reduceEqDiff, reduceCtorEq, initFr, reduceLT, clsA, reduceLeDiff, reduceMul, reduceSub, reduceIte, F9, F5, FA, Z68I_z, fill0]
  rw [← hK2]
  refine callK t1 ?_
  rintro _ X ⟨rfl, hX⟩
  rw [hX]
  have sA : stepB wL Sta0 ⟨wn, w0, wn⟩ [(1, 0)] = wA := rfl
  have sB : stepB wL Sta0 ⟨wn, wn, wn⟩ [(1, 0)] = wB := rfl
  have sC : stepB wL wA ⟨w1, w0, wn⟩ [] = wC := rfl
  have sD : stepB wL wC ⟨wn, w0, wn⟩ [] = wD := rfl
  rw [sA, wA_pr]
  obtain ⟨K3, hK3⟩ : ∃ X, X = (K2.alloc (.cells true false 68 (stl wA) 32)).alloc (.cells true false 2 [.int .u64 1, S32 wA.po] 52) := ⟨_, rfl⟩
  have k3 : Keeps K2 K3 := by rw [hK3]; exact ((Keeps.refl K2).alloc _).alloc _
  have ga3 : K3.get K2.n = some (.cells true false 68 (stl wA) 32) := by rw [hK3]; exact ((Keeps.refl _).alloc _).at_ (AHeap.get_alloc_new K2 _)
  have go3 : K3.get (K2.n + 1) = some (.cells true false 2 [.int .u64 1, S32 wA.po] 52) := by rw [hK3]; exact AHeap.get_alloc_new (K2.alloc _) _
  simp (disch := first | assumption | omega | (simp only [LN] <;> omega) | (simp (disch := first | assumption | omega | (simp only [LN] <;> omega)) only [row_alloc, row_set]; assumption)) only [W_block, P3, ↓reduceIte, reduceAdd, reduceEqDiff, reduceCtorEq, initFr, reduceLT, clsA, reduceLeDiff, reduceMul, reduceSub, reduceIte, Z68I_z, stn68s, stl_one, FB, fill0, o_s32, one_s32]
  simp only [← hK3]
  refine callK (t2 _ k3) ?_
  rintro _ X ⟨rfl, hX⟩
  rw [hX, sB, wB_pr]
  obtain ⟨K4, hK4⟩ : ∃ X, X = (K3.alloc (.cells true false 68 (stl wB) 32)).alloc (.cells true false 2 [.int .u64 0, S32 wB.po] 52) := ⟨_, rfl⟩
  have k4 : Keeps K3 K4 := by rw [hK4]; exact ((Keeps.refl K3).alloc _).alloc _
  have gb4 : K4.get (K3.n + 1) = some (.cells true false 2 [.int .u64 0, S32 wB.po] 52) := by rw [hK4]; exact AHeap.get_alloc_new (K3.alloc _) _
  have ga4 := k4.at_ ga3
  have ha3 := AHeap.get_lt ga3
  simp (disch := first | assumption | omega | (simp only [LN] <;> omega) | (simp (disch := first | assumption | omega | (simp only [LN] <;> omega)) only [row_alloc, row_set]; assumption)) only [W_block, P3, ↓reduceIte, reduceAdd, reduceEqDiff, reduceCtorEq, initFr, reduceLT, clsA, reduceLeDiff, reduceMul, reduceSub, reduceIte, Z68I_z, stn68s, stl_one, FC, fill0, o_s32, one_s32, ga3, rng68]
  simp only [← hK4]
  refine callK (t3 _ (k3.trans k4)) ?_
  rintro _ X ⟨rfl, hX⟩
  rw [hX, sC, wC_pr]
  obtain ⟨K5, hK5⟩ : ∃ X, X = (K4.alloc (.cells true false 68 (stl wC) 32)).alloc (.cells true false 2 [.int .u64 0, S32 wC.po] 52) := ⟨_, rfl⟩
  have k5 : Keeps K4 K5 := by rw [hK5]; exact ((Keeps.refl K4).alloc _).alloc _
  have gc5 : K5.get K4.n = some (.cells true false 68 (stl wC) 32) := by rw [hK5]; exact ((Keeps.refl _).alloc _).at_ (AHeap.get_alloc_new K4 _)
  have gd5 : K5.get (K4.n + 1) = some (.cells true false 2 [.int .u64 0, S32 wC.po] 52) := by rw [hK5]; exact AHeap.get_alloc_new (K4.alloc _) _
  simp (disch := first | assumption | omega | (simp only [LN] <;> omega) | (simp (disch := first | assumption | omega | (simp only [LN] <;> omega)) only [row_alloc, row_set]; assumption)) only [W_block, P3, ↓reduceIte, reduceAdd, reduceEqDiff, reduceCtorEq, initFr, reduceLT, clsA, reduceLeDiff, reduceMul, reduceSub, reduceIte, Z68I_z, stn68s, stl_one, FD, fill0, o_s32, one_s32, rng68]
  simp only [← hK5]
  refine callK (t4 _ ((k3.trans k4).trans k5)) ?_
  rintro _ X ⟨rfl, hX⟩
  rw [hX, sD]
  obtain ⟨K6, hK6⟩ : ∃ X, X = (K5.alloc (.cells true false 68 (stl wD) 32)).alloc (.cells true false 2 [S64 (prB wL ⟨wn, w0, wn⟩ wD), S32 wD.po] 52) := ⟨_, rfl⟩
  have k6 : Keeps K5 K6 := by rw [hK6]; exact ((Keeps.refl K5).alloc _).alloc _
  have ge6 : K6.get K5.n = some (.cells true false 68 (stl wD) 32) := by rw [hK6]; exact ((Keeps.refl _).alloc _).at_ (AHeap.get_alloc_new K5 _)
  have ga6 := (k5.trans k6).at_ ga4
  obtain ⟨K7, hK7⟩ : ∃ X, X = K6.alloc (.cells true false 2 [.int .u8 2, .int .i64 0] 70) := ⟨_, rfl⟩
  have k7 : Keeps K6 K7 := by rw [hK7]; exact (Keeps.refl K6).alloc _
  have cl7 : CL K7 (slc K6.n 0 1 1) [(2, 0)] := by rw [hK7]; exact newSl (rows := [[.int .u8 2, .int .i64 0]]) (by simp) rfl rfl
  have k27 := ((((k3.trans k4).trans k5).trans k6).trans k7)
  have t5 := t14 (s := wA) (x := ⟨w0, w0, wn⟩) (hM2.keeps k27) wL_lim cl7 (by simp)
  rw [i4v] at t5
  have sE : stepB wL wA ⟨w0, w0, wn⟩ [(2, 0)] = wE := rfl
  have ha4 := AHeap.get_lt ga4
  have ha6 := AHeap.get_lt ga6
  have ha5 : K2.n < K5.n := by have := k5.n; omega
  have ga5 := k5.at_ ga4
  simp (disch := first | assumption | omega | (simp only [LN] <;> omega) | (simp (disch := first | assumption | omega | (simp only [LN] <;> omega)) only [row_alloc, row_set]; assumption)) only [W_block, P3, ↓reduceIte, reduceAdd, reduceEqDiff, reduceCtorEq, initFr, reduceLT, clsA, reduceLeDiff, reduceMul, reduceSub, reduceIte, Z68I_z, stn68s, stl_one, F9, F5, FE, fill0, o_s32, o_s64, one_s64, one_s32, rng68, ga5, ha5]
  have n6 : K6.n = K5.n + 1 + 1 := by rw [hK6]; rfl
  rw [n6] at t5
  simp only [← hK6, ← hK7]
  refine callK t5 ?_
  rintro _ X ⟨rfl, hX⟩
  rw [hX, sE]
  obtain ⟨K8, hK8⟩ : ∃ X, X = (K7.alloc (.cells true false 68 (stl wE) 32)).alloc (.cells true false 2 [S64 (prB wL ⟨w0, w0, wn⟩ wE), S32 wE.po] 52) := ⟨_, rfl⟩
  have k8 : Keeps K7 K8 := by rw [hK8]; exact ((Keeps.refl K7).alloc _).alloc _
  have gf8 : K8.get K7.n = some (.cells true false 68 (stl wE) 32) := by rw [hK8]; exact ((Keeps.refl _).alloc _).at_ (AHeap.get_alloc_new K7 _)
  have k78 := k7.trans k8
  have ge8 := k78.at_ ge6
  have gc8 := (k6.trans k78).at_ gc5
  have gd8 := (k6.trans k78).at_ gd5
  have gb8 := ((k5.trans k6).trans k78).at_ gb4
  have go8 := (((k4.trans k5).trans k6).trans k78).at_ go3
  have ga8 := (((k4.trans k5).trans k6).trans k78).at_ ga3
  have eq1 := fun K a b => eq_stl K false a b
  have ti0 := stl_t wE (i := 0) (by omega)
  rw [wE_ti] at ti0
  have ti0' : (stl wE)[3]? = some (.int .u8 19) := ti0
  have kk : Keeps H K8 := ((kH1.trans k2).trans k27).trans k8
  simp (disch := first | assumption | omega | (simp only [LN] <;> omega) | (simp (disch := first | assumption | omega | (simp only [LN] <;> omega)) only [row_alloc, row_set]; assumption)) only [W_block, P3, ↓reduceIte, reduceAdd, reduceEqDiff, reduceCtorEq, initFr, reduceLT, clsA, reduceLeDiff, reduceMul, reduceSub, reduceIte, Z68I_z, O68I_r, stn68s, stl_one, o_s32, o_s64, one_s64, one_s32, fill0]
  simp only [← hK8]
  simp (disch := first | assumption | omega | (simp only [LN] <;> omega) | (simp (disch := first | assumption | omega | (simp only [LN] <;> omega)) only [row_alloc, row_set]; assumption)) only [W_block, P3, ↓reduceIte, reduceAdd, reduceEqDiff, reduceCtorEq, initFr, reduceLT, clsA, reduceLeDiff, reduceMul, reduceSub, reduceIte, ga8, go8, gb8, gc8, gd8, ge8, gf8, stl_0, stl_1, stl_2, wA_lo, wC_us, wE_ca, wD_eq, ti0', eq1, Z68I_z, O68I_r, rng68, fill0]
  refine callK (t6 _ (k27.trans k8)) ?_
  rintro _ X ⟨rfl, hX⟩
  rw [hX, wA_r]
  simp (disch := first | assumption | omega | (simp only [LN] <;> omega) | (simp (disch := first | assumption | omega | (simp only [LN] <;> omega)) only [row_alloc, row_set]; assumption)) only [W_block, P3, ↓reduceIte, reduceAdd, reduceEqDiff, reduceCtorEq, initFr, reduceLT, clsA, reduceLeDiff, reduceMul, reduceSub, reduceIte]
  exact hq2 _ _ ⟨_, rfl, rfl, kk⟩
end Go.AM.Fd

set_option linter.unusedSimpArgs false
set_option linter.unusedVariables false
set_option maxRecDepth 20000
namespace Go.AM.Fd
open Nat (reduceAdd reduceEqDiff reduceLT reduceLeDiff reduceMul reduceSub)
open Go.Proofs Go.AM.F
theorem av_state {H : AHeap} {v : Value} (h : AV Go.Proofs.Try.prog H.get 32 v) : ∃ s, v = .agg (stl s).toArray := by
  obtain ⟨cs, rfl⟩ := h.2.1 (by kernel_rfl)
  have h1 := h.1.flat (d := 5) (ks := .int .u64 :: .int .u64 :: .int .u64 :: (List.replicate 64 (.int .u8) ++ [.int .u32])) (by kernel_rfl)
  have ec : (Value.agg cs).cells.toList = cs.toList := rfl
  rw [ec] at h1
  obtain ⟨a, as1, e1, ha, h2⟩ := h1.inv
  obtain ⟨b, bs, rfl, hb, h3⟩ := h2.inv
  obtain ⟨c, ct, rfl, hc, h4⟩ := h3.inv
  obtain ⟨h5, h6⟩ := h4.split
  obtain ⟨l, hl, e5⟩ := h5.u8
  obtain ⟨d, ds, e6, hd, h7⟩ := h6.inv
  have := h7.end_; subst this
  obtain ⟨n1, rfl, g1⟩ := fits_u64 ha
  obtain ⟨n2, rfl, g2⟩ := fits_u64 hb
  obtain ⟨n3, rfl, g3⟩ := fits_u64 hc
  obtain ⟨n4, rfl, g4⟩ := fits_u32 hd
  obtain ⟨f1, q1⟩ := s64_of (x := (n1 : Int)) (by omega) (by omega)
  obtain ⟨f2, q2⟩ := s64_of (x := (n2 : Int)) (by omega) (by omega)
  obtain ⟨f3, q3⟩ := s64_of (x := (n3 : Int)) (by omega) (by omega)
  obtain ⟨f4, q4⟩ := s32_of (x := (n4 : Int)) (by omega) (by omega)
  have ect : ct = cellsOf l ++ [.int .u32 (n4 : Int)] := by
    have := List.take_append_drop (List.replicate 64 (CKd.int .u8)).length ct
    rw [e5, e6] at this; exact this.symm
  refine ⟨⟨f1, f2, f3, fun i => (l.getD i 0).toNat, f4⟩, ?_⟩
  have et : tis (fun i => (l.getD i 0).toNat) = cellsOf l := by
    unfold tis cellsOf
    apply List.ext_getElem?
    intro i
    rw [List.getElem?_map, List.getElem?_map]
    by_cases hi : i < 64
    · have hil : i < l.length := by omega
      rw [List.getElem?_range hi, List.getElem?_eq_getElem hil]
      simp only [Option.map_some]
      rw [List.getD_eq_getElem?_getD, List.getElem?_eq_getElem hil]; rfl
    · rw [List.getElem?_eq_none (by simp; omega), List.getElem?_eq_none (by omega)]; rfl
  have e : cs.toList = stl ⟨f1, f2, f3, fun i => (l.getD i 0).toNat, f4⟩ := by
    rw [e1, ect]; unfold stl; simp only; rw [q1, q2, q3, q4, et]
  rw [← e]
theorem ly_ones {H : AHeap} {u : V4} {xs : List RV} {L : Ly} (h : LyR H u xs L) : u.l.all Value.oneCell' = true := by
  have os := Sl.one h.s
  have op := Sl.one h.p
  have og := Sl.one h.g
  have or := Sl.one h.r
  simp only [V4.l, List.all_cons, List.all_nil, os, op, og, or]; rfl
theorem t7 {H : AHeap} {u : V4} {xs : List RV} {L : Ly} (h : LyR H u xs L) (hi : LyIn 9223372036854775807 L) :
    ∃ w H', ARun Go.Proofs.Try.prog 0 7 [.agg u.l.toArray] H w H' ∧ Keeps H H' ∧ (w = .tuple #[.pointer none, .bool false] ∨ ∃ b, checkE L = 0 ∧ w = .tuple #[ptr b 0, .bool true] ∧ MaF H.n H' b L) := by
  refine walk2 f7_ok f7_n ?_
  intro Q hq1 hq2
  have ho := ly_ones h
  have hul : u.l = [u.s, u.p, u.g, u.r] := rfl
  have kA := (Keeps.refl H).alloc (.cells true false 4 u.l 27)
  have gl := AHeap.get_alloc_new H (.cells true false 4 u.l 27)
  have hA := h.keeps kA
  have ll : u.l.length = 4 := rfl
  obtain ⟨K0, hK0⟩ : ∃ X, X = H.alloc (.cells true false 4 u.l 27) := ⟨_, rfl⟩
  rw [← hK0] at kA gl hA
  simp (disch := first | assumption | omega | (simp only [LN] <;> omega) | (simp (disch := first | assumption | omega | (simp only [LN] <;> omega)) only [row_alloc, row_set]; assumption)) only [f7, W_block, P3, ↓reduceIte, reduceAdd, reduceEqDiff, reduceCtorEq, initFr, reduceLT, clsA, reduceLeDiff, reduceMul, reduceSub, reduceIte, ho, ll]
  rw [← hK0]
  refine callK (t20 (top := 400) (by omega) hA hi) ?_
  rintro _ X ⟨⟨n, rfl⟩, hX⟩
  rw [hX]
  by_cases hn : (400 : Int) < n
  · simp (disch := first | assumption | omega | (simp only [LN] <;> omega) | (simp (disch := first | assumption | omega | (simp only [LN] <;> omega)) only [row_alloc, row_set]; assumption)) only [W_block, P3, ↓reduceIte, reduceAdd, reduceEqDiff, reduceCtorEq, initFr, reduceLT, clsA, reduceLeDiff, reduceMul, reduceSub, reduceIte, hn]
    exact hq2 _ _ ⟨_, rfl, kA, .inl rfl⟩
  simp (disch := first | assumption | omega | (simp only [LN] <;> omega) | (simp (disch := first | assumption | omega | (simp only [LN] <;> omega)) only [row_alloc, row_set]; assumption)) only [W_block, P3, ↓reduceIte, reduceAdd, reduceEqDiff, reduceCtorEq, initFr, reduceLT, clsA, reduceLeDiff, reduceMul, reduceSub, reduceIte, hn, gl, ll]
  refine callK (t21 hA hi) ?_
  rintro _ K1 ⟨k1, e1, e2⟩
  by_cases he : checkE L = 0
  · obtain ⟨b, rfl, hM⟩ := e2 he
    simp (disch := first | assumption | omega | (simp only [LN] <;> omega) | (simp (disch := first | assumption | omega | (simp only [LN] <;> omega)) only [row_alloc, row_set]; assumption)) only [W_block, P3, ↓reduceIte, reduceAdd, reduceEqDiff, reduceCtorEq, initFr, reduceLT, clsA, reduceLeDiff, reduceMul, reduceSub, reduceIte]
    exact hq2 _ _ ⟨_, rfl, kA.trans k1, .inr ⟨b, he, rfl, hM.base kA.n⟩⟩
  · rw [e1 he]
    have ne : (checkE L == 0) = false := by simp [he]
    simp (disch := first | assumption | omega | (simp only [LN] <;> omega) | (simp (disch := first | assumption | omega | (simp only [LN] <;> omega)) only [row_alloc, row_set]; assumption)) only [W_block, P3, ↓reduceIte, reduceAdd, reduceEqDiff, reduceCtorEq, initFr, reduceLT, clsA, reduceLeDiff, reduceMul, reduceSub, reduceIte, ne]
    exact hq2 _ _ ⟨_, rfl, kA.trans k1, .inl rfl⟩
end Go.AM.Fd

set_option linter.unusedSimpArgs false
set_option linter.unusedVariables false
namespace Go.AM.Fd
open Go.Proofs Go.AM.F
def RB : Nat := 140737488351232
theorem ar_lenB {P : Program} {H : AHeap} {v : Value} {t e : Nat} (hu : P.underlying t = some (.slice e)) (h : AR P H.get t [v]) : lenS v * P.bytesOf e ≤ RB := by
  rcases h.slice_inv hu with h2 | ⟨x, hx, h2⟩ | ⟨b, n, k, c, u, h2, h3, h4, ⟨_, h5⟩, _⟩
  · cases h2; simp [lenS]
  · cases h2; simp [lenS]
  · cases h2
    have : reachBytes = RB := by unfold reachBytes RB; rfl
    rw [this] at h5
    simp only [slc, lenS]
    exact Nat.le_trans (Nat.mul_le_mul_right _ h4) h5
structure RVB (x : RV) : Prop where
  p : x.r.path.length * 8 ≤ RB
  q : x.r.pts.length * 16 ≤ RB
  o : x.r.ov.length * 8 ≤ RB
  f : x.r.fl.length * 16 ≤ RB
structure LyB (xs : List RV) (L : Ly) : Prop where
  s : L.s.length * 16 ≤ RB
  p : L.p.length * 24 ≤ RB
  g : L.g.length * 24 ≤ RB
  r : L.r.length * 120 ≤ RB
  x : ∀ y ∈ xs, RVB y
theorem ar_routeB {H : AHeap} {r : List Value} (h : AR Go.Proofs.Try.prog H.get 50 r) : ∃ x : RV, r = x.row ∧ (x.ok H ∧ x.r.n.length ≤ 9223372036854775807 ∧ x.r.path.length ≤ 9223372036854775807 ∧ x.r.pts.length ≤ 9223372036854775807 ∧ x.r.ov.length ≤ 9223372036854775807 ∧ x.r.fl.length ≤ 9223372036854775807) ∧ RVB x := by
  have h1 := h.flat (d := 6) (ks := [.str, .int .i64, .sl 47, .sl 48, .sl 47, .sl 48]) (by kernel_rfl)
  obtain ⟨a, as1, rfl, ha, h2⟩ := h1.inv
  obtain ⟨b, bs, rfl, hb, h3⟩ := h2.inv
  obtain ⟨c, cs, rfl, hc, h4⟩ := h3.inv
  obtain ⟨d, ds, rfl, hd, h5⟩ := h4.inv
  obtain ⟨e, es, rfl, he, h6⟩ := h5.inv
  obtain ⟨f, fs, rfl, hf, h7⟩ := h6.inv
  have := h7.end_; subst this
  obtain ⟨s, rfl, hz⟩ := ha
  obtain ⟨m, rfl, _⟩ := hb
  obtain ⟨l, rfl⟩ := str_exL s
  obtain ⟨p, hp, lp⟩ := ar_ints hc
  obtain ⟨q, hq, lq⟩ := ar_needs hd
  obtain ⟨o, ho, lo⟩ := ar_ints he
  obtain ⟨g, hg, lg⟩ := ar_needs hf
  have b1 := ar_lenB (e := 3) (by kernel_rfl) hc
  have b2 := ar_lenB (e := 68) (by kernel_rfl) hd
  have b3 := ar_lenB (e := 3) (by kernel_rfl) he
  have b4 := ar_lenB (e := 68) (by kernel_rfl) hf
  have z1 : Program.bytesOf Go.Proofs.Try.prog 3 = 8 := by kernel_rfl
  have z2 : Program.bytesOf Go.Proofs.Try.prog 68 = 16 := by kernel_rfl
  rw [hp.len, z1] at b1
  rw [hq.len, z2] at b2
  rw [ho.len, z1] at b3
  rw [hg.len, z2] at b4
  have : maxLen = 9223372036854775807 := by unfold maxLen; rfl
  have : (⟨l.toArray⟩ : ByteArray).size = l.length := by simp [ByteArray.size]
  exact ⟨⟨⟨l, m, p, q, o, g⟩, c, d, e, f⟩, rfl, ⟨⟨hp, hq, ho, hg⟩, by simp only; omega, lp, lq, lo, lg⟩, ⟨b1, b2, b3, b4⟩⟩
theorem ar_lyB {H : AHeap} {cs : List Value} (h : AR Go.Proofs.Try.prog H.get 27 cs) : ∃ u xs L, cs = V4.l u ∧ LyR H u xs L ∧ LyIn 9223372036854775807 L ∧ LyB xs L := by
  have h1 := h.flat (d := 6) (ks := [.sl 22, .sl 23, .sl 24, .sl 25]) (by kernel_rfl)
  obtain ⟨a, as1, rfl, ha, h2⟩ := h1.inv
  obtain ⟨b, bs, rfl, hb, h3⟩ := h2.inv
  obtain ⟨c, cs, rfl, hc, h4⟩ := h3.inv
  obtain ⟨d, ds, rfl, hd, h5⟩ := h4.inv
  have := h5.end_; subst this
  obtain ⟨s, hs, ls, bs⟩ := ar_txs ha
  obtain ⟨p, hp, lp, bp⟩ := ar_named (e := 46) (by kernel_rfl) (by kernel_rfl) (by kernel_rfl) hb
  obtain ⟨g, hg, lg, bg⟩ := ar_named (e := 66) (by kernel_rfl) (by kernel_rfl) (by kernel_rfl) hc
  obtain ⟨rows, ⟨hr, lr⟩, hrow⟩ := ar_rows (e := 50) (esz := 6) (by kernel_rfl) (by kernel_rfl) hd
  obtain ⟨xs, rfl, hx⟩ := list_choose (f := RV.row) (Q := fun x : RV => (x.ok H ∧ x.r.n.length ≤ 9223372036854775807 ∧ x.r.path.length ≤ 9223372036854775807 ∧ x.r.pts.length ≤ 9223372036854775807 ∧ x.r.ov.length ≤ 9223372036854775807 ∧ x.r.fl.length ≤ 9223372036854775807) ∧ RVB x) (l := rows) (fun r hm => ar_routeB (hrow r hm))
  have b1 := ar_lenB (e := 9) (by kernel_rfl) ha
  have b2 := ar_lenB (e := 46) (by kernel_rfl) hb
  have b3 := ar_lenB (e := 66) (by kernel_rfl) hc
  have b4 := ar_lenB (e := 50) (by kernel_rfl) hd
  have z1 : Program.bytesOf Go.Proofs.Try.prog 9 = 16 := by kernel_rfl
  have z2 : Program.bytesOf Go.Proofs.Try.prog 46 = 24 := by kernel_rfl
  have z3 : Program.bytesOf Go.Proofs.Try.prog 66 = 24 := by kernel_rfl
  have z4 : Program.bytesOf Go.Proofs.Try.prog 50 = 120 := by kernel_rfl
  rw [hs.len, z1] at b1
  rw [hp.len, z2] at b2
  rw [hg.len, z3] at b3
  rw [Sl.len hr, z4] at b4
  refine ⟨⟨a, b, c, d⟩, xs, ⟨s, p, g, xs.map (·.r)⟩, rfl, ⟨hs, hp, hg, hr, rfl, fun x hm => (hx x hm).1.1⟩, ⟨⟨ls, bs⟩, ⟨lp, bp⟩, ⟨lg, bg⟩, ⟨by simpa using lr, fun x hm => ?_⟩⟩, ⟨b1, b2, b3, by simpa using b4, fun y hy => (hx y hy).2⟩⟩
  obtain ⟨y, hy, rfl⟩ := List.mem_map.1 hm
  exact (hx y hy).1.2
theorem av_lyB {H : AHeap} {v : Value} (h : AV Go.Proofs.Try.prog H.get 27 v) : ∃ u xs L, v = .agg (V4.l u).toArray ∧ LyR H u xs L ∧ LyIn 9223372036854775807 L ∧ LyB xs L := by
  obtain ⟨cs, rfl⟩ := h.2.1 (by kernel_rfl)
  obtain ⟨u, xs, L, h1, h2⟩ := ar_lyB h.1
  have e : cs.toList = V4.l u := by simpa [Value.cells] using h1
  exact ⟨u, xs, L, by rw [← e], h2⟩
theorem av_inp {H : AHeap} {v : Value} (h : AV Go.Proofs.Try.prog H.get 43 v) : ∃ x cv cs, v = .agg (inl x cv).toArray ∧ CL H cv cs ∧ cs.length ≤ 9223372036854775807 := by
  obtain ⟨as_, rfl⟩ := h.2.1 (by kernel_rfl)
  have h1 := h.1.flat (d := 6) (ks := [.int .u64, .int .u32, .int .u32, .sl 41]) (by kernel_rfl)
  have ec : (Value.agg as_).cells.toList = as_.toList := rfl
  rw [ec] at h1
  obtain ⟨a, as1, e1, ha, h2⟩ := h1.inv
  obtain ⟨b, bs, rfl, hb, h3⟩ := h2.inv
  obtain ⟨c, cs, rfl, hc, h4⟩ := h3.inv
  obtain ⟨d, ds, rfl, hd, h5⟩ := h4.inv
  have := h5.end_; subst this
  obtain ⟨n1, rfl, g1⟩ := fits_u64 ha
  obtain ⟨n2, rfl, g2⟩ := fits_u32 hb
  obtain ⟨n3, rfl, g3⟩ := fits_u32 hc
  obtain ⟨f1, q1⟩ := s64_of (x := (n1 : Int)) (by omega) (by omega)
  obtain ⟨f2, q2⟩ := s32_of (x := (n2 : Int)) (by omega) (by omega)
  obtain ⟨f3, q3⟩ := s32_of (x := (n3 : Int)) (by omega) (by omega)
  obtain ⟨rows, ⟨hr, lr⟩, hrow⟩ := ar_rows (e := 70) (esz := 2) (by kernel_rfl) (by kernel_rfl) hd
  obtain ⟨l, rfl, _⟩ := list_choose (f := cRow) (Q := fun _ => True) (l := rows) (fun r hm => by
    have h1 := (hrow r hm).flat (d := 5) (ks := [.int .u8, .int .i64]) (by kernel_rfl)
    obtain ⟨a, as1, rfl, ha, h2⟩ := h1.inv
    obtain ⟨b, bs, rfl, hb, h3⟩ := h2.inv
    have := h3.end_; subst this
    obtain ⟨n, rfl, _⟩ := ha
    obtain ⟨m, rfl, _⟩ := hb
    exact ⟨(n, m), rfl, trivial⟩)
  refine ⟨⟨f1, f2, f3⟩, d, l, ?_, hr, by simpa using lr⟩
  have e : as_.toList = inl ⟨f1, f2, f3⟩ d := by rw [e1, q1, q2, q3]; rfl
  rw [← e]
end Go.AM.Fd

set_option linter.unusedSimpArgs false
set_option linter.unusedVariables false
set_option maxRecDepth 8000
namespace Go.AM.Fd
open Nat (reduceAdd reduceEqDiff reduceLT reduceLeDiff reduceMul reduceSub)
open Go.Proofs Go.AM.F
def NoZ (K : AHeap) (S : List Nat) (z : Nat) : Prop := ∀ b ∈ S, ∀ o r esz c t, K.get b = some (.cells o r esz c t) → esz ≠ z
theorem ap_z {K K' : AHeap} {e z m : Nat} {v : Value} {c : List Value} {S : List Nat} (h : AP K e z v m c) (cc : Chg S K K') (hS : NoZ K S z) : AP K' e z v m c := by
  rcases h with h | ⟨b, room, rfl, h1, h2⟩
  · exact .inl h
  · refine .inr ⟨b, room, rfl, h1, cc.at_ h2 (fun hb => hS b hb _ _ _ _ _ h2 rfl)⟩
theorem noz_blk {e z z' : Nat} {H K : AHeap} {v : Value} {rows : List (List Value)} (h : OW e z H K v rows) (hz : z ≠ z') : NoZ K (blkL v) z' := by
  intro b hb o r esz c t g
  rw [mem_blkL] at hb
  rcases h.ap with ⟨rfl, _, _⟩ | ⟨b', room, rfl, _, h2⟩
  · cases hb
  · cases hb
    rw [h2] at g
    injection (Option.some.inj g) with _ _ e3 _ _
    omega
theorem noz_one {K : AHeap} {b z z' : Nat} {o r : Bool} {c : List Value} {t : Nat} (g : K.get b = some (.cells o r z c t)) (hz : z ≠ z') : NoZ K [b] z' := by
  intro b' hb o' r' esz c' t' g'
  rw [List.mem_singleton] at hb
  subst hb
  rw [g] at g'
  injection (Option.some.inj g') with _ _ e3 _ _
  omega
theorem ow_z {e z : Nat} {H K K' : AHeap} {v : Value} {rows : List (List Value)} {S : List Nat} (h : OW e z H K v rows) (cc : Chg S K K') (hS : NoZ K S z) (k : Keeps H K') : OW e z H K' v rows := ⟨ap_z h.ap cc hS, h.r, k, h.f⟩
structure RVo (H K : AHeap) (y : RV) : Prop where
  p : OW 3 1 H K y.vp (y.r.path.map iRow)
  q : OW 68 2 H K y.vq (y.r.pts.map nRow)
  o : OW 3 1 H K y.vo (y.r.ov.map iRow)
  f : OW 68 2 H K y.vf (y.r.fl.map nRow)
theorem RVo.ok {H K : AHeap} {y : RV} (h : RVo H K y) : y.ok K := ⟨h.p.sl, h.q.sl, h.o.sl, h.f.sl⟩
theorem RVo.keeps {H K K' : AHeap} {y : RV} (h : RVo H K y) (k : Keeps K K') : RVo H K' y := ⟨h.p.keeps k, h.q.keeps k, h.o.keeps k, h.f.keeps k⟩
theorem RVo.z {H K K' : AHeap} {y : RV} {S : List Nat} (h : RVo H K y) (cc : Chg S K K') (h1 : NoZ K S 1) (h2 : NoZ K S 2) (k : Keeps H K') : RVo H K' y := ⟨ow_z h.p cc h1 k, ow_z h.q cc h2 k, ow_z h.o cc h1 k, ow_z h.f cc h2 k⟩
structure CpI (H K : AHeap) (u : V4) (L : Ly) (ys : List RV) : Prop where
  s : OW 9 1 H K u.s (L.s.map tRow)
  p : OW 46 2 H K u.p (L.p.map pRow)
  g : OW 66 2 H K u.g (L.g.map pRow)
  r : OW 50 6 H K u.r (ys.map RV.row)
  y : ∀ y ∈ ys, RVo H K y
theorem CpI.keeps {H K K' : AHeap} {u : V4} {L : Ly} {ys : List RV} (h : CpI H K u L ys) (k : Keeps K K') : CpI H K' u L ys := ⟨h.s.keeps k, h.p.keeps k, h.g.keeps k, h.r.keeps k, fun y hy => (h.y y hy).keeps k⟩
theorem CpI.z {H K K' : AHeap} {u : V4} {L : Ly} {ys : List RV} {b z t : Nat} {o r : Bool} {c : List Value} (h : CpI H K u L ys) (cc : Chg [b] K K') (g : K.get b = some (.cells o r z c t)) (h1 : z ≠ 1) (h2 : z ≠ 2) (h6 : z ≠ 6) (k : Keeps H K') : CpI H K' u L ys :=
  ⟨ow_z h.s cc (noz_one g h1) k, ow_z h.p cc (noz_one g h2) k, ow_z h.g cc (noz_one g h2) k, ow_z h.r cc (noz_one g h6) k, fun y hy => (h.y y hy).z cc (noz_one g h1) (noz_one g h2) k⟩
theorem CpI.ly {H K : AHeap} {u : V4} {L : Ly} {ys : List RV} (h : CpI H K u L ys) (e : ys.map (·.r) = L.r) : LyR K u ys L := ⟨h.s.sl, h.p.sl, h.g.sl, h.r.sl, e, fun y hy => (h.y y hy).ok⟩
theorem nilK {K K' : AHeap} (c : Chg (blkL (.slice none 0 0)) K K') : Keeps K K' := by
  rw [show blkL (Value.slice none 0 0) = [] from rfl] at c; exact c.keeps (by simp)
theorem fillR6 (a : ByteArray) (k : Int) : fillA [.string ByteArray.empty, .int .i64 0, .slice none 0 0, .slice none 0 0, .slice none 0 0, .slice none 0 0] [(0, 1, .string a), (1, 1, .int .i64 k)] = some [.string a, .int .i64 k, .slice none 0 0, .slice none 0 0, .slice none 0 0, .slice none 0 0] := rfl
theorem fillR7 (x : ByteArray) (y : Int) (a b c d e f g h i j : Value) : fillA [.string x, .int .i64 y, g, h, i, j] [(0, 6, .agg #[a, b, c, d, e, f])] = some [a, b, c, d, e, f] := rfl
set_option maxHeartbeats 8000000 in
theorem t13 {H : AHeap} {u : V4} {xs : List RV} {L : Ly} (h : LyR H u xs L) (hb : LyB xs L) :
    ∃ w H', ARun Go.Proofs.Try.prog 0 13 [.agg u.l.toArray] H w H' ∧ Keeps H H' ∧ ∃ u' ys, w = .agg (V4.l u').toArray ∧ CpI H H' u' L ys ∧ ys.map (·.r) = L.r := by
  refine walk2 f13_ok f13_n ?_
  intro Q hq1 hq2
  have B1 := hb.s
  have B2 := hb.p
  have B3 := hb.g
  have B4 := hb.r
  unfold RB at B1 B2 B3 B4
  have os := Sl.one h.s
  have op := Sl.one h.p
  have og := Sl.one h.g
  have or := Sl.one h.r
  have ir := Sl.is h.r
  have lenr := h.r.len
  rw [h.rlen] at lenr
  have hul : u.l = [u.s, u.p, u.g, u.r] := rfl
  obtain ⟨K0, hK0⟩ : ∃ X, X = ((H.alloc (.cells true false 4 [u.s, u.p, u.g, u.r] 27)).alloc (.cells true false 4 [.slice none 0 0, .slice none 0 0, .slice none 0 0, .slice none 0 0] 27)).alloc (.cells true false 4 [.slice none 0 0, .slice none 0 0, .slice none 0 0, .slice none 0 0] 27) := ⟨_, rfl⟩
  have k0 : Keeps H K0 := by rw [hK0]; exact (((Keeps.refl H).alloc _).alloc _).alloc _
  have n0 : K0.n = H.n + 3 := by rw [hK0]; rfl
  have gl0 : K0.get H.n = some (.cells true false 4 [u.s, u.p, u.g, u.r] 27) := by rw [hK0]; exact (((Keeps.refl _).alloc _).alloc _).at_ (AHeap.get_alloc_new H _)
  have gw0 : K0.get (H.n + 1) = some (.cells true false 4 [.slice none 0 0, .slice none 0 0, .slice none 0 0, .slice none 0 0] 27) := by rw [hK0]; exact ((Keeps.refl _).alloc _).at_ (AHeap.get_alloc_new (H.alloc _) _)
  have go0 : K0.get (H.n + 2) = some (.cells true false 4 [.slice none 0 0, .slice none 0 0, .slice none 0 0, .slice none 0 0] 27) := by rw [hK0]; exact AHeap.get_alloc_new ((H.alloc _).alloc _) _
  rw [hul]
  simp (disch := first | assumption | omega | (simp only [LN] <;> omega) | (simp (disch := first | assumption | omega | (simp only [LN] <;> omega)) only [row_alloc, row_set]; assumption)) only [f13, W_block, P3, ↓reduceIte, reduceAdd, reduceEqDiff, reduceCtorEq, initFr, reduceLT, clsA, reduceLeDiff, reduceMul, reduceSub, reduceIte, os, op, og, or]
  simp only [← hK0]
  -- sections
  refine OW.appR (OW.nil 9 1 k0) (Sl.keeps h.s k0) (by simp; omega) ?_
  intro v1 K1 w1 c1
  have k1 := nilK c1
  have gl1 := k1.at_ gl0
  have gw1 := k1.at_ gw0
  have go1 := k1.at_ go0
  have lo1 := AHeap.get_lt go1
  have o1 := w1.one
  obtain ⟨K2, hK2⟩ : ∃ X, X = K1.set (H.n + 2) (.cells true false 4 [v1, .slice none 0 0, .slice none 0 0, .slice none 0 0] 27) := ⟨_, rfl⟩
  have c2 : Chg [H.n + 2] K1 K2 := by rw [hK2]; exact Chg.set K1 lo1 _
  have k2 : Keeps H K2 := (k0.trans k1).chg_trans c2 (by simp)
  have gl2 := c2.at_ gl1 (by simp)
  have gw2 := c2.at_ gw1 (by simp)
  have go2 : K2.get (H.n + 2) = some (.cells true false 4 [v1, .slice none 0 0, .slice none 0 0, .slice none 0 0] 27) := by rw [hK2]; exact AHeap.get_set_same go1 _
  have w2 := ow_z w1 c2 (noz_one go1 (by omega)) k2
  simp (disch := first | assumption | omega | (simp only [LN] <;> omega) | (simp (disch := first | assumption | omega | (simp only [LN] <;> omega)) only [row_alloc, row_set]; assumption)) only [W_block, P3, ↓reduceIte, reduceAdd, reduceEqDiff, reduceCtorEq, initFr, reduceLT, clsA, reduceLeDiff, reduceMul, reduceSub, reduceIte, go1, gl1, o1]
  simp only [← hK2]
  -- points
  refine OW.appR (OW.nil 46 2 k2) (Sl.keeps h.p k2) (by simp; omega) ?_
  intro v2 K3 w3 c3
  have k3 := nilK c3
  have kH3 := k2.trans k3
  have go3 := k3.at_ go2
  have gl3 := k3.at_ gl2
  have lo3 := AHeap.get_lt go3
  have o2 := w3.one
  obtain ⟨K4, hK4⟩ : ∃ X, X = K3.set (H.n + 2) (.cells true false 4 [v1, v2, .slice none 0 0, .slice none 0 0] 27) := ⟨_, rfl⟩
  have c4 : Chg [H.n + 2] K3 K4 := by rw [hK4]; exact Chg.set K3 lo3 _
  have k4 : Keeps H K4 := kH3.chg_trans c4 (by simp)
  have gl4 := c4.at_ gl3 (by simp)
  have go4 : K4.get (H.n + 2) = some (.cells true false 4 [v1, v2, .slice none 0 0, .slice none 0 0] 27) := by rw [hK4]; exact AHeap.get_set_same go3 _
  have w1_4 := ow_z (w2.keeps k3) c4 (noz_one go3 (by omega)) k4
  have w2_4 := ow_z w3 c4 (noz_one go3 (by omega)) k4
  simp (disch := first | assumption | omega | (simp only [LN] <;> omega) | (simp (disch := first | assumption | omega | (simp only [LN] <;> omega)) only [row_alloc, row_set]; assumption)) only [W_block, P3, ↓reduceIte, reduceAdd, reduceEqDiff, reduceCtorEq, initFr, reduceLT, clsA, reduceLeDiff, reduceMul, reduceSub, reduceIte, go3, gl3, o2]
  simp only [← hK4]
  -- signals
  refine OW.appR (OW.nil 66 2 k4) (Sl.keeps h.g k4) (by simp; omega) ?_
  intro v3 K5 w5 c5
  have k5 := nilK c5
  have kH5 := k4.trans k5
  have go5 := k5.at_ go4
  have gl5 := k5.at_ gl4
  have gw5 := (k5.at_ (c4.at_ (k3.at_ gw2) (by simp)))
  have lo5 := AHeap.get_lt go5
  have o3 := w5.one
  obtain ⟨K6, hK6⟩ : ∃ X, X = K5.set (H.n + 2) (.cells true false 4 [v1, v2, v3, .slice none 0 0] 27) := ⟨_, rfl⟩
  have c6 : Chg [H.n + 2] K5 K6 := by rw [hK6]; exact Chg.set K5 lo5 _
  have k6 : Keeps H K6 := kH5.chg_trans c6 (by simp)
  have gl6 := c6.at_ gl5 (by simp)
  have gw6 := c6.at_ gw5 (by simp)
  have go6 : K6.get (H.n + 2) = some (.cells true false 4 [v1, v2, v3, .slice none 0 0] 27) := by rw [hK6]; exact AHeap.get_set_same go5 _
  have cp0 : CpI H K6 ⟨v1, v2, v3, .slice none 0 0⟩ L [] := ⟨ow_z (w1_4.keeps k5) c6 (noz_one go5 (by omega)) k6, ow_z (w2_4.keeps k5) c6 (noz_one go5 (by omega)) k6, ow_z w5 c6 (noz_one go5 (by omega)) k6, OW.nil _ _ k6, by simp⟩
  simp (disch := first | assumption | omega | (simp only [LN] <;> omega) | (simp (disch := first | assumption | omega | (simp only [LN] <;> omega)) only [row_alloc, row_set]; assumption)) only [ P3, ↓reduceIte, reduceAdd, reduceEqDiff, reduceCtorEq, initFr, reduceLT, clsA, reduceLeDiff, reduceMul, reduceSub, reduceIte, go5, gl5, o3]
  simp only [← hK6]
  obtain ⟨A1, hA1⟩ : ∃ v : Value, v = .agg #[u.s, u.p, u.g, u.r] := ⟨_, rfl⟩
  rw [W_block, ← hA1]
  refine W_loop2 (fun q fr M => ∃ i vr ys x5 x6 x7, fr = [A1, ptr H.n 0, ptr (H.n + 1) 0, ptr (H.n + 2) 0, .int .i64 ((i : Nat) : Int), x5, x6, x7] ∧ CpI H M ⟨v1, v2, v3, vr⟩ L ys ∧ ys.map (·.r) = L.r.take i ∧
      M.get (H.n + 2) = some (.cells true false 4 [v1, v2, v3, vr] 27) ∧ M.get H.n = some (.cells true false 4 [u.s, u.p, u.g, u.r] 27) ∧ M.get (H.n + 1) = some (.cells true false 4 [.slice none 0 0, .slice none 0 0, .slice none 0 0, .slice none 0 0] 27) ∧ i ≤ L.r.length ∧ q = L.r.length - i) L.r.length
    ⟨0, .slice none 0 0, [], _, _, _, rfl, cp0, rfl, go6, gl6, gw6, by omega, rfl⟩ ?_
  rintro Q' q fr M ⟨i, vr, ys, x5, x6, x7, rfl, cp, hys, go, gl, gw, hi, rfl⟩ hn' hx' hret
  have kM := cp.s.k
  have lo := AHeap.get_lt go
  by_cases hlt : i < L.r.length
  · obtain ⟨hyr, hyo⟩ := rv_ro h hlt
    obtain ⟨na, ra⟩ := (h.r.keeps kM).at_ (i := i) (by rw [h.rlen]; exact hlt)
    have hyb := hb.x (xs.getD i rv0) (by
      have hl : i < xs.length := by rw [h.rlen]; exact hlt
      rw [List.getD_eq_getElem?_getD, List.getElem?_eq_getElem hl]; exact List.getElem_mem hl)
    have htk : L.r.take (i + 1) = L.r.take i ++ [(xs.getD i rv0).r] := by rw [hyr, ro_eq hlt, List.take_add_one, List.getElem?_eq_getElem hlt]; rfl
    generalize xs.getD i rv0 = y at *
    have D1 := hyb.p
    have D2 := hyb.q
    have D3 := hyb.o
    have D4 := hyb.f
    unfold RB at D1 D2 D3 D4
    have rowy : y.row = [.string ⟨y.r.n.toArray⟩, .int .i64 y.r.g, y.vp, y.vq, y.vo, y.vf] := rfl
    obtain ⟨a3, a4, a5, a6⟩ := RV.ones hyo
    have a1 : one1 (Value.int .i64 y.r.g) = True := by simp [one1, one_int]
    have a2 : one1 (Value.string ⟨y.r.n.toArray⟩) = True := by simp [one1, one_str]
    have e0 : (0 : Int) ≤ (i : Int) := by omega
    have e1 : (i : Int) < ((L.r.length : Nat) : Int) := by omega
    have hw : IntKind.i64.wrap ((i : Int) + 1) = ((i + 1 : Nat) : Int) := by rw [wrap_i64 (by omega) (by omega)]; simp
    obtain ⟨M1, hM1⟩ : ∃ X, X = (M.alloc (.cells true false 6 y.row 50)).alloc (.cells true false 6 [.string ⟨y.r.n.toArray⟩, .int .i64 y.r.g, .slice none 0 0, .slice none 0 0, .slice none 0 0, .slice none 0 0] 50) := ⟨_, rfl⟩
    have kM1 : Keeps M M1 := by rw [hM1]; exact ((Keeps.refl M).alloc _).alloc _
    have nM1 : M1.n = M.n + 2 := by rw [hM1]; rfl
    have gy1 : M1.get M.n = some (.cells true false 6 y.row 50) := by rw [hM1]; exact ((Keeps.refl _).alloc _).at_ (AHeap.get_alloc_new M _)
    have gx1 : M1.get (M.n + 1) = some (.cells true false 6 [.string ⟨y.r.n.toArray⟩, .int .i64 y.r.g, .slice none 0 0, .slice none 0 0, .slice none 0 0, .slice none 0 0] 50) := by rw [hM1]; exact AHeap.get_alloc_new (M.alloc _) _
    rw [rowy] at hM1 gy1 ra
    have kHM1 := kM.trans kM1
    simp (disch := first | assumption | omega | (simp only [LN] <;> omega) | (simp (disch := first | assumption | omega | (simp only [LN] <;> omega)) only [row_alloc, row_set]; assumption)) only [W_block, P3, ↓reduceIte, reduceAdd, reduceEqDiff, reduceCtorEq, initFr, reduceLT, clsA, reduceLeDiff, reduceMul, reduceSub, reduceIte, gl, ir, lenr, na, ra, e0, e1, a_loadnvf, a1, a2, a3, a4, a5, a6, fillR6]
    simp only [← hM1]
    refine OW.appR (OW.nil 3 1 kHM1) (Sl.keeps hyo.p kHM1) (by simp; omega) ?_
    intro z0 P0a wz0 cz0
    have kz0 := nilK cz0
    have kHz0 := (kHM1).trans kz0
    have gxa0 := kz0.at_ gx1
    have gya0 := kz0.at_ gy1
    have lxa0 := AHeap.get_lt gxa0
    have oz0 := wz0.one
    obtain ⟨P0b, hB0⟩ : ∃ X, X = P0a.set (M.n + 1) (.cells true false 6 [.string ⟨y.r.n.toArray⟩, .int .i64 y.r.g, z0, .slice none 0 0, .slice none 0 0, .slice none 0 0] 50) := ⟨_, rfl⟩
    have cb0 : Chg [M.n + 1] P0a P0b := by rw [hB0]; exact Chg.set P0a lxa0 _
    have kHb0 : Keeps H P0b := kHz0.chg_trans cb0 (by simp; omega)
    have gxb0 : P0b.get (M.n + 1) = some (.cells true false 6 [.string ⟨y.r.n.toArray⟩, .int .i64 y.r.g, z0, .slice none 0 0, .slice none 0 0, .slice none 0 0] 50) := by rw [hB0]; exact AHeap.get_set_same gxa0 _
    have gyb0 := cb0.at_ gya0 (by simp)
    have w0_0 := ow_z wz0 cb0 (noz_one gxa0 (by omega)) kHb0
    simp (disch := first | assumption | omega | (simp only [LN] <;> omega) | (simp (disch := first | assumption | omega | (simp only [LN] <;> omega)) only [row_alloc, row_set]; assumption)) only [W_block, P3, ↓reduceIte, reduceAdd, reduceEqDiff, reduceCtorEq, initFr, reduceLT, clsA, reduceLeDiff, reduceMul, reduceSub, reduceIte, gxa0, gya0, oz0, a1, a2]
    simp only [← hB0]
    refine OW.appR (OW.nil 68 2 kHb0) (Sl.keeps hyo.q kHb0) (by simp; omega) ?_
    intro z1 P1a wz1 cz1
    have kz1 := nilK cz1
    have kHz1 := (kHb0).trans kz1
    have gxa1 := kz1.at_ gxb0
    have gya1 := kz1.at_ gyb0
    have lxa1 := AHeap.get_lt gxa1
    have oz1 := wz1.one
    obtain ⟨P1b, hB1⟩ : ∃ X, X = P1a.set (M.n + 1) (.cells true false 6 [.string ⟨y.r.n.toArray⟩, .int .i64 y.r.g, z0, z1, .slice none 0 0, .slice none 0 0] 50) := ⟨_, rfl⟩
    have cb1 : Chg [M.n + 1] P1a P1b := by rw [hB1]; exact Chg.set P1a lxa1 _
    have kHb1 : Keeps H P1b := kHz1.chg_trans cb1 (by simp; omega)
    have gxb1 : P1b.get (M.n + 1) = some (.cells true false 6 [.string ⟨y.r.n.toArray⟩, .int .i64 y.r.g, z0, z1, .slice none 0 0, .slice none 0 0] 50) := by rw [hB1]; exact AHeap.get_set_same gxa1 _
    have gyb1 := cb1.at_ gya1 (by simp)
    have w0_1 := ow_z (w0_0.keeps kz1) cb1 (noz_one gxa1 (by omega)) kHb1
    have w1_1 := ow_z wz1 cb1 (noz_one gxa1 (by omega)) kHb1
    simp (disch := first | assumption | omega | (simp only [LN] <;> omega) | (simp (disch := first | assumption | omega | (simp only [LN] <;> omega)) only [row_alloc, row_set]; assumption)) only [W_block, P3, ↓reduceIte, reduceAdd, reduceEqDiff, reduceCtorEq, initFr, reduceLT, clsA, reduceLeDiff, reduceMul, reduceSub, reduceIte, gxa1, gya1, oz1, a1, a2]
    simp only [← hB1]
    refine OW.appR (OW.nil 3 1 kHb1) (Sl.keeps hyo.o kHb1) (by simp; omega) ?_
    intro z2 P2a wz2 cz2
    have kz2 := nilK cz2
    have kHz2 := (kHb1).trans kz2
    have gxa2 := kz2.at_ gxb1
    have gya2 := kz2.at_ gyb1
    have lxa2 := AHeap.get_lt gxa2
    have oz2 := wz2.one
    obtain ⟨P2b, hB2⟩ : ∃ X, X = P2a.set (M.n + 1) (.cells true false 6 [.string ⟨y.r.n.toArray⟩, .int .i64 y.r.g, z0, z1, z2, .slice none 0 0] 50) := ⟨_, rfl⟩
    have cb2 : Chg [M.n + 1] P2a P2b := by rw [hB2]; exact Chg.set P2a lxa2 _
    have kHb2 : Keeps H P2b := kHz2.chg_trans cb2 (by simp; omega)
    have gxb2 : P2b.get (M.n + 1) = some (.cells true false 6 [.string ⟨y.r.n.toArray⟩, .int .i64 y.r.g, z0, z1, z2, .slice none 0 0] 50) := by rw [hB2]; exact AHeap.get_set_same gxa2 _
    have gyb2 := cb2.at_ gya2 (by simp)
    have w0_2 := ow_z (w0_1.keeps kz2) cb2 (noz_one gxa2 (by omega)) kHb2
    have w1_2 := ow_z (w1_1.keeps kz2) cb2 (noz_one gxa2 (by omega)) kHb2
    have w2_2 := ow_z wz2 cb2 (noz_one gxa2 (by omega)) kHb2
    simp (disch := first | assumption | omega | (simp only [LN] <;> omega) | (simp (disch := first | assumption | omega | (simp only [LN] <;> omega)) only [row_alloc, row_set]; assumption)) only [W_block, P3, ↓reduceIte, reduceAdd, reduceEqDiff, reduceCtorEq, initFr, reduceLT, clsA, reduceLeDiff, reduceMul, reduceSub, reduceIte, gxa2, gya2, oz2, a1, a2]
    simp only [← hB2]
    refine OW.appR (OW.nil 68 2 kHb2) (Sl.keeps hyo.f kHb2) (by simp; omega) ?_
    intro z3 P3a wz3 cz3
    have kz3 := nilK cz3
    have kHz3 := (kHb2).trans kz3
    have gxa3 := kz3.at_ gxb2
    have gya3 := kz3.at_ gyb2
    have lxa3 := AHeap.get_lt gxa3
    have oz3 := wz3.one
    obtain ⟨P3b, hB3⟩ : ∃ X, X = P3a.set (M.n + 1) (.cells true false 6 [.string ⟨y.r.n.toArray⟩, .int .i64 y.r.g, z0, z1, z2, z3] 50) := ⟨_, rfl⟩
    have cb3 : Chg [M.n + 1] P3a P3b := by rw [hB3]; exact Chg.set P3a lxa3 _
    have kHb3 : Keeps H P3b := kHz3.chg_trans cb3 (by simp; omega)
    have gxb3 : P3b.get (M.n + 1) = some (.cells true false 6 [.string ⟨y.r.n.toArray⟩, .int .i64 y.r.g, z0, z1, z2, z3] 50) := by rw [hB3]; exact AHeap.get_set_same gxa3 _
    have gyb3 := cb3.at_ gya3 (by simp)
    have w0_3 := ow_z (w0_2.keeps kz3) cb3 (noz_one gxa3 (by omega)) kHb3
    have w1_3 := ow_z (w1_2.keeps kz3) cb3 (noz_one gxa3 (by omega)) kHb3
    have w2_3 := ow_z (w2_2.keeps kz3) cb3 (noz_one gxa3 (by omega)) kHb3
    have w3_3 := ow_z wz3 cb3 (noz_one gxa3 (by omega)) kHb3
    have kMP : Keeps M P3b := ((((((((kM1).trans kz0).chg_trans cb0 (by simp)).trans kz1).chg_trans cb1 (by simp)).trans kz2).chg_trans cb2 (by simp)).trans kz3).chg_trans cb3 (by simp)
    simp (disch := first | assumption | omega | (simp only [LN] <;> omega) | (simp (disch := first | assumption | omega | (simp only [LN] <;> omega)) only [row_alloc, row_set]; assumption)) only [W_block, P3, ↓reduceIte, reduceAdd, reduceEqDiff, reduceCtorEq, initFr, reduceLT, clsA, reduceLeDiff, reduceMul, reduceSub, reduceIte, gxa3, gya3, oz3, a1, a2]
    simp only [← hB3]
    have kMa : Keeps M P3a := ((((((((kM1).trans kz0).chg_trans cb0 (by simp)).trans kz1).chg_trans cb1 (by simp)).trans kz2).chg_trans cb2 (by simp))).trans kz3
    have goA := kMa.at_ go
    have goB := kMP.at_ go
    have glB := kMP.at_ gl
    have gwB := kMP.at_ gw
    have loB := AHeap.get_lt goB
    have cpB := cp.keeps kMP
    have isr := cpB.r.is
    have oz0' := w0_3.one
    have oz1' := w1_3.one
    have oz2' := w2_3.one
    have oz3' := w3_3.one
    obtain ⟨y', hy'⟩ : ∃ y' : RV, y' = ⟨y.r, z0, z1, z2, z3⟩ := ⟨_, rfl⟩
    have ry' : y'.row = [.string ⟨y.r.n.toArray⟩, .int .i64 y.r.g, z0, z1, z2, z3] := by rw [hy']; rfl
    have yo : RVo H P3b y' := by rw [hy']; exact ⟨w0_3, w1_3, w2_3, w3_3⟩
    obtain ⟨P4, hP4⟩ : ∃ X, X = P3b.alloc (.cells true false 6 y'.row 50) := ⟨_, rfl⟩
    have kP4 : Keeps P3b P4 := by rw [hP4]; exact (Keeps.refl P3b).alloc _
    have slP4 : Sl P4 6 (slc P3b.n 0 1 1) [y'.row] := by rw [hP4]; exact Sl.one1 rfl (by rw [ry']; rfl)
    have cp4 := cpB.keeps kP4
    have yo4 := yo.keeps kP4
    have go4' := kP4.at_ goB
    have yl : ys.length = i := by have := congrArg List.length hys; simp at this; omega
    rw [ry'] at hP4 slP4
    simp (disch := first | assumption | omega | (simp only [LN] <;> omega) | (simp (disch := first | assumption | omega | (simp only [LN] <;> omega)) only [row_alloc, row_set]; assumption)) only [W_block, P3, ↓reduceIte, reduceAdd, reduceEqDiff, reduceCtorEq, initFr, reduceLT, clsA, reduceLeDiff, reduceMul, reduceSub, reduceIte, goA, gxb3, fillR7, a1, a2, oz0', oz1', oz2', oz3']
    simp only [← hP4]
    refine OW.appR cp4.r slP4 (by simp [yl]; omega) ?_
    intro vr' K' ow' c'
    have kP4' : Keeps H K' := ow'.k
    have nz1 := noz_blk (z' := 1) cp4.r (by omega)
    have nz2 := noz_blk (z' := 2) cp4.r (by omega)
    have nz4 := noz_blk (z' := 4) cp4.r (by omega)
    have hob : H.n + 2 ∉ blkL vr := fun hm => nz4 _ hm _ _ _ _ _ go4' rfl
    have hlb : H.n ∉ blkL vr := fun hm => nz4 _ hm _ _ _ _ _ (kP4.at_ glB) rfl
    have hwb : H.n + 1 ∉ blkL vr := fun hm => nz4 _ hm _ _ _ _ _ (kP4.at_ gwB) rfl
    have goK := c'.at_ go4' hob
    have glK := c'.at_ (kP4.at_ glB) hlb
    have gwK := c'.at_ (kP4.at_ gwB) hwb
    have loK := AHeap.get_lt goK
    have or' := ow'.one
    have e7 : (ys ++ [y']).map RV.row = ys.map RV.row ++ [[.string ⟨y.r.n.toArray⟩, .int .i64 y.r.g, z0, z1, z2, z3]] := by rw [List.map_append, ← ry']; rfl
    have cpK : CpI H K' ⟨v1, v2, v3, vr'⟩ L (ys ++ [y']) := ⟨ow_z cp4.s c' nz1 kP4', ow_z cp4.p c' nz2 kP4', ow_z cp4.g c' nz2 kP4', by rw [e7]; exact ow', fun z hz => by
      rcases List.mem_append.1 hz with hz | hz
      · exact (cp4.y z hz).z c' nz1 nz2 kP4'
      · rw [List.mem_singleton] at hz; subst hz; exact yo4.z c' nz1 nz2 kP4'⟩
    simp (disch := first | assumption | omega | (simp only [LN] <;> omega) | (simp (disch := first | assumption | omega | (simp only [LN] <;> omega)) only [row_alloc, row_set]; assumption)) only [W_block, P3, ↓reduceIte, reduceAdd, reduceEqDiff, reduceCtorEq, initFr, reduceLT, clsA, reduceLeDiff, reduceMul, reduceSub, reduceIte, goK, or', hw]
    exact hn' _ _ _ ⟨i + 1, vr', ys ++ [y'], _, _, _, rfl, cpK.z (Chg.set K' loK _) goK (by omega) (by omega) (by omega) (kP4'.set (by omega) loK _), by rw [List.map_append, hys, htk, hy']; rfl, AHeap.get_set_same goK _,
      by rw [AHeap.get_set_other K' (by omega) loK]; exact glK, by rw [AHeap.get_set_other K' (by omega) loK]; exact gwK, by omega, rfl⟩ (by omega)
  · have e1 : ¬ ((i : Nat) : Int) < ((L.r.length : Nat) : Int) := by omega
    have hie : i = L.r.length := by omega
    subst hie
    rw [List.take_length] at hys
    have hwl := AHeap.get_lt gw
    have p1 := cp.s.one
    have p2 := cp.p.one
    have p3 := cp.g.one
    have p4 := cp.r.one
    simp only at p1 p2 p3 p4
    simp (disch := first | assumption | omega | (simp only [LN] <;> omega) | (simp (disch := first | assumption | omega | (simp only [LN] <;> omega)) only [row_alloc, row_set]; assumption)) only [W_block, P3, ↓reduceIte, reduceAdd, reduceEqDiff, reduceCtorEq, initFr, reduceLT, clsA, reduceLeDiff, reduceMul, reduceSub, reduceIte, gl, ir, lenr, e1]
    refine hx' _ _ _ ?_
    simp (disch := first | assumption | omega | (simp only [LN] <;> omega) | (simp (disch := first | assumption | omega | (simp only [LN] <;> omega)) only [row_alloc, row_set]; assumption)) only [W_block, P3, ↓reduceIte, reduceAdd, reduceEqDiff, reduceCtorEq, initFr, reduceLT, clsA, reduceLeDiff, reduceMul, reduceSub, reduceIte, go, gw, p1, p2, p3, p4]
    refine hq2 _ _ ⟨.agg (V4.l ⟨v1, v2, v3, vr⟩).toArray, ?_, kM.set (by omega) hwl _, ⟨v1, v2, v3, vr⟩, ys, rfl, cp.z (Chg.set M hwl _) gw (by omega) (by omega) (by omega) (kM.set (by omega) hwl _), hys⟩
    show resO [.cn 4 2] _ _ = _
    rw [resC]
    show celln 4 (ptr (H.n + 1) 0) _ = _
    rw [cellnp, rangeA_e, AHeap.get_set_same gw]; rfl
end Go.AM.Fd

set_option linter.unusedSimpArgs false
set_option linter.unusedVariables false
set_option maxRecDepth 8000
namespace Go.AM.Fd
open Nat (reduceAdd reduceEqDiff reduceLT reduceLeDiff reduceMul reduceSub)
open Go.Proofs Go.AM.F
theorem Z68I_z' : Z68I = stl Sta0 := stl_zero
theorem t72 {H : AHeap} {x : Inp} {cv : Value} (hc : isS cv = true) (n : Int) : ∃ w H', ARun Go.Proofs.Try.prog 0 72 [.agg (inl x cv).toArray, .int .i64 n] H w H' ∧ w = .bool (!hasB x.oc n) ∧ H' = H := by
  suffices h' : ∃ w H', ARun Go.Proofs.Try.prog 0 72 [.agg (inl x cv).toArray, .int .i64 n] H w H' ∧ w = .bool (!hasB x.oc n) ∧ Keeps H H' by
    obtain ⟨_, _, a, rfl, k⟩ := h'
    exact ⟨_, _, a.gc0 k (.inr (.bool _)), rfl, rfl⟩
  refine walk2 f72_ok f72_n ?_
  intro Q hq1 hq2
  have kA := (Keeps.refl H).alloc (.cells true false 4 (inl x cv) 43)
  have o1 := one_isS hc
  unfold inl at kA ⊢
  simp (disch := first | assumption | omega | (simp only [LN] <;> omega) | (simp (disch := first | assumption | omega | (simp only [LN] <;> omega)) only [row_alloc, row_set]; assumption)) only [f72, W_block, P3, ↓reduceIte, reduceAdd, reduceEqDiff, reduceCtorEq, initFr, reduceLT, clsA, reduceLeDiff, reduceMul, reduceSub, reduceIte, o1, o_s64, o_s32, one_s64, one_s32]
  refine callK (t24 _ _) ?_
  rintro _ X ⟨rfl, hX⟩
  rw [hX]
  simp (disch := first | assumption | omega | (simp only [LN] <;> omega) | (simp (disch := first | assumption | omega | (simp only [LN] <;> omega)) only [row_alloc, row_set]; assumption)) only [W_block, P3, ↓reduceIte, reduceAdd, reduceEqDiff, reduceCtorEq, initFr, reduceLT, clsA, reduceLeDiff, reduceMul, reduceSub, reduceIte]
  exact hq2 _ _ ⟨_, rfl, rfl, kA⟩
theorem t76 {H : AHeap} {x : Inp} {cv : Value} (hc : isS cv = true) :
    ∃ w H', ARun Go.Proofs.Try.prog 0 76 [.agg (inl x cv).toArray] H w H' ∧ w = .tuple #[S32 (sideN x), S32 (sideR x)] ∧ H' = H := by
  suffices h' : ∃ w H', ARun Go.Proofs.Try.prog 0 76 [.agg (inl x cv).toArray] H w H' ∧ w = .tuple #[S32 (sideN x), S32 (sideR x)] ∧ Keeps H H' by
    obtain ⟨_, _, a, rfl, k⟩ := h'
    exact ⟨_, _, a.gc0 k (.inr (.tuple _ _ rfl (fun i a b => by
      match i, a with
      | 0, _ => exact .int _ _
      | 1, _ => exact .int _ _))), rfl, rfl⟩
  refine walk2 f76_ok f76_n ?_
  intro Q hq1 hq2
  have kA := (Keeps.refl H).alloc (.cells true false 4 (inl x cv) 43)
  have o1 := one_isS hc
  unfold inl at kA ⊢
  simp (disch := first | assumption | omega | (simp only [LN] <;> omega) | (simp (disch := first | assumption | omega | (simp only [LN] <;> omega)) only [row_alloc, row_set]; assumption)) only [f76, W_block, P3, ↓reduceIte, reduceAdd, reduceEqDiff, reduceCtorEq, initFr, reduceLT, clsA, reduceLeDiff, reduceMul, reduceSub, reduceIte, o1, o_s64, o_s32, one_s64, one_s32, p_andn]
  exact hq2 _ _ ⟨_, rfl, rfl, kA⟩
def relS (s : Sta) (i : Nat) : Sta where
  lo := fun j => s.lo j && !decide (j = i)
  us := fun j => s.us j && !decide (j = i)
  ca := fun j => s.ca j && !decide (j = i)
  ti := upd s.ti i 0
  po := s.po
theorem t75 {H : AHeap} (s : Sta) {i : Nat} (hi : i < 64) : ∃ w H', ARun Go.Proofs.Try.prog 0 75 [.agg (stl s).toArray, .int .i64 (i : Nat)] H w H' ∧ w = .agg (stl (relS s i)).toArray ∧ H' = H := by
  suffices h' : ∃ w H', ARun Go.Proofs.Try.prog 0 75 [.agg (stl s).toArray, .int .i64 (i : Nat)] H w H' ∧ w = .agg (stl (relS s i)).toArray ∧ Keeps H H' by
    obtain ⟨_, _, a, rfl, k⟩ := h'
    exact ⟨_, _, a.gc0 k (.inr (nv_stl _ _)), rfl, rfl⟩
  refine walk2 f75_ok f75_n ?_
  intro Q hq1 hq2
  have s1 := s_shl1 hi
  have z0 := fun t : Sta => set_t0 t hi
  have hll : 3 + i < 68 := by omega
  have e0 : (0 : Int) ≤ (i : Int) := by omega
  have e1 : (i : Int) < 64 := by omega
  have hr : (⟨fun j => s.lo j && !decide (j = i), fun j => s.us j && !decide (j = i), fun j => s.ca j && !decide (j = i), upd s.ti i 0, s.po⟩ : Sta) = relS s i := rfl
  simp (disch := first | assumption | omega | (simp only [LN] <;> omega) | (simp (disch := first | assumption | omega | (simp only [LN] <;> omega)) only [row_alloc, row_set]; assumption)) only [f75, W_block, P3, ↓reduceIte, reduceAdd, reduceEqDiff, reduceCtorEq, initFr, reduceLT, clsA, reduceLeDiff, reduceMul, reduceSub, reduceIte, stl_one, stl_len, Z68I_z', stl_0, stl_1, stl_2, set_0, set_1, set_2, s1, s_andn, o_s64, one_s64, e0, e1, a_iaddrp, z0, hll, rng68, stn68s, Int.toNat_natCast, Nat.mul_one]
  rw [hr]
  refine hq2 _ _ ⟨.agg (stl (relS s i)).toArray, ?_, rfl, ((Keeps.refl H).alloc _).alloc _⟩
  show resO [.cn 68 3] _ _ = _
  rw [resC]
  show celln 68 (ptr (H.n + 1) 0) _ = _
  have gg := AHeap.get_alloc_new (H.alloc (.cells true false 68 (stl (relS s i)) 32)) (.cells true false 68 (stl (relS s i)) 32)
  have gg' : ((H.alloc (.cells true false 68 (stl (relS s i)) 32)).alloc (.cells true false 68 (stl (relS s i)) 32)).get (H.n + 1) = _ := gg
  rw [cellnp, rangeA_e, gg', rng68]; rfl
def frD (x : Inp) (r : Ro) : Bool := (trk r).all fun t => !hasB x.oc t
theorem take_all {α : Type} {p : α → Bool} {l : List α} {i : Nat} (h : i < l.length) (h1 : (l.take i).all p = true) (h2 : p l[i] = true) : (l.take (i + 1)).all p = true := by
  rw [List.take_add_one, List.getElem?_eq_getElem h, List.all_append, h1]; simp [h2]
set_option maxHeartbeats 1000000 in
theorem t74 {H : AHeap} {y : RV} {x : Inp} {cv : Value} (h : y.ok H) (hl : y.r.path.length + y.r.ov.length ≤ 1000000) (hc : isS cv = true) :
    ∃ w H', ARun Go.Proofs.Try.prog 0 74 [.agg y.row.toArray, .agg (inl x cv).toArray] H w H' ∧ w = .bool (frD x y.r) ∧ H' = H := by
  suffices h' : ∃ w H', ARun Go.Proofs.Try.prog 0 74 [.agg y.row.toArray, .agg (inl x cv).toArray] H w H' ∧ w = .bool (frD x y.r) ∧ Keeps H H' by
    obtain ⟨_, _, a, rfl, k⟩ := h'
    exact ⟨_, _, a.gc0 k (.inr (.bool _)), rfl, rfl⟩
  refine walk2 f74_ok f74_n ?_
  intro Q hq1 hq2
  have o1 := one_isS hc
  obtain ⟨a3, a4, a5, a6⟩ := RV.ones h
  have a1 : one1 (Value.int .i64 y.r.g) = True := by simp [one1, one_int]
  have a2 : one1 (Value.string ⟨y.r.n.toArray⟩) = True := by simp [one1, one_str]
  have rowy : y.row = [.string ⟨y.r.n.toArray⟩, .int .i64 y.r.g, y.vp, y.vq, y.vo, y.vf] := rfl
  obtain ⟨K0, hK0⟩ : ∃ X, X = (H.alloc (.cells true false 6 y.row 50)).alloc (.cells true false 4 (inl x cv) 43) := ⟨_, rfl⟩
  have k0 : Keeps H K0 := by rw [hK0]; exact ((Keeps.refl H).alloc _).alloc _
  have gi0 : K0.get (H.n + 1) = some (.cells true false 4 (inl x cv) 43) := by rw [hK0]; exact AHeap.get_alloc_new (H.alloc _) _
  have tT := t63 (h.keeps k0) hl
  have tCl := fun K n => t72 (H := K) (x := x) hc n
  obtain ⟨A1, hA1⟩ : ∃ v : Value, v = .agg y.row.toArray := ⟨_, rfl⟩
  obtain ⟨A2, hA2⟩ : ∃ v : Value, v = .agg (inl x cv).toArray := ⟨_, rfl⟩
  have ti : trk y.r = trk y.r := rfl
  have hinl : inl x cv = [S64 x.oc, S32 x.nr, S32 x.rv, cv] := rfl
  rw [rowy, hinl] at hK0
  rw [rowy] at tT hA1 ⊢
  rw [hinl] at gi0 hA2 ⊢
  simp only [hinl] at tCl
  simp (disch := first | assumption | omega | (simp only [LN] <;> omega) | (simp (disch := first | assumption | omega | (simp only [LN] <;> omega)) only [row_alloc, row_set]; assumption)) only [f74, W_block, P3, ↓reduceIte, reduceAdd, reduceEqDiff, reduceCtorEq, initFr, reduceLT, clsA, reduceLeDiff, reduceMul, reduceSub, reduceIte, a1, a2, a3, a4, a5, a6, o1, o_s64, o_s32, one_s64, one_s32]
  simp only [← hK0]
  refine callK tT ?_
  rintro tv K1 ⟨ht, k1, ft⟩
  have gi1 := k1.at_ gi0
  have len := ht.len
  have is := Sl.is ht
  have tl : (trk y.r).length ≤ 1000000 := by simp [trk]; omega
  have frd : frD x y.r = (trk y.r).all fun t => !hasB x.oc t := rfl
  generalize trk y.r = l at *
  simp (disch := first | assumption | omega | (simp only [LN] <;> omega) | (simp (disch := first | assumption | omega | (simp only [LN] <;> omega)) only [row_alloc, row_set]; assumption)) only [ P3, ↓reduceIte, reduceAdd, reduceEqDiff, reduceCtorEq, initFr, reduceLT, clsA, reduceLeDiff, reduceMul, reduceSub, reduceIte]
  rw [W_block, ← hA1, ← hA2]
  refine W_loop2 (fun q fr X => ∃ i x7 x8, fr = [A1, A2, ptr H.n 0, ptr (H.n + 1) 0, .bool false, tv, .int .i64 ((i : Nat) : Int), x7, x8] ∧ K1 = X ∧ (l.take i).all (fun t => !hasB x.oc t) = true ∧ i ≤ l.length ∧ q = l.length - i) l.length
    ⟨0, _, _, rfl, rfl, by simp, by omega, rfl⟩ ?_
  rintro Q' q fr X ⟨i, x7, x8, rfl, rfl, hp, hi, rfl⟩ hn' hx' hret
  by_cases hlt : i < l.length
  · obtain ⟨na, ra⟩ := ht.at_ hlt
    have e0 : (0 : Int) ≤ (i : Int) := by omega
    have e1 : (i : Int) < ((l.length : Nat) : Int) := by omega
    have hw : IntKind.i64.wrap ((i : Int) + 1) = ((i + 1 : Nat) : Int) := by rw [wrap_i64 (by omega) (by omega)]; simp
    have hgd : l.getD i 0 = l[i] := by rw [List.getD_eq_getElem?_getD, List.getElem?_eq_getElem hlt]; rfl
    rw [hgd] at ra
    simp (disch := first | assumption | omega | (simp only [LN] <;> omega) | (simp (disch := first | assumption | omega | (simp only [LN] <;> omega)) only [row_alloc, row_set]; assumption)) only [W_block, P3, ↓reduceIte, reduceAdd, reduceEqDiff, reduceCtorEq, initFr, reduceLT, clsA, reduceLeDiff, reduceMul, reduceSub, reduceIte, is, len, e0, e1, na, ra, a_load1v, gi1]
    refine callK (tCl _ _) ?_
    rintro _ X ⟨rfl, hX⟩
    rw [hX]
    cases hb : hasB x.oc l[i] with
    | true =>
      simp (disch := first | assumption | omega | (simp only [LN] <;> omega) | (simp (disch := first | assumption | omega | (simp only [LN] <;> omega)) only [row_alloc, row_set]; assumption)) only [W_block, P3, ↓reduceIte, reduceAdd, reduceEqDiff, reduceCtorEq, initFr, reduceLT, clsA, reduceLeDiff, reduceMul, reduceSub, reduceIte]
      refine hret _ _ ?_
      refine hq2 _ _ ⟨_, rfl, ?_, k0.trans k1⟩
      have : l.all (fun t => !hasB x.oc t) = false := List.all_eq_false.2 ⟨l[i], List.getElem_mem hlt, by simp [hb]⟩
      rw [frd, this]; rfl
    | false =>
      simp (disch := first | assumption | omega | (simp only [LN] <;> omega) | (simp (disch := first | assumption | omega | (simp only [LN] <;> omega)) only [row_alloc, row_set]; assumption)) only [W_block, P3, ↓reduceIte, reduceAdd, reduceEqDiff, reduceCtorEq, initFr, reduceLT, clsA, reduceLeDiff, reduceMul, reduceSub, reduceIte, hw]
      exact hn' _ _ _ ⟨i + 1, _, _, rfl, rfl, take_all hlt hp (by simp [hb]), by omega, rfl⟩ (by omega)
  · have e1 : ¬ ((i : Nat) : Int) < ((l.length : Nat) : Int) := by omega
    have hie : i = l.length := by omega
    subst hie
    rw [List.take_length] at hp
    simp (disch := first | assumption | omega | (simp only [LN] <;> omega) | (simp (disch := first | assumption | omega | (simp only [LN] <;> omega)) only [row_alloc, row_set]; assumption)) only [W_block, P3, ↓reduceIte, reduceAdd, reduceEqDiff, reduceCtorEq, initFr, reduceLT, clsA, reduceLeDiff, reduceMul, reduceSub, reduceIte, is, len, e1]
    refine hx' _ _ _ ?_
    simp (disch := first | assumption | omega | (simp only [LN] <;> omega) | (simp (disch := first | assumption | omega | (simp only [LN] <;> omega)) only [row_alloc, row_set]; assumption)) only [W_block, P3, ↓reduceIte, reduceAdd, reduceEqDiff, reduceCtorEq, initFr, reduceLT, clsA, reduceLeDiff, reduceMul, reduceSub, reduceIte]
    exact hq2 _ _ ⟨_, rfl, by rw [frd, hp]; rfl, k0.trans k1⟩
end Go.AM.Fd

set_option linter.unusedSimpArgs false
set_option linter.unusedVariables false
set_option maxRecDepth 8000
namespace Go.AM.Fd
open Nat (reduceAdd reduceEqDiff reduceLT reduceLeDiff reduceMul reduceSub)
open Go.Proofs Go.AM.F
def needD (L : Ly) (s : Sta) (p : Int) : Bool := (List.range L.r.length).any fun i => (nds (ro L i)).any fun z => s.lo i && (z.1 == p)
theorem any_at {p : Nat → Bool} {n i : Nat} (hi : i < n) (h : p i = true) : (List.range n).any p = true := List.any_eq_true.2 ⟨i, List.mem_range.2 hi, h⟩
theorem any_snoc {p : Nat → Bool} {i : Nat} (h : (List.range i).any p = false) (h2 : p i = false) : (List.range (i + 1)).any p = false := by
  rw [List.range_succ, List.any_append, h]; simp [h2]
theorem take_any' {α : Type} {p : α → Bool} {l : List α} {i : Nat} (h : i < l.length) (h1 : (l.take i).any p = false) (h2 : p l[i] = false) : (l.take (i + 1)).any p = false := by
  rw [List.take_add_one, List.getElem?_eq_getElem h, List.any_append, h1]; simp [h2]
set_option maxHeartbeats 1000000 in
theorem t73 {H : AHeap} {u : V4} {xs : List RV} {L : Ly} (h : LyR H u xs L) (he : checkE L = 0) (s : Sta) (p : Int) :
    ∃ w H', ARun Go.Proofs.Try.prog 0 73 [.agg u.l.toArray, .agg (stl s).toArray, .int .i64 p] H w H' ∧ w = .bool (needD L s p) ∧ H' = H := by
  suffices h' : ∃ w H', ARun Go.Proofs.Try.prog 0 73 [.agg u.l.toArray, .agg (stl s).toArray, .int .i64 p] H w H' ∧ w = .bool (needD L s p) ∧ Keeps H H' by
    obtain ⟨_, _, a, rfl, k⟩ := h'
    exact ⟨_, _, a.gc0 k (.inr (.bool _)), rfl, rfl⟩
  refine walk2 f73_ok f73_n ?_
  intro Q hq1 hq2
  have hmay := check_may he
  have hL := may_lim hmay
  have lr := hL.r
  have os := Sl.one h.s
  have op := Sl.one h.p
  have og := Sl.one h.g
  have or := Sl.one h.r
  have ir := Sl.is h.r
  have lenr := h.r.len
  rw [h.rlen] at lenr
  have hul : u.l = [u.s, u.p, u.g, u.r] := rfl
  obtain ⟨K0, hK0⟩ : ∃ X, X = (H.alloc (.cells true false 4 [u.s, u.p, u.g, u.r] 27)).alloc (.cells true false 68 (stl s) 32) := ⟨_, rfl⟩
  have k0 : Keeps H K0 := by rw [hK0]; exact ((Keeps.refl H).alloc _).alloc _
  have gl0 : K0.get H.n = some (.cells true false 4 [u.s, u.p, u.g, u.r] 27) := by rw [hK0]; exact ((Keeps.refl _).alloc _).at_ (AHeap.get_alloc_new H _)
  have gs0 : K0.get (H.n + 1) = some (.cells true false 68 (stl s) 32) := by rw [hK0]; exact AHeap.get_alloc_new (H.alloc _) _
  rw [hul]
  simp (disch := first | assumption | omega | (simp only [LN] <;> omega) | (simp (disch := first | assumption | omega | (simp only [LN] <;> omega)) only [row_alloc, row_set]; assumption)) only [ f73, P3, ↓reduceIte, reduceAdd, reduceEqDiff, reduceCtorEq, initFr, reduceLT, clsA, reduceLeDiff, reduceMul, reduceSub, reduceIte, os, op, og, or, stl_one, stl_len, rng68]
  simp only [← hK0]
  obtain ⟨A1, hA1⟩ : ∃ v : Value, v = .agg #[u.s, u.p, u.g, u.r] := ⟨_, rfl⟩
  obtain ⟨A2, hA2⟩ : ∃ v : Value, v = .agg (stl s).toArray := ⟨_, rfl⟩
  rw [W_block, ← hA1, ← hA2]
  refine W_loop2 (fun q fr K => ∃ i x7 x8 x9 x10 x11, fr = [A1, A2, .int .i64 p, ptr H.n 0, ptr (H.n + 1) 0, .bool false, .int .i64 ((i : Nat) : Int), x7, x8, x9, x10, x11] ∧
      Keeps K0 K ∧ ((List.range i).any fun i => (nds (ro L i)).any fun z => s.lo i && (z.1 == p)) = false ∧ i ≤ L.r.length ∧ q = L.r.length - i) L.r.length
    ⟨0, _, _, _, _, _, rfl, Keeps.refl _, rfl, by omega, rfl⟩ ?_
  rintro Q' q fr K ⟨i, x7, x8, x9, x10, x11, rfl, kK, hall, hi, rfl⟩ hn' hx' hret
  have gl := kK.at_ gl0
  by_cases hlt : i < L.r.length
  · have iN : i < 64 := by omega
    have e0 : (0 : Int) ≤ (i : Int) := by omega
    have e1 : (i : Int) < ((L.r.length : Nat) : Int) := by omega
    have hw : IntKind.i64.wrap ((i : Int) + 1) = ((i + 1 : Nat) : Int) := by rw [wrap_i64 (by omega) (by omega)]; simp
    obtain ⟨hyr, hyo⟩ := rv_ro h hlt
    obtain ⟨na, ra⟩ := (h.r.keeps (k0.trans kK)).at_ (i := i) (by rw [h.rlen]; exact hlt)
    have hgood := check_good he (List.getElem_mem hlt)
    rw [← ro_eq hlt, ← hyr] at hgood
    have yes : ((nds (ro L i)).any fun z => s.lo i && (z.1 == p)) = true → needD L s p = true := fun e => any_at (p := fun i => (nds (ro L i)).any fun z => s.lo i && (z.1 == p)) hlt e
    have no : ((nds (ro L i)).any fun z => s.lo i && (z.1 == p)) = false → ((List.range (i + 1)).any fun i => (nds (ro L i)).any fun z => s.lo i && (z.1 == p)) = false := fun e => any_snoc hall e
    rw [← hyr] at yes no
    generalize xs.getD i rv0 = y at *
    have rowy : y.row = [.string ⟨y.r.n.toArray⟩, .int .i64 y.r.g, y.vp, y.vq, y.vo, y.vf] := rfl
    have tN := t28 ((hyo.keeps k0).keeps kK) (by have := hgood.lim.q; have := hgood.lim.f; omega)
    simp only [rowy] at tN ra
    simp (disch := first | assumption | omega | (simp only [LN] <;> omega) | (simp (disch := first | assumption | omega | (simp only [LN] <;> omega)) only [row_alloc, row_set]; assumption)) only [W_block, P3, ↓reduceIte, reduceAdd, reduceEqDiff, reduceCtorEq, initFr, reduceLT, clsA, reduceLeDiff, reduceMul, reduceSub, reduceIte, gl, ir, lenr, na, ra, e0, e1, a_loadnvf]
    refine callK tN ?_
    rintro nv K2 ⟨hnv, k2, fnv⟩
    have gs2 := (kK.trans k2).at_ gs0
    have isn := Sl.is hnv
    have lenn := hnv.len
    have ndl : (nds y.r).length ≤ 32 := by have := hgood.lim.q; have := hgood.lim.f; simp [nds]; omega
    generalize nds y.r = l at *
    simp (disch := first | assumption | omega | (simp only [LN] <;> omega) | (simp (disch := first | assumption | omega | (simp only [LN] <;> omega)) only [row_alloc, row_set]; assumption)) only [ P3, ↓reduceIte, reduceAdd, reduceEqDiff, reduceCtorEq, initFr, reduceLT, clsA, reduceLeDiff, reduceMul, reduceSub, reduceIte]
    rw [W_block]
    refine W_loop2 (fun q fr X => ∃ j x10 x11, fr = [A1, A2, .int .i64 p, ptr H.n 0, ptr (H.n + 1) 0, .bool false, .int .i64 ((i : Nat) : Int), nv, .int .i64 ((j : Nat) : Int), .bool true, x10, x11] ∧
        K2 = X ∧ ((l.take j).any fun z => s.lo i && (z.1 == p)) = false ∧ j ≤ l.length ∧ q = l.length - j) l.length
      ⟨0, _, _, rfl, rfl, by simp, by omega, rfl⟩ ?_
    rintro Q3 q fr X ⟨j, x10, x11, rfl, rfl, hj, hjl, rfl⟩ hn3 hx3 hret3
    by_cases hjlt : j < l.length
    · obtain ⟨nj, rj⟩ := hnv.at_ hjlt
      have j0 : (0 : Int) ≤ (j : Int) := by omega
      have j1 : (j : Int) < ((l.length : Nat) : Int) := by omega
      have hw3 : IntKind.i64.wrap ((j : Int) + 1) = ((j + 1 : Nat) : Int) := by rw [wrap_i64 (by omega) (by omega)]; simp
      have hgd : l.getD j (0, false) = l[j] := by rw [List.getD_eq_getElem?_getD, List.getElem?_eq_getElem hjlt]; rfl
      rw [hgd] at rj
      simp (disch := first | assumption | omega | (simp only [LN] <;> omega) | (simp (disch := first | assumption | omega | (simp only [LN] <;> omega)) only [row_alloc, row_set]; assumption)) only [W_block, P3, ↓reduceIte, reduceAdd, reduceEqDiff, reduceCtorEq, initFr, reduceLT, clsA, reduceLeDiff, reduceMul, reduceSub, reduceIte, isn, lenn, j1, gs2, stl_0]
      refine callK (t24 _ _) ?_
      rintro _ X ⟨rfl, hX⟩
      rw [hX, has_nat _ iN]
      cases hlo : s.lo i with
      | false =>
        simp (disch := first | assumption | omega | (simp only [LN] <;> omega) | (simp (disch := first | assumption | omega | (simp only [LN] <;> omega)) only [row_alloc, row_set]; assumption)) only [W_block, P3, ↓reduceIte, reduceAdd, reduceEqDiff, reduceCtorEq, initFr, reduceLT, clsA, reduceLeDiff, reduceMul, reduceSub, reduceIte, hw3]
        exact hn3 _ _ _ ⟨j + 1, _, _, rfl, rfl, take_any' hjlt hj (by rw [hlo]; rfl), by omega, rfl⟩ (by omega)
      | true =>
        cases hz : (l[j].1 == p) with
        | true =>
          simp (disch := first | assumption | omega | (simp only [LN] <;> omega) | (simp (disch := first | assumption | omega | (simp only [LN] <;> omega)) only [row_alloc, row_set]; assumption)) only [W_block, P3, ↓reduceIte, reduceAdd, reduceEqDiff, reduceCtorEq, initFr, reduceLT, clsA, reduceLeDiff, reduceMul, reduceSub, reduceIte, nj, rj, lenn, j0, j1, a_load1v, hz]
          refine hret3 _ _ ?_
          refine hret _ _ ?_
          exact hq2 _ _ ⟨.bool true, rfl, by rw [yes (List.any_eq_true.2 ⟨l[j], List.getElem_mem hjlt, by rw [hlo, hz]; rfl⟩)], (k0.trans kK).trans k2⟩
        | false =>
          simp (disch := first | assumption | omega | (simp only [LN] <;> omega) | (simp (disch := first | assumption | omega | (simp only [LN] <;> omega)) only [row_alloc, row_set]; assumption)) only [W_block, P3, ↓reduceIte, reduceAdd, reduceEqDiff, reduceCtorEq, initFr, reduceLT, clsA, reduceLeDiff, reduceMul, reduceSub, reduceIte, nj, rj, lenn, j0, j1, a_load1v, hz, hw3]
          exact hn3 _ _ _ ⟨j + 1, _, _, rfl, rfl, take_any' hjlt hj (by rw [hlo, hz]; rfl), by omega, rfl⟩ (by omega)
    · have j1 : ¬ ((j : Nat) : Int) < ((l.length : Nat) : Int) := by omega
      have hje : j = l.length := by omega
      subst hje
      rw [List.take_length] at hj
      simp (disch := first | assumption | omega | (simp only [LN] <;> omega) | (simp (disch := first | assumption | omega | (simp only [LN] <;> omega)) only [row_alloc, row_set]; assumption)) only [W_block, P3, ↓reduceIte, reduceAdd, reduceEqDiff, reduceCtorEq, initFr, reduceLT, clsA, reduceLeDiff, reduceMul, reduceSub, reduceIte, isn, lenn, j1]
      refine hx3 _ _ _ ?_
      simp (disch := first | assumption | omega | (simp only [LN] <;> omega) | (simp (disch := first | assumption | omega | (simp only [LN] <;> omega)) only [row_alloc, row_set]; assumption)) only [W_block, P3, ↓reduceIte, reduceAdd, reduceEqDiff, reduceCtorEq, initFr, reduceLT, clsA, reduceLeDiff, reduceMul, reduceSub, reduceIte, hw]
      exact hn' _ _ _ ⟨i + 1, _, _, _, _, _, rfl, kK.trans k2, no hj, by omega, rfl⟩ (by omega)
  · have e1 : ¬ ((i : Nat) : Int) < ((L.r.length : Nat) : Int) := by omega
    have hie : i = L.r.length := by omega
    subst hie
    simp (disch := first | assumption | omega | (simp only [LN] <;> omega) | (simp (disch := first | assumption | omega | (simp only [LN] <;> omega)) only [row_alloc, row_set]; assumption)) only [W_block, P3, ↓reduceIte, reduceAdd, reduceEqDiff, reduceCtorEq, initFr, reduceLT, clsA, reduceLeDiff, reduceMul, reduceSub, reduceIte, gl, ir, lenr, e1]
    refine hx' _ _ _ ?_
    simp (disch := first | assumption | omega | (simp only [LN] <;> omega) | (simp (disch := first | assumption | omega | (simp only [LN] <;> omega)) only [row_alloc, row_set]; assumption)) only [W_block, P3, ↓reduceIte, reduceAdd, reduceEqDiff, reduceCtorEq, initFr, reduceLT, clsA, reduceLeDiff, reduceMul, reduceSub, reduceIte]
    exact hq2 _ _ ⟨_, rfl, by unfold needD; rw [hall]; rfl, k0.trans kK⟩
def proD (L : Ly) (x : Inp) (s : Sta) (i : Nat) : Bool := (((s.lo i && !s.us i) && !s.ca i) && frD x (ro L i)) && (nds (ro L i)).all fun z => if z.2 then sideR x z.1.toNat else sideN x z.1.toNat
set_option maxHeartbeats 2000000 in
theorem t41 {H : AHeap} {u : V4} {xs : List RV} {L : Ly} {x : Inp} {cv : Value} (h : LyR H u xs L) (he : checkE L = 0) (s : Sta) (hc : isS cv = true) {i : Nat} (hlt : i < L.r.length) :
    ∃ w H', ARun Go.Proofs.Try.prog 0 41 [.agg u.l.toArray, .agg (stl s).toArray, .agg (inl x cv).toArray, .int .i64 (i : Nat)] H w H' ∧ w = .bool (proD L x s i) ∧ H' = H := by
  suffices h' : ∃ w H', ARun Go.Proofs.Try.prog 0 41 [.agg u.l.toArray, .agg (stl s).toArray, .agg (inl x cv).toArray, .int .i64 (i : Nat)] H w H' ∧ w = .bool (proD L x s i) ∧ Keeps H H' by
    obtain ⟨_, _, a, rfl, k⟩ := h'
    exact ⟨_, _, a.gc0 k (.inr (.bool _)), rfl, rfl⟩
  refine walk2 f41_ok f41_n ?_
  intro Q hq1 hq2
  have hmay := check_may he
  have hL := may_lim hmay
  have lr := hL.r
  have os := Sl.one h.s
  have op := Sl.one h.p
  have og := Sl.one h.g
  have or := Sl.one h.r
  have ir := Sl.is h.r
  have lenr := h.r.len
  rw [h.rlen] at lenr
  have o1 := one_isS hc
  have hul : u.l = [u.s, u.p, u.g, u.r] := rfl
  have hinl : inl x cv = [S64 x.oc, S32 x.nr, S32 x.rv, cv] := rfl
  obtain ⟨K0, hK0⟩ : ∃ X, X = ((H.alloc (.cells true false 4 [u.s, u.p, u.g, u.r] 27)).alloc (.cells true false 68 (stl s) 32)).alloc (.cells true false 4 (inl x cv) 43) := ⟨_, rfl⟩
  have k0 : Keeps H K0 := by rw [hK0]; exact (((Keeps.refl H).alloc _).alloc _).alloc _
  have gl0 : K0.get H.n = some (.cells true false 4 [u.s, u.p, u.g, u.r] 27) := by rw [hK0]; exact (((Keeps.refl _).alloc _).alloc _).at_ (AHeap.get_alloc_new H _)
  have gs0 : K0.get (H.n + 1) = some (.cells true false 68 (stl s) 32) := by rw [hK0]; exact ((Keeps.refl _).alloc _).at_ (AHeap.get_alloc_new (H.alloc _) _)
  have gi0 : K0.get (H.n + 2) = some (.cells true false 4 (inl x cv) 43) := by rw [hK0]; exact AHeap.get_alloc_new ((H.alloc _).alloc _) _
  have l0 := AHeap.get_lt gl0
  have l1 := AHeap.get_lt gs0
  have l2 := AHeap.get_lt gi0
  have iN : i < 64 := by omega
  have e0 : (0 : Int) ≤ (i : Int) := by omega
  have e1 : (i : Int) < ((L.r.length : Nat) : Int) := by omega
  obtain ⟨hyr, hyo⟩ := rv_ro h hlt
  obtain ⟨na, ra⟩ := (h.r.keeps k0).at_ (i := i) (by rw [h.rlen]; exact hlt)
  have hgood := check_good he (List.getElem_mem hlt)
  rw [← ro_eq hlt, ← hyr] at hgood
  have hpro : proD L x s i = ((((s.lo i && !s.us i) && !s.ca i) && frD x (ro L i)) && (nds (ro L i)).all fun z => if z.2 then sideR x z.1.toNat else sideN x z.1.toNat) := rfl
  rw [← hyr] at hpro
  generalize xs.getD i rv0 = y at *
  have rowy : y.row = [.string ⟨y.r.n.toArray⟩, .int .i64 y.r.g, y.vp, y.vq, y.vo, y.vf] := rfl
  have lP := hgood.lim.p
  have lO := hgood.lim.o
  have lQ := hgood.lim.q
  have lF := hgood.lim.f
  have tF := t74 (x := x) (cv := cv) (hyo.keeps k0) (by omega) hc
  have tS := t76 (H := K0) (x := x) hc
  have tN := t28 (hyo.keeps k0) (by omega)
  simp only [rowy, hinl] at tN tF tS ra
  rw [hinl] at hK0 gi0
  have hno : proD L x s i = false → ∀ {K : AHeap} {fr : List Value}, Keeps H K → resO f41.res fr K = some (.bool false) → Q .ret fr K := fun e K fr k hr => hq2 _ _ ⟨_, hr, by rw [e], k⟩
  rw [hul, hinl]
  simp (disch := first | assumption | omega | (simp only [LN] <;> omega) | (simp (disch := first | assumption | omega | (simp only [LN] <;> omega)) only [row_alloc, row_set]; assumption)) only [f41, W_block, P3, ↓reduceIte, reduceAdd, reduceEqDiff, reduceCtorEq, initFr, reduceLT, clsA, reduceLeDiff, reduceMul, reduceSub, reduceIte, os, op, og, or, stl_one, stl_len, rng68, o1, o_s64, o_s32, one_s64, one_s32]
  simp only [← hK0]
  simp (disch := first | assumption | omega | (simp only [LN] <;> omega) | (simp (disch := first | assumption | omega | (simp only [LN] <;> omega)) only [row_alloc, row_set]; assumption)) only [W_block, P3, ↓reduceIte, reduceAdd, reduceEqDiff, reduceCtorEq, initFr, reduceLT, clsA, reduceLeDiff, reduceMul, reduceSub, reduceIte, gs0, stl_0, stl_1, stl_2, s_andn]
  refine callK (t24 _ _) ?_
  rintro _ X ⟨rfl, hX⟩
  rw [hX, has_nat _ iN]
  cases hb1 : ((s.lo i && !s.us i) && !s.ca i) with
  | false =>
    rw [hb1] at hpro
    simp (disch := first | assumption | omega | (simp only [LN] <;> omega) | (simp (disch := first | assumption | omega | (simp only [LN] <;> omega)) only [row_alloc, row_set]; assumption)) only [W_block, P3, ↓reduceIte, reduceAdd, reduceEqDiff, reduceCtorEq, initFr, reduceLT, clsA, reduceLeDiff, reduceMul, reduceSub, reduceIte]
    exact hno (by rw [hpro]; rfl) k0 rfl
  | true =>
  rw [hb1] at hpro
  have qq := row_lt ra
  simp (disch := first | assumption | omega | (simp only [LN] <;> omega) | (simp (disch := first | assumption | omega | (simp only [LN] <;> omega)) only [row_alloc, row_set]; assumption)) only [W_block, P3, ↓reduceIte, reduceAdd, reduceEqDiff, reduceCtorEq, initFr, reduceLT, clsA, reduceLeDiff, reduceMul, reduceSub, reduceIte, gl0, gi0, ir, lenr, na, ra, e0, e1, a_loadnvf, l0, l1, l2, qq]
  refine callK tF ?_
  rintro _ X ⟨rfl, hX⟩
  rw [hX]
  cases hb2 : frD x y.r with
  | false =>
    rw [hb2] at hpro
    simp (disch := first | assumption | omega | (simp only [LN] <;> omega) | (simp (disch := first | assumption | omega | (simp only [LN] <;> omega)) only [row_alloc, row_set]; assumption)) only [W_block, P3, ↓reduceIte, reduceAdd, reduceEqDiff, reduceCtorEq, initFr, reduceLT, clsA, reduceLeDiff, reduceMul, reduceSub, reduceIte]
    exact hno (by rw [hpro]; rfl) k0 rfl
  | true =>
  rw [hb2] at hpro
  simp (disch := first | assumption | omega | (simp only [LN] <;> omega) | (simp (disch := first | assumption | omega | (simp only [LN] <;> omega)) only [row_alloc, row_set]; assumption)) only [W_block, P3, ↓reduceIte, reduceAdd, reduceEqDiff, reduceCtorEq, initFr, reduceLT, clsA, reduceLeDiff, reduceMul, reduceSub, reduceIte, gi0]
  refine callK tS ?_
  rintro _ X ⟨rfl, hX⟩
  rw [hX]
  simp (disch := first | assumption | omega | (simp only [LN] <;> omega) | (simp (disch := first | assumption | omega | (simp only [LN] <;> omega)) only [row_alloc, row_set]; assumption)) only [W_block, P3, ↓reduceIte, reduceAdd, reduceEqDiff, reduceCtorEq, initFr, reduceLT, clsA, reduceLeDiff, reduceMul, reduceSub, reduceIte, gl0, ir, lenr, na, ra, e0, e1, a_loadnvf]
  refine callK tN ?_
  rintro nv K2 ⟨hnv, k2, fnv⟩
  have isn := Sl.is hnv
  have lenn := hnv.len
  have ndl : (nds y.r).length ≤ 32 := by simp [nds]; omega
  have hnd := hgood.nd
  generalize nds y.r = l at *
  simp (disch := first | assumption | omega | (simp only [LN] <;> omega) | (simp (disch := first | assumption | omega | (simp only [LN] <;> omega)) only [row_alloc, row_set]; assumption)) only [ P3, ↓reduceIte, reduceAdd, reduceEqDiff, reduceCtorEq, initFr, reduceLT, clsA, reduceLeDiff, reduceMul, reduceSub, reduceIte]
  obtain ⟨A1, hA1⟩ : ∃ v : Value, v = .agg #[u.s, u.p, u.g, u.r] := ⟨_, rfl⟩
  obtain ⟨A2, hA2⟩ : ∃ v : Value, v = .agg (stl s).toArray := ⟨_, rfl⟩
  obtain ⟨A4, hA4⟩ : ∃ v : Value, v = .agg #[S64 x.oc, S32 x.nr, S32 x.rv, cv] := ⟨_, rfl⟩
  rw [W_block, ← hA1, ← hA2, ← hA4]
  refine W_loop2 (fun q fr X => ∃ j x12 x14 x15 x16, fr = [A1, A2, A4, .int .i64 ((i : Nat) : Int), ptr H.n 0, ptr (H.n + 1) 0, ptr (H.n + 2) 0, .bool false, S32 (sideN x), S32 (sideR x), nv, .int .i64 ((j : Nat) : Int), x12, .bool false, x14, x15, x16] ∧
      K2 = X ∧ ((l.take j).all fun z => if z.2 then sideR x z.1.toNat else sideN x z.1.toNat) = true ∧ j ≤ l.length ∧ q = l.length - j) l.length
    ⟨0, _, _, _, _, rfl, rfl, by simp, by omega, rfl⟩ ?_
  rintro Q3 q fr X ⟨j, x12, x14, x15, x16, rfl, rfl, hj, hjl, rfl⟩ hn3 hx3 hret3
  by_cases hjlt : j < l.length
  · obtain ⟨nj, rj⟩ := hnv.at_ hjlt
    have j0 : (0 : Int) ≤ (j : Int) := by omega
    have j1 : (j : Int) < ((l.length : Nat) : Int) := by omega
    have hw3 : IntKind.i64.wrap ((j : Int) + 1) = ((j + 1 : Nat) : Int) := by rw [wrap_i64 (by omega) (by omega)]; simp
    have hgd : l.getD j (0, false) = l[j] := by rw [List.getD_eq_getElem?_getD, List.getElem?_eq_getElem hjlt]; rfl
    have hmem := List.getElem_mem hjlt
    have hrng := hnd _ hmem
    have ok1 : (if l[j].2 then sideR x l[j].1.toNat else sideN x l[j].1.toNat) = true → ((l.take (j + 1)).all fun z => if z.2 then sideR x z.1.toNat else sideN x z.1.toNat) = true := fun e => take_all hjlt hj e
    have bad1 : (if l[j].2 then sideR x l[j].1.toNat else sideN x l[j].1.toNat) = false → proD L x s i = false := fun e => by
      have : (l.all fun z => if z.2 then sideR x z.1.toNat else sideN x z.1.toNat) = false := List.all_eq_false.2 ⟨_, hmem, by rw [e]; simp⟩
      rw [hpro, this]; rfl
    rw [hgd] at rj
    generalize l[j] = z at *
    obtain ⟨zp, zb⟩ := z
    obtain ⟨m, rfl⟩ : ∃ m : Nat, zp = (m : Int) := ⟨zp.toNat, by have := hrng.1; simp only at this; omega⟩
    have hm32 : m < 32 := by have := hrng.2; have := hL.p; simp only at *; omega
    have hmt : (Int.toNat (m : Int)) = m := by omega
    simp only [hmt] at ok1 bad1
    have hz : (decide (0 + m < 32)) = true := by simp; omega
    have hz2 : 0 + m = m := by omega
    cases zb with
    | true =>
      simp only [if_true] at ok1 bad1
      cases hs : sideR x m with
      | true =>
        simp (disch := first | assumption | omega | (simp only [LN] <;> omega) | (simp (disch := first | assumption | omega | (simp only [LN] <;> omega)) only [row_alloc, row_set]; assumption)) only [W_block, P3, ↓reduceIte, reduceAdd, reduceEqDiff, reduceCtorEq, initFr, reduceLT, clsA, reduceLeDiff, reduceMul, reduceSub, reduceIte, isn, lenn, j0, j1, nj, rj, a_load1v, p_shr, p_and1, i1p_eq0, hs, hz, hz2, hw3]
        exact hn3 _ _ _ ⟨j + 1, _, _, _, _, rfl, rfl, ok1 hs, by omega, rfl⟩ (by omega)
      | false =>
        simp (disch := first | assumption | omega | (simp only [LN] <;> omega) | (simp (disch := first | assumption | omega | (simp only [LN] <;> omega)) only [row_alloc, row_set]; assumption)) only [W_block, P3, ↓reduceIte, reduceAdd, reduceEqDiff, reduceCtorEq, initFr, reduceLT, clsA, reduceLeDiff, reduceMul, reduceSub, reduceIte, isn, lenn, j0, j1, nj, rj, a_load1v, p_shr, p_and1, i1p_eq0, hs, hz, hz2, hw3]
        refine hret3 _ _ ?_
        exact hno (bad1 hs) (k0.trans k2) rfl
    | false =>
      simp only [Bool.false_eq_true, if_false] at ok1 bad1
      cases hs : sideN x m with
      | true =>
        simp (disch := first | assumption | omega | (simp only [LN] <;> omega) | (simp (disch := first | assumption | omega | (simp only [LN] <;> omega)) only [row_alloc, row_set]; assumption)) only [W_block, P3, ↓reduceIte, reduceAdd, reduceEqDiff, reduceCtorEq, initFr, reduceLT, clsA, reduceLeDiff, reduceMul, reduceSub, reduceIte, isn, lenn, j0, j1, nj, rj, a_load1v, p_shr, p_and1, i1p_eq0, hs, hz, hz2, hw3]
        exact hn3 _ _ _ ⟨j + 1, _, _, _, _, rfl, rfl, ok1 hs, by omega, rfl⟩ (by omega)
      | false =>
        simp (disch := first | assumption | omega | (simp only [LN] <;> omega) | (simp (disch := first | assumption | omega | (simp only [LN] <;> omega)) only [row_alloc, row_set]; assumption)) only [W_block, P3, ↓reduceIte, reduceAdd, reduceEqDiff, reduceCtorEq, initFr, reduceLT, clsA, reduceLeDiff, reduceMul, reduceSub, reduceIte, isn, lenn, j0, j1, nj, rj, a_load1v, p_shr, p_and1, i1p_eq0, hs, hz, hz2, hw3]
        refine hret3 _ _ ?_
        exact hno (bad1 hs) (k0.trans k2) rfl
  · have j1 : ¬ ((j : Nat) : Int) < ((l.length : Nat) : Int) := by omega
    have hje : j = l.length := by omega
    subst hje
    rw [List.take_length] at hj
    simp (disch := first | assumption | omega | (simp only [LN] <;> omega) | (simp (disch := first | assumption | omega | (simp only [LN] <;> omega)) only [row_alloc, row_set]; assumption)) only [W_block, P3, ↓reduceIte, reduceAdd, reduceEqDiff, reduceCtorEq, initFr, reduceLT, clsA, reduceLeDiff, reduceMul, reduceSub, reduceIte, isn, lenn, j1]
    refine hx3 _ _ _ ?_
    simp (disch := first | assumption | omega | (simp only [LN] <;> omega) | (simp (disch := first | assumption | omega | (simp only [LN] <;> omega)) only [row_alloc, row_set]; assumption)) only [W_block, P3, ↓reduceIte, reduceAdd, reduceEqDiff, reduceCtorEq, initFr, reduceLT, clsA, reduceLeDiff, reduceMul, reduceSub, reduceIte]
    exact hq2 _ _ ⟨_, rfl, by rw [hpro, hj]; rfl, k0.trans k2⟩
end Go.AM.Fd

set_option linter.unusedSimpArgs false
set_option linter.unusedVariables false
set_option maxRecDepth 8000
namespace Go.AM.Fd
open Nat (reduceAdd reduceEqDiff reduceLT reduceLeDiff reduceMul reduceSub)
open Go.Proofs Go.AM.F
def setD (L : Ly) (x : Inp) (s : Sta) (i : Nat) : Bool := (!s.lo i && frD x (ro L i)) && ((List.range L.r.length).all (fun k => !(s.lo k && cf L i k)) && (nds (ro L i)).all fun z => !((s.po z.1.toNat != z.2) && hasB x.oc (L.p.getD z.1.toNat ([], 0)).2))
set_option maxHeartbeats 4000000 in
theorem t71 {H : AHeap} {u : V4} {xs : List RV} {L : Ly} {x : Inp} {cv : Value} (h : LyR H u xs L) (he : checkE L = 0) (s : Sta) (hc : isS cv = true) {i : Nat} (hlt : i < L.r.length) :
    ∃ w H', ARun Go.Proofs.Try.prog 0 71 [.agg u.l.toArray, .agg (stl s).toArray, .agg (inl x cv).toArray, .int .i64 (i : Nat)] H w H' ∧ w = .bool (setD L x s i) ∧ H' = H := by
  suffices h' : ∃ w H', ARun Go.Proofs.Try.prog 0 71 [.agg u.l.toArray, .agg (stl s).toArray, .agg (inl x cv).toArray, .int .i64 (i : Nat)] H w H' ∧ w = .bool (setD L x s i) ∧ Keeps H H' by
    obtain ⟨_, _, a, rfl, k⟩ := h'
    exact ⟨_, _, a.gc0 k (.inr (.bool _)), rfl, rfl⟩
  refine walk2 f71_ok f71_n ?_
  intro Q hq1 hq2
  have hmay := check_may he
  have hL := may_lim hmay
  have lr := hL.r
  have lpp := hL.p
  have os := Sl.one h.s
  have op := Sl.one h.p
  have og := Sl.one h.g
  have or := Sl.one h.r
  have ir := Sl.is h.r
  have ip := Sl.is h.p
  have lenr := h.r.len
  have lenp := h.p.len
  rw [h.rlen] at lenr
  have o1 := one_isS hc
  have hul : u.l = [u.s, u.p, u.g, u.r] := rfl
  have hinl : inl x cv = [S64 x.oc, S32 x.nr, S32 x.rv, cv] := rfl
  have iN : i < 64 := by omega
  have e0 : (0 : Int) ≤ (i : Int) := by omega
  have e1 : (i : Int) < ((L.r.length : Nat) : Int) := by omega
  obtain ⟨hyr, hyo⟩ := rv_ro h hlt
  have hgood := check_good he (List.getElem_mem hlt)
  rw [← ro_eq hlt, ← hyr] at hgood
  obtain ⟨K0, hK0⟩ : ∃ X, X = (((H.alloc (.cells true false 4 [u.s, u.p, u.g, u.r] 27)).alloc (.cells true false 68 (stl s) 32)).alloc (.cells true false 4 (inl x cv) 43)).alloc (.cells true false 6 (xs.getD i rv0).row 50) := ⟨_, rfl⟩
  have k0 : Keeps H K0 := by rw [hK0]; exact ((((Keeps.refl H).alloc _).alloc _).alloc _).alloc _
  have gl0 : K0.get H.n = some (.cells true false 4 [u.s, u.p, u.g, u.r] 27) := by rw [hK0]; exact ((((Keeps.refl _).alloc _).alloc _).alloc _).at_ (AHeap.get_alloc_new H _)
  have gs0 : K0.get (H.n + 1) = some (.cells true false 68 (stl s) 32) := by rw [hK0]; exact (((Keeps.refl _).alloc _).alloc _).at_ (AHeap.get_alloc_new (H.alloc _) _)
  have gi0 : K0.get (H.n + 2) = some (.cells true false 4 (inl x cv) 43) := by rw [hK0]; exact ((Keeps.refl _).alloc _).at_ (AHeap.get_alloc_new ((H.alloc _).alloc _) _)
  have gy0 : K0.get (H.n + 3) = some (.cells true false 6 (xs.getD i rv0).row 50) := by rw [hK0]; exact AHeap.get_alloc_new (((H.alloc _).alloc _).alloc _) _
  have rr : ∀ K, Keeps H K → nnS u.r = true ∧ rowA K 6 u.r i = some (xs.getD i rv0).row := fun K k => (h.r.keeps k).at_ (i := i) (by rw [h.rlen]; exact hlt)
  have hset : setD L x s i = ((!s.lo i && frD x (ro L i)) && ((List.range L.r.length).all (fun k => !(s.lo k && cf L i k)) && (nds (ro L i)).all fun z => !((s.po z.1.toNat != z.2) && hasB x.oc (L.p.getD z.1.toNat ([], 0)).2))) := rfl
  rw [← hyr] at hset
  have hcfy : ∀ k, cf L i k = confB L (xs.getD i rv0).r (ro L k) := fun k => by rw [hyr]; rfl
  generalize xs.getD i rv0 = y at *
  have rowy : y.row = [.string ⟨y.r.n.toArray⟩, .int .i64 y.r.g, y.vp, y.vq, y.vo, y.vf] := rfl
  have lP := hgood.lim.p
  have lO := hgood.lim.o
  have lQ := hgood.lim.q
  have lF := hgood.lim.f
  obtain ⟨a3, a4, a5, a6⟩ := RV.ones hyo
  have a1 : one1 (Value.int .i64 y.r.g) = True := by simp [one1, one_int]
  have a2 : one1 (Value.string ⟨y.r.n.toArray⟩) = True := by simp [one1, one_str]
  have tF := t74 (x := x) (cv := cv) (hyo.keeps k0) (by omega) hc
  have tCl := fun K n => t72 (H := K) (x := x) hc n
  have kA := ((Keeps.refl H).alloc (.cells true false 4 [u.s, u.p, u.g, u.r] 27)).alloc (.cells true false 68 (stl s) 32) |>.alloc (.cells true false 4 (inl x cv) 43)
  obtain ⟨na, raA⟩ := rr _ kA
  simp only [rowy, hinl] at tF tCl raA gy0 gi0 hK0
  have hno : setD L x s i = false → ∀ {K : AHeap} {fr : List Value}, Keeps H K → resO f71.res fr K = some (.bool false) → Q .ret fr K := fun e K fr k hr => hq2 _ _ ⟨_, hr, by rw [e], k⟩
  rw [hul, hinl]
  simp (disch := first | assumption | omega | (simp only [LN] <;> omega) | (simp (disch := first | assumption | omega | (simp only [LN] <;> omega)) only [row_alloc, row_set]; assumption)) only [f71, W_block, P3, ↓reduceIte, reduceAdd, reduceEqDiff, reduceCtorEq, initFr, reduceLT, clsA, reduceLeDiff, reduceMul, reduceSub, reduceIte, os, op, og, or, stl_one, stl_len, rng68, o1, o_s64, o_s32, one_s64, one_s32, ir, lenr, na, raA, e0, e1, a_loadnvf, a1, a2, a3, a4, a5, a6, stl_0]
  simp only [← hK0]
  refine callK (t24 _ _) ?_
  rintro _ X ⟨rfl, hX⟩
  rw [hX, has_nat _ iN]
  cases hlo : s.lo i with
  | true =>
    rw [hlo] at hset
    simp (disch := first | assumption | omega | (simp only [LN] <;> omega) | (simp (disch := first | assumption | omega | (simp only [LN] <;> omega)) only [row_alloc, row_set]; assumption)) only [W_block, P3, ↓reduceIte, reduceAdd, reduceEqDiff, reduceCtorEq, initFr, reduceLT, clsA, reduceLeDiff, reduceMul, reduceSub, reduceIte]
    exact hno (by rw [hset]; rfl) k0 rfl
  | false =>
  rw [hlo] at hset
  simp (disch := first | assumption | omega | (simp only [LN] <;> omega) | (simp (disch := first | assumption | omega | (simp only [LN] <;> omega)) only [row_alloc, row_set]; assumption)) only [W_block, P3, ↓reduceIte, reduceAdd, reduceEqDiff, reduceCtorEq, initFr, reduceLT, clsA, reduceLeDiff, reduceMul, reduceSub, reduceIte, gy0, gi0]
  refine callK tF ?_
  rintro _ X ⟨rfl, hX⟩
  rw [hX]
  cases hb2 : frD x y.r with
  | false =>
    rw [hb2] at hset
    simp (disch := first | assumption | omega | (simp only [LN] <;> omega) | (simp (disch := first | assumption | omega | (simp only [LN] <;> omega)) only [row_alloc, row_set]; assumption)) only [W_block, P3, ↓reduceIte, reduceAdd, reduceEqDiff, reduceCtorEq, initFr, reduceLT, clsA, reduceLeDiff, reduceMul, reduceSub, reduceIte]
    exact hno (by rw [hset]; rfl) k0 rfl
  | true =>
  rw [hb2] at hset
  simp (disch := first | assumption | omega | (simp only [LN] <;> omega) | (simp (disch := first | assumption | omega | (simp only [LN] <;> omega)) only [row_alloc, row_set]; assumption)) only [ P3, ↓reduceIte, reduceAdd, reduceEqDiff, reduceCtorEq, initFr, reduceLT, clsA, reduceLeDiff, reduceMul, reduceSub, reduceIte]
  obtain ⟨A1, hA1⟩ : ∃ v : Value, v = .agg #[u.s, u.p, u.g, u.r] := ⟨_, rfl⟩
  obtain ⟨A2, hA2⟩ : ∃ v : Value, v = .agg (stl s).toArray := ⟨_, rfl⟩
  obtain ⟨A4, hA4⟩ : ∃ v : Value, v = .agg #[S64 x.oc, S32 x.nr, S32 x.rv, cv] := ⟨_, rfl⟩
  rw [W_block, ← hA1, ← hA2, ← hA4]
  refine W_loop2 (fun q fr X => ∃ k x13 x14, fr = [A1, A2, A4, .int .i64 ((i : Nat) : Int), ptr H.n 0, ptr (H.n + 1) 0, ptr (H.n + 2) 0, .bool false, ptr (H.n + 3) 0, .int .i64 ((k : Nat) : Int), undef, undef, .bool false, x13, x14, undef, undef] ∧
      K0 = X ∧ (List.range k).all (fun k => !(s.lo k && cf L i k)) = true ∧ k ≤ L.r.length ∧ q = L.r.length - k) L.r.length
    ⟨0, _, _, rfl, rfl, rfl, by omega, rfl⟩ ?_
  rintro Q2 q fr X ⟨k, x13, x14, rfl, rfl, hk, hkl, rfl⟩ hn2 hx2 hret2
  by_cases hlk : k < L.r.length
  · have kN : k < 64 := by omega
    have c0 : (0 : Int) ≤ (k : Int) := by omega
    have c1 : ((k : Nat) : Int) < ((L.r.length : Nat) : Int) := by omega
    have hw2 : IntKind.i64.wrap ((k : Int) + 1) = ((k + 1 : Nat) : Int) := by rw [wrap_i64 (by omega) (by omega)]; simp
    have hall := fun e => all_at (p := fun k => !(s.lo k && cf L i k)) hlk e
    have bad : (!(s.lo k && cf L i k)) = false → setD L x s i = false := fun e => by rw [hset, hall e]; simp
    simp (disch := first | assumption | omega | (simp only [LN] <;> omega) | (simp (disch := first | assumption | omega | (simp only [LN] <;> omega)) only [row_alloc, row_set]; assumption)) only [W_block, P3, ↓reduceIte, reduceAdd, reduceEqDiff, reduceCtorEq, initFr, reduceLT, clsA, reduceLeDiff, reduceMul, reduceSub, reduceIte, gl0, gs0, ir, lenr, c1, stl_0]
    refine callK (t24 _ _) ?_
    rintro _ X ⟨rfl, hX⟩
    rw [hX, has_nat _ kN]
    cases hlk2 : s.lo k with
    | false =>
      simp (disch := first | assumption | omega | (simp only [LN] <;> omega) | (simp (disch := first | assumption | omega | (simp only [LN] <;> omega)) only [row_alloc, row_set]; assumption)) only [W_block, P3, ↓reduceIte, reduceAdd, reduceEqDiff, reduceCtorEq, initFr, reduceLT, clsA, reduceLeDiff, reduceMul, reduceSub, reduceIte, hw2]
      exact hn2 _ _ _ ⟨k + 1, _, _, rfl, rfl, all_snoc hk (by rw [hlk2]; rfl), by omega, rfl⟩ (by omega)
    | true =>
      obtain ⟨hzr, hzo⟩ := rv_ro h hlk
      obtain ⟨nb, rb⟩ := (h.r.keeps k0).at_ (i := k) (by rw [h.rlen]; exact hlk)
      have zlim := may_ro hmay (List.getElem_mem hlk)
      rw [← ro_eq hlk, ← hzr] at zlim
      generalize xs.getD k rv0 = z at *
      have rowz : z.row = [.string ⟨z.r.n.toArray⟩, .int .i64 z.r.g, z.vp, z.vq, z.vo, z.vf] := rfl
      have tC := t27 (h.keeps k0) (hyo.keeps k0) (hzo.keeps k0) hgood.lim zlim hL
      simp only [hul, rowy, rowz] at tC rb
      simp (disch := first | assumption | omega | (simp only [LN] <;> omega) | (simp (disch := first | assumption | omega | (simp only [LN] <;> omega)) only [row_alloc, row_set]; assumption)) only [W_block, P3, ↓reduceIte, reduceAdd, reduceEqDiff, reduceCtorEq, initFr, reduceLT, clsA, reduceLeDiff, reduceMul, reduceSub, reduceIte, gl0, gs0, gy0, ir, lenr, nb, rb, c0, c1, a_loadnvf]
      refine callK tC ?_
      rintro _ X ⟨rfl, hX⟩
      rw [hX, hzr, ← hcfy]
      cases hcc : cf L i k with
      | false =>
        simp (disch := first | assumption | omega | (simp only [LN] <;> omega) | (simp (disch := first | assumption | omega | (simp only [LN] <;> omega)) only [row_alloc, row_set]; assumption)) only [W_block, P3, ↓reduceIte, reduceAdd, reduceEqDiff, reduceCtorEq, initFr, reduceLT, clsA, reduceLeDiff, reduceMul, reduceSub, reduceIte, hw2]
        exact hn2 _ _ _ ⟨k + 1, _, _, rfl, rfl, all_snoc hk (by rw [hlk2, hcc]; rfl), by omega, rfl⟩ (by omega)
      | true =>
        simp (disch := first | assumption | omega | (simp only [LN] <;> omega) | (simp (disch := first | assumption | omega | (simp only [LN] <;> omega)) only [row_alloc, row_set]; assumption)) only [W_block, P3, ↓reduceIte, reduceAdd, reduceEqDiff, reduceCtorEq, initFr, reduceLT, clsA, reduceLeDiff, reduceMul, reduceSub, reduceIte]
        refine hret2 _ _ ?_
        exact hno (bad (by rw [hlk2, hcc]; rfl)) k0 rfl
  · have c1 : ¬ ((k : Nat) : Int) < ((L.r.length : Nat) : Int) := by omega
    have hke : k = L.r.length := by omega
    subst hke
    rw [hk] at hset
    have tN := t28 (hyo.keeps k0) (by omega)
    simp only [rowy] at tN
    simp (disch := first | assumption | omega | (simp only [LN] <;> omega) | (simp (disch := first | assumption | omega | (simp only [LN] <;> omega)) only [row_alloc, row_set]; assumption)) only [W_block, P3, ↓reduceIte, reduceAdd, reduceEqDiff, reduceCtorEq, initFr, reduceLT, clsA, reduceLeDiff, reduceMul, reduceSub, reduceIte, gl0, ir, lenr, c1]
    refine hx2 _ _ _ ?_
    simp (disch := first | assumption | omega | (simp only [LN] <;> omega) | (simp (disch := first | assumption | omega | (simp only [LN] <;> omega)) only [row_alloc, row_set]; assumption)) only [W_block, P3, ↓reduceIte, reduceAdd, reduceEqDiff, reduceCtorEq, initFr, reduceLT, clsA, reduceLeDiff, reduceMul, reduceSub, reduceIte, gy0]
    refine callK tN ?_
    rintro nv K2 ⟨hnv, k2, fnv⟩
    have isn := Sl.is hnv
    have lenn := hnv.len
    have ndl : (nds y.r).length ≤ 32 := by simp [nds]; omega
    have hnd := hgood.nd
    have gl2 := k2.at_ gl0
    have gs2 := k2.at_ gs0
    have gi2 := k2.at_ gi0
    have l0 := AHeap.get_lt gl2
    have l1 := AHeap.get_lt gs2
    have l2 := AHeap.get_lt gi2
    have hp2 := h.p.keeps (k0.trans k2)
    generalize nds y.r = l at *
    simp (disch := first | assumption | omega | (simp only [LN] <;> omega) | (simp (disch := first | assumption | omega | (simp only [LN] <;> omega)) only [row_alloc, row_set]; assumption)) only [ P3, ↓reduceIte, reduceAdd, reduceEqDiff, reduceCtorEq, initFr, reduceLT, clsA, reduceLeDiff, reduceMul, reduceSub, reduceIte]
    rw [W_block]
    refine W_loop2 (fun q fr X => ∃ j x15 x16, fr = [A1, A2, A4, .int .i64 ((i : Nat) : Int), ptr H.n 0, ptr (H.n + 1) 0, ptr (H.n + 2) 0, .bool false, ptr (H.n + 3) 0, .int .i64 ((L.r.length : Nat) : Int), nv, .int .i64 ((j : Nat) : Int), .bool false, .bool false, x14, x15, x16] ∧
        K2 = X ∧ ((l.take j).all fun z => !((s.po z.1.toNat != z.2) && hasB x.oc (L.p.getD z.1.toNat ([], 0)).2)) = true ∧ j ≤ l.length ∧ q = l.length - j) l.length
      ⟨0, _, _, rfl, rfl, by simp, by omega, rfl⟩ ?_
    rintro Q3 q fr X ⟨j, x15, x16, rfl, rfl, hj, hjl, rfl⟩ hn3 hx3 hret3
    by_cases hjlt : j < l.length
    · obtain ⟨nj, rj⟩ := hnv.at_ hjlt
      have j0 : (0 : Int) ≤ (j : Int) := by omega
      have j1 : (j : Int) < ((l.length : Nat) : Int) := by omega
      have hw3 : IntKind.i64.wrap ((j : Int) + 1) = ((j + 1 : Nat) : Int) := by rw [wrap_i64 (by omega) (by omega)]; simp
      have hgd : l.getD j (0, false) = l[j] := by rw [List.getD_eq_getElem?_getD, List.getElem?_eq_getElem hjlt]; rfl
      have hmem := List.getElem_mem hjlt
      have hrng := hnd _ hmem
      have ok1 : (!((s.po l[j].1.toNat != l[j].2) && hasB x.oc (L.p.getD l[j].1.toNat ([], 0)).2)) = true → ((l.take (j + 1)).all fun z => !((s.po z.1.toNat != z.2) && hasB x.oc (L.p.getD z.1.toNat ([], 0)).2)) = true := fun e => take_all hjlt hj e
      have bad1 : (!((s.po l[j].1.toNat != l[j].2) && hasB x.oc (L.p.getD l[j].1.toNat ([], 0)).2)) = false → setD L x s i = false := fun e => by
        have : (l.all fun z => !((s.po z.1.toNat != z.2) && hasB x.oc (L.p.getD z.1.toNat ([], 0)).2)) = false := List.all_eq_false.2 ⟨_, hmem, by rw [e]; simp⟩
        rw [hset, this]; rfl
      rw [hgd] at rj
      generalize l[j] = z at *
      obtain ⟨zp, zb⟩ := z
      obtain ⟨m, rfl⟩ : ∃ m : Nat, zp = (m : Int) := ⟨zp.toNat, by have := hrng.1; simp only at this; omega⟩
      have hmp : m < L.p.length := by have := hrng.2; simp only at *; omega
      have hm32 : m < 32 := by omega
      have hmt : (Int.toNat (m : Int)) = m := by omega
      simp only [hmt] at ok1 bad1
      obtain ⟨np, rp⟩ := hp2.at_ hmp
      have m0 : (0 : Int) ≤ (m : Int) := by omega
      have m1 : (m : Int) < ((L.p.length : Nat) : Int) := by omega
      have qq := row_lt rj
      have qp := row_lt rp
      generalize L.p.getD m ([], 0) = w at *
      simp (disch := first | assumption | omega | (simp only [LN] <;> omega) | (simp (disch := first | assumption | omega | (simp only [LN] <;> omega)) only [row_alloc, row_set]; assumption)) only [W_block, P3, ↓reduceIte, reduceAdd, reduceEqDiff, reduceCtorEq, initFr, reduceLT, clsA, reduceLeDiff, reduceMul, reduceSub, reduceIte, isn, lenn, j0, j1, nj, rj, a_load1v, gs2, rng68]
      refine callK (t29 s hm32) ?_
      rintro _ X ⟨rfl, hX⟩
      rw [hX]
      cases hpo : s.po m <;> cases zb <;> rw [hpo] at ok1 bad1
      · simp (disch := first | assumption | omega | (simp only [LN] <;> omega) | (simp (disch := first | assumption | omega | (simp only [LN] <;> omega)) only [row_alloc, row_set]; assumption)) only [W_block, P3, ↓reduceIte, reduceAdd, reduceEqDiff, reduceCtorEq, initFr, reduceLT, clsA, reduceLeDiff, reduceMul, reduceSub, reduceIte, nj, rj, lenn, j0, j1, a_load1v, hw3, qq]
        exact hn3 _ _ _ ⟨j + 1, _, _, rfl, rfl, ok1 rfl, by omega, rfl⟩ (by omega)
      · simp (disch := first | assumption | omega | (simp only [LN] <;> omega) | (simp (disch := first | assumption | omega | (simp only [LN] <;> omega)) only [row_alloc, row_set]; assumption)) only [W_block, P3, ↓reduceIte, reduceAdd, reduceEqDiff, reduceCtorEq, initFr, reduceLT, clsA, reduceLeDiff, reduceMul, reduceSub, reduceIte, nj, rj, lenn, j0, j1, a_load1v, hw3, qq, gi2, gl2, ip, lenp, np, rp, m0, m1, l0, l1, l2, qp]
        refine callK (tCl _ _) ?_
        rintro _ X ⟨rfl, hX⟩
        rw [hX]
        cases hb : hasB x.oc w.2 with
        | true =>
          simp (disch := first | assumption | omega | (simp only [LN] <;> omega) | (simp (disch := first | assumption | omega | (simp only [LN] <;> omega)) only [row_alloc, row_set]; assumption)) only [W_block, P3, ↓reduceIte, reduceAdd, reduceEqDiff, reduceCtorEq, initFr, reduceLT, clsA, reduceLeDiff, reduceMul, reduceSub, reduceIte]
          refine hret3 _ _ ?_
          exact hno (bad1 (by rw [hb]; rfl)) (k0.trans k2) rfl
        | false =>
          simp (disch := first | assumption | omega | (simp only [LN] <;> omega) | (simp (disch := first | assumption | omega | (simp only [LN] <;> omega)) only [row_alloc, row_set]; assumption)) only [W_block, P3, ↓reduceIte, reduceAdd, reduceEqDiff, reduceCtorEq, initFr, reduceLT, clsA, reduceLeDiff, reduceMul, reduceSub, reduceIte, hw3]
          exact hn3 _ _ _ ⟨j + 1, _, _, rfl, rfl, ok1 (by rw [hb]; rfl), by omega, rfl⟩ (by omega)
      · simp (disch := first | assumption | omega | (simp only [LN] <;> omega) | (simp (disch := first | assumption | omega | (simp only [LN] <;> omega)) only [row_alloc, row_set]; assumption)) only [W_block, P3, ↓reduceIte, reduceAdd, reduceEqDiff, reduceCtorEq, initFr, reduceLT, clsA, reduceLeDiff, reduceMul, reduceSub, reduceIte, nj, rj, lenn, j0, j1, a_load1v, hw3, qq, gi2, gl2, ip, lenp, np, rp, m0, m1, l0, l1, l2, qp]
        refine callK (tCl _ _) ?_
        rintro _ X ⟨rfl, hX⟩
        rw [hX]
        cases hb : hasB x.oc w.2 with
        | true =>
          simp (disch := first | assumption | omega | (simp only [LN] <;> omega) | (simp (disch := first | assumption | omega | (simp only [LN] <;> omega)) only [row_alloc, row_set]; assumption)) only [W_block, P3, ↓reduceIte, reduceAdd, reduceEqDiff, reduceCtorEq, initFr, reduceLT, clsA, reduceLeDiff, reduceMul, reduceSub, reduceIte]
          refine hret3 _ _ ?_
          exact hno (bad1 (by rw [hb]; rfl)) (k0.trans k2) rfl
        | false =>
          simp (disch := first | assumption | omega | (simp only [LN] <;> omega) | (simp (disch := first | assumption | omega | (simp only [LN] <;> omega)) only [row_alloc, row_set]; assumption)) only [W_block, P3, ↓reduceIte, reduceAdd, reduceEqDiff, reduceCtorEq, initFr, reduceLT, clsA, reduceLeDiff, reduceMul, reduceSub, reduceIte, hw3]
          exact hn3 _ _ _ ⟨j + 1, _, _, rfl, rfl, ok1 (by rw [hb]; rfl), by omega, rfl⟩ (by omega)
      · simp (disch := first | assumption | omega | (simp only [LN] <;> omega) | (simp (disch := first | assumption | omega | (simp only [LN] <;> omega)) only [row_alloc, row_set]; assumption)) only [W_block, P3, ↓reduceIte, reduceAdd, reduceEqDiff, reduceCtorEq, initFr, reduceLT, clsA, reduceLeDiff, reduceMul, reduceSub, reduceIte, nj, rj, lenn, j0, j1, a_load1v, hw3, qq]
        exact hn3 _ _ _ ⟨j + 1, _, _, rfl, rfl, ok1 rfl, by omega, rfl⟩ (by omega)
    · have j1 : ¬ ((j : Nat) : Int) < ((l.length : Nat) : Int) := by omega
      have hje : j = l.length := by omega
      subst hje
      rw [List.take_length] at hj
      simp (disch := first | assumption | omega | (simp only [LN] <;> omega) | (simp (disch := first | assumption | omega | (simp only [LN] <;> omega)) only [row_alloc, row_set]; assumption)) only [W_block, P3, ↓reduceIte, reduceAdd, reduceEqDiff, reduceCtorEq, initFr, reduceLT, clsA, reduceLeDiff, reduceMul, reduceSub, reduceIte, isn, lenn, j1]
      refine hx3 _ _ _ ?_
      simp (disch := first | assumption | omega | (simp only [LN] <;> omega) | (simp (disch := first | assumption | omega | (simp only [LN] <;> omega)) only [row_alloc, row_set]; assumption)) only [W_block, P3, ↓reduceIte, reduceAdd, reduceEqDiff, reduceCtorEq, initFr, reduceLT, clsA, reduceLeDiff, reduceMul, reduceSub, reduceIte]
      exact hq2 _ _ ⟨_, rfl, by rw [hset, hj]; rfl, k0.trans k2⟩
def okC (L : Ly) (kd n : Int) : Bool := (decide (1 ≤ kd) && decide (kd ≤ 3)) && (decide (0 ≤ n) && decide (n < if kd = 3 then ((L.p.length : Nat) : Int) else ((L.r.length : Nat) : Int)))
def xn : Inp := ⟨wn, wn, wn⟩
theorem none_wn (f : Nat → Bool) : (none64 fun i => wn i && !f i) = true := by unfold none64 wn; simp
theorem nonp_wn (f : Nat → Bool) : (none32 fun i => wn i && !f i) = true := by unfold none32 wn; simp
set_option maxHeartbeats 1000000 in
theorem t70 {H : AHeap} {u : V4} {xs : List RV} {L : Ly} {cv : Value} (h : LyR H u xs L) (hL : LyLim L) {kd n : Int} (hc : CL H cv [(kd, n)]) :
    ∃ w H', ARun Go.Proofs.Try.prog 0 70 [.agg u.l.toArray, .agg (inl xn cv).toArray] H w H' ∧ w = .bool (okC L kd n) ∧ H' = H := by
  suffices h' : ∃ w H', ARun Go.Proofs.Try.prog 0 70 [.agg u.l.toArray, .agg (inl xn cv).toArray] H w H' ∧ w = .bool (okC L kd n) ∧ Keeps H H' by
    obtain ⟨_, _, a, rfl, k⟩ := h'
    exact ⟨_, _, a.gc0 k (.inr (.bool _)), rfl, rfl⟩
  refine walk2 f70_ok f70_n ?_
  intro Q hq1 hq2
  have lr := hL.r
  have lpp := hL.p
  have os := Sl.one h.s
  have op := Sl.one h.p
  have og := Sl.one h.g
  have or := Sl.one h.r
  have is := Sl.is h.s
  have ir := Sl.is h.r
  have ip := Sl.is h.p
  have lenr := h.r.len
  have lenp := h.p.len
  have lens := h.s.len
  rw [h.rlen] at lenr
  have isc := Sl.is hc
  have oc := Sl.one hc
  have lenc : lenS cv = 1 := hc.len
  have hul : u.l = [u.s, u.p, u.g, u.r] := rfl
  have hinl : inl xn cv = [S64 wn, S32 wn, S32 wn, cv] := rfl
  obtain ⟨K0, hK0⟩ : ∃ X, X = (H.alloc (.cells true false 4 [u.s, u.p, u.g, u.r] 27)).alloc (.cells true false 4 (inl xn cv) 43) := ⟨_, rfl⟩
  have k0 : Keeps H K0 := by rw [hK0]; exact ((Keeps.refl H).alloc _).alloc _
  have gl0 : K0.get H.n = some (.cells true false 4 [u.s, u.p, u.g, u.r] 27) := by rw [hK0]; exact ((Keeps.refl _).alloc _).at_ (AHeap.get_alloc_new H _)
  have gi0 : K0.get (H.n + 1) = some (.cells true false 4 (inl xn cv) 43) := by rw [hK0]; exact AHeap.get_alloc_new (H.alloc _) _
  have l0 := AHeap.get_lt gl0
  have l1 := AHeap.get_lt gi0
  rw [hinl] at hK0 gi0
  rw [hul, hinl]
  have i8 : (((1 : Nat) : Int)) = 1 := rfl
  simp (disch := first | assumption | omega | (simp only [LN] <;> omega) | (simp (disch := first | assumption | omega | (simp only [LN] <;> omega)) only [row_alloc, row_set]; assumption)) only [f70, W_block, P3, ↓reduceIte, reduceAdd, reduceEqDiff, reduceCtorEq, initFr, reduceLT, clsA, reduceLeDiff, reduceMul, reduceSub, reduceIte, os, op, og, or, oc, o_s64, o_s32, one_s64, one_s32, is, lens]
  simp only [← hK0]
  refine callK (t23 _) ?_
  rintro _ X ⟨rfl, hX⟩
  rw [hX]
  have hmp : min ((L.p.length : Nat) : Int) 32 = ((L.p.length : Nat) : Int) := by omega
  have hmr : min ((L.r.length : Nat) : Int) 64 = ((L.r.length : Nat) : Int) := by omega
  simp (disch := first | assumption | omega | (simp only [LN] <;> omega) | (simp (disch := first | assumption | omega | (simp only [LN] <;> omega)) only [row_alloc, row_set]; assumption)) only [W_block, P3, ↓reduceIte, reduceAdd, reduceEqDiff, reduceCtorEq, initFr, reduceLT, clsA, reduceLeDiff, reduceMul, reduceSub, reduceIte, gl0, gi0, s_andn, s_ne0, none_wn, isc, lenc, ip, lenp, l0, l1, a_mmn, hmp]
  refine ⟨by simp, callK (t23 _) ?_⟩
  rintro _ X ⟨rfl, hX⟩
  rw [hX]
  simp (disch := first | assumption | omega | (simp only [LN] <;> omega) | (simp (disch := first | assumption | omega | (simp only [LN] <;> omega)) only [row_alloc, row_set]; assumption)) only [ P3, ↓reduceIte, reduceAdd, reduceEqDiff, reduceCtorEq, initFr, reduceLT, clsA, reduceLeDiff, reduceMul, reduceSub, reduceIte, gl0, gi0, s_down, p_andn, p_ne0, nonp_wn]
  obtain ⟨A1, hA1⟩ : ∃ v : Value, v = .agg #[u.s, u.p, u.g, u.r] := ⟨_, rfl⟩
  obtain ⟨A2, hA2⟩ : ∃ v : Value, v = .agg #[S64 wn, S32 wn, S32 wn, cv] := ⟨_, rfl⟩
  rw [W_block, ← hA1, ← hA2]
  refine W_loop2 (fun q fr X => ∃ i x7 x8 x11 x12 x13, fr = [A1, A2, ptr H.n 0, ptr (H.n + 1) 0, .bool false, S32 (lowP (L.p.length : Nat)), .int .i64 ((i : Nat) : Int), x7, x8, .bool false, .bool false, x11, x12, x13] ∧ Keeps K0 X ∧ i ≤ 1 ∧ (i = 1 → okC L kd n = true) ∧ q = 1 - i) 1
    ⟨0, _, _, _, _, _, rfl, Keeps.refl _, by omega, fun e => (by cases e), rfl⟩ ?_
  rintro Q' q fr X ⟨i, x7, x8, x11, x12, x13, rfl, kX, hi, hok, rfl⟩ hn' hx' hret
  have glX := kX.at_ gl0
  have giX := kX.at_ gi0
  have lX := AHeap.get_lt glX
  by_cases hlt : i < 1
  · have hi0 : i = 0 := by omega
    subst hi0
    obtain ⟨nc, rc⟩ := ((hc.keeps k0).keeps kX).at_ (i := 0) (by simp)
    have rc' : rowA X 2 cv 0 = some [.int .u8 kd, .int .i64 n] := rc
    have kA := kX.alloc (.cells true false 2 [.int .u8 kd, .int .i64 n] 70)
    have hw : IntKind.i64.wrap ((0 : Int) + 1) = ((1 : Nat) : Int) := by rw [wrap_i64 (by omega) (by omega)]; rfl
    have hno : okC L kd n = false → ∀ {K : AHeap} {fr : List Value}, Keeps H K → resO f70.res fr K = some (.bool false) → Q .ret fr K := fun e K fr k hr => hq2 _ _ ⟨_, hr, by rw [e], k⟩
    have c1 : (((0 : Nat) : Int)) < ((lenS cv : Nat) : Int) := by rw [lenc]; omega
    have t0 : Int.toNat (((0 : Nat) : Int)) = 0 := rfl
    have t1 : (0 : Int) < ((1 : Nat) : Int) := by omega
    have t2 : ((0 : Nat) : Int) = 0 := rfl
    by_cases g1 : kd < 1
    · have hk3 : (kd == 3) = false := by simp; omega
      simp (disch := first | assumption | omega | (simp only [LN] <;> omega) | (simp (disch := first | assumption | omega | (simp only [LN] <;> omega)) only [row_alloc, row_set]; assumption)) only [W_block, P3, ↓reduceIte, reduceAdd, reduceEqDiff, reduceCtorEq, initFr, reduceLT, clsA, reduceLeDiff, reduceMul, reduceSub, reduceIte, glX, giX, isc, lenc, nc, rc', a_loadnvf, ir, lenr, a_mmn, hmr, hk3, g1, lX, c1, t0, t1, t2, i8]
      refine hret _ _ ?_
      exact hno (by unfold okC; simp; omega) (k0.trans kA) rfl
    by_cases g2 : 3 < kd
    · have hk3 : (kd == 3) = false := by simp; omega
      simp (disch := first | assumption | omega | (simp only [LN] <;> omega) | (simp (disch := first | assumption | omega | (simp only [LN] <;> omega)) only [row_alloc, row_set]; assumption)) only [W_block, P3, ↓reduceIte, reduceAdd, reduceEqDiff, reduceCtorEq, initFr, reduceLT, clsA, reduceLeDiff, reduceMul, reduceSub, reduceIte, glX, giX, isc, lenc, nc, rc', a_loadnvf, ir, lenr, a_mmn, hmr, hk3, g1, g2, lX, c1, t0, t1, t2, i8]
      refine hret _ _ ?_
      exact hno (by unfold okC; simp; omega) (k0.trans kA) rfl
    by_cases g3 : n < 0
    · by_cases g5 : kd = 3
      · have hk3 : (kd == 3) = true := by simp [g5]
        simp (disch := first | assumption | omega | (simp only [LN] <;> omega) | (simp (disch := first | assumption | omega | (simp only [LN] <;> omega)) only [row_alloc, row_set]; assumption)) only [W_block, P3, ↓reduceIte, reduceAdd, reduceEqDiff, reduceCtorEq, initFr, reduceLT, clsA, reduceLeDiff, reduceMul, reduceSub, reduceIte, glX, giX, isc, lenc, nc, rc', a_loadnvf, ir, lenr, ip, lenp, a_mmn, hmr, hmp, hk3, g1, g2, g3, lX, c1, t0, t1, t2, i8]
        refine hret _ _ ?_
        exact hno (by unfold okC; simp; omega) (k0.trans kA) rfl
      · have hk3 : (kd == 3) = false := by simp [g5]
        simp (disch := first | assumption | omega | (simp only [LN] <;> omega) | (simp (disch := first | assumption | omega | (simp only [LN] <;> omega)) only [row_alloc, row_set]; assumption)) only [W_block, P3, ↓reduceIte, reduceAdd, reduceEqDiff, reduceCtorEq, initFr, reduceLT, clsA, reduceLeDiff, reduceMul, reduceSub, reduceIte, glX, giX, isc, lenc, nc, rc', a_loadnvf, ir, lenr, ip, lenp, a_mmn, hmr, hmp, hk3, g1, g2, g3, lX, c1, t0, t1, t2, i8]
        refine hret _ _ ?_
        exact hno (by unfold okC; simp; omega) (k0.trans kA) rfl
    by_cases g5 : kd = 3
    · have hk3 : (kd == 3) = true := by simp [g5]
      by_cases g4 : ((L.p.length : Nat) : Int) ≤ n
      · simp (disch := first | assumption | omega | (simp only [LN] <;> omega) | (simp (disch := first | assumption | omega | (simp only [LN] <;> omega)) only [row_alloc, row_set]; assumption)) only [W_block, P3, ↓reduceIte, reduceAdd, reduceEqDiff, reduceCtorEq, initFr, reduceLT, clsA, reduceLeDiff, reduceMul, reduceSub, reduceIte, glX, giX, isc, lenc, nc, rc', a_loadnvf, ir, lenr, ip, lenp, a_mmn, hmr, hmp, hk3, g1, g2, g3, g4, lX, c1, t0, t1, t2, i8]
        refine hret _ _ ?_
        exact hno (by unfold okC; simp [g5]; omega) (k0.trans kA) rfl
      · simp (disch := first | assumption | omega | (simp only [LN] <;> omega) | (simp (disch := first | assumption | omega | (simp only [LN] <;> omega)) only [row_alloc, row_set]; assumption)) only [W_block, P3, ↓reduceIte, reduceAdd, reduceEqDiff, reduceCtorEq, initFr, reduceLT, clsA, reduceLeDiff, reduceMul, reduceSub, reduceIte, glX, giX, isc, lenc, nc, rc', a_loadnvf, ir, lenr, ip, lenp, a_mmn, hmr, hmp, hk3, g1, g2, g3, g4, lX, c1, t0, t1, t2, i8, hw]
        exact hn' _ _ _ ⟨1, _, _, _, _, _, rfl, kA, by omega, fun _ => by unfold okC; simp [g5]; omega, rfl⟩ (by omega)
    · have hk3 : (kd == 3) = false := by simp [g5]
      by_cases g4 : ((L.r.length : Nat) : Int) ≤ n
      · simp (disch := first | assumption | omega | (simp only [LN] <;> omega) | (simp (disch := first | assumption | omega | (simp only [LN] <;> omega)) only [row_alloc, row_set]; assumption)) only [W_block, P3, ↓reduceIte, reduceAdd, reduceEqDiff, reduceCtorEq, initFr, reduceLT, clsA, reduceLeDiff, reduceMul, reduceSub, reduceIte, glX, giX, isc, lenc, nc, rc', a_loadnvf, ir, lenr, ip, lenp, a_mmn, hmr, hmp, hk3, g1, g2, g3, g4, lX, c1, t0, t1, t2, i8]
        refine hret _ _ ?_
        exact hno (by unfold okC; simp [g5]; omega) (k0.trans kA) rfl
      · simp (disch := first | assumption | omega | (simp only [LN] <;> omega) | (simp (disch := first | assumption | omega | (simp only [LN] <;> omega)) only [row_alloc, row_set]; assumption)) only [W_block, P3, ↓reduceIte, reduceAdd, reduceEqDiff, reduceCtorEq, initFr, reduceLT, clsA, reduceLeDiff, reduceMul, reduceSub, reduceIte, glX, giX, isc, lenc, nc, rc', a_loadnvf, ir, lenr, ip, lenp, a_mmn, hmr, hmp, hk3, g1, g2, g3, g4, lX, c1, t0, t1, t2, i8, hw]
        exact hn' _ _ _ ⟨1, _, _, _, _, _, rfl, kA, by omega, fun _ => by unfold okC; simp [g5]; omega, rfl⟩ (by omega)
  · have hi1 : i = 1 := by omega
    subst hi1
    simp (disch := first | assumption | omega | (simp only [LN] <;> omega) | (simp (disch := first | assumption | omega | (simp only [LN] <;> omega)) only [row_alloc, row_set]; assumption)) only [W_block, P3, ↓reduceIte, reduceAdd, reduceEqDiff, reduceCtorEq, initFr, reduceLT, clsA, reduceLeDiff, reduceMul, reduceSub, reduceIte, giX, isc, lenc, i8]
    refine hx' _ _ _ ?_
    simp (disch := first | assumption | omega | (simp only [LN] <;> omega) | (simp (disch := first | assumption | omega | (simp only [LN] <;> omega)) only [row_alloc, row_set]; assumption)) only [W_block, P3, ↓reduceIte, reduceAdd, reduceEqDiff, reduceCtorEq, initFr, reduceLT, clsA, reduceLeDiff, reduceMul, reduceSub, reduceIte]
    exact hq2 _ _ ⟨.bool true, rfl, by rw [hok rfl], k0.trans kX⟩
end Go.AM.Fd

set_option linter.unusedSimpArgs false
set_option linter.unusedVariables false
set_option maxRecDepth 8000
namespace Go.AM.Fd
open Nat (reduceAdd reduceEqDiff reduceLT reduceLeDiff reduceMul reduceSub)
open Go.Proofs Go.AM.F
def poD (l : List (Int × Bool)) (f : Nat → Bool) : Nat → Bool := l.foldl (fun f z p => if p = z.1.toNat then z.2 else f p) f
theorem poD_s (l : List (Int × Bool)) (z : Int × Bool) (f : Nat → Bool) : poD (l ++ [z]) f = fun p => if p = z.1.toNat then z.2 else poD l f p := by
  unfold poD; rw [List.foldl_append]; rfl
def comD (L : Ly) (x : Inp) (s : Sta) (kd n : Int) : Sta :=
  if okC L kd n then
    if kd = 1 ∧ setD L x s n.toNat = true then { s with lo := fun j => s.lo j || decide (j = n.toNat), po := poD (nds (ro L n.toNat)) s.po }
    else if kd = 2 ∧ ((s.lo n.toNat && !s.us n.toNat) && !s.ca n.toNat) = true then
      { s with ca := fun j => s.ca j || decide (j = n.toNat), ti := upd s.ti n.toNat (if hasB x.oc (L.g.getD (ro L n.toNat).g.toNat ([], 0)).2 then 20 else 0) }
    else if kd = 3 ∧ (!hasB x.oc (L.p.getD n.toNat ([], 0)).2 && !needD L s n) = true then { s with po := fun j => s.po j ^^ decide (j = n.toNat) }
    else s
  else s
def roD (L : Ly) (x : Inp) (us : Nat → Bool) (s : Sta) (i : Nat) : Sta :=
  if us i then (if frD x (ro L i) then relS s i else s)
  else if hasB x.oc ((ro L i).path.getD 0 0) then { s with us := fun j => s.us j || decide (j = i) }
  else if s.ca i && decide (0 < s.ti i) then { s with ti := upd s.ti i (s.ti i - 1) }
  else if s.ca i && frD x (ro L i) then relS s i
  else s
set_option maxHeartbeats 4000000 in
theorem t40 {H : AHeap} {u : V4} {xs : List RV} {L : Ly} {x : Inp} {cv : Value} (h : LyR H u xs L) (he : checkE L = 0) (s : Sta) (us : Nat → Bool) (hc : isS cv = true) (ht : ∀ i, s.ti i < 256) {i : Nat} (hlt : i < L.r.length) :
    ∃ w H', ARun Go.Proofs.Try.prog 0 40 [.agg u.l.toArray, .agg (stl s).toArray, .agg (inl x cv).toArray, .int .i64 (i : Nat), S64 us] H w H' ∧ w = .agg (stl (roD L x us s i)).toArray ∧ H' = H := by
  suffices h' : ∃ w H', ARun Go.Proofs.Try.prog 0 40 [.agg u.l.toArray, .agg (stl s).toArray, .agg (inl x cv).toArray, .int .i64 (i : Nat), S64 us] H w H' ∧ w = .agg (stl (roD L x us s i)).toArray ∧ Keeps H H' by
    obtain ⟨_, _, a, rfl, k⟩ := h'
    exact ⟨_, _, a.gc0 k (.inr (nv_stl _ _)), rfl, rfl⟩
  refine walk2 f40_ok f40_n ?_
  intro Q hq1 hq2
  have hmay := check_may he
  have hL := may_lim hmay
  have lr := hL.r
  have os := Sl.one h.s
  have op := Sl.one h.p
  have og := Sl.one h.g
  have or := Sl.one h.r
  have ir := Sl.is h.r
  have lenr := h.r.len
  rw [h.rlen] at lenr
  have o1 := one_isS hc
  have hul : u.l = [u.s, u.p, u.g, u.r] := rfl
  have hinl : inl x cv = [S64 x.oc, S32 x.nr, S32 x.rv, cv] := rfl
  have iN : i < 64 := by omega
  have e0 : (0 : Int) ≤ (i : Int) := by omega
  have e1 : (i : Int) < ((L.r.length : Nat) : Int) := by omega
  have e64 : (i : Int) < 64 := by omega
  obtain ⟨hyr, hyo⟩ := rv_ro h hlt
  have hgood := check_good he (List.getElem_mem hlt)
  rw [← ro_eq hlt, ← hyr] at hgood
  obtain ⟨K0, hK0⟩ : ∃ X, X = ((((H.alloc (.cells true false 4 [u.s, u.p, u.g, u.r] 27)).alloc (.cells true false 68 (stl s) 32)).alloc (.cells true false 4 (inl x cv) 43)).alloc (.cells true false 68 (stl Sta0) 32)).alloc (.cells true false 6 (xs.getD i rv0).row 50) := ⟨_, rfl⟩
  have k0 : Keeps H K0 := by rw [hK0]; exact (((((Keeps.refl H).alloc _).alloc _).alloc _).alloc _).alloc _
  have n0 : K0.n = H.n + 5 := by rw [hK0]; rfl
  have gs0 : K0.get (H.n + 1) = some (.cells true false 68 (stl s) 32) := by rw [hK0]; exact ((((Keeps.refl _).alloc _).alloc _).alloc _).at_ (AHeap.get_alloc_new (H.alloc _) _)
  have gi0 : K0.get (H.n + 2) = some (.cells true false 4 (inl x cv) 43) := by rw [hK0]; exact (((Keeps.refl _).alloc _).alloc _).at_ (AHeap.get_alloc_new ((H.alloc _).alloc _) _)
  have gw0 : K0.get (H.n + 3) = some (.cells true false 68 (stl Sta0) 32) := by rw [hK0]; exact ((Keeps.refl _).alloc _).at_ (AHeap.get_alloc_new (((H.alloc _).alloc _).alloc _) _)
  have gy0 : K0.get (H.n + 4) = some (.cells true false 6 (xs.getD i rv0).row 50) := by rw [hK0]; exact AHeap.get_alloc_new ((((H.alloc _).alloc _).alloc _).alloc _) _
  have rr : ∀ K, Keeps H K → nnS u.r = true ∧ rowA K 6 u.r i = some (xs.getD i rv0).row := fun K k => (h.r.keeps k).at_ (i := i) (by rw [h.rlen]; exact hlt)
  have hro : roD L x us s i = (if us i then (if frD x (ro L i) then relS s i else s)
    else if hasB x.oc ((ro L i).path.getD 0 0) then { s with us := fun j => s.us j || decide (j = i) }
    else if s.ca i && decide (0 < s.ti i) then { s with ti := upd s.ti i (s.ti i - 1) }
    else if s.ca i && frD x (ro L i) then relS s i
    else s) := rfl
  rw [← hyr] at hro
  generalize xs.getD i rv0 = y at *
  have rowy : y.row = [.string ⟨y.r.n.toArray⟩, .int .i64 y.r.g, y.vp, y.vq, y.vo, y.vf] := rfl
  have lP := hgood.lim.p
  have lO := hgood.lim.o
  obtain ⟨a3, a4, a5, a6⟩ := RV.ones hyo
  have a1 : one1 (Value.int .i64 y.r.g) = True := by simp [one1, one_int]
  have a2 : one1 (Value.string ⟨y.r.n.toArray⟩) = True := by simp [one1, one_str]
  have tF := t74 (x := x) (cv := cv) (hyo.keeps k0) (by omega) hc
  have tCl := fun K n => t72 (H := K) (x := x) hc n
  have kA := (((Keeps.refl H).alloc (.cells true false 4 [u.s, u.p, u.g, u.r] 27)).alloc (.cells true false 68 (stl s) 32) |>.alloc (.cells true false 4 (inl x cv) 43)).alloc (.cells true false 68 (stl Sta0) 32)
  obtain ⟨na, raA⟩ := rr _ kA
  simp only [rowy, hinl] at tF tCl raA gy0 gi0 hK0
  have iy := Sl.is hyo.p
  have lpt := hyo.p.len
  obtain ⟨nap, rap⟩ := (hyo.p.keeps k0).at_ (i := 0) hgood.ne
  have p0 : (0 : Int) < ((y.r.path.length : Nat) : Int) := by have := hgood.ne; omega
  have q1 := row_lt rap
  have s1 := s_shl1 iN
  have hsl := AHeap.get_lt gs0
  have hwl := AHeap.get_lt gw0
  have hyl := AHeap.get_lt gy0
  have hil := AHeap.get_lt gi0
  have t0 : Int.toNat 0 = 0 := rfl
  -- the ends
  have fin : ∀ {K : AHeap} {fr : List Value} (t : Sta), Keeps H K → K.get (H.n + 3) = some (.cells true false 68 (stl t) 32) → fr.getD 8 undef = ptr (H.n + 3) 0 → roD L x us s i = t → Q .ret fr K := by
    intro K fr t k g e er
    refine hq2 _ _ ⟨.agg (stl (roD L x us s i)).toArray, ?_, rfl, k⟩
    show resO [.cn 68 8] _ _ = _
    rw [resC, e, cellnp, rangeA_e, g, rng68, er]; rfl
  have fin2 : ∀ {fr : List Value} (t : Sta) (o : AO), fr.getD 8 undef = ptr (H.n + 3) 0 → roD L x us s i = t → Q .ret fr ((K0.set (H.n + 1) o).set (H.n + 3) (.cells true false 68 (stl t) 32)) := fun t o e er =>
    fin t ((k0.set (by omega) hsl _).set (by omega) (by rw [set_n]; exact hwl) _) (AHeap.get_set_same ((AHeap.get_set_other K0 (by omega) hsl _).trans gw0) _) e er
  have hti := ht i
  have st := stl_t s iN
  have hll : 3 + i < 68 := by omega
  rw [hul, hinl]
  simp (disch := first | assumption | omega | (simp only [LN] <;> omega) | (simp (disch := first | assumption | omega | (simp only [LN] <;> omega)) only [row_alloc, row_set]; assumption)) only [f40, W_block, P3, ↓reduceIte, reduceAdd, reduceEqDiff, reduceCtorEq, initFr, reduceLT, clsA, reduceLeDiff, reduceMul, reduceSub, reduceIte, os, op, og, or, stl_one, stl_len, rng68, o1, o_s64, o_s32, one_s64, one_s32, Z68I_z', ir, lenr, na, raA, e0, e1, a_loadnvf, a1, a2, a3, a4, a5, a6]
  simp only [← hK0]
  refine callK (t24 _ _) ?_
  rintro _ X ⟨rfl, hX⟩
  rw [hX, has_nat _ iN]
  cases hus : us i with
  | true =>
    rw [hus] at hro
    simp (disch := first | assumption | omega | (simp only [LN] <;> omega) | (simp (disch := first | assumption | omega | (simp only [LN] <;> omega)) only [row_alloc, row_set]; assumption)) only [W_block, P3, ↓reduceIte, reduceAdd, reduceEqDiff, reduceCtorEq, initFr, reduceLT, clsA, reduceLeDiff, reduceMul, reduceSub, reduceIte, gy0, gi0]
    refine callK tF ?_
    rintro _ X ⟨rfl, hX⟩
    rw [hX]
    cases hf : frD x y.r with
    | true =>
      rw [hf] at hro
      simp (disch := first | assumption | omega | (simp only [LN] <;> omega) | (simp (disch := first | assumption | omega | (simp only [LN] <;> omega)) only [row_alloc, row_set]; assumption)) only [W_block, P3, ↓reduceIte, reduceAdd, reduceEqDiff, reduceCtorEq, initFr, reduceLT, clsA, reduceLeDiff, reduceMul, reduceSub, reduceIte, gs0, rng68]
      refine callK (t75 s iN) ?_
      rintro _ X ⟨rfl, hX⟩
      rw [hX]
      simp (disch := first | assumption | omega | (simp only [LN] <;> omega) | (simp (disch := first | assumption | omega | (simp only [LN] <;> omega)) only [row_alloc, row_set]; assumption)) only [W_block, P3, ↓reduceIte, reduceAdd, reduceEqDiff, reduceCtorEq, initFr, reduceLT, clsA, reduceLeDiff, reduceMul, reduceSub, reduceIte, gw0, stn68s]
      exact fin (relS s i) (k0.set (by omega) hwl _) (AHeap.get_set_same gw0 _) rfl (by rw [hro]; rfl)
    | false =>
      rw [hf] at hro
      simp (disch := first | assumption | omega | (simp only [LN] <;> omega) | (simp (disch := first | assumption | omega | (simp only [LN] <;> omega)) only [row_alloc, row_set]; assumption)) only [W_block, P3, ↓reduceIte, reduceAdd, reduceEqDiff, reduceCtorEq, initFr, reduceLT, clsA, reduceLeDiff, reduceMul, reduceSub, reduceIte, gs0, gw0, rng68, stn68s]
      exact fin s (k0.set (by omega) hwl _) (AHeap.get_set_same gw0 _) rfl (by rw [hro]; rfl)
  | false =>
  rw [hus] at hro
  simp (disch := first | assumption | omega | (simp only [LN] <;> omega) | (simp (disch := first | assumption | omega | (simp only [LN] <;> omega)) only [row_alloc, row_set]; assumption)) only [W_block, P3, ↓reduceIte, reduceAdd, reduceEqDiff, reduceCtorEq, initFr, reduceLT, clsA, reduceLeDiff, reduceMul, reduceSub, reduceIte, gy0, gi0, iy, lpt, nap, rap, p0, t0, a_load1v, hil, hyl, q1]
  refine callK (tCl _ _) ?_
  rintro _ X ⟨rfl, hX⟩
  rw [hX]
  cases hb : hasB x.oc (y.r.path.getD 0 0) with
  | true =>
    rw [hb] at hro
    simp (disch := first | assumption | omega | (simp only [LN] <;> omega) | (simp (disch := first | assumption | omega | (simp only [LN] <;> omega)) only [row_alloc, row_set]; assumption)) only [W_block, P3, ↓reduceIte, reduceAdd, reduceEqDiff, reduceCtorEq, initFr, reduceLT, clsA, reduceLeDiff, reduceMul, reduceSub, reduceIte, gs0, gw0, stl_0, stl_1, set_1, s1, s_or, one_s64, o_s64, stl_len, rng68, stn68s]
    exact fin2 _ _ rfl (by rw [hro]; rfl)
  | false =>
  rw [hb] at hro
  simp (disch := first | assumption | omega | (simp only [LN] <;> omega) | (simp (disch := first | assumption | omega | (simp only [LN] <;> omega)) only [row_alloc, row_set]; assumption)) only [W_block, P3, ↓reduceIte, reduceAdd, reduceEqDiff, reduceCtorEq, initFr, reduceLT, clsA, reduceLeDiff, reduceMul, reduceSub, reduceIte, gs0, stl_2]
  refine callK (t24 _ _) ?_
  rintro _ X ⟨rfl, hX⟩
  rw [hX, has_nat _ iN]
  cases hca : s.ca i with
  | false =>
    rw [hca] at hro
    simp (disch := first | assumption | omega | (simp only [LN] <;> omega) | (simp (disch := first | assumption | omega | (simp only [LN] <;> omega)) only [row_alloc, row_set]; assumption)) only [W_block, P3, ↓reduceIte, reduceAdd, reduceEqDiff, reduceCtorEq, initFr, reduceLT, clsA, reduceLeDiff, reduceMul, reduceSub, reduceIte, gs0, stl_2]
    refine callK (t24 _ _) ?_
    rintro _ X ⟨rfl, hX⟩
    rw [hX, has_nat _ iN, hca]
    simp (disch := first | assumption | omega | (simp only [LN] <;> omega) | (simp (disch := first | assumption | omega | (simp only [LN] <;> omega)) only [row_alloc, row_set]; assumption)) only [W_block, P3, ↓reduceIte, reduceAdd, reduceEqDiff, reduceCtorEq, initFr, reduceLT, clsA, reduceLeDiff, reduceMul, reduceSub, reduceIte, gs0, gw0, rng68, stn68s]
    exact fin s (k0.set (by omega) hwl _) (AHeap.get_set_same gw0 _) rfl (by rw [hro]; rfl)
  | true =>
  rw [hca] at hro
  by_cases hp : 0 < s.ti i
  · have hp' : (0 : Int) < ((s.ti i : Nat) : Int) := by omega
    have hsub : IntKind.u8.wrap (((s.ti i : Nat) : Int) - 1) = ((s.ti i - 1 : Nat) : Int) := by rw [wrap_u8]; omega
    have sett := set_t s iN (s.ti i - 1)
    simp (disch := first | assumption | omega | (simp only [LN] <;> omega) | (simp (disch := first | assumption | omega | (simp only [LN] <;> omega)) only [row_alloc, row_set]; assumption)) only [W_block, P3, ↓reduceIte, reduceAdd, reduceEqDiff, reduceCtorEq, initFr, reduceLT, clsA, reduceLeDiff, reduceMul, reduceSub, reduceIte, gs0, gw0, e0, e64, a_iaddrp, st, hp', hsub, sett, stl_len, hll, rng68, stn68s, Int.toNat_natCast, Nat.mul_one]
    exact fin2 _ _ rfl (by rw [hro]; simp [hp])
  · have hp' : ¬ (0 : Int) < ((s.ti i : Nat) : Int) := by omega
    simp (disch := first | assumption | omega | (simp only [LN] <;> omega) | (simp (disch := first | assumption | omega | (simp only [LN] <;> omega)) only [row_alloc, row_set]; assumption)) only [W_block, P3, ↓reduceIte, reduceAdd, reduceEqDiff, reduceCtorEq, initFr, reduceLT, clsA, reduceLeDiff, reduceMul, reduceSub, reduceIte, gs0, gw0, e0, e64, a_iaddrp, st, hp', stl_2, Int.toNat_natCast, Nat.mul_one]
    refine callK (t24 _ _) ?_
    rintro _ X ⟨rfl, hX⟩
    rw [hX, has_nat _ iN, hca]
    simp (disch := first | assumption | omega | (simp only [LN] <;> omega) | (simp (disch := first | assumption | omega | (simp only [LN] <;> omega)) only [row_alloc, row_set]; assumption)) only [W_block, P3, ↓reduceIte, reduceAdd, reduceEqDiff, reduceCtorEq, initFr, reduceLT, clsA, reduceLeDiff, reduceMul, reduceSub, reduceIte, gy0, gi0]
    refine callK tF ?_
    rintro _ X ⟨rfl, hX⟩
    rw [hX]
    cases hf : frD x y.r with
    | true =>
      rw [hf] at hro
      simp (disch := first | assumption | omega | (simp only [LN] <;> omega) | (simp (disch := first | assumption | omega | (simp only [LN] <;> omega)) only [row_alloc, row_set]; assumption)) only [W_block, P3, ↓reduceIte, reduceAdd, reduceEqDiff, reduceCtorEq, initFr, reduceLT, clsA, reduceLeDiff, reduceMul, reduceSub, reduceIte, gs0, rng68]
      refine callK (t75 s iN) ?_
      rintro _ X ⟨rfl, hX⟩
      rw [hX]
      simp (disch := first | assumption | omega | (simp only [LN] <;> omega) | (simp (disch := first | assumption | omega | (simp only [LN] <;> omega)) only [row_alloc, row_set]; assumption)) only [W_block, P3, ↓reduceIte, reduceAdd, reduceEqDiff, reduceCtorEq, initFr, reduceLT, clsA, reduceLeDiff, reduceMul, reduceSub, reduceIte, gw0, stn68s]
      exact fin (relS s i) (k0.set (by omega) hwl _) (AHeap.get_set_same gw0 _) rfl (by rw [hro]; simp [hp])
    | false =>
      rw [hf] at hro
      simp (disch := first | assumption | omega | (simp only [LN] <;> omega) | (simp (disch := first | assumption | omega | (simp only [LN] <;> omega)) only [row_alloc, row_set]; assumption)) only [W_block, P3, ↓reduceIte, reduceAdd, reduceEqDiff, reduceCtorEq, initFr, reduceLT, clsA, reduceLeDiff, reduceMul, reduceSub, reduceIte, gs0, gw0, rng68, stn68s]
      exact fin s (k0.set (by omega) hwl _) (AHeap.get_set_same gw0 _) rfl (by rw [hro]; simp [hp])
end Go.AM.Fd

set_option linter.unusedSimpArgs false
set_option linter.unusedVariables false
set_option maxRecDepth 8000
namespace Go.AM.Fd
open Nat (reduceAdd reduceEqDiff reduceLT reduceLeDiff reduceMul reduceSub)
open Go.Proofs Go.AM.F
theorem x_n (cv : Value) : inl xn cv = [.int .u64 0, .int .u32 0, .int .u32 0, cv] := i2v cv
theorem FX (a b c : Int) (d : Value) (x y z w : Nat) : fillA [.int .u64 a, .int .u32 b, .int .u32 c, d] [(3, 1, slc x y z w)] = some [.int .u64 a, .int .u32 b, .int .u32 c, slc x y z w] := rfl
theorem FY (a b c d : Value) : fillA [c, d] [(0, 2, .agg #[a, b])] = some [a, b] := rfl
set_option maxHeartbeats 8000000 in
theorem t39 {H : AHeap} {u : V4} {xs : List RV} {L : Ly} {x : Inp} {cv : Value} (h : LyR H u xs L) (he : checkE L = 0) (s : Sta) (hc : isS cv = true) (kd n : Int) :
    ∃ w H', ARun Go.Proofs.Try.prog 0 39 [.agg u.l.toArray, .agg (stl s).toArray, .agg (inl x cv).toArray, .agg #[.int .u8 kd, .int .i64 n]] H w H' ∧ w = .agg (stl (comD L x s kd n)).toArray ∧ H' = H := by
  suffices h' : ∃ w H', ARun Go.Proofs.Try.prog 0 39 [.agg u.l.toArray, .agg (stl s).toArray, .agg (inl x cv).toArray, .agg #[.int .u8 kd, .int .i64 n]] H w H' ∧ w = .agg (stl (comD L x s kd n)).toArray ∧ Keeps H H' by
    obtain ⟨_, _, a, rfl, k⟩ := h'
    exact ⟨_, _, a.gc0 k (.inr (nv_stl _ _)), rfl, rfl⟩
  refine walk2 f39_ok f39_n ?_
  intro Q hq1 hq2
  have hmay := check_may he
  have hL := may_lim hmay
  have lr := hL.r
  have lpp := hL.p
  have os := Sl.one h.s
  have op := Sl.one h.p
  have og := Sl.one h.g
  have or := Sl.one h.r
  have ir := Sl.is h.r
  have ip := Sl.is h.p
  have ig := Sl.is h.g
  have lenr := h.r.len
  have lenp := h.p.len
  have leng := h.g.len
  rw [h.rlen] at lenr
  have o1 := one_isS hc
  have hul : u.l = [u.s, u.p, u.g, u.r] := rfl
  have hinl : inl x cv = [S64 x.oc, S32 x.nr, S32 x.rv, cv] := rfl
  obtain ⟨K0, hK0⟩ : ∃ X, X = (((((H.alloc (.cells true false 4 [u.s, u.p, u.g, u.r] 27)).alloc (.cells true false 68 (stl s) 32)).alloc (.cells true false 4 (inl x cv) 43)).alloc (.cells true false 2 [.int .u8 kd, .int .i64 n] 70)).alloc (.cells true false 68 (stl Sta0) 32)).alloc (.cells true false 2 [.int .u8 kd, .int .i64 n] 70) := ⟨_, rfl⟩
  have k0 : Keeps H K0 := by rw [hK0]; exact ((((((Keeps.refl H).alloc _).alloc _).alloc _).alloc _).alloc _).alloc _
  have n0 : K0.n = H.n + 6 := by rw [hK0]; rfl
  have gl0 : K0.get H.n = some (.cells true false 4 [u.s, u.p, u.g, u.r] 27) := by rw [hK0]; exact ((((((Keeps.refl _).alloc _).alloc _).alloc _).alloc _).alloc _).at_ (AHeap.get_alloc_new H _)
  have gs0 : K0.get (H.n + 1) = some (.cells true false 68 (stl s) 32) := by rw [hK0]; exact (((((Keeps.refl _).alloc _).alloc _).alloc _).alloc _).at_ (AHeap.get_alloc_new (H.alloc _) _)
  have gi0 : K0.get (H.n + 2) = some (.cells true false 4 (inl x cv) 43) := by rw [hK0]; exact ((((Keeps.refl _).alloc _).alloc _).alloc _).at_ (AHeap.get_alloc_new ((H.alloc _).alloc _) _)
  have gc0 : K0.get (H.n + 3) = some (.cells true false 2 [.int .u8 kd, .int .i64 n] 70) := by rw [hK0]; exact (((Keeps.refl _).alloc _).alloc _).at_ (AHeap.get_alloc_new (((H.alloc _).alloc _).alloc _) _)
  have gw0 : K0.get (H.n + 4) = some (.cells true false 68 (stl Sta0) 32) := by rw [hK0]; exact ((Keeps.refl _).alloc _).at_ (AHeap.get_alloc_new ((((H.alloc _).alloc _).alloc _).alloc _) _)
  have cl0 : CL K0 (slc (H.n + 5) 0 1 1) [(kd, n)] := by rw [hK0]; exact newSl (rows := [[.int .u8 kd, .int .i64 n]]) (by simp) rfl rfl
  have l0 := AHeap.get_lt gl0
  have l1 := AHeap.get_lt gs0
  have l2 := AHeap.get_lt gi0
  have l3 := AHeap.get_lt gc0
  have l4 := AHeap.get_lt gw0
  have t9 := t70 (h.keeps k0) hL cl0
  rw [x_n] at t9
  have fin : ∀ {K : AHeap} {fr : List Value} (t : Sta), Keeps H K → K.get (H.n + 4) = some (.cells true false 68 (stl t) 32) → fr.getD 8 undef = ptr (H.n + 4) 0 → comD L x s kd n = t → Q .ret fr K := by
    intro K fr t k g e er
    refine hq2 _ _ ⟨.agg (stl (comD L x s kd n)).toArray, ?_, rfl, k⟩
    show resO [.cn 68 8] _ _ = _
    rw [resC, e, cellnp, rangeA_e, g, rng68, er]; rfl
  have fin2 : ∀ {fr : List Value} (t : Sta) (o : AO), fr.getD 8 undef = ptr (H.n + 4) 0 → comD L x s kd n = t → Q .ret fr ((K0.set (H.n + 1) o).set (H.n + 4) (.cells true false 68 (stl t) 32)) := fun t o e er =>
    fin t ((k0.set (by omega) l1 _).set (by omega) (by rw [set_n]; exact l4) _) (AHeap.get_set_same ((AHeap.get_set_other K0 (by omega) l1 _).trans gw0) _) e er
  have fin1 : ∀ {fr : List Value}, fr.getD 8 undef = ptr (H.n + 4) 0 → comD L x s kd n = s → Q .ret fr (K0.set (H.n + 4) (.cells true false 68 (stl s) 32)) := fun e er =>
    fin s (k0.set (by omega) l4 _) (AHeap.get_set_same gw0 _) e er
  have tCl := fun K n => t72 (H := K) (x := x) hc n
  rw [hinl] at hK0 gi0
  rw [hul, hinl]
  rw [hul] at t9
  simp only [hinl] at tCl
  simp (disch := first | assumption | omega | (simp only [LN] <;> omega) | (simp (disch := first | assumption | omega | (simp only [LN] <;> omega)) only [row_alloc, row_set]; assumption)) only [f39, W_block, P3, ↓reduceIte, reduceAdd, reduceEqDiff, reduceCtorEq, initFr, reduceLT, clsA, reduceLeDiff, reduceMul, reduceSub, reduceIte, os, op, og, or, stl_one, stl_len, rng68, o1, o_s64, o_s32, one_s64, one_s32, Z68I_z', FX, FY]
  simp only [← hK0]
  refine callK t9 ?_
  rintro _ X ⟨rfl, hX⟩
  rw [hX]
  cases hok : okC L kd n with
  | false =>
    simp (disch := first | assumption | omega | (simp only [LN] <;> omega) | (simp (disch := first | assumption | omega | (simp only [LN] <;> omega)) only [row_alloc, row_set]; assumption)) only [W_block, P3, ↓reduceIte, reduceAdd, reduceEqDiff, reduceCtorEq, initFr, reduceLT, clsA, reduceLeDiff, reduceMul, reduceSub, reduceIte, gs0, gw0, rng68, stn68s]
    exact fin1 rfl (by unfold comD; rw [hok]; rfl)
  | true =>
  have hcom : comD L x s kd n = (if kd = 1 ∧ setD L x s n.toNat = true then { s with lo := fun j => s.lo j || decide (j = n.toNat), po := poD (nds (ro L n.toNat)) s.po }
    else if kd = 2 ∧ ((s.lo n.toNat && !s.us n.toNat) && !s.ca n.toNat) = true then
      { s with ca := fun j => s.ca j || decide (j = n.toNat), ti := upd s.ti n.toNat (if hasB x.oc (L.g.getD (ro L n.toNat).g.toNat ([], 0)).2 then 20 else 0) }
    else if kd = 3 ∧ (!hasB x.oc (L.p.getD n.toNat ([], 0)).2 && !needD L s n) = true then { s with po := fun j => s.po j ^^ decide (j = n.toNat) }
    else s) := by unfold comD; rw [hok]; rfl
  have hok' := hok
  simp only [okC, Bool.and_eq_true, decide_eq_true_eq] at hok'
  obtain ⟨⟨ka, kb⟩, na0, nb0⟩ := hok'
  obtain ⟨i, rfl⟩ : ∃ i : Nat, n = (i : Int) := ⟨n.toNat, by omega⟩
  have hit : Int.toNat (i : Int) = i := by omega
  rw [hit] at hcom
  have hk : kd = 1 ∨ kd = 2 ∨ kd = 3 := by omega
  rcases hk with rfl | rfl | rfl
  · have hlt : i < L.r.length := by rw [if_neg (by omega)] at nb0; omega
    have iN : i < 64 := by omega
    have e0 : (0 : Int) ≤ (i : Int) := by omega
    have e1 : (i : Int) < ((L.r.length : Nat) : Int) := by omega
    have s1 := s_shl1 iN
    have tS := t71 (x := x) (h.keeps k0) he s hc hlt
    rw [hul, hinl] at tS
    simp (disch := first | assumption | omega | (simp only [LN] <;> omega) | (simp (disch := first | assumption | omega | (simp only [LN] <;> omega)) only [row_alloc, row_set]; assumption)) only [W_block, P3, ↓reduceIte, reduceAdd, reduceEqDiff, reduceCtorEq, initFr, reduceLT, clsA, reduceLeDiff, reduceMul, reduceSub, reduceIte, gl0, gs0, gi0, gc0, rng68]
    refine callK tS ?_
    rintro _ X ⟨rfl, hX⟩
    rw [hX]
    cases hsd : setD L x s i with
    | false =>
      rw [hsd] at hcom
      simp (disch := first | assumption | omega | (simp only [LN] <;> omega) | (simp (disch := first | assumption | omega | (simp only [LN] <;> omega)) only [row_alloc, row_set]; assumption)) only [W_block, P3, ↓reduceIte, reduceAdd, reduceEqDiff, reduceCtorEq, initFr, reduceLT, clsA, reduceLeDiff, reduceMul, reduceSub, reduceIte, gl0, gs0, gi0, gc0, gw0, rng68, stn68s, stl_0]
      exact fin1 rfl (by rw [hcom]; simp)
    | true =>
    rw [hsd] at hcom
    obtain ⟨hyr, hyo⟩ := rv_ro h hlt
    have hgood := check_good he (List.getElem_mem hlt)
    rw [← ro_eq hlt, ← hyr] at hgood
    obtain ⟨K1, hK1⟩ : ∃ X, X = K0.set (H.n + 1) (.cells true false 68 (stl { s with lo := fun j => s.lo j || decide (j = i) }) 32) := ⟨_, rfl⟩
    have k1 : Keeps H K1 := by rw [hK1]; exact k0.set (by omega) l1 _
    have gs1 : K1.get (H.n + 1) = some (.cells true false 68 (stl { s with lo := fun j => s.lo j || decide (j = i) }) 32) := by rw [hK1]; exact AHeap.get_set_same gs0 _
    have gw1 : K1.get (H.n + 4) = some (.cells true false 68 (stl Sta0) 32) := by rw [hK1, AHeap.get_set_other K0 (by omega) l1]; exact gw0
    have gl1 : K1.get H.n = some (.cells true false 4 [u.s, u.p, u.g, u.r] 27) := by rw [hK1, AHeap.get_set_other K0 (by omega) l1]; exact gl0
    have n1 : K1.n = H.n + 6 := by rw [hK1, set_n, n0]
    obtain ⟨na, ra⟩ := (h.r.keeps k1).at_ (i := i) (by rw [h.rlen]; exact hlt)
    have hcy : comD L x s 1 (i : Int) = { s with lo := fun j => s.lo j || decide (j = i), po := poD (nds (xs.getD i rv0).r) s.po } := by rw [hcom, hyr]; simp
    generalize xs.getD i rv0 = y at *
    have rowy : y.row = [.string ⟨y.r.n.toArray⟩, .int .i64 y.r.g, y.vp, y.vq, y.vo, y.vf] := rfl
    have lQ := hgood.lim.q
    have lF := hgood.lim.f
    have tN := t28 (hyo.keeps k1) (by omega)
    simp only [rowy] at tN ra
    simp (disch := first | assumption | omega | (simp only [LN] <;> omega) | (simp (disch := first | assumption | omega | (simp only [LN] <;> omega)) only [row_alloc, row_set]; assumption)) only [W_block, P3, ↓reduceIte, reduceAdd, reduceEqDiff, reduceCtorEq, initFr, reduceLT, clsA, reduceLeDiff, reduceMul, reduceSub, reduceIte, gs0, gc0, gl0, stl_0, set_0, s1, s_or, one_s64, o_s64, stl_len]
    simp only [← hK1]
    simp (disch := first | assumption | omega | (simp only [LN] <;> omega) | (simp (disch := first | assumption | omega | (simp only [LN] <;> omega)) only [row_alloc, row_set]; assumption)) only [W_block, P3, ↓reduceIte, reduceAdd, reduceEqDiff, reduceCtorEq, initFr, reduceLT, clsA, reduceLeDiff, reduceMul, reduceSub, reduceIte, na, ra, a_loadnvf]
    refine callK tN ?_
    rintro nv K2 ⟨hnv, k2, fnv⟩
    have isn := Sl.is hnv
    have lenn := hnv.len
    have ndl : (nds y.r).length ≤ 32 := by simp [nds]; omega
    have hnd := hgood.nd
    have gs2 := k2.at_ gs1
    have gw2 := k2.at_ gw1
    have hs2 := AHeap.get_lt gs2
    generalize nds y.r = l at *
    simp (disch := first | assumption | omega | (simp only [LN] <;> omega) | (simp (disch := first | assumption | omega | (simp only [LN] <;> omega)) only [row_alloc, row_set]; assumption)) only [ P3, ↓reduceIte, reduceAdd, reduceEqDiff, reduceCtorEq, initFr, reduceLT, clsA, reduceLeDiff, reduceMul, reduceSub, reduceIte]
    obtain ⟨A1, hA1⟩ : ∃ v : Value, v = .agg #[u.s, u.p, u.g, u.r] := ⟨_, rfl⟩
    obtain ⟨A2, hA2⟩ : ∃ v : Value, v = .agg (stl s).toArray := ⟨_, rfl⟩
    obtain ⟨A4, hA4⟩ : ∃ v : Value, v = .agg #[S64 x.oc, S32 x.nr, S32 x.rv, cv] := ⟨_, rfl⟩
    obtain ⟨A5, hA5⟩ : ∃ v : Value, v = .agg #[.int .u8 1, .int .i64 (i : Int)] := ⟨_, rfl⟩
    rw [W_block, ← hA1, ← hA2, ← hA4, ← hA5]
    refine W_loop2 (fun q fr X => ∃ j x13 x14, fr = [A1, A2, A4, A5, ptr H.n 0, ptr (H.n + 1) 0, ptr (H.n + 2) 0, ptr (H.n + 3) 0, ptr (H.n + 4) 0, nv, .int .i64 ((j : Nat) : Int), .bool false, .bool true, x13, x14, undef, undef, undef] ∧
        Chg [H.n + 1] K2 X ∧ X.get (H.n + 1) = some (.cells true false 68 (stl { s with lo := fun j => s.lo j || decide (j = i), po := poD (l.take j) s.po }) 32) ∧ j ≤ l.length ∧ q = l.length - j) l.length
      ⟨0, _, _, rfl, Chg.refl _ _, gs2, by omega, rfl⟩ ?_
    rintro Q3 q fr X ⟨j, x13, x14, rfl, cX, gsX, hjl, rfl⟩ hn3 hx3 hret3
    have hsX := AHeap.get_lt gsX
    have hnX : NL X nv l := Sl.chg hnv cX (fun b hb => by have := fnv b hb; simp; omega)
    by_cases hjlt : j < l.length
    · obtain ⟨nj, rj⟩ := hnX.at_ hjlt
      have j0 : (0 : Int) ≤ (j : Int) := by omega
      have j1 : (j : Int) < ((l.length : Nat) : Int) := by omega
      have hw3 : IntKind.i64.wrap ((j : Int) + 1) = ((j + 1 : Nat) : Int) := by rw [wrap_i64 (by omega) (by omega)]; simp
      have hgd : l.getD j (0, false) = l[j] := by rw [List.getD_eq_getElem?_getD, List.getElem?_eq_getElem hjlt]; rfl
      have htk : l.take (j + 1) = l.take j ++ [l[j]] := by rw [List.take_add_one, List.getElem?_eq_getElem hjlt]; rfl
      have hmem := List.getElem_mem hjlt
      have hrng := hnd _ hmem
      rw [hgd] at rj
      generalize l[j] = z at *
      obtain ⟨zp, zb⟩ := z
      obtain ⟨m, rfl⟩ : ∃ m : Nat, zp = (m : Int) := ⟨zp.toNat, by have := hrng.1; simp only at this; omega⟩
      have hm32 : m < 32 := by have := hrng.2; simp only at *; omega
      have hmt : (Int.toNat (m : Int)) = m := by omega
      have p1 := p_shl1 hm32
      have g3 : ∀ o, (X.set (H.n + 1) o).get (H.n + 1) = some o := fun o => AHeap.get_set_same gsX o
      have rj2 : ∀ o, rowA (X.set (H.n + 1) o) 2 nv j = some [.int .i64 (m : Int), .bool zb] := fun o => by
        have := (NL.at_ (H := X.set (H.n + 1) o) (v := nv) (l := l) (Sl.chg hnX (Chg.set X hsX o) (fun b hb => by have := fnv b hb; simp; omega)) hjlt).2
        rw [hgd] at this; exact this
      have qq := row_lt rj
      have hbn : bn nv - 1 ≠ H.n + 1 := by
        obtain ⟨b, o, nn, kk, e, _⟩ := rowA_range rj
        subst e
        have := fnv b rfl
        simp [bn, blk, slc]; try omega
      cases zb with
      | false =>
        simp (disch := first | assumption | omega | (simp only [LN] <;> omega) | (simp (disch := first | assumption | omega | (simp only [LN] <;> omega)) only [row_alloc, row_set]; assumption)) only [W_block, P3, ↓reduceIte, reduceAdd, reduceEqDiff, reduceCtorEq, initFr, reduceLT, clsA, reduceLeDiff, reduceMul, reduceSub, reduceIte, isn, lenn, j0, j1, nj, rj, rj2, a_load1v, gsX, stl_67, set_67, p1, p_andn, p_or, one_s32, o_s32, stl_len, g3, hw3, qq, hbn]
        refine hn3 _ _ _ ⟨j + 1, _, _, rfl, cX.trans (Chg.set X hsX _) (by simp), ?_, by omega, rfl⟩ (by omega)
        rw [AHeap.get_set_same gsX]
        congr 2
        refine stl_ext (fun _ _ => rfl) (fun _ _ => rfl) (fun _ _ => rfl) (fun _ _ => rfl) (fun q _ => ?_)
        show _ = poD (l.take (j + 1)) s.po q
        rw [htk, poD_s]
        simp only [hmt]
        by_cases e : q = m <;> simp [e]
      | true =>
        simp (disch := first | assumption | omega | (simp only [LN] <;> omega) | (simp (disch := first | assumption | omega | (simp only [LN] <;> omega)) only [row_alloc, row_set]; assumption)) only [W_block, P3, ↓reduceIte, reduceAdd, reduceEqDiff, reduceCtorEq, initFr, reduceLT, clsA, reduceLeDiff, reduceMul, reduceSub, reduceIte, isn, lenn, j0, j1, nj, rj, rj2, a_load1v, gsX, stl_67, set_67, p1, p_andn, p_or, one_s32, o_s32, stl_len, g3, hw3, qq, hbn]
        refine hn3 _ _ _ ⟨j + 1, _, _, rfl, cX.trans (Chg.set X hsX _) (by simp), ?_, by omega, rfl⟩ (by omega)
        rw [AHeap.get_set_same gsX]
        congr 2
        refine stl_ext (fun _ _ => rfl) (fun _ _ => rfl) (fun _ _ => rfl) (fun _ _ => rfl) (fun q _ => ?_)
        show _ = poD (l.take (j + 1)) s.po q
        rw [htk, poD_s]
        simp only [hmt]
        by_cases e : q = m <;> simp [e]
    · have j1 : ¬ ((j : Nat) : Int) < ((l.length : Nat) : Int) := by omega
      have hje : j = l.length := by omega
      subst hje
      rw [List.take_length] at gsX
      have gwX := cX.at_ gw2 (by simp)
      have hwX := AHeap.get_lt gwX
      simp (disch := first | assumption | omega | (simp only [LN] <;> omega) | (simp (disch := first | assumption | omega | (simp only [LN] <;> omega)) only [row_alloc, row_set]; assumption)) only [W_block, P3, ↓reduceIte, reduceAdd, reduceEqDiff, reduceCtorEq, initFr, reduceLT, clsA, reduceLeDiff, reduceMul, reduceSub, reduceIte, isn, lenn, j1]
      refine hx3 _ _ _ ?_
      simp (disch := first | assumption | omega | (simp only [LN] <;> omega) | (simp (disch := first | assumption | omega | (simp only [LN] <;> omega)) only [row_alloc, row_set]; assumption)) only [W_block, P3, ↓reduceIte, reduceAdd, reduceEqDiff, reduceCtorEq, initFr, reduceLT, clsA, reduceLeDiff, reduceMul, reduceSub, reduceIte, gsX, gwX, rng68, stn68s]
      exact fin _ (((k1.trans k2).chg_trans cX (by simp)).set (by omega) hwX _) (AHeap.get_set_same gwX _) rfl hcy
  · have hlt : i < L.r.length := by rw [if_neg (by omega)] at nb0; omega
    have iN : i < 64 := by omega
    have e0 : (0 : Int) ≤ (i : Int) := by omega
    have e1 : (i : Int) < ((L.r.length : Nat) : Int) := by omega
    have e64 : (i : Int) < 64 := by omega
    have hll : 3 + i < 68 := by omega
    have s1 := s_shl1 iN
    have z0 := fun t : Sta => set_t0 t iN
    have z20 := fun t : Sta => set_t20 t iN
    simp (disch := first | assumption | omega | (simp only [LN] <;> omega) | (simp (disch := first | assumption | omega | (simp only [LN] <;> omega)) only [row_alloc, row_set]; assumption)) only [W_block, P3, ↓reduceIte, reduceAdd, reduceEqDiff, reduceCtorEq, initFr, reduceLT, clsA, reduceLeDiff, reduceMul, reduceSub, reduceIte, gs0, gc0, stl_0, stl_1, stl_2, s_andn]
    refine callK (t24 _ _) ?_
    rintro _ X ⟨rfl, hX⟩
    rw [hX, has_nat _ iN]
    cases hcc : ((s.lo i && !s.us i) && !s.ca i) with
    | false =>
      rw [hcc] at hcom
      simp (disch := first | assumption | omega | (simp only [LN] <;> omega) | (simp (disch := first | assumption | omega | (simp only [LN] <;> omega)) only [row_alloc, row_set]; assumption)) only [W_block, P3, ↓reduceIte, reduceAdd, reduceEqDiff, reduceCtorEq, initFr, reduceLT, clsA, reduceLeDiff, reduceMul, reduceSub, reduceIte, gs0, gc0, gw0, rng68, stn68s]
      exact fin1 rfl (by rw [hcom]; simp)
    | true =>
    rw [hcc] at hcom
    obtain ⟨hyr, hyo⟩ := rv_ro h hlt
    have hgood := check_good he (List.getElem_mem hlt)
    rw [← ro_eq hlt, ← hyr] at hgood
    obtain ⟨t1, ht1⟩ : ∃ t : Sta, t = { s with ca := fun j => s.ca j || decide (j = i), ti := upd s.ti i 0 } := ⟨_, rfl⟩
    obtain ⟨K1, hK1⟩ : ∃ X, X = K0.set (H.n + 1) (.cells true false 68 (stl t1) 32) := ⟨_, rfl⟩
    have k1 : Keeps H K1 := by rw [hK1]; exact k0.set (by omega) l1 _
    have gs1 : K1.get (H.n + 1) = some (.cells true false 68 (stl t1) 32) := by rw [hK1]; exact AHeap.get_set_same gs0 _
    have gw1 : K1.get (H.n + 4) = some (.cells true false 68 (stl Sta0) 32) := by rw [hK1, AHeap.get_set_other K0 (by omega) l1]; exact gw0
    have gl1 : K1.get H.n = some (.cells true false 4 [u.s, u.p, u.g, u.r] 27) := by rw [hK1, AHeap.get_set_other K0 (by omega) l1]; exact gl0
    have gi1 : K1.get (H.n + 2) = some (.cells true false 4 [S64 x.oc, S32 x.nr, S32 x.rv, cv] 43) := by rw [hK1, AHeap.get_set_other K0 (by omega) l1]; exact gi0
    have gc1 : K1.get (H.n + 3) = some (.cells true false 2 [.int .u8 2, .int .i64 (i : Int)] 70) := by rw [hK1, AHeap.get_set_other K0 (by omega) l1]; exact gc0
    have hs1 := AHeap.get_lt gs1
    have hw1 := AHeap.get_lt gw1
    obtain ⟨na, ra⟩ := (h.r.keeps k1).at_ (i := i) (by rw [h.rlen]; exact hlt)
    rw [← hyr] at hcom
    generalize xs.getD i rv0 = y at *
    have rowy : y.row = [.string ⟨y.r.n.toArray⟩, .int .i64 y.r.g, y.vp, y.vq, y.vo, y.vf] := rfl
    obtain ⟨g, hg⟩ : ∃ g : Nat, y.r.g = (g : Int) := ⟨y.r.g.toNat, by have := hgood.lim.g.1; omega⟩
    have hgl : g < L.g.length := by have := hgood.lim.g.2; omega
    have hgt : (Int.toNat (g : Int)) = g := by omega
    obtain ⟨ng, rg⟩ := (h.g.keeps k1).at_ hgl
    have g0 : (0 : Int) ≤ (g : Int) := by omega
    have g1 : (g : Int) < ((L.g.length : Nat) : Int) := by omega
    rw [hg, hgt] at hcom
    simp only [rowy, hg] at ra
    have eT : stl (⟨s.lo, s.us, fun j => s.ca j || decide (j = i), upd s.ti i 0, s.po⟩ : Sta) = stl t1 := by rw [ht1]
    simp (disch := first | assumption | omega | (simp only [LN] <;> omega) | (simp (disch := first | assumption | omega | (simp only [LN] <;> omega)) only [row_alloc, row_set]; assumption)) only [W_block, P3, ↓reduceIte, reduceAdd, reduceEqDiff, reduceCtorEq, initFr, reduceLT, clsA, reduceLeDiff, reduceMul, reduceSub, reduceIte, gs0, gc0, stl_2, set_2, s1, s_or, one_s64, o_s64, stl_len, e0, e64, a_iaddrp, z0, hll, Int.toNat_natCast, Nat.mul_one]
    rw [eT, ← hK1]
    simp (disch := first | assumption | omega | (simp only [LN] <;> omega) | (simp (disch := first | assumption | omega | (simp only [LN] <;> omega)) only [row_alloc, row_set]; assumption)) only [W_block, P3, ↓reduceIte, reduceAdd, reduceEqDiff, reduceCtorEq, initFr, reduceLT, clsA, reduceLeDiff, reduceMul, reduceSub, reduceIte, gi0, gl0, gc0, gi1, gl1, gc1, ir, ig, lenr, leng, na, ra, ng, rg, e0, e1, g0, g1, a_load1v, a_loadnvf]
    refine callK (tCl _ _) ?_
    rintro _ X ⟨rfl, hX⟩
    rw [hX]
    have hw2 : ∀ o, (K1.set (H.n + 1) o).get (H.n + 4) = some (.cells true false 68 (stl Sta0) 32) := fun o => by rw [AHeap.get_set_other K1 (by omega) hs1]; exact gw1
    cases hb : hasB x.oc (L.g.getD g ([], 0)).2 with
    | true =>
      rw [hb] at hcom
      simp (disch := first | assumption | omega | (simp only [LN] <;> omega) | (simp (disch := first | assumption | omega | (simp only [LN] <;> omega)) only [row_alloc, row_set]; assumption)) only [W_block, P3, ↓reduceIte, reduceAdd, reduceEqDiff, reduceCtorEq, initFr, reduceLT, clsA, reduceLeDiff, reduceMul, reduceSub, reduceIte, gs1, gc1, gw1, e0, e64, a_iaddrp, z20, stl_len, hll, rng68, stn68s, Int.toNat_natCast, Nat.mul_one]
      refine fin _ ((k1.set (by omega) hs1 _).set (by omega) (by rw [set_n]; exact hw1) _) (AHeap.get_set_same (hw2 _) _) rfl ?_
      rw [hcom, ht1]; simp [upd_upd]
    | false =>
      rw [hb] at hcom
      simp (disch := first | assumption | omega | (simp only [LN] <;> omega) | (simp (disch := first | assumption | omega | (simp only [LN] <;> omega)) only [row_alloc, row_set]; assumption)) only [W_block, P3, ↓reduceIte, reduceAdd, reduceEqDiff, reduceCtorEq, initFr, reduceLT, clsA, reduceLeDiff, reduceMul, reduceSub, reduceIte, gs1, gw1, rng68, stn68s]
      refine fin _ (k1.set (by omega) hw1 _) (AHeap.get_set_same gw1 _) rfl ?_
      rw [hcom, ht1]; simp
  · have hlt : i < L.p.length := by rw [if_pos rfl] at nb0; omega
    have iN : i < 32 := by omega
    have e0 : (0 : Int) ≤ (i : Int) := by omega
    have e1 : (i : Int) < ((L.p.length : Nat) : Int) := by omega
    have s1 := p_shl1 iN
    obtain ⟨np, rp⟩ := (h.p.keeps k0).at_ hlt
    have qp := row_lt rp
    have tNd := t73 (h.keeps k0) he s (i : Int)
    rw [hul] at tNd
    simp (disch := first | assumption | omega | (simp only [LN] <;> omega) | (simp (disch := first | assumption | omega | (simp only [LN] <;> omega)) only [row_alloc, row_set]; assumption)) only [W_block, P3, ↓reduceIte, reduceAdd, reduceEqDiff, reduceCtorEq, initFr, reduceLT, clsA, reduceLeDiff, reduceMul, reduceSub, reduceIte, gs0, gc0, gi0, gl0, ip, lenp, np, rp, e0, e1, a_load1v]
    refine callK (tCl _ _) ?_
    rintro _ X ⟨rfl, hX⟩
    rw [hX]
    cases hb : hasB x.oc (L.p.getD i ([], 0)).2 with
    | true =>
      rw [hb] at hcom
      simp (disch := first | assumption | omega | (simp only [LN] <;> omega) | (simp (disch := first | assumption | omega | (simp only [LN] <;> omega)) only [row_alloc, row_set]; assumption)) only [W_block, P3, ↓reduceIte, reduceAdd, reduceEqDiff, reduceCtorEq, initFr, reduceLT, clsA, reduceLeDiff, reduceMul, reduceSub, reduceIte, gs0, gw0, rng68, stn68s]
      exact fin1 rfl (by rw [hcom]; simp)
    | false =>
    rw [hb] at hcom
    simp (disch := first | assumption | omega | (simp only [LN] <;> omega) | (simp (disch := first | assumption | omega | (simp only [LN] <;> omega)) only [row_alloc, row_set]; assumption)) only [W_block, P3, ↓reduceIte, reduceAdd, reduceEqDiff, reduceCtorEq, initFr, reduceLT, clsA, reduceLeDiff, reduceMul, reduceSub, reduceIte, gs0, gc0, gl0, rng68, l0, l1, l2, l3, qp]
    refine callK tNd ?_
    rintro _ X ⟨rfl, hX⟩
    rw [hX]
    cases hnd : needD L s (i : Int) with
    | true =>
      rw [hnd] at hcom
      simp (disch := first | assumption | omega | (simp only [LN] <;> omega) | (simp (disch := first | assumption | omega | (simp only [LN] <;> omega)) only [row_alloc, row_set]; assumption)) only [W_block, P3, ↓reduceIte, reduceAdd, reduceEqDiff, reduceCtorEq, initFr, reduceLT, clsA, reduceLeDiff, reduceMul, reduceSub, reduceIte, gs0, gw0, rng68, stn68s]
      exact fin1 rfl (by rw [hcom]; simp)
    | false =>
      rw [hnd] at hcom
      simp (disch := first | assumption | omega | (simp only [LN] <;> omega) | (simp (disch := first | assumption | omega | (simp only [LN] <;> omega)) only [row_alloc, row_set]; assumption)) only [W_block, P3, ↓reduceIte, reduceAdd, reduceEqDiff, reduceCtorEq, initFr, reduceLT, clsA, reduceLeDiff, reduceMul, reduceSub, reduceIte, gs0, gc0, gw0, stl_67, set_67, s1, p_xor, one_s32, o_s32, stl_len, rng68, stn68s]
      exact fin2 _ _ rfl (by rw [hcom]; simp)
end Go.AM.Fd
