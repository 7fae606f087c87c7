/- Part of the proof. -/
import Derived.Test.YtfneppahknoaoaaDoorGNotes03
set_option linter.unusedSimpArgs false
set_option linter.unusedVariables false
set_option linter.unusedSimpArgs false
set_option linter.unusedVariables false
namespace Go.AM.Fd
open Nat (reduceAdd reduceEqDiff reduceLT reduceLeDiff reduceMul reduceSub)
open Go.Proofs Go.AM.F
def wPoint : List UInt8 := [112, 111, 105, 110, 116]
def partP (L : Ly) (ws : List (List UInt8)) : Int × Ly :=
  if ws.length ≠ 3 ∨ rightB (ws.getD 1 []) = false then (40, L)
  else if (nameOf L (ws.getD 1 [])).isSome then (41, L)
  else match kN 62 L (ws.getD 2 []) with
    | none => (42, L)
    | some i =>
      if ws.getD 0 [] = wPoint then (if L.p.length = 32 then (3, L) else (0, { L with p := L.p ++ [(ws.getD 1 [], i)] }))
      else if L.g.length = 32 then (3, L) else (0, { L with g := L.g ++ [(ws.getD 1 [], i)] })
set_option maxHeartbeats 4000000 in
theorem t45 {B K : AHeap} {b mb : Nat} {u : V4} {xs : List RV} {L : Ly} {M : MB} {ex : List Th} {v : Value} {ws : List (List UInt8)} (h : BkR B K b mb u xs L M ex) (hv : TL K v ws) (ha : Aw v (bkT b mb u xs L M ex)) (hl : ws.length ≤ 1000000000) (hw : ∀ w ∈ ws, w.length ≤ 1000000000) (hpl : L.p.length ≤ 32) (hgl : L.g.length ≤ 32) :
    ∃ w K', ARun Go.Proofs.Tryd.prog 4 45 [ptr b 0, v] K w K' ∧ Keeps B K' ∧ w = .int .i64 (partP L ws).1 ∧ ((partP L ws).1 = 0 → ∃ u' M', BkR B K' b mb u' xs (partP L ws).2 M' ex) := by
  refine walk2 f45_ok f45_n ?_
  intro Q hq1 hq2
  have ia := Sl.is hv
  have la := hv.len
  have gb := h.gb
  simp only [bkO] at gb
  by_cases h2 : ws.length = 3
  rotate_left
  · have e2 : (((ws.length : Nat) : Int) != 3) = true := by simp; omega
    have ep : partP L ws = (40, L) := by simp [partP, h2]
    simp (disch := first | assumption | omega | (simp only [LN] <;> omega) | (simp (disch := first | assumption | omega | (simp only [LN] <;> omega)) only [row_alloc, row_set]; assumption)) only [f45, W_block, P3, ↓reduceIte, reduceAdd, reduceEqDiff, reduceCtorEq, initFr, reduceLT, clsA, reduceLeDiff, reduceMul, reduceSub, reduceIte, la, e2]
    refine hq2 _ _ ⟨_, rfl, h.sep.k, by rw [ep]; rfl, by rw [ep]; intro e; cases e⟩
  have e2 : (((ws.length : Nat) : Int) != 3) = false := by simp; omega
  obtain ⟨na, ra⟩ := hv.at_ (i := 1) (by omega)
  obtain ⟨_, rb⟩ := hv.at_ (i := 2) (by omega)
  obtain ⟨_, rc⟩ := hv.at_ (i := 0) (by omega)
  have hlen := hw _ (getD_mem (d := []) (show 1 < ws.length by omega))
  have h0 : (0 : Int) ≤ 0 := by omega
  have h1 : (0 : Int) ≤ 1 := by omega
  have h12 : (0 : Int) ≤ 2 := by omega
  have h3 : (1 : Int) < ((lenS v : Nat) : Int) := by omega
  have h32 : (2 : Int) < ((lenS v : Nat) : Int) := by omega
  have h30 : (0 : Int) < ((lenS v : Nat) : Int) := by omega
  unfold tRow at ra rb rc
  have t1 : Int.toNat 1 = 1 := rfl
  have t2 : Int.toNat 2 = 2 := rfl
  have ed : partP L ws = if rightB (ws.getD 1 []) = false then ((40 : Int), L) else if (nameOf L (ws.getD 1 [])).isSome then (41, L) else match kN 62 L (ws.getD 2 []) with
    | none => (42, L)
    | some i => if ws.getD 0 [] = wPoint then (if L.p.length = 32 then (3, L) else (0, { L with p := L.p ++ [(ws.getD 1 [], i)] })) else if L.g.length = 32 then (3, L) else (0, { L with g := L.g ++ [(ws.getD 1 [], i)] }) := by
    unfold partP
    cases rightB (ws.getD 1 []) with
    | false => rw [if_pos (.inr rfl), if_pos rfl]
    | true =>
      have e : ¬ (ws.length ≠ 3 ∨ False) := by intro e; rcases e with e | e; exact e h2; exact e
      simp only [Bool.true_eq_false, if_false, if_neg e]
  simp (disch := first | assumption | omega | (simp only [LN] <;> omega) | (simp (disch := first | assumption | omega | (simp only [LN] <;> omega)) only [row_alloc, row_set]; assumption)) only [f45, W_block, P3, ↓reduceIte, reduceAdd, reduceEqDiff, reduceCtorEq, initFr, reduceLT, clsA, reduceLeDiff, reduceMul, reduceSub, reduceIte, la, e2, ra, na, a_load1v, t1]
  refine callK (t26 _ _ (Nat.le_trans hlen (by decide))) ?_
  rintro _ X ⟨rfl, hX⟩
  rw [hX]
  cases hr : rightB (ws.getD 1 []) with
  | false =>
    have ep : partP L ws = (40, L) := by rw [ed, hr]; rfl
    simp (disch := first | assumption | omega | (simp only [LN] <;> omega) | (simp (disch := first | assumption | omega | (simp only [LN] <;> omega)) only [row_alloc, row_set]; assumption)) only [W_block, P3, ↓reduceIte, reduceAdd, reduceEqDiff, reduceCtorEq, initFr, reduceLT, clsA, reduceLeDiff, reduceMul, reduceSub, reduceIte]
    refine hq2 _ _ ⟨_, rfl, h.sep.k, by rw [ep]; rfl, by rw [ep]; intro e; cases e⟩
  | true =>
  simp only [hr, Bool.true_eq_false, if_false] at ed
  have gm := a_mgetT h.gm (ws.getD 1 [])
  have gn := a_mgetN h.gm (ws.getD 2 [])
  have ga := a_assertN (K := K) 62 (ws.getD 2 []) M
  rw [h.n] at gm
  rw [h.kN] at ga
  cases hn : nameOf L (ws.getD 1 []) with
  | some y =>
    have ep : partP L ws = (41, L) := by rw [ed, hn]; rfl
    rw [hn] at gm
    simp only [Option.isSome_some] at gm
    simp (disch := first | assumption | omega | (simp only [LN] <;> omega) | (simp (disch := first | assumption | omega | (simp only [LN] <;> omega)) only [row_alloc, row_set]; assumption)) only [W_block, P3, ↓reduceIte, reduceAdd, reduceEqDiff, reduceCtorEq, initFr, reduceLT, clsA, reduceLeDiff, reduceMul, reduceSub, reduceIte, la, ra, na, a_load1v, t1, gb, sd_mget, gm]
    refine hq2 _ _ ⟨_, rfl, h.sep.k, by rw [ep]; rfl, by rw [ep]; intro e; cases e⟩
  | none =>
  rw [hn] at gm
  simp only [hn, Option.isSome_none, Bool.false_eq_true, if_false] at ed gm
  cases hk : kN 62 L (ws.getD 2 []) with
  | none =>
    have ep : partP L ws = (42, L) := by rw [ed, hk]
    rw [hk] at ga
    simp only [Option.getD_none, Option.isSome_none] at ga
    simp (disch := first | assumption | omega | (simp only [LN] <;> omega) | (simp (disch := first | assumption | omega | (simp only [LN] <;> omega)) only [row_alloc, row_set]; assumption)) only [W_block, P3, ↓reduceIte, reduceAdd, reduceEqDiff, reduceCtorEq, initFr, reduceLT, clsA, reduceLeDiff, reduceMul, reduceSub, reduceIte, la, ra, rb, na, a_load1v, t1, t2, gb, sd_mget, gm, gn, ga]
    refine hq2 _ _ ⟨_, rfl, h.sep.k, by rw [ep]; rfl, by rw [ep]; intro e; cases e⟩
  | some i =>
  simp only [hk] at ed
  rw [hk] at ga
  simp only [Option.getD_some, Option.isSome_some] at ga
  have t0 : Int.toNat 0 = 0 := rfl
  have hq : binA .eql (.string ⟨(ws.getD 0 []).toArray⟩) (.string ⟨⟨[112, 111, 105, 110, 116]⟩⟩) = some (.bool (decide (ws.getD 0 [] = wPoint))) := b_eqS _ wPoint
  have lp : lenS u.p = L.p.length := h.ly.p.len
  have lg : lenS u.g = L.g.length := h.ly.g.len
  have ip := Sl.is h.ly.p
  have ig := Sl.is h.ly.g
  by_cases hq0 : ws.getD 0 [] = wPoint
  · simp only [hq0, decide_true, if_true] at hq ed
    rw [hq0] at rc
    by_cases h64 : L.p.length = 32
    · have e3 : (((L.p.length : Nat) : Int) == 32) = true := by simp; omega
      have ep : partP L ws = (3, L) := by rw [ed, if_pos h64]
      simp (disch := first | assumption | omega | (simp only [LN] <;> omega) | (simp (disch := first | assumption | omega | (simp only [LN] <;> omega)) only [row_alloc, row_set]; assumption)) only [W_block, P3, ↓reduceIte, reduceAdd, reduceEqDiff, reduceCtorEq, initFr, reduceLT, clsA, reduceLeDiff, reduceMul, reduceSub, reduceIte, la, ra, rb, rc, na, a_load1v, t1, t2, t0, gb, sd_mget, gm, gn, ga, hq, lp, e3]
      refine hq2 _ _ ⟨_, rfl, h.sep.k, by rw [ep]; rfl, by rw [ep]; intro e; cases e⟩
    have e3 : (((L.p.length : Nat) : Int) == 32) = false := by simp; omega
    have ep : partP L ws = (0, { L with p := L.p ++ [(ws.getD 1 [], i)] }) := by rw [ed, if_neg h64]
    simp (disch := first | assumption | omega | (simp only [LN] <;> omega) | (simp (disch := first | assumption | omega | (simp only [LN] <;> omega)) only [row_alloc, row_set]; assumption)) only [W_block, P3, ↓reduceIte, reduceAdd, reduceEqDiff, reduceCtorEq, initFr, reduceLT, clsA, reduceLeDiff, reduceMul, reduceSub, reduceIte, la, ra, rb, rc, na, a_load1v, t1, t2, t0, gb, sd_mget, gm, gn, ga, hq, lp, e3]
    refine callK (h.fresh (ws.getD 1 []) (63, ((L.p.length : Nat) : Int))) ?_
    rintro _ K1 ⟨rfl, c1, hs1⟩
    have sep1 := hs1 hn
    have gb1 : K1.get b = some (bkO u mb) := sep1.at_ 0 rfl
    simp only [bkO] at gb1
    have hv1 : TL K1 v ws := Sl.chgT hv c1 (fun y hy hm => ha y hy (thM mb M) (by simp [bkT]) (by simpa [thM] using hm))
    obtain ⟨na1, ra1⟩ := hv1.at_ (i := 1) (by omega)
    unfold tRow at ra1
    have hf2 : fillA [.string ByteArray.empty, .int .i64 0] [(0, 1, .string ⟨(ws.getD 1 []).toArray⟩), (1, 1, .int .i64 i)] = some [.string ⟨(ws.getD 1 []).toArray⟩, .int .i64 i] := rfl
    have hf3 : fillA [.string ByteArray.empty, .int .i64 0] [(0, 2, .agg #[.string ⟨(ws.getD 1 []).toArray⟩, .int .i64 i])] = some [.string ⟨(ws.getD 1 []).toArray⟩, .int .i64 i] := rfl
    simp (disch := first | assumption | omega | (simp only [LN] <;> omega) | (simp (disch := first | assumption | omega | (simp only [LN] <;> omega)) only [row_alloc, row_set]; assumption)) only [W_block, P3, ↓reduceIte, reduceAdd, reduceEqDiff, reduceCtorEq, initFr, reduceLT, clsA, reduceLeDiff, reduceMul, reduceSub, reduceIte, gb1, ra1, na1, a_load1v, t1, hf2, hf3]
    have sep2 := sep1.keeps ((Keeps.refl K1).alloc (.cells true false 2 [.string ⟨(ws.getD 1 []).toArray⟩, .int .i64 i] 58))
    have as2 : AP _ 58 2 u.p L.p.length (L.p.map pRow).flatten := sep2.at_ 3 rfl
    refine appGD as2 ⟨_, _, rfl⟩ (elems_new rfl rfl) rfl ⟨by omega, by omega⟩ ?_
    intro v' K3 a3 c3 hb3
    have ov : v'.oneCell' = true := by obtain ⟨a, rfl⟩ := a3.shape; rfl
    have o1 : one1 v' = True := by simp [one1, ov]
    have sep3 := sep2.u3 (t' := thA 58 2 v' (L.p.length + 1) ((L.p.map pRow).flatten ++ [Value.string ⟨(ws.getD 1 []).toArray⟩, Value.int .i64 i])) c3 a3 (fun y hy => by
      rcases hb3 with e | e
      · left; have := mem_blkL.1 hy; rw [e] at this; exact mem_blkL.2 this
      · right; have := mem_blkL.1 hy; rw [e] at this; cases this; exact Nat.le_refl _)
    have gb3 : K3.get b = some (bkO u mb) := sep3.at_ 0 rfl
    simp only [bkO] at gb3
    simp (disch := first | assumption | omega | (simp only [LN] <;> omega) | (simp (disch := first | assumption | omega | (simp only [LN] <;> omega)) only [row_alloc, row_set]; assumption)) only [W_block, P3, ↓reduceIte, reduceAdd, reduceEqDiff, reduceCtorEq, initFr, reduceLT, clsA, reduceLeDiff, reduceMul, reduceSub, reduceIte, gb3, o1, ov]
    have sep4 := sep3.u0 (t' := thB b (bkO ⟨u.s, v', u.g, u.r⟩ mb)) (Chg.set K3 (AHeap.get_lt gb3) (bkO ⟨u.s, v', u.g, u.r⟩ mb)) (AHeap.get_set_same gb3 _) (fun y hy => .inl hy)
    refine hq2 _ _ ⟨_, rfl, sep4.k, by rw [ep]; rfl, fun _ => ⟨⟨u.s, v', u.g, u.r⟩, M ++ [(ws.getD 1 [], (63, ((L.p.length : Nat) : Int)))], ?_⟩⟩
    rw [ep]
    have ef : (L.p.map pRow).flatten ++ [Value.string ⟨(ws.getD 1 []).toArray⟩, Value.int .i64 i] = ((L.p ++ [(ws.getD 1 [], i)]).map pRow).flatten := by simp [pRow]
    rw [ef] at sep4
    refine ⟨?_, h.e, fun m => ?_⟩
    · have : L.p.length + 1 = (L.p ++ [(ws.getD 1 [], i)]).length := by simp
      rw [this] at sep4
      exact sep4
    · rw [bfind_app, h.n]; exact nameOf_p i hn m
  · have hd : decide (ws.getD 0 [] = wPoint) = false := by simpa using hq0
    rw [hd] at hq
    simp only [if_neg hq0] at ed
    by_cases h64 : L.g.length = 32
    · have e3 : (((L.g.length : Nat) : Int) == 32) = true := by simp; omega
      have ep : partP L ws = (3, L) := by rw [ed, if_pos h64]
      simp (disch := first | assumption | omega | (simp only [LN] <;> omega) | (simp (disch := first | assumption | omega | (simp only [LN] <;> omega)) only [row_alloc, row_set]; assumption)) only [W_block, P3, ↓reduceIte, reduceAdd, reduceEqDiff, reduceCtorEq, initFr, reduceLT, clsA, reduceLeDiff, reduceMul, reduceSub, reduceIte, la, ra, rb, rc, na, a_load1v, t1, t2, t0, gb, sd_mget, gm, gn, ga, hq, lg, e3]
      refine hq2 _ _ ⟨_, rfl, h.sep.k, by rw [ep]; rfl, by rw [ep]; intro e; cases e⟩
    have e3 : (((L.g.length : Nat) : Int) == 32) = false := by simp; omega
    have ep : partP L ws = (0, { L with g := L.g ++ [(ws.getD 1 [], i)] }) := by rw [ed, if_neg h64]
    simp (disch := first | assumption | omega | (simp only [LN] <;> omega) | (simp (disch := first | assumption | omega | (simp only [LN] <;> omega)) only [row_alloc, row_set]; assumption)) only [W_block, P3, ↓reduceIte, reduceAdd, reduceEqDiff, reduceCtorEq, initFr, reduceLT, clsA, reduceLeDiff, reduceMul, reduceSub, reduceIte, la, ra, rb, rc, na, a_load1v, t1, t2, t0, gb, sd_mget, gm, gn, ga, hq, lg, e3]
    refine callK (h.fresh (ws.getD 1 []) (65, ((L.g.length : Nat) : Int))) ?_
    rintro _ K1 ⟨rfl, c1, hs1⟩
    have sep1 := hs1 hn
    have gb1 : K1.get b = some (bkO u mb) := sep1.at_ 0 rfl
    simp only [bkO] at gb1
    have hv1 : TL K1 v ws := Sl.chgT hv c1 (fun y hy hm => ha y hy (thM mb M) (by simp [bkT]) (by simpa [thM] using hm))
    obtain ⟨na1, ra1⟩ := hv1.at_ (i := 1) (by omega)
    unfold tRow at ra1
    have hf2 : fillA [.string ByteArray.empty, .int .i64 0] [(0, 1, .string ⟨(ws.getD 1 []).toArray⟩), (1, 1, .int .i64 i)] = some [.string ⟨(ws.getD 1 []).toArray⟩, .int .i64 i] := rfl
    have hf3 : fillA [.string ByteArray.empty, .int .i64 0] [(0, 2, .agg #[.string ⟨(ws.getD 1 []).toArray⟩, .int .i64 i])] = some [.string ⟨(ws.getD 1 []).toArray⟩, .int .i64 i] := rfl
    simp (disch := first | assumption | omega | (simp only [LN] <;> omega) | (simp (disch := first | assumption | omega | (simp only [LN] <;> omega)) only [row_alloc, row_set]; assumption)) only [W_block, P3, ↓reduceIte, reduceAdd, reduceEqDiff, reduceCtorEq, initFr, reduceLT, clsA, reduceLeDiff, reduceMul, reduceSub, reduceIte, gb1, ra1, na1, a_load1v, t1, hf2, hf3]
    have sep2 := sep1.keeps ((Keeps.refl K1).alloc (.cells true false 2 [.string ⟨(ws.getD 1 []).toArray⟩, .int .i64 i] 59))
    have as2 : AP _ 59 2 u.g L.g.length (L.g.map pRow).flatten := sep2.at_ 4 rfl
    refine appGD as2 ⟨_, _, rfl⟩ (elems_new rfl rfl) rfl ⟨by omega, by omega⟩ ?_
    intro v' K3 a3 c3 hb3
    have ov : v'.oneCell' = true := by obtain ⟨a, rfl⟩ := a3.shape; rfl
    have o1 : one1 v' = True := by simp [one1, ov]
    have sep3 := sep2.u4 (t' := thA 59 2 v' (L.g.length + 1) ((L.g.map pRow).flatten ++ [Value.string ⟨(ws.getD 1 []).toArray⟩, Value.int .i64 i])) c3 a3 (fun y hy => by
      rcases hb3 with e | e
      · left; have := mem_blkL.1 hy; rw [e] at this; exact mem_blkL.2 this
      · right; have := mem_blkL.1 hy; rw [e] at this; cases this; exact Nat.le_refl _)
    have gb3 : K3.get b = some (bkO u mb) := sep3.at_ 0 rfl
    simp only [bkO] at gb3
    simp (disch := first | assumption | omega | (simp only [LN] <;> omega) | (simp (disch := first | assumption | omega | (simp only [LN] <;> omega)) only [row_alloc, row_set]; assumption)) only [W_block, P3, ↓reduceIte, reduceAdd, reduceEqDiff, reduceCtorEq, initFr, reduceLT, clsA, reduceLeDiff, reduceMul, reduceSub, reduceIte, gb3, o1, ov]
    have sep4 := sep3.u0 (t' := thB b (bkO ⟨u.s, u.p, v', u.r⟩ mb)) (Chg.set K3 (AHeap.get_lt gb3) (bkO ⟨u.s, u.p, v', u.r⟩ mb)) (AHeap.get_set_same gb3 _) (fun y hy => .inl hy)
    refine hq2 _ _ ⟨_, rfl, sep4.k, by rw [ep]; rfl, fun _ => ⟨⟨u.s, u.p, v', u.r⟩, M ++ [(ws.getD 1 [], (65, ((L.g.length : Nat) : Int)))], ?_⟩⟩
    rw [ep]
    have ef : (L.g.map pRow).flatten ++ [Value.string ⟨(ws.getD 1 []).toArray⟩, Value.int .i64 i] = ((L.g ++ [(ws.getD 1 [], i)]).map pRow).flatten := by simp [pRow]
    rw [ef] at sep4
    refine ⟨?_, h.e, fun m => ?_⟩
    · have : L.g.length + 1 = (L.g ++ [(ws.getD 1 [], i)]).length := by simp
      rw [this] at sep4
      exact sep4
    · rw [bfind_app, h.n]; exact nameOf_g i hn m
end Go.AM.Fd

set_option linter.unusedSimpArgs false
set_option linter.unusedVariables false
namespace Go.AM.Fd
open Nat (reduceAdd reduceEqDiff reduceLT reduceLeDiff reduceMul reduceSub)
open Go.Proofs Go.AM.F
def oAll {α : Type} (f : List UInt8 → Option α) : List (List UInt8) → Option (List α)
  | [] => some []
  | n :: l => match f n with
    | some i => (oAll f l).map (i :: ·)
    | none => none
theorem kAll_o (t : Nat) (M : MB) : ∀ l : List (List UInt8), kAll t M l = oAll (kOf t M) l
  | [] => rfl
  | n :: l => by simp only [kAll, oAll, kAll_o t M l]; cases kOf t M n <;> rfl
theorem nAll_o (t : Nat) (M : MB) : ∀ l : List (List UInt8), nAll t M l = oAll (nOf t M) l
  | [] => rfl
  | n :: l => by simp only [nAll, oAll, nAll_o t M l]; cases nOf t M n <;> rfl
def sIx (L : Ly) (n : List UInt8) : Option Int := (ixT n L.s).map fun i => (i : Int)
theorem kN_s (L : Ly) (n : List UInt8) : kN 62 L n = sIx L n := by
  unfold kN nameOf sIx
  cases ixT n L.s with
  | some i => rfl
  | none =>
    cases ixT n (L.p.map (·.1)) with
    | some i => rfl
    | none =>
      cases ixT n (L.g.map (·.1)) with
      | some i => rfl
      | none => cases ixT n (L.r.map (·.n)) <;> rfl
end Go.AM.Fd

set_option linter.unusedSimpArgs false
set_option linter.unusedVariables false
namespace Go.AM.Fd
open Nat (reduceAdd reduceEqDiff reduceLT reduceLeDiff reduceMul reduceSub)
open Go.Proofs Go.AM.F
def pIx (L : Ly) (n : List UInt8) : Option Int := (ixT n (L.p.map (·.1))).map fun i => (i : Int)
def nIx (L : Ly) (w : List UInt8) : Option (Int × Bool) := (pIx L (w.take (w.length - 1))).map fun i => (i, sufB [45] w)
end Go.AM.Fd

set_option linter.unusedSimpArgs false
set_option linter.unusedVariables false
namespace Go.AM.Fd
open Nat (reduceAdd reduceEqDiff reduceLT reduceLeDiff reduceMul reduceSub)
open Go.Proofs Go.AM.F
def okC (l : List UInt8) (x : Nat × Int) : Bool := !decide (x.2 < 32) && !(x.2 == 65533 && !wholeB l x.1)
def okW (l : List UInt8) : Bool := (runF l 0).all (okC l)
def wordsB (l : List UInt8) : List (List UInt8) := (splitB 32 l).filter fun t => !t.isEmpty
def txs (ts : List (List UInt8)) : List Value := ts.map fun t => .string ⟨t.toArray⟩
theorem txs_len (ts : List (List UInt8)) : (txs ts).length = ts.length := by simp [txs]
theorem txs_app (a : List (List UInt8)) (t : List UInt8) : txs a ++ [.string ⟨t.toArray⟩] = txs (a ++ [t]) := by simp [txs]
theorem AP.tl {H : AHeap} {v : Value} {ts : List (List UInt8)} (h : AP H 9 1 v ts.length (txs ts)) : TL H v ts := by
  refine AP.sl (rows := ts.map tRow) (e := 9) (n := ts.length) ?_ (by simp [tRow]) (by simp)
  have : (ts.map tRow).flatten = txs ts := by
    clear h
    unfold txs
    induction ts with
    | nil => rfl
    | cons t ts ih => simp only [List.map_cons, List.flatten_cons, ih]; rfl
  rw [this]
  simpa using h
theorem splitB_len (c : UInt8) : ∀ l : List UInt8, (splitB c l).length ≤ l.length + 1
  | [] => by simp [splitB]
  | x :: l => by
    have ih := splitB_len c l
    simp only [splitB]
    split
    · simp; omega
    · split
      · rename_i p r h; rw [h] at ih; simp at ih ⊢; omega
      · simp
theorem wordsB_len (l : List UInt8) : (wordsB l).length ≤ l.length + 1 := Nat.le_trans (List.length_filter_le ..) (splitB_len ..)
def WRes (H : AHeap) (w : Value) (K : AHeap) (l : List UInt8) : Prop :=
  Keeps H K ∧ if okW (aheadB l) then ∃ v, w = .tuple #[v, .int .i64 0] ∧ AP K 9 1 v (wordsB (aheadB l)).length (txs (wordsB (aheadB l))) ∧ Fresh H.n v else w = .tuple #[.slice none 0 0, .int .i64 30]
theorem ahead_len (l : List UInt8) : (aheadB l).length ≤ l.length := by
  unfold aheadB
  split <;> simp; omega
end Go.AM.Fd

set_option linter.unusedSimpArgs false
set_option linter.unusedVariables false
set_option maxRecDepth 4000
namespace Go.AM.Fd
open Nat (reduceAdd reduceEqDiff reduceLT reduceLeDiff reduceMul reduceSub)
open Go.Proofs Go.AM.F
def flW (ts : List (List UInt8)) : List (List UInt8) := ts.filter fun t => !t.isEmpty
theorem flW_app (a : List (List UInt8)) (x : List UInt8) : flW (a ++ [x]) = flW a ++ (if x = [] then [] else [x]) := by
  unfold flW
  rw [List.filter_append]
  cases x <;> simp
structure WJ (K : AHeap) (L : LRec) (pre : List (List UInt8)) (sc : List UInt8) (H : AHeap) (v : Value) : Prop where
  keep : Keeps K H
  row : H.get K.n = some (.cells true false 1 [v] 23)
  txt : H.get (K.n + 1) = some (boxS sc)
  sep : H.get (K.n + 2) = some (boxS [32])
  sav : H.get (K.n + 3) = some (.cells true false 1 [.int .i64 0] 3)
  rec_ : H.get (K.n + 4) = some (.loop true .ready none L)
  ap : AP H 9 1 v (flW pre).length (txs (flW pre))
  fresh : Fresh (K.n + 5) v
theorem WJ.n {K : AHeap} {L : LRec} {pre : List (List UInt8)} {sc : List UInt8} {H : AHeap} {v : Value} (h : WJ K L pre sc H v) : K.n + 5 ≤ H.n := AHeap.get_lt h.rec_
theorem WJ.put {K : AHeap} {L : LRec} {pre : List (List UInt8)} {sc : List UInt8} {H : AHeap} {v : Value} (h : WJ K L pre sc H v) (sc' : List UInt8) : WJ K L pre sc' (H.set (K.n + 1) (boxS sc')) v := by
  have hn := h.n
  have hlt : K.n + 1 < H.n := by omega
  have o : ∀ {b : Nat} {x : AO}, b ≠ K.n + 1 → H.get b = some x → (H.set (K.n + 1) (boxS sc')).get b = some x := fun hb hx => by rw [AHeap.get_set_other H hb hlt]; exact hx
  exact ⟨h.keep.set (by omega) hlt _, o (by omega) h.row, AHeap.get_set_same h.txt _, o (by omega) h.sep, o (by omega) h.sav, o (by omega) h.rec_,
    h.ap.chg (Chg.set H hlt _) (fun x hx => by have := h.fresh x (mem_blkL.1 hx); simp; omega), h.fresh⟩
theorem WJ.round {K : AHeap} {pre : List (List UInt8)} {sc x : List UInt8} {H : AHeap} {v : Value} {x0 x1 x2 x3 x4 x6 x7 x8 x9 x10 x11 x12 x13 : Value}
    (h : WJ K ⟨43, [0, 2, 3, 4, 5, 6, 7, 15, 16, 17, 32, 34, 35, 37], [x0, x1, x2, x3, x4, ptr K.n 0, x6, x7, x8, x9, x10, x11, x12, x13], #[35], rfA Go.Proofs.Tryd.prog 43 0, rfB Go.Proofs.Tryd.prog 43 0⟩ pre sc H v) (hl : pre.length ≤ 10000000) :
    ∃ w H', AYield Go.Proofs.Tryd.prog 4 (K.n + 4) [.string ⟨x.toArray⟩] H w H' ∧ w = .bool true ∧ ∃ v', WJ K ⟨43, [0, 2, 3, 4, 5, 6, 7, 15, 16, 17, 32, 34, 35, 37], [x0, x1, x2, x3, x4, ptr K.n 0, x6, x7, x8, x9, x10, x11, x12, x13], #[35], rfA Go.Proofs.Tryd.prog 43 0, rfB Go.Proofs.Tryd.prog 43 0⟩ (pre ++ [x]) sc H' v' := by
  obtain ⟨L, hL⟩ : ∃ L : LRec, (⟨43, [0, 2, 3, 4, 5, 6, 7, 15, 16, 17, 32, 34, 35, 37], [x0, x1, x2, x3, x4, ptr K.n 0, x6, x7, x8, x9, x10, x11, x12, x13], #[35], rfA Go.Proofs.Tryd.prog 43 0, rfB Go.Proofs.Tryd.prog 43 0⟩ : LRec) = L := ⟨_, rfl⟩
  have hn := h.n
  have hlen : (flW pre).length ≤ pre.length := List.length_filter_le ..
  refine yield_of (R := fun w H' => w = .bool true ∧ ∃ v', WJ K _ (pre ++ [x]) sc H' v') h.rec_ f43r0a_ok f43r0b_ok f43r0_n rfl rfl ?_
  show W Go.Proofs.Tryd.prog 4 f43r0a _ [x0, x1, x2, x3, x4, ptr K.n 0, x6, x7, x8, x9, x10, x11, .string ⟨x.toArray⟩, x13] H
  rw [hL] at h ⊢
  simp (disch := first | assumption | omega | (simp only [LN] <;> omega) | (simp (disch := first | assumption | omega | (simp only [LN] <;> omega)) only [row_alloc, row_set]; assumption)) only [f43r0a, W_block, P3, ↓reduceIte, reduceAdd, reduceEqDiff, reduceCtorEq, initFr, reduceLT, clsA, reduceLeDiff, reduceMul, reduceSub, reduceIte]
  refine ⟨none, L, h.rec_, ?_⟩
  have hlt : K.n + 4 < H.n := by omega
  obtain ⟨H1, hH1⟩ : ∃ H1, H.set (K.n + 4) (.loop true .busy none L) = H1 := ⟨_, rfl⟩
  have o : ∀ {b : Nat} {y : AO}, b ≠ K.n + 4 → H.get b = some y → H1.get b = some y := fun hb hy => by rw [← hH1, AHeap.get_set_other H hb hlt]; exact hy
  have n1 : H1.n = H.n := by rw [← hH1]; rfl
  have r1 := o (by omega) h.row
  have g1 : H1.get (K.n + 4) = some (.loop true .busy none L) := by rw [← hH1]; exact AHeap.get_set_same h.rec_ _
  have k1 : Keeps K H1 := by rw [← hH1]; exact h.keep.set (by omega) hlt _
  have a1 : AP H1 9 1 v (flW pre).length (txs (flW pre)) := by rw [← hH1]; exact h.ap.chg (Chg.set H hlt _) (fun x hx => by have := h.fresh x (mem_blkL.1 hx); simp; omega)
  rw [hH1]
  have fin : ∀ (H2 : AHeap) (fr : List Value), H2.get (K.n + 4) = some (.loop true .busy none L) → (∃ v', WJ K L (pre ++ [x]) sc (H2.set (K.n + 4) (.loop true .ready none L)) v') → roundQ (K.n + 4) (fun w H' => w = .bool true ∧ ∃ v', WJ K L (pre ++ [x]) sc H' v') .normal fr H2 := by
    intro H2 fr hg hw
    unfold roundQ
    rw [hg]
    exact ⟨rfl, hw⟩
  have back : ∀ (H2 : AHeap) (v' : Value), Keeps K H2 → H2.get K.n = some (.cells true false 1 [v'] 23) → H2.get (K.n + 1) = some (boxS sc) → H2.get (K.n + 2) = some (boxS [32]) → H2.get (K.n + 3) = some (.cells true false 1 [.int .i64 0] 3) →
      H2.get (K.n + 4) = some (.loop true .busy none L) → AP H2 9 1 v' (flW (pre ++ [x])).length (txs (flW (pre ++ [x]))) → Fresh (K.n + 5) v' → WJ K L (pre ++ [x]) sc (H2.set (K.n + 4) (.loop true .ready none L)) v' := by
    intro H2 v' c1 c2 c3 c4 c5 c6 c7 c8
    have hl2 := AHeap.get_lt c6
    have o2 : ∀ {b : Nat} {y : AO}, b ≠ K.n + 4 → H2.get b = some y → (H2.set (K.n + 4) (.loop true .ready none L)).get b = some y := fun hb hy => by rw [AHeap.get_set_other H2 hb hl2]; exact hy
    exact ⟨c1.set (by omega) hl2 _, o2 (by omega) c2, o2 (by omega) c3, o2 (by omega) c4, o2 (by omega) c5, AHeap.get_set_same c6 _, c7.chg (Chg.set H2 hl2 _) (fun x hx => by have := c8 x (mem_blkL.1 hx); simp; omega), c8⟩
  by_cases hx : x = []
  · have e : decide (x = []) = true := by simpa using hx
    simp (disch := first | assumption | omega | (simp only [LN] <;> omega) | (simp (disch := first | assumption | omega | (simp only [LN] <;> omega)) only [row_alloc, row_set]; assumption)) only [f43r0b, W_block, P3, ↓reduceIte, reduceAdd, reduceEqDiff, reduceCtorEq, initFr, reduceLT, clsA, reduceLeDiff, reduceMul, reduceSub, reduceIte, str_emp, bytes_eq, e]
    refine fin _ _ g1 ⟨v, back _ _ k1 r1 (o (by omega) h.txt) (o (by omega) h.sep) (o (by omega) h.sav) g1 ?_ h.fresh⟩
    rw [flW_app, if_pos hx, List.append_nil]
    exact a1
  · have e : decide (x = []) = false := by simpa using hx
    have hfl : fillA [.string ⟨([] : List UInt8).toArray⟩] [(0, 1, .string ⟨x.toArray⟩)] = some [.string ⟨x.toArray⟩] := rfl
    have k4 := (Keeps.refl H1).alloc (.cells true false 1 [.string ⟨x.toArray⟩] 9)
    simp (disch := first | assumption | omega | (simp only [LN] <;> omega) | (simp (disch := first | assumption | omega | (simp only [LN] <;> omega)) only [row_alloc, row_set]; assumption)) only [f43r0b, W_block, P3, ↓reduceIte, reduceAdd, reduceEqDiff, reduceCtorEq, initFr, reduceLT, clsA, reduceLeDiff, reduceMul, reduceSub, reduceIte, str_emp, bytes_eq, e, r1, hfl]
    refine appG (a1.keeps k4) ⟨_, _, rfl⟩ (elems_new rfl rfl) rfl (by omega) ?_
    intro v' M2 a2 c2 b2
    have q : ∀ {b : Nat} {y : AO}, b < K.n + 5 → H1.get b = some y → M2.get b = some y := fun hb hy => by
      refine c2.at_ (k4.at_ hy) (fun hm => ?_)
      have := h.fresh _ (mem_blkL.1 hm)
      omega
    have r2 := q (by omega) r1
    have ov' : one1 v' = True := by
      obtain ⟨a, ha⟩ := a2.shape
      rw [ha]; exact o_sl ..
    have ov2 : v'.oneCell' = true := by
      obtain ⟨a, ha⟩ := a2.shape
      rw [ha]; rfl
    have f2 : Fresh (K.n + 5) v' := h.fresh.app (by simp [AHeap.alloc]; omega) b2
    have l2 := AHeap.get_lt r2
    simp (disch := first | assumption | omega | (simp only [LN] <;> omega) | (simp (disch := first | assumption | omega | (simp only [LN] <;> omega)) only [row_alloc, row_set]; assumption)) only [W_block, P3, ↓reduceIte, reduceAdd, reduceEqDiff, reduceCtorEq, initFr, reduceLT, clsA, reduceLeDiff, reduceMul, reduceSub, reduceIte, r2, ov2]
    have o3 : ∀ {b : Nat} {y : AO}, b ≠ K.n → M2.get b = some y → (M2.set K.n (.cells true false 1 [v'] 23)).get b = some y := fun hb hy => by rw [AHeap.get_set_other M2 hb l2]; exact hy
    have k2 : Keeps K M2 := (k1.trans k4).chg_trans c2 (fun y hy => by have := h.fresh y (mem_blkL.1 hy); omega)
    refine fin _ _ (o3 (by omega) (q (by omega) g1)) ⟨v', back _ _ (k2.set (Nat.le_refl _) l2 _) (AHeap.get_set_same r2 _) (o3 (by omega) (q (by omega) (o (by omega) h.txt))) (o3 (by omega) (q (by omega) (o (by omega) h.sep))) (o3 (by omega) (q (by omega) (o (by omega) h.sav))) (o3 (by omega) (q (by omega) g1)) ?_ f2⟩
    rw [flW_app, if_neg hx]
    refine AP.chg ?_ (Chg.set M2 l2 _) (fun y hy => by have := f2 y (mem_blkL.1 hy); simp; omega)
    simpa [txs_app] using a2
end Go.AM.Fd

set_option linter.unusedSimpArgs false
set_option linter.unusedVariables false
namespace Go.AM.Fd
open Nat (reduceAdd reduceEqDiff reduceLT reduceLeDiff reduceMul reduceSub)
open Go.Proofs Go.AM.F
theorem get5 (L : AHeap) (a b c d e : AO) : let S := ((((L.alloc a).alloc b).alloc c).alloc d).alloc e
    S.get L.n = some a ∧ S.get (L.n + 1) = some b ∧ S.get (L.n + 2) = some c ∧ S.get (L.n + 3) = some d ∧ S.get (L.n + 4) = some e := by
  have o : ∀ (X : AHeap) (x : AO) (i : Nat), i < X.n → (X.alloc x).get i = X.get i := fun X x i h => AHeap.get_alloc_old X x h
  refine ⟨?_, ?_, ?_, ?_, ?_⟩
  · rw [o _ _ _ (by simp only [alloc_n]; omega), o _ _ _ (by simp only [alloc_n]; omega), o _ _ _ (by simp only [alloc_n]; omega), o _ _ _ (by simp only [alloc_n]; omega)]; exact AHeap.get_alloc_new _ _
  · rw [o _ _ _ (by simp only [alloc_n]; omega), o _ _ _ (by simp only [alloc_n]; omega), o _ _ _ (by simp only [alloc_n]; omega)]; exact AHeap.get_alloc_new _ _
  · rw [o _ _ _ (by simp only [alloc_n]; omega), o _ _ _ (by simp only [alloc_n]; omega)]; exact AHeap.get_alloc_new _ _
  · rw [o _ _ _ (by simp only [alloc_n]; omega)]; exact AHeap.get_alloc_new _ _
  · exact AHeap.get_alloc_new _ _
theorem cut_ahead (l : List UInt8) : ∃ y z, cutB 35 l = .tuple #[.string ⟨(aheadB l).toArray⟩, y, z] := by
  unfold cutB aheadB
  cases ixB 35 l <;> exact ⟨_, _, rfl⟩
theorem t43 (H : AHeap) (l : List UInt8) (hl : l.length ≤ 1000000) : ∃ w K, ARun Go.Proofs.Tryd.prog 4 43 [.string ⟨l.toArray⟩] H w K ∧ WRes H w K l := by
  refine walk2 f43_ok f43_n ?_
  intro Q hq1 hq2
  have hal := ahead_len l
  simp (disch := first | assumption | omega | (simp only [LN] <;> omega) | (simp (disch := first | assumption | omega | (simp only [LN] <;> omega)) only [row_alloc, row_set]; assumption)) only [ f43, P3, ↓reduceIte, reduceAdd, reduceEqDiff, reduceCtorEq, initFr, reduceLT, clsA, reduceLeDiff, reduceMul, reduceSub, reduceIte]
  refine callK (t59 H l 35 (by omega)) ?_
  rintro _ K ⟨hw, rfl⟩
  obtain ⟨y, z, hcut⟩ := cut_ahead l
  rw [hcut] at hw
  subst hw
  obtain ⟨s, hs⟩ : ∃ s, aheadB l = s := ⟨_, rfl⟩
  unfold WRes at hq1 hq2
  rw [hs] at hal hq1 hq2 ⊢
  simp (disch := first | assumption | omega | (simp only [LN] <;> omega) | (simp (disch := first | assumption | omega | (simp only [LN] <;> omega)) only [row_alloc, row_set]; assumption)) only [ P3, ↓reduceIte, reduceAdd, reduceEqDiff, reduceCtorEq, initFr, reduceLT, clsA, reduceLeDiff, reduceMul, reduceSub, reduceIte, a_rngS]
  rw [W_block]
  refine W_loop2 (fun k fr L => ∃ p x3 x4 x8 x9 x10, fr = [.string ⟨s.toArray⟩, .slice none 0 0, .int .i64 0, x3, x4, undef, undef, ptr K.n 0, x8, x9, x10, undef, undef, undef] ∧ L.get K.n = some (.obj true (.stringIter ⟨s.toArray⟩ p)) ∧ Keeps K L ∧
      okW s = (runF s p).all (okC s) ∧ k = s.length - p) s.length
    ⟨0, _, _, _, _, _, rfl, AHeap.get_alloc_new _ _, (Keeps.refl K).alloc _, rfl, rfl⟩ ?_
  rintro Q' k fr L ⟨p, x3, x4, x8, x9, x10, rfl, hg, hk, hr, rfl⟩ hn hx hret
  by_cases hp : p < s.length
  · have hstep := runF_step hp
    have hpos := decB_pos (l := s) (p := p)
    have hset := hk.set (Nat.le_refl _) (AHeap.get_lt hg) (.obj true (.stringIter ⟨s.toArray⟩ (p + (decB s p).2)))
    have hnext : okC s (p, ((decB s p).1 : Int)) = true → okW s = (runF s (p + (decB s p).2)).all (okC s) := fun h => by rw [hr, hstep]; simp [h]
    have hbad : okC s (p, ((decB s p).1 : Int)) = false → okW s = false := fun h => by rw [hr, hstep]; simp [h]
    have hgs := AHeap.get_set_same hg (.obj true (.stringIter ⟨s.toArray⟩ (p + (decB s p).2)))
    obtain ⟨d, hd⟩ : ∃ d, (decB s p).1 = d := ⟨_, rfl⟩
    rw [hd] at hnext hbad
    have hnx := a_nextY hg hp
    rw [hd] at hnx
    by_cases c1 : (d : Int) < 32
    · simp (disch := first | assumption | omega | (simp only [LN] <;> omega) | (simp (disch := first | assumption | omega | (simp only [LN] <;> omega)) only [row_alloc, row_set]; assumption)) only [W_block, P3, ↓reduceIte, reduceAdd, reduceEqDiff, reduceCtorEq, initFr, reduceLT, clsA, reduceLeDiff, reduceMul, reduceSub, reduceIte, hnx]
      refine hret _ _ (hq2 _ _ ⟨_, rfl, hset, ?_⟩)
      rw [hbad (by simp [okC, c1])]
      rfl
    · by_cases c2 : (d : Int) = 65533
      · have e2 : ((d : Int) == 65533) = true := by simpa using c2
        have hp1 : p ≤ s.length := by omega
        simp (disch := first | assumption | omega | (simp only [LN] <;> omega) | (simp (disch := first | assumption | omega | (simp only [LN] <;> omega)) only [row_alloc, row_set]; assumption)) only [W_block, P3, ↓reduceIte, reduceAdd, reduceEqDiff, reduceCtorEq, initFr, reduceLT, clsA, reduceLeDiff, reduceMul, reduceSub, reduceIte, hnx, e2, a_slsT]
        refine callK (t60 _ (s.drop p) [239, 191, 189]) ?_
        rintro _ K2 ⟨rfl, rfl⟩
        cases c3 : wholeB s p with
        | true =>
          have c3' : ([239, 191, 189] : List UInt8).isPrefixOf (s.drop p) = true := c3
          simp (disch := first | assumption | omega | (simp only [LN] <;> omega) | (simp (disch := first | assumption | omega | (simp only [LN] <;> omega)) only [row_alloc, row_set]; assumption)) only [W_block, P3, ↓reduceIte, reduceAdd, reduceEqDiff, reduceCtorEq, initFr, reduceLT, clsA, reduceLeDiff, reduceMul, reduceSub, reduceIte, c3']
          exact hn _ _ _ ⟨p + (decB s p).2, _, _, _, _, _, rfl, hgs, hset, hnext (by simp [okC, c1, c2, c3]), rfl⟩ (by omega)
        | false =>
          have c3' : ([239, 191, 189] : List UInt8).isPrefixOf (s.drop p) = false := c3
          simp (disch := first | assumption | omega | (simp only [LN] <;> omega) | (simp (disch := first | assumption | omega | (simp only [LN] <;> omega)) only [row_alloc, row_set]; assumption)) only [W_block, P3, ↓reduceIte, reduceAdd, reduceEqDiff, reduceCtorEq, initFr, reduceLT, clsA, reduceLeDiff, reduceMul, reduceSub, reduceIte, c3']
          refine hret _ _ (hq2 _ _ ⟨_, rfl, hset, ?_⟩)
          rw [hbad (by simp [okC, c1, c2, c3])]
          rfl
      · have e2 : ((d : Int) == 65533) = false := by simpa using c2
        simp (disch := first | assumption | omega | (simp only [LN] <;> omega) | (simp (disch := first | assumption | omega | (simp only [LN] <;> omega)) only [row_alloc, row_set]; assumption)) only [W_block, P3, ↓reduceIte, reduceAdd, reduceEqDiff, reduceCtorEq, initFr, reduceLT, clsA, reduceLeDiff, reduceMul, reduceSub, reduceIte, hnx, e2]
        exact hn _ _ _ ⟨p + (decB s p).2, _, _, _, _, _, rfl, hgs, hset, hnext (by simp [okC, c1, c2]), rfl⟩ (by omega)
  · have hend := runF_end hp
    rw [hend] at hr
    simp only [List.all_nil] at hr
    rw [hr] at hq1 hq2
    simp only [if_true] at hq1 hq2
    simp (disch := first | assumption | omega | (simp only [LN] <;> omega) | (simp (disch := first | assumption | omega | (simp only [LN] <;> omega)) only [row_alloc, row_set]; assumption)) only [W_block, P3, ↓reduceIte, reduceAdd, reduceEqDiff, reduceCtorEq, initFr, reduceLT, clsA, reduceLeDiff, reduceMul, reduceSub, reduceIte, a_nextN hg hp]
    refine hx 0 _ _ ?_
    simp (disch := first | assumption | omega | (simp only [LN] <;> omega) | (simp (disch := first | assumption | omega | (simp only [LN] <;> omega)) only [row_alloc, row_set]; assumption)) only [ P3, ↓reduceIte, reduceAdd, reduceEqDiff, reduceCtorEq, initFr, reduceLT, clsA, reduceLeDiff, reduceMul, reduceSub, reduceIte]
    refine callK (t61 _ s 32) ?_
    rintro _ K2 ⟨rfl, rfl⟩
    simp (disch := first | assumption | omega | (simp only [LN] <;> omega) | (simp (disch := first | assumption | omega | (simp only [LN] <;> omega)) only [row_alloc, row_set]; assumption)) only [ P3, ↓reduceIte, reduceAdd, reduceEqDiff, reduceCtorEq, initFr, reduceLT, clsA, reduceLeDiff, reduceMul, reduceSub, reduceIte]
    rw [W_block]
    refine W_rangeF rfl (bodied_of (by kernel_rfl)) ?_
    obtain ⟨R, hR⟩ : ∃ R : LRec, (⟨43, [0, 2, 3, 4, 5, 6, 7, 15, 16, 17, 32, 34, 35, 37], [.string ⟨s.toArray⟩, .slice none 0 0, .int .i64 0, x3, x4, ptr L.n 0, undef, ptr K.n 0, .tuple #[.bool false], .bool false, x10,
      .func (.func 90) #[] #[ptr (L.n + 1 + 1) 0, ptr (L.n + 1) 0, ptr (L.n + 1 + 2) 0], undef, undef], #[35], rfA Go.Proofs.Tryd.prog 43 0, rfB Go.Proofs.Tryd.prog 43 0⟩ : LRec) = R := ⟨_, rfl⟩
    rw [hR]
    obtain ⟨S0, hS0⟩ : ∃ S0 : AHeap, (((((L.alloc (.cells true false 1 [.slice none 0 0] 23)).alloc (boxS s)).alloc (boxS [32])).alloc (.cells true false 1 [.int .i64 0] 3)).alloc (.loop true .ready none R)) = S0 := ⟨_, rfl⟩
    have hJ0 : WJ L R [] s S0 (.slice none 0 0) := by
      rw [← hS0]
      obtain ⟨q1, q2, q3, q4, q5⟩ := get5 L (.cells true false 1 [.slice none 0 0] 23) (boxS s) (boxS [32]) (.cells true false 1 [.int .i64 0] 3) (.loop true .ready none R)
      exact ⟨(((((Keeps.refl L).alloc _).alloc _).alloc _).alloc _).alloc _, q1, q2, q3, q4, q5, .inl ⟨rfl, rfl, rfl⟩, fun b hb => by cases hb⟩
    obtain ⟨w, H1, r, hfin⟩ := t90 (fun pre sc H => ∃ v, WJ L R pre sc H v) (fun _ => False) (c := 32) (b := L.n + 4) (p1 := L.n + 2) (p2 := L.n + 1) (p3 := L.n + 3) (s := s) (by omega)
      (fun pre sc H ⟨v, h⟩ => ⟨h.sep, h.txt, h.sav⟩) (fun pre sc sc' H ⟨v, h⟩ => ⟨v, h.put sc'⟩)
      (fun pre x sc H ⟨v, h⟩ ⟨rest, hsp⟩ => by
        have h1 := splitB_len 32 s
        rw [hsp, List.length_append, List.length_cons] at h1
        rw [← hR] at h
        obtain ⟨w, H', a, e, v', h'⟩ := WJ.round (x := x) h (by omega)
        rw [hR] at h'
        exact ⟨w, H', a, .inl ⟨e, v', h'⟩⟩) ⟨_, hJ0⟩
    refine ⟨w, H1, ?_, ?_⟩
    · rw [hS0]; exact r
    · rcases hfin with ⟨sc, v, hJ⟩ | hf
      · refine afterR_ready hJ.rec_ ?_
        have hn1 := hJ.n
        have hl4 : L.n + 4 < H1.n := by omega
        have hrow : (H1.set (L.n + 4) .dead).get L.n = some (.cells true false 1 [v] 23) := by rw [AHeap.get_set_other H1 (by omega) hl4]; exact hJ.row
        simp (disch := first | assumption | omega | (simp only [LN] <;> omega) | (simp (disch := first | assumption | omega | (simp only [LN] <;> omega)) only [row_alloc, row_set]; assumption)) only [W_block, P3, ↓reduceIte, reduceAdd, reduceEqDiff, reduceCtorEq, initFr, reduceLT, clsA, reduceLeDiff, reduceMul, reduceSub, reduceIte, hrow]
        refine hq2 _ _ ⟨_, rfl, (hk.trans hJ.keep).set (by have := hk.n; omega) hl4 _, v, rfl, ?_, ?_⟩
        · exact hJ.ap.chg (Chg.set H1 hl4 _) (fun y hy => by have := hJ.fresh y (mem_blkL.1 hy); simp; omega)
        · intro b hb
          have := hJ.fresh b hb
          have := hk.n
          omega
      · exact hf.elim
end Go.AM.Fd

set_option linter.unusedSimpArgs false
set_option linter.unusedVariables false
namespace Go.AM.Fd
open Nat (reduceAdd reduceEqDiff reduceLT reduceLeDiff reduceMul reduceSub)
open Go.Proofs Go.AM.F
abbrev Row := Value × List (List UInt8)
def thG (w : Row) : Th := thA 9 1 w.1 w.2.length (txs w.2)
def outC (ws : List Row) : List Value := (ws.map (·.1)).reverse
def GS (N : Nat) (H : AHeap) (v : Value) (ws : List Row) (rs : List Row) : Prop :=
  Sep H (thA 23 1 v ws.length (outC ws) :: rs.map thG) ∧ Fresh N v ∧ ∀ w ∈ rs, Fresh N w.1
def grp (acc : List (List (List UInt8))) (t : List UInt8) : List (List (List UInt8)) := if t = [58] then [] :: acc else match acc with
  | g :: r => (g ++ [t]) :: r
  | [] => [[t]]
def groupsB (ts : List (List UInt8)) : List (List (List UInt8)) := (ts.foldl grp [[]]).reverse
theorem grp_take {ts : List (List UInt8)} {i : Nat} (h : i < ts.length) (a : List (List (List UInt8))) : (ts.take (i + 1)).foldl grp a = grp ((ts.take i).foldl grp a) (ts.getD i []) := by
  rw [List.take_add_one, List.getElem?_eq_getElem h, List.foldl_append]
  simp [List.getD, List.getElem?_eq_getElem h]
theorem GS.keeps {N : Nat} {H K : AHeap} {v : Value} {ws rs : List Row} (h : GS N H v ws rs) (k : Keeps H K) : GS N K v ws rs := ⟨h.1.keeps k, h.2⟩
theorem GS.addNil {N : Nat} {H : AHeap} {v : Value} {ws rs : List Row} (h : GS N H v ws rs) : GS N H v ws ((.slice none 0 0, []) :: rs) := by
  obtain ⟨h1, h2, h3⟩ := h
  refine ⟨⟨?_, ?_⟩, h2, ?_⟩
  · intro t ht
    simp only [List.map_cons, List.mem_cons] at ht
    rcases ht with rfl | rfl | ht
    · exact h1.all _ (by simp)
    · exact .inl ⟨rfl, rfl, rfl⟩
    · exact h1.all t (by simp [ht])
  · have hp := List.pairwise_cons.1 h1.ap
    refine List.pairwise_cons.2 ⟨?_, List.pairwise_cons.2 ⟨fun a ha b hb => by simp [thG, thA, blkL, blk] at hb, hp.2⟩⟩
    intro a ha
    simp only [List.map_cons, List.mem_cons] at ha
    rcases ha with rfl | ha
    · intro b hb hb2; simp [thG, thA, blkL, blk] at hb2
    · exact hp.1 a ha
  · intro w hw
    rcases List.mem_cons.1 hw with rfl | hw
    · intro b hb; cases hb
    · exact h3 w hw
theorem GS.outer {N : Nat} {H K : AHeap} {v v' : Value} {ws ws' rs : List Row} (h : GS N H v ws rs) (hN : N ≤ H.n) (c : Chg (blkL v) H K) (ha : AP K 23 1 v' ws'.length (outC ws')) (hb : blk v' = blk v ∨ (∃ b, blk v' = some b ∧ H.n ≤ b)) : GS N K v' ws' rs := by
  have hf : ∀ y ∈ blkL v', y ∈ blkL v ∨ H.n ≤ y := fun y hy => by
    have hy := mem_blkL.1 hy
    rcases hb with e | ⟨b, e, hb⟩
    · exact .inl (mem_blkL.2 (by rw [← e]; exact hy))
    · rw [e] at hy; cases hy; exact .inr hb
  refine ⟨Sep.upd (l := []) h.1 c ha hf, ?_, h.2.2⟩
  intro y hy
  rcases hf y (mem_blkL.2 hy) with e | e
  · exact h.2.1 y (mem_blkL.1 e)
  · omega
theorem GS.row {N : Nat} {H K : AHeap} {v u' : Value} {g' : List (List UInt8)} {w : Row} {ws rs : List Row} (h : GS N H v ws (w :: rs)) (hN : N ≤ H.n) (c : Chg (blkL w.1) H K) (ha : AP K 9 1 u' g'.length (txs g')) (hb : blk u' = blk w.1 ∨ (∃ b, blk u' = some b ∧ H.n ≤ b)) : GS N K v ws ((u', g') :: rs) := by
  have hf : ∀ y ∈ blkL u', y ∈ blkL w.1 ∨ H.n ≤ y := fun y hy => by
    have hy := mem_blkL.1 hy
    rcases hb with e | ⟨b, e, hb⟩
    · exact .inl (mem_blkL.2 (by rw [← e]; exact hy))
    · rw [e] at hy; cases hy; exact .inr hb
  refine ⟨Sep.upd (l := [_]) (t := thG w) (t' := thG (u', g')) (r := rs.map thG) h.1 c ha hf, h.2.1, ?_⟩
  intro x hx
  rcases List.mem_cons.1 hx with rfl | hx
  · intro y hy
    rcases hf y (mem_blkL.2 hy) with e | e
    · exact h.2.2 w (by simp) y (mem_blkL.1 e)
    · omega
  · exact h.2.2 x (by simp [hx])
theorem GS.out {N : Nat} {H : AHeap} {v : Value} {ws rs : List Row} (h : GS N H v ws rs) : AP H 23 1 v ws.length (outC ws) := h.1.all (thA 23 1 v ws.length (outC ws)) (by simp)
theorem GS.top {N : Nat} {H : AHeap} {v : Value} {w : Row} {ws rs : List Row} (h : GS N H v ws (w :: rs)) : AP H 9 1 w.1 w.2.length (txs w.2) := h.1.all (thG w) (by simp)
theorem GS.apart {N : Nat} {H : AHeap} {v : Value} {w : Row} {ws rs : List Row} (h : GS N H v ws (w :: rs)) {b : Nat} (hb : blk v = some b) : blk w.1 ≠ some b := fun e =>
  (List.pairwise_cons.1 h.1.ap).1 (thG w) (by simp) b (mem_blkL.2 hb) (mem_blkL.2 e)
theorem GS.chg {N : Nat} {H K : AHeap} {v : Value} {ws rs : List Row} (h : GS N H v ws rs) (c : Keeps H K) : GS N K v ws rs := h.keeps c
theorem sl_fresh {v v' : Value} {H : AHeap} {n : Nat} {o : AO} (h : blk v' = blk v ∨ blk v' = some (H.alloc o).n) (hn : n = H.n) : blk v' = blk v ∨ (∃ b, blk v' = some b ∧ n ≤ b) := by
  rcases h with h | h
  · exact .inl h
  · exact .inr ⟨_, h, by simp [AHeap.alloc]; omega⟩
theorem outC_len (ws : List Row) : (outC ws).length = ws.length := by simp [outC]
theorem outC_cons (w : Row) (ws : List Row) : outC (w :: ws) = outC ws ++ [w.1] := by simp [outC]
theorem outC_top (w : Row) (ws : List Row) : (outC (w :: ws))[ws.length]? = some w.1 := by
  rw [outC_cons, List.getElem?_append_right (by rw [outC_len]; omega), outC_len]; simp
theorem outC_set (w : Row) (u : Value) (g : List (List UInt8)) (ws : List Row) : (outC (w :: ws)).set ws.length u = outC ((u, g) :: ws) := by
  rw [outC_cons, outC_cons, List.set_append_right _ _ (by rw [outC_len]; omega), outC_len]; simp
theorem t62 {H : AHeap} {vl : Value} {ts : List (List UInt8)} (ht : TL H vl ts) (hl : ts.length ≤ 1000000) : ∃ w K, ARun Go.Proofs.Tryd.prog 4 62 [vl] H w K ∧ Keeps H K ∧ ∃ ws, GS H.n K w ws ws ∧ (ws.map (·.2)).reverse = groupsB ts := by
  refine walk2 f62_ok f62_n ?_
  intro Q hq1 hq2
  have hfl0 : fillA [.slice none 0 0] [(0, 1, .slice none 0 0)] = some [.slice none 0 0] := rfl
  have ll := ht.len
  have il := Sl.is ht
  simp (disch := first | assumption | omega | (simp only [LN] <;> omega) | (simp (disch := first | assumption | omega | (simp only [LN] <;> omega)) only [row_alloc, row_set]; assumption)) only [ f62, P3, ↓reduceIte, reduceAdd, reduceEqDiff, reduceCtorEq, initFr, reduceLT, clsA, reduceLeDiff, reduceMul, reduceSub, reduceIte, hfl0, ll]
  rw [W_block]
  have hG0 : GS H.n (H.alloc (.cells true false 1 [.slice none 0 0] 23)) (slc H.n 0 1 1) [(.slice none 0 0, [])] [(.slice none 0 0, [])] := by
    refine GS.addNil ⟨⟨fun t ht => ?_, by simp⟩, fun b hb => by cases hb; exact Nat.le_refl _, by simp⟩
    simp only [List.map_nil, List.mem_singleton] at ht
    subst ht
    exact .inr ⟨H.n, false, rfl, rfl, AHeap.get_alloc_new _ _⟩
  refine W_loop2 (fun k fr K => ∃ i v ws x3 x4 x8 x9, fr = [vl, .slice none 0 0, v, x3, x4, vl, .int .i64 ((ts.length : Nat) : Int), .int .i64 ((i : Nat) : Int), x8, x9] ∧ Keeps H K ∧ GS H.n K v ws ws ∧ ws.map (·.2) = (ts.take i).foldl grp [[]] ∧
      1 ≤ ws.length ∧ ws.length ≤ i + 1 ∧ (∀ w ∈ ws, w.2.length ≤ i) ∧ i ≤ ts.length ∧ k = ts.length - i) ts.length
    ⟨0, _, [(.slice none 0 0, [])], _, _, _, _, rfl, (Keeps.refl H).alloc _, hG0, rfl, by simp, by simp, by simp, by omega, rfl⟩ ?_
  rintro Q' k fr K ⟨i, v, ws, x3, x4, x8, x9, rfl, hk, hG, hws, h1, h2, h3, hi, rfl⟩ hn hx hret
  have hkn := hk.n
  by_cases hlt : i < ts.length
  · have ht2 := ht.keeps hk
    obtain ⟨na, ra⟩ := ht2.at_ hlt
    unfold tRow at ra
    have c1 : (i : Int) < ((ts.length : Nat) : Int) := by omega
    have c2 : (i : Int) < ((lenS vl : Nat) : Int) := by omega
    have c0 : (0 : Int) ≤ (i : Int) := by omega
    have hw : IntKind.i64.wrap ((i : Int) + 1) = ((i + 1 : Nat) : Int) := by rw [wrap_i64 (by omega) (by omega)]; simp
    have hgr := grp_take hlt [[]]
    rw [← hws] at hgr
    obtain ⟨t, htt⟩ : ∃ t, ts.getD i [] = t := ⟨_, rfl⟩
    rw [htt] at ra hgr
    by_cases hc : t = [58]
    · have e : decide (t = [58]) = true := by simpa using hc
      have k4 := (Keeps.refl K).alloc (.cells true false 1 [.slice none 0 0] 23)
      simp (disch := first | assumption | omega | (simp only [LN] <;> omega) | (simp (disch := first | assumption | omega | (simp only [LN] <;> omega)) only [row_alloc, row_set]; assumption)) only [W_block, P3, ↓reduceIte, reduceAdd, reduceEqDiff, reduceCtorEq, initFr, reduceLT, clsA, reduceLeDiff, reduceMul, reduceSub, reduceIte, ra, na, a_load1v, bytes_eq, e, hfl0]
      refine appG (hG.out.keeps k4) ⟨_, _, rfl⟩ (elems_new rfl rfl) rfl (by omega) ?_
      intro v' K2 a2 ch b2
      simp (disch := first | assumption | omega | (simp only [LN] <;> omega) | (simp (disch := first | assumption | omega | (simp only [LN] <;> omega)) only [row_alloc, row_set]; assumption)) only [W_block, P3, ↓reduceIte, reduceAdd, reduceEqDiff, reduceCtorEq, initFr, reduceLT, clsA, reduceLeDiff, reduceMul, reduceSub, reduceIte, hw]
      have c24 : Chg (blkL v) K K2 := (k4.chg _).trans ch (fun y hy => .inl hy)
      have hG2 := (hG.outer (ws' := (.slice none 0 0, []) :: ws) hkn c24 (by rw [outC_cons]; simpa using a2) (sl_fresh b2 rfl)).addNil
      refine hn _ _ _ ⟨i + 1, v', (.slice none 0 0, []) :: ws, _, _, _, _, rfl, hk.chg_trans c24 hG.2.1.L, hG2, ?_, by simp, by simp; omega, ?_, by omega, rfl⟩ (by omega)
      · rw [hgr]; simp [grp, hc]
      · intro w hw; rcases List.mem_cons.1 hw with rfl | hw
        · simp
        · have := h3 w hw; omega
    · have e : decide (t = [58]) = false := by simpa using hc
      obtain ⟨w, rs, rfl⟩ : ∃ w rs, ws = w :: rs := by
        cases ws with
        | nil => simp at h1
        | cons w rs => exact ⟨w, rs, rfl⟩
      rcases hG.out with ⟨_, hz, _⟩ | ⟨b, room, rfl, hlen, hget⟩
      · simp at hz
      · have hwl := h3 w (by simp)
        have hrl : rs.length ≤ i := by simpa using h2
        have hs1 : IntKind.i64.wrap (((rs.length + 1 : Nat) : Int) - 1) = ((rs.length : Nat) : Int) := by rw [wrap_i64 (by omega) (by omega)]; simp
        have d0 : (0 : Int) ≤ ((rs.length : Nat) : Int) := by omega
        have d1 : ((rs.length : Nat) : Int) < ((rs.length + 1 : Nat) : Int) := by omega
        have hcell : cellO (K.get b) rs.length = some w.1 := by rw [hget, cellO_c]; exact outC_top w rs
        have hfl : fillA [.string ByteArray.empty] [(0, 1, .string ⟨t.toArray⟩)] = some [.string ⟨t.toArray⟩] := rfl
        have k4 := (Keeps.refl K).alloc (.cells true false 1 [.string ⟨t.toArray⟩] 9)
        simp (disch := first | assumption | omega | (simp only [LN] <;> omega) | (simp (disch := first | assumption | omega | (simp only [LN] <;> omega)) only [row_alloc, row_set]; assumption)) only [W_block, P3, ↓reduceIte, reduceAdd, reduceEqDiff, reduceCtorEq, initFr, reduceLT, clsA, reduceLeDiff, reduceMul, reduceSub, reduceIte, ra, na, a_load1v, bytes_eq, e, hs1, hfl, Int.toNat_natCast, Nat.mul_one, Nat.zero_add, hcell]
        refine appG (hG.top.keeps k4) ⟨_, _, rfl⟩ (elems_new rfl rfl) rfl (by omega) ?_
        intro u' K2 a2 ch b2
        have c24 : Chg (blkL w.1) K K2 := (k4.chg _).trans ch (fun y hy => .inl hy)
        have hget2 : K2.get b = some (.cells true room 1 (outC (w :: rs)) 23) := c24.at_ hget (fun hm => hG.apart rfl (mem_blkL.1 hm))
        have hr := hG.row (g' := w.2 ++ [t]) hkn c24 (by simpa [txs_app] using a2) (sl_fresh b2 rfl)
        have ou : u'.oneCell' = true := by
          obtain ⟨a, ha⟩ := a2.shape
          rw [ha]; rfl
        have hlt2 : rs.length < (outC (w :: rs)).length := by rw [outC_len]; simp
        have hb2 := AHeap.get_lt hget2
        simp (disch := first | assumption | omega | (simp only [LN] <;> omega) | (simp (disch := first | assumption | omega | (simp only [LN] <;> omega)) only [row_alloc, row_set]; assumption)) only [W_block, P3, ↓reduceIte, reduceAdd, reduceEqDiff, reduceCtorEq, initFr, reduceLT, clsA, reduceLeDiff, reduceMul, reduceSub, reduceIte, hget2, ou, hw]
        have hk2 : Keeps H K2 := hk.chg_trans c24 (fun y hy => hG.2.2 w (by simp) y (mem_blkL.1 hy))
        have hbn : H.n ≤ b := hG.2.1 b rfl
        have hr2 := hr.outer (ws' := (u', w.2 ++ [t]) :: rs) (v' := slc b 0 (rs.length + 1) (rs.length + 1)) hk2.n (Chg.set K2 hb2 (.cells true room 1 ((outC (w :: rs)).set rs.length u') 23) |>.mono (by intro y hy; simp at hy; subst hy; exact mem_blkL.2 rfl))
          (.inr ⟨b, room, rfl, by rw [outC_len]; simp, by rw [AHeap.get_set_same hget2]; rw [outC_set w u' (w.2 ++ [t]) rs]⟩) (.inl rfl)
        refine hn _ _ _ ⟨i + 1, _, (u', w.2 ++ [t]) :: rs, _, _, _, _, rfl, hk2.set hbn hb2 _, hr2, ?_, by simp, by simp; omega, ?_, by omega, rfl⟩ (by omega)
        · rw [hgr]; simp [grp, hc]
        · intro x hx; rcases List.mem_cons.1 hx with rfl | hx
          · simp; omega
          · have := h3 x (by simp [hx]); omega
  · have c1 : ¬ (i : Int) < ((ts.length : Nat) : Int) := by omega
    simp (disch := first | assumption | omega | (simp only [LN] <;> omega) | (simp (disch := first | assumption | omega | (simp only [LN] <;> omega)) only [row_alloc, row_set]; assumption)) only [W_block, P3, ↓reduceIte, reduceAdd, reduceEqDiff, reduceCtorEq, initFr, reduceLT, clsA, reduceLeDiff, reduceMul, reduceSub, reduceIte]
    refine hx 0 _ _ ?_
    simp (disch := first | assumption | omega | (simp only [LN] <;> omega) | (simp (disch := first | assumption | omega | (simp only [LN] <;> omega)) only [row_alloc, row_set]; assumption)) only [W_block, P3, ↓reduceIte, reduceAdd, reduceEqDiff, reduceCtorEq, initFr, reduceLT, clsA, reduceLeDiff, reduceMul, reduceSub, reduceIte]
    refine hq2 _ _ ⟨_, rfl, hk, ws, hG, ?_⟩
    rw [hws, List.take_of_length_le (by omega)]
    rfl
end Go.AM.Fd

set_option linter.unusedSimpArgs false
set_option linter.unusedVariables false
namespace Go.AM.Fd
open Nat (reduceAdd reduceEqDiff reduceLT reduceLeDiff reduceMul reduceSub)
open Go.Proofs Go.AM.F
theorem AP.fill {H : AHeap} {e esz : Nat} {v : Value} {n : Nat} {c : List Value} (h : AP H e esz v n c) : fillA [.slice none 0 0] [(0, 1, v)] = some [v] ∧ v.oneCell' = true := by
  obtain ⟨a, rfl⟩ := h.shape
  exact ⟨rfl, rfl⟩
end Go.AM.Fd

set_option linter.unusedSimpArgs false
set_option linter.unusedVariables false
namespace Go.AM.Fd
open Go.Proofs Go.AM.F
theorem GS.rd {N : Nat} {K : AHeap} {v : Value} {ws : List Row} (h : GS N K v ws ws) : Sl K 1 v (ws.reverse.map fun x => [x.1]) ∧ ∀ x ∈ ws.reverse, TL K x.1 x.2 := by
  refine ⟨?_, fun x hx => ?_⟩
  · have ho := h.out
    have e : (ws.reverse.map fun x => [x.1]).flatten = outC ws := by
      unfold outC
      rw [← List.map_reverse]
      induction ws.reverse with
      | nil => rfl
      | cons a l ih => simp [ih]
    rw [← e] at ho
    exact ho.sl (by intro r hr; obtain ⟨x, _, rfl⟩ := List.mem_map.1 hr; rfl) (by simp)
  · have hx' : x ∈ ws := List.mem_reverse.1 hx
    have ha : AP K 9 1 x.1 x.2.length (txs x.2) := h.1.all (thG x) (List.mem_cons_of_mem _ (List.mem_map_of_mem hx'))
    have e : txs x.2 = (x.2.map tRow).flatten := by
      unfold txs
      induction x.2 with
      | nil => rfl
      | cons a l ih => simp [ih, tRow]
    rw [e] at ha
    exact ha.sl (by intro r hr; obtain ⟨x, _, rfl⟩ := List.mem_map.1 hr; rfl) (by simp)
theorem grp_mem : ∀ (ts : List (List UInt8)) (acc : List (List (List UInt8))) (k : Nat) (A : List (List UInt8)), (∀ g ∈ acc, g.length ≤ k ∧ ∀ x ∈ g, x ∈ A) → (∀ x ∈ ts, x ∈ A) → ∀ g ∈ ts.foldl grp acc, g.length ≤ k + ts.length ∧ ∀ x ∈ g, x ∈ A
  | [], acc, k, A, h, _, g, hg => ⟨by have := (h g hg).1; simpa using this, (h g hg).2⟩
  | t :: ts, acc, k, A, h, ha, g, hg => by
    have := grp_mem ts (grp acc t) (k + 1) A (fun g hg => by
      unfold grp at hg
      split at hg
      · rcases List.mem_cons.1 hg with rfl | hg
        · simp
        · have := h g hg; exact ⟨by omega, this.2⟩
      · split at hg
        · rcases List.mem_cons.1 hg with rfl | hg
          · have := h _ (List.mem_cons_self ..)
            refine ⟨by simp; omega, fun x hx => ?_⟩
            rcases List.mem_append.1 hx with hx | hx
            · exact this.2 x hx
            · simp at hx; subst hx; exact ha x (by simp)
          · have := h g (by simp [hg]); exact ⟨by omega, this.2⟩
        · simp at hg; subst hg
          exact ⟨by simp, fun x hx => by simp at hx; subst hx; exact ha x (by simp)⟩) (fun x hx => ha x (by simp [hx])) g hg
    exact ⟨by simp; omega, this.2⟩
theorem groups_mem {ts : List (List UInt8)} {g : List (List UInt8)} (h : g ∈ groupsB ts) : g.length ≤ ts.length ∧ ∀ x ∈ g, x ∈ ts := by
  have := grp_mem ts [[]] 0 ts (fun g hg => by simp at hg; subst hg; simp) (fun x hx => hx) g (List.mem_reverse.1 h)
  exact ⟨by omega, this.2⟩
theorem _root_.Go.AM.SepH.merges {H K : AHeap} {t : Th} {us r : List Th} (h : SepH H K (us ++ r)) (hp : t.P K) (hf : ∀ y ∈ t.F, ∃ a ∈ us, y ∈ a.F) : SepH H K (t :: r) := by
  have h1 := List.pairwise_append.1 h.sep.ap
  refine ⟨⟨fun x hx => ?_, List.pairwise_cons.2 ⟨fun x hx y hy hyx => ?_, h1.2.1⟩⟩, h.k, fun x hx y hy => ?_⟩
  · rcases List.mem_cons.1 hx with rfl | hx
    · exact hp
    · exact h.sep.all x (by simp [hx])
  · obtain ⟨a, ha, hya⟩ := hf y hy
    exact h1.2.2 a ha x hx y hya hyx
  · rcases List.mem_cons.1 hx with rfl | hx
    · obtain ⟨a, ha, hya⟩ := hf y hy
      exact h.ge a (by simp [ha]) y hya
    · exact h.ge x (by simp [hx]) y hy
theorem _root_.Go.AM.SepH.join {B H K : AHeap} {ts us : List Th} (h : SepH B H ts) (s : SepH H K us) : SepH B K (us ++ ts) := by
  refine ⟨⟨fun x hx => ?_, List.pairwise_append.2 ⟨s.sep.ap, h.sep.ap, fun x hx y hy b hb hb2 => ?_⟩⟩, h.k.trans s.k, fun x hx y hy => ?_⟩
  · rcases List.mem_append.1 hx with hx | hx
    · exact s.sep.all x hx
    · exact (h.sep.keeps s.k).all x hx
  · have := s.ge x hx b hb
    have := y.lt H (h.sep.all y hy) b hb2
    omega
  · rcases List.mem_append.1 hx with hx | hx
    · have := s.ge x hx y hy; have := h.k.n; omega
    · exact h.ge x hx y hy
theorem tb_blk {v : Value} {e esz n : Nat} {K : AHeap} {c : List Value} (h : AP K e esz v n c) : ∀ y ∈ tb v, y ∈ blkL v := by
  intro y hy
  rcases h with ⟨rfl, _, _⟩ | ⟨b, room, rfl, _, _⟩
  · simp [tb] at hy
  · simpa [tb, slc, blkL, blk] using hy
end Go.AM.Fd

set_option linter.unusedSimpArgs false
set_option linter.unusedVariables false
namespace Go.AM.Fd
open Nat (reduceAdd reduceEqDiff reduceLT reduceLeDiff reduceMul reduceSub)
open Go.Proofs Go.AM.F
def ne2 (L : Ly) (w : List UInt8) : Option (Int × Bool) := (kN 63 L (w.take (w.length - 1))).map fun i => (i, sufB [45] w)
def routeQ (L : Ly) (ws g0 g1 g2 g3 g4 : List (List UInt8)) : Int × Ly :=
  if g0.length ≠ 3 ∨ rightB (ws.getD 1 []) = false ∨ g2.all shpB = false ∨ g4.all shpB = false then (40, L)
  else if (nameOf L (ws.getD 1 [])).isSome then (41, L)
  else match kN 65 L (ws.getD 2 []), oAll (kN 62 L) g1, oAll (ne2 L) g2, oAll (kN 62 L) g3, oAll (ne2 L) g4 with
    | some s, some p, some q, some o, some f => if 16 < p.length ∨ 16 < q.length ∨ 16 < o.length ∨ 16 < f.length ∨ L.r.length = 64 then (3, L) else (0, { L with r := L.r ++ [⟨ws.getD 1 [], s, p, q, o, f⟩] })
    | _, _, _, _, _ => (42, L)
def routeP (L : Ly) (ws : List (List UInt8)) : Int × Ly := match groupsB ws with
  | [g0, g1, g2, g3, g4] => routeQ L ws g0 g1 g2 g3 g4
  | _ => (40, L)
theorem routeQ_t {L : Ly} {ws g0 g1 g2 g3 g4 : List (List UInt8)} (h1 : g0.length = 3) (h2 : rightB (ws.getD 1 []) = true) (h3 : g2.all shpB = true) (h4 : g4.all shpB = true) :
    routeQ L ws g0 g1 g2 g3 g4 = if (nameOf L (ws.getD 1 [])).isSome then ((41 : Int), L)
  else match kN 65 L (ws.getD 2 []), oAll (kN 62 L) g1, oAll (ne2 L) g2, oAll (kN 62 L) g3, oAll (ne2 L) g4 with
    | some s, some p, some q, some o, some f => if 16 < p.length ∨ 16 < q.length ∨ 16 < o.length ∨ 16 < f.length ∨ L.r.length = 64 then (3, L) else (0, { L with r := L.r ++ [⟨ws.getD 1 [], s, p, q, o, f⟩] })
    | _, _, _, _, _ => (42, L) := by
  unfold routeQ
  rw [if_neg]
  rintro (e | e | e | e)
  · exact e h1
  · rw [h2] at e; cases e
  · rw [h3] at e; cases e
  · rw [h4] at e; cases e
theorem oAll_congr {α : Type} {f g : List UInt8 → Option α} : ∀ {l : List (List UInt8)}, (∀ x ∈ l, f x = g x) → oAll f l = oAll g l
  | [], _ => rfl
  | x :: l, h => by simp only [oAll, h x (by simp), oAll_congr (l := l) (fun y hy => h y (by simp [hy]))]
theorem BkR.kA {B K : AHeap} {b mb : Nat} {u : V4} {xs : List RV} {L : Ly} {M : MB} {ex : List Th} (h : BkR B K b mb u xs L M ex) (t : Nat) (l : List (List UInt8)) : kAll t M l = oAll (Fd.kN t L) l := by
  rw [kAll_o]; exact oAll_congr fun x _ => h.kN t x
theorem BkR.nA {B K : AHeap} {b mb : Nat} {u : V4} {xs : List RV} {L : Ly} {M : MB} {ex : List Th} (h : BkR B K b mb u xs L M ex) (l : List (List UInt8)) : nAll 63 M l = oAll (ne2 L) l := by
  rw [nAll_o]; exact oAll_congr fun x _ => by unfold nOf ne2; rw [h.kN]
theorem all_shp {ws : List (List UInt8)} (h : ws.all shpB = true) (hw : ∀ w ∈ ws, w.length ≤ 1000000000) : ∀ w ∈ ws, 1 ≤ w.length ∧ w.length ≤ 1000000000 := fun w hm => by
  have := List.all_eq_true.1 h w hm
  simp only [shpB, Bool.and_eq_true, decide_eq_true_eq] at this
  exact ⟨by omega, hw w hm⟩
theorem _root_.Go.AM.OW.th {e esz : Nat} {H K : AHeap} {v : Value} {rows : List (List Value)} (h : OW e esz H K v rows) : (thA e esz v rows.length rows.flatten).P K := h.ap
theorem _root_.Go.AM.OW.thf {e esz : Nat} {H K : AHeap} {v : Value} {rows : List (List Value)} (h : OW e esz H K v rows) : ∀ y ∈ (thA e esz v rows.length rows.flatten).F, H.n ≤ y := fun y hy => h.f y (mem_blkL.1 hy)
def rO (c : List Value) : AO := .cells true false 6 c 43
def kO (a b c d : Bool) : AO := .cells true false 4 [.bool a, .bool b, .bool c, .bool d] 116
theorem _root_.Go.AM.SepH.box {H K : AHeap} {ts : List Th} (h : SepH H K ts) (o : AO) : SepH H (K.alloc o) (thB K.n o :: ts) :=
  h.add ((Keeps.refl K).alloc o) (AHeap.get_alloc_new K o) (by simp [thB])
theorem perm_bca {α : Type} (a b c : α) (l : List α) : (a :: b :: c :: l).Perm (b :: c :: a :: l) := (List.Perm.swap b a _).trans ((List.Perm.swap c a _).cons b)
theorem _root_.Go.AM.SepH.note {H K : AHeap} {t : Th} {ts : List Th} {ob rb : Nat} {o r : AO} (S : SepH H K (t :: thB ob o :: thB rb r :: ts)) (r' o' : AO) : SepH H ((K.set rb r').set ob o') (thB ob o' :: thB rb r' :: t :: ts) := by
  have g1 : K.get rb = some r := S.at_ 2 rfl
  have S1 := S.u2 (t' := thB rb r') (Chg.set K (AHeap.get_lt g1) r') (AHeap.get_set_same g1 _) (fun y hy => .inl hy)
  have g2 : (K.set rb r').get ob = some o := S1.at_ 1 rfl
  have S2 := S1.u1 (t' := thB ob o') (Chg.set _ (AHeap.get_lt g2) o') (AHeap.get_set_same g2 _) (fun y hy => .inl hy)
  exact S2.perm (perm_bca _ _ _ _)
theorem list5 {α : Type} {l : List α} (h : l.length = 5) : ∃ a b c d e, l = [a, b, c, d, e] := by
  rcases l with _ | ⟨a, _ | ⟨b, _ | ⟨c, _ | ⟨d, _ | ⟨e, _ | ⟨f, l⟩⟩⟩⟩⟩⟩ <;> simp at h
  exact ⟨a, b, c, d, e, rfl⟩
theorem fresh_sep {B K : AHeap} {b mb : Nat} {u : V4} {L : Ly} {M : MB} {l r : List Th} (J : SepH B K (l ++ thB b (bkO u mb) :: thM mb M :: r)) (hb : ∀ n, bfind n M = nameOf L n) (n : List UInt8) (x : Nat × Int) :
    ∃ w K', ARun Go.Proofs.Tryd.prog 4 27 [ptr b 0, .string ⟨n.toArray⟩, mval x] K w K' ∧ w = .bool (!(nameOf L n).isSome) ∧ Chg [mb] K K' ∧ (nameOf L n = none → SepH B K' (l ++ thB b (bkO u mb) :: thM mb (M ++ [(n, x)]) :: r)) := by
  have gb : K.get b = some (bkO u mb) := J.sep.all (thB b (bkO u mb)) (by simp)
  have gm : MP sEnc K mb (mbs M) := J.sep.all (thM mb M) (by simp)
  obtain ⟨w, K', r1, rfl, c, m⟩ := t27 (hc := rfl) gb gm n (x := mval x) rfl
  have e : (mfind n (mbs M)).isNone = !(nameOf L n).isSome := by
    rw [mfind_mbs, hb]; cases nameOf L n <;> rfl
  rw [e] at r1 m
  refine ⟨_, _, r1, rfl, c, fun hn => ?_⟩
  rw [hn] at m
  simp only [Option.isSome_none, Bool.not_false, if_true] at m
  have J2 : SepH B K ((l ++ [thB b (bkO u mb)]) ++ thM mb M :: r) := by simpa using J
  have := J2.upd (t' := thM mb (M ++ [(n, x)])) c (by
    show MP sEnc K' mb (mbs (M ++ [(n, x)]))
    simpa [mbs] using m) (fun y hy => .inl hy)
  simpa using this
theorem _root_.Go.AM.SepH.tail {H K : AHeap} {t : Th} {ts : List Th} (h : SepH H K (t :: ts)) : SepH H K ts := ⟨h.sep.tail, h.k, fun x hx => h.ge x (by simp [hx])⟩
theorem nameOf_r {L : Ly} (x : Ro) (h : nameOf L x.n = none) (m : List UInt8) : (match nameOf L m with
    | some y => some y
    | none => if m = x.n then some (66, ((L.r.length : Nat) : Int)) else none) = nameOf { L with r := L.r ++ [x] } m := by
  have e0 : (L.r ++ [x]).map (·.n) = L.r.map (·.n) ++ [x.n] := by simp
  have el : (L.r.map (·.n)).length = L.r.length := by simp
  unfold nameOf at h ⊢
  simp only [e0, ixT_app, el]
  cases hs : ixT m L.s with
  | some j => rfl
  | none =>
    cases hp : ixT m (L.p.map (·.1)) with
    | some j => rfl
    | none =>
      cases hg : ixT m (L.g.map (·.1)) with
      | some j => rfl
      | none =>
        cases hr : ixT m (L.r.map (·.n)) with
        | some j => rfl
        | none =>
          by_cases e : m = x.n
          · subst e; simp
          · have e' : ¬ x.n = m := fun y => e y.symm
            simp [e, e']
theorem mmI_max (a b : Int) : mmI true a b = max a b := by unfold mmI; simp only [if_true]; split <;> omega
set_option maxHeartbeats 8000000 in
theorem t46 {B K : AHeap} {b mb : Nat} {u : V4} {xs : List RV} {L : Ly} {M : MB} {ex : List Th} {v : Value} {ws : List (List UInt8)} (h : BkR B K b mb u xs L M ex) (hv : TL K v ws) (ha : Aw v (bkT b mb u xs L M ex)) (hl : ws.length ≤ 1000000) (hw : ∀ w ∈ ws, w.length ≤ 1000000000) (hrl : L.r.length ≤ 64) :
    ∃ w K', ARun Go.Proofs.Tryd.prog 4 46 [ptr b 0, v] K w K' ∧ Keeps B K' ∧ w = .int .i64 (routeP L ws).1 ∧ ((routeP L ws).1 = 0 → ∃ u' xs' M', BkR B K' b mb u' xs' (routeP L ws).2 M' ex) := by
  refine walk2 f46_ok f46_n ?_
  intro Q hq1 hq2
  have ia := Sl.is hv
  have la := hv.len
  simp (disch := first | assumption | omega | (simp only [LN] <;> omega) | (simp (disch := first | assumption | omega | (simp only [LN] <;> omega)) only [row_alloc, row_set]; assumption)) only [f46, W_block, P3, ↓reduceIte, reduceAdd, reduceEqDiff, reduceCtorEq, initFr, reduceLT, clsA, reduceLeDiff, reduceMul, reduceSub, reduceIte]
  refine callK (t62 hv hl) ?_
  rintro w K1 ⟨k1, ws', gs, eg⟩
  obtain ⟨sg, tg⟩ := gs.rd
  rw [← List.map_reverse] at eg
  have h1 := h.keeps k1
  have hv1 : TL K1 v ws := Sl.keeps hv k1
  generalize ws'.reverse = R at *
  have lw : lenS w = R.length := by have := Sl.len sg; simpa using this
  have iw := Sl.is sg
  have c0 : (0 : Int) ≤ 0 := by omega
  have c1 : (0 : Int) ≤ 1 := by omega
  have c2 : (0 : Int) ≤ 2 := by omega
  have c3 : (0 : Int) ≤ 3 := by omega
  have c4 : (0 : Int) ≤ 4 := by omega
  have t0 : Int.toNat 0 = 0 := rfl
  have t1 : Int.toNat 1 = 1 := rfl
  have t2 : Int.toNat 2 = 2 := rfl
  have t3 : Int.toNat 3 = 3 := rfl
  have t4 : Int.toNat 4 = 4 := rfl
  by_cases h5 : R.length = 5
  rotate_left
  · have e2 : (((R.length : Nat) : Int) != 5) = true := by simp; omega
    have ep : routeP L ws = (40, L) := by
      unfold routeP
      rw [← eg]
      split
      · rename_i e
        have := congrArg List.length e
        simp at this; omega
      · rfl
    simp (disch := first | assumption | omega | (simp only [LN] <;> omega) | (simp (disch := first | assumption | omega | (simp only [LN] <;> omega)) only [row_alloc, row_set]; assumption)) only [W_block, P3, ↓reduceIte, reduceAdd, reduceEqDiff, reduceCtorEq, initFr, reduceLT, clsA, reduceLeDiff, reduceMul, reduceSub, reduceIte, lw, e2]
    refine hq2 _ _ ⟨_, rfl, h1.sep.k, by rw [ep]; rfl, by rw [ep]; intro e; cases e⟩
  have e2 : (((R.length : Nat) : Int) != 5) = false := by simp; omega
  obtain ⟨⟨v0, g0⟩, ⟨v1, g1⟩, ⟨v2, g2⟩, ⟨v3, g3⟩, ⟨v4, g4⟩, rfl⟩ := list5 h5
  simp only [List.map_cons, List.map_nil] at sg eg
  have ep0 : routeP L ws = routeQ L ws g0 g1 g2 g3 g4 := by unfold routeP; rw [← eg]
  have m0 : g0 ∈ groupsB ws := by rw [← eg]; simp
  have m1 : g1 ∈ groupsB ws := by rw [← eg]; simp
  have m2 : g2 ∈ groupsB ws := by rw [← eg]; simp
  have m3 : g3 ∈ groupsB ws := by rw [← eg]; simp
  have m4 : g4 ∈ groupsB ws := by rw [← eg]; simp
  obtain ⟨nw, r0⟩ := Sl.at_ sg (by omega) (i := 0) (by simp)
  obtain ⟨_, r1⟩ := Sl.at_ sg (by omega) (i := 1) (by simp)
  obtain ⟨_, r2⟩ := Sl.at_ sg (by omega) (i := 2) (by simp)
  obtain ⟨_, r3⟩ := Sl.at_ sg (by omega) (i := 3) (by simp)
  obtain ⟨_, r4⟩ := Sl.at_ sg (by omega) (i := 4) (by simp)
  simp only [List.getElem_cons_zero, List.getElem_cons_succ] at r0 r1 r2 r3 r4
  have T0 : TL K1 v0 g0 := tg (v0, g0) (by simp)
  have T1 : TL K1 v1 g1 := tg (v1, g1) (by simp)
  have T2 : TL K1 v2 g2 := tg (v2, g2) (by simp)
  have T3 : TL K1 v3 g3 := tg (v3, g3) (by simp)
  have T4 : TL K1 v4 g4 := tg (v4, g4) (by simp)
  have i0 := Sl.is T0
  have l0 := T0.len
  have d0 : (0 : Int) < ((lenS w : Nat) : Int) := by rw [lw]; simp
  have d1 : (1 : Int) < ((lenS w : Nat) : Int) := by rw [lw]; simp
  have d2 : (2 : Int) < ((lenS w : Nat) : Int) := by rw [lw]; simp
  have d3 : (3 : Int) < ((lenS w : Nat) : Int) := by rw [lw]; simp
  have d4 : (4 : Int) < ((lenS w : Nat) : Int) := by rw [lw]; simp
  by_cases h3 : g0.length = 3
  rotate_left
  · have e3 : (((g0.length : Nat) : Int) != 3) = true := by simp; omega
    have ep : routeP L ws = (40, L) := by rw [ep0]; unfold routeQ; rw [if_pos (.inl h3)]
    simp (disch := first | assumption | omega | (simp only [LN] <;> omega) | (simp (disch := first | assumption | omega | (simp only [LN] <;> omega)) only [row_alloc, row_set]; assumption)) only [W_block, P3, ↓reduceIte, reduceAdd, reduceEqDiff, reduceCtorEq, initFr, reduceLT, clsA, reduceLeDiff, reduceMul, reduceSub, reduceIte, lw, e2, r0, nw, a_load1v, t0, l0, e3]
    refine hq2 _ _ ⟨_, rfl, h1.sep.k, by rw [ep]; rfl, by rw [ep]; intro e; cases e⟩
  have e3 : (((g0.length : Nat) : Int) != 3) = false := by simp; omega
  have hwl : 3 ≤ ws.length := by have := (groups_mem m0).1; omega
  obtain ⟨na, ra⟩ := hv1.at_ (i := 1) (by omega)
  obtain ⟨_, rb⟩ := hv1.at_ (i := 2) (by omega)
  have hlen := hw _ (getD_mem (d := []) (show 1 < ws.length by omega))
  have q1 : (1 : Int) < ((lenS v : Nat) : Int) := by omega
  have q2 : (2 : Int) < ((lenS v : Nat) : Int) := by omega
  unfold tRow at ra rb
  have hg : ∀ {g : List (List UInt8)}, g ∈ groupsB ws → g.length ≤ 1000000000 ∧ ∀ x ∈ g, x.length ≤ 1000000000 := fun hm => ⟨by have := (groups_mem hm).1; omega, fun x hx => hw x ((groups_mem hm).2 x hx)⟩
  simp (disch := first | assumption | omega | (simp only [LN] <;> omega) | (simp (disch := first | assumption | omega | (simp only [LN] <;> omega)) only [row_alloc, row_set]; assumption)) only [W_block, P3, ↓reduceIte, reduceAdd, reduceEqDiff, reduceCtorEq, initFr, reduceLT, clsA, reduceLeDiff, reduceMul, reduceSub, reduceIte, lw, e2, r0, nw, a_load1v, t0, l0, e3, ra, na, t1]
  refine callK (t26 _ _ (Nat.le_trans hlen (by decide))) ?_
  rintro _ X ⟨rfl, hX⟩
  rw [hX]
  cases hr : rightB (ws.getD 1 []) with
  | false =>
    have ep : routeP L ws = (40, L) := by rw [ep0]; unfold routeQ; rw [if_pos (.inr (.inl hr))]
    simp (disch := first | assumption | omega | (simp only [LN] <;> omega) | (simp (disch := first | assumption | omega | (simp only [LN] <;> omega)) only [row_alloc, row_set]; assumption)) only [W_block, P3, ↓reduceIte, reduceAdd, reduceEqDiff, reduceCtorEq, initFr, reduceLT, clsA, reduceLeDiff, reduceMul, reduceSub, reduceIte]
    refine hq2 _ _ ⟨_, rfl, h1.sep.k, by rw [ep]; rfl, by rw [ep]; intro e; cases e⟩
  | true =>
  simp (disch := first | assumption | omega | (simp only [LN] <;> omega) | (simp (disch := first | assumption | omega | (simp only [LN] <;> omega)) only [row_alloc, row_set]; assumption)) only [W_block, P3, ↓reduceIte, reduceAdd, reduceEqDiff, reduceCtorEq, initFr, reduceLT, clsA, reduceLeDiff, reduceMul, reduceSub, reduceIte, r2, nw, a_load1v, t2]
  refine callK (t63 T2 (hg m2).1 (hg m2).2) ?_
  rintro _ X ⟨rfl, hX⟩
  rw [hX]
  cases hs2 : g2.all shpB with
  | false =>
    have ep : routeP L ws = (40, L) := by rw [ep0]; unfold routeQ; rw [if_pos (.inr (.inr (.inl hs2)))]
    simp (disch := first | assumption | omega | (simp only [LN] <;> omega) | (simp (disch := first | assumption | omega | (simp only [LN] <;> omega)) only [row_alloc, row_set]; assumption)) only [W_block, P3, ↓reduceIte, reduceAdd, reduceEqDiff, reduceCtorEq, initFr, reduceLT, clsA, reduceLeDiff, reduceMul, reduceSub, reduceIte]
    refine hq2 _ _ ⟨_, rfl, h1.sep.k, by rw [ep]; rfl, by rw [ep]; intro e; cases e⟩
  | true =>
  simp (disch := first | assumption | omega | (simp only [LN] <;> omega) | (simp (disch := first | assumption | omega | (simp only [LN] <;> omega)) only [row_alloc, row_set]; assumption)) only [W_block, P3, ↓reduceIte, reduceAdd, reduceEqDiff, reduceCtorEq, initFr, reduceLT, clsA, reduceLeDiff, reduceMul, reduceSub, reduceIte, r4, nw, a_load1v, t4]
  refine callK (t63 T4 (hg m4).1 (hg m4).2) ?_
  rintro _ X ⟨rfl, hX⟩
  rw [hX]
  cases hs4 : g4.all shpB with
  | false =>
    have ep : routeP L ws = (40, L) := by rw [ep0]; unfold routeQ; rw [if_pos (.inr (.inr (.inr hs4)))]
    simp (disch := first | assumption | omega | (simp only [LN] <;> omega) | (simp (disch := first | assumption | omega | (simp only [LN] <;> omega)) only [row_alloc, row_set]; assumption)) only [W_block, P3, ↓reduceIte, reduceAdd, reduceEqDiff, reduceCtorEq, initFr, reduceLT, clsA, reduceLeDiff, reduceMul, reduceSub, reduceIte]
    refine hq2 _ _ ⟨_, rfl, h1.sep.k, by rw [ep]; rfl, by rw [ep]; intro e; cases e⟩
  | true =>
  rw [routeQ_t h3 hr hs2 hs4] at ep0
  have gb := h1.gb
  simp only [bkO] at gb
  have gm := a_mgetT h1.gm (ws.getD 1 [])
  have gn := a_mgetN h1.gm (ws.getD 2 [])
  have ga := a_assertN (K := K1) 65 (ws.getD 2 []) M
  rw [h1.n] at gm
  rw [h1.kN] at ga
  cases hn : nameOf L (ws.getD 1 []) with
  | some y =>
    have ep : routeP L ws = (41, L) := by rw [ep0, hn]; rfl
    rw [hn] at gm
    simp only [Option.isSome_some] at gm
    simp (disch := first | assumption | omega | (simp only [LN] <;> omega) | (simp (disch := first | assumption | omega | (simp only [LN] <;> omega)) only [row_alloc, row_set]; assumption)) only [W_block, P3, ↓reduceIte, reduceAdd, reduceEqDiff, reduceCtorEq, initFr, reduceLT, clsA, reduceLeDiff, reduceMul, reduceSub, reduceIte, la, ra, na, a_load1v, t1, gb, sd_mget, gm]
    refine hq2 _ _ ⟨_, rfl, h1.sep.k, by rw [ep]; rfl, by rw [ep]; intro e; cases e⟩
  | none =>
  rw [hn] at gm
  simp only [hn, Option.isSome_none, Bool.false_eq_true, if_false] at ep0 gm
  have hf : ∀ i : Int, fillA [.string ByteArray.empty, .int .i64 0, .slice none 0 0, .slice none 0 0, .slice none 0 0, .slice none 0 0] [(0, 1, .string ⟨(ws.getD 1 []).toArray⟩), (1, 1, .int .i64 i)] = some [.string ⟨(ws.getD 1 []).toArray⟩, .int .i64 i, .slice none 0 0, .slice none 0 0, .slice none 0 0, .slice none 0 0] := fun i => rfl
  have bw : bn w ≤ K1.n := Sl.bn_le sg (by simp) (by omega)
  simp (disch := first | assumption | omega | (simp only [LN] <;> omega) | (simp (disch := first | assumption | omega | (simp only [LN] <;> omega)) only [row_alloc, row_set]; assumption)) only [W_block, P3, ↓reduceIte, reduceAdd, reduceEqDiff, reduceCtorEq, initFr, reduceLT, clsA, reduceLeDiff, reduceMul, reduceSub, reduceIte, la, ra, rb, na, a_load1v, t1, t2, gb, sd_mget, gm, gn, ga, hf, r1, nw]
  generalize hsg : kN 65 L (ws.getD 2 []) = sg' at *
  generalize hnm : Value.string ⟨(ws.getD 1 []).toArray⟩ = nm at *
  have S0 : SepH K1 _ [thB (K1.n + 1) (kO false false false false), thB K1.n (rO [nm, .int .i64 (sg'.getD 0), .slice none 0 0, .slice none 0 0, .slice none 0 0, .slice none 0 0])] := ((SepH.nil K1).box _).box _
  have B0 := h1.keeps S0.k
  have S0' := S0
  refine callK (t64 B0.gb rfl B0.gm (Sl.keeps T1 S0'.k) (hg m1).1) ?_
  rintro _ K2 ⟨k2, x1, rfl, o1⟩
  have S1 := S0'.add k2 o1.th o1.thf
  rw [h1.kA] at o1 S1 ⊢
  generalize hPa : oAll (kN 62 L) g1 = Pa at *
  have gr1 := S1.at_ 2 rfl
  have go1 := S1.at_ 1 rfl
  have gl1 := S1.lt 1 rfl (y := K1.n + 1) (by simp [thB])
  have v1' : x1.oneCell' = true := o1.one
  have w1' : one1 x1 = True := by simp [one1, v1']
  simp only [thB, rO, kO] at gr1 go1
  have S1' := S1.note (rO [nm, .int .i64 (sg'.getD 0), x1, .slice none 0 0, .slice none 0 0, .slice none 0 0]) (kO Pa.isSome false false false)
  have r2' := (Keeps.row S1.k bw (v := w) (j := 2) (esz := 1)).trans r2
  simp (disch := first | assumption | omega | (simp only [LN] <;> omega) | (simp (disch := first | assumption | omega | (simp only [LN] <;> omega)) only [row_alloc, row_set]; assumption)) only [W_block, P3, ↓reduceIte, reduceAdd, reduceEqDiff, reduceCtorEq, initFr, reduceLT, clsA, reduceLeDiff, reduceMul, reduceSub, reduceIte, gr1, go1, v1', w1', r2', nw, t2]
  have B1 := h1.keeps S1'.k
  refine callK (t65 B1.gb rfl B1.gm (Sl.keeps T2 S1'.k) (hg m2).1 (all_shp hs2 (hg m2).2)) ?_
  rintro _ K3 ⟨k3, x2, rfl, o2⟩
  have S2 := S1'.add k3 o2.th o2.thf
  rw [h1.nA] at o2 S2 ⊢
  generalize hPb : oAll (ne2 L) g2 = Pb at *
  have gr2 := S2.at_ 2 rfl
  have go2 := S2.at_ 1 rfl
  have gl2 := S2.lt 1 rfl (y := K1.n + 1) (by simp [thB])
  have v2' : x2.oneCell' = true := o2.one
  have w2' : one1 x2 = True := by simp [one1, v2']
  simp only [thB, rO, kO] at gr2 go2
  have S2' := S2.note (rO [nm, .int .i64 (sg'.getD 0), x1, x2, .slice none 0 0, .slice none 0 0]) (kO Pa.isSome Pb.isSome false false)
  have r3' := (Keeps.row S2.k bw (v := w) (j := 3) (esz := 1)).trans r3
  simp (disch := first | assumption | omega | (simp only [LN] <;> omega) | (simp (disch := first | assumption | omega | (simp only [LN] <;> omega)) only [row_alloc, row_set]; assumption)) only [W_block, P3, ↓reduceIte, reduceAdd, reduceEqDiff, reduceCtorEq, initFr, reduceLT, clsA, reduceLeDiff, reduceMul, reduceSub, reduceIte, gr2, go2, v2', w2', r3', nw, t3]
  have B2 := h1.keeps S2'.k
  refine callK (t64 B2.gb rfl B2.gm (Sl.keeps T3 S2'.k) (hg m3).1) ?_
  rintro _ K4 ⟨k4, x3, rfl, o3⟩
  have S3 := S2'.add k4 o3.th o3.thf
  rw [h1.kA] at o3 S3 ⊢
  generalize hPc : oAll (kN 62 L) g3 = Pc at *
  have gr3 := S3.at_ 2 rfl
  have go3 := S3.at_ 1 rfl
  have gl3 := S3.lt 1 rfl (y := K1.n + 1) (by simp [thB])
  have v3' : x3.oneCell' = true := o3.one
  have w3' : one1 x3 = True := by simp [one1, v3']
  simp only [thB, rO, kO] at gr3 go3
  have S3' := S3.note (rO [nm, .int .i64 (sg'.getD 0), x1, x2, x3, .slice none 0 0]) (kO Pa.isSome Pb.isSome Pc.isSome false)
  have r4' := (Keeps.row S3.k bw (v := w) (j := 4) (esz := 1)).trans r4
  simp (disch := first | assumption | omega | (simp only [LN] <;> omega) | (simp (disch := first | assumption | omega | (simp only [LN] <;> omega)) only [row_alloc, row_set]; assumption)) only [W_block, P3, ↓reduceIte, reduceAdd, reduceEqDiff, reduceCtorEq, initFr, reduceLT, clsA, reduceLeDiff, reduceMul, reduceSub, reduceIte, gr3, go3, v3', w3', r4', nw, t4]
  have B3 := h1.keeps S3'.k
  refine callK (t65 B3.gb rfl B3.gm (Sl.keeps T4 S3'.k) (hg m4).1 (all_shp hs4 (hg m4).2)) ?_
  rintro _ K5 ⟨k5, x4, rfl, o4⟩
  have S4 := S3'.add k5 o4.th o4.thf
  rw [h1.nA] at o4 S4 ⊢
  generalize hPd : oAll (ne2 L) g4 = Pd at *
  have gr4 := S4.at_ 2 rfl
  have go4 := S4.at_ 1 rfl
  have gl4 := S4.lt 1 rfl (y := K1.n + 1) (by simp [thB])
  have v4' : x4.oneCell' = true := o4.one
  have w4' : one1 x4 = True := by simp [one1, v4']
  simp only [thB, rO, kO] at gr4 go4
  have S4' := S4.note (rO [nm, .int .i64 (sg'.getD 0), x1, x2, x3, x4]) (kO Pa.isSome Pb.isSome Pc.isSome Pd.isSome)
  have hq4 : ∀ X, asem (.eqs [0, 0, 0, 0] true (.agg #[.bool Pa.isSome, .bool Pb.isSome, .bool Pc.isSome, .bool Pd.isSome]) (.agg #[.bool true, .bool true, .bool true, .bool true])) X = some (.bool (!(Pa.isSome && Pb.isSome && Pc.isSome && Pd.isSome)), X) := by
    intro X; cases Pa <;> cases Pb <;> cases Pc <;> cases Pd <;> rfl
  have hf4 : fillA [.bool false, .bool false, .bool false, .bool false] [(0, 1, .bool true), (1, 1, .bool true), (2, 1, .bool true), (3, 1, .bool true)] = some [.bool true, .bool true, .bool true, .bool true] := rfl
  cases sg' with
  | none =>
    have ep : routeP L ws = (42, L) := by rw [ep0]
    simp (disch := first | assumption | omega | (simp only [LN] <;> omega) | (simp (disch := first | assumption | omega | (simp only [LN] <;> omega)) only [row_alloc, row_set]; assumption)) only [W_block, P3, ↓reduceIte, reduceAdd, reduceEqDiff, reduceCtorEq, initFr, reduceLT, clsA, reduceLeDiff, reduceMul, reduceSub, reduceIte, t3, Option.getD_some, gr4, go4, v4', w4', Option.isSome_none]
    refine hq2 _ _ ⟨_, rfl, (h1.keeps S4'.k).sep.k, by rw [ep]; rfl, by rw [ep]; intro e; cases e⟩
  | some s =>
  by_cases hall : (Pa.isSome && Pb.isSome && Pc.isSome && Pd.isSome) = true
  rotate_left
  · have ep : routeP L ws = (42, L) := by
      rw [ep0]; cases Pa <;> cases Pb <;> cases Pc <;> cases Pd <;> first | rfl | exact absurd rfl hall
    have hall' : (Pa.isSome && Pb.isSome && Pc.isSome && Pd.isSome) = false := by simpa using hall
    simp (disch := first | assumption | omega | (simp only [LN] <;> omega) | (simp (disch := first | assumption | omega | (simp only [LN] <;> omega)) only [row_alloc, row_set]; assumption)) only [W_block, P3, ↓reduceIte, reduceAdd, reduceEqDiff, reduceCtorEq, initFr, reduceLT, clsA, reduceLeDiff, reduceMul, reduceSub, reduceIte, t3, Option.getD_some, gr4, go4, v4', w4', Option.isSome_some, hf4, hq4, hall']
    refine hq2 _ _ ⟨_, rfl, (h1.keeps S4'.k).sep.k, by rw [ep]; rfl, by rw [ep]; intro e; cases e⟩
  cases Pa with
  | none => cases hall
  | some p =>
  cases Pb with
  | none => cases hall
  | some q =>
  cases Pc with
  | none => cases hall
  | some o =>
  cases Pd with
  | none => cases hall
  | some f =>
  simp only [Option.isSome_some, Option.getD_some] at gr4 go4 S4' o1 o2 o3 o4 hq4 hall ep0
  have L1 : lenS x1 = p.length := by rw [o1.len]; simp
  have L2 : lenS x2 = q.length := by rw [o2.len]; simp
  have L3 : lenS x3 = o.length := by rw [o3.len]; simp
  have L4 : lenS x4 = f.length := by rw [o4.len]; simp
  have I1 := o1.is
  have I2 := o2.is
  have I3 := o3.is
  have I4 := o4.is
  by_cases hlim : 16 < p.length ∨ 16 < q.length ∨ 16 < o.length ∨ 16 < f.length
  · have ep : routeP L ws = (3, L) := by rw [ep0]; exact if_pos (by omega)
    have hgt : (16 : Int) < mmI true (mmI true (mmI true ((p.length : Nat) : Int) ((q.length : Nat) : Int)) ((o.length : Nat) : Int)) ((f.length : Nat) : Int) := by
      simp only [mmI_max]; omega
    simp (disch := first | assumption | omega | (simp only [LN] <;> omega) | (simp (disch := first | assumption | omega | (simp only [LN] <;> omega)) only [row_alloc, row_set]; assumption)) only [W_block, P3, ↓reduceIte, reduceAdd, reduceEqDiff, reduceCtorEq, initFr, reduceLT, clsA, reduceLeDiff, reduceMul, reduceSub, reduceIte, t3, Option.getD_some, gr4, go4, v4', w4', Option.isSome_some, hf4, hq4, hall, L1, L2, L3, L4, st_mm4, a_mm4]
    refine hq2 _ _ ⟨_, rfl, (h1.keeps S4'.k).sep.k, by rw [ep]; rfl, by rw [ep]; intro e; cases e⟩
  have hgt : ¬ (16 : Int) < mmI true (mmI true (mmI true ((p.length : Nat) : Int) ((q.length : Nat) : Int)) ((o.length : Nat) : Int)) ((f.length : Nat) : Int) := by
    simp only [mmI_max]; omega
  have B4 := h1.keeps S4'.k
  have gb4 := (h1.keeps S4.k).gb
  simp only [bkO] at gb4
  have lb4 : b < K1.n := AHeap.get_lt gb
  have lr : lenS u.r = L.r.length := by rw [h1.ly.r.len, h1.ly.rlen]
  have ir := Sl.is h1.ly.r
  by_cases h64 : L.r.length = 64
  · have e64 : (((L.r.length : Nat) : Int) == 64) = true := by simp; omega
    have ep : routeP L ws = (3, L) := by rw [ep0]; exact if_pos (by omega)
    simp (disch := first | assumption | omega | (simp only [LN] <;> omega) | (simp (disch := first | assumption | omega | (simp only [LN] <;> omega)) only [row_alloc, row_set]; assumption)) only [W_block, P3, ↓reduceIte, reduceAdd, reduceEqDiff, reduceCtorEq, initFr, reduceLT, clsA, reduceLeDiff, reduceMul, reduceSub, reduceIte, t3, Option.getD_some, gr4, go4, v4', w4', Option.isSome_some, hf4, hq4, hall, L1, L2, L3, L4, st_mm4, a_mm4, gb4, lr, e64]
    refine hq2 _ _ ⟨_, rfl, (h1.keeps S4'.k).sep.k, by rw [ep]; rfl, by rw [ep]; intro e; cases e⟩
  have e64 : (((L.r.length : Nat) : Int) == 64) = false := by simp; omega
  have ep : routeP L ws = (0, { L with r := L.r ++ [⟨ws.getD 1 [], s, p, q, o, f⟩] }) := by rw [ep0]; exact if_neg (by omega)
  simp (disch := first | assumption | omega | (simp only [LN] <;> omega) | (simp (disch := first | assumption | omega | (simp only [LN] <;> omega)) only [row_alloc, row_set]; assumption)) only [W_block, P3, ↓reduceIte, reduceAdd, reduceEqDiff, reduceCtorEq, initFr, reduceLT, clsA, reduceLeDiff, reduceMul, reduceSub, reduceIte, t3, Option.getD_some, gr4, go4, v4', w4', Option.isSome_some, hf4, hq4, hall, L1, L2, L3, L4, st_mm4, a_mm4, gb4, lr, e64]
  subst hnm
  have hx : (thI [⟨⟨ws.getD 1 [], s, p, q, o, f⟩, x1, x2, x3, x4⟩]).P _ := fun y hy => by
    rw [List.mem_singleton] at hy
    subst hy
    have a1 := S4'.at_ 5 rfl
    have a2 := S4'.at_ 4 rfl
    have a3 := S4'.at_ 3 rfl
    have a4 := S4'.at_ 2 rfl
    exact ⟨AP.sl (rows := p.map iRow) a1 o1.r rfl, AP.sl (rows := q.map nRow) a2 o2.r rfl, AP.sl (rows := o.map iRow) a3 o3.r rfl, AP.sl (rows := f.map nRow) a4 o4.r rfl⟩
  have S5 := (S4'.perm (List.perm_append_comm (l₁ := [_, _]) (l₂ := [_, _, _, _]))).merges (us := [_, _, _, _]) (r := [_, _]) hx (fun y hy => by
    have hy' : y ∈ (⟨⟨ws.getD 1 [], s, p, q, o, f⟩, x1, x2, x3, x4⟩ : RV).bl := by simpa [thI] using hy
    simp only [RV.bl, List.mem_append] at hy'
    rcases hy' with ((e | e) | e) | e
    · exact ⟨_, List.mem_cons_of_mem _ (List.mem_cons_of_mem _ (List.mem_cons_of_mem _ (List.mem_cons_self ..))), tb_blk o1.ap y e⟩
    · exact ⟨_, List.mem_cons_of_mem _ (List.mem_cons_of_mem _ (List.mem_cons_self ..)), tb_blk o2.ap y e⟩
    · exact ⟨_, List.mem_cons_of_mem _ (List.mem_cons_self ..), tb_blk o3.ap y e⟩
    · exact ⟨_, List.mem_cons_self .., tb_blk o4.ap y e⟩)
  have J := h1.sep.join S5
  have J1 := J.perm (List.Perm.cons _ ((List.perm_append_comm (l₁ := [_, _, _, _, _, _, _, _]) (l₂ := [_])).append_right ex))
  have J2 := J1.merges (us := [_, _]) (r := _ :: _ :: _ :: _ :: _ :: _ :: _ :: _ :: ex) (t := thI (xs ++ [⟨⟨ws.getD 1 [], s, p, q, o, f⟩, x1, x2, x3, x4⟩])) (fun y hy => by
    rcases List.mem_append.1 hy with hy | hy
    · exact J1.at_ 1 rfl y hy
    · exact J1.at_ 0 rfl y hy) (fun y hy => by
    simp only [thI, List.flatMap_append, List.mem_append] at hy
    rcases hy with e | e
    · exact ⟨_, List.mem_cons_of_mem _ (List.mem_cons_self ..), e⟩
    · exact ⟨_, List.mem_cons_self .., e⟩)
  refine callK (fresh_sep (l := [_, _, _]) (r := _ :: _ :: _ :: _ :: ex) J2 h1.n (ws.getD 1 []) (66, ((L.r.length : Nat) : Int))) ?_
  rintro _ K7 ⟨rfl, c7, J7⟩
  have J7 := J7 hn
  have gb7 := J7.at_ 3 rfl
  have gr7 := J7.at_ 2 rfl
  simp only [thB, bkO, rO] at gb7 gr7
  have hf6 : fillA [.string ByteArray.empty, .int .i64 0, .slice none 0 0, .slice none 0 0, .slice none 0 0, .slice none 0 0] [(0, 6, .agg #[.string ⟨(ws.getD 1 []).toArray⟩, .int .i64 s, x1, x2, x3, x4])] = some [.string ⟨(ws.getD 1 []).toArray⟩, .int .i64 s, x1, x2, x3, x4] := rfl
  have ha6 : [.string ⟨(ws.getD 1 []).toArray⟩, .int .i64 s, x1, x2, x3, x4].all Value.oneCell' = true := by
    simp only [List.all_cons, List.all_nil, v1', v2', v3', v4', Bool.and_true]; rfl
  simp (disch := first | assumption | omega | (simp only [LN] <;> omega) | (simp (disch := first | assumption | omega | (simp only [LN] <;> omega)) only [row_alloc, row_set]; assumption)) only [W_block, P3, ↓reduceIte, reduceAdd, reduceEqDiff, reduceCtorEq, initFr, reduceLT, clsA, reduceLeDiff, reduceMul, reduceSub, reduceIte, gb7, gr7, hf6, ha6]
  have J8 := J7.keeps ((Keeps.refl K7).alloc (.cells true false 6 [.string ⟨(ws.getD 1 []).toArray⟩, .int .i64 s, x1, x2, x3, x4] 43))
  have a8 : AP _ 43 6 u.r xs.length (xs.map RV.row).flatten := J8.at_ 8 rfl
  have lx : xs.length = L.r.length := h1.ly.rlen
  refine appGD a8 ⟨_, _, rfl⟩ (elems_new rfl rfl) rfl ⟨by omega, by omega⟩ ?_
  intro v' K9 a9 c9 hb9
  have ov : v'.oneCell' = true := by obtain ⟨a, rfl⟩ := a9.shape; rfl
  have ow : one1 v' = True := by simp [one1, ov]
  have J9 := J8.upd (l := [_, _, _, _, _, _, _, _]) (r := ex) (t' := thA 43 6 v' (xs.length + 1) ((xs.map RV.row).flatten ++ [.string ⟨(ws.getD 1 []).toArray⟩, .int .i64 s, x1, x2, x3, x4])) c9 a9 (fun y hy => by
    rcases hb9 with e | e
    · left; have := mem_blkL.1 hy; rw [e] at this; exact mem_blkL.2 this
    · right; have := mem_blkL.1 hy; rw [e] at this; cases this; exact Nat.le_refl _)
  have gb9 := J9.at_ 3 rfl
  simp only [thB, bkO] at gb9
  simp (disch := first | assumption | omega | (simp only [LN] <;> omega) | (simp (disch := first | assumption | omega | (simp only [LN] <;> omega)) only [row_alloc, row_set]; assumption)) only [W_block, P3, ↓reduceIte, reduceAdd, reduceEqDiff, reduceCtorEq, initFr, reduceLT, clsA, reduceLeDiff, reduceMul, reduceSub, reduceIte, gb9, ow, ov]
  have JA := J9.u3 (t' := thB b (bkO ⟨u.s, u.p, u.g, v'⟩ mb)) (Chg.set K9 (AHeap.get_lt gb9) (bkO ⟨u.s, u.p, u.g, v'⟩ mb)) (AHeap.get_set_same gb9 _) (fun y hy => .inl hy)
  refine hq2 _ _ ⟨_, rfl, JA.k, by rw [ep]; rfl, fun _ => ⟨⟨u.s, u.p, u.g, v'⟩, xs ++ [⟨⟨ws.getD 1 [], s, p, q, o, f⟩, x1, x2, x3, x4⟩], M ++ [(ws.getD 1 [], (66, ((L.r.length : Nat) : Int)))], ?_⟩⟩
  rw [ep]
  refine ⟨?_, by simp [h.e], fun m => ?_⟩
  · have JB := (JA.perm ((List.perm_append_comm (l₁ := [_]) (l₂ := [_, _, _, _, _, _, _, _])).append_right ex)).tail.tail
    have ef : (xs.map RV.row).flatten ++ [.string ⟨(ws.getD 1 []).toArray⟩, .int .i64 s, x1, x2, x3, x4] = ((xs ++ [(⟨⟨ws.getD 1 [], s, p, q, o, f⟩, x1, x2, x3, x4⟩ : RV)]).map RV.row).flatten := by simp [RV.row]
    rw [ef] at JB
    have : xs.length + 1 = (xs ++ [(⟨⟨ws.getD 1 [], s, p, q, o, f⟩, x1, x2, x3, x4⟩ : RV)]).length := by simp
    rw [this] at JB
    exact JB
  · rw [bfind_app, h.n]; exact nameOf_r ⟨ws.getD 1 [], s, p, q, o, f⟩ hn m
end Go.AM.Fd

set_option linter.unusedSimpArgs false
set_option linter.unusedVariables false
namespace Go.AM.Fd
open Nat (reduceAdd reduceEqDiff reduceLT reduceLeDiff reduceMul reduceSub)
open Go.Proofs Go.AM.F
theorem fresh_aw {B K : AHeap} {ts : List Th} {v : Value} (h : SepH B K ts) (hv : Fresh K.n v) : Aw v ts := by
  intro y hy t ht hm
  have h1 := t.lt K (h.sep.all t ht) y hm
  have h2 : blk v = some y := by
    revert hy
    unfold tb
    split
    · intro hy; simp at hy; subst hy; rfl
    · intro hy; simp at hy
  have := hv y h2
  omega
theorem splitB_le (c : UInt8) : ∀ (l : List UInt8) (t : List UInt8), t ∈ splitB c l → t.length ≤ l.length
  | [], t, h => by simp [splitB] at h; subst h; simp
  | x :: l, t, h => by
    have ih := splitB_le c l
    simp only [splitB] at h
    split at h
    · rcases List.mem_cons.1 h with rfl | h
      · simp
      · have := ih t h; simp; omega
    · split at h
      · rename_i p r e
        rcases List.mem_cons.1 h with rfl | h
        · have := ih p (by rw [e]; simp); simp; omega
        · have := ih t (by rw [e]; simp [h]); simp; omega
      · simp at h; subst h; simp
theorem wordsB_mem {l t : List UInt8} (h : t ∈ wordsB l) : t.length ≤ l.length := splitB_le 32 l t (List.mem_filter.1 h).1
def wSection : List UInt8 := [115, 101, 99, 116, 105, 111, 110]
def wSignal : List UInt8 := [115, 105, 103, 110, 97, 108]
def wRoute : List UInt8 := [114, 111, 117, 116, 101]
def lineW (L : Ly) (ws : List (List UInt8)) : Int × Ly :=
  if ws.length = 0 then (0, L)
  else if ws.getD 0 [] = wSection then secP L ws
  else if ws.getD 0 [] = wPoint then partP L ws
  else if ws.getD 0 [] = wSignal then partP L ws
  else if ws.getD 0 [] = wRoute then routeP L ws
  else (40, L)
def lineP (L : Ly) (l : List UInt8) : Int × Ly := if okW (aheadB l) then lineW L (wordsB (aheadB l)) else (30, L)
structure LyLim (L : Ly) : Prop where
  s : L.s.length ≤ 64
  p : L.p.length ≤ 32
  g : L.g.length ≤ 32
  r : L.r.length ≤ 64
set_option maxHeartbeats 1000000 in
theorem t19 {B K : AHeap} {b mb : Nat} {u : V4} {xs : List RV} {L : Ly} {M : MB} {ex : List Th} (h : BkR B K b mb u xs L M ex) (l : List UInt8) (hl : l.length ≤ 100000) (hL : LyLim L) :
    ∃ w K', ARun Go.Proofs.Tryd.prog 4 19 [ptr b 0, .string ⟨l.toArray⟩] K w K' ∧ w = .int .i64 (lineP L l).1 ∧ ((lineP L l).1 = 0 → ∃ u' xs' M', BkR B K' b mb u' xs' (lineP L l).2 M' ex) ∧ Keeps B K' := by
  refine walk2 f19_ok f19_n ?_
  intro Q hq1 hq2
  simp (disch := first | assumption | omega | (simp only [LN] <;> omega) | (simp (disch := first | assumption | omega | (simp only [LN] <;> omega)) only [row_alloc, row_set]; assumption)) only [f19, W_block, P3, ↓reduceIte, reduceAdd, reduceEqDiff, reduceCtorEq, initFr, reduceLT, clsA, reduceLeDiff, reduceMul, reduceSub, reduceIte]
  refine callK (t43 K l (by omega)) ?_
  rintro _ K1 ⟨k1, hw⟩
  have h1 := h.keeps k1
  unfold lineP at hq1 hq2
  cases hok : okW (aheadB l) with
  | false =>
    simp only [hok, Bool.false_eq_true, if_false] at hw hq2
    subst hw
    simp (disch := first | assumption | omega | (simp only [LN] <;> omega) | (simp (disch := first | assumption | omega | (simp only [LN] <;> omega)) only [row_alloc, row_set]; assumption)) only [W_block, P3, ↓reduceIte, reduceAdd, reduceEqDiff, reduceCtorEq, initFr, reduceLT, clsA, reduceLeDiff, reduceMul, reduceSub, reduceIte]
    refine hq2 _ _ ⟨_, rfl, rfl, (fun e => by cases e), h1.sep.k⟩
  | true =>
  simp only [hok, if_true] at hw hq2
  obtain ⟨v, rfl, av, fv⟩ := hw
  have hv : TL K1 v _ := AP.tl av
  have hwl := wordsB_len (aheadB l)
  have hal := ahead_len l
  have hwm : ∀ w ∈ wordsB (aheadB l), w.length ≤ 1000000000 := fun w hm => by have := wordsB_mem hm; omega
  have aw : Aw v (bkT b mb u xs L M ex) := fresh_aw h.sep fv
  generalize wordsB (aheadB l) = ws at *
  have ia := Sl.is hv
  have la := hv.len
  unfold lineW at hq2
  by_cases h0 : ws.length = 0
  · have e0 : (((ws.length : Nat) : Int) == 0) = true := beqi_yes (by omega)
    simp only [h0, if_true] at hq2
    simp (disch := first | assumption | omega | (simp only [LN] <;> omega) | (simp (disch := first | assumption | omega | (simp only [LN] <;> omega)) only [row_alloc, row_set]; assumption)) only [W_block, P3, ↓reduceIte, reduceAdd, reduceEqDiff, reduceCtorEq, initFr, reduceLT, clsA, reduceLeDiff, reduceMul, reduceSub, reduceIte, la, e0]
    refine hq2 _ _ ⟨_, rfl, rfl, fun e => ⟨_, _, _, h1⟩, h1.sep.k⟩
  have e0 : (((ws.length : Nat) : Int) == 0) = false := beqi_no (by omega)
  simp only [h0, if_false] at hq2
  obtain ⟨na, ra⟩ := hv.at_ (i := 0) (by omega)
  have c0 : (0 : Int) ≤ 0 := by omega
  have c1 : (0 : Int) < ((lenS v : Nat) : Int) := by omega
  have t0 : Int.toNat 0 = 0 := rfl
  unfold tRow at ra
  have q1 : binA .eql (.string ⟨(ws.getD 0 []).toArray⟩) (.string ⟨⟨[115, 101, 99, 116, 105, 111, 110]⟩⟩) = some (.bool (decide (ws.getD 0 [] = wSection))) := b_eqS _ wSection
  have q2 : binA .eql (.string ⟨(ws.getD 0 []).toArray⟩) (.string ⟨⟨[112, 111, 105, 110, 116]⟩⟩) = some (.bool (decide (ws.getD 0 [] = wPoint))) := b_eqS _ wPoint
  have q3 : binA .eql (.string ⟨(ws.getD 0 []).toArray⟩) (.string ⟨⟨[115, 105, 103, 110, 97, 108]⟩⟩) = some (.bool (decide (ws.getD 0 [] = wSignal))) := b_eqS _ wSignal
  have q4 : binA .eql (.string ⟨(ws.getD 0 []).toArray⟩) (.string ⟨⟨[114, 111, 117, 116, 101]⟩⟩) = some (.bool (decide (ws.getD 0 [] = wRoute))) := b_eqS _ wRoute
  generalize ws.getD 0 [] = x at ra q1 q2 q3 q4 hq2
  by_cases h1' : x = wSection
  · simp only [if_pos h1'] at hq2
    rw [decide_eq_true h1'] at q1
    simp (disch := first | assumption | omega | (simp only [LN] <;> omega) | (simp (disch := first | assumption | omega | (simp only [LN] <;> omega)) only [row_alloc, row_set]; assumption)) only [W_block, P3, ↓reduceIte, reduceAdd, reduceEqDiff, reduceCtorEq, initFr, reduceLT, clsA, reduceLeDiff, reduceMul, reduceSub, reduceIte, la, e0, ra, na, a_load1v, t0, q1]
    refine callK (t44 h1 hv aw (by omega) hwm hL.s) ?_
    rintro _ K2 ⟨k2, rfl, r2⟩
    simp (disch := first | assumption | omega | (simp only [LN] <;> omega) | (simp (disch := first | assumption | omega | (simp only [LN] <;> omega)) only [row_alloc, row_set]; assumption)) only [W_block, P3, ↓reduceIte, reduceAdd, reduceEqDiff, reduceCtorEq, initFr, reduceLT, clsA, reduceLeDiff, reduceMul, reduceSub, reduceIte]
    exact hq2 _ _ ⟨_, rfl, rfl, (fun e => by obtain ⟨u', M', r⟩ := r2 e; exact ⟨_, _, _, r⟩), k2⟩
  by_cases h2' : x = wPoint
  · simp only [if_neg h1', if_pos h2'] at hq2
    rw [decide_eq_false h1'] at q1
    rw [decide_eq_true h2'] at q2
    simp (disch := first | assumption | omega | (simp only [LN] <;> omega) | (simp (disch := first | assumption | omega | (simp only [LN] <;> omega)) only [row_alloc, row_set]; assumption)) only [W_block, P3, ↓reduceIte, reduceAdd, reduceEqDiff, reduceCtorEq, initFr, reduceLT, clsA, reduceLeDiff, reduceMul, reduceSub, reduceIte, la, e0, ra, na, a_load1v, t0, q1, q2]
    refine callK (t45 h1 hv aw (by omega) hwm hL.p hL.g) ?_
    rintro _ K2 ⟨k2, rfl, r2⟩
    simp (disch := first | assumption | omega | (simp only [LN] <;> omega) | (simp (disch := first | assumption | omega | (simp only [LN] <;> omega)) only [row_alloc, row_set]; assumption)) only [W_block, P3, ↓reduceIte, reduceAdd, reduceEqDiff, reduceCtorEq, initFr, reduceLT, clsA, reduceLeDiff, reduceMul, reduceSub, reduceIte]
    exact hq2 _ _ ⟨_, rfl, rfl, (fun e => by obtain ⟨u', M', r⟩ := r2 e; exact ⟨_, _, _, r⟩), k2⟩
  by_cases h3' : x = wSignal
  · simp only [if_neg h1', if_neg h2', if_pos h3'] at hq2
    rw [decide_eq_false h1'] at q1
    rw [decide_eq_false h2'] at q2
    rw [decide_eq_true h3'] at q3
    simp (disch := first | assumption | omega | (simp only [LN] <;> omega) | (simp (disch := first | assumption | omega | (simp only [LN] <;> omega)) only [row_alloc, row_set]; assumption)) only [W_block, P3, ↓reduceIte, reduceAdd, reduceEqDiff, reduceCtorEq, initFr, reduceLT, clsA, reduceLeDiff, reduceMul, reduceSub, reduceIte, la, e0, ra, na, a_load1v, t0, q1, q2, q3]
    refine callK (t45 h1 hv aw (by omega) hwm hL.p hL.g) ?_
    rintro _ K2 ⟨k2, rfl, r2⟩
    simp (disch := first | assumption | omega | (simp only [LN] <;> omega) | (simp (disch := first | assumption | omega | (simp only [LN] <;> omega)) only [row_alloc, row_set]; assumption)) only [W_block, P3, ↓reduceIte, reduceAdd, reduceEqDiff, reduceCtorEq, initFr, reduceLT, clsA, reduceLeDiff, reduceMul, reduceSub, reduceIte]
    exact hq2 _ _ ⟨_, rfl, rfl, (fun e => by obtain ⟨u', M', r⟩ := r2 e; exact ⟨_, _, _, r⟩), k2⟩
  by_cases h4' : x = wRoute
  · simp only [if_neg h1', if_neg h2', if_neg h3', if_pos h4'] at hq2
    rw [decide_eq_false h1'] at q1
    rw [decide_eq_false h2'] at q2
    rw [decide_eq_false h3'] at q3
    rw [decide_eq_true h4'] at q4
    simp (disch := first | assumption | omega | (simp only [LN] <;> omega) | (simp (disch := first | assumption | omega | (simp only [LN] <;> omega)) only [row_alloc, row_set]; assumption)) only [W_block, P3, ↓reduceIte, reduceAdd, reduceEqDiff, reduceCtorEq, initFr, reduceLT, clsA, reduceLeDiff, reduceMul, reduceSub, reduceIte, la, e0, ra, na, a_load1v, t0, q1, q2, q3, q4]
    refine callK (t46 h1 hv aw (by omega) hwm hL.r) ?_
    rintro _ K2 ⟨k2, rfl, r2⟩
    simp (disch := first | assumption | omega | (simp only [LN] <;> omega) | (simp (disch := first | assumption | omega | (simp only [LN] <;> omega)) only [row_alloc, row_set]; assumption)) only [W_block, P3, ↓reduceIte, reduceAdd, reduceEqDiff, reduceCtorEq, initFr, reduceLT, clsA, reduceLeDiff, reduceMul, reduceSub, reduceIte]
    exact hq2 _ _ ⟨_, rfl, rfl, r2, k2⟩
  simp only [if_neg h1', if_neg h2', if_neg h3', if_neg h4'] at hq2
  rw [decide_eq_false h1'] at q1
  rw [decide_eq_false h2'] at q2
  rw [decide_eq_false h3'] at q3
  rw [decide_eq_false h4'] at q4
  simp (disch := first | assumption | omega | (simp only [LN] <;> omega) | (simp (disch := first | assumption | omega | (simp only [LN] <;> omega)) only [row_alloc, row_set]; assumption)) only [W_block, P3, ↓reduceIte, reduceAdd, reduceEqDiff, reduceCtorEq, initFr, reduceLT, clsA, reduceLeDiff, reduceMul, reduceSub, reduceIte, la, e0, ra, na, a_load1v, t0, q1, q2, q3, q4]
  refine hq2 _ _ ⟨_, rfl, rfl, (fun e => by cases e), h1.sep.k⟩
end Go.AM.Fd

set_option linter.unusedSimpArgs false
set_option linter.unusedVariables false
namespace Go.AM.Fd
open Nat (reduceAdd reduceEqDiff reduceLT reduceLeDiff reduceMul reduceSub)
open Go.Proofs Go.AM.F
noncomputable def cntF : Func := (Go.Proofs.Tryd.prog.funcs[88]?).getD default
theorem cnt_f : Go.Proofs.Tryd.prog.funcs[88]? = some cntF := by kernel_rfl
theorem cnt_n : (cntF.name == "runtime.NumGoroutine") = false := by kernel_rfl
theorem cnt_b : cntF.body.isNone = true := by kernel_rfl
theorem cnt_x : Extern.findNext cntF = none := by kernel_rfl
theorem cnt_e : Extern.find cntF = some Extern.BytealgCount.count := by kernel_rfl
theorem t88 (H : AHeap) (l : List UInt8) (c : Nat) : ∃ w H', ARun Go.Proofs.Tryd.prog 4 88 [.string ⟨l.toArray⟩, .int .u8 (c : Int)] H w H' ∧ w = .int .i64 ((cB (UInt8.ofNat c) l : Nat) : Int) ∧ H' = H := by
  refine ⟨_, _, arun_ext cnt_f cnt_n cnt_b cnt_x cnt_e (fun σ => .int .i64 ((cB (UInt8.ofNat c) l : Nat) : Int)) ?_, rfl, rfl⟩
  intro σ w args' hv
  cases hv with
  | cons a hv =>
    cases hv with
    | cons b hv =>
      cases hv
      cases a
      cases b
      exact run_count_string (P := Go.Proofs.Tryd.prog) l (c : Int) w
theorem t77 (H : AHeap) (l : List UInt8) (c : UInt8) : ∃ w H', ARun Go.Proofs.Tryd.prog 4 77 [.string ⟨l.toArray⟩, .string ⟨[c].toArray⟩] H w H' ∧ w = .int .i64 ((cB c l : Nat) : Int) ∧ H' = H := by
  refine walk2 f77_ok f77_n ?_
  intro Q hq1 hq2
  have e0 : (((1 : Nat) : Int) == 0) = false := by simp
  have e1 : (((1 : Nat) : Int) == 1) = true := by simp
  have e2 : [c].getD 0 0 = c := rfl
  have hl : 0 < [c].length := by simp
  simp (disch := first | assumption | omega | (simp only [LN] <;> omega) | (simp (disch := first | assumption | omega | (simp only [LN] <;> omega)) only [row_alloc, row_set]; assumption)) only [f77, W_block, P3, ↓reduceIte, reduceAdd, reduceEqDiff, reduceCtorEq, initFr, reduceLT, clsA, reduceLeDiff, reduceMul, reduceSub, reduceIte, a_idxS0, e0, e1, e2]
  refine callK (t88 H l c.toNat) ?_
  rintro _ K ⟨rfl, rfl⟩
  simp (disch := first | assumption | omega | (simp only [LN] <;> omega) | (simp (disch := first | assumption | omega | (simp only [LN] <;> omega)) only [row_alloc, row_set]; assumption)) only [W_block, P3, ↓reduceIte, reduceAdd, reduceEqDiff, reduceCtorEq, initFr, reduceLT, clsA, reduceLeDiff, reduceMul, reduceSub, reduceIte, UInt8.ofNat_toNat]
  exact hq2 _ _ ⟨_, rfl, rfl, rfl⟩
theorem splitB_two {c : UInt8} {l : List UInt8} (h : 2 ≤ (splitB c l).length) : ∃ i, ixB c l = some i := by
  cases hi : ixB c l with
  | some i => exact ⟨i, rfl⟩
  | none => rw [splitB_ix, hi] at h; simp at h
theorem splitB_one {c : UInt8} {l : List UInt8} (h : (splitB c l).length = 1) : splitB c l = [l] := by
  cases hi : ixB c l with
  | none => rw [splitB_ix, hi]
  | some i => rw [splitB_ix, hi] at h; simp at h; exact absurd h (splitB_ne _ _)
theorem rep_flat (n : Nat) (v : Value) : (List.replicate n [v]).flatten = List.replicate n v := by
  induction n with
  | zero => rfl
  | succ n ih => simp [List.replicate_succ, ih]
theorem txs_set {pre : List (List UInt8)} {x : List UInt8} {m : Nat} {v : Value} : (txs pre ++ List.replicate (m + 1) v).set pre.length (.string ⟨x.toArray⟩) = txs (pre ++ [x]) ++ List.replicate m v := by
  rw [List.set_append_right _ _ (by rw [txs_len]; omega), txs_len, Nat.sub_self, List.replicate_succ, List.set_cons_zero]
  simp [txs]
theorem t58 (H : AHeap) (l : List UInt8) (c : UInt8) (hl : l.length ≤ 1000000) : ∃ w K, ARun Go.Proofs.Tryd.prog 4 58 [.string ⟨l.toArray⟩, .string ⟨[c].toArray⟩, .int .i64 0, .int .i64 (-1)] H w K ∧
    Keeps H K ∧ AP K 9 1 w (splitB c l).length (txs (splitB c l)) ∧ Fresh H.n w := by
  refine walk2 f58_ok f58_n ?_
  intro Q hq1 hq2
  have hcn := splitB_cB c l
  have hcl := cB_le c l
  have e9 : decide ([c] = ([] : List UInt8)) = false := by simp
  simp (disch := first | assumption | omega | (simp only [LN] <;> omega) | (simp (disch := first | assumption | omega | (simp only [LN] <;> omega)) only [row_alloc, row_set]; assumption)) only [ f58, P3, ↓reduceIte, reduceAdd, reduceEqDiff, reduceCtorEq, initFr, reduceLT, clsA, reduceLeDiff, reduceMul, reduceSub, reduceIte, str_emp, bytes_eq, e9]
  refine callK (t77 H l c) ?_
  rintro _ K ⟨rfl, rfl⟩
  obtain ⟨n, hn⟩ : ∃ n, (splitB c l).length = n := ⟨_, rfl⟩
  rw [hn] at hcn
  have w1 : IntKind.i64.wrap (((cB c l : Nat) : Int) + 1) = ((n : Nat) : Int) := by rw [wrap_i64 (by omega) (by omega)]; omega
  have w2 : IntKind.i64.wrap (((l.length : Nat) : Int) + 1) = ((l.length + 1 : Nat) : Int) := by rw [wrap_i64 (by omega) (by omega)]; omega
  have w3 : min ((n : Nat) : Int) ((l.length + 1 : Nat) : Int) = ((n : Nat) : Int) := by omega
  have w4 : IntKind.i64.wrap (((n : Nat) : Int) - 1) = ((n - 1 : Nat) : Int) := by rw [wrap_i64 (by omega) (by omega)]; omega
  have hmk : asem (.mksl 9 1 16 [.string ⟨([] : List UInt8).toArray⟩] (.int .i64 ((n : Nat) : Int)) (.int .i64 ((n : Nat) : Int))) K = some (slc K.n 0 n n, K.alloc (.cells true false 1 (List.replicate n (.string ⟨([] : List UInt8).toArray⟩)) 9)) := by
    simp only [asem]
    rw [if_pos ⟨by omega, by omega, by omega, by omega, rfl, rfl⟩, Int.toNat_natCast, rep_flat]
  simp (disch := first | assumption | omega | (simp only [LN] <;> omega) | (simp (disch := first | assumption | omega | (simp only [LN] <;> omega)) only [row_alloc, row_set]; assumption)) only [ P3, ↓reduceIte, reduceAdd, reduceEqDiff, reduceCtorEq, initFr, reduceLT, clsA, reduceLeDiff, reduceMul, reduceSub, reduceIte, str_emp, w1, w2, w3, w4, hmk]
  rw [W_block]
  refine W_loop2 (fun k fr M => ∃ i sc pre x7 x11 x12, fr = [.string ⟨sc.toArray⟩, .string ⟨[c].toArray⟩, .int .i64 0, .int .i64 ((n - 1 : Nat) : Int), .slice none 0 0, slc K.n 0 n n, .int .i64 ((i : Nat) : Int), x7, .bool false, .bool false, .bool true, x11, x12] ∧ Keeps K M ∧
      M.get K.n = some (.cells true false 1 (txs pre ++ List.replicate (n - i) (.string ⟨([] : List UInt8).toArray⟩)) 9) ∧ splitB c l = pre ++ splitB c sc ∧ pre.length = i ∧ i + 1 ≤ n ∧ sc.length ≤ l.length ∧ k = n - i) n
    ⟨0, l, [], _, _, _, rfl, (Keeps.refl K).alloc _, AHeap.get_alloc_new _ _, rfl, rfl, by omega, Nat.le_refl _, rfl⟩ ?_
  rintro Q' k fr M ⟨i, sc, pre, x7, x11, x12, rfl, hk, hget, hsp, hpl, hi, hsl, rfl⟩ hn' hx hret
  have hlen : (splitB c sc).length = n - i := by
    have := congrArg List.length hsp
    rw [hn, List.length_append, hpl] at this
    omega
  have hb := AHeap.get_lt hget
  have w5 : IntKind.i64.wrap (((i : Nat) : Int) + 1) = ((i + 1 : Nat) : Int) := by rw [wrap_i64 (by omega) (by omega)]; omega
  obtain ⟨d, hd⟩ : ∃ d, n - i = d + 1 := ⟨n - i - 1, by omega⟩
  have hll : i < (txs pre ++ List.replicate (n - i) (Value.string ⟨([] : List UInt8).toArray⟩)).length := by rw [List.length_append, txs_len, List.length_replicate]; omega
  have c2 : (0 : Int) ≤ ((i : Nat) : Int) := by omega
  have c3 : ((i : Nat) : Int) < ((n : Nat) : Int) := by omega
  by_cases hlt : i + 1 < n
  · have c1 : ((i : Nat) : Int) < ((n - 1 : Nat) : Int) := by omega
    obtain ⟨m, hm⟩ := splitB_two (c := c) (l := sc) (by omega)
    have hml := ixB_le hm
    have e : ixI c sc = (m : Int) := by unfold ixI; rw [hm]
    have c4 : ¬ ((m : Nat) : Int) < 0 := by omega
    have w6 : IntKind.i64.wrap (((m : Nat) : Int) + 0) = ((m : Nat) : Int) := by rw [wrap_i64 (by omega) (by omega)]; simp
    have w7 : IntKind.i64.wrap (((m : Nat) : Int) + ((1 : Nat) : Int)) = ((m + 1 : Nat) : Int) := by rw [wrap_i64 (by omega) (by omega)]; omega
    have hm1 : m ≤ sc.length := by omega
    have hm2 : m + 1 ≤ sc.length := by omega
    have hsp1 : splitB c sc = sc.take m :: splitB c (sc.drop (m + 1)) := by rw [splitB_ix, hm]
    rw [hsp1] at hsp
    simp (disch := first | assumption | omega | (simp only [LN] <;> omega) | (simp (disch := first | assumption | omega | (simp only [LN] <;> omega)) only [row_alloc, row_set]; assumption)) only [W_block, P3, ↓reduceIte, reduceAdd, reduceEqDiff, reduceCtorEq, initFr, reduceLT, clsA, reduceLeDiff, reduceMul, reduceSub, reduceIte]
    refine callK (t78 M sc c) ?_
    rintro _ K2 ⟨rfl, rfl⟩
    simp (disch := first | assumption | omega | (simp only [LN] <;> omega) | (simp (disch := first | assumption | omega | (simp only [LN] <;> omega)) only [row_alloc, row_set]; assumption)) only [W_block, P3, ↓reduceIte, reduceAdd, reduceEqDiff, reduceCtorEq, initFr, reduceLT, clsA, reduceLeDiff, reduceMul, reduceSub, reduceIte, e, w6, w7, a_slsP, a_slsT, hget, Int.toNat_natCast, Nat.mul_one, Nat.zero_add, w5]
    refine hn' _ _ _ ⟨i + 1, sc.drop (m + 1), pre ++ [sc.take m], _, _, _, rfl, hk.set (Nat.le_refl _) hb _, ?_, by rw [hsp]; simp, by simp [hpl], by omega, by simp; omega, rfl⟩ (by omega)
    rw [AHeap.get_set_same hget, hd, show n - (i + 1) = d by omega]
    subst hpl
    rw [txs_set]
  · have c1 : ¬ ((i : Nat) : Int) < ((n - 1 : Nat) : Int) := by omega
    have hin : i + 1 = n := by omega
    have hd0 : d = 0 := by omega
    subst hd0
    have hsp1 := splitB_one (c := c) (l := sc) (by omega)
    rw [hsp1] at hsp
    have hnew : (txs pre ++ List.replicate (n - i) (Value.string ⟨([] : List UInt8).toArray⟩)).set i (.string ⟨sc.toArray⟩) = txs (splitB c l) := by
      rw [hd, ← hpl, txs_set, hsp]; simp
    have hsl2 : asem (.slsl 1 (slc K.n 0 n n) none (some (.int .i64 ((i + 1 : Nat) : Int))) none) (M.set K.n (.cells true false 1 (txs (splitB c l)) 9)) = some (slc K.n 0 n n, M.set K.n (.cells true false 1 (txs (splitB c l)) 9)) := by
      rw [hin]
      exact a_slsl (AHeap.get_set_same hget _) (m := n) (hh := n) (l := 0) rfl (by simp [bndA]) rfl |>.trans (by simp)
    simp (disch := first | assumption | omega | (simp only [LN] <;> omega) | (simp (disch := first | assumption | omega | (simp only [LN] <;> omega)) only [row_alloc, row_set]; assumption)) only [W_block, P3, ↓reduceIte, reduceAdd, reduceEqDiff, reduceCtorEq, initFr, reduceLT, clsA, reduceLeDiff, reduceMul, reduceSub, reduceIte]
    refine hx 0 _ _ ?_
    simp (disch := first | assumption | omega | (simp only [LN] <;> omega) | (simp (disch := first | assumption | omega | (simp only [LN] <;> omega)) only [row_alloc, row_set]; assumption)) only [W_block, P3, ↓reduceIte, reduceAdd, reduceEqDiff, reduceCtorEq, initFr, reduceLT, clsA, reduceLeDiff, reduceMul, reduceSub, reduceIte, hget, Int.toNat_natCast, Nat.mul_one, Nat.zero_add, hnew, w5, hsl2]
    refine hq2 _ _ ⟨_, rfl, hk.set (Nat.le_refl _) hb _, .inr ⟨K.n, false, ?_, by rw [txs_len, hn]; omega, AHeap.get_set_same hget _⟩, (fun b hb => by have h2 : some K.n = some b := hb; cases h2; exact Nat.le_refl _)⟩
    rw [hn]; rfl
theorem t42 (H : AHeap) (l : List UInt8) (c : UInt8) (hl : l.length ≤ 1000000) : ∃ w K, ARun Go.Proofs.Tryd.prog 4 42 [.string ⟨l.toArray⟩, .string ⟨[c].toArray⟩] H w K ∧ Keeps H K ∧ AP K 9 1 w (splitB c l).length (txs (splitB c l)) ∧ Fresh H.n w := by
  refine walk2 f42_ok f42_n ?_
  intro Q hq1 hq2
  simp (disch := first | assumption | omega | (simp only [LN] <;> omega) | (simp (disch := first | assumption | omega | (simp only [LN] <;> omega)) only [row_alloc, row_set]; assumption)) only [f42, W_block, P3, ↓reduceIte, reduceAdd, reduceEqDiff, reduceCtorEq, initFr, reduceLT, clsA, reduceLeDiff, reduceMul, reduceSub, reduceIte]
  refine callK (t58 H l c hl) ?_
  rintro w K h
  simp (disch := first | assumption | omega | (simp only [LN] <;> omega) | (simp (disch := first | assumption | omega | (simp only [LN] <;> omega)) only [row_alloc, row_set]; assumption)) only [W_block, P3, ↓reduceIte, reduceAdd, reduceEqDiff, reduceCtorEq, initFr, reduceLT, clsA, reduceLeDiff, reduceMul, reduceSub, reduceIte]
  exact hq2 _ _ ⟨_, rfl, h⟩
theorem t18 (H : AHeap) (l : List UInt8) (hl : l.length ≤ 1000000) : ∃ w K, ARun Go.Proofs.Tryd.prog 4 18 [.string ⟨l.toArray⟩] H w K ∧ Keeps H K ∧ AP K 9 1 w (splitB 10 l).length (txs (splitB 10 l)) ∧ Fresh H.n w := by
  refine walk2 f18_ok f18_n ?_
  intro Q hq1 hq2
  simp (disch := first | assumption | omega | (simp only [LN] <;> omega) | (simp (disch := first | assumption | omega | (simp only [LN] <;> omega)) only [row_alloc, row_set]; assumption)) only [f18, W_block, P3, ↓reduceIte, reduceAdd, reduceEqDiff, reduceCtorEq, initFr, reduceLT, clsA, reduceLeDiff, reduceMul, reduceSub, reduceIte]
  refine callK (t42 H l 10 hl) ?_
  rintro w K h
  simp (disch := first | assumption | omega | (simp only [LN] <;> omega) | (simp (disch := first | assumption | omega | (simp only [LN] <;> omega)) only [row_alloc, row_set]; assumption)) only [W_block, P3, ↓reduceIte, reduceAdd, reduceEqDiff, reduceCtorEq, initFr, reduceLT, clsA, reduceLeDiff, reduceMul, reduceSub, reduceIte]
  exact hq2 _ _ ⟨_, rfl, h⟩
end Go.AM.Fd

set_option linter.unusedSimpArgs false
set_option linter.unusedVariables false
namespace Go.AM.Fd
open Nat (reduceAdd reduceEqDiff reduceLT reduceLeDiff reduceMul reduceSub)
open Go.Proofs Go.AM.F
def ly0 : Ly := ⟨[], [], [], []⟩
def parseG (f : Ly → List UInt8 → Int × Ly) : Ly → List (List UInt8) → Nat → Ly × Int × Nat
  | L, [], _ => (L, 0, 0)
  | L, l :: r, i => if (f L l).1 = 0 then parseG f (f L l).2 r (i + 1) else (ly0, (f L l).1, i + 1)
def parseP (s : List UInt8) : Ly × Int × Nat := if 16384 < s.length then (ly0, 3, 0) else parseG lineP ly0 (splitB 10 s) 0
theorem secP_lim {L : Ly} (h : LyLim L) (ws : List (List UInt8)) (e : (secP L ws).1 = 0) : LyLim (secP L ws).2 := by
  unfold secP at e ⊢
  split
  · exact h
  · split
    · exact h
    · split
      · exact h
      · rename_i hn
        exact ⟨by have := h.s; simp; omega, h.p, h.g, h.r⟩
theorem partP_lim {L : Ly} (h : LyLim L) (ws : List (List UInt8)) (e : (partP L ws).1 = 0) : LyLim (partP L ws).2 := by
  unfold partP at e ⊢
  split
  · exact h
  · split
    · exact h
    · split
      · exact h
      · split
        · split
          · exact h
          · exact ⟨h.s, by have := h.p; simp; omega, h.g, h.r⟩
        · split
          · exact h
          · exact ⟨h.s, h.p, by have := h.g; simp; omega, h.r⟩
theorem routeP_lim {L : Ly} (h : LyLim L) (ws : List (List UInt8)) (e : (routeP L ws).1 = 0) : LyLim (routeP L ws).2 := by
  unfold routeP at e ⊢
  split
  · unfold routeQ at e ⊢
    split
    · exact h
    · split
      · exact h
      · split
        · split
          · exact h
          · exact ⟨h.s, h.p, h.g, by have := h.r; simp; omega⟩
        · exact h
  · exact h
theorem lineP_lim {L : Ly} (h : LyLim L) (l : List UInt8) (e : (lineP L l).1 = 0) : LyLim (lineP L l).2 := by
  unfold lineP lineW at e ⊢
  split
  · rename_i hok
    rw [if_pos hok] at e
    split
    · exact h
    · rename_i h0
      rw [if_neg h0] at e
      split
      · rename_i h1; rw [if_pos h1] at e; exact secP_lim h _ e
      · rename_i h1
        rw [if_neg h1] at e
        split
        · rename_i h2; rw [if_pos h2] at e; exact partP_lim h _ e
        · rename_i h2
          rw [if_neg h2] at e
          split
          · rename_i h3; rw [if_pos h3] at e; exact partP_lim h _ e
          · rename_i h3
            rw [if_neg h3] at e
            split
            · rename_i h4; rw [if_pos h4] at e; exact routeP_lim h _ e
            · exact h
  · exact h
theorem ly0_lim : LyLim ly0 := ⟨by simp [ly0], by simp [ly0], by simp [ly0], by simp [ly0]⟩
def nil4 : V4 := ⟨.slice none 0 0, .slice none 0 0, .slice none 0 0, .slice none 0 0⟩
theorem lyR0 (K : AHeap) : LyR K nil4 [] ly0 := ⟨Sl.nil _ _, Sl.nil _ _, Sl.nil _ _, Sl.nil _ _, rfl, by simp⟩
theorem splitB_lines {s : List UInt8} {i : Nat} (h : i < (splitB 10 s).length) : ((splitB 10 s).getD i []).length ≤ s.length := splitB_le 10 s _ (getD_mem h)
theorem BkR.lyS {B K K' : AHeap} {b mb : Nat} {u : V4} {xs : List RV} {L : Ly} {M : MB} {ex : List Th} {S : List Nat} (h : BkR B K b mb u xs L M ex) (c : Chg S K K') (hS : ∀ y ∈ S, y < B.n) : LyR K' u xs L := by
  have key : ∀ (i : Nat) (t : Th), (bkT b mb u xs L M ex)[i]? = some t → t.P K' := fun i t hi => by
    have hp := h.sep.at_ i hi
    refine t.st K K' hp c.n (fun y hy => c.get y (t.lt K hp y hy) (fun hm => ?_))
    have h1 := h.sep.gei i hi hy
    have h2 := hS y hm
    omega
  have a_s : AP K' 9 1 u.s L.s.length (L.s.map tRow).flatten := key 2 _ rfl
  have ap : AP K' 58 2 u.p L.p.length (L.p.map pRow).flatten := key 3 _ rfl
  have ag : AP K' 59 2 u.g L.g.length (L.g.map pRow).flatten := key 4 _ rfl
  have ar : AP K' 43 6 u.r xs.length (xs.map RV.row).flatten := key 5 _ rfl
  have ai : (thI xs).P K' := key 6 _ rfl
  exact ⟨a_s.sl (by intro r hr; obtain ⟨x, _, rfl⟩ := List.mem_map.1 hr; rfl) (by simp), ap.sl (by intro r hr; obtain ⟨x, _, rfl⟩ := List.mem_map.1 hr; rfl) (by simp), ag.sl (by intro r hr; obtain ⟨x, _, rfl⟩ := List.mem_map.1 hr; rfl) (by simp), ar.sl (by intro r hr; obtain ⟨x, _, rfl⟩ := List.mem_map.1 hr; rfl) (by simp), h.e, ai⟩
theorem resP {K : AHeap} {fr : List Value} {b e : Nat} {own room : Bool} {c : List Value} {x y : Value} (h1 : fr.getD 1 undef = ptr b 0) (h2 : fr.getD 2 undef = x) (h3 : fr.getD 3 undef = y) (hg : K.get b = some (.cells own room 4 c e)) (hl : c.length = 4) :
    resO [.cn 4 1, .t 2, .t 3] fr K = some (.tuple #[.agg c.toArray, x, y]) := by
  simp only [resO, resVs, RX.get, h1, h2, h3, cellnp, rangeA_e, hg, rng_full hl, Option.map_some]
  rfl
theorem _root_.Go.AM.SepH.adds {H K : AHeap} {ts us : List Th} (h : SepH H K ts) (hu : ∀ u ∈ us, u.P K ∧ u.F = []) : SepH H K (ts ++ us) := by
  refine ⟨⟨fun x hx => ?_, List.pairwise_append.2 ⟨h.sep.ap, ?_, fun x hx y hy b hb hb2 => ?_⟩⟩, h.k, fun x hx y hy => ?_⟩
  · rcases List.mem_append.1 hx with hx | hx
    · exact h.sep.all x hx
    · exact (hu x hx).1
  · refine List.pairwise_of_forall_mem_list fun x hx y hy b hb hb2 => ?_
    rw [(hu x hx).2] at hb; simp at hb
  · rw [(hu y hy).2] at hb2; simp at hb2
  · rcases List.mem_append.1 hx with hx | hx
    · exact h.ge x hx y hy
    · rw [(hu x hx).2] at hy; simp at hy
theorem parseG_step {f : Ly → List UInt8 → Int × Ly} {L : Ly} {ls : List (List UInt8)} {i : Nat} (h : i < ls.length) : parseG f L (ls.drop i) i = if (f L (ls.getD i [])).1 = 0 then parseG f (f L (ls.getD i [])).2 (ls.drop (i + 1)) (i + 1) else (ly0, (f L (ls.getD i [])).1, i + 1) := by
  rw [List.drop_eq_getElem_cons h]
  simp only [parseG, List.getD, List.getElem?_eq_getElem h, Option.getD_some]
set_option maxHeartbeats 2000000 in
theorem t9 (H : AHeap) (s : List UInt8) :
    ∃ w K, ARun Go.Proofs.Tryd.prog 4 9 [.string ⟨s.toArray⟩] H w K ∧ Keeps H K ∧ ∃ u xs, w = .tuple #[.agg u.l.toArray, .int .i64 (parseP s).2.1, .int .i64 ((parseP s).2.2 : Nat)] ∧ LyR K u xs (parseP s).1 := by
  refine walk2 f9_ok f9_n ?_
  intro Q hq1 hq2
  have kh : Keeps H (H.alloc (.cells true false 4 [.slice none 0 0, .slice none 0 0, .slice none 0 0, .slice none 0 0] 28)) := (Keeps.refl H).alloc _
  have gh : (H.alloc (.cells true false 4 [.slice none 0 0, .slice none 0 0, .slice none 0 0, .slice none 0 0] 28)).get H.n = _ := AHeap.get_alloc_new _ _
  by_cases hlen : 16384 < s.length
  · have e1 : (16384 : Int) < ((s.length : Nat) : Int) := by omega
    have ep : parseP s = (ly0, 3, 0) := by unfold parseP; rw [if_pos hlen]
    simp (disch := first | assumption | omega | (simp only [LN] <;> omega) | (simp (disch := first | assumption | omega | (simp only [LN] <;> omega)) only [row_alloc, row_set]; assumption)) only [f9, W_block, P3, ↓reduceIte, reduceAdd, reduceEqDiff, reduceCtorEq, initFr, reduceLT, clsA, reduceLeDiff, reduceMul, reduceSub, reduceIte, a_lens]
    refine hq2 _ _ ⟨_, resP rfl rfl rfl gh rfl, kh, nil4, [], by rw [ep]; rfl, by rw [ep]; exact lyR0 _⟩
  have e1 : ¬ (16384 : Int) < ((s.length : Nat) : Int) := by omega
  have ep : parseP s = parseG lineP ly0 (splitB 10 s) 0 := by unfold parseP; rw [if_neg hlen]
  have hfb : fillA [.slice none 0 0, .slice none 0 0, .slice none 0 0, .slice none 0 0, .map none] [(4, 1, .map (some (H.n + 1)))] = some [.slice none 0 0, .slice none 0 0, .slice none 0 0, .slice none 0 0, .map (some (H.n + 1))] := rfl
  simp (disch := first | assumption | omega | (simp only [LN] <;> omega) | (simp (disch := first | assumption | omega | (simp only [LN] <;> omega)) only [row_alloc, row_set]; assumption)) only [f9, W_block, P3, ↓reduceIte, reduceAdd, reduceEqDiff, reduceCtorEq, initFr, reduceLT, clsA, reduceLeDiff, reduceMul, reduceSub, reduceIte, a_lens, a_mkmap, st_mkmap, hfb]
  have S0 : SepH (H.alloc (.cells true false 4 [.slice none 0 0, .slice none 0 0, .slice none 0 0, .slice none 0 0] 28)) _ [thM (H.n + 1) []] := (SepH.nil _).add ((Keeps.refl _).alloc (.obj true (.map #[] 0))) (MP.new _) (by simp [thM, AHeap.alloc])
  have S1 := (S0.box (bkO nil4 (H.n + 1))).adds (us := [thA 9 1 (.slice none 0 0) 0 [], thA 58 2 (.slice none 0 0) 0 [], thA 59 2 (.slice none 0 0) 0 [], thA 43 6 (.slice none 0 0) 0 [], thI []]) (by
    intro t ht
    simp only [List.mem_cons, List.not_mem_nil, or_false] at ht
    rcases ht with rfl | rfl | rfl | rfl | rfl
    · exact ⟨.inl ⟨rfl, rfl, rfl⟩, rfl⟩
    · exact ⟨.inl ⟨rfl, rfl, rfl⟩, rfl⟩
    · exact ⟨.inl ⟨rfl, rfl, rfl⟩, rfl⟩
    · exact ⟨.inl ⟨rfl, rfl, rfl⟩, rfl⟩
    · exact ⟨by intro x hx; simp at hx, rfl⟩)
  refine callK (t18 _ s (by omega)) ?_
  rintro vl K1 ⟨k1, al, fl⟩
  have S2 := (S1.add k1 (t := thA 9 1 vl (splitB 10 s).length (txs (splitB 10 s))) al (fun y hy => fl y (mem_blkL.1 hy))).perm (List.perm_append_comm (l₁ := [_]) (l₂ := [_, _, _, _, _, _, _]))
  have R0 : BkR _ K1 (H.n + 1 + 1) (H.n + 1) nil4 [] ly0 [] [thA 9 1 vl (splitB 10 s).length (txs (splitB 10 s))] := ⟨S2, rfl, fun n => rfl⟩
  clear S0 S1 S2
  generalize H.alloc (.cells true false 4 [.slice none 0 0, .slice none 0 0, .slice none 0 0, .slice none 0 0] 28) = K0 at *
  have la : lenS vl = (splitB 10 s).length := (AP.tl al).len
  have ia := Sl.is (AP.tl al)
  have nl : (splitB 10 s).length ≤ s.length + 1 := splitB_len 10 s
  simp (disch := first | assumption | omega | (simp only [LN] <;> omega) | (simp (disch := first | assumption | omega | (simp only [LN] <;> omega)) only [row_alloc, row_set]; assumption)) only [ P3, ↓reduceIte, reduceAdd, reduceEqDiff, reduceCtorEq, initFr, reduceLT, clsA, reduceLeDiff, reduceMul, reduceSub, reduceIte, la]
  rw [W_block]
  refine W_loop2 (fun k fr K => ∃ i u xs L M x5 x6 x7 x12 x13, fr = [.string ⟨s.toArray⟩, ptr H.n 0, .int .i64 0, .int .i64 0, ptr (H.n + 1 + 1) 0, x5, x6, x7, .bool false, vl, .int .i64 (((splitB 10 s).length : Nat) : Int), .int .i64 ((i : Nat) : Int), x12, x13] ∧ BkR K0 K (H.n + 1 + 1) (H.n + 1) u xs L M [thA 9 1 vl (splitB 10 s).length (txs (splitB 10 s))] ∧ LyLim L ∧ parseP s = parseG lineP L ((splitB 10 s).drop i) i ∧ i ≤ (splitB 10 s).length ∧ k = (splitB 10 s).length - i) (splitB 10 s).length
    ⟨0, _, _, _, _, _, _, _, _, _, rfl, R0, ly0_lim, by rw [ep, List.drop_zero], by omega, rfl⟩ ?_
  rintro Q' k fr K ⟨i, u, xs, L, M, x5, x6, x7, x12, x13, rfl, R, hL, hp, hi, rfl⟩ hn hx hret
  have gK := R.sep.k.at_ gh
  have kK := kh.trans R.sep.k
  have hv : TL K vl (splitB 10 s) := AP.tl (R.sep.at_ 7 rfl)
  by_cases hlt : i < (splitB 10 s).length
  · obtain ⟨na, ra⟩ := hv.at_ hlt
    have h0 : (0 : Int) ≤ (i : Int) := by omega
    have h1 : (i : Int) < ((lenS vl : Nat) : Int) := by omega
    have h3 : (i : Int) < (((splitB 10 s).length : Nat) : Int) := by omega
    have hw : IntKind.i64.wrap ((i : Int) + 1) = ((i + 1 : Nat) : Int) := by rw [wrap_i64 (by omega) (by omega)]; simp
    have hll := splitB_lines hlt
    rw [parseG_step hlt] at hp
    unfold tRow at ra
    generalize (splitB 10 s).getD i [] = l at *
    simp (disch := first | assumption | omega | (simp only [LN] <;> omega) | (simp (disch := first | assumption | omega | (simp only [LN] <;> omega)) only [row_alloc, row_set]; assumption)) only [W_block, P3, ↓reduceIte, reduceAdd, reduceEqDiff, reduceCtorEq, initFr, reduceLT, clsA, reduceLeDiff, reduceMul, reduceSub, reduceIte, la, ra, na, a_load1v]
    refine callK (t19 R l (by omega) hL) ?_
    rintro _ K2 ⟨rfl, r2, k2⟩
    by_cases he : (lineP L l).1 = 0
    · obtain ⟨u', xs', M', R'⟩ := r2 he
      rw [if_pos he] at hp
      rw [he]
      have e0 : ((0 : Int) != 0) = false := rfl
      simp (disch := first | assumption | omega | (simp only [LN] <;> omega) | (simp (disch := first | assumption | omega | (simp only [LN] <;> omega)) only [row_alloc, row_set]; assumption)) only [W_block, P3, ↓reduceIte, reduceAdd, reduceEqDiff, reduceCtorEq, initFr, reduceLT, clsA, reduceLeDiff, reduceMul, reduceSub, reduceIte, e0, hw]
      exact hn _ _ _ ⟨i + 1, _, _, _, _, _, _, _, _, _, rfl, R', lineP_lim hL l he, hp, by omega, rfl⟩ (by omega)
    · rw [if_neg he] at hp
      have e0 : ((lineP L l).1 != 0) = true := bnei_yes he
      have g2 := k2.at_ gh
      simp (disch := first | assumption | omega | (simp only [LN] <;> omega) | (simp (disch := first | assumption | omega | (simp only [LN] <;> omega)) only [row_alloc, row_set]; assumption)) only [W_block, P3, ↓reduceIte, reduceAdd, reduceEqDiff, reduceCtorEq, initFr, reduceLT, clsA, reduceLeDiff, reduceMul, reduceSub, reduceIte, e0, hw, fill0, g2]
      refine hret _ _ (hq2 _ _ ⟨_, resP rfl rfl rfl (AHeap.get_set_same g2 _) rfl, ?_, nil4, [], ?_, ?_⟩)
      · exact (kh.trans k2).set (Nat.le_refl _) (AHeap.get_lt g2) _
      · rw [hp]; rfl
      · rw [hp]; exact lyR0 _
  · have h3 : ¬ (i : Int) < (((splitB 10 s).length : Nat) : Int) := by omega
    simp (disch := first | assumption | omega | (simp only [LN] <;> omega) | (simp (disch := first | assumption | omega | (simp only [LN] <;> omega)) only [row_alloc, row_set]; assumption)) only [W_block, P3, ↓reduceIte, reduceAdd, reduceEqDiff, reduceCtorEq, initFr, reduceLT, clsA, reduceLeDiff, reduceMul, reduceSub, reduceIte, la]
    refine hx 0 _ _ ?_
    rw [List.drop_of_length_le (by omega)] at hp
    have gb := R.gb
    simp only [bkO] at gb
    have us := Sl.one R.ly.s
    have up := Sl.one R.ly.p
    have ug := Sl.one R.ly.g
    have ur := Sl.one R.ly.r
    have os : one1 u.s = True := by simp [one1, us]
    have op : one1 u.p = True := by simp [one1, up]
    have og : one1 u.g = True := by simp [one1, ug]
    have or := Sl.one R.ly.r
    have ho4 : [u.s, u.p, u.g, u.r].all Value.oneCell' = true := by simp only [List.all_cons, List.all_nil, us, up, ug, ur]; rfl
    simp (disch := first | assumption | omega | (simp only [LN] <;> omega) | (simp (disch := first | assumption | omega | (simp only [LN] <;> omega)) only [row_alloc, row_set]; assumption)) only [W_block, P3, ↓reduceIte, reduceAdd, reduceEqDiff, reduceCtorEq, initFr, reduceLT, clsA, reduceLeDiff, reduceMul, reduceSub, reduceIte, gb, gK, ho4]
    refine hq2 _ _ ⟨_, resP rfl rfl rfl (AHeap.get_set_same gK _) rfl, ?_, u, xs, ?_, ?_⟩
    · exact kK.set (Nat.le_refl _) (AHeap.get_lt gK) _
    · rw [hp]; rfl
    · rw [hp]
      exact R.lyS (Chg.set K (AHeap.get_lt gK) _) (fun y hy => by
        simp only [List.mem_singleton] at hy; subst hy; exact AHeap.get_lt gh)
end Go.AM.Fd

set_option linter.unusedSimpArgs false
set_option linter.unusedVariables false
namespace Go.AM.Fd
open Nat (reduceAdd reduceEqDiff reduceLT reduceLeDiff reduceMul reduceSub)
open Go.Proofs Go.AM.F
def wkA : List UInt8 := [115, 101, 99, 116, 105, 111, 110, 32, 65, 10, 115, 101, 99, 116, 105, 111, 110, 32, 66, 10, 112, 111, 105, 110, 116, 32, 80, 32, 66, 10, 115, 105, 103, 110, 97, 108, 32, 71, 32, 65, 10, 114, 111, 117, 116, 101, 32, 82, 32, 71, 32, 58, 32, 66, 32, 58, 32, 80, 43, 32, 58, 32, 58]
def wkB : List UInt8 := [115, 101, 99, 116, 105, 111, 110, 32, 65, 10, 115, 101, 99, 116, 105, 111, 110, 32, 65]
theorem wkA_p : parseP wkA = (⟨[[65], [66]], [([80], 1)], [([71], 0)], [⟨[82], 0, [1], [(0, false)], [], []⟩]⟩, 0, 0) := by rfl
theorem wkB_p : (parseP wkB).2 = (41, 2) := by rfl
set_option maxHeartbeats 1000000 in
theorem t8 (H : AHeap) : ∃ w K, ARun Go.Proofs.Tryd.prog 4 8 [] H w K ∧ w = .bool true ∧ Keeps H K := by
  refine walk2 f8_ok f8_n ?_
  intro Q hq1 hq2
  simp (disch := first | assumption | omega | (simp only [LN] <;> omega) | (simp (disch := first | assumption | omega | (simp only [LN] <;> omega)) only [row_alloc, row_set]; assumption)) only [f8, W_block, P3, ↓reduceIte, reduceAdd, reduceEqDiff, reduceCtorEq, initFr, reduceLT, clsA, reduceLeDiff, reduceMul, reduceSub, reduceIte]
  refine callK (t9 _ wkA) ?_
  rintro _ K1 ⟨k1, u, xs, rfl, y⟩
  rw [wkA_p] at y ⊢
  obtain ⟨us, up, ug, ur⟩ := u
  have vs := Sl.one y.s
  have vp := Sl.one y.p
  have vg := Sl.one y.g
  have vr := Sl.one y.r
  have ho4 : [us, up, ug, ur].all Value.oneCell' = true := by simp only [List.all_cons, List.all_nil, vs, vp, vg, vr]; rfl
  simp only [V4.l] at *
  simp (disch := first | assumption | omega | (simp only [LN] <;> omega) | (simp (disch := first | assumption | omega | (simp only [LN] <;> omega)) only [row_alloc, row_set]; assumption)) only [W_block, P3, ↓reduceIte, reduceAdd, reduceEqDiff, reduceCtorEq, initFr, reduceLT, clsA, reduceLeDiff, reduceMul, reduceSub, reduceIte, ho4]
  refine callK (t9 _ wkB) ?_
  rintro _ K2 ⟨k2, u2, xs2, rfl, y2⟩
  rw [wkB_p]
  obtain ⟨us2, up2, ug2, ur2⟩ := u2
  have vs2 := Sl.one y2.s
  have vp2 := Sl.one y2.p
  have vg2 := Sl.one y2.g
  have vr2 := Sl.one y2.r
  have ho42 : [us2, up2, ug2, ur2].all Value.oneCell' = true := by simp only [List.all_cons, List.all_nil, vs2, vp2, vg2, vr2]; rfl
  simp only [V4.l] at *
  have g1 : K2.get K1.n = some (.cells true false 4 [us, up, ug, ur] 28) := k2.at_ (AHeap.get_alloc_new _ _)
  have kk : Keeps K1 K2 := ((Keeps.refl K1).alloc _).trans k2
  have y3 := y.keeps (kk.alloc (.cells true false 4 [us2, up2, ug2, ur2] 28))
  have ls : lenS us = 2 := y3.s.len
  have lr : lenS ur = 1 := by have := y3.r.len; rw [y3.rlen] at this; exact this
  have is := Sl.is y3.s
  have ir := Sl.is y3.r
  obtain ⟨nr, rr⟩ := y3.r.at_ (i := 0) (by rw [y3.rlen]; decide)
  obtain ⟨ox, ex⟩ := y3.rat (i := 0) (by decide)
  generalize xs.getD 0 rv0 = x at *
  obtain ⟨xr, xp, xq, xo, xf⟩ := x
  have ex' : xr = ⟨[82], 0, [1], [(0, false)], [], []⟩ := ex
  subst ex'
  have hlt := AHeap.get_lt g1
  have i1 : ((1 : Nat) : Int) = 1 := rfl
  have i2 : ((2 : Nat) : Int) = 2 := rfl
  have ip := Sl.is ox.p
  have iq := Sl.is ox.q
  have lp : lenS xp = 1 := ox.p.len
  have lq : lenS xq = 1 := ox.q.len
  obtain ⟨np, rp⟩ := ox.p.at_ (i := 0) (by simp)
  obtain ⟨nq, rq⟩ := ox.q.at_ (i := 0) (by simp)
  simp only [RV.row] at rr
  have t0 : Int.toNat 0 = 0 := rfl
  have c0 : (0 : Int) ≤ 0 := by omega
  have c1 : (0 : Int) < ((lenS ur : Nat) : Int) := by omega
  have c2 : (0 : Int) < ((lenS xp : Nat) : Int) := by omega
  have c3 : (0 : Int) < ((lenS xq : Nat) : Int) := by omega
  simp (disch := first | assumption | omega | (simp only [LN] <;> omega) | (simp (disch := first | assumption | omega | (simp only [LN] <;> omega)) only [row_alloc, row_set]; assumption)) only [W_block, P3, ↓reduceIte, reduceAdd, reduceEqDiff, reduceCtorEq, initFr, reduceLT, clsA, reduceLeDiff, reduceMul, reduceSub, reduceIte, ho42, g1, ls, lr, nr, rr, np, rp, nq, rq, t0, a_load1v, lp, lq, i1, i2]
  exact hq2 _ _ ⟨_, rfl, rfl, ((Keeps.refl H).trans k1).trans (kk.alloc _)⟩
end Go.AM.Fd

set_option linter.unusedSimpArgs false
set_option linter.unusedVariables false
namespace Go.AM.Fd
open Nat (reduceAdd reduceEqDiff reduceLT reduceLeDiff reduceMul reduceSub)
open Go.Proofs Go.AM.F
theorem full_not {L : Ly} (h : fullB L = false) : LyLim L := by
  simp only [fullB, Bool.or_eq_false_iff, decide_eq_false_iff_not] at h
  exact ⟨by omega, by omega, by omega, by omega⟩
theorem ly_ones {H : AHeap} {u : V4} {xs : List RV} {L : Ly} (h : LyR H u xs L) : u.l.all Value.oneCell' = true := by
  simp only [V4.l, List.all_cons, List.all_nil, Sl.one h.s, Sl.one h.p, Sl.one h.g, Sl.one h.r]; rfl
end Go.AM.Fd

set_option linter.unusedSimpArgs false
set_option linter.unusedVariables false
namespace Go.AM.Fd
open Nat (reduceAdd reduceEqDiff reduceLT reduceLeDiff reduceMul reduceSub)
open Go.Proofs Go.AM.F
def dT (u : V4) (xs : List RV) (L : Ly) (ex : List Th) : List Th :=
  thA 9 1 u.s L.s.length (L.s.map tRow).flatten :: thA 58 2 u.p L.p.length (L.p.map pRow).flatten :: thA 59 2 u.g L.g.length (L.g.map pRow).flatten :: thA 43 6 u.r xs.length (xs.map RV.row).flatten :: thI xs :: ex
structure DR (B K : AHeap) (u : V4) (xs : List RV) (L : Ly) (ex : List Th) : Prop where
  sep : SepH B K (dT u xs L ex)
  e : xs.map (·.r) = L.r
theorem ly_of {K : AHeap} {u : V4} {xs : List RV} {L : Ly} (a1 : AP K 9 1 u.s L.s.length (L.s.map tRow).flatten) (a2 : AP K 58 2 u.p L.p.length (L.p.map pRow).flatten) (a3 : AP K 59 2 u.g L.g.length (L.g.map pRow).flatten) (a4 : AP K 43 6 u.r xs.length (xs.map RV.row).flatten) (a5 : (thI xs).P K) (e : xs.map (·.r) = L.r) : LyR K u xs L :=
  ⟨a1.sl (by intro r hr; obtain ⟨x, _, rfl⟩ := List.mem_map.1 hr; rfl) (by simp), a2.sl (by intro r hr; obtain ⟨x, _, rfl⟩ := List.mem_map.1 hr; rfl) (by simp), a3.sl (by intro r hr; obtain ⟨x, _, rfl⟩ := List.mem_map.1 hr; rfl) (by simp), a4.sl (by intro r hr; obtain ⟨x, _, rfl⟩ := List.mem_map.1 hr; rfl) (by simp), e, a5⟩
theorem DR.ly {B K : AHeap} {u : V4} {xs : List RV} {L : Ly} {ex : List Th} (h : DR B K u xs L ex) : LyR K u xs L :=
  ly_of (h.sep.at_ 0 rfl) (h.sep.at_ 1 rfl) (h.sep.at_ 2 rfl) (h.sep.at_ 3 rfl) (h.sep.at_ 4 rfl) h.e
theorem DR.keeps {B K K' : AHeap} {u : V4} {xs : List RV} {L : Ly} {ex : List Th} (h : DR B K u xs L ex) (k : Keeps K K') : DR B K' u xs L ex := ⟨h.sep.keeps k, h.e⟩
def gIx (L : Ly) (n : List UInt8) : Option Int := (ixT n (L.g.map (·.1))).map fun i => (i : Int)
def routeQD (L : Ly) (ws g0 g1 g2 g3 g4 : List (List UInt8)) : Int × Ly :=
  if g0.length ≠ 3 ∨ rightB (ws.getD 1 []) = false ∨ g2.all shpB = false ∨ g4.all shpB = false then (40, L)
  else if (ixT (ws.getD 1 []) (namesL L)).isSome then (41, L)
  else match gIx L (ws.getD 2 []), oAll (sIx L) g1, oAll (nIx L) g2, oAll (sIx L) g3, oAll (nIx L) g4 with
    | some s, some p, some q, some o, some f => if 16 < p.length ∨ 16 < q.length ∨ 16 < o.length ∨ 16 < f.length then (3, L) else (0, { L with r := L.r ++ [⟨ws.getD 1 [], s, p, q, o, f⟩] })
    | _, _, _, _, _ => (42, L)
def routeD (L : Ly) (ws : List (List UInt8)) : Int × Ly := match groupsB ws with
  | [g0, g1, g2, g3, g4] => routeQD L ws g0 g1 g2 g3 g4
  | _ => (40, L)
def lO (c : List Value) : AO := .cells true false 4 c 28
end Go.AM.Fd

set_option linter.unusedSimpArgs false
set_option linter.unusedVariables false
namespace Go.AM.Fd
open Nat (reduceAdd reduceEqDiff reduceLT reduceLeDiff reduceMul reduceSub)
open Go.Proofs Go.AM.F
def lineD0 (L : Ly) (ws : List (List UInt8)) : Int × Ly :=
  if ws.getD 0 [] = wRoute then (if ws.length < 2 then (40, L) else routeD L ws)
  else if ws.getD 0 [] = wSection then (if ws.length ≠ 2 ∨ rightB (ws.getD 1 []) = false then (40, L) else if (ixT (ws.getD 1 []) (namesL L)).isSome then (41, L) else (0, { L with s := L.s ++ [ws.getD 1 []] }))
  else if ws.getD 0 [] = wPoint then (if ws.length ≠ 3 ∨ rightB (ws.getD 1 []) = false then (40, L) else if (ixT (ws.getD 1 []) (namesL L)).isSome then (41, L) else match sIx L (ws.getD 2 []) with
    | none => (42, L)
    | some i => (0, { L with p := L.p ++ [(ws.getD 1 [], i)] }))
  else if ws.getD 0 [] = wSignal then (if ws.length ≠ 3 ∨ rightB (ws.getD 1 []) = false then (40, L) else if (ixT (ws.getD 1 []) (namesL L)).isSome then (41, L) else match sIx L (ws.getD 2 []) with
    | none => (42, L)
    | some i => (0, { L with g := L.g ++ [(ws.getD 1 [], i)] }))
  else (40, L)
end Go.AM.Fd

set_option linter.unusedSimpArgs false
set_option linter.unusedVariables false
namespace Go.AM.Fd
open Nat (reduceAdd reduceEqDiff reduceLT reduceLeDiff reduceMul reduceSub)
open Go.Proofs Go.AM.F
def lineDW (L : Ly) (ws : List (List UInt8)) : Int × Ly :=
  if ws.length = 0 then (0, L) else if (lineD0 L ws).1 = 0 then (if fullB (lineD0 L ws).2 then (3, L) else lineD0 L ws) else ((lineD0 L ws).1, L)
def lineD (L : Ly) (l : List UInt8) : Int × Ly := if okW (aheadB l) then lineDW L (wordsB (aheadB l)) else (30, L)
def parseD (s : List UInt8) : Ly × Int × Nat := if 16384 < s.length then (ly0, 3, 0) else parseG lineD ly0 (splitB 10 s) 0
theorem getD_len {ws : List (List UInt8)} {i n : Nat} (hw : ∀ w ∈ ws, w.length ≤ n) : (ws.getD i []).length ≤ n := by
  by_cases h : i < ws.length
  · exact hw _ (getD_mem h)
  · simp [List.getD, List.getElem?_eq_none (Nat.le_of_not_lt h)]
theorem mem_app1 {α : Type} {l : List α} {x : α} {p : α → Prop} (h1 : ∀ y ∈ l, p y) (h2 : p x) : ∀ y ∈ l ++ [x], p y := fun y hy => by
  rcases List.mem_append.1 hy with hy | hy
  · exact h1 y hy
  · rw [List.mem_singleton] at hy; subst hy; exact h2
theorem routeD_fit {L : Ly} (h : LyFit L) (hL : LyLim L) {ws : List (List UInt8)} (hw : ∀ w ∈ ws, w.length ≤ 1000000000) (e : (routeD L ws).1 = 0) : LyFit (routeD L ws).2 := by
  unfold routeD at e ⊢
  split
  · unfold routeQD at e ⊢
    split
    · exact h
    · split
      · exact h
      · split
        · split
          · exact h
          · rename_i hl
            refine ⟨h.s, h.p, h.g, ⟨by have := hL.r; simp; omega, mem_app1 h.r.2 ?_⟩⟩
            simp only [not_or, Nat.not_lt] at hl
            have := getD_len (i := 1) hw
            exact ⟨by simp only; omega, by simp only; omega, by simp only; omega, by simp only; omega, by simp only; omega⟩
        · exact h
  · exact h
theorem lineD0_fit {L : Ly} (h : LyFit L) (hL : LyLim L) {ws : List (List UInt8)} (hw : ∀ w ∈ ws, w.length ≤ 1000000000) (e : (lineD0 L ws).1 = 0) : LyFit (lineD0 L ws).2 := by
  have hg := getD_len (i := 1) hw
  have hs := hL.s
  have hp := hL.p
  have hg2 := hL.g
  unfold lineD0 at e ⊢
  split
  · rename_i h1
    rw [if_pos h1] at e
    split
    · exact h
    · rename_i h2; rw [if_neg h2] at e; exact routeD_fit h hL hw e
  · split
    · split
      · exact h
      · split
        · exact h
        · exact ⟨⟨by simp; omega, mem_app1 h.s.2 (by omega)⟩, h.p, h.g, h.r⟩
    · split
      · split
        · exact h
        · split
          · exact h
          · split
            · exact h
            · exact ⟨h.s, ⟨by simp; omega, mem_app1 h.p.2 (by simp only; omega)⟩, h.g, h.r⟩
      · split
        · split
          · exact h
          · split
            · exact h
            · split
              · exact h
              · exact ⟨h.s, h.p, ⟨by simp; omega, mem_app1 h.g.2 (by simp only; omega)⟩, h.r⟩
        · exact h
theorem ly0_fit : LyFit ly0 := ⟨⟨by simp [ly0], by simp [ly0]⟩, ⟨by simp [ly0], by simp [ly0]⟩, ⟨by simp [ly0], by simp [ly0]⟩, ⟨by simp [ly0], by simp [ly0]⟩⟩
theorem DR.lyS {B K K' : AHeap} {u : V4} {xs : List RV} {L : Ly} {ex : List Th} {S : List Nat} (h : DR B K u xs L ex) (c : Chg S K K') (hS : ∀ y ∈ S, y < B.n) : LyR K' u xs L := by
  have key : ∀ (i : Nat) (t : Th), (dT u xs L ex)[i]? = some t → t.P K' := fun i t hi => by
    have hp := h.sep.at_ i hi
    refine t.st K K' hp c.n (fun y hy => c.get y (t.lt K hp y hy) (fun hm => ?_))
    have h1 := h.sep.gei i hi hy
    have h2 := hS y hm
    omega
  exact ly_of (key 0 _ rfl) (key 1 _ rfl) (key 2 _ rfl) (key 3 _ rfl) (key 4 _ rfl) h.e
end Go.AM.Fd

set_option linter.unusedSimpArgs false
set_option linter.unusedVariables false
namespace Go.AM.Fd
open Nat (reduceAdd reduceEqDiff reduceLT reduceLeDiff reduceMul reduceSub)
open Go.Proofs Go.AM.F
theorem q_str (s : ByteArray) : binA .eql (.string s) (.string s) = some (.bool true) := by rw [b_seql]; simp
theorem q_ib (a : Int) (b : Bool) (X : AHeap) : asem (.eqs [1, 0] true (.agg #[.int .i64 a, .bool b]) (.agg #[.int .i64 a, .bool b])) X = some (.bool false, X) := by simp [asem, eqCs, eqC]
theorem q_si (a : ByteArray) (b : Int) (X : AHeap) : asem (.eqs [2, 1] true (.agg #[.string a, .int .i64 b]) (.agg #[.string a, .int .i64 b])) X = some (.bool false, X) := by simp [asem, eqCs, eqC]
theorem t50 {H : AHeap} {v u : Value} {l : List Int} (ha : IL H v l) (hb : IL H u l) (hl : l.length ≤ 9223372036854775807) : ∃ w H', ARun Go.Proofs.Tryd.prog 4 50 [v, u] H w H' ∧ w = .bool true ∧ H' = H := by
  refine walk2 f50_ok f50_n ?_
  intro Q hq1 hq2
  have ia := Sl.is ha
  have ib := Sl.is hb
  have la := ha.len
  have lb := hb.len
  have e1 : (((l.length : Nat) : Int) != ((l.length : Nat) : Int)) = false := bnei_no rfl
  simp (disch := first | assumption | omega | (simp only [LN] <;> omega) | (simp (disch := first | assumption | omega | (simp only [LN] <;> omega)) only [row_alloc, row_set]; assumption)) only [ f50, P3, ↓reduceIte, reduceAdd, reduceEqDiff, reduceCtorEq, initFr, reduceLT, clsA, reduceLeDiff, reduceMul, reduceSub, reduceIte, la, lb, e1]
  rw [W_block]
  refine W_loop2 (fun k fr K => ∃ i x2 x5 x6, fr = [v, u, x2, .int .i64 ((i : Nat) : Int), .bool false, x5, x6] ∧ K = H ∧ i ≤ l.length ∧ k = l.length - i) l.length
    ⟨0, _, _, _, rfl, rfl, by omega, rfl⟩ ?_
  rintro Q' k fr K ⟨i, x2, x5, x6, rfl, rfl, hi, rfl⟩ hn hx hret
  by_cases hlt : i < l.length
  · obtain ⟨na, ra⟩ := ha.at_ hlt
    obtain ⟨nb, rb⟩ := hb.at_ hlt
    have h0 : (0 : Int) ≤ (i : Int) := by omega
    have h1 : (i : Int) < ((lenS v : Nat) : Int) := by omega
    have h2 : (i : Int) < ((lenS u : Nat) : Int) := by omega
    have h3 : (i : Int) < ((l.length : Nat) : Int) := by omega
    have hw : IntKind.i64.wrap ((i : Int) + 1) = ((i + 1 : Nat) : Int) := by rw [wrap_i64 (by omega) (by omega)]; simp
    generalize l.getD i 0 = n at *
    have e2 : ∀ n : Int, (n != n) = false := fun n => bnei_no rfl
    simp (disch := first | assumption | omega | (simp only [LN] <;> omega) | (simp (disch := first | assumption | omega | (simp only [LN] <;> omega)) only [row_alloc, row_set]; assumption)) only [W_block, P3, ↓reduceIte, reduceAdd, reduceEqDiff, reduceCtorEq, initFr, reduceLT, clsA, reduceLeDiff, reduceMul, reduceSub, reduceIte, la, lb, ra, rb, na, nb, a_load1v, a_loadnvf, e2, q_ib, hw]
    exact hn _ _ _ ⟨i + 1, _, _, _, rfl, rfl, by omega, rfl⟩ (by omega)
  · have h3 : ¬ (i : Int) < ((l.length : Nat) : Int) := by omega
    simp (disch := first | assumption | omega | (simp only [LN] <;> omega) | (simp (disch := first | assumption | omega | (simp only [LN] <;> omega)) only [row_alloc, row_set]; assumption)) only [W_block, P3, ↓reduceIte, reduceAdd, reduceEqDiff, reduceCtorEq, initFr, reduceLT, clsA, reduceLeDiff, reduceMul, reduceSub, reduceIte, la, lb]
    refine hx 0 _ _ ?_
    simp (disch := first | assumption | omega | (simp only [LN] <;> omega) | (simp (disch := first | assumption | omega | (simp only [LN] <;> omega)) only [row_alloc, row_set]; assumption)) only [W_block, P3, ↓reduceIte, reduceAdd, reduceEqDiff, reduceCtorEq, initFr, reduceLT, clsA, reduceLeDiff, reduceMul, reduceSub, reduceIte]
    exact hq2 _ _ ⟨_, rfl, rfl, rfl⟩
theorem t51 {H : AHeap} {v u : Value} {l : List (Int × Bool)} (ha : NL H v l) (hb : NL H u l) (hl : l.length ≤ 9223372036854775807) : ∃ w H', ARun Go.Proofs.Tryd.prog 4 51 [v, u] H w H' ∧ w = .bool true ∧ H' = H := by
  refine walk2 f51_ok f51_n ?_
  intro Q hq1 hq2
  have ia := Sl.is ha
  have ib := Sl.is hb
  have la := ha.len
  have lb := hb.len
  have e1 : (((l.length : Nat) : Int) != ((l.length : Nat) : Int)) = false := bnei_no rfl
  simp (disch := first | assumption | omega | (simp only [LN] <;> omega) | (simp (disch := first | assumption | omega | (simp only [LN] <;> omega)) only [row_alloc, row_set]; assumption)) only [ f51, P3, ↓reduceIte, reduceAdd, reduceEqDiff, reduceCtorEq, initFr, reduceLT, clsA, reduceLeDiff, reduceMul, reduceSub, reduceIte, la, lb, e1]
  rw [W_block]
  refine W_loop2 (fun k fr K => ∃ i x2 x5 x6, fr = [v, u, x2, .int .i64 ((i : Nat) : Int), .bool false, x5, x6] ∧ K = H ∧ i ≤ l.length ∧ k = l.length - i) l.length
    ⟨0, _, _, _, rfl, rfl, by omega, rfl⟩ ?_
  rintro Q' k fr K ⟨i, x2, x5, x6, rfl, rfl, hi, rfl⟩ hn hx hret
  by_cases hlt : i < l.length
  · obtain ⟨na, ra⟩ := ha.at_ hlt
    obtain ⟨nb, rb⟩ := hb.at_ hlt
    have h0 : (0 : Int) ≤ (i : Int) := by omega
    have h1 : (i : Int) < ((lenS v : Nat) : Int) := by omega
    have h2 : (i : Int) < ((lenS u : Nat) : Int) := by omega
    have h3 : (i : Int) < ((l.length : Nat) : Int) := by omega
    have hw : IntKind.i64.wrap ((i : Int) + 1) = ((i + 1 : Nat) : Int) := by rw [wrap_i64 (by omega) (by omega)]; simp
    generalize l.getD i (0, false) = n at *
    have e2 : ∀ n : Int, (n != n) = false := fun n => bnei_no rfl
    simp (disch := first | assumption | omega | (simp only [LN] <;> omega) | (simp (disch := first | assumption | omega | (simp only [LN] <;> omega)) only [row_alloc, row_set]; assumption)) only [W_block, P3, ↓reduceIte, reduceAdd, reduceEqDiff, reduceCtorEq, initFr, reduceLT, clsA, reduceLeDiff, reduceMul, reduceSub, reduceIte, la, lb, ra, rb, na, nb, a_load1v, a_loadnvf, e2, q_ib, hw]
    exact hn _ _ _ ⟨i + 1, _, _, _, rfl, rfl, by omega, rfl⟩ (by omega)
  · have h3 : ¬ (i : Int) < ((l.length : Nat) : Int) := by omega
    simp (disch := first | assumption | omega | (simp only [LN] <;> omega) | (simp (disch := first | assumption | omega | (simp only [LN] <;> omega)) only [row_alloc, row_set]; assumption)) only [W_block, P3, ↓reduceIte, reduceAdd, reduceEqDiff, reduceCtorEq, initFr, reduceLT, clsA, reduceLeDiff, reduceMul, reduceSub, reduceIte, la, lb]
    refine hx 0 _ _ ?_
    simp (disch := first | assumption | omega | (simp only [LN] <;> omega) | (simp (disch := first | assumption | omega | (simp only [LN] <;> omega)) only [row_alloc, row_set]; assumption)) only [W_block, P3, ↓reduceIte, reduceAdd, reduceEqDiff, reduceCtorEq, initFr, reduceLT, clsA, reduceLeDiff, reduceMul, reduceSub, reduceIte]
    exact hq2 _ _ ⟨_, rfl, rfl, rfl⟩
set_option maxHeartbeats 1000000 in
theorem t25 {H : AHeap} {x y : RV} (hx : x.ok H) (hy : y.ok H) (e : x.r = y.r) (h1 : x.r.path.length ≤ 9223372036854775807) (h2 : x.r.pts.length ≤ 9223372036854775807) (h3 : x.r.ov.length ≤ 9223372036854775807) (h4 : x.r.fl.length ≤ 9223372036854775807) :
    ∃ w H', ARun Go.Proofs.Tryd.prog 4 25 [.agg x.row.toArray, .agg y.row.toArray] H w H' ∧ w = .bool true ∧ Keeps H H' := by
  refine walk2 f25_ok f25_n ?_
  intro Q hq1 hq2
  obtain ⟨r, xp, xq, xo, xf⟩ := x
  obtain ⟨r', yp, yq, yo, yf⟩ := y
  simp only at e
  subst e
  have k : ∀ o o', Keeps H ((H.alloc o).alloc o') := fun o o' => ((Keeps.refl H).alloc o).alloc o'
  have hx2 := hx.keeps (k (.cells true false 6 [.string ⟨r.n.toArray⟩, .int .i64 r.g, xp, xq, xo, xf] 43) (.cells true false 6 [.string ⟨r.n.toArray⟩, .int .i64 r.g, yp, yq, yo, yf] 43))
  have hy2 := hy.keeps (k (.cells true false 6 [.string ⟨r.n.toArray⟩, .int .i64 r.g, xp, xq, xo, xf] 43) (.cells true false 6 [.string ⟨r.n.toArray⟩, .int .i64 r.g, yp, yq, yo, yf] 43))
  have a1 : [.string ⟨r.n.toArray⟩, .int .i64 r.g, xp, xq, xo, xf].all Value.oneCell' = true := by
    simp only [List.all_cons, List.all_nil, Sl.one hx.p, Sl.one hx.q, Sl.one hx.o, Sl.one hx.f]; rfl
  have a2 : [.string ⟨r.n.toArray⟩, .int .i64 r.g, yp, yq, yo, yf].all Value.oneCell' = true := by
    simp only [List.all_cons, List.all_nil, Sl.one hy.p, Sl.one hy.q, Sl.one hy.o, Sl.one hy.f]; rfl
  have g1 := k (.cells true false 6 [.string ⟨r.n.toArray⟩, .int .i64 r.g, xp, xq, xo, xf] 43) (.cells true false 6 [.string ⟨r.n.toArray⟩, .int .i64 r.g, yp, yq, yo, yf] 43)
  have eq1 : ∀ n : Int, (n == n) = true := fun n => beqi_yes rfl
  simp only [RV.row] at *
  simp (disch := first | assumption | omega | (simp only [LN] <;> omega) | (simp (disch := first | assumption | omega | (simp only [LN] <;> omega)) only [row_alloc, row_set]; assumption)) only [f25, W_block, P3, ↓reduceIte, reduceAdd, reduceEqDiff, reduceCtorEq, initFr, reduceLT, clsA, reduceLeDiff, reduceMul, reduceSub, reduceIte, a1, a2, q_str, eq1]
  refine callK (t50 hx2.p hy2.p h1) ?_
  rintro _ X ⟨rfl, hX⟩
  rw [hX]
  simp (disch := first | assumption | omega | (simp only [LN] <;> omega) | (simp (disch := first | assumption | omega | (simp only [LN] <;> omega)) only [row_alloc, row_set]; assumption)) only [W_block, P3, ↓reduceIte, reduceAdd, reduceEqDiff, reduceCtorEq, initFr, reduceLT, clsA, reduceLeDiff, reduceMul, reduceSub, reduceIte]
  refine callK (t51 hx2.q hy2.q h2) ?_
  rintro _ X ⟨rfl, hX⟩
  rw [hX]
  simp (disch := first | assumption | omega | (simp only [LN] <;> omega) | (simp (disch := first | assumption | omega | (simp only [LN] <;> omega)) only [row_alloc, row_set]; assumption)) only [W_block, P3, ↓reduceIte, reduceAdd, reduceEqDiff, reduceCtorEq, initFr, reduceLT, clsA, reduceLeDiff, reduceMul, reduceSub, reduceIte]
  refine callK (t50 hx2.o hy2.o h3) ?_
  rintro _ X ⟨rfl, hX⟩
  rw [hX]
  simp (disch := first | assumption | omega | (simp only [LN] <;> omega) | (simp (disch := first | assumption | omega | (simp only [LN] <;> omega)) only [row_alloc, row_set]; assumption)) only [W_block, P3, ↓reduceIte, reduceAdd, reduceEqDiff, reduceCtorEq, initFr, reduceLT, clsA, reduceLeDiff, reduceMul, reduceSub, reduceIte]
  refine callK (t51 hx2.f hy2.f h4) ?_
  rintro _ X ⟨rfl, hX⟩
  rw [hX]
  simp (disch := first | assumption | omega | (simp only [LN] <;> omega) | (simp (disch := first | assumption | omega | (simp only [LN] <;> omega)) only [row_alloc, row_set]; assumption)) only [W_block, P3, ↓reduceIte, reduceAdd, reduceEqDiff, reduceCtorEq, initFr, reduceLT, clsA, reduceLeDiff, reduceMul, reduceSub, reduceIte]
  exact hq2 _ _ ⟨_, rfl, rfl, g1⟩
end Go.AM.Fd

set_option linter.unusedSimpArgs false
set_option linter.unusedVariables false
namespace Go.AM.Fd
open Nat (reduceAdd reduceEqDiff reduceLT reduceLeDiff reduceMul reduceSub)
open Go.Proofs Go.AM.F
set_option maxHeartbeats 4000000 in
theorem t11 {H : AHeap} {u u' : V4} {xs xs' : List RV} {L : Ly} (ha : LyR H u xs L) (hb : LyR H u' xs' L) (hf : LyIn 9223372036854775807 L) :
    ∃ w H', ARun Go.Proofs.Tryd.prog 4 11 [.agg u.l.toArray, .agg u'.l.toArray] H w H' ∧ w = .bool true ∧ Keeps H H' := by
  refine walk2 f11_ok f11_n ?_
  intro Q hq1 hq2
  have o1 := ly_ones ha
  have o2 := ly_ones hb
  have k0 : Keeps H ((H.alloc (lO u.l)).alloc (lO u'.l)) := ((Keeps.refl H).alloc _).alloc _
  have g1 : ((H.alloc (lO u.l)).alloc (lO u'.l)).get H.n = some (.cells true false 4 u.l 28) := (AHeap.get_alloc_old _ _ (by simp [AHeap.alloc])).trans (AHeap.get_alloc_new _ _)
  have g2 : ((H.alloc (lO u.l)).alloc (lO u'.l)).get (H.n + 1) = some (.cells true false 4 u'.l 28) := AHeap.get_alloc_new _ _
  have a1 := ha.keeps k0
  have b1 := hb.keeps k0
  simp only [lO] at k0 g1 g2 a1 b1
  have ll : ∀ u : V4, u.l.length = 4 := fun _ => rfl
  have s1 := Sl.is ha.p
  have s2 := Sl.is hb.p
  have s3 := Sl.is ha.g
  have s4 := Sl.is hb.g
  have s5 := Sl.is ha.r
  have s6 := Sl.is hb.r
  have l1 := ha.p.len
  have l2 := hb.p.len
  have l3 := ha.g.len
  have l4 := hb.g.len
  have l5 : lenS u.r = L.r.length := by rw [ha.r.len, ha.rlen]
  have l6 : lenS u'.r = L.r.length := by rw [hb.r.len, hb.rlen]
  have ne1 : ∀ n : Int, (n != n) = false := fun n => bnei_no rfl
  obtain ⟨us, up, ug, ur⟩ := u
  obtain ⟨vs, vp, vg, vr⟩ := u'
  simp only [V4.l] at *
  simp (disch := first | assumption | omega | (simp only [LN] <;> omega) | (simp (disch := first | assumption | omega | (simp only [LN] <;> omega)) only [row_alloc, row_set]; assumption)) only [f11, W_block, P3, ↓reduceIte, reduceAdd, reduceEqDiff, reduceCtorEq, initFr, reduceLT, clsA, reduceLeDiff, reduceMul, reduceSub, reduceIte, o1, o2]
  generalize (H.alloc (.cells true false 4 [us, up, ug, ur] 28)).alloc (.cells true false 4 [vs, vp, vg, vr] 28) = K0 at *
  have n1 := AHeap.get_lt g1
  have n2 := AHeap.get_lt g2
  refine callK (t24 a1.s b1.s hf.s.1) ?_
  rintro _ X ⟨rfl, hX⟩
  rw [hX, decide_eq_true rfl]
  simp (disch := first | assumption | omega | (simp only [LN] <;> omega) | (simp (disch := first | assumption | omega | (simp only [LN] <;> omega)) only [row_alloc, row_set]; assumption)) only [ P3, ↓reduceIte, reduceAdd, reduceEqDiff, reduceCtorEq, initFr, reduceLT, clsA, reduceLeDiff, reduceMul, reduceSub, reduceIte, g1, g2, l1, l2, l3, l4, l5, l6, ne1]
  rw [W_block]
  refine W_loop2 (fun k fr K => ∃ i x6 x7 x9 x10 x11 x12 x13 x14, fr = [.agg #[us, up, ug, ur], .agg #[vs, vp, vg, vr], ptr H.n 0, ptr (H.n + 1) 0, .bool false, .int .i64 ((i : Nat) : Int), x6, x7, .bool false, x9, x10, x11, x12, x13, x14] ∧ K0 = K ∧ i ≤ L.p.length ∧ k = L.p.length - i) L.p.length
    ⟨0, _, _, _, _, _, _, _, _, rfl, rfl, by omega, rfl⟩ ?_
  rintro Q5 k fr K ⟨i, x6, x7, x9, x10, x11, x12, x13, x14, rfl, rfl, hi, rfl⟩ hn hx hret
  by_cases hlt : i < L.p.length
  · obtain ⟨na, ra⟩ := a1.p.at_ hlt
    obtain ⟨nb, rb⟩ := b1.p.at_ hlt
    have h0 : (0 : Int) ≤ (i : Int) := by omega
    have h1 : (i : Int) < ((lenS up : Nat) : Int) := by omega
    have h2 : (i : Int) < ((lenS vp : Nat) : Int) := by omega
    have h3 : (i : Int) < ((L.p.length : Nat) : Int) := by omega
    have hfl := hf.p.1
    have hw : IntKind.i64.wrap ((i : Int) + 1) = ((i + 1 : Nat) : Int) := by rw [wrap_i64 (by omega) (by omega)]; simp
    simp (disch := first | assumption | omega | (simp only [LN] <;> omega) | (simp (disch := first | assumption | omega | (simp only [LN] <;> omega)) only [row_alloc, row_set]; assumption)) only [W_block, P3, ↓reduceIte, reduceAdd, reduceEqDiff, reduceCtorEq, initFr, reduceLT, clsA, reduceLeDiff, reduceMul, reduceSub, reduceIte, g1, g2, l1, l2, ra, rb, na, nb, a_loadnvf, q_si, hw]
    exact hn _ _ _ ⟨i + 1, _, _, _, _, _, _, _, _, rfl, rfl, by omega, rfl⟩ (by omega)
  have h3 : ¬ (i : Int) < ((L.p.length : Nat) : Int) := by omega
  simp (disch := first | assumption | omega | (simp only [LN] <;> omega) | (simp (disch := first | assumption | omega | (simp only [LN] <;> omega)) only [row_alloc, row_set]; assumption)) only [W_block, P3, ↓reduceIte, reduceAdd, reduceEqDiff, reduceCtorEq, initFr, reduceLT, clsA, reduceLeDiff, reduceMul, reduceSub, reduceIte, g1, g2, l1]
  refine hx 0 _ _ ?_
  clear hn hx hret
  simp (disch := first | assumption | omega | (simp only [LN] <;> omega) | (simp (disch := first | assumption | omega | (simp only [LN] <;> omega)) only [row_alloc, row_set]; assumption)) only [ P3, ↓reduceIte, reduceAdd, reduceEqDiff, reduceCtorEq, initFr, reduceLT, clsA, reduceLeDiff, reduceMul, reduceSub, reduceIte]
  rw [W_block]
  refine W_loop2 (fun k fr K => ∃ i x5 x7 x9 x10 x11 x12 x13 x14, fr = [.agg #[us, up, ug, ur], .agg #[vs, vp, vg, vr], ptr H.n 0, ptr (H.n + 1) 0, .bool false, x5, .int .i64 ((i : Nat) : Int), x7, .bool false, x9, x10, x11, x12, x13, x14] ∧ K0 = K ∧ i ≤ L.g.length ∧ k = L.g.length - i) L.g.length
    ⟨0, _, _, _, _, _, _, _, _, rfl, rfl, by omega, rfl⟩ ?_
  rintro Q6 k fr K ⟨i, x5, x7, x9, x10, x11, x12, x13, x14, rfl, rfl, hi, rfl⟩ hn hx hret
  by_cases hlt : i < L.g.length
  · obtain ⟨na, ra⟩ := a1.g.at_ hlt
    obtain ⟨nb, rb⟩ := b1.g.at_ hlt
    have h0 : (0 : Int) ≤ (i : Int) := by omega
    have h1 : (i : Int) < ((lenS ug : Nat) : Int) := by omega
    have h2 : (i : Int) < ((lenS vg : Nat) : Int) := by omega
    have h3 : (i : Int) < ((L.g.length : Nat) : Int) := by omega
    have hfl := hf.g.1
    have hw : IntKind.i64.wrap ((i : Int) + 1) = ((i + 1 : Nat) : Int) := by rw [wrap_i64 (by omega) (by omega)]; simp
    simp (disch := first | assumption | omega | (simp only [LN] <;> omega) | (simp (disch := first | assumption | omega | (simp only [LN] <;> omega)) only [row_alloc, row_set]; assumption)) only [W_block, P3, ↓reduceIte, reduceAdd, reduceEqDiff, reduceCtorEq, initFr, reduceLT, clsA, reduceLeDiff, reduceMul, reduceSub, reduceIte, g1, g2, l3, l4, ra, rb, na, nb, a_loadnvf, q_si, hw]
    exact hn _ _ _ ⟨i + 1, _, _, _, _, _, _, _, _, rfl, rfl, by omega, rfl⟩ (by omega)
  have h3 : ¬ (i : Int) < ((L.g.length : Nat) : Int) := by omega
  simp (disch := first | assumption | omega | (simp only [LN] <;> omega) | (simp (disch := first | assumption | omega | (simp only [LN] <;> omega)) only [row_alloc, row_set]; assumption)) only [W_block, P3, ↓reduceIte, reduceAdd, reduceEqDiff, reduceCtorEq, initFr, reduceLT, clsA, reduceLeDiff, reduceMul, reduceSub, reduceIte, g1, g2, l3]
  refine hx 2 _ _ ?_
  clear hn hx hret
  simp (disch := first | assumption | omega | (simp only [LN] <;> omega) | (simp (disch := first | assumption | omega | (simp only [LN] <;> omega)) only [row_alloc, row_set]; assumption)) only [ P3, ↓reduceIte, reduceAdd, reduceEqDiff, reduceCtorEq, initFr, reduceLT, clsA, reduceLeDiff, reduceMul, reduceSub, reduceIte]
  rw [W_block]
  refine W_loop2 (fun k fr K => ∃ i x5 x6 x9 x10 x11 x12 x13 x14, fr = [.agg #[us, up, ug, ur], .agg #[vs, vp, vg, vr], ptr H.n 0, ptr (H.n + 1) 0, .bool false, x5, x6, .int .i64 ((i : Nat) : Int), .bool false, x9, x10, x11, x12, x13, x14] ∧ Keeps K0 K ∧ i ≤ L.r.length ∧ k = L.r.length - i) L.r.length
    ⟨0, _, _, _, _, _, _, _, _, rfl, Keeps.refl _, by omega, rfl⟩ ?_
  rintro Q7 k fr K ⟨i, x5, x6, x9, x10, x11, x12, x13, x14, rfl, kk, hi, rfl⟩ hn hx hret
  have g1k := kk.at_ g1
  have g2k := kk.at_ g2
  by_cases hlt : i < L.r.length
  · have hlt1 : i < xs.length := by rw [ha.rlen]; exact hlt
    have hlt2 : i < xs'.length := by rw [hb.rlen]; exact hlt
    obtain ⟨na, ra⟩ := RL.at_ (a1.keeps kk).r hlt1
    obtain ⟨nb, rb⟩ := RL.at_ (b1.keeps kk).r hlt2
    obtain ⟨xok, xr⟩ := (a1.keeps kk).rat hlt
    obtain ⟨yok, yr⟩ := (b1.keeps kk).rat hlt
    have h0 : (0 : Int) ≤ (i : Int) := by omega
    have h1 : (i : Int) < ((lenS ur : Nat) : Int) := by omega
    have h2 : (i : Int) < ((lenS vr : Nat) : Int) := by omega
    have h3 : (i : Int) < ((L.r.length : Nat) : Int) := by omega
    have hfl := hf.r.1
    obtain ⟨f1, f2, f3, f4, f5⟩ := hf.r.2 _ (getD_mem (d := rv0.r) hlt)
    rw [← xr] at f1 f2 f3 f4 f5
    have hw : IntKind.i64.wrap ((i : Int) + 1) = ((i + 1 : Nat) : Int) := by rw [wrap_i64 (by omega) (by omega)]; simp
    have exy := xr.trans yr.symm
    generalize xs.getD i rv0 = x at *
    generalize xs'.getD i rv0 = y at *
    simp (disch := first | assumption | omega | (simp only [LN] <;> omega) | (simp (disch := first | assumption | omega | (simp only [LN] <;> omega)) only [row_alloc, row_set]; assumption)) only [W_block, P3, ↓reduceIte, reduceAdd, reduceEqDiff, reduceCtorEq, initFr, reduceLT, clsA, reduceLeDiff, reduceMul, reduceSub, reduceIte, g1k, g2k, l5, l6, ra, rb, na, nb, a_loadnvf]
    refine callK (t25 xok yok exy f2 f3 f4 f5) ?_
    rintro _ X ⟨rfl, kx⟩
    simp (disch := first | assumption | omega | (simp only [LN] <;> omega) | (simp (disch := first | assumption | omega | (simp only [LN] <;> omega)) only [row_alloc, row_set]; assumption)) only [W_block, P3, ↓reduceIte, reduceAdd, reduceEqDiff, reduceCtorEq, initFr, reduceLT, clsA, reduceLeDiff, reduceMul, reduceSub, reduceIte, hw]
    exact hn _ _ _ ⟨i + 1, _, _, _, _, _, _, _, _, rfl, kk.trans kx, by omega, rfl⟩ (by omega)
  have h3 : ¬ (i : Int) < ((L.r.length : Nat) : Int) := by omega
  simp (disch := first | assumption | omega | (simp only [LN] <;> omega) | (simp (disch := first | assumption | omega | (simp only [LN] <;> omega)) only [row_alloc, row_set]; assumption)) only [W_block, P3, ↓reduceIte, reduceAdd, reduceEqDiff, reduceCtorEq, initFr, reduceLT, clsA, reduceLeDiff, reduceMul, reduceSub, reduceIte, g1k, g2k, l5]
  refine hx 4 _ _ ?_
  simp (disch := first | assumption | omega | (simp only [LN] <;> omega) | (simp (disch := first | assumption | omega | (simp only [LN] <;> omega)) only [row_alloc, row_set]; assumption)) only [W_block, P3, ↓reduceIte, reduceAdd, reduceEqDiff, reduceCtorEq, initFr, reduceLT, clsA, reduceLeDiff, reduceMul, reduceSub, reduceIte]
  exact hq2 _ _ ⟨_, rfl, rfl, k0.trans kk⟩
end Go.AM.Fd

set_option linter.unusedSimpArgs false
set_option linter.unusedVariables false
namespace Go.AM.Fd
open Go.Proofs Go.AM.F
theorem ixT_cat (n : List UInt8) : ∀ (a b : List (List UInt8)), (ixT n (a ++ b)).isSome = ((ixT n a).isSome || (ixT n b).isSome)
  | [], b => by simp [ixT]
  | x :: a, b => by
    simp only [List.cons_append, ixT]
    split
    · simp
    · have := ixT_cat n a b
      cases h1 : ixT n (a ++ b) <;> cases h2 : ixT n a <;> cases h3 : ixT n b <;> simp_all
theorem nameOf_ix (L : Ly) (n : List UInt8) : (nameOf L n).isSome = (ixT n (namesL L)).isSome := by
  unfold namesL nameOf
  rw [ixT_cat, ixT_cat, ixT_cat]
  cases ixT n L.s with
  | some i => simp
  | none =>
    cases ixT n (L.p.map (·.1)) with
    | some i => simp
    | none =>
      cases ixT n (L.g.map (·.1)) with
      | some i => simp
      | none => cases ixT n (L.r.map (·.n)) <;> simp
structure Dj (L : Ly) : Prop where
  p : ∀ n, (ixT n (L.p.map (·.1))).isSome = true → ixT n L.s = none
  g : ∀ n, (ixT n (L.g.map (·.1))).isSome = true → ixT n L.s = none ∧ ixT n (L.p.map (·.1)) = none
theorem Dj.kp {L : Ly} (h : Dj L) (n : List UInt8) : kN 63 L n = pIx L n := by
  have h1 := h.p n
  unfold kN nameOf pIx
  cases hp : ixT n (L.p.map (·.1)) with
  | some i =>
    rw [hp] at h1
    rw [h1 rfl]; rfl
  | none =>
    cases hs : ixT n L.s with
    | some i => rfl
    | none =>
      cases hg : ixT n (L.g.map (·.1)) with
      | some i => rfl
      | none => cases hr : ixT n (L.r.map (·.n)) <;> rfl
theorem Dj.kg {L : Ly} (h : Dj L) (n : List UInt8) : kN 65 L n = gIx L n := by
  have h1 := h.g n
  unfold kN nameOf gIx
  cases hg : ixT n (L.g.map (·.1)) with
  | some i =>
    rw [hg] at h1
    rw [(h1 rfl).1, (h1 rfl).2]; rfl
  | none =>
    cases hs : ixT n L.s with
    | some i => rfl
    | none =>
      cases hp : ixT n (L.p.map (·.1)) with
      | some i => rfl
      | none => cases hr : ixT n (L.r.map (·.n)) <;> rfl
theorem nameOf_no {L : Ly} {n : List UInt8} (h : nameOf L n = none) : ixT n L.s = none ∧ ixT n (L.p.map (·.1)) = none ∧ ixT n (L.g.map (·.1)) = none := by
  unfold nameOf at h
  cases hs : ixT n L.s with
  | some i => rw [hs] at h; cases h
  | none =>
    cases hp : ixT n (L.p.map (·.1)) with
    | some i => rw [hs, hp] at h; cases h
    | none =>
      cases hg : ixT n (L.g.map (·.1)) with
      | some i => rw [hs, hp, hg] at h; cases h
      | none => exact ⟨rfl, rfl, rfl⟩
theorem ix_ne {n m : List UInt8} {l : List (List UInt8)} (h : ixT n l = none) (k : (ixT m l).isSome = true) : n ≠ m := fun e => by subst e; rw [h] at k; cases k
theorem Dj.addS {L : Ly} (h : Dj L) {n : List UInt8} (hn : nameOf L n = none) : Dj { L with s := L.s ++ [n] } := by
  obtain ⟨h1, h2, h3⟩ := nameOf_no hn
  refine ⟨fun m hm => ?_, fun m hm => ⟨?_, (h.g m hm).2⟩⟩
  · show ixT m (L.s ++ [n]) = none
    rw [ixT_app, h.p m hm, if_neg (ix_ne h2 hm)]
  · show ixT m (L.s ++ [n]) = none
    rw [ixT_app, (h.g m hm).1, if_neg (ix_ne h3 hm)]
theorem Dj.addP {L : Ly} (h : Dj L) {n : List UInt8} (i : Int) (hn : nameOf L n = none) : Dj { L with p := L.p ++ [(n, i)] } := by
  obtain ⟨h1, h2, h3⟩ := nameOf_no hn
  have e : (L.p ++ [(n, i)]).map (·.1) = L.p.map (·.1) ++ [n] := by simp
  refine ⟨fun m hm => ?_, fun m hm => ⟨(h.g m hm).1, ?_⟩⟩
  · have hm' : (ixT m ((L.p ++ [(n, i)]).map (·.1))).isSome = true := hm
    rw [e, ixT_app] at hm'
    cases hp : ixT m (L.p.map (·.1)) with
    | some j => exact h.p m (by rw [hp]; rfl)
    | none =>
      rw [hp] at hm'
      by_cases enm : n = m
      · subst enm; exact h1
      · simp [enm] at hm'
  · show ixT m ((L.p ++ [(n, i)]).map (·.1)) = none
    rw [e, ixT_app, (h.g m hm).2, if_neg (ix_ne h3 hm)]
theorem Dj.addG {L : Ly} (h : Dj L) {n : List UInt8} (i : Int) (hn : nameOf L n = none) : Dj { L with g := L.g ++ [(n, i)] } := by
  obtain ⟨h1, h2, h3⟩ := nameOf_no hn
  have e : (L.g ++ [(n, i)]).map (·.1) = L.g.map (·.1) ++ [n] := by simp
  refine ⟨h.p, fun m hm => ?_⟩
  have hm' : (ixT m ((L.g ++ [(n, i)]).map (·.1))).isSome = true := hm
  rw [e, ixT_app] at hm'
  cases hp : ixT m (L.g.map (·.1)) with
  | some j => exact h.g m (by rw [hp]; rfl)
  | none =>
    rw [hp] at hm'
    by_cases enm : n = m
    · subst enm; exact ⟨h1, h2⟩
    · simp [enm] at hm'
def EqL (a b : Int × Ly) : Prop := a.1 = b.1 ∧ (a.1 = 0 → a.2 = b.2 ∧ Dj a.2)
theorem EqL.err {L M : Ly} {e : Int} (h : e ≠ 0) : EqL (e, L) (e, M) := ⟨rfl, fun x => absurd x h⟩
def fulD (L : Ly) (a : Int × Ly) : Int × Ly := if a.1 = 0 then (if fullB a.2 then (3, L) else a) else (a.1, L)
theorem full_s {L : Ly} (h : LyLim L) (n : List UInt8) : fullB { L with s := L.s ++ [n] } = decide (L.s.length = 64) := by
  have h1 := h.s; have h2 := h.p; have h3 := h.g; have h4 := h.r
  simp only [fullB, List.length_append, List.length_singleton]
  by_cases e : L.s.length = 64
  · simp [e]
  · simp [e]; omega
theorem full_p {L : Ly} (h : LyLim L) (n : List UInt8 × Int) : fullB { L with p := L.p ++ [n] } = decide (L.p.length = 32) := by
  have h1 := h.s; have h2 := h.p; have h3 := h.g; have h4 := h.r
  simp only [fullB, List.length_append, List.length_singleton]
  by_cases e : L.p.length = 32
  · simp [e]
  · simp [e]; omega
theorem full_g {L : Ly} (h : LyLim L) (n : List UInt8 × Int) : fullB { L with g := L.g ++ [n] } = decide (L.g.length = 32) := by
  have h1 := h.s; have h2 := h.p; have h3 := h.g; have h4 := h.r
  simp only [fullB, List.length_append, List.length_singleton]
  by_cases e : L.g.length = 32
  · simp [e]
  · simp [e]; omega
theorem full_r {L : Ly} (h : LyLim L) (n : Ro) : fullB { L with r := L.r ++ [n] } = decide (L.r.length = 64) := by
  have h1 := h.s; have h2 := h.p; have h3 := h.g; have h4 := h.r
  simp only [fullB, List.length_append, List.length_singleton]
  by_cases e : L.r.length = 64
  · simp [e]
  · simp [e]; omega
theorem fulD_err {L M : Ly} {e : Int} (h : e ≠ 0) : fulD L (e, M) = (e, L) := by simp [fulD, h]
theorem fulD_ok {L M : Ly} : fulD L (0, M) = if fullB M then (3, L) else (0, M) := by simp [fulD]
theorem EqL.fe {L : Ly} (e : Int) (h : e ≠ 0) : EqL (e, L) (fulD L (e, L)) := by rw [fulD_err h]; exact .err h
theorem eq_routeQ {L : Ly} (hL : LyLim L) (hd : Dj L) (ws g0 g1 g2 g3 g4 : List (List UInt8)) : EqL (routeQ L ws g0 g1 g2 g3 g4) (fulD L (routeQD L ws g0 g1 g2 g3 g4)) := by
  unfold routeQ routeQD
  split
  · exact .fe 40 (by decide)
  · rw [nameOf_ix]
    split
    · exact .fe 41 (by decide)
    · rename_i hnm
      have e1 : ∀ l, oAll (kN 62 L) l = oAll (sIx L) l := fun l => oAll_congr fun x _ => kN_s L x
      have e2 : ∀ l, oAll (ne2 L) l = oAll (nIx L) l := fun l => oAll_congr fun x _ => by unfold ne2 nIx; rw [hd.kp]
      rw [e1, e1, e2, e2, hd.kg]
      cases gIx L (ws.getD 2 []) with
      | none => exact .fe 42 (by decide)
      | some s =>
      cases oAll (sIx L) g1 with
      | none => exact .fe 42 (by decide)
      | some p =>
      cases oAll (nIx L) g2 with
      | none => exact .fe 42 (by decide)
      | some q =>
      cases oAll (sIx L) g3 with
      | none => exact .fe 42 (by decide)
      | some o =>
      cases oAll (nIx L) g4 with
      | none => exact .fe 42 (by decide)
      | some f =>
      simp only
      by_cases h16 : 16 < p.length ∨ 16 < q.length ∨ 16 < o.length ∨ 16 < f.length
      · rw [if_pos (by omega), if_pos h16]; exact .fe 3 (by decide)
      · rw [if_neg h16, fulD_ok, full_r hL]
        by_cases h64 : L.r.length = 64
        · rw [if_pos (by omega), decide_eq_true h64]; exact .err (by decide)
        · rw [if_neg (by omega), decide_eq_false h64]
          exact ⟨rfl, fun _ => ⟨rfl, ⟨hd.p, hd.g⟩⟩⟩
theorem eq_route {L : Ly} (hL : LyLim L) (hd : Dj L) (ws : List (List UInt8)) : EqL (routeP L ws) (fulD L (routeD L ws)) := by
  unfold routeP routeD
  generalize groupsB ws = gs
  rcases gs with _ | ⟨g0, _ | ⟨g1, _ | ⟨g2, _ | ⟨g3, _ | ⟨g4, _ | ⟨g5, gs⟩⟩⟩⟩⟩⟩
  case cons.cons.cons.cons.cons.nil => exact eq_routeQ hL hd ws g0 g1 g2 g3 g4
  all_goals exact .fe 40 (by decide)
theorem bnone {α : Type} {o : Option α} (h : ¬ o.isSome = true) : o = none := by cases o <;> simp_all
theorem eq_sec {L : Ly} (hL : LyLim L) (hd : Dj L) (ws : List (List UInt8)) : EqL (secP L ws) (fulD L (if ws.length ≠ 2 ∨ rightB (ws.getD 1 []) = false then (40, L) else if (ixT (ws.getD 1 []) (namesL L)).isSome then (41, L) else (0, { L with s := L.s ++ [ws.getD 1 []] }))) := by
  unfold secP
  split
  · rw [fulD_err (by decide)]; exact .err (by decide)
  · rw [nameOf_ix]
    split
    · rw [fulD_err (by decide)]; exact .err (by decide)
    · rename_i hnm
      rw [← nameOf_ix] at hnm
      rw [fulD_ok, full_s hL]
      by_cases h64 : L.s.length = 64
      · rw [if_pos h64, decide_eq_true h64]; exact .err (by decide)
      · rw [if_neg h64, decide_eq_false h64]
        exact ⟨rfl, fun _ => ⟨rfl, hd.addS (bnone hnm)⟩⟩
theorem eq_point {L : Ly} (hL : LyLim L) (hd : Dj L) (ws : List (List UInt8)) (hw : ws.getD 0 [] = wPoint) : EqL (partP L ws) (fulD L (if ws.length ≠ 3 ∨ rightB (ws.getD 1 []) = false then (40, L) else if (ixT (ws.getD 1 []) (namesL L)).isSome then (41, L) else match sIx L (ws.getD 2 []) with
    | none => (42, L)
    | some i => (0, { L with p := L.p ++ [(ws.getD 1 [], i)] }))) := by
  unfold partP
  split
  · rw [fulD_err (by decide)]; exact .err (by decide)
  · rw [nameOf_ix]
    split
    · rw [fulD_err (by decide)]; exact .err (by decide)
    · rename_i hnm
      rw [← nameOf_ix] at hnm
      rw [kN_s]
      cases sIx L (ws.getD 2 []) with
      | none => simp only; rw [fulD_err (by decide)]; exact .err (by decide)
      | some i =>
        simp only [hw, if_true]
        rw [fulD_ok, full_p hL]
        by_cases h64 : L.p.length = 32
        · rw [if_pos h64, decide_eq_true h64]; exact .err (by decide)
        · rw [if_neg h64, decide_eq_false h64]
          exact ⟨rfl, fun _ => ⟨rfl, hd.addP i (bnone hnm)⟩⟩
theorem eq_signal {L : Ly} (hL : LyLim L) (hd : Dj L) (ws : List (List UInt8)) (hw : ws.getD 0 [] ≠ wPoint) : EqL (partP L ws) (fulD L (if ws.length ≠ 3 ∨ rightB (ws.getD 1 []) = false then (40, L) else if (ixT (ws.getD 1 []) (namesL L)).isSome then (41, L) else match sIx L (ws.getD 2 []) with
    | none => (42, L)
    | some i => (0, { L with g := L.g ++ [(ws.getD 1 [], i)] }))) := by
  unfold partP
  split
  · rw [fulD_err (by decide)]; exact .err (by decide)
  · rw [nameOf_ix]
    split
    · rw [fulD_err (by decide)]; exact .err (by decide)
    · rename_i hnm
      rw [← nameOf_ix] at hnm
      rw [kN_s]
      cases sIx L (ws.getD 2 []) with
      | none => simp only; rw [fulD_err (by decide)]; exact .err (by decide)
      | some i =>
        simp only [hw, if_false]
        rw [fulD_ok, full_g hL]
        by_cases h64 : L.g.length = 32
        · rw [if_pos h64, decide_eq_true h64]; exact .err (by decide)
        · rw [if_neg h64, decide_eq_false h64]
          exact ⟨rfl, fun _ => ⟨rfl, hd.addG i (bnone hnm)⟩⟩
theorem route_short {L : Ly} {ws : List (List UInt8)} (h : ws.length < 2) : routeP L ws = (40, L) := by
  unfold routeP
  split
  · rename_i g0 g1 g2 g3 g4 e
    have := (groups_mem (g := g0) (ts := ws) (by rw [e]; simp)).1
    unfold routeQ
    rw [if_pos (.inl (by omega))]
  · rfl
theorem eq_line {L : Ly} (hL : LyLim L) (hd : Dj L) (l : List UInt8) : EqL (lineP L l) (lineD L l) := by
  unfold lineP lineD
  cases hok : okW (aheadB l) with
  | false => exact .err (by decide)
  | true =>
  simp only [if_true]
  generalize wordsB (aheadB l) = ws
  unfold lineW lineDW
  by_cases h0 : ws.length = 0
  · rw [if_pos h0, if_pos h0]; exact ⟨rfl, fun _ => ⟨rfl, hd⟩⟩
  rw [if_neg h0, if_neg h0]
  have ef : (if (lineD0 L ws).1 = 0 then (if fullB (lineD0 L ws).2 then (3, L) else lineD0 L ws) else ((lineD0 L ws).1, L)) = fulD L (lineD0 L ws) := by unfold fulD; rfl
  rw [ef]
  have nR : wRoute ≠ wSection ∧ wRoute ≠ wPoint ∧ wRoute ≠ wSignal ∧ wSignal ≠ wPoint := by decide
  unfold lineD0
  by_cases hR : ws.getD 0 [] = wRoute
  · rw [if_neg (by rw [hR]; exact nR.1), if_neg (by rw [hR]; exact nR.2.1), if_neg (by rw [hR]; exact nR.2.2.1), if_pos hR, if_pos hR]
    by_cases h2 : ws.length < 2
    · rw [if_pos h2, fulD_err (by decide), route_short h2]; exact .err (by decide)
    · rw [if_neg h2]; exact eq_route hL hd ws
  rw [if_neg hR, if_neg hR]
  by_cases hS : ws.getD 0 [] = wSection
  · rw [if_pos hS, if_pos hS]; exact eq_sec hL hd ws
  rw [if_neg hS, if_neg hS]
  by_cases hP : ws.getD 0 [] = wPoint
  · rw [if_pos hP, if_pos hP]; exact eq_point hL hd ws hP
  rw [if_neg hP, if_neg hP]
  by_cases hG : ws.getD 0 [] = wSignal
  · rw [if_pos hG, if_pos hG]; exact eq_signal hL hd ws hP
  rw [if_neg hG, if_neg hG, fulD_err (by decide)]
  exact .err (by decide)
theorem eq_parseG : ∀ (ls : List (List UInt8)) (L : Ly) (i : Nat), LyLim L → Dj L → parseG lineP L ls i = parseG lineD L ls i
  | [], L, i, _, _ => rfl
  | l :: ls, L, i, hL, hd => by
    have h := eq_line hL hd l
    simp only [parseG, h.1]
    by_cases e : (lineD L l).1 = 0
    · have e' := h.1.trans e
      rw [if_pos e, if_pos e, (h.2 e').1]
      refine eq_parseG ls _ (i + 1) ?_ ?_
      · rw [← (h.2 e').1]; exact lineP_lim hL l e'
      · rw [← (h.2 e').1]; exact (h.2 e').2
    · rw [if_neg e, if_neg e]
theorem eq_parse (s : List UInt8) : parseP s = parseD s := by
  unfold parseP parseD
  split
  · rfl
  · exact eq_parseG _ _ _ ly0_lim ⟨fun n h => by simp [ly0, ixT] at h, fun n h => by simp [ly0, ixT] at h⟩
end Go.AM.Fd

set_option linter.unusedSimpArgs false
set_option linter.unusedVariables false
namespace Go.AM.Fd
open Nat (reduceAdd reduceEqDiff reduceLT reduceLeDiff reduceMul reduceSub)
open Go.Proofs Go.AM.F
theorem LyFit.in_ {L : Ly} (h : LyFit L) : LyIn 9223372036854775807 L :=
  ⟨⟨by have := h.s.1; omega, h.s.2⟩, ⟨by have := h.p.1; omega, h.p.2⟩, ⟨by have := h.g.1; omega, h.g.2⟩, ⟨by have := h.r.1; omega, h.r.2⟩⟩
theorem lineD_fit {L : Ly} (h : LyFit L) (hL : LyLim L) {l : List UInt8} (hl : l.length ≤ 1000000000) (e : (lineD L l).1 = 0) : LyFit (lineD L l).2 ∧ LyLim (lineD L l).2 := by
  have hw : ∀ w ∈ wordsB (aheadB l), w.length ≤ 1000000000 := fun w hm => by have := wordsB_mem hm; have := ahead_len l; omega
  unfold lineD at e ⊢
  split
  · rename_i hok
    rw [if_pos hok] at e
    unfold lineDW at e ⊢
    split
    · exact ⟨h, hL⟩
    · rename_i h0
      rw [if_neg h0] at e
      split
      · rename_i h1
        rw [if_pos h1] at e
        split
        · exact ⟨h, hL⟩
        · rename_i h2; exact ⟨lineD0_fit h hL hw h1, full_not (by simpa using h2)⟩
      · exact ⟨h, hL⟩
  · exact ⟨h, hL⟩
theorem parseG_fit : ∀ (ls : List (List UInt8)) (L : Ly) (i : Nat), (∀ l ∈ ls, l.length ≤ 1000000000) → LyFit L → LyLim L → LyFit (parseG lineD L ls i).1
  | [], L, i, _, h, _ => h
  | l :: ls, L, i, hl, h, hL => by
    simp only [parseG]
    split
    · rename_i e
      have := lineD_fit h hL (hl l (by simp)) e
      exact parseG_fit ls _ _ (fun x hx => hl x (by simp [hx])) this.1 this.2
    · exact ly0_fit
theorem parseD_fit (s : List UInt8) : LyFit (parseD s).1 := by
  unfold parseD
  split
  · exact ly0_fit
  · refine parseG_fit _ _ _ (fun l hl => ?_) ly0_fit ly0_lim
    have := splitB_le 10 s l hl
    omega
end Go.AM.Fd

set_option linter.unusedSimpArgs false
set_option linter.unusedVariables false
namespace Go.AM.Fd
open Go.Proofs Go.AM.F
theorem get_at (l : List UInt8) (i : Nat) : ((⟨l.toArray⟩ : ByteArray).get! i) = l.getD i 0 := by
  show l.toArray[i]! = _
  by_cases h : i < l.length
  · simp [List.getD, List.getElem?_eq_getElem h, h]
  · simp [List.getD, List.getElem?_eq_none (by omega : l.length ≤ i), h]
    rfl
def decL (l : List UInt8) : Nat × Nat :=
  let a (k : Nat) : Nat := (l.getD k 0).toNat
  let cont (k : Nat) : Bool := k < l.length && a k / 64 == 2
  let b0 := a 0
  if b0 < 0x80 then (b0, 1)
  else if b0 / 32 == 6 && cont 1 then
    let c := (b0 % 32) * 64 + a 1 % 64
    if c ≥ 0x80 then (c, 2) else (65533, 1)
  else if b0 / 16 == 14 && cont 1 && cont 2 then
    let c := (b0 % 16) * 4096 + (a 1 % 64) * 64 + a 2 % 64
    if c ≥ 0x800 && Utf8.valid c then (c, 3) else (65533, 1)
  else if b0 / 8 == 30 && cont 1 && cont 2 && cont 3 then
    let c := (b0 % 8) * 262144 + (a 1 % 64) * 4096 + (a 2 % 64) * 64 + a 3 % 64
    if c ≥ 0x10000 && Utf8.valid c then (c, 4) else (65533, 1)
  else (65533, 1)
theorem decB_L (l : List UInt8) (p : Nat) : decB l p = decL (l.drop p) := by
  unfold decB decL Utf8.decode
  have h1 : ∀ k, ((⟨l.toArray⟩ : ByteArray).get! (p + k)) = (l.drop p).getD k 0 := fun k => by
    rw [get_at]; simp only [List.getD, List.getElem?_drop]
  have h2 : ∀ k, decide (p + k < (⟨l.toArray⟩ : ByteArray).size) = decide (k < (l.drop p).length) := fun k => by
    rw [str_size, List.length_drop, decide_eq_decide]; omega
  simp only [h1, h2, Utf8.runeError]
structure GC (c : List UInt8) : Prop where
  ne : c ≠ []
  dec : ∃ r, (∀ rest, decL (c ++ rest) = (r, c.length)) ∧ 32 ≤ r ∧ (r = 65533 → c = [239, 191, 189])
  asc : (∃ b : UInt8, c = [b]) ∨ ∀ b ∈ c, 128 ≤ b.toNat
theorem dec1 {b0 : UInt8} (t : List UInt8) (h : b0.toNat < 128) : decL (b0 :: t) = (b0.toNat, 1) := by
  unfold decL
  simp only [List.getD_cons_zero]
  rw [if_pos h]
theorem dec2 {b0 b1 : UInt8} (t : List UInt8) (h0 : ¬ b0.toNat < 128) (h1 : (b0.toNat / 32 == 6) = true) (h2 : (b1.toNat / 64 == 2) = true) (h3 : (b0.toNat % 32) * 64 + b1.toNat % 64 ≥ 128) :
    decL (b0 :: b1 :: t) = ((b0.toNat % 32) * 64 + b1.toNat % 64, 2) := by
  unfold decL
  simp only [List.getD_cons_zero, List.getD_cons_succ]
  rw [if_neg h0, if_pos (by simp only [h1, h2, Bool.and_true, Bool.true_and, decide_eq_true_eq]; simp), if_pos h3]
theorem dec3 {b0 b1 b2 : UInt8} (t : List UInt8) (h0 : ¬ b0.toNat < 128) (h1 : (b0.toNat / 16 == 14) = true) (h2 : (b1.toNat / 64 == 2) = true) (h3 : (b2.toNat / 64 == 2) = true)
    (h4 : (decide ((b0.toNat % 16) * 4096 + (b1.toNat % 64) * 64 + b2.toNat % 64 ≥ 2048) && Utf8.valid ((b0.toNat % 16) * 4096 + (b1.toNat % 64) * 64 + b2.toNat % 64 : Nat)) = true) :
    decL (b0 :: b1 :: b2 :: t) = ((b0.toNat % 16) * 4096 + (b1.toNat % 64) * 64 + b2.toNat % 64, 3) := by
  have hx : (b0.toNat / 32 == 6) = false := by simp at h1 ⊢; omega
  unfold decL
  simp only [List.getD_cons_zero, List.getD_cons_succ]
  rw [if_neg h0, if_neg (by simp [hx]), if_pos (by simp only [h1, h2, h3, Bool.and_true, Bool.true_and, Bool.and_eq_true, decide_eq_true_eq]; constructor <;> simp), if_pos h4]
theorem dec_fffd (t : List UInt8) : decL (239 :: 191 :: 189 :: t) = (65533, 3) := dec3 (b0 := 239) (b1 := 191) (b2 := 189) t (by decide) (by decide) (by decide) (by decide) (by decide)
theorem gc_fffd : GC [239, 191, 189] := ⟨by simp, ⟨65533, fun rest => dec_fffd rest, by omega, fun _ => rfl⟩, .inr (by decide)⟩
theorem dec4 {b0 b1 b2 b3 : UInt8} (t : List UInt8) (h0 : ¬ b0.toNat < 128) (h1 : (b0.toNat / 8 == 30) = true) (h2 : (b1.toNat / 64 == 2) = true) (h3 : (b2.toNat / 64 == 2) = true) (h5 : (b3.toNat / 64 == 2) = true)
    (h4 : (decide ((b0.toNat % 8) * 262144 + (b1.toNat % 64) * 4096 + (b2.toNat % 64) * 64 + b3.toNat % 64 ≥ 65536) && Utf8.valid ((b0.toNat % 8) * 262144 + (b1.toNat % 64) * 4096 + (b2.toNat % 64) * 64 + b3.toNat % 64 : Nat)) = true) :
    decL (b0 :: b1 :: b2 :: b3 :: t) = ((b0.toNat % 8) * 262144 + (b1.toNat % 64) * 4096 + (b2.toNat % 64) * 64 + b3.toNat % 64, 4) := by
  have hx : (b0.toNat / 32 == 6) = false := by simp at h1 ⊢; omega
  have hy : (b0.toNat / 16 == 14) = false := by simp at h1 ⊢; omega
  unfold decL
  simp only [List.getD_cons_zero, List.getD_cons_succ]
  rw [if_neg h0, if_neg (by simp [hx]), if_neg (by simp [hy]), if_pos (by simp only [h1, h2, h3, h5, Bool.and_true, Bool.true_and, Bool.and_eq_true, decide_eq_true_eq]; refine ⟨⟨?_, ?_⟩, ?_⟩ <;> simp), if_pos h4]
theorem cont_at {l : List UInt8} {k : Nat} (h : (decide (k < l.length) && ((l.getD k 0).toNat / 64 == 2)) = true) : k < l.length ∧ ((l.getD k 0).toNat / 64 == 2) = true := by
  simpa [Bool.and_eq_true] using h
theorem two_of {b0 : UInt8} {t : List UInt8} (h : 2 < (b0 :: t).length) : ∃ b1 b2 t', t = b1 :: b2 :: t' := by
  match t with
  | b1 :: b2 :: t => exact ⟨b1, b2, t, rfl⟩
  | [x] => simp at h
  | [] => simp at h
theorem three_of {b0 : UInt8} {t : List UInt8} (h : 3 < (b0 :: t).length) : ∃ b1 b2 b3 t', t = b1 :: b2 :: b3 :: t' := by
  match t with
  | b1 :: b2 :: b3 :: t => exact ⟨b1, b2, b3, t, rfl⟩
  | [x, y] => simp at h
  | [x] => simp at h
  | [] => simp at h
theorem good_head {l : List UInt8} (hne : l ≠ []) (h32 : 32 ≤ (decL l).1) (hw : (decL l).1 = 65533 → [239, 191, 189].isPrefixOf l = true) : ∃ c rest, l = c ++ rest ∧ GC c ∧ c.length = (decL l).2 := by
  by_cases hr : (decL l).1 = 65533
  · obtain ⟨t, rfl⟩ := List.isPrefixOf_iff_prefix.1 (hw hr)
    exact ⟨[239, 191, 189], t, rfl, gc_fffd, by rw [show ([239, 191, 189] ++ t : List UInt8) = 239 :: 191 :: 189 :: t from rfl, dec_fffd]; rfl⟩
  · obtain ⟨r, w, hd⟩ : ∃ r w, decL l = (r, w) := ⟨_, _, rfl⟩
    rw [hd] at h32 hr ⊢
    simp only at h32 hr ⊢
    obtain ⟨b0, t, rfl⟩ : ∃ b0 t, l = b0 :: t := by
      cases l with
      | nil => exact absurd rfl hne
      | cons b t => exact ⟨b, t, rfl⟩
    unfold decL at hd
    simp only at hd
    split at hd
    · rename_i h0
      simp only [Prod.mk.injEq] at hd
      obtain ⟨rfl, rfl⟩ := hd
      simp only [List.getD_cons_zero] at h0 h32
      exact ⟨[b0], t, rfl, ⟨by simp, ⟨b0.toNat, fun rest => dec1 rest h0, h32, fun e => by omega⟩, .inl ⟨b0, rfl⟩⟩, rfl⟩
    · rename_i h0
      split at hd
      · rename_i h1
        rw [Bool.and_eq_true] at h1
        obtain ⟨k1, q1⟩ := cont_at h1.2
        split at hd
        · rename_i h3
          simp only [Prod.mk.injEq] at hd
          obtain ⟨rfl, rfl⟩ := hd
          obtain ⟨b1, t, rfl⟩ : ∃ b1 t', t = b1 :: t' := by
            cases t with
            | nil => simp at k1
            | cons b t => exact ⟨b, t, rfl⟩
          simp only [List.getD_cons_zero, List.getD_cons_succ] at h0 h1 q1 h3 h32 hr ⊢
          refine ⟨[b0, b1], t, rfl, ⟨by simp, ⟨_, fun rest => dec2 rest h0 h1.1 q1 h3, h32, fun e => absurd e hr⟩, .inr ?_⟩, rfl⟩
          intro b hb
          simp only [List.mem_cons, List.not_mem_nil, or_false] at hb
          rcases hb with rfl | rfl
          · omega
          · simp at q1; omega
        · simp only [Prod.mk.injEq] at hd; exact absurd hd.1.symm hr
      · split at hd
        · rename_i h1
          simp only [Bool.and_eq_true (a := _ && _)] at h1
          rw [Bool.and_eq_true] at h1
          obtain ⟨k1, q1⟩ := cont_at h1.1.2
          obtain ⟨k2, q2⟩ := cont_at h1.2
          split at hd
          · rename_i h3
            simp only [Prod.mk.injEq] at hd
            obtain ⟨e1, rfl⟩ := hd
            obtain ⟨b1, b2, t, rfl⟩ : ∃ b1 b2 t', t = b1 :: b2 :: t' := by
              exact two_of k2
            simp only [List.getD_cons_zero, List.getD_cons_succ] at h0 h1 q1 q2 h3 e1 ⊢
            refine ⟨[b0, b1, b2], t, rfl, ⟨by simp, ⟨r, fun rest => by rw [← e1]; exact dec3 rest h0 h1.1.1 q1 q2 h3, h32, fun e => absurd e hr⟩, .inr ?_⟩, rfl⟩
            intro b hb
            simp only [List.mem_cons, List.not_mem_nil, or_false] at hb
            rcases hb with rfl | rfl | rfl
            · omega
            · simp at q1; omega
            · simp at q2; omega
          · simp only [Prod.mk.injEq] at hd; exact absurd hd.1.symm hr
        · split at hd
          · rename_i h1
            rw [Bool.and_eq_true, Bool.and_eq_true, Bool.and_eq_true] at h1
            obtain ⟨k1, q1⟩ := cont_at h1.1.1.2
            obtain ⟨k2, q2⟩ := cont_at h1.1.2
            obtain ⟨k3, q3⟩ := cont_at h1.2
            split at hd
            · rename_i h3
              simp only [Prod.mk.injEq] at hd
              obtain ⟨e1, rfl⟩ := hd
              obtain ⟨b1, b2, b3, t, rfl⟩ : ∃ b1 b2 b3 t', t = b1 :: b2 :: b3 :: t' := by
                exact three_of k3
              simp only [List.getD_cons_zero, List.getD_cons_succ] at h0 h1 q1 q2 q3 h3 e1 ⊢
              refine ⟨[b0, b1, b2, b3], t, rfl, ⟨by simp, ⟨r, fun rest => by rw [← e1]; exact dec4 rest h0 h1.1.1.1 q1 q2 q3 h3, h32, fun e => absurd e hr⟩, .inr ?_⟩, rfl⟩
              intro b hb
              simp only [List.mem_cons, List.not_mem_nil, or_false] at hb
              rcases hb with rfl | rfl | rfl | rfl
              · omega
              · simp at q1; omega
              · simp at q2; omega
              · simp at q3; omega
            · simp only [Prod.mk.injEq] at hd; exact absurd hd.1.symm hr
          · simp only [Prod.mk.injEq] at hd; exact absurd hd.1.symm hr
end Go.AM.Fd

set_option linter.unusedSimpArgs false
set_option linter.unusedVariables false
namespace Go.AM.Fd
open Go.Proofs Go.AM.F
inductive OkL : List UInt8 → Prop
  | nil : OkL []
  | cons {c l : List UInt8} (h : GC c) (t : OkL l) : OkL (c ++ l)
theorem OkL.app {a b : List UInt8} (h : OkL a) (k : OkL b) : OkL (a ++ b) := by
  induction h with
  | nil => exact k
  | cons h _ ih => rw [List.append_assoc]; exact .cons h ih
theorem gc_blank : GC [32] := ⟨by simp, ⟨32, fun rest => dec1 rest (by decide), by omega, fun e => by omega⟩, .inl ⟨32, rfl⟩⟩
theorem OkL.blank : OkL [32] := by simpa using OkL.cons gc_blank .nil
theorem ok_step {l : List UInt8} {p : Nat} (hp : p < l.length) (h : okC l (p, ((decB l p).1 : Int)) = true) : ∃ c rest, l.drop p = c ++ rest ∧ GC c ∧ c.length = (decB l p).2 ∧ l.drop (p + (decB l p).2) = rest := by
  unfold okC at h
  simp only [Bool.and_eq_true, Bool.not_eq_true', decide_eq_false_iff_not, Bool.and_eq_false_imp, beq_iff_eq, Bool.not_eq_false'] at h
  have hne : l.drop p ≠ [] := by
    intro e
    have := congrArg List.length e
    rw [List.length_drop] at this; simp at this; omega
  have e := decB_L l p
  obtain ⟨c, rest, h1, h2, h3⟩ := good_head hne (by rw [← e]; omega) (fun e2 => by
    have := h.2 (by rw [e]; omega)
    exact this)
  rw [← e] at h3
  refine ⟨c, rest, h1, h2, h3, ?_⟩
  rw [← List.drop_drop, h1, ← h3, List.drop_left]
theorem okl_of {l : List UInt8} : ∀ (n p : Nat), l.length - p ≤ n → (runF l p).all (okC l) = true → OkL (l.drop p)
  | 0, p, hn, _ => by rw [List.drop_of_length_le (by omega)]; exact .nil
  | n + 1, p, hn, h => by
    by_cases hp : p < l.length
    · rw [runF_step hp, List.all_cons, Bool.and_eq_true] at h
      obtain ⟨c, rest, h1, h2, h3, h4⟩ := ok_step hp h.1
      have h0 := decB_pos (l := l) (p := p)
      rw [h1, ← h4]
      exact .cons h2 (okl_of n _ (by omega) h.2)
    · rw [List.drop_of_length_le (by omega)]; exact .nil
theorem okW_l {l : List UInt8} (h : okW l = true) : OkL l := by
  have := okl_of l.length 0 (by omega) h
  simpa using this
theorem okl_to {l : List UInt8} (h : OkL l) : ∀ pre : List UInt8, (runF (pre ++ l) pre.length).all (okC (pre ++ l)) = true := by
  induction h with
  | nil => intro pre; rw [runF_end (by simp)]; rfl
  | @cons c l h t ih =>
    intro pre
    obtain ⟨r, h1, h2, h3⟩ := h.dec
    have hc : 0 < c.length := List.length_pos_iff.2 h.ne
    have hd : decB (pre ++ (c ++ l)) pre.length = (r, c.length) := by rw [decB_L, List.drop_left]; exact h1 l
    rw [runF_step (by simp; omega), hd, List.all_cons, Bool.and_eq_true]
    refine ⟨?_, ?_⟩
    · unfold okC
      by_cases hr : r = 65533
      · have hw : wholeB (pre ++ (c ++ l)) pre.length = true := by
          unfold wholeB
          rw [List.drop_left, h3 hr, List.isPrefixOf_iff_prefix]
          exact ⟨l, rfl⟩
        simp only [hw]; simp; omega
      · simp; omega
    · have := ih (pre ++ c)
      rw [List.length_append, List.append_assoc] at this
      exact this
theorem l_okW {l : List UInt8} (h : OkL l) : okW l = true := by
  have := okl_to h []
  simpa [okW] using this
theorem splitB_pre {c : UInt8} : ∀ {a : List UInt8} (l : List UInt8), c ∉ a → ∃ p r, splitB c l = p :: r ∧ splitB c (a ++ l) = (a ++ p) :: r
  | [], l, _ => by
    cases h : splitB c l with
    | nil => exact absurd h (splitB_ne c l)
    | cons p r => exact ⟨p, r, rfl, by simpa using h⟩
  | x :: a, l, h => by
    simp only [List.mem_cons, not_or] at h
    obtain ⟨p, r, h1, h2⟩ := splitB_pre l h.2
    refine ⟨p, r, h1, ?_⟩
    simp only [List.cons_append, splitB, if_neg (Ne.symm h.1), h2]
theorem splitB_sep {c : UInt8} {a : List UInt8} (l : List UInt8) (h : c ∉ a) : splitB c (a ++ c :: l) = a :: splitB c l := by
  obtain ⟨p, r, h1, h2⟩ := splitB_pre (c :: l) h
  have : splitB c (c :: l) = [] :: splitB c l := by simp [splitB]
  rw [this] at h1
  cases h1
  rw [h2]; simp
theorem splitB_mem {c : UInt8} : ∀ {l w : List UInt8}, w ∈ splitB c l → c ∉ w ∧ ∀ b ∈ w, b ∈ l
  | [], w, h => by simp [splitB] at h; subst h; simp
  | x :: l, w, h => by
    simp only [splitB] at h
    split at h
    · rcases List.mem_cons.1 h with rfl | h
      · simp
      · obtain ⟨h1, h2⟩ := splitB_mem h; exact ⟨h1, fun b hb => by simp [h2 b hb]⟩
    · rename_i hx
      split at h
      · rename_i p r hs
        rcases List.mem_cons.1 h with rfl | h
        · obtain ⟨h1, h2⟩ := splitB_mem (l := l) (c := c) (w := p) (by rw [hs]; simp)
          refine ⟨by simp only [List.mem_cons, not_or]; exact ⟨Ne.symm hx, h1⟩, fun b hb => ?_⟩
          rcases List.mem_cons.1 hb with rfl | hb
          · simp
          · simp [h2 b hb]
        · obtain ⟨h1, h2⟩ := splitB_mem (l := l) (c := c) (w := w) (by rw [hs]; simp [h]); exact ⟨h1, fun b hb => by simp [h2 b hb]⟩
      · rename_i hs; exact absurd hs (splitB_ne c l)
theorem OkL.split {l : List UInt8} (h : OkL l) : ∀ w ∈ splitB 32 l, OkL w := by
  induction h with
  | nil => intro w hw; simp [splitB] at hw; subst hw; exact .nil
  | @cons c l h t ih =>
    intro w hw
    by_cases hc : 32 ∈ c
    · have : c = [32] := by
        rcases h.asc with ⟨b, rfl⟩ | h2
        · simp at hc; rw [hc]
        · have := h2 32 hc; simp at this
      subst this
      have e : splitB 32 ([32] ++ l) = [] :: splitB 32 l := by simp [splitB]
      rw [e] at hw
      rcases List.mem_cons.1 hw with rfl | hw
      · exact .nil
      · exact ih w hw
    · obtain ⟨p, r, h1, h2⟩ := splitB_pre l hc
      rw [h2] at hw
      rcases List.mem_cons.1 hw with rfl | hw
      · exact .cons h (ih p (by rw [h1]; simp))
      · exact ih w (by rw [h1]; simp [hw])
theorem ixB_app {c : UInt8} : ∀ {a : List UInt8} (l : List UInt8), c ∉ a → ixB c (a ++ c :: l) = some a.length
  | [], l, _ => by simp [ixB]
  | x :: a, l, h => by
    simp only [List.mem_cons, not_or] at h
    simp only [List.cons_append, ixB, if_neg (Ne.symm h.1), ixB_app l h.2]; simp
theorem ahead_no (l : List UInt8) : 35 ∉ aheadB l := by
  unfold aheadB
  cases h : ixB 35 l with
  | none => exact ixB_none h
  | some i =>
    intro hm
    obtain ⟨j, hj, he⟩ := List.getElem_of_mem hm
    rw [List.length_take] at hj
    have := (ixB_some h).2.2 j (by omega)
    apply this
    simp only [List.getElem_take] at he
    simp [List.getD, List.getElem?_eq_getElem (show j < l.length by omega), he]
def rejoin (ws : List (List UInt8)) : List UInt8 := (ws.map fun w => 32 :: w).flatten
theorem rejoin_split : ∀ (ws : List (List UInt8)), (∀ w ∈ ws, w ≠ [] ∧ 32 ∉ w) → splitB 32 (rejoin ws ++ [32]) = [] :: (ws ++ [[]])
  | [], _ => by simp [rejoin, splitB]
  | w :: ws, h => by
    have hw := h w (by simp)
    have ih := rejoin_split ws (fun x hx => h x (by simp [hx]))
    have e : rejoin (w :: ws) ++ [32] = 32 :: (w ++ (rejoin ws ++ [32])) := by simp [rejoin]
    obtain ⟨p, r, h1, h2⟩ := splitB_pre (rejoin ws ++ [32]) hw.2
    rw [ih] at h1
    cases h1
    rw [e]
    simp only [splitB, if_true]
    rw [h2]; simp
theorem filt_id : ∀ (ws : List (List UInt8)), (∀ w ∈ ws, w ≠ []) → (ws.filter fun t => !t.isEmpty) = ws
  | [], _ => rfl
  | w :: ws, h => by
    have hw := h w (by simp)
    rw [List.filter_cons, filt_id ws (fun x hx => h x (by simp [hx]))]
    cases w with
    | nil => exact absurd rfl hw
    | cons x w => rfl
theorem words_mem {l w : List UInt8} (h : w ∈ wordsB l) : w ≠ [] ∧ 32 ∉ w ∧ (∀ b ∈ w, b ∈ l) := by
  unfold wordsB at h
  rw [List.mem_filter] at h
  have := splitB_mem h.1
  refine ⟨?_, this.1, this.2⟩
  intro e; subst e; simp at h
theorem again {l : List UInt8} (h : okW (aheadB l) = true) : okW (aheadB (rejoin (wordsB (aheadB l)) ++ [32, 35, 32, 120])) = true ∧ wordsB (aheadB (rejoin (wordsB (aheadB l)) ++ [32, 35, 32, 120])) = wordsB (aheadB l) := by
  obtain ⟨s, hs⟩ : ∃ s, aheadB l = s := ⟨_, rfl⟩
  have h35 : 35 ∉ s := by rw [← hs]; exact ahead_no l
  rw [hs] at h ⊢
  have hws : ∀ w ∈ wordsB s, w ≠ [] ∧ 32 ∉ w ∧ (∀ b ∈ w, b ∈ s) := fun w hw => words_mem hw
  have hokl : ∀ w ∈ wordsB s, OkL w := fun w hw => (okW_l h).split w (by unfold wordsB at hw; exact (List.mem_filter.1 hw).1)
  obtain ⟨ws, hW⟩ : ∃ ws, wordsB s = ws := ⟨_, rfl⟩
  rw [hW] at hws hokl ⊢
  have hno : 35 ∉ rejoin ws ++ [32] := by
    intro hm
    rw [List.mem_append] at hm
    rcases hm with hm | hm
    · unfold rejoin at hm
      rw [List.mem_flatten] at hm
      obtain ⟨x, hx, hm⟩ := hm
      obtain ⟨w, hw, rfl⟩ := List.mem_map.1 hx
      rcases List.mem_cons.1 hm with e | hm
      · simp at e
      · exact h35 ((hws w hw).2.2 35 hm)
    · simp at hm
  have ha : aheadB (rejoin ws ++ [32, 35, 32, 120]) = rejoin ws ++ [32] := by
    unfold aheadB
    rw [show rejoin ws ++ [32, 35, 32, 120] = (rejoin ws ++ [32]) ++ 35 :: [32, 120] by simp, ixB_app _ hno]
    simp only
    rw [List.take_left]
  rw [ha]
  constructor
  · apply l_okW
    refine OkL.app ?_ OkL.blank
    clear hno ha hW hws
    induction ws with
    | nil => exact .nil
    | cons w ws ih =>
      have e : rejoin (w :: ws) = [32] ++ (w ++ rejoin ws) := by simp [rejoin]
      rw [e]
      exact OkL.app .blank (OkL.app (hokl w (by simp)) (ih (fun x hx => hokl x (by simp [hx]))))
  · unfold wordsB
    rw [rejoin_split ws (fun w hw => ⟨(hws w hw).1, (hws w hw).2.1⟩)]
    rw [List.filter_cons, List.filter_append, filt_id ws (fun w hw => (hws w hw).1)]
    simp
end Go.AM.Fd
