/- Part of the proof. -/
import Derived.Test.YtkhnmniiopodoaaGIT04
set_option linter.unusedSimpArgs false
set_option linter.unusedVariables false
set_option linter.unusedSimpArgs false
set_option linter.unusedVariables false
set_option maxRecDepth 8000
namespace Go.AM.Fd
open Nat (reduceAdd reduceEqDiff reduceLT reduceLeDiff reduceMul reduceSub)
open Go.Proofs Go.AM.F
theorem ro_eq {L : Ly} {i : Nat} (h : i < L.r.length) : ro L i = L.r[i] := by unfold ro; rw [List.getD_eq_getElem?_getD, List.getElem?_eq_getElem h]; rfl
theorem rv_ro {H : AHeap} {u : V4} {xs : List RV} {L : Ly} (h : LyR H u xs L) {i : Nat} (hi : i < L.r.length) : (xs.getD i rv0).r = ro L i ∧ (xs.getD i rv0).ok H := by
  have hl : i < xs.length := by have := h.e; rw [← this] at hi; simpa using hi
  have e0 : xs.getD i rv0 = xs[i] := by rw [List.getD_eq_getElem?_getD, List.getElem?_eq_getElem hl]; rfl
  rw [e0]
  refine ⟨?_, h.ok _ (List.getElem_mem hl)⟩
  rw [ro_eq hi]
  have e := congrArg (fun l : List Ro => l[i]?) h.e
  simp only [List.getElem?_map, List.getElem?_eq_getElem hl, List.getElem?_eq_getElem hi, Option.map_some] at e
  exact Option.some.inj e
set_option maxHeartbeats 2000000 in
theorem t92 {H : AHeap} {u : V4} {xs : List RV} {L : Ly} (h : LyR H u xs L) (hf : LyIn 9223372036854775807 L) :
    ∃ w H', ARun Go.Proofs.Try.prog 0 92 [.agg u.l.toArray] H w H' ∧ Keeps H H' ∧ (checkE L ≠ 0 → w = .tuple #[.slice none 0 0, .int .i64 (checkE L)]) ∧
      (checkE L = 0 → ∃ b, w = .tuple #[slc b 0 L.r.length L.r.length, .int .i64 0] ∧ H.n ≤ b ∧ H'.get b = some (.cells true false 1 (tabC L) 28)) := by
  refine walk2 f92_ok f92_n ?_
  intro Q hq1 hq2
  have os := Sl.one h.s
  have op := Sl.one h.p
  have og := Sl.one h.g
  have or := Sl.one h.r
  have ir := Sl.is h.r
  have kA := (Keeps.refl H).alloc (.cells true false 4 u.l 27)
  have gA := AHeap.get_alloc_new H (.cells true false 4 u.l 27)
  have hA := h.keeps kA
  have tC := t42 hA hf
  have hul : u.l = [u.s, u.p, u.g, u.r] := rfl
  simp only [hul] at kA gA tC hA ⊢
  simp (disch := first | assumption | omega | (simp only [LN] <;> omega) | (simp (disch := first | assumption | omega | (simp only [LN] <;> omega)) only [row_alloc, row_set]; assumption)) only [f92, W_block, P3, ↓reduceIte, reduceAdd, reduceEqDiff, reduceCtorEq, initFr, reduceLT, clsA, reduceLeDiff, reduceMul, reduceSub, reduceIte, os, op, og, or]
  refine callK tC ?_
  rintro _ X ⟨hX, ie, rfl⟩
  rw [hX]
  by_cases he : checkE L = 0
  case neg =>
    have e1 : (checkE L != 0) = true := by simp [he]
    simp (disch := first | assumption | omega | (simp only [LN] <;> omega) | (simp (disch := first | assumption | omega | (simp only [LN] <;> omega)) only [row_alloc, row_set]; assumption)) only [W_block, P3, ↓reduceIte, reduceAdd, reduceEqDiff, reduceCtorEq, initFr, reduceLT, clsA, reduceLeDiff, reduceMul, reduceSub, reduceIte, e1]
    exact hq2 _ _ ⟨_, rfl, kA, fun _ => rfl, fun e => absurd e he⟩
  case pos =>
  have hmay : mayB L = true := by
    unfold checkE at he
    cases hm : mayB L with
    | true => rfl
    | false => rw [hm] at he; cases he
  have hL := may_lim hmay
  have hrl := h.rlen
  have hlr := hL.r
  have e1 : (checkE L != 0) = false := by simp [he]
  obtain ⟨K0, hK0⟩ : ∃ X, X = H.alloc (.cells true false 4 [u.s, u.p, u.g, u.r] 27) := ⟨_, rfl⟩
  have n0 : K0.n = H.n + 1 := by rw [hK0]; rfl
  rw [← hK0] at kA gA hA
  have lr := h.r.len
  obtain ⟨n, hn⟩ : ∃ n, L.r.length = n := ⟨_, rfl⟩
  have hmk : asem (.mksl 28 1 8 [.int .u64 0] (.int .i64 ((n : Nat) : Int)) (.int .i64 ((n : Nat) : Int))) K0 = some (slc K0.n 0 n n, K0.alloc (.cells true false 1 (tc L 0 0 n) 28)) := by
    simp only [asem]
    rw [if_pos ⟨by omega, by omega, by omega, by omega, rfl, rfl⟩, Int.toNat_natCast, List.flatten_replicate_singleton, tc_0 L]
  rw [hrl, hn] at lr
  have hmk' := hmk
  rw [hK0] at hmk'
  simp (disch := first | assumption | omega | (simp only [LN] <;> omega) | (simp (disch := first | assumption | omega | (simp only [LN] <;> omega)) only [row_alloc, row_set]; assumption)) only [ P3, ↓reduceIte, reduceAdd, reduceEqDiff, reduceCtorEq, initFr, reduceLT, clsA, reduceLeDiff, reduceMul, reduceSub, reduceIte, e1, gA, lr, ir, hmk']
  rw [← hK0]
  have mk0 := (Keeps.refl K0).alloc (.cells true false 1 (tc L 0 0 n) 28)
  have mg0 := AHeap.get_alloc_new K0 (.cells true false 1 (tc L 0 0 n) 28)
  rw [n0] at mg0
  rw [W_block]
  refine W_loop2 (fun q fr M => ∃ i x6 x7 x8 x13 x14 x15 x16 x17, fr = [.agg #[u.s, u.p, u.g, u.r], ptr H.n 0, .slice none 0 0, .int .i64 0, .int .i64 (checkE L), slc (H.n + 1) 0 n n, x6, x7, x8, .bool false, u.r, .int .i64 ((n : Nat) : Int), .int .i64 ((i : Nat) : Int), x13, x14, x15, x16, x17] ∧
      Keeps K0 M ∧ M.get (H.n + 1) = some (.cells true false 1 (tc L i 0 n) 28) ∧ i ≤ n ∧ q = n - i) n
    ⟨0, _, _, _, _, _, _, _, _, rfl, mk0, mg0, by omega, rfl⟩ ?_
  rintro Q' q fr M ⟨i, x6, x7, x8, x13, x14, x15, x16, x17, rfl, km, gm, hi, rfl⟩ hn' hx' hret
  by_cases hlt : i < n
  · obtain ⟨hyr, hyo⟩ := rv_ro h (i := i) (by omega)
    obtain ⟨na, ra⟩ := (h.r.keeps (kA.trans km)).at_ (i := i) (by omega)
    have hlim := may_ro hmay (List.getElem_mem (show i < L.r.length by omega))
    rw [← ro_eq (show i < L.r.length by omega), ← hyr] at hlim
    generalize xs.getD i rv0 = y at *
    have h0 : (0 : Int) ≤ (i : Int) := by omega
    have h1 : (i : Int) < ((n : Nat) : Int) := by omega
    have hw : IntKind.i64.wrap ((i : Int) + 1) = ((i + 1 : Nat) : Int) := by rw [wrap_i64 (by omega) (by omega)]; simp
    have rowy : y.row = [.string ⟨y.r.n.toArray⟩, .int .i64 y.r.g, y.vp, y.vq, y.vo, y.vf] := rfl
    obtain ⟨a3, a4, a5, a6⟩ := RV.ones hyo
    have a1 : one1 (Value.int .i64 y.r.g) = True := by simp [one1, one_int]
    have a2 : one1 (Value.string ⟨y.r.n.toArray⟩) = True := by simp [one1, one_str]
    obtain ⟨M1, hM1⟩ : ∃ X, X = M.alloc (.cells true false 6 y.row 50) := ⟨_, rfl⟩
    have m1 : M1.n = M.n + 1 := by rw [hM1]; rfl
    have km1 : Keeps K0 M1 := by rw [hM1]; exact km.alloc _
    have gm1 : M1.get (H.n + 1) = some (.cells true false 1 (tc L i 0 n) 28) := by rw [hM1]; exact ((Keeps.refl M).alloc _).at_ gm
    have gy1 : M1.get M.n = some (.cells true false 6 y.row 50) := by rw [hM1]; exact AHeap.get_alloc_new M _
    have hMn := AHeap.get_lt gm
    have kmn := km.n
    simp only [rowy] at ra hM1 gy1
    simp (disch := first | assumption | omega | (simp only [LN] <;> omega) | (simp (disch := first | assumption | omega | (simp only [LN] <;> omega)) only [row_alloc, row_set]; assumption)) only [ P3, ↓reduceIte, reduceAdd, reduceEqDiff, reduceCtorEq, initFr, reduceLT, clsA, reduceLeDiff, reduceMul, reduceSub, reduceIte, h1]
    rw [W_block]
    simp (disch := first | assumption | omega | (simp only [LN] <;> omega) | (simp (disch := first | assumption | omega | (simp only [LN] <;> omega)) only [row_alloc, row_set]; assumption)) only [ P3, ↓reduceIte, reduceAdd, reduceEqDiff, reduceCtorEq, initFr, reduceLT, clsA, reduceLeDiff, reduceMul, reduceSub, reduceIte, lr, ra, na, a_loadnvf, a1, a2, a3, a4, a5, a6]
    rw [← hM1, W_block]
    refine W_loop2 (fun q fr K => ∃ k x8 x16 x17, fr = [.agg #[u.s, u.p, u.g, u.r], ptr H.n 0, .slice none 0 0, .int .i64 0, .int .i64 (checkE L), slc (H.n + 1) 0 n n, .int .i64 ((i : Nat) : Int), ptr M.n 0, x8, .bool false, u.r, .int .i64 ((n : Nat) : Int), .int .i64 ((i : Nat) : Int), .bool true, .int .i64 ((i : Nat) : Int), .int .i64 ((k : Nat) : Int), x16, x17] ∧
        Keeps K0 K ∧ M.n < K.n ∧ K.get M.n = M1.get M.n ∧ K.get (H.n + 1) = some (.cells true false 1 (tc L i k n) 28) ∧ k ≤ i ∧ q = i - k) i
      ⟨0, _, _, _, rfl, km1, by omega, rfl, gm1, by omega, rfl⟩ ?_
    rintro Q2 q fr K ⟨k, x8, x16, x17, rfl, kk, gn, gy, go, hk, rfl⟩ hn2 hx2 hret2
    by_cases hlk : k < i
    · obtain ⟨hzr, hzo⟩ := rv_ro h (i := k) (by omega)
      obtain ⟨nb, rb⟩ := (h.r.keeps (kA.trans kk)).at_ (i := k) (by omega)
      have zlim := may_ro hmay (List.getElem_mem (show k < L.r.length by omega))
      rw [← ro_eq (show k < L.r.length by omega), ← hzr] at zlim
      generalize xs.getD k rv0 = z at *
      have rowz : z.row = [.string ⟨z.r.n.toArray⟩, .int .i64 z.r.g, z.vp, z.vq, z.vo, z.vf] := rfl
      have h2 : ((k : Nat) : Int) < ((i : Nat) : Int) := by omega
      have h3 : (0 : Int) ≤ (k : Int) := by omega
      have h4 : ((k : Nat) : Int) < ((n : Nat) : Int) := by omega
      have hw2 : IntKind.i64.wrap ((k : Int) + 1) = ((k + 1 : Nat) : Int) := by rw [wrap_i64 (by omega) (by omega)]; simp
      have gA2 := kk.at_ gA
      have gyk := gy.trans gy1
      have cC := t83 ((h.keeps kA).keeps kk) ((hyo.keeps kA).keeps kk) ((hzo.keeps kA).keeps kk) hlim zlim hL
      simp only [rowy, rowz, hul] at cC rb
      simp (disch := first | assumption | omega | (simp only [LN] <;> omega) | (simp (disch := first | assumption | omega | (simp only [LN] <;> omega)) only [row_alloc, row_set]; assumption)) only [W_block, P3, ↓reduceIte, reduceAdd, reduceEqDiff, reduceCtorEq, initFr, reduceLT, clsA, reduceLeDiff, reduceMul, reduceSub, reduceIte, h2, gA2, gyk, lr, nb, rb, a_loadnvf]
      refine callK cC ?_
      rintro _ X ⟨rfl, hX⟩
      rw [hX]
      rw [hyr, hzr]
      show _
      have hcf : confB L (ro L i) (ro L k) = cf L i k := rfl
      rw [hcf]
      have hgl := AHeap.get_lt go
      cases hc : cf L i k with
      | false =>
        simp (disch := first | assumption | omega | (simp only [LN] <;> omega) | (simp (disch := first | assumption | omega | (simp only [LN] <;> omega)) only [row_alloc, row_set]; assumption)) only [W_block, P3, ↓reduceIte, reduceAdd, reduceEqDiff, reduceCtorEq, initFr, reduceLT, clsA, reduceLeDiff, reduceMul, reduceSub, reduceIte, hw2]
        rw [tc_no L hlk hc] at go
        exact hn2 _ _ _ ⟨k + 1, _, _, _, rfl, kk, gn, gy, go, by omega, rfl⟩ (by omega)
      | true =>
        have t1 := tc_at L i k (show i < n by omega)
        have t2 := tc_at L i k (show k < n by omega)
        have t3 : ∀ v : Value, ((tc L i k n).set i v)[k]? = some (S64 (tb_ L i k k)) := fun v => by rw [List.getElem?_set_ne (by omega), t2]
        have s1 := s_shl1 (show i < 64 by omega)
        have s2 := s_shl1 (show k < 64 by omega)
        have i1 : i < n := hlt
        have i2 : k < n := by omega
        have g3 : ∀ o, (K.set (H.n + 1) o).get (H.n + 1) = some o := fun o => AHeap.get_set_same go o
        simp (disch := first | assumption | omega | (simp only [LN] <;> omega) | (simp (disch := first | assumption | omega | (simp only [LN] <;> omega)) only [row_alloc, row_set]; assumption)) only [W_block, P3, ↓reduceIte, reduceAdd, reduceEqDiff, reduceCtorEq, initFr, reduceLT, clsA, reduceLeDiff, reduceMul, reduceSub, reduceIte, hw2, go, t1, t2, t3, s1, s2, s_or, one_s64, o_s64, List.length_set, tc_len, i1, i2, g3, Int.toNat_natCast, Nat.mul_one, Nat.zero_add]
        rw [tc_yes L hlk hlt hc (fun _ => rfl) (fun _ => rfl)]
        exact hn2 _ _ _ ⟨k + 1, _, _, _, rfl, kk.set (by omega) hgl _, gn, by rw [AHeap.get_set_other K (by omega) hgl]; exact gy, AHeap.get_set_same go _, by omega, rfl⟩ (by omega)
    · have h2 : ¬ ((k : Nat) : Int) < ((i : Nat) : Int) := by omega
      have hki : k = i := by omega
      subst hki
      simp (disch := first | assumption | omega | (simp only [LN] <;> omega) | (simp (disch := first | assumption | omega | (simp only [LN] <;> omega)) only [row_alloc, row_set]; assumption)) only [W_block, P3, ↓reduceIte, reduceAdd, reduceEqDiff, reduceCtorEq, initFr, reduceLT, clsA, reduceLeDiff, reduceMul, reduceSub, reduceIte, h2]
      refine hx2 _ _ _ ?_
      simp (disch := first | assumption | omega | (simp only [LN] <;> omega) | (simp (disch := first | assumption | omega | (simp only [LN] <;> omega)) only [row_alloc, row_set]; assumption)) only [W_block, P3, ↓reduceIte, reduceAdd, reduceEqDiff, reduceCtorEq, initFr, reduceLT, clsA, reduceLeDiff, reduceMul, reduceSub, reduceIte, hw]
      rw [tc_next] at go
      exact hn' _ _ _ ⟨k + 1, _, _, _, _, _, _, _, _, rfl, kk, go, by omega, rfl⟩ (by omega)
  · have h1 : ¬ ((i : Nat) : Int) < ((n : Nat) : Int) := by omega
    have hin : i = n := by omega
    subst hin
    simp (disch := first | assumption | omega | (simp only [LN] <;> omega) | (simp (disch := first | assumption | omega | (simp only [LN] <;> omega)) only [row_alloc, row_set]; assumption)) only [W_block, P3, ↓reduceIte, reduceAdd, reduceEqDiff, reduceCtorEq, initFr, reduceLT, clsA, reduceLeDiff, reduceMul, reduceSub, reduceIte, h1]
    subst hn
    rw [tc_end L (by omega)] at gm
    refine hx' _ _ _ ?_
    simp (disch := first | assumption | omega | (simp only [LN] <;> omega) | (simp (disch := first | assumption | omega | (simp only [LN] <;> omega)) only [row_alloc, row_set]; assumption)) only [W_block, P3, ↓reduceIte, reduceAdd, reduceEqDiff, reduceCtorEq, initFr, reduceLT, clsA, reduceLeDiff, reduceMul, reduceSub, reduceIte]
    exact hq2 _ _ ⟨_, rfl, kA.trans km, fun e => absurd he e, fun _ => ⟨_, rfl, by omega, gm⟩⟩
end Go.AM.Fd

set_option maxRecDepth 100000
set_option maxHeartbeats 0
namespace Go.AM.F
def Z68F : List Value := [(.int .u64 0), (.int .u64 0), (.int .u64 0)] ++ List.replicate 64 (.int .u8 0) ++ [(.int .u32 0)]
def O68F : List Nat := List.replicate 68 1
def zclF : TypeId → List Value
 | 28 => [(.int .u64 0)]
 | 74 => [(.slice none 0 0), (.slice none 0 0), (.int .u64 0), (.int .u32 0), (.int .u64 0)]
 | 50 => [(.string ByteArray.empty), (.int .i64 0), (.slice none 0 0), (.slice none 0 0), (.slice none 0 0), (.slice none 0 0)]
 | 89 => [(.int .u64 0), (.int .u64 0), (.int .u64 0), (.int .u32 0), (.int .u32 0), (.int .u64 0)]
 | 68 => [(.int .i64 0), (.bool false)]
 | 46 => [(.string ByteArray.empty), (.int .i64 0)]
 | 76 => [(.slice none 0 0), (.slice none 0 0), (.int .u64 0), (.int .u32 0), (.int .u64 0)]
 | 32 => Z68F
 | _ => []
def zvlF : TypeId → Value
 | _ => undef
def zklF : TypeId → List Nat
 | 32 => O68F
 | _ => []
def zrlF : Nat → TypeId → List Value
 | 1, 89 => [(.int .u64 0), (.int .u64 0), (.int .u64 0), (.int .u32 0), (.int .u32 0), (.int .u64 0)]
 | 1, 28 => [(.int .u64 0)]
 | _, _ => []
noncomputable def f22 : AFunc := by
 refine (fun (_ : Cz zclF zvlF zklF zrlF Go.Proofs.Try.prog 0 [0, 1, 4] 22 ?a) => ?a) ?h
 case h =>
 intro zc zv zk zr hc hv hk hr
 conv => lhs; cbv; try simp only [hc, hv, hk, hr, zclF, zvlF, zklF, zrlF]
theorem f22_ok : compF Go.Proofs.Try.prog 0 [0, 1, 4] 22 = some f22 := by kernel_rfl
theorem f22_n : argsOK Go.Proofs.Try.prog 22 2 = true := by kernel_rfl
noncomputable def f95 : AFunc := by
 refine (fun (_ : Cz zclF zvlF zklF zrlF Go.Proofs.Try.prog 0 [0, 2, 8] 95 ?a) => ?a) ?h
 case h =>
 intro zc zv zk zr hc hv hk hr
 conv => lhs; cbv; try simp only [hc, hv, hk, hr, zclF, zvlF, zklF, zrlF]
theorem f95_ok : compF Go.Proofs.Try.prog 0 [0, 2, 8] 95 = some f95 := by kernel_rfl
theorem f95_n : argsOK Go.Proofs.Try.prog 95 1 = true := by kernel_rfl
noncomputable def f66 : AFunc := by
 refine (fun (_ : Cz zclF zvlF zklF zrlF Go.Proofs.Try.prog 0 [0, 1, 4] 66 ?a) => ?a) ?h
 case h =>
 intro zc zv zk zr hc hv hk hr
 conv => lhs; cbv; try simp only [hc, hv, hk, hr, zclF, zvlF, zklF, zrlF]
theorem f66_ok : compF Go.Proofs.Try.prog 0 [0, 1, 4] 66 = some f66 := by kernel_rfl
theorem f66_n : argsOK Go.Proofs.Try.prog 66 2 = true := by kernel_rfl
noncomputable def f94 : AFunc := by
 refine (fun (_ : Cz zclF zvlF zklF zrlF Go.Proofs.Try.prog 0 [0, 2, 3, 5, 6, 7, 8, 9] 94 ?a) => ?a) ?h
 case h =>
 intro zc zv zk zr hc hv hk hr
 conv => lhs; cbv; try simp only [hc, hv, hk, hr, zclF, zvlF, zklF, zrlF]
theorem f94_ok : compF Go.Proofs.Try.prog 0 [0, 2, 3, 5, 6, 7, 8, 9] 94 = some f94 := by kernel_rfl
theorem f94_n : argsOK Go.Proofs.Try.prog 94 1 = true := by kernel_rfl
noncomputable def f93 : AFunc := by
 refine (fun (_ : Cz zclF zvlF zklF zrlF Go.Proofs.Try.prog 0 [0, 2, 3, 6] 93 ?a) => ?a) ?h
 case h =>
 intro zc zv zk zr hc hv hk hr
 conv => lhs; cbv; try simp only [hc, hv, hk, hr, zclF, zvlF, zklF, zrlF]
theorem f93_ok : compF Go.Proofs.Try.prog 0 [0, 2, 3, 6] 93 = some f93 := by kernel_rfl
theorem f93_n : argsOK Go.Proofs.Try.prog 93 1 = true := by kernel_rfl
noncomputable def f96 : AFunc := by
 refine (fun (_ : Cz zclF zvlF zklF zrlF Go.Proofs.Try.prog 0 [0, 1, 2, 4, 5, 6, 12, 13] 96 ?a) => ?a) ?h
 case h =>
 intro zc zv zk zr hc hv hk hr
 have e0A := (rfl : rfA Go.Proofs.Try.prog 96 0 = rfA Go.Proofs.Try.prog 96 0); conv at e0A => rhs; cbv
 have e0B := (rfl : rfB Go.Proofs.Try.prog 96 0 = rfB Go.Proofs.Try.prog 96 0); conv at e0B => rhs; cbv
 conv => lhs; cbv; try simp only [hc, hv, hk, hr, zclF, zvlF, zklF, zrlF]; simp only [← e0A, ← e0B]
theorem f96_ok : compF Go.Proofs.Try.prog 0 [0, 1, 2, 4, 5, 6, 12, 13] 96 = some f96 := by kernel_rfl
theorem f96_n : argsOK Go.Proofs.Try.prog 96 2 = true := by kernel_rfl
noncomputable def f96r0a : ACode := by
 refine (fun (_ : CzC zclF zvlF zklF zrlF Go.Proofs.Try.prog 0 21 [0, 1, 2, 4, 5, 6, 12, 13] (rfA Go.Proofs.Try.prog 96 0) ?a) => ?a) ?h
 case h => intro zc zv zk zr hc hv hk hr; conv => lhs; cbv; try simp only [hc, hv, hk, hr, zclF, zvlF, zklF, zrlF]
theorem f96r0a_ok : compC Go.Proofs.Try.prog 0 21 [0, 1, 2, 4, 5, 6, 12, 13] (rfA Go.Proofs.Try.prog 96 0) = some f96r0a := by kernel_rfl
noncomputable def f96r0b : ACode := by
 refine (fun (_ : CzC zclF zvlF zklF zrlF Go.Proofs.Try.prog 0 21 [0, 1, 2, 4, 5, 6, 12, 13] (rfB Go.Proofs.Try.prog 96 0) ?a) => ?a) ?h
 case h => intro zc zv zk zr hc hv hk hr; conv => lhs; cbv; try simp only [hc, hv, hk, hr, zclF, zvlF, zklF, zrlF]
theorem f96r0b_ok : compC Go.Proofs.Try.prog 0 21 [0, 1, 2, 4, 5, 6, 12, 13] (rfB Go.Proofs.Try.prog 96 0) = some f96r0b := by kernel_rfl
theorem f96r0_n : (noRF (rfA Go.Proofs.Try.prog 96 0) && noRF (rfB Go.Proofs.Try.prog 96 0)) = true := by kernel_rfl
noncomputable def f69 : AFunc := by
 refine (fun (_ : Cz zclF zvlF zklF zrlF Go.Proofs.Try.prog 0 [0, 1, 2] 69 ?a) => ?a) ?h
 case h =>
 intro zc zv zk zr hc hv hk hr
 conv => lhs; cbv; try simp only [hc, hv, hk, hr, zclF, zvlF, zklF, zrlF]
theorem f69_ok : compF Go.Proofs.Try.prog 0 [0, 1, 2] 69 = some f69 := by kernel_rfl
theorem f69_n : argsOK Go.Proofs.Try.prog 69 1 = true := by kernel_rfl
noncomputable def f98 : AFunc := by
 refine (fun (_ : Cz zclF zvlF zklF zrlF Go.Proofs.Try.prog 0 [0, 1, 3, 4, 5, 15] 98 ?a) => ?a) ?h
 case h =>
 intro zc zv zk zr hc hv hk hr
 conv => lhs; cbv; try simp only [hc, hv, hk, hr, zclF, zvlF, zklF, zrlF]
theorem f98_ok : compF Go.Proofs.Try.prog 0 [0, 1, 3, 4, 5, 15] 98 = some f98 := by kernel_rfl
theorem f98_n : argsOK Go.Proofs.Try.prog 98 2 = true := by kernel_rfl
noncomputable def f36 : AFunc := by
 refine (fun (_ : Cz zclF zvlF zklF zrlF Go.Proofs.Try.prog 0 [0, 2] 36 ?a) => ?a) ?h
 case h =>
 intro zc zv zk zr hc hv hk hr
 conv => lhs; cbv; try simp only [hc, hv, hk, hr, zclF, zvlF, zklF, zrlF]
theorem f36_ok : compF Go.Proofs.Try.prog 0 [0, 2] 36 = some f36 := by kernel_rfl
theorem f36_n : argsOK Go.Proofs.Try.prog 36 1 = true := by kernel_rfl
noncomputable def f55 : AFunc := by
 refine (fun (_ : Cz zclF zvlF zklF zrlF Go.Proofs.Try.prog 0 [0, 1, 2, 3, 4, 5, 6, 7, 8, 9, 11, 13, 20, 38, 39, 40, 41, 67, 68, 69, 70, 74, 98, 99, 100, 101] 55 ?a) => ?a) ?h
 case h =>
 intro zc zv zk zr hc hv hk hr
 conv => lhs; cbv; try simp only [hc, hv, hk, hr, zclF, zvlF, zklF, zrlF]
theorem f55_ok : compF Go.Proofs.Try.prog 0 [0, 1, 2, 3, 4, 5, 6, 7, 8, 9, 11, 13, 20, 38, 39, 40, 41, 67, 68, 69, 70, 74, 98, 99, 100, 101] 55 = some f55 := by kernel_rfl
theorem f55_n : argsOK Go.Proofs.Try.prog 55 1 = true := by kernel_rfl
noncomputable def f58 : AFunc := by
 refine (fun (_ : Cz zclF zvlF zklF zrlF Go.Proofs.Try.prog 0 [0, 1, 2, 3, 6, 7, 8, 9, 11, 12, 13, 14, 20] 58 ?a) => ?a) ?h
 case h =>
 intro zc zv zk zr hc hv hk hr
 conv => lhs; cbv; try simp only [hc, hv, hk, hr, zclF, zvlF, zklF, zrlF]
theorem f58_ok : compF Go.Proofs.Try.prog 0 [0, 1, 2, 3, 6, 7, 8, 9, 11, 12, 13, 14, 20] 58 = some f58 := by kernel_rfl
theorem f58_n : argsOK Go.Proofs.Try.prog 58 3 = true := by kernel_rfl
noncomputable def f59 : AFunc := by
 refine (fun (_ : Cz zclF zvlF zklF zrlF Go.Proofs.Try.prog 0 [0, 1, 2] 59 ?a) => ?a) ?h
 case h =>
 intro zc zv zk zr hc hv hk hr
 conv => lhs; cbv; try simp only [hc, hv, hk, hr, zclF, zvlF, zklF, zrlF]
theorem f59_ok : compF Go.Proofs.Try.prog 0 [0, 1, 2] 59 = some f59 := by kernel_rfl
theorem f59_n : argsOK Go.Proofs.Try.prog 59 1 = true := by kernel_rfl
noncomputable def f60 : AFunc := by
 refine (fun (_ : Cz zclF zvlF zklF zrlF Go.Proofs.Try.prog 0 [0, 1, 2] 60 ?a) => ?a) ?h
 case h =>
 intro zc zv zk zr hc hv hk hr
 conv => lhs; cbv; try simp only [hc, hv, hk, hr, zclF, zvlF, zklF, zrlF]
theorem f60_ok : compF Go.Proofs.Try.prog 0 [0, 1, 2] 60 = some f60 := by kernel_rfl
theorem f60_n : argsOK Go.Proofs.Try.prog 60 1 = true := by kernel_rfl
noncomputable def f61 : AFunc := by
 refine (fun (_ : Cz zclF zvlF zklF zrlF Go.Proofs.Try.prog 0 [0, 1, 2, 3, 6, 7, 8, 9, 11, 12, 13, 14, 20] 61 ?a) => ?a) ?h
 case h =>
 intro zc zv zk zr hc hv hk hr
 conv => lhs; cbv; try simp only [hc, hv, hk, hr, zclF, zvlF, zklF, zrlF]
theorem f61_ok : compF Go.Proofs.Try.prog 0 [0, 1, 2, 3, 6, 7, 8, 9, 11, 12, 13, 14, 20] 61 = some f61 := by kernel_rfl
theorem f61_n : argsOK Go.Proofs.Try.prog 61 3 = true := by kernel_rfl
noncomputable def f62 : AFunc := by
 refine (fun (_ : Cz zclF zvlF zklF zrlF Go.Proofs.Try.prog 0 [0, 1, 2] 62 ?a) => ?a) ?h
 case h =>
 intro zc zv zk zr hc hv hk hr
 conv => lhs; cbv; try simp only [hc, hv, hk, hr, zclF, zvlF, zklF, zrlF]
theorem f62_ok : compF Go.Proofs.Try.prog 0 [0, 1, 2] 62 = some f62 := by kernel_rfl
theorem f62_n : argsOK Go.Proofs.Try.prog 62 1 = true := by kernel_rfl
noncomputable def f25 : AFunc := by
 refine (fun (_ : Cz zclF zvlF zklF zrlF Go.Proofs.Try.prog 0 [0, 1, 2, 4, 5] 25 ?a) => ?a) ?h
 case h =>
 intro zc zv zk zr hc hv hk hr
 conv => lhs; cbv; try simp only [hc, hv, hk, hr, zclF, zvlF, zklF, zrlF]
theorem f25_ok : compF Go.Proofs.Try.prog 0 [0, 1, 2, 4, 5] 25 = some f25 := by kernel_rfl
theorem f25_n : argsOK Go.Proofs.Try.prog 25 2 = true := by kernel_rfl
noncomputable def f26 : AFunc := by
 refine (fun (_ : Cz zclF zvlF zklF zrlF Go.Proofs.Try.prog 0 [0, 1, 2, 4] 26 ?a) => ?a) ?h
 case h =>
 intro zc zv zk zr hc hv hk hr
 conv => lhs; cbv; try simp only [hc, hv, hk, hr, zclF, zvlF, zklF, zrlF]
theorem f26_ok : compF Go.Proofs.Try.prog 0 [0, 1, 2, 4] 26 = some f26 := by kernel_rfl
theorem f26_n : argsOK Go.Proofs.Try.prog 26 2 = true := by kernel_rfl
noncomputable def f21 : AFunc := by
 refine (fun (_ : Cz zclF zvlF zklF zrlF Go.Proofs.Try.prog 0 [0, 1, 2, 3, 4, 5, 12] 21 ?a) => ?a) ?h
 case h =>
 intro zc zv zk zr hc hv hk hr
 conv => lhs; cbv; try simp only [hc, hv, hk, hr, zclF, zvlF, zklF, zrlF]
theorem f21_ok : compF Go.Proofs.Try.prog 0 [0, 1, 2, 3, 4, 5, 12] 21 = some f21 := by kernel_rfl
theorem f21_n : argsOK Go.Proofs.Try.prog 21 1 = true := by kernel_rfl
noncomputable def f7 : AFunc := by
 refine (fun (_ : Cz zclF zvlF zklF zrlF Go.Proofs.Try.prog 0 [0, 1, 2, 3, 4, 5, 8] 7 ?a) => ?a) ?h
 case h =>
 intro zc zv zk zr hc hv hk hr
 conv => lhs; cbv; try simp only [hc, hv, hk, hr, zclF, zvlF, zklF, zrlF]
theorem f7_ok : compF Go.Proofs.Try.prog 0 [0, 1, 2, 3, 4, 5, 8] 7 = some f7 := by kernel_rfl
theorem f7_n : argsOK Go.Proofs.Try.prog 7 1 = true := by kernel_rfl
noncomputable def f9 : AFunc := by
 refine (fun (_ : Cz zclF zvlF zklF zrlF Go.Proofs.Try.prog 0 [0, 1, 3, 4, 5, 6, 8, 41, 42, 43, 52] 9 ?a) => ?a) ?h
 case h =>
 intro zc zv zk zr hc hv hk hr
 conv => lhs; cbv; try simp only [hc, hv, hk, hr, zclF, zvlF, zklF, zrlF]
theorem f9_ok : compF Go.Proofs.Try.prog 0 [0, 1, 3, 4, 5, 6, 8, 41, 42, 43, 52] 9 = some f9 := by kernel_rfl
theorem f9_n : argsOK Go.Proofs.Try.prog 9 2 = true := by kernel_rfl
noncomputable def f11 : AFunc := by
 refine (fun (_ : Cz zclF zvlF zklF zrlF Go.Proofs.Try.prog 0 [0, 1, 3, 4, 5, 6, 15] 11 ?a) => ?a) ?h
 case h =>
 intro zc zv zk zr hc hv hk hr
 conv => lhs; cbv; try simp only [hc, hv, hk, hr, zclF, zvlF, zklF, zrlF]
theorem f11_ok : compF Go.Proofs.Try.prog 0 [0, 1, 3, 4, 5, 6, 15] 11 = some f11 := by kernel_rfl
theorem f11_n : argsOK Go.Proofs.Try.prog 11 2 = true := by kernel_rfl
end Go.AM.F

set_option linter.unusedSimpArgs false
set_option linter.unusedVariables false
namespace Go.AM.Fd
open Nat (reduceAdd reduceEqDiff reduceLT reduceLeDiff reduceMul reduceSub)
open Go.Proofs Go.AM.F
def hasB (f : Nat → Bool) (n : Int) : Bool := decide (0 ≤ n) && (decide (n < 64) && f n.toNat)
def oneP (n : Int) (i : Nat) : Bool := decide ((i : Int) = n)
theorem t22 {H : AHeap} (f : Nat → Bool) (n : Int) : ∃ w H', ARun Go.Proofs.Try.prog 0 22 [S64 f, .int .i64 n] H w H' ∧ w = .bool (hasB f n) ∧ H' = H := by
  refine walk2 f22_ok f22_n ?_
  intro Q hq1 hq2
  unfold hasB at hq1 hq2
  by_cases h1 : 0 ≤ n
  · by_cases h2 : n < 64
    · obtain ⟨m, rfl⟩ : ∃ m : Nat, n = (m : Int) := ⟨n.toNat, by omega⟩
      have h3 : m < 64 := by omega
      simp (disch := first | assumption | omega | (simp only [LN] <;> omega) | (simp (disch := first | assumption | omega | (simp only [LN] <;> omega)) only [row_alloc, row_set]; assumption)) only [f22, W_block, P3, ↓reduceIte, reduceAdd, reduceEqDiff, reduceCtorEq, initFr, reduceLT, clsA, reduceLeDiff, reduceMul, reduceSub, reduceIte, h1, h2, s_shr, s_and1, i1_eq, o_s64, o_i1]
      refine hq2 _ _ ⟨.bool _, rfl, ?_, rfl⟩
      simp; intro _; omega
    · simp (disch := first | assumption | omega | (simp only [LN] <;> omega) | (simp (disch := first | assumption | omega | (simp only [LN] <;> omega)) only [row_alloc, row_set]; assumption)) only [f22, W_block, P3, ↓reduceIte, reduceAdd, reduceEqDiff, reduceCtorEq, initFr, reduceLT, clsA, reduceLeDiff, reduceMul, reduceSub, reduceIte, h1, h2]
      exact hq2 _ _ ⟨.bool _, rfl, by simp [h2], rfl⟩
  · simp (disch := first | assumption | omega | (simp only [LN] <;> omega) | (simp (disch := first | assumption | omega | (simp only [LN] <;> omega)) only [row_alloc, row_set]; assumption)) only [f22, W_block, P3, ↓reduceIte, reduceAdd, reduceEqDiff, reduceCtorEq, initFr, reduceLT, clsA, reduceLeDiff, reduceMul, reduceSub, reduceIte, h1]
    exact hq2 _ _ ⟨.bool _, rfl, by simp [h1], rfl⟩
theorem t95 {H : AHeap} (n : Int) : ∃ w H', ARun Go.Proofs.Try.prog 0 95 [.int .i64 n] H w H' ∧ w = S64 (oneP n) ∧ H' = H := by
  refine walk2 f95_ok f95_n ?_
  intro Q hq1 hq2
  have hz : n < 0 ∨ 64 ≤ n → Value.int .u64 0 = S64 (oneP n) := fun h => by
    rw [s_zero]; apply s64_ext; intro i hi; simp [oneP]; omega
  by_cases h1 : n < 0
  · simp (disch := first | assumption | omega | (simp only [LN] <;> omega) | (simp (disch := first | assumption | omega | (simp only [LN] <;> omega)) only [row_alloc, row_set]; assumption)) only [f95, W_block, P3, ↓reduceIte, reduceAdd, reduceEqDiff, reduceCtorEq, initFr, reduceLT, clsA, reduceLeDiff, reduceMul, reduceSub, reduceIte, h1]
    exact hq2 _ _ ⟨.int .u64 0, rfl, hz (.inl h1), rfl⟩
  · by_cases h2 : 64 ≤ n
    · simp (disch := first | assumption | omega | (simp only [LN] <;> omega) | (simp (disch := first | assumption | omega | (simp only [LN] <;> omega)) only [row_alloc, row_set]; assumption)) only [f95, W_block, P3, ↓reduceIte, reduceAdd, reduceEqDiff, reduceCtorEq, initFr, reduceLT, clsA, reduceLeDiff, reduceMul, reduceSub, reduceIte, h1, h2]
      exact hq2 _ _ ⟨.int .u64 0, rfl, hz (.inr h2), rfl⟩
    · obtain ⟨m, rfl⟩ : ∃ m : Nat, n = (m : Int) := ⟨n.toNat, by omega⟩
      have h3 := s_shl1 (show m < 64 by omega)
      simp (disch := first | assumption | omega | (simp only [LN] <;> omega) | (simp (disch := first | assumption | omega | (simp only [LN] <;> omega)) only [row_alloc, row_set]; assumption)) only [f95, W_block, P3, ↓reduceIte, reduceAdd, reduceEqDiff, reduceCtorEq, initFr, reduceLT, clsA, reduceLeDiff, reduceMul, reduceSub, reduceIte, h1, h2, h3, o_s64]
      refine hq2 _ _ ⟨S64 _, rfl, ?_, rfl⟩
      apply s64_ext; intro i hi; simp only [oneP, Int.ofNat_inj]
theorem t66 {H : AHeap} (f : Nat → Bool) (n : Int) : ∃ w H', ARun Go.Proofs.Try.prog 0 66 [S64 f, .int .i64 n] H w H' ∧ w = S64 (fun i => f i || oneP n i) ∧ H' = H := by
  refine walk2 f66_ok f66_n ?_
  intro Q hq1 hq2
  simp (disch := first | assumption | omega | (simp only [LN] <;> omega) | (simp (disch := first | assumption | omega | (simp only [LN] <;> omega)) only [row_alloc, row_set]; assumption)) only [f66, W_block, P3, ↓reduceIte, reduceAdd, reduceEqDiff, reduceCtorEq, initFr, reduceLT, clsA, reduceLeDiff, reduceMul, reduceSub, reduceIte]
  refine callK (t95 n) ?_
  rintro _ X ⟨rfl, hX⟩
  rw [hX]
  simp (disch := first | assumption | omega | (simp only [LN] <;> omega) | (simp (disch := first | assumption | omega | (simp only [LN] <;> omega)) only [row_alloc, row_set]; assumption)) only [W_block, P3, ↓reduceIte, reduceAdd, reduceEqDiff, reduceCtorEq, initFr, reduceLT, clsA, reduceLeDiff, reduceMul, reduceSub, reduceIte, s_or, o_s64]
  exact hq2 _ _ ⟨_, rfl, rfl, rfl⟩
theorem t66z {H : AHeap} (n : Int) : ∃ w H', ARun Go.Proofs.Try.prog 0 66 [.int .u64 0, .int .i64 n] H w H' ∧ w = S64 (oneP n) ∧ H' = H := by
  obtain ⟨w, H', r, e1, e2⟩ := t66 (H := H) (fun _ => false) n
  rw [← s_zero] at r
  exact ⟨w, H', r, by rw [e1]; exact s64_ext fun i _ => by simp, e2⟩
theorem t94 {H : AHeap} {v : Value} {l : List Int} (h : IL H v l) (hl : l.length ≤ 1000000) : ∃ w H', ARun Go.Proofs.Try.prog 0 94 [v] H w H' ∧ w = S64 (fun i => l.contains (i : Int)) ∧ H' = H := by
  refine walk2 f94_ok f94_n ?_
  intro Q hq1 hq2
  have len := h.len
  have is := Sl.is h
  simp (disch := first | assumption | omega | (simp only [LN] <;> omega) | (simp (disch := first | assumption | omega | (simp only [LN] <;> omega)) only [row_alloc, row_set]; assumption)) only [ f94, P3, ↓reduceIte, reduceAdd, reduceEqDiff, reduceCtorEq, initFr, reduceLT, clsA, reduceLeDiff, reduceMul, reduceSub, reduceIte, len, is]
  rw [W_block]
  refine W_loop2 (fun q fr M => ∃ i x3 x7, fr = [v, .int .u64 0, S64 (fun j => (l.take i).contains (j : Int)), x3, v, .int .i64 ((l.length : Nat) : Int), .int .i64 ((i : Nat) : Int), x7] ∧ M = H ∧ i ≤ l.length ∧ q = l.length - i) l.length
    ⟨0, _, _, by simp only [List.take_zero]; rw [s_zero]; rfl, rfl, by omega, rfl⟩ ?_
  rintro Q' q fr M ⟨i, x3, x7, rfl, rfl, hi, rfl⟩ hn' hx' hret
  by_cases hlt : i < l.length
  · obtain ⟨na, ra⟩ := h.at_ hlt
    have h0 : (0 : Int) ≤ (i : Int) := by omega
    have h1 : (i : Int) < ((l.length : Nat) : Int) := by omega
    have hw : IntKind.i64.wrap ((i : Int) + 1) = ((i + 1 : Nat) : Int) := by rw [wrap_i64 (by omega) (by omega)]; simp
    simp (disch := first | assumption | omega | (simp only [LN] <;> omega) | (simp (disch := first | assumption | omega | (simp only [LN] <;> omega)) only [row_alloc, row_set]; assumption)) only [W_block, P3, ↓reduceIte, reduceAdd, reduceEqDiff, reduceCtorEq, initFr, reduceLT, clsA, reduceLeDiff, reduceMul, reduceSub, reduceIte, h1, len, na, ra, a_load1v]
    refine callK (t95 _) ?_
    rintro _ X ⟨rfl, hX⟩
    rw [hX]
    simp (disch := first | assumption | omega | (simp only [LN] <;> omega) | (simp (disch := first | assumption | omega | (simp only [LN] <;> omega)) only [row_alloc, row_set]; assumption)) only [W_block, P3, ↓reduceIte, reduceAdd, reduceEqDiff, reduceCtorEq, initFr, reduceLT, clsA, reduceLeDiff, reduceMul, reduceSub, reduceIte, s_or, o_s64, hw]
    refine hn' _ _ _ ⟨i + 1, .int .i64 (l.getD i 0), .bool true, ?_, rfl, by omega, rfl⟩ (by omega)
    congr 3
    apply s64_ext
    intro j hj
    rw [List.take_add_one, List.getElem?_eq_getElem hlt]
    simp only [oneP, List.getD_eq_getElem?_getD, List.getElem?_eq_getElem hlt, Option.getD_some, Option.toList_some]
    rw [List.contains_append]
    simp
  · have h1 : ¬ ((i : Nat) : Int) < ((l.length : Nat) : Int) := by omega
    have hin : i = l.length := by omega
    subst hin
    simp (disch := first | assumption | omega | (simp only [LN] <;> omega) | (simp (disch := first | assumption | omega | (simp only [LN] <;> omega)) only [row_alloc, row_set]; assumption)) only [W_block, P3, ↓reduceIte, reduceAdd, reduceEqDiff, reduceCtorEq, initFr, reduceLT, clsA, reduceLeDiff, reduceMul, reduceSub, reduceIte, h1]
    refine hx' _ _ _ ?_
    simp (disch := first | assumption | omega | (simp only [LN] <;> omega) | (simp (disch := first | assumption | omega | (simp only [LN] <;> omega)) only [row_alloc, row_set]; assumption)) only [W_block, P3, ↓reduceIte, reduceAdd, reduceEqDiff, reduceCtorEq, initFr, reduceLT, clsA, reduceLeDiff, reduceMul, reduceSub, reduceIte]
    exact hq2 _ _ ⟨S64 _, rfl, by rw [List.take_length], rfl⟩
theorem bit_low {n : Nat} (h : n < 64) : 2 ^ n - 1 = bitsN (fun i => decide (i < n)) 64 := by
  apply Nat.eq_of_testBit_eq
  intro i
  rw [Nat.testBit_two_pow_sub_one, bitsN_t]
  by_cases hi : i < n
  · have : i < 64 := by omega
    simp [hi, this]
  · simp [hi]
theorem s_sub1 {n : Nat} (h : n < 64) : binA .sub (S64 fun i => decide (i = n)) (.int .u64 1) = some (S64 fun i => decide (i < n)) := by
  unfold S64
  rw [← bit_pow h, b_sub, ← bit_low h]
  have hp : 0 < 2 ^ n := Nat.pow_pos (by omega)
  have hu := pow_u h
  have e : ((2 ^ n : Nat) : Int) - 1 = ((2 ^ n - 1 : Nat) : Int) := by omega
  rw [e, w64 _ (by have : (2 : Nat) ^ 64 = U := rfl; omega)]
theorem s_full : Value.int .u64 18446744073709551615 = S64 (fun _ => true) := by
  unfold S64
  have : bitsN (fun _ => true) 64 = 2 ^ 64 - 1 := by
    apply Nat.eq_of_testBit_eq
    intro i
    rw [Nat.testBit_two_pow_sub_one, bitsN_t]; simp
  rw [this]; rfl
def lowP (n : Int) (i : Nat) : Bool := decide ((i : Int) < n)
theorem t93 {H : AHeap} (n : Int) : ∃ w H', ARun Go.Proofs.Try.prog 0 93 [.int .i64 n] H w H' ∧ w = S64 (lowP n) ∧ H' = H := by
  refine walk2 f93_ok f93_n ?_
  intro Q hq1 hq2
  by_cases h1 : n ≤ 0
  · simp (disch := first | assumption | omega | (simp only [LN] <;> omega) | (simp (disch := first | assumption | omega | (simp only [LN] <;> omega)) only [row_alloc, row_set]; assumption)) only [f93, W_block, P3, ↓reduceIte, reduceAdd, reduceEqDiff, reduceCtorEq, initFr, reduceLT, clsA, reduceLeDiff, reduceMul, reduceSub, reduceIte, h1]
    exact hq2 _ _ ⟨.int .u64 0, rfl, by rw [s_zero]; apply s64_ext; intro i hi; simp [lowP]; omega, rfl⟩
  · by_cases h2 : 64 ≤ n
    · simp (disch := first | assumption | omega | (simp only [LN] <;> omega) | (simp (disch := first | assumption | omega | (simp only [LN] <;> omega)) only [row_alloc, row_set]; assumption)) only [f93, W_block, P3, ↓reduceIte, reduceAdd, reduceEqDiff, reduceCtorEq, initFr, reduceLT, clsA, reduceLeDiff, reduceMul, reduceSub, reduceIte, h1, h2]
      exact hq2 _ _ ⟨.int .u64 18446744073709551615, rfl, by rw [s_full]; apply s64_ext; intro i hi; simp [lowP]; omega, rfl⟩
    · obtain ⟨m, rfl⟩ : ∃ m : Nat, n = (m : Int) := ⟨n.toNat, by omega⟩
      have h3 := s_shl1 (show m < 64 by omega)
      have h4 := s_sub1 (show m < 64 by omega)
      simp (disch := first | assumption | omega | (simp only [LN] <;> omega) | (simp (disch := first | assumption | omega | (simp only [LN] <;> omega)) only [row_alloc, row_set]; assumption)) only [f93, W_block, P3, ↓reduceIte, reduceAdd, reduceEqDiff, reduceCtorEq, initFr, reduceLT, clsA, reduceLeDiff, reduceMul, reduceSub, reduceIte, h1, h2, h3, h4, o_s64]
      refine hq2 _ _ ⟨S64 _, rfl, ?_, rfl⟩
      apply s64_ext; intro i hi; simp only [lowP, Int.ofNat_lt]
end Go.AM.Fd

set_option linter.unusedSimpArgs false
set_option linter.unusedVariables false
set_option maxRecDepth 8000
namespace Go.AM.Fd
open Go.Proofs Go.AM.F
theorem cells_s64 (f : Nat → Bool) : (S64 f).cells.toList = [S64 f] := rfl
theorem cells_s32 (f : Nat → Bool) : (S32 f).cells.toList = [S32 f] := rfl
def trP (r : Ro) (i : Nat) : Bool := (trk r).contains (i : Int)
def fiP (r : Ro) : Nat → Bool := oneP (r.path.getD 0 0)
def ahP (L : Ly) (r : Ro) : Nat → Bool := oneP (L.g.getD r.g.toNat ([], 0)).2
def ndP (l : List (Int × Bool)) (b : Bool) (p : Nat) : Bool := l.contains ((p : Int), b)
def mrow (L : Ly) (i : Nat) : List Value := [S64 (trP (ro L i)), S64 (fiP (ro L i)), S64 (ahP L (ro L i)), S32 (ndP (nds (ro L i)) false), S32 (ndP (nds (ro L i)) true), S64 (tabP L i)]
def mrows (L : Ly) : List (List Value) := (List.range L.r.length).map (mrow L)
def lieP (L : Ly) (i : Nat) : Nat → Bool := oneP (L.p.getD i ([], 0)).2
def mlies (L : Ly) : List (List Value) := (List.range L.p.length).map fun i => [S64 (lieP L i)]
def mcells (L : Ly) (vr vl : Value) : List Value := [vr, vl, S64 (lowP L.r.length), S32 (lowP L.p.length), S64 (lowP L.s.length)]
structure RoGood (L : Ly) (r : Ro) : Prop where
  lim : RoLim L r
  ne : 0 < r.path.length
  tr : ∀ x ∈ trk r, 0 ≤ x ∧ x < L.s.length
  nd : ∀ x ∈ nds r, 0 ≤ x.1 ∧ x.1 < L.p.length
theorem check_may {L : Ly} (h : checkE L = 0) : mayB L = true := by
  unfold checkE at h
  cases hm : mayB L with
  | true => rfl
  | false => rw [hm] at h; cases h
theorem check_form {L : Ly} (h : checkE L = 0) {r : Ro} (hr : r ∈ L.r) : formedB L r = true := by
  have hm := check_may h
  unfold checkE at h
  rw [hm] at h
  cases hf : L.r.all (formedB L) with
  | false => rw [hf] at h; cases h
  | true => exact List.all_eq_true.1 hf r hr
theorem check_good {L : Ly} (h : checkE L = 0) {r : Ro} (hr : r ∈ L.r) : RoGood L r := by
  have hm := check_may h
  have hf := check_form h hr
  have hl := may_ro hm hr
  have hb : roB L r = true := by
    have := hm
    simp only [mayB, Bool.and_eq_true, Bool.not_eq_true', List.all_eq_true] at this
    simp_all
  refine ⟨hl, ?_, ?_, ?_⟩
  · simp only [formedB, badB, Bool.and_eq_true, Bool.not_eq_true', Bool.or_eq_false_iff] at hf
    have := hf.1.1.1.1
    cases hp : r.path with
    | nil => rw [hp] at this; cases this
    | cons a l => simp
  · simp only [roB, inB, Bool.and_eq_true, decide_eq_true_eq, List.all_eq_true] at hb
    intro x hx
    rcases List.mem_append.1 hx with hx | hx
    · exact hb.1.2.1.2 x hx
    · exact hb.1.2.2 x hx
  · simp only [roB, needB, inB, Bool.and_eq_true, decide_eq_true_eq, List.all_eq_true] at hb
    intro x hx
    rcases List.mem_append.1 hx with hx | hx
    · have := hb.2.1.2 x hx; simpa using this
    · have := hb.2.2.2 x hx; simpa using this
end Go.AM.Fd

set_option linter.unusedSimpArgs false
set_option linter.unusedVariables false
set_option maxRecDepth 8000
namespace Go.AM.Fd
open Nat (reduceAdd reduceEqDiff reduceLT reduceLeDiff reduceMul reduceSub)
open Go.Proofs Go.AM.F
theorem row_lt {H : AHeap} {esz : Nat} {v : Value} {i : Nat} {r : List Value} (h : rowA H esz v i = some r) : bn v - 1 < H.n := by
  obtain ⟨b, o, n, k, rfl, h1, own, room, z, c, e, h2, h3, h4⟩ := rowA_range h
  have := AHeap.get_lt h2
  simp [bn, blk, slc]; omega
theorem nd_step {l : List (Int × Bool)} {j : Nat} (h : j < l.length) (b : Bool) (p : Nat) : ndP (l.take (j + 1)) b p = (ndP (l.take j) b p || (decide ((p : Int) = (l.getD j (0, false)).1) && (b == (l.getD j (0, false)).2))) := by
  unfold ndP
  rw [List.take_add_one, List.getElem?_eq_getElem h, List.getD_eq_getElem?_getD, List.getElem?_eq_getElem h, List.contains_append]
  simp only [Option.toList_some, Option.getD_some]
  congr 1
  obtain ⟨x, y⟩ := l[j]
  simp only [List.contains_cons, List.contains_nil, Bool.or_false]
  rw [Bool.eq_iff_iff]
  simp
theorem nd_zero (b : Bool) : Value.int .u32 0 = S32 (ndP [] b) := by rw [p_zero]; rfl
def xrow (L : Ly) (r : Ro) (i j : Nat) : List Value := [S64 (trP r), S64 (fiP r), S64 (ahP L r), S32 (ndP ((nds r).take j) false), S32 (ndP ((nds r).take j) true), S64 (tabP L i)]
theorem _root_.Go.AM.OW.set {e esz : Nat} {H K : AHeap} {v : Value} {rows : List (List Value)} (h : OW e esz H K v rows) {b : Nat} {o : AO} (hb : bn v ≠ b + 1) (hH : H.n ≤ b) (hK : b < K.n) : OW e esz H (K.set b o) v rows :=
  ⟨h.ap.chg1 (Chg.set K hK o) hb, h.r, h.k.set hH hK o, h.f⟩
theorem _root_.Go.AM.OW.sep {e esz : Nat} {H K : AHeap} {v : Value} {rows : List (List Value)} (h : OW e esz H K v rows) {b z t : Nat} {o r : Bool} {c : List Value} (g : K.get b = some (.cells o r z c t)) (hz : z ≠ esz) : bn v ≠ b + 1 := by
  rcases h.ap with ⟨rfl, _, _⟩ | ⟨b', room, rfl, _, h2⟩
  · simp [bn, blk]
  · intro e
    have e2 : b' = b := by simp [bn, blk, slc] at e; exact e
    subst e2
    rw [h2] at g
    cases g
    exact hz rfl
theorem _root_.Go.AM.OW.apart {e z e' z' : Nat} {H H' K : AHeap} {v w : Value} {rows rows' : List (List Value)} (h : OW e z H K v rows) (h' : OW e' z' H' K w rows') (hz : z ≠ z') : ∀ b ∈ blkL v, b ∉ blkL w := by
  intro b hb hb'
  rw [mem_blkL] at hb hb'
  rcases h.ap with ⟨rfl, _, _⟩ | ⟨c, room, rfl, _, h2⟩
  · cases hb
  · rcases h'.ap with ⟨rfl, _, _⟩ | ⟨c', room', rfl, _, h2'⟩
    · cases hb'
    · cases hb; cases hb'
      have e := Option.some.inj (h2.symm.trans h2')
      injection e with _ _ e3 _ _
      exact hz e3
theorem _root_.Go.AM.OW.chg {e z : Nat} {H K K' : AHeap} {v : Value} {rows : List (List Value)} {S : List Nat} (h : OW e z H K v rows) (c : Chg S K K') (hS : ∀ b ∈ blkL v, b ∉ S) (k : Keeps H K') : OW e z H K' v rows :=
  ⟨h.ap.chg c hS, h.r, k, h.f⟩
theorem fillW (a : Value) (h : a.cells.toList = [a]) : fillA [.int .u64 0] [(0, 1, a)] = some [a] := by
  rw [fill_cons, h, if_pos ⟨rfl, by simp⟩]; rfl
theorem not_blkL {v : Value} {b : Nat} (h : bn v ≠ b + 1) : b ∉ blkL v := by
  intro hm
  have := mem_blkL.1 hm
  apply h; unfold bn; rw [this]
theorem fillZ (a b c d e f : Value) : fillA [.int .u64 0, .int .u64 0, .int .u64 0, .int .u32 0, .int .u32 0, .int .u64 0] [(0, 6, .agg #[a, b, c, d, e, f])] = some [a, b, c, d, e, f] := rfl
theorem fillM (a c : Nat → Bool) (b : Nat → Bool) : fillA [.slice none 0 0, .slice none 0 0, .int .u64 0, .int .u32 0, .int .u64 0] [(2, 1, S64 a), (3, 1, S32 b), (4, 1, S64 c)] = some [.slice none 0 0, .slice none 0 0, S64 a, S32 b, S64 c] := rfl
theorem fillR (a b c d : Nat → Bool) : fillA [.int .u64 0, .int .u64 0, .int .u64 0, .int .u32 0, .int .u32 0, .int .u64 0] [(0, 1, S64 a), (1, 1, S64 b), (2, 1, S64 c), (5, 1, S64 d)] = some [S64 a, S64 b, S64 c, .int .u32 0, .int .u32 0, S64 d] := rfl
set_option maxHeartbeats 4000000 in
theorem t55 {H : AHeap} {u : V4} {xs : List RV} {L : Ly} (h : LyR H u xs L) (hf : LyIn 9223372036854775807 L) :
    ∃ w H', ARun Go.Proofs.Try.prog 0 55 [.agg u.l.toArray] H w H' ∧ Keeps H H' ∧ (checkE L ≠ 0 → w = .tuple #[.agg #[.slice none 0 0, .slice none 0 0, .int .u64 0, .int .u32 0, .int .u64 0], .int .i64 (checkE L)]) ∧
      (checkE L = 0 → ∃ vr vl, w = .tuple #[.agg (mcells L vr vl).toArray, .int .i64 0] ∧ Sl H' 6 vr (mrows L) ∧ Sl H' 1 vl (mlies L)) := by
  refine walk2 f55_ok f55_n ?_
  intro Q hq1 hq2
  have os := Sl.one h.s
  have op := Sl.one h.p
  have og := Sl.one h.g
  have or := Sl.one h.r
  have is := Sl.is h.s
  have ip := Sl.is h.p
  have ig := Sl.is h.g
  have ir := Sl.is h.r
  have hul : u.l = [u.s, u.p, u.g, u.r] := rfl
  obtain ⟨K0, hK0⟩ : ∃ X, X = (H.alloc (.cells true false 4 [u.s, u.p, u.g, u.r] 27)).alloc (.cells true false 5 [.slice none 0 0, .slice none 0 0, .int .u64 0, .int .u32 0, .int .u64 0] 74) := ⟨_, rfl⟩
  have k0 : Keeps H K0 := by rw [hK0]; exact ((Keeps.refl H).alloc _).alloc _
  have n0 : K0.n = H.n + 2 := by rw [hK0]; rfl
  have gl0 : K0.get H.n = some (.cells true false 4 [u.s, u.p, u.g, u.r] 27) := by rw [hK0]; exact ((Keeps.refl _).alloc _).at_ (AHeap.get_alloc_new H _)
  have gw0 : K0.get (H.n + 1) = some (.cells true false 5 [.slice none 0 0, .slice none 0 0, .int .u64 0, .int .u32 0, .int .u64 0] 74) := by rw [hK0]; exact AHeap.get_alloc_new (H.alloc _) _
  have tT := t92 (h.keeps k0) hf
  simp only [hul] at tT ⊢
  simp (disch := first | assumption | omega | (simp only [LN] <;> omega) | (simp (disch := first | assumption | omega | (simp only [LN] <;> omega)) only [row_alloc, row_set]; assumption)) only [f55, W_block, P3, ↓reduceIte, reduceAdd, reduceEqDiff, reduceCtorEq, initFr, reduceLT, clsA, reduceLeDiff, reduceMul, reduceSub, reduceIte, os, op, og, or]
  simp only [← hK0]
  refine callK tT ?_
  rintro tv K1 ⟨k1, e1, e2⟩
  by_cases he : checkE L = 0
  case neg =>
    rw [e1 he]
    have ne : (checkE L != 0) = true := by simp [he]
    have gw1 := k1.at_ gw0
    have l0 := AHeap.get_lt gw1
    simp (disch := first | assumption | omega | (simp only [LN] <;> omega) | (simp (disch := first | assumption | omega | (simp only [LN] <;> omega)) only [row_alloc, row_set]; assumption)) only [W_block, P3, ↓reduceIte, reduceAdd, reduceEqDiff, reduceCtorEq, initFr, reduceLT, clsA, reduceLeDiff, reduceMul, reduceSub, reduceIte, ne, gw1]
    refine hq2 _ _ ⟨.tuple #[.agg #[.slice none 0 0, .slice none 0 0, .int .u64 0, .int .u32 0, .int .u64 0], .int .i64 (checkE L)], ?_, (k0.trans k1).set (by omega) l0 _, fun _ => rfl, fun e => absurd e he⟩
    show resO [.cn 5 2, .t 3] _ _ = _
    have gg := AHeap.get_set_same gw1 (.cells true false 5 [.slice none 0 0, .slice none 0 0, .int .u64 0, .int .u32 0, .int .u64 0] 74)
    simp [resO, resVs, RX.get, celln, ptr, rangeA, gg]; rfl
  case pos =>
  obtain ⟨tb, rfl, htb, gt1⟩ := e2 he
  have hmay := check_may he
  have hL := may_lim hmay
  have hLs := hL.s
  have hLp := hL.p
  have hLg := hL.g
  have hLr := hL.r
  have hrl := h.rlen
  have gl1 := k1.at_ gl0
  have gw1 := k1.at_ gw0
  have n1 := k1.n
  have hA := (h.keeps k0).keeps k1
  have lr := h.r.len
  have ls := h.s.len
  have lp := h.p.len
  have lg := h.g.len
  rw [hrl] at lr
  simp (disch := first | assumption | omega | (simp only [LN] <;> omega) | (simp (disch := first | assumption | omega | (simp only [LN] <;> omega)) only [row_alloc, row_set]; assumption)) only [W_block, P3, ↓reduceIte, reduceAdd, reduceEqDiff, reduceCtorEq, initFr, reduceLT, clsA, reduceLeDiff, reduceMul, reduceSub, reduceIte, gl1, lr, ir]
  refine callK (t93 _) ?_
  rintro _ X ⟨rfl, hX⟩
  rw [hX]
  simp (disch := first | assumption | omega | (simp only [LN] <;> omega) | (simp (disch := first | assumption | omega | (simp only [LN] <;> omega)) only [row_alloc, row_set]; assumption)) only [W_block, P3, ↓reduceIte, reduceAdd, reduceEqDiff, reduceCtorEq, initFr, reduceLT, clsA, reduceLeDiff, reduceMul, reduceSub, reduceIte, gl1, lp, ip]
  refine callK (t93 _) ?_
  rintro _ X ⟨rfl, hX⟩
  rw [hX]
  simp (disch := first | assumption | omega | (simp only [LN] <;> omega) | (simp (disch := first | assumption | omega | (simp only [LN] <;> omega)) only [row_alloc, row_set]; assumption)) only [W_block, P3, ↓reduceIte, reduceAdd, reduceEqDiff, reduceCtorEq, initFr, reduceLT, clsA, reduceLeDiff, reduceMul, reduceSub, reduceIte, gl1, ls, is, s_down]
  refine callK (t93 _) ?_
  rintro _ X ⟨rfl, hX⟩
  rw [hX]
  obtain ⟨K2, hK2⟩ : ∃ X, X = K1.alloc (.cells true false 5 (mcells L (.slice none 0 0) (.slice none 0 0)) 74) := ⟨_, rfl⟩
  have hK2' := hK2
  unfold mcells at hK2'
  simp (disch := first | assumption | omega | (simp only [LN] <;> omega) | (simp (disch := first | assumption | omega | (simp only [LN] <;> omega)) only [row_alloc, row_set]; assumption)) only [ P3, ↓reduceIte, reduceAdd, reduceEqDiff, reduceCtorEq, initFr, reduceLT, clsA, reduceLeDiff, reduceMul, reduceSub, reduceIte, gl1, lr, ir, o_s64, o_s32, one_s64, one_s32, cells_s64, cells_s32, fillM]
  rw [← hK2', W_block]
  have k2 : Keeps K1 K2 := by rw [hK2]; exact (Keeps.refl K1).alloc _
  have gm2 : K2.get K1.n = some (.cells true false 5 (mcells L (.slice none 0 0) (.slice none 0 0)) 74) := by rw [hK2]; exact AHeap.get_alloc_new K1 _
  refine W_loop2 (fun q fr M => ∃ i vr x7 x8 x9 x10 x11 x16 x17 x18 x19 x20 x21 x22 x23 x24 x25, fr = [.agg #[u.s, u.p, u.g, u.r], ptr H.n 0, ptr (H.n + 1) 0, .int .i64 0, slc tb 0 L.r.length L.r.length, .int .i64 0, ptr K1.n 0, x7, x8, x9, x10, x11,
      .bool false, u.r, .int .i64 ((L.r.length : Nat) : Int), .int .i64 ((i : Nat) : Int), x16, x17, x18, x19, x20, x21, x22, x23, x24, x25] ∧
      M.get K1.n = some (.cells true false 5 (mcells L vr (.slice none 0 0)) 74) ∧ OW 89 6 K1 M vr ((List.range i).map (mrow L)) ∧ bn vr ≠ K1.n + 1 ∧ i ≤ L.r.length ∧ q = L.r.length - i) L.r.length
    ⟨0, .slice none 0 0, _, _, _, _, _, _, _, _, _, _, _, _, _, _, _, rfl, gm2, OW.nil _ _ k2, by simp [bn, blk], by omega, rfl⟩ ?_
  rintro Q' q fr M ⟨i, vr, x7, x8, x9, x10, x11, x16, x17, x18, x19, x20, x21, x22, x23, x24, x25, rfl, gm, ow, bv, hi, rfl⟩ hn' hx' hret
  have km := ow.k
  have gl2 := km.at_ gl1
  have gt2 := km.at_ gt1
  by_cases hlt : i < L.r.length
  · obtain ⟨hyr, hyo⟩ := rv_ro h (i := i) hlt
    obtain ⟨na, ra⟩ := (hA.r.keeps km).at_ (i := i) (by omega)
    have hgood := check_good he (List.getElem_mem hlt)
    rw [← ro_eq hlt, ← hyr] at hgood
    have hmr : mrow L i = [S64 (trP (ro L i)), S64 (fiP (ro L i)), S64 (ahP L (ro L i)), S32 (ndP (nds (ro L i)) false), S32 (ndP (nds (ro L i)) true), S64 (tabP L i)] := rfl
    rw [← hyr] at hmr
    generalize xs.getD i rv0 = y at *
    have hlim := hgood.lim
    have lP := hlim.p
    have lO := hlim.o
    have lQ := hlim.q
    have lF := hlim.f
    have h0 : (0 : Int) ≤ (i : Int) := by omega
    have h1 : (i : Int) < ((L.r.length : Nat) : Int) := by omega
    have hw : IntKind.i64.wrap ((i : Int) + 1) = ((i + 1 : Nat) : Int) := by rw [wrap_i64 (by omega) (by omega)]; simp
    have rowy : y.row = [.string ⟨y.r.n.toArray⟩, .int .i64 y.r.g, y.vp, y.vq, y.vo, y.vf] := rfl
    obtain ⟨a3, a4, a5, a6⟩ := RV.ones hyo
    have a1 : one1 (Value.int .i64 y.r.g) = True := by simp [one1, one_int]
    have a2 : one1 (Value.string ⟨y.r.n.toArray⟩) = True := by simp [one1, one_str]
    obtain ⟨M1, hM1⟩ : ∃ X, X = M.alloc (.cells true false 6 y.row 50) := ⟨_, rfl⟩
    have m1 : M1.n = M.n + 1 := by rw [hM1]; rfl
    have kM1 : Keeps M M1 := by rw [hM1]; exact (Keeps.refl M).alloc _
    have gy1 : M1.get M.n = some (.cells true false 6 y.row 50) := by rw [hM1]; exact AHeap.get_alloc_new M _
    have hMn := AHeap.get_lt gm
    have kmn := km.n
    have hM1' := hM1
    simp only [rowy] at ra hM1' gy1
    have yo1 := ((hyo.keeps (k0.trans k1)).keeps km).keeps kM1
    have tTr := t43 yo1 (by omega)
    simp only [rowy] at tTr
    simp (disch := first | assumption | omega | (simp only [LN] <;> omega) | (simp (disch := first | assumption | omega | (simp only [LN] <;> omega)) only [row_alloc, row_set]; assumption)) only [ P3, ↓reduceIte, reduceAdd, reduceEqDiff, reduceCtorEq, initFr, reduceLT, clsA, reduceLeDiff, reduceMul, reduceSub, reduceIte, h1]
    rw [W_block]
    simp (disch := first | assumption | omega | (simp only [LN] <;> omega) | (simp (disch := first | assumption | omega | (simp only [LN] <;> omega)) only [row_alloc, row_set]; assumption)) only [ P3, ↓reduceIte, reduceAdd, reduceEqDiff, reduceCtorEq, initFr, reduceLT, clsA, reduceLeDiff, reduceMul, reduceSub, reduceIte, lr, ra, na, a_loadnvf, a1, a2, a3, a4, a5, a6]
    rw [← hM1']
    refine callK tTr ?_
    rintro tv M2 ⟨htv, kM2, _⟩
    have hti : IL M2 tv (trk y.r) := htv.sl
    simp (disch := first | assumption | omega | (simp only [LN] <;> omega) | (simp (disch := first | assumption | omega | (simp only [LN] <;> omega)) only [row_alloc, row_set]; assumption)) only [ P3, ↓reduceIte, reduceAdd, reduceEqDiff, reduceCtorEq, initFr, reduceLT, clsA, reduceLeDiff, reduceMul, reduceSub, reduceIte, gy1]
    refine callK (t94 hti (by simp [trk]; omega)) ?_
    rintro _ X ⟨rfl, hX⟩
    rw [hX]
    have gl3 := (kM1.trans kM2).at_ gl2
    have gy3 := kM2.at_ gy1
    have gt3 := (kM1.trans kM2).at_ gt2
    have lpt := yo1.p.len
    obtain ⟨nap, rap⟩ := (yo1.p.keeps kM2).at_ (i := 0) hgood.ne
    have p0 : (0 : Int) < ((y.r.path.length : Nat) : Int) := by have := hgood.ne; omega
    obtain ⟨_, rap1⟩ := yo1.p.at_ (i := 0) hgood.ne
    have q1 := row_lt rap1
    have q2 := kM2.get _ q1
    have q3 : bn y.vp - 1 < M2.n := by have := kM2.n; omega
    have q4 : M.n < M2.n := by have := kM2.n; omega
    simp (disch := first | assumption | omega | (simp only [LN] <;> omega) | (simp (disch := first | assumption | omega | (simp only [LN] <;> omega)) only [row_alloc, row_set]; assumption)) only [ P3, ↓reduceIte, reduceAdd, reduceEqDiff, reduceCtorEq, initFr, reduceLT, clsA, reduceLeDiff, reduceMul, reduceSub, reduceIte, gy3, gy1, nap, rap, lpt, a_load1v, p0, q1, q2, q3, q4]
    refine callK (t66z _) ?_
    rintro _ X ⟨rfl, hX⟩
    rw [hX]
    obtain ⟨n, hn⟩ : ∃ n : Nat, y.r.g = (n : Int) := ⟨y.r.g.toNat, by have := hlim.g.1; omega⟩
    have hnl : n < L.g.length := by have := hlim.g.2; omega
    obtain ⟨nag, rag1⟩ := (((hA.g.keeps km).keeps kM1).at_ hnl)
    obtain ⟨_, rag⟩ := ((((hA.g.keeps km).keeps kM1).keeps kM2).at_ hnl)
    have hah : ahP L y.r = oneP (L.g.getD n ([], 0)).2 := by unfold ahP; rw [hn]; rfl
    have q5 := row_lt rag1
    have q6 := kM2.get _ q5
    have q7 : bn u.g - 1 < M2.n := by have := kM2.n; omega
    have q8 : M1.get H.n = some (.cells true false 4 [u.s, u.p, u.g, u.r] 27) := kM1.at_ gl2
    have q9 : H.n < M1.n := AHeap.get_lt q8
    have q10 : H.n < M2.n := AHeap.get_lt gl3
    have q11 : M.n < M1.n := AHeap.get_lt gy1
    have g0 : (0 : Int) ≤ (n : Int) := by omega
    have g1 : (n : Int) < ((L.g.length : Nat) : Int) := by omega
    simp (disch := first | assumption | omega | (simp only [LN] <;> omega) | (simp (disch := first | assumption | omega | (simp only [LN] <;> omega)) only [row_alloc, row_set]; assumption)) only [ P3, ↓reduceIte, reduceAdd, reduceEqDiff, reduceCtorEq, initFr, reduceLT, clsA, reduceLeDiff, reduceMul, reduceSub, reduceIte, gy3, gy1, gl3, q8, hn, g0, g1, nag, rag, lg, a_load1v, a_loadnvf, q4, q5, q6, q7, q9, q10, q11]
    refine callK (t66z _) ?_
    rintro _ X ⟨rfl, hX⟩
    rw [hX]
    have tbi : (tabC L)[i]? = some (S64 (tabP L i)) := by unfold tabC; simp [hlt]
    have gt1' := kM1.at_ gt2
    have q12 : tb < M1.n := AHeap.get_lt gt1'
    have q13 : tb < M2.n := AHeap.get_lt gt3
    obtain ⟨M3, hM3⟩ : ∃ X, X = M2.alloc (.cells true false 6 [S64 (trP y.r), S64 (fiP y.r), S64 (ahP L y.r), .int .u32 0, .int .u32 0, S64 (tabP L i)] 89) := ⟨_, rfl⟩
    have m3 : M3.n = M2.n + 1 := by rw [hM3]; rfl
    have kM3 : Keeps M2 M3 := by rw [hM3]; exact (Keeps.refl M2).alloc _
    have gx3 : M3.get M2.n = some (.cells true false 6 [S64 (trP y.r), S64 (fiP y.r), S64 (ahP L y.r), .int .u32 0, .int .u32 0, S64 (tabP L i)] 89) := by rw [hM3]; exact AHeap.get_alloc_new M2 _
    have hM3' := hM3
    unfold trP fiP at hM3'
    rw [hah] at hM3'
    have gy4 := kM3.at_ gy3
    have tN := t44 ((yo1.keeps kM2).keeps kM3) (by omega)
    simp only [rowy, hn] at tN
    simp only [hn] at gy4
    simp (disch := first | assumption | omega | (simp only [LN] <;> omega) | (simp (disch := first | assumption | omega | (simp only [LN] <;> omega)) only [row_alloc, row_set]; assumption)) only [ P3, ↓reduceIte, reduceAdd, reduceEqDiff, reduceCtorEq, initFr, reduceLT, clsA, reduceLeDiff, reduceMul, reduceSub, reduceIte, gt1', gt3, tbi, h0, h1, fillR, Int.toNat_natCast, Nat.mul_one, Nat.zero_add, o_s64, o_s32, one_s64, one_s32, q12, q13, gy3, hn, q4]
    simp only [← hM3']
    refine callK tN ?_
    rintro nv M4 ⟨hnv, kM4, fnv⟩
    have hni : NL M4 nv (nds y.r) := hnv.sl
    have lnv := hni.len
    have isn := Sl.is hni
    have ndl : (nds y.r).length ≤ 32 := by simp [nds]; omega
    have gx4 := kM4.at_ gx3
    have e0 : [S64 (trP y.r), S64 (fiP y.r), S64 (ahP L y.r), .int .u32 0, .int .u32 0, S64 (tabP L i)] = xrow L y.r i 0 := by
      unfold xrow; rw [List.take_zero, ← nd_zero, ← nd_zero]
    rw [e0] at gx4
    simp (disch := first | assumption | omega | (simp only [LN] <;> omega) | (simp (disch := first | assumption | omega | (simp only [LN] <;> omega)) only [row_alloc, row_set]; assumption)) only [ P3, ↓reduceIte, reduceAdd, reduceEqDiff, reduceCtorEq, initFr, reduceLT, clsA, reduceLeDiff, reduceMul, reduceSub, reduceIte, lnv, isn]
    rw [W_block]
    refine W_loop2 (fun q fr N => ∃ j x10 x20 x21, fr = [.agg #[u.s, u.p, u.g, u.r], ptr H.n 0, ptr (H.n + 1) 0, .int .i64 0, slc tb 0 L.r.length L.r.length, .int .i64 0, ptr K1.n 0, .int .i64 ((i : Nat) : Int), ptr M.n 0, ptr M2.n 0, x10, x11,
        .bool false, u.r, .int .i64 ((L.r.length : Nat) : Int), .int .i64 ((i : Nat) : Int), .bool true, nv, .int .i64 (((nds y.r).length : Nat) : Int), .int .i64 ((j : Nat) : Int), x20, x21, x22, x23, x24, x25] ∧
        Chg [M2.n] M4 N ∧ N.get M2.n = some (.cells true false 6 (xrow L y.r i j) 89) ∧ j ≤ (nds y.r).length ∧ q = (nds y.r).length - j) (nds y.r).length
      ⟨0, _, _, _, rfl, Chg.refl _ _, gx4, by omega, rfl⟩ ?_
    rintro Q2 q fr N ⟨j, x10, x20, x21, rfl, cN, gxN, hj, rfl⟩ hn2 hx2 hret2
    have nbn : ∀ b, blk nv = some b → b ∉ [M2.n] := fun b hb => by have := fnv b hb; simp; omega
    have hniN : NL N nv (nds y.r) := Sl.chg hni cN nbn
    by_cases hlj : j < (nds y.r).length
    · obtain ⟨nj, rj⟩ := hniN.at_ hlj
      have hw2 : IntKind.i64.wrap ((j : Int) + 1) = ((j + 1 : Nat) : Int) := by rw [wrap_i64 (by omega) (by omega)]; simp
      have j0 : (0 : Int) ≤ (j : Int) := by omega
      have j1 : ((j : Nat) : Int) < (((nds y.r).length : Nat) : Int) := by omega
      have sf := nd_step hlj false
      have st := nd_step hlj true
      have hmem : (nds y.r).getD j (0, false) ∈ nds y.r := by rw [List.getD_eq_getElem?_getD, List.getElem?_eq_getElem hlj]; exact List.getElem_mem hlj
      have hrng := hgood.nd _ hmem
      generalize (nds y.r).getD j (0, false) = z at *
      obtain ⟨zp, zb⟩ := z
      obtain ⟨m, rfl⟩ : ∃ m : Nat, zp = (m : Int) := ⟨zp.toNat, by have := hrng.1; omega⟩
      have hm32 : m < 32 := by have := hrng.2; simp only at this; omega
      have s1 := p_shl1 hm32
      have hxl := AHeap.get_lt gxN
      have gxA : (N.alloc (.cells true false 2 [.int .i64 (m : Int), .bool zb] 68)).get M2.n = some (.cells true false 6 (xrow L y.r i j) 89) := ((Keeps.refl N).alloc _).at_ gxN
      have gnA := AHeap.get_alloc_new N (.cells true false 2 [.int .i64 (m : Int), .bool zb] 68)
      have cA : Chg [M2.n] M4 (N.alloc (.cells true false 2 [.int .i64 (m : Int), .bool zb] 68)) := cN.alloc _
      unfold xrow at gxA gxN
      cases zb with
      | true =>
        simp (disch := first | assumption | omega | (simp only [LN] <;> omega) | (simp (disch := first | assumption | omega | (simp only [LN] <;> omega)) only [row_alloc, row_set]; assumption)) only [W_block, P3, ↓reduceIte, reduceAdd, reduceEqDiff, reduceCtorEq, initFr, reduceLT, clsA, reduceLeDiff, reduceMul, reduceSub, reduceIte, j1, lnv, nj, rj, a_loadnvf, gxN, s1, p_or, o_s32, one_s32, hw2]
        have ex : xrow L y.r i (j + 1) = [S64 (trP y.r), S64 (fiP y.r), S64 (ahP L y.r), S32 (ndP ((nds y.r).take j) false), S32 (fun i => ndP ((nds y.r).take j) true i || decide (i = m)), S64 (tabP L i)] := by
          unfold xrow
          rw [show ndP ((nds y.r).take (j + 1)) false = ndP ((nds y.r).take j) false from funext fun p => by rw [sf]; simp,
            show ndP ((nds y.r).take (j + 1)) true = fun i => ndP ((nds y.r).take j) true i || decide (i = m) from funext fun p => by rw [st]; simp only [beq_self_eq_true, Bool.and_true, Int.ofNat_inj]]
        exact hn2 _ _ _ ⟨j + 1, _, _, _, rfl, (cN.trans (Chg.set N hxl _) (by simp)).alloc _, ((Keeps.refl _).alloc _).at_ (by rw [ex]; exact AHeap.get_set_same gxN _), by omega, rfl⟩ (by omega)
      | false =>
        simp (disch := first | assumption | omega | (simp only [LN] <;> omega) | (simp (disch := first | assumption | omega | (simp only [LN] <;> omega)) only [row_alloc, row_set]; assumption)) only [W_block, P3, ↓reduceIte, reduceAdd, reduceEqDiff, reduceCtorEq, initFr, reduceLT, clsA, reduceLeDiff, reduceMul, reduceSub, reduceIte, j1, lnv, nj, rj, a_loadnvf, gxN, s1, p_or, o_s32, one_s32, hw2]
        have ex : xrow L y.r i (j + 1) = [S64 (trP y.r), S64 (fiP y.r), S64 (ahP L y.r), S32 (fun i => ndP ((nds y.r).take j) false i || decide (i = m)), S32 (ndP ((nds y.r).take j) true), S64 (tabP L i)] := by
          unfold xrow
          rw [show ndP ((nds y.r).take (j + 1)) true = ndP ((nds y.r).take j) true from funext fun p => by rw [st]; simp,
            show ndP ((nds y.r).take (j + 1)) false = fun i => ndP ((nds y.r).take j) false i || decide (i = m) from funext fun p => by rw [sf]; simp only [beq_self_eq_true, Bool.and_true, Int.ofNat_inj]]
        exact hn2 _ _ _ ⟨j + 1, _, _, _, rfl, (cN.trans (Chg.set N hxl _) (by simp)).alloc _, ((Keeps.refl _).alloc _).at_ (by rw [ex]; exact AHeap.get_set_same gxN _), by omega, rfl⟩ (by omega)
    · have j1 : ¬ ((j : Nat) : Int) < (((nds y.r).length : Nat) : Int) := by omega
      have hje : j = (nds y.r).length := by omega
      subst hje
      have exl : xrow L y.r i (nds y.r).length = mrow L i := by unfold xrow; rw [List.take_length, hmr, hyr]
      rw [exl, hmr] at gxN
      have kMN : Keeps M N := (((kM1.trans kM2).trans kM3).trans kM4).chg_trans cN (by simp; omega)
      have owN := ow.keeps kMN
      have gmN := kMN.at_ gm
      unfold mcells at gmN
      have isv := owN.is
      simp (disch := first | assumption | omega | (simp only [LN] <;> omega) | (simp (disch := first | assumption | omega | (simp only [LN] <;> omega)) only [row_alloc, row_set]; assumption)) only [W_block, P3, ↓reduceIte, reduceAdd, reduceEqDiff, reduceCtorEq, initFr, reduceLT, clsA, reduceLeDiff, reduceMul, reduceSub, reduceIte, j1]
      refine hx2 _ _ _ ?_
      simp (disch := first | assumption | omega | (simp only [LN] <;> omega) | (simp (disch := first | assumption | omega | (simp only [LN] <;> omega)) only [row_alloc, row_set]; assumption)) only [W_block, P3, ↓reduceIte, reduceAdd, reduceEqDiff, reduceCtorEq, initFr, reduceLT, clsA, reduceLeDiff, reduceMul, reduceSub, reduceIte, gmN, gxN, isv, fillZ, one_s64, one_s32, o_s64, o_s32]
      have lvr := ow.len
      refine OW.appR (owN.keeps ((Keeps.refl N).alloc _)) (Sl.one1 rfl rfl) (by simp; omega) ?_
      intro v' K' ow' c'
      have gmK := c'.at_ (((Keeps.refl N).alloc _).at_ gmN) (not_blkL bv)
      have bv' := ow'.sep gmK (by omega)
      have hbK := AHeap.get_lt gmK
      have o1 := ow'.one
      simp (disch := first | assumption | omega | (simp only [LN] <;> omega) | (simp (disch := first | assumption | omega | (simp only [LN] <;> omega)) only [row_alloc, row_set]; assumption)) only [W_block, P3, ↓reduceIte, reduceAdd, reduceEqDiff, reduceCtorEq, initFr, reduceLT, clsA, reduceLeDiff, reduceMul, reduceSub, reduceIte, gmK, o1, hw]
      have ers : (List.range (i + 1)).map (mrow L) = (List.range i).map (mrow L) ++ [[S64 (trP y.r), S64 (fiP y.r), S64 (ahP L y.r), S32 (ndP (nds y.r) false), S32 (ndP (nds y.r) true), S64 (tabP L i)]] := by
        rw [List.range_succ, List.map_append, ← hmr]; rfl
      exact hn' _ _ _ ⟨i + 1, v', _, _, _, _, _, _, _, _, _, _, _, _, _, _, _, rfl, AHeap.get_set_same gmK _, by rw [ers]; exact ow'.set bv' (Nat.le_refl _) hbK, bv', by omega, rfl⟩ (by omega)
  · have h1 : ¬ ((i : Nat) : Int) < ((L.r.length : Nat) : Int) := by omega
    have hin : i = L.r.length := by omega
    subst hin
    simp (disch := first | assumption | omega | (simp only [LN] <;> omega) | (simp (disch := first | assumption | omega | (simp only [LN] <;> omega)) only [row_alloc, row_set]; assumption)) only [W_block, P3, ↓reduceIte, reduceAdd, reduceEqDiff, reduceCtorEq, initFr, reduceLT, clsA, reduceLeDiff, reduceMul, reduceSub, reduceIte, h1]
    refine hx' _ _ _ ?_
    simp (disch := first | assumption | omega | (simp only [LN] <;> omega) | (simp (disch := first | assumption | omega | (simp only [LN] <;> omega)) only [row_alloc, row_set]; assumption)) only [ P3, ↓reduceIte, reduceAdd, reduceEqDiff, reduceCtorEq, initFr, reduceLT, clsA, reduceLeDiff, reduceMul, reduceSub, reduceIte, gl2, lp, ip]
    rw [W_block]
    refine W_loop2 (fun q fr N => ∃ i vl x11 x25, fr = [.agg #[u.s, u.p, u.g, u.r], ptr H.n 0, ptr (H.n + 1) 0, .int .i64 0, slc tb 0 L.r.length L.r.length, .int .i64 0, ptr K1.n 0, x7, x8, x9, x10, x11,
        .bool false, u.r, .int .i64 ((L.r.length : Nat) : Int), .int .i64 ((L.r.length : Nat) : Int), .bool false, x17, x18, x19, x20, x21, u.p, .int .i64 ((L.p.length : Nat) : Int), .int .i64 ((i : Nat) : Int), x25] ∧
        N.get K1.n = some (.cells true false 5 (mcells L vr vl) 74) ∧ OW 89 6 K1 N vr (mrows L) ∧ OW 28 1 K1 N vl ((List.range i).map fun i => [S64 (lieP L i)]) ∧ i ≤ L.p.length ∧ q = L.p.length - i) L.p.length
      ⟨0, .slice none 0 0, _, _, rfl, gm, ow, OW.nil _ _ km, by omega, rfl⟩ ?_
    rintro Q2 q fr N ⟨i, vl, x11, x25, rfl, gmN, owr, owl, hi, rfl⟩ hn2 hx2 hret2
    have kN := owr.k
    by_cases hlt : i < L.p.length
    · obtain ⟨np, rp⟩ := (hA.p.keeps kN).at_ hlt
      have h0 : (0 : Int) ≤ (i : Int) := by omega
      have h1 : (i : Int) < ((L.p.length : Nat) : Int) := by omega
      have hw : IntKind.i64.wrap ((i : Int) + 1) = ((i + 1 : Nat) : Int) := by rw [wrap_i64 (by omega) (by omega)]; simp
      have hli : lieP L i = oneP (L.p.getD i ([], 0)).2 := rfl
      generalize L.p.getD i ([], 0) = z at *
      have w1 : one1 (Value.int .i64 z.2) = True := by simp [one1, one_int]
      have w2 : one1 (Value.string ⟨z.1.toArray⟩) = True := by simp [one1, one_str]
      have isl := owl.is
      have isr := owr.is
      unfold mcells at gmN
      obtain ⟨N1, hN1⟩ : ∃ X, X = N.alloc (.cells true false 2 [.string ⟨z.1.toArray⟩, .int .i64 z.2] 46) := ⟨_, rfl⟩
      have kN1 : Keeps N N1 := by rw [hN1]; exact (Keeps.refl N).alloc _
      have gmN1 := kN1.at_ gmN
      simp (disch := first | assumption | omega | (simp only [LN] <;> omega) | (simp (disch := first | assumption | omega | (simp only [LN] <;> omega)) only [row_alloc, row_set]; assumption)) only [W_block, P3, ↓reduceIte, reduceAdd, reduceEqDiff, reduceCtorEq, initFr, reduceLT, clsA, reduceLeDiff, reduceMul, reduceSub, reduceIte, h1, lp, np, rp, a_loadnvf, gmN, w1, w2]
      have gpN1 := AHeap.get_alloc_new N (.cells true false 2 [.string ⟨z.1.toArray⟩, .int .i64 z.2] 46)
      rw [← hN1] at gpN1 ⊢
      have t1 : K1.n < N1.n := AHeap.get_lt gmN1
      simp (disch := first | assumption | omega | (simp only [LN] <;> omega) | (simp (disch := first | assumption | omega | (simp only [LN] <;> omega)) only [row_alloc, row_set]; assumption)) only [W_block, P3, ↓reduceIte, reduceAdd, reduceEqDiff, reduceCtorEq, initFr, reduceLT, clsA, reduceLeDiff, reduceMul, reduceSub, reduceIte, gmN1, gpN1, isl]
      refine callK (t66z _) ?_
      rintro _ X ⟨rfl, hX⟩
      rw [hX]
      have lvl := owl.len
      have fW := fillW (S64 (oneP z.2)) rfl
      simp (disch := first | assumption | omega | (simp only [LN] <;> omega) | (simp (disch := first | assumption | omega | (simp only [LN] <;> omega)) only [row_alloc, row_set]; assumption)) only [W_block, P3, ↓reduceIte, reduceAdd, reduceEqDiff, reduceCtorEq, initFr, reduceLT, clsA, reduceLeDiff, reduceMul, reduceSub, reduceIte, gmN1, gpN1, isl, fW, one_s64, o_s64, t1]
      refine ⟨by simp, OW.appD (owl.keeps (kN1.alloc _)) (Sl.one1 (row := [S64 (oneP z.2)]) rfl rfl) ?_ ?_⟩
      · simp only [List.length_map, List.length_range, List.length_cons, List.length_nil]; omega
      intro v' K' ow' c'
      have owr' := (owr.keeps (kN1.alloc (.cells true false 1 [S64 (oneP z.2)] 28))).chg c' (owr.apart owl (by omega)) ow'.k
      have hml : K1.n ∉ blkL vl := not_blkL (owl.sep gmN (by omega))
      have gmK := c'.at_ (((Keeps.refl N1).alloc (.cells true false 1 [S64 (oneP z.2)] 28)).at_ gmN1) hml
      have bv' := ow'.sep gmK (by omega)
      have br' := owr'.sep gmK (by omega)
      have hbK := AHeap.get_lt gmK
      have o1 := ow'.one
      simp (disch := first | assumption | omega | (simp only [LN] <;> omega) | (simp (disch := first | assumption | omega | (simp only [LN] <;> omega)) only [row_alloc, row_set]; assumption)) only [W_block, P3, ↓reduceIte, reduceAdd, reduceEqDiff, reduceCtorEq, initFr, reduceLT, clsA, reduceLeDiff, reduceMul, reduceSub, reduceIte, gmK, o1, hw]
      have ers : (List.range (i + 1)).map (fun i => [S64 (lieP L i)]) = (List.range i).map (fun i => [S64 (lieP L i)]) ++ [[S64 (oneP z.2)]] := by
        rw [List.range_succ, List.map_append, ← hli]; rfl
      exact hn2 _ _ _ ⟨i + 1, v', _, _, rfl, AHeap.get_set_same gmK _, owr'.set br' (Nat.le_refl _) hbK, by rw [ers]; exact ow'.set bv' (Nat.le_refl _) hbK, by omega, rfl⟩ (by omega)
    · have h1 : ¬ ((i : Nat) : Int) < ((L.p.length : Nat) : Int) := by omega
      have hie : i = L.p.length := by omega
      subst hie
      unfold mcells at gmN
      have isl := owl.one
      have isr := owr.one
      have gwN := kN.at_ gw1
      have hwl := AHeap.get_lt gwN
      simp (disch := first | assumption | omega | (simp only [LN] <;> omega) | (simp (disch := first | assumption | omega | (simp only [LN] <;> omega)) only [row_alloc, row_set]; assumption)) only [W_block, P3, ↓reduceIte, reduceAdd, reduceEqDiff, reduceCtorEq, initFr, reduceLT, clsA, reduceLeDiff, reduceMul, reduceSub, reduceIte, h1]
      refine hx2 _ _ _ ?_
      simp (disch := first | assumption | omega | (simp only [LN] <;> omega) | (simp (disch := first | assumption | omega | (simp only [LN] <;> omega)) only [row_alloc, row_set]; assumption)) only [W_block, P3, ↓reduceIte, reduceAdd, reduceEqDiff, reduceCtorEq, initFr, reduceLT, clsA, reduceLeDiff, reduceMul, reduceSub, reduceIte, gmN, gwN, isl, isr, o_s64, o_s32, one_s64, one_s32]
      refine hq2 _ _ ⟨.tuple #[.agg (mcells L vr vl).toArray, .int .i64 0], ?_, (k0.trans (k1.trans kN)).set (by omega) hwl _, fun e => absurd he e, fun _ => ⟨vr, vl, rfl, owr.sl.chg1 (Chg.set N hwl _) (owr.sep gwN (by omega)), owl.sl.chg1 (Chg.set N hwl _) (owl.sep gwN (by omega))⟩⟩
      show resO [.cn 5 2, .t 3] _ _ = _
      have gg := AHeap.get_set_same gwN (.cells true false 5 [vr, vl, S64 (lowP ((L.r.length : Nat) : Int)), S32 (lowP ((L.p.length : Nat) : Int)), S64 (lowP ((L.s.length : Nat) : Int))] 74)
      simp [resO, resVs, RX.get, celln, ptr, rangeA, gg, mcells]; rfl
end Go.AM.Fd

set_option linter.unusedSimpArgs false
set_option linter.unusedVariables false
set_option maxRecDepth 8000
namespace Go.AM.Fd
open Nat (reduceAdd reduceEqDiff reduceLT reduceLeDiff reduceMul reduceSub)
open Go.Proofs Go.AM.F
theorem mrows_len (L : Ly) : (mrows L).length = L.r.length := by simp [mrows]
theorem mrows_at {L : Ly} {i : Nat} (h : i < L.r.length) {h' : i < (mrows L).length} : (mrows L)[i] = mrow L i := by simp [mrows]
set_option maxHeartbeats 1000000 in
theorem t58 {H : AHeap} {v0 v1 v2 v3 v4 : Value} {L : Ly} {f : Nat → Bool} {fn : Nat} {g : Nat → Nat → Bool} (hs : Sl H 6 v0 (mrows L)) (hl : L.r.length ≤ 64)
    (h1 : v1.oneCell' = true) (h2 : v2.oneCell' = true) (h3 : v3.oneCell' = true) (h4 : v4.oneCell' = true)
    (hF : ∀ (K : AHeap) i, i < L.r.length → ∃ w K', ARun Go.Proofs.Try.prog 0 fn [.agg (mrow L i).toArray] K w K' ∧ w = S32 (g i) ∧ K' = K) :
    ∃ w H', ARun Go.Proofs.Try.prog 0 58 [.agg #[v0, v1, v2, v3, v4], S64 f, .func (.func fn) #[] #[]] H w H' ∧ w = S32 (fun p => (List.range L.r.length).any fun i => f i && g i p) ∧ H' = H := by
  suffices h' : ∃ w H', ARun Go.Proofs.Try.prog 0 58 [.agg #[v0, v1, v2, v3, v4], S64 f, .func (.func fn) #[] #[]] H w H' ∧ w = S32 (fun p => (List.range L.r.length).any fun i => f i && g i p) ∧ Keeps H H' by
    obtain ⟨_, _, a, rfl, k⟩ := h'
    exact ⟨_, _, a.gc0 k (.inr (.int _ _)), rfl, rfl⟩
  refine walk2 f58_ok f58_n ?_
  intro Q hq1 hq2
  have h0 := Sl.one hs
  have is0 := Sl.is hs
  have len := hs.len
  rw [mrows_len] at len
  have k0 := (Keeps.refl H).alloc (.cells true false 5 [v0, v1, v2, v3, v4] 74)
  simp (disch := first | assumption | omega | (simp only [LN] <;> omega) | (simp (disch := first | assumption | omega | (simp only [LN] <;> omega)) only [row_alloc, row_set]; assumption)) only [ f58, P3, ↓reduceIte, reduceAdd, reduceEqDiff, reduceCtorEq, initFr, reduceLT, clsA, reduceLeDiff, reduceMul, reduceSub, reduceIte, h0, h1, h2, h3, h4, is0, len]
  rw [W_block]
  refine W_loop2 (fun q fr K => ∃ i x6 x7 x11 x12, fr = [.agg #[v0, v1, v2, v3, v4], S64 f, .func (.func fn) #[] #[], ptr H.n 0, .int .u32 0, S32 (fun p => (List.range i).any fun i => f i && g i p), x6, x7, v0, .int .i64 ((L.r.length : Nat) : Int), .int .i64 ((i : Nat) : Int), x11, x12] ∧
      Keeps H K ∧ i ≤ L.r.length ∧ q = L.r.length - i) L.r.length
    ⟨0, _, _, _, _, by rw [p_zero]; rfl, k0, by omega, rfl⟩ ?_
  rintro Q' q fr K ⟨i, x6, x7, x11, x12, rfl, kK, hi, rfl⟩ hn' hx' hret
  by_cases hlt : i < L.r.length
  · obtain ⟨na, ra⟩ := (hs.keeps kK).at_ (by omega) (i := i) (by rw [mrows_len]; exact hlt)
    rw [mrows_at hlt] at ra
    have e0 : (0 : Int) ≤ (i : Int) := by omega
    have e1 : (i : Int) < ((L.r.length : Nat) : Int) := by omega
    have hw : IntKind.i64.wrap ((i : Int) + 1) = ((i + 1 : Nat) : Int) := by rw [wrap_i64 (by omega) (by omega)]; simp
    have hasE : hasB f (i : Int) = f i := by
      have a : (i : Int) < 64 := by omega
      simp [hasB, a]
    have hf := fun K => hF K i hlt
    unfold mrow at ra hf
    have kA := (Keeps.refl K).alloc (.cells true false 6 (mrow L i) 89)
    have ext : (S32 fun p => (List.range (i + 1)).any fun i => f i && g i p) = S32 (fun p => ((List.range i).any fun i => f i && g i p) || (f i && g i p)) := by
      congr 1; funext p; rw [List.range_succ, List.any_append]; simp
    unfold mrow at kA
    simp (disch := first | assumption | omega | (simp only [LN] <;> omega) | (simp (disch := first | assumption | omega | (simp only [LN] <;> omega)) only [row_alloc, row_set]; assumption)) only [W_block, P3, ↓reduceIte, reduceAdd, reduceEqDiff, reduceCtorEq, initFr, reduceLT, clsA, reduceLeDiff, reduceMul, reduceSub, reduceIte, e1, len, na, ra, a_loadnvf, o_s64, o_s32, one_s64, one_s32]
    refine callK (t22 f _) ?_
    rintro _ X ⟨rfl, hX⟩
    rw [hX, hasE]
    cases hfi : f i with
    | false =>
      rw [hfi] at ext
      simp (disch := first | assumption | omega | (simp only [LN] <;> omega) | (simp (disch := first | assumption | omega | (simp only [LN] <;> omega)) only [row_alloc, row_set]; assumption)) only [W_block, P3, ↓reduceIte, reduceAdd, reduceEqDiff, reduceCtorEq, initFr, reduceLT, clsA, reduceLeDiff, reduceMul, reduceSub, reduceIte, hw]
      exact hn' _ _ _ ⟨i + 1, _, _, _, _, by rw [ext]; simp; exact ⟨rfl, rfl, rfl, rfl⟩, kK.trans kA, by omega, rfl⟩ (by omega)
    | true =>
      rw [hfi] at ext
      simp (disch := first | assumption | omega | (simp only [LN] <;> omega) | (simp (disch := first | assumption | omega | (simp only [LN] <;> omega)) only [row_alloc, row_set]; assumption)) only [W_block, P3, ↓reduceIte, reduceAdd, reduceEqDiff, reduceCtorEq, initFr, reduceLT, clsA, reduceLeDiff, reduceMul, reduceSub, reduceIte, o_s64, o_s32, one_s64, one_s32, toList_arr, List.nil_append, List.append_nil, st_callv]
      refine callK (hf _) ?_
      rintro _ X ⟨rfl, hX⟩
      rw [hX]
      simp (disch := first | assumption | omega | (simp only [LN] <;> omega) | (simp (disch := first | assumption | omega | (simp only [LN] <;> omega)) only [row_alloc, row_set]; assumption)) only [W_block, P3, ↓reduceIte, reduceAdd, reduceEqDiff, reduceCtorEq, initFr, reduceLT, clsA, reduceLeDiff, reduceMul, reduceSub, reduceIte, hw, p_or, o_s64, o_s32, one_s64, one_s32]
      exact hn' _ _ _ ⟨i + 1, _, _, _, _, by rw [ext]; simp; exact ⟨rfl, rfl, rfl, rfl⟩, kK.trans kA, by omega, rfl⟩ (by omega)
  · have e1 : ¬ ((i : Nat) : Int) < ((L.r.length : Nat) : Int) := by omega
    have hie : i = L.r.length := by omega
    subst hie
    simp (disch := first | assumption | omega | (simp only [LN] <;> omega) | (simp (disch := first | assumption | omega | (simp only [LN] <;> omega)) only [row_alloc, row_set]; assumption)) only [W_block, P3, ↓reduceIte, reduceAdd, reduceEqDiff, reduceCtorEq, initFr, reduceLT, clsA, reduceLeDiff, reduceMul, reduceSub, reduceIte, e1]
    refine hx' _ _ _ ?_
    simp (disch := first | assumption | omega | (simp only [LN] <;> omega) | (simp (disch := first | assumption | omega | (simp only [LN] <;> omega)) only [row_alloc, row_set]; assumption)) only [W_block, P3, ↓reduceIte, reduceAdd, reduceEqDiff, reduceCtorEq, initFr, reduceLT, clsA, reduceLeDiff, reduceMul, reduceSub, reduceIte]
    exact hq2 _ _ ⟨_, rfl, rfl, kK⟩
set_option maxHeartbeats 1000000 in
theorem t61 {H : AHeap} {v0 v1 v2 v3 v4 : Value} {L : Ly} {f : Nat → Bool} {fn : Nat} {g : Nat → Nat → Bool} (hs : Sl H 6 v0 (mrows L)) (hl : L.r.length ≤ 64)
    (h1 : v1.oneCell' = true) (h2 : v2.oneCell' = true) (h3 : v3.oneCell' = true) (h4 : v4.oneCell' = true)
    (hF : ∀ (K : AHeap) i, i < L.r.length → ∃ w K', ARun Go.Proofs.Try.prog 0 fn [.agg (mrow L i).toArray] K w K' ∧ w = S64 (g i) ∧ K' = K) :
    ∃ w H', ARun Go.Proofs.Try.prog 0 61 [.agg #[v0, v1, v2, v3, v4], S64 f, .func (.func fn) #[] #[]] H w H' ∧ w = S64 (fun p => (List.range L.r.length).any fun i => f i && g i p) ∧ H' = H := by
  suffices h' : ∃ w H', ARun Go.Proofs.Try.prog 0 61 [.agg #[v0, v1, v2, v3, v4], S64 f, .func (.func fn) #[] #[]] H w H' ∧ w = S64 (fun p => (List.range L.r.length).any fun i => f i && g i p) ∧ Keeps H H' by
    obtain ⟨_, _, a, rfl, k⟩ := h'
    exact ⟨_, _, a.gc0 k (.inr (.int _ _)), rfl, rfl⟩
  refine walk2 f61_ok f61_n ?_
  intro Q hq1 hq2
  have h0 := Sl.one hs
  have is0 := Sl.is hs
  have len := hs.len
  rw [mrows_len] at len
  have k0 := (Keeps.refl H).alloc (.cells true false 5 [v0, v1, v2, v3, v4] 74)
  simp (disch := first | assumption | omega | (simp only [LN] <;> omega) | (simp (disch := first | assumption | omega | (simp only [LN] <;> omega)) only [row_alloc, row_set]; assumption)) only [ f61, P3, ↓reduceIte, reduceAdd, reduceEqDiff, reduceCtorEq, initFr, reduceLT, clsA, reduceLeDiff, reduceMul, reduceSub, reduceIte, h0, h1, h2, h3, h4, is0, len]
  rw [W_block]
  refine W_loop2 (fun q fr K => ∃ i x6 x7 x11 x12, fr = [.agg #[v0, v1, v2, v3, v4], S64 f, .func (.func fn) #[] #[], ptr H.n 0, .int .u64 0, S64 (fun p => (List.range i).any fun i => f i && g i p), x6, x7, v0, .int .i64 ((L.r.length : Nat) : Int), .int .i64 ((i : Nat) : Int), x11, x12] ∧
      Keeps H K ∧ i ≤ L.r.length ∧ q = L.r.length - i) L.r.length
    ⟨0, _, _, _, _, by rw [s_zero]; rfl, k0, by omega, rfl⟩ ?_
  rintro Q' q fr K ⟨i, x6, x7, x11, x12, rfl, kK, hi, rfl⟩ hn' hx' hret
  by_cases hlt : i < L.r.length
  · obtain ⟨na, ra⟩ := (hs.keeps kK).at_ (by omega) (i := i) (by rw [mrows_len]; exact hlt)
    rw [mrows_at hlt] at ra
    have e0 : (0 : Int) ≤ (i : Int) := by omega
    have e1 : (i : Int) < ((L.r.length : Nat) : Int) := by omega
    have hw : IntKind.i64.wrap ((i : Int) + 1) = ((i + 1 : Nat) : Int) := by rw [wrap_i64 (by omega) (by omega)]; simp
    have hasE : hasB f (i : Int) = f i := by
      have a : (i : Int) < 64 := by omega
      simp [hasB, a]
    have hf := fun K => hF K i hlt
    unfold mrow at ra hf
    have kA := (Keeps.refl K).alloc (.cells true false 6 (mrow L i) 89)
    have ext : (S64 fun p => (List.range (i + 1)).any fun i => f i && g i p) = S64 (fun p => ((List.range i).any fun i => f i && g i p) || (f i && g i p)) := by
      congr 1; funext p; rw [List.range_succ, List.any_append]; simp
    unfold mrow at kA
    simp (disch := first | assumption | omega | (simp only [LN] <;> omega) | (simp (disch := first | assumption | omega | (simp only [LN] <;> omega)) only [row_alloc, row_set]; assumption)) only [W_block, P3, ↓reduceIte, reduceAdd, reduceEqDiff, reduceCtorEq, initFr, reduceLT, clsA, reduceLeDiff, reduceMul, reduceSub, reduceIte, e1, len, na, ra, a_loadnvf, o_s64, o_s32, one_s64, one_s32]
    refine callK (t22 f _) ?_
    rintro _ X ⟨rfl, hX⟩
    rw [hX, hasE]
    cases hfi : f i with
    | false =>
      rw [hfi] at ext
      simp (disch := first | assumption | omega | (simp only [LN] <;> omega) | (simp (disch := first | assumption | omega | (simp only [LN] <;> omega)) only [row_alloc, row_set]; assumption)) only [W_block, P3, ↓reduceIte, reduceAdd, reduceEqDiff, reduceCtorEq, initFr, reduceLT, clsA, reduceLeDiff, reduceMul, reduceSub, reduceIte, hw]
      exact hn' _ _ _ ⟨i + 1, _, _, _, _, by rw [ext]; simp; exact ⟨rfl, rfl, rfl, rfl⟩, kK.trans kA, by omega, rfl⟩ (by omega)
    | true =>
      rw [hfi] at ext
      simp (disch := first | assumption | omega | (simp only [LN] <;> omega) | (simp (disch := first | assumption | omega | (simp only [LN] <;> omega)) only [row_alloc, row_set]; assumption)) only [W_block, P3, ↓reduceIte, reduceAdd, reduceEqDiff, reduceCtorEq, initFr, reduceLT, clsA, reduceLeDiff, reduceMul, reduceSub, reduceIte, o_s64, o_s32, one_s64, one_s32, toList_arr, List.nil_append, List.append_nil, st_callv]
      refine callK (hf _) ?_
      rintro _ X ⟨rfl, hX⟩
      rw [hX]
      simp (disch := first | assumption | omega | (simp only [LN] <;> omega) | (simp (disch := first | assumption | omega | (simp only [LN] <;> omega)) only [row_alloc, row_set]; assumption)) only [W_block, P3, ↓reduceIte, reduceAdd, reduceEqDiff, reduceCtorEq, initFr, reduceLT, clsA, reduceLeDiff, reduceMul, reduceSub, reduceIte, hw, s_or, o_s64, o_s32, one_s64, one_s32]
      exact hn' _ _ _ ⟨i + 1, _, _, _, _, by rw [ext]; simp; exact ⟨rfl, rfl, rfl, rfl⟩, kK.trans kA, by omega, rfl⟩ (by omega)
  · have e1 : ¬ ((i : Nat) : Int) < ((L.r.length : Nat) : Int) := by omega
    have hie : i = L.r.length := by omega
    subst hie
    simp (disch := first | assumption | omega | (simp only [LN] <;> omega) | (simp (disch := first | assumption | omega | (simp only [LN] <;> omega)) only [row_alloc, row_set]; assumption)) only [W_block, P3, ↓reduceIte, reduceAdd, reduceEqDiff, reduceCtorEq, initFr, reduceLT, clsA, reduceLeDiff, reduceMul, reduceSub, reduceIte, e1]
    refine hx' _ _ _ ?_
    simp (disch := first | assumption | omega | (simp only [LN] <;> omega) | (simp (disch := first | assumption | omega | (simp only [LN] <;> omega)) only [row_alloc, row_set]; assumption)) only [W_block, P3, ↓reduceIte, reduceAdd, reduceEqDiff, reduceCtorEq, initFr, reduceLT, clsA, reduceLeDiff, reduceMul, reduceSub, reduceIte]
    exact hq2 _ _ ⟨_, rfl, rfl, kK⟩
def nor (L : Ly) (i : Nat) : Nat → Bool := ndP (nds (ro L i)) false
def rev (L : Ly) (i : Nat) : Nat → Bool := ndP (nds (ro L i)) true
theorem t59 {H : AHeap} (L : Ly) (i : Nat) : ∃ w K', ARun Go.Proofs.Try.prog 0 59 [.agg (mrow L i).toArray] H w K' ∧ w = S32 (nor L i) ∧ K' = H := by
  suffices h' : ∃ w K', ARun Go.Proofs.Try.prog 0 59 [.agg (mrow L i).toArray] H w K' ∧ w = S32 (nor L i) ∧ Keeps H K' by
    obtain ⟨_, _, a, rfl, k⟩ := h'
    exact ⟨_, _, a.gc0 k (.inr (.int _ _)), rfl, rfl⟩
  refine walk2 f59_ok f59_n ?_
  intro Q hq1 hq2
  have k := (Keeps.refl H).alloc (.cells true false 6 (mrow L i) 89)
  unfold mrow at k ⊢
  simp (disch := first | assumption | omega | (simp only [LN] <;> omega) | (simp (disch := first | assumption | omega | (simp only [LN] <;> omega)) only [row_alloc, row_set]; assumption)) only [f59, W_block, P3, ↓reduceIte, reduceAdd, reduceEqDiff, reduceCtorEq, initFr, reduceLT, clsA, reduceLeDiff, reduceMul, reduceSub, reduceIte, o_s64, o_s32, one_s64, one_s32]
  exact hq2 _ _ ⟨_, rfl, rfl, k⟩
theorem t60 {H : AHeap} (L : Ly) (i : Nat) : ∃ w K', ARun Go.Proofs.Try.prog 0 60 [.agg (mrow L i).toArray] H w K' ∧ w = S32 (rev L i) ∧ K' = H := by
  suffices h' : ∃ w K', ARun Go.Proofs.Try.prog 0 60 [.agg (mrow L i).toArray] H w K' ∧ w = S32 (rev L i) ∧ Keeps H K' by
    obtain ⟨_, _, a, rfl, k⟩ := h'
    exact ⟨_, _, a.gc0 k (.inr (.int _ _)), rfl, rfl⟩
  refine walk2 f60_ok f60_n ?_
  intro Q hq1 hq2
  have k := (Keeps.refl H).alloc (.cells true false 6 (mrow L i) 89)
  unfold mrow at k ⊢
  simp (disch := first | assumption | omega | (simp only [LN] <;> omega) | (simp (disch := first | assumption | omega | (simp only [LN] <;> omega)) only [row_alloc, row_set]; assumption)) only [f60, W_block, P3, ↓reduceIte, reduceAdd, reduceEqDiff, reduceCtorEq, initFr, reduceLT, clsA, reduceLeDiff, reduceMul, reduceSub, reduceIte, o_s64, o_s32, one_s64, one_s32]
  exact hq2 _ _ ⟨_, rfl, rfl, k⟩
theorem t62 {H : AHeap} (L : Ly) (i : Nat) : ∃ w K', ARun Go.Proofs.Try.prog 0 62 [.agg (mrow L i).toArray] H w K' ∧ w = S64 (tabP L i) ∧ K' = H := by
  suffices h' : ∃ w K', ARun Go.Proofs.Try.prog 0 62 [.agg (mrow L i).toArray] H w K' ∧ w = S64 (tabP L i) ∧ Keeps H K' by
    obtain ⟨_, _, a, rfl, k⟩ := h'
    exact ⟨_, _, a.gc0 k (.inr (.int _ _)), rfl, rfl⟩
  refine walk2 f62_ok f62_n ?_
  intro Q hq1 hq2
  have k := (Keeps.refl H).alloc (.cells true false 6 (mrow L i) 89)
  unfold mrow at k ⊢
  simp (disch := first | assumption | omega | (simp only [LN] <;> omega) | (simp (disch := first | assumption | omega | (simp only [LN] <;> omega)) only [row_alloc, row_set]; assumption)) only [f62, W_block, P3, ↓reduceIte, reduceAdd, reduceEqDiff, reduceCtorEq, initFr, reduceLT, clsA, reduceLeDiff, reduceMul, reduceSub, reduceIte, o_s64, o_s32, one_s64, one_s32]
  exact hq2 _ _ ⟨_, rfl, rfl, k⟩
def anyR (L : Ly) (f : Nat → Bool) (g : Nat → Nat → Bool) (p : Nat) : Bool := (List.range L.r.length).any fun i => f i && g i p
structure MsR (H : AHeap) (vr vl : Value) (L : Ly) : Prop where
  r : Sl H 6 vr (mrows L)
  l : Sl H 1 vl (mlies L)
theorem MsR.keeps {H K : AHeap} {vr vl : Value} {L : Ly} (h : MsR H vr vl L) (k : Keeps H K) : MsR K vr vl L := ⟨h.r.keeps k, h.l.keeps k⟩
theorem t25 {H : AHeap} {vr vl : Value} {L : Ly} {f : Nat → Bool} (h : MsR H vr vl L) (hl : L.r.length ≤ 64) :
    ∃ w K', ARun Go.Proofs.Try.prog 0 25 [.agg (mcells L vr vl).toArray, S64 f] H w K' ∧ w = .tuple #[S32 (anyR L f (nor L)), S32 (anyR L f (rev L))] ∧ K' = H := by
  suffices h' : ∃ w K', ARun Go.Proofs.Try.prog 0 25 [.agg (mcells L vr vl).toArray, S64 f] H w K' ∧ w = .tuple #[S32 (anyR L f (nor L)), S32 (anyR L f (rev L))] ∧ Keeps H K' by
    obtain ⟨_, _, a, rfl, k⟩ := h'
    exact ⟨_, _, a.gc0 k (.inr (.tuple _ _ rfl (fun i a b => by
      match i, a with
      | 0, _ => exact .int _ _
      | 1, _ => exact .int _ _))), rfl, rfl⟩
  refine walk2 f25_ok f25_n ?_
  intro Q hq1 hq2
  have r1 := Sl.one h.r
  have l1 := Sl.one h.l
  have kA := (Keeps.refl H).alloc (.cells true false 5 (mcells L vr vl) 74)
  have hA := h.keeps kA
  unfold mcells at kA hA ⊢
  simp (disch := first | assumption | omega | (simp only [LN] <;> omega) | (simp (disch := first | assumption | omega | (simp only [LN] <;> omega)) only [row_alloc, row_set]; assumption)) only [f25, W_block, P3, ↓reduceIte, reduceAdd, reduceEqDiff, reduceCtorEq, initFr, reduceLT, clsA, reduceLeDiff, reduceMul, reduceSub, reduceIte, r1, l1, o_s64, o_s32, one_s64, one_s32]
  refine callK (t58 hA.r hl l1 rfl rfl rfl (fun K i _ => t59 L i)) ?_
  rintro _ X ⟨rfl, hX⟩
  rw [hX]
  simp (disch := first | assumption | omega | (simp only [LN] <;> omega) | (simp (disch := first | assumption | omega | (simp only [LN] <;> omega)) only [row_alloc, row_set]; assumption)) only [W_block, P3, ↓reduceIte, reduceAdd, reduceEqDiff, reduceCtorEq, initFr, reduceLT, clsA, reduceLeDiff, reduceMul, reduceSub, reduceIte, r1, l1, o_s64, o_s32, one_s64, one_s32]
  refine callK (t58 hA.r hl l1 rfl rfl rfl (fun K i _ => t60 L i)) ?_
  rintro _ X ⟨rfl, hX⟩
  rw [hX]
  simp (disch := first | assumption | omega | (simp only [LN] <;> omega) | (simp (disch := first | assumption | omega | (simp only [LN] <;> omega)) only [row_alloc, row_set]; assumption)) only [W_block, P3, ↓reduceIte, reduceAdd, reduceEqDiff, reduceCtorEq, initFr, reduceLT, clsA, reduceLeDiff, reduceMul, reduceSub, reduceIte, r1, l1, o_s64, o_s32, one_s64, one_s32]
  exact hq2 _ _ ⟨_, rfl, rfl, kA⟩
theorem t26 {H : AHeap} {vr vl : Value} {L : Ly} {f : Nat → Bool} (h : MsR H vr vl L) (hl : L.r.length ≤ 64) :
    ∃ w K', ARun Go.Proofs.Try.prog 0 26 [.agg (mcells L vr vl).toArray, S64 f] H w K' ∧ w = S64 (anyR L f (tabP L)) ∧ K' = H := by
  suffices h' : ∃ w K', ARun Go.Proofs.Try.prog 0 26 [.agg (mcells L vr vl).toArray, S64 f] H w K' ∧ w = S64 (anyR L f (tabP L)) ∧ Keeps H K' by
    obtain ⟨_, _, a, rfl, k⟩ := h'
    exact ⟨_, _, a.gc0 k (.inr (.int _ _)), rfl, rfl⟩
  refine walk2 f26_ok f26_n ?_
  intro Q hq1 hq2
  have r1 := Sl.one h.r
  have l1 := Sl.one h.l
  have kA := (Keeps.refl H).alloc (.cells true false 5 (mcells L vr vl) 74)
  have hA := h.keeps kA
  unfold mcells at kA hA ⊢
  simp (disch := first | assumption | omega | (simp only [LN] <;> omega) | (simp (disch := first | assumption | omega | (simp only [LN] <;> omega)) only [row_alloc, row_set]; assumption)) only [f26, W_block, P3, ↓reduceIte, reduceAdd, reduceEqDiff, reduceCtorEq, initFr, reduceLT, clsA, reduceLeDiff, reduceMul, reduceSub, reduceIte, r1, l1, o_s64, o_s32, one_s64, one_s32]
  refine callK (t61 hA.r hl l1 rfl rfl rfl (fun K i _ => t62 L i)) ?_
  rintro _ X ⟨rfl, hX⟩
  rw [hX]
  simp (disch := first | assumption | omega | (simp only [LN] <;> omega) | (simp (disch := first | assumption | omega | (simp only [LN] <;> omega)) only [row_alloc, row_set]; assumption)) only [W_block, P3, ↓reduceIte, reduceAdd, reduceEqDiff, reduceCtorEq, initFr, reduceLT, clsA, reduceLeDiff, reduceMul, reduceSub, reduceIte, o_s64]
  exact hq2 _ _ ⟨_, rfl, rfl, kA⟩
def MaR (H : AHeap) (b : Nat) (L : Ly) : Prop := ∃ vr vl own room T, H.get b = some (.cells own room 5 (mcells L vr vl) T) ∧ MsR H vr vl L
theorem MaR.keeps {H K : AHeap} {b : Nat} {L : Ly} (h : MaR H b L) (k : Keeps H K) : MaR K b L := by
  obtain ⟨vr, vl, o, r, T, g, m⟩ := h
  exact ⟨vr, vl, o, r, T, k.at_ g, m.keeps k⟩
theorem fill5 (a b c d e : Value) : fillA [.slice none 0 0, .slice none 0 0, .int .u64 0, .int .u32 0, .int .u64 0] [(0, 5, .agg #[a, b, c, d, e])] = some [a, b, c, d, e] := rfl
theorem t21 {H : AHeap} {u : V4} {xs : List RV} {L : Ly} (h : LyR H u xs L) (hf : LyIn 9223372036854775807 L) :
    ∃ w H', ARun Go.Proofs.Try.prog 0 21 [.agg u.l.toArray] H w H' ∧ Keeps H H' ∧ (checkE L ≠ 0 → w = .tuple #[.pointer none, .int .i64 (checkE L)]) ∧
      (checkE L = 0 → ∃ b, w = .tuple #[ptr b 0, .int .i64 0] ∧ MaR H' b L) := by
  refine walk2 f21_ok f21_n ?_
  intro Q hq1 hq2
  have os := Sl.one h.s
  have op := Sl.one h.p
  have og := Sl.one h.g
  have or := Sl.one h.r
  have hul : u.l = [u.s, u.p, u.g, u.r] := rfl
  have kA := (Keeps.refl H).alloc (.cells true false 4 u.l 27)
  have tM := t55 (h.keeps kA) hf
  simp only [hul] at kA tM ⊢
  simp (disch := first | assumption | omega | (simp only [LN] <;> omega) | (simp (disch := first | assumption | omega | (simp only [LN] <;> omega)) only [row_alloc, row_set]; assumption)) only [f21, W_block, P3, ↓reduceIte, reduceAdd, reduceEqDiff, reduceCtorEq, initFr, reduceLT, clsA, reduceLeDiff, reduceMul, reduceSub, reduceIte, os, op, og, or]
  refine callK tM ?_
  rintro _ K1 ⟨k1, e1, e2⟩
  by_cases he : checkE L = 0
  case neg =>
    rw [e1 he]
    have ne : (checkE L != 0) = true := by simp [he]
    simp (disch := first | assumption | omega | (simp only [LN] <;> omega) | (simp (disch := first | assumption | omega | (simp only [LN] <;> omega)) only [row_alloc, row_set]; assumption)) only [W_block, P3, ↓reduceIte, reduceAdd, reduceEqDiff, reduceCtorEq, initFr, reduceLT, clsA, reduceLeDiff, reduceMul, reduceSub, reduceIte, ne]
    exact hq2 _ _ ⟨_, rfl, (kA.trans k1).alloc _, fun _ => rfl, fun e => absurd e he⟩
  case pos =>
  obtain ⟨vr, vl, rfl, sr, sl⟩ := e2 he
  have r1 := Sl.one sr
  have l1 := Sl.one sl
  unfold mcells
  have k2 := ((Keeps.refl K1).alloc (.cells true false 5 (mcells L vr vl) 74)).alloc (.cells true false 5 (mcells L vr vl) 76)
  have g2 := AHeap.get_alloc_new (K1.alloc (.cells true false 5 (mcells L vr vl) 74)) (.cells true false 5 (mcells L vr vl) 76)
  have m2 : MaR ((K1.alloc (.cells true false 5 (mcells L vr vl) 74)).alloc (.cells true false 5 (mcells L vr vl) 76)) (K1.n + 1) L := ⟨vr, vl, _, _, _, g2, (MsR.mk sr sl).keeps k2⟩
  unfold mcells at k2 m2
  simp (disch := first | assumption | omega | (simp only [LN] <;> omega) | (simp (disch := first | assumption | omega | (simp only [LN] <;> omega)) only [row_alloc, row_set]; assumption)) only [W_block, P3, ↓reduceIte, reduceAdd, reduceEqDiff, reduceCtorEq, initFr, reduceLT, clsA, reduceLeDiff, reduceMul, reduceSub, reduceIte, r1, l1, o_s64, o_s32, one_s64, one_s32, fill5]
  exact hq2 _ _ ⟨_, rfl, (kA.trans k1).trans k2, fun e => absurd he e, fun _ => ⟨_, rfl, m2⟩⟩
end Go.AM.Fd

set_option linter.unusedSimpArgs false
set_option linter.unusedVariables false
set_option maxRecDepth 8000
namespace Go.AM.Fd
open Go.Proofs Go.AM.F
structure Sta where
  lo : Nat → Bool
  us : Nat → Bool
  ca : Nat → Bool
  ti : Nat → Nat
  po : Nat → Bool
def tis (t : Nat → Nat) : List Value := (List.range 64).map fun i => Value.int .u8 (t i : Nat)
def stl (s : Sta) : List Value := S64 s.lo :: S64 s.us :: S64 s.ca :: (tis s.ti ++ [S32 s.po])
theorem tis_len (t : Nat → Nat) : (tis t).length = 64 := by simp [tis]
theorem tis_at {t : Nat → Nat} {i : Nat} (h : i < 64) : (tis t)[i]? = some (.int .u8 (t i : Nat)) := by simp [tis, h]
theorem stl_len (s : Sta) : (stl s).length = 68 := by simp [stl, tis_len]
theorem stl_0 (s : Sta) : (stl s)[0]? = some (S64 s.lo) := rfl
theorem stl_1 (s : Sta) : (stl s)[1]? = some (S64 s.us) := rfl
theorem stl_2 (s : Sta) : (stl s)[2]? = some (S64 s.ca) := rfl
theorem stl_67 (s : Sta) : (stl s)[67]? = some (S32 s.po) := by
  show (tis s.ti ++ [S32 s.po])[64]? = _
  rw [List.getElem?_append_right (by rw [tis_len]; omega), tis_len]; rfl
theorem stl_t (s : Sta) {i : Nat} (h : i < 64) : (stl s)[3 + i]? = some (.int .u8 (s.ti i : Nat)) := by
  rw [Nat.add_comm]
  show (tis s.ti ++ [S32 s.po])[i]? = _
  rw [List.getElem?_append_left (by rw [tis_len]; omega), tis_at h]
theorem set_0 (s : Sta) (f : Nat → Bool) : (stl s).set 0 (S64 f) = stl { s with lo := f } := rfl
theorem set_1 (s : Sta) (f : Nat → Bool) : (stl s).set 1 (S64 f) = stl { s with us := f } := rfl
theorem set_2 (s : Sta) (f : Nat → Bool) : (stl s).set 2 (S64 f) = stl { s with ca := f } := rfl
theorem set_67 (s : Sta) (f : Nat → Bool) : (stl s).set 67 (S32 f) = stl { s with po := f } := by
  show _ :: _ :: _ :: ((tis s.ti ++ [S32 s.po]).set 64 (S32 f)) = _
  rw [List.set_append_right _ _ (by rw [tis_len]; omega), tis_len]; rfl
def upd (t : Nat → Nat) (i n : Nat) (j : Nat) : Nat := if j = i then n else t j
theorem tis_set (t : Nat → Nat) (i n : Nat) : (tis t).set i (.int .u8 (n : Nat)) = tis (upd t i n) := by
  apply List.ext_getElem?
  intro j
  rw [List.getElem?_set, tis_len]
  by_cases e : i = j
  · subst e
    by_cases h : i < 64
    · rw [if_pos rfl, if_pos h, tis_at h]; simp [upd]
    · rw [if_pos rfl, if_neg h]; simp [tis, h]
  · rw [if_neg e]
    have e2 : ¬ j = i := fun x => e x.symm
    by_cases h : j < 64
    · rw [tis_at h, tis_at h]; simp [upd, e2]
    · simp [tis, h]
theorem set_t (s : Sta) {i : Nat} (h : i < 64) (n : Nat) : (stl s).set (3 + i) (.int .u8 (n : Nat)) = stl { s with ti := upd s.ti i n } := by
  rw [Nat.add_comm]
  show _ :: _ :: _ :: ((tis s.ti ++ [S32 s.po]).set i _) = _
  rw [List.set_append_left _ _ (by rw [tis_len]; omega), tis_set]; rfl
theorem set_t0 (s : Sta) {i : Nat} (h : i < 64) : (stl s).set (3 + i) (.int .u8 0) = stl { s with ti := upd s.ti i 0 } := set_t s h 0
theorem set_t20 (s : Sta) {i : Nat} (h : i < 64) : (stl s).set (3 + i) (.int .u8 20) = stl { s with ti := upd s.ti i 20 } := set_t s h 20
theorem stl_arr (s : Sta) : ((stl s).drop 3).take 64 = tis s.ti := by
  show (tis s.ti ++ [S32 s.po]).take 64 = _
  rw [List.take_append_of_le_length (by rw [tis_len]; omega), List.take_of_length_le (by rw [tis_len]; omega)]
theorem tis_one (t : Nat → Nat) : (tis t).all Value.oneCell' = true := by
  rw [List.all_eq_true]; intro x hx
  obtain ⟨i, _, rfl⟩ := List.mem_map.1 hx
  rfl
theorem stl_one (s : Sta) : (stl s).all Value.oneCell' = true := by
  show (true && (true && (true && (tis s.ti ++ [S32 s.po]).all Value.oneCell'))) = true
  rw [List.all_append, tis_one]; rfl
def Sta0 : Sta := ⟨fun _ => false, fun _ => false, fun _ => false, fun _ => 0, fun _ => false⟩
theorem stl_zero : [.int .u64 0, .int .u64 0, .int .u64 0] ++ List.replicate 64 (.int .u8 0) ++ [.int .u32 0] = stl Sta0 := by
  show Value.int .u64 0 :: Value.int .u64 0 :: Value.int .u64 0 :: (List.replicate 64 (.int .u8 0) ++ [.int .u32 0]) = _
  rw [s_zero, p_zero]
  show _ = S64 _ :: S64 _ :: S64 _ :: (tis (fun _ => 0) ++ [S32 _])
  have : tis (fun _ => 0) = List.replicate 64 (.int .u8 0) := by
    unfold tis; rw [List.map_const']; simp
  rw [this]; rfl
theorem rng_stl (s : Sta) (o r : Bool) (T : Nat) : rangeO (some (.cells o r 68 (stl s) T)) 3 64 = some (tis s.ti) := by
  rw [rangeO_c, if_pos (by rw [stl_len]; omega), stl_arr]
theorem a_idxt (H : AHeap) (t : Nat → Nat) (i : Nat) (h : i < 64) : asem (.idxa false 1 64 (.agg (tis t).toArray) (.int .i64 (i : Int))) H = some (.int .u8 (t i : Nat), H) := by
  simp only [asem]
  rw [if_pos ⟨by omega, by omega⟩]
  have : Int.toNat (i : Int) = i := by omega
  simp [this, tis_at h]
def sti (s : Sta) : List Int := ((bitsN s.lo 64 : Nat) : Int) :: ((bitsN s.us 64 : Nat) : Int) :: ((bitsN s.ca 64 : Nat) : Int) :: ((List.range 64).map (fun i => (s.ti i : Int)) ++ [((bitsN s.po 32 : Nat) : Int)])
def staB (s t : Sta) : Bool := decide (sti s = sti t)
theorem eqCs_ints : ∀ (ks : List IntKind) (xs ys : List Int), xs.length = ks.length → ys.length = ks.length → eqCs (List.replicate ks.length 1) (List.zipWith Value.int ks xs) (List.zipWith Value.int ks ys) = some (decide (xs = ys))
  | [], [], [], _, _ => by simp [eqCs]
  | k :: ks, x :: xs, y :: ys, h1, h2 => by
    have ih := eqCs_ints ks xs ys (by simpa using h1) (by simpa using h2)
    simp only [List.length_cons, List.replicate_succ, List.zipWith_cons_cons, eqCs, eqC, if_true, ih]
    congr 1
    rw [Bool.eq_iff_iff]; simp
  | [], _ :: _, _, h, _ => by simp at h
  | [], [], _ :: _, _, h => by simp at h
  | _ :: _, [], _, h, _ => by simp at h
  | _ :: _, _ :: _, [], _, h => by simp at h
def K68 : List IntKind := .u64 :: .u64 :: .u64 :: (List.replicate 64 .u8 ++ [.u32])
theorem zip_rep {k : IntKind} : ∀ (l : List Int), List.zipWith Value.int (List.replicate l.length k) l = l.map (Value.int k)
  | [] => rfl
  | a :: l => by rw [List.length_cons, List.replicate_succ, List.zipWith_cons_cons, zip_rep l]; rfl
theorem stl_zip (s : Sta) : stl s = List.zipWith Value.int K68 (sti s) := by
  have h : ((List.range 64).map (fun i => (s.ti i : Int))).length = 64 := by simp
  have e := zip_rep (k := .u8) ((List.range 64).map (fun i => (s.ti i : Int)))
  rw [h] at e
  show _ :: _ :: _ :: (tis s.ti ++ [S32 s.po]) = _ :: _ :: _ :: List.zipWith Value.int (List.replicate 64 .u8 ++ [.u32]) (_ ++ [_])
  rw [List.zipWith_append (by simp), e]
  simp [tis, S64, S32]
theorem eq_stl (H : AHeap) (neg : Bool) (s t : Sta) : asem (.eqs (List.replicate 68 1) neg (.agg (stl s).toArray) (.agg (stl t).toArray)) H = some (.bool (if neg then !staB s t else staB s t), H) := by
  simp only [asem]
  have := eqCs_ints K68 (sti s) (sti t) (by simp [K68, sti]) (by simp [K68, sti])
  have hk : K68.length = 68 := by simp [K68]
  rw [hk, ← stl_zip, ← stl_zip] at this
  rw [this]; rfl
end Go.AM.Fd

set_option maxRecDepth 100000
set_option maxHeartbeats 0
namespace Go.AM.F
def Z68G : List Value := [(.int .u64 0), (.int .u64 0), (.int .u64 0)] ++ List.replicate 64 (.int .u8 0) ++ [(.int .u32 0)]
def zclG : TypeId → List Value
 | 89 => [(.int .u64 0), (.int .u64 0), (.int .u64 0), (.int .u32 0), (.int .u32 0), (.int .u64 0)]
 | 32 => Z68G
 | 52 => [(.int .u64 0), (.int .u32 0)]
 | 70 => [(.int .u8 0), (.int .i64 0)]
 | 30 => [(.int .u32 0)]
 | _ => []
def zvlG : TypeId → Value
 | _ => undef
def zklG : TypeId → List Nat
 | _ => []
def zrlG : Nat → TypeId → List Value
 | _, _ => []
noncomputable def f30 : AFunc := by
 refine (fun (_ : Cz zclG zvlG zklG zrlG Go.Proofs.Try.prog 0 [0, 1, 2, 3, 7, 8, 9, 10, 11, 12, 13, 18, 19, 29, 79, 117, 136, 143, 183] 30 ?a) => ?a) ?h
 case h =>
 intro zc zv zk zr hc hv hk hr
 conv => lhs; cbv; try simp only [hc, hv, hk, hr, zclG, zvlG, zklG, zrlG]
theorem f30_ok : compF Go.Proofs.Try.prog 0 [0, 1, 2, 3, 7, 8, 9, 10, 11, 12, 13, 18, 19, 29, 79, 117, 136, 143, 183] 30 = some f30 := by kernel_rfl
theorem f30_n : argsOK Go.Proofs.Try.prog 30 4 = true := by kernel_rfl
noncomputable def f31 : AFunc := by
 refine (fun (_ : Cz zclG zvlG zklG zrlG Go.Proofs.Try.prog 0 [0, 1, 4, 5, 6, 7, 8, 9, 10, 11, 18] 31 ?a) => ?a) ?h
 case h =>
 intro zc zv zk zr hc hv hk hr
 conv => lhs; cbv; try simp only [hc, hv, hk, hr, zclG, zvlG, zklG, zrlG]
theorem f31_ok : compF Go.Proofs.Try.prog 0 [0, 1, 4, 5, 6, 7, 8, 9, 10, 11, 18] 31 = some f31 := by kernel_rfl
theorem f31_n : argsOK Go.Proofs.Try.prog 31 2 = true := by kernel_rfl
noncomputable def f32 : AFunc := by
 refine (fun (_ : Cz zclG zvlG zklG zrlG Go.Proofs.Try.prog 0 [0, 1, 2, 4, 5] 32 ?a) => ?a) ?h
 case h =>
 intro zc zv zk zr hc hv hk hr
 conv => lhs; cbv; try simp only [hc, hv, hk, hr, zclG, zvlG, zklG, zrlG]
theorem f32_ok : compF Go.Proofs.Try.prog 0 [0, 1, 2, 4, 5] 32 = some f32 := by kernel_rfl
theorem f32_n : argsOK Go.Proofs.Try.prog 32 3 = true := by kernel_rfl
noncomputable def f33 : AFunc := by
 refine (fun (_ : Cz zclG zvlG zklG zrlG Go.Proofs.Try.prog 0 [0, 1, 2, 4, 5] 33 ?a) => ?a) ?h
 case h =>
 intro zc zv zk zr hc hv hk hr
 conv => lhs; cbv; try simp only [hc, hv, hk, hr, zclG, zvlG, zklG, zrlG]
theorem f33_ok : compF Go.Proofs.Try.prog 0 [0, 1, 2, 4, 5] 33 = some f33 := by kernel_rfl
theorem f33_n : argsOK Go.Proofs.Try.prog 33 3 = true := by kernel_rfl
noncomputable def f34 : AFunc := by
 refine (fun (_ : Cz zclG zvlG zklG zrlG Go.Proofs.Try.prog 0 [0, 1, 4, 5, 6, 7, 8, 9, 10, 11, 18] 34 ?a) => ?a) ?h
 case h =>
 intro zc zv zk zr hc hv hk hr
 conv => lhs; cbv; try simp only [hc, hv, hk, hr, zclG, zvlG, zklG, zrlG]
theorem f34_ok : compF Go.Proofs.Try.prog 0 [0, 1, 4, 5, 6, 7, 8, 9, 10, 11, 18] 34 = some f34 := by kernel_rfl
theorem f34_n : argsOK Go.Proofs.Try.prog 34 2 = true := by kernel_rfl
noncomputable def f35 : AFunc := by
 refine (fun (_ : Cz zclG zvlG zklG zrlG Go.Proofs.Try.prog 0 [0, 1, 4] 35 ?a) => ?a) ?h
 case h =>
 intro zc zv zk zr hc hv hk hr
 conv => lhs; cbv; try simp only [hc, hv, hk, hr, zclG, zvlG, zklG, zrlG]
theorem f35_ok : compF Go.Proofs.Try.prog 0 [0, 1, 4] 35 = some f35 := by kernel_rfl
theorem f35_n : argsOK Go.Proofs.Try.prog 35 2 = true := by kernel_rfl
noncomputable def f37 : AFunc := by
 refine (fun (_ : Cz zclG zvlG zklG zrlG Go.Proofs.Try.prog 0 [0, 1, 2, 3] 37 ?a) => ?a) ?h
 case h =>
 intro zc zv zk zr hc hv hk hr
 conv => lhs; cbv; try simp only [hc, hv, hk, hr, zclG, zvlG, zklG, zrlG]
theorem f37_ok : compF Go.Proofs.Try.prog 0 [0, 1, 2, 3] 37 = some f37 := by kernel_rfl
theorem f37_n : argsOK Go.Proofs.Try.prog 37 1 = true := by kernel_rfl
noncomputable def f38 : AFunc := by
 refine (fun (_ : Cz zclG zvlG zklG zrlG Go.Proofs.Try.prog 0 [0, 1, 2, 3, 5, 6] 38 ?a) => ?a) ?h
 case h =>
 intro zc zv zk zr hc hv hk hr
 conv => lhs; cbv; try simp only [hc, hv, hk, hr, zclG, zvlG, zklG, zrlG]
theorem f38_ok : compF Go.Proofs.Try.prog 0 [0, 1, 2, 3, 5, 6] 38 = some f38 := by kernel_rfl
theorem f38_n : argsOK Go.Proofs.Try.prog 38 4 = true := by kernel_rfl
noncomputable def f67 : AFunc := by
 refine (fun (_ : Cz zclG zvlG zklG zrlG Go.Proofs.Try.prog 0 [0, 1, 4] 67 ?a) => ?a) ?h
 case h =>
 intro zc zv zk zr hc hv hk hr
 conv => lhs; cbv; try simp only [hc, hv, hk, hr, zclG, zvlG, zklG, zrlG]
theorem f67_ok : compF Go.Proofs.Try.prog 0 [0, 1, 4] 67 = some f67 := by kernel_rfl
theorem f67_n : argsOK Go.Proofs.Try.prog 67 2 = true := by kernel_rfl
noncomputable def f14 : AFunc := by
 refine (fun (_ : Cz zclG zvlG zklG zrlG Go.Proofs.Try.prog 0 [0, 1, 2, 4, 5, 6, 7, 8, 9, 10, 11, 12, 13, 14, 15, 17, 19, 20, 21, 22, 24, 33, 34, 35, 36, 41, 81, 82, 83, 84, 96, 97, 98, 99] 14 ?a) => ?a) ?h
 case h =>
 intro zc zv zk zr hc hv hk hr
 conv => lhs; cbv; try simp only [hc, hv, hk, hr, zclG, zvlG, zklG, zrlG]
theorem f14_ok : compF Go.Proofs.Try.prog 0 [0, 1, 2, 4, 5, 6, 7, 8, 9, 10, 11, 12, 13, 14, 15, 17, 19, 20, 21, 22, 24, 33, 34, 35, 36, 41, 81, 82, 83, 84, 96, 97, 98, 99] 14 = some f14 := by kernel_rfl
theorem f14_n : argsOK Go.Proofs.Try.prog 14 3 = true := by kernel_rfl
end Go.AM.F

set_option linter.unusedSimpArgs false
set_option linter.unusedVariables false
set_option maxRecDepth 8000
namespace Go.AM.Fd
open Nat (reduceAdd reduceEqDiff reduceLT reduceLeDiff reduceMul reduceSub)
open Go.Proofs Go.AM.F
theorem Z68F_z : Z68F = stl Sta0 := stl_zero
theorem O68F_r : O68F = List.replicate 68 1 := rfl
theorem plain_stl (s : Sta) : (stl s).all plain1 = true := by
  show (true && (true && (true && (tis s.ti ++ [S32 s.po]).all plain1))) = true
  rw [List.all_append]
  have : (tis s.ti).all plain1 = true := by
    rw [List.all_eq_true]; intro x hx
    obtain ⟨i, _, rfl⟩ := List.mem_map.1 hx
    rfl
  rw [this]; rfl
theorem nv_stl (ρ : Nat → Option Nat) (s : Sta) : NV ρ (.agg (stl s).toArray) (.agg (stl s).toArray) := NV.agg_of (NL.plain (plain_stl s))
def tidyS (L : Ly) (s : Sta) : Sta where
  lo := fun i => s.lo i && lowP L.r.length i
  us := fun i => s.us i && (s.lo i && lowP L.r.length i)
  ca := fun i => s.ca i && (s.lo i && lowP L.r.length i)
  ti := fun i => if s.ca i && (s.lo i && lowP L.r.length i) then min (s.ti i) 20 else 0
  po := fun i => s.po i && lowP L.p.length i
theorem stl_ext {s t : Sta} (h1 : ∀ i, i < 64 → s.lo i = t.lo i) (h2 : ∀ i, i < 64 → s.us i = t.us i) (h3 : ∀ i, i < 64 → s.ca i = t.ca i) (h4 : ∀ i, i < 64 → s.ti i = t.ti i) (h5 : ∀ i, i < 32 → s.po i = t.po i) : stl s = stl t := by
  unfold stl
  rw [s64_ext h1, s64_ext h2, s64_ext h3, s32_ext h5]
  have : tis s.ti = tis t.ti := by
    unfold tis
    apply List.map_congr_left
    intro i hi
    rw [h4 i (List.mem_range.1 hi)]
  rw [this]
theorem has_nat (f : Nat → Bool) {i : Nat} (h : i < 64) : hasB f (i : Int) = f i := by
  have a : (i : Int) < 64 := by omega
  simp [hasB, a]
theorem rng68 (s : Sta) (o r : Bool) (T : Nat) : rangeO (some (.cells o r 68 (stl s) T)) 0 68 = some (stl s) := rng_full (stl_len s)
theorem stn68 (H : AHeap) (b : Nat) (s : Sta) (c : List Value) (hc : c.length = 68) (r : Bool) (T : Nat) : stnO H b 0 68 (stl s) (some (.cells true r 68 c T)) = some (undef, H.set b (.cells true r 68 (stl s) T)) := by
  rw [stn_full hc, if_pos ⟨stl_len s, stl_one s⟩]
theorem stn68s (H : AHeap) (b : Nat) (s t : Sta) (r : Bool) (T : Nat) : stnO H b 0 68 (stl s) (some (.cells true r 68 (stl t) T)) = some (undef, H.set b (.cells true r 68 (stl s) T)) := stn68 H b s _ (stl_len t) r T
def tidT (s : Sta) (L : Ly) (i : Nat) : Sta where
  lo := fun i => s.lo i && lowP L.r.length i
  us := fun i => s.us i && (s.lo i && lowP L.r.length i)
  ca := fun i => s.ca i && (s.lo i && lowP L.r.length i)
  ti := fun j => if j < i then (tidyS L s).ti j else s.ti j
  po := fun i => s.po i && lowP L.p.length i
set_option maxHeartbeats 2000000 in
theorem t9 {H : AHeap} {b : Nat} {L : Ly} (h : MaR H b L) (s : Sta) : ∃ w H', ARun Go.Proofs.Try.prog 0 9 [ptr b 0, .agg (stl s).toArray] H w H' ∧ w = .agg (stl (tidyS L s)).toArray ∧ H' = H := by
  suffices h' : ∃ w H', ARun Go.Proofs.Try.prog 0 9 [ptr b 0, .agg (stl s).toArray] H w H' ∧ w = .agg (stl (tidyS L s)).toArray ∧ Keeps H H' by
    obtain ⟨_, _, a, rfl, k⟩ := h'
    exact ⟨_, _, a.gc0 k (.inr (nv_stl _ _)), rfl, rfl⟩
  refine walk2 f9_ok f9_n ?_
  intro Q hq1 hq2
  obtain ⟨vr, vl, own, room, T, gb, ms⟩ := h
  obtain ⟨K0, hK0⟩ : ∃ X, X = (H.alloc (.cells true false 68 (stl s) 32)).alloc (.cells true false 68 (stl Sta0) 32) := ⟨_, rfl⟩
  have k0 : Keeps H K0 := by rw [hK0]; exact ((Keeps.refl H).alloc _).alloc _
  have n0 : K0.n = H.n + 2 := by rw [hK0]; rfl
  have gs0 : K0.get H.n = some (.cells true false 68 (stl s) 32) := by rw [hK0]; exact ((Keeps.refl _).alloc _).at_ (AHeap.get_alloc_new H _)
  have gw0 : K0.get (H.n + 1) = some (.cells true false 68 (stl Sta0) 32) := by rw [hK0]; exact AHeap.get_alloc_new (H.alloc _) _
  have gb0 := k0.at_ gb
  unfold mcells at gb0
  have hbl := AHeap.get_lt gb
  have hbl2 : b < H.n + 1 := by omega
  have hb1 : ¬ b = H.n := by omega
  have hb2 : ¬ b = H.n + 1 := by omega
  have gb' := gb
  unfold mcells at gb'
  simp (disch := first | assumption | omega | (simp only [LN] <;> omega) | (simp (disch := first | assumption | omega | (simp only [LN] <;> omega)) only [row_alloc, row_set]; assumption)) only [ f9, P3, ↓reduceIte, reduceAdd, reduceEqDiff, reduceCtorEq, initFr, reduceLT, clsA, reduceLeDiff, reduceMul, reduceSub, reduceIte, stl_one, stl_len, Z68F_z, stl_0, stl_1, stl_2, stl_67, set_0, set_1, set_2, set_67, gb', hbl, hbl2, hb1, hb2, s_and, p_and, one_s64, one_s32, o_s64, o_s32, rng_stl]
  rw [W_block]
  obtain ⟨K1, hK1⟩ : ∃ X, X = (H.alloc (.cells true false 68 (stl (tidT s L 0)) 32)).alloc (.cells true false 68 (stl Sta0) 32) := ⟨_, rfl⟩
  have k1 : Keeps H K1 := by rw [hK1]; exact ((Keeps.refl H).alloc _).alloc _
  have gs1 : K1.get H.n = some (.cells true false 68 (stl (tidT s L 0)) 32) := by rw [hK1]; exact ((Keeps.refl _).alloc _).at_ (AHeap.get_alloc_new H _)
  have gw1 : K1.get (H.n + 1) = some (.cells true false 68 (stl Sta0) 32) := by rw [hK1]; exact AHeap.get_alloc_new (H.alloc _) _
  have eT : (⟨fun i => s.lo i && lowP L.r.length i, fun i => s.us i && (s.lo i && lowP L.r.length i), fun i => s.ca i && (s.lo i && lowP L.r.length i), s.ti, fun i => s.po i && lowP L.p.length i⟩ : Sta) = tidT s L 0 := by simp [tidT]
  rw [eT, ← hK1]
  refine W_loop2 (fun q fr K => ∃ i x4 x5 x9 x10, fr = [ptr b 0, .agg (stl s).toArray, ptr H.n 0, ptr (H.n + 1) 0, x4, x5, .bool false, .agg (tis s.ti).toArray, .int .i64 ((i : Nat) : Int), x9, x10] ∧
      Keeps H K ∧ K.get H.n = some (.cells true false 68 (stl (tidT s L i)) 32) ∧ K.get (H.n + 1) = some (.cells true false 68 (stl Sta0) 32) ∧ i ≤ 64 ∧ q = 64 - i) 64
    ⟨0, _, _, _, _, rfl, k1, gs1, gw1, by omega, rfl⟩ ?_
  rintro Q' q fr K ⟨i, x4, x5, x9, x10, rfl, kK, gs, gw, hi, rfl⟩ hn' hx' hret
  have hs1 := AHeap.get_lt gs
  have hw1 := AHeap.get_lt gw
  by_cases hlt : i < 64
  · have e0 : (0 : Int) ≤ (i : Int) := by omega
    have e1 : (i : Int) < 64 := by omega
    have hw : IntKind.i64.wrap ((i : Int) + 1) = ((i + 1 : Nat) : Int) := by rw [wrap_i64 (by omega) (by omega)]; simp
    have ix := a_idxt K s.ti i hlt
    have st0 := set_t0 (tidT s L i) hlt
    have hll : 3 + i < 68 := by omega
    simp (disch := first | assumption | omega | (simp only [LN] <;> omega) | (simp (disch := first | assumption | omega | (simp only [LN] <;> omega)) only [row_alloc, row_set]; assumption)) only [W_block, P3, ↓reduceIte, reduceAdd, reduceEqDiff, reduceCtorEq, initFr, reduceLT, clsA, reduceLeDiff, reduceMul, reduceSub, reduceIte, e0, e1, ix, a_iaddrp, gs, stl_len, st0, hll, Int.toNat_natCast, Nat.mul_one, stl_2]
    refine callK (t22 _ _) ?_
    rintro _ X ⟨rfl, hX⟩
    rw [hX, has_nat _ hlt]
    have hca : (tidT s L i).ca i = (s.ca i && (s.lo i && lowP L.r.length i)) := rfl
    have htt : (tidyS L s).ti i = if s.ca i && (s.lo i && lowP L.r.length i) then min (s.ti i) 20 else 0 := rfl
    rw [← hca] at htt
    have low : ∀ j, j < i → (tidT s L i).ti j = (tidT s L (i + 1)).ti j := fun j hj => by
      show (if j < i then _ else _) = (if j < i + 1 then _ else _)
      rw [if_pos hj, if_pos (by omega)]
    have up : ∀ j, i < j → (tidT s L i).ti j = (tidT s L (i + 1)).ti j := fun j hj => by
      show (if j < i then _ else _) = (if j < i + 1 then _ else _)
      rw [if_neg (by omega), if_neg (by omega)]
    have at_ : (tidT s L (i + 1)).ti i = (tidyS L s).ti i := by
      show (if i < i + 1 then _ else _) = _
      rw [if_pos (by omega)]
    cases hc : (tidT s L i).ca i with
    | false =>
      rw [hc] at htt
      simp (disch := first | assumption | omega | (simp only [LN] <;> omega) | (simp (disch := first | assumption | omega | (simp only [LN] <;> omega)) only [row_alloc, row_set]; assumption)) only [W_block, P3, ↓reduceIte, reduceAdd, reduceEqDiff, reduceCtorEq, initFr, reduceLT, clsA, reduceLeDiff, reduceMul, reduceSub, reduceIte, hw]
      refine hn' _ _ _ ⟨i + 1, _, _, _, _, rfl, kK.set (Nat.le_refl _) hs1 _, ?_, by rw [AHeap.get_set_other K (by omega) hs1]; exact gw, by omega, rfl⟩ (by omega)
      rw [AHeap.get_set_same gs]
      congr 2
      refine stl_ext (fun _ _ => rfl) (fun _ _ => rfl) (fun _ _ => rfl) (fun j _ => ?_) (fun _ _ => rfl)
      show upd _ _ _ j = _
      unfold upd
      by_cases e : j = i
      · subst e; rw [if_pos rfl, at_, htt]; rfl
      · rw [if_neg e]
        rcases Nat.lt_or_gt_of_ne e with h | h
        · exact low j h
        · exact up j h
    | true =>
      rw [hc] at htt
      have hmn : min ((s.ti i : Nat) : Int) 20 = ((min (s.ti i) 20 : Nat) : Int) := by omega
      have st1 := fun t : Sta => set_t t hlt (min (s.ti i) 20)
      have gg : ∀ o, (K.set H.n o).get H.n = some o := fun o => AHeap.get_set_same gs o
      simp (disch := first | assumption | omega | (simp only [LN] <;> omega) | (simp (disch := first | assumption | omega | (simp only [LN] <;> omega)) only [row_alloc, row_set]; assumption)) only [W_block, P3, ↓reduceIte, reduceAdd, reduceEqDiff, reduceCtorEq, initFr, reduceLT, clsA, reduceLeDiff, reduceMul, reduceSub, reduceIte, hw, e0, e1, a_mmn, hmn, a_iaddrp, gg, stl_len, st1, hll, Int.toNat_natCast, Nat.mul_one]
      refine hn' _ _ _ ⟨i + 1, _, _, _, _, rfl, kK.set (Nat.le_refl _) hs1 _, ?_, by rw [AHeap.get_set_other K (by omega) hs1]; exact gw, by omega, rfl⟩ (by omega)
      rw [AHeap.get_set_same gs]
      congr 2
      refine stl_ext (fun _ _ => rfl) (fun _ _ => rfl) (fun _ _ => rfl) (fun j _ => ?_) (fun _ _ => rfl)
      show upd (upd _ _ _) _ _ j = _
      unfold upd
      by_cases e : j = i
      · subst e; rw [if_pos rfl, at_, htt]; rfl
      · rw [if_neg e, if_neg e]
        rcases Nat.lt_or_gt_of_ne e with h | h
        · exact low j h
        · exact up j h
  · have e1 : ¬ ((i : Nat) : Int) < 64 := by omega
    have hie : i = 64 := by omega
    subst hie
    simp (disch := first | assumption | omega | (simp only [LN] <;> omega) | (simp (disch := first | assumption | omega | (simp only [LN] <;> omega)) only [row_alloc, row_set]; assumption)) only [W_block, P3, ↓reduceIte, reduceAdd, reduceEqDiff, reduceCtorEq, initFr, reduceLT, clsA, reduceLeDiff, reduceMul, reduceSub, reduceIte, e1]
    refine hx' _ _ _ ?_
    have ex : stl (tidT s L 64) = stl (tidyS L s) := stl_ext (fun _ _ => rfl) (fun _ _ => rfl) (fun _ _ => rfl) (fun j hj => by
      show (if j < 64 then _ else _) = _
      rw [if_pos hj]) (fun _ _ => rfl)
    rw [ex] at gs
    simp (disch := first | assumption | omega | (simp only [LN] <;> omega) | (simp (disch := first | assumption | omega | (simp only [LN] <;> omega)) only [row_alloc, row_set]; assumption)) only [W_block, P3, ↓reduceIte, reduceAdd, reduceEqDiff, reduceCtorEq, initFr, reduceLT, clsA, reduceLeDiff, reduceMul, reduceSub, reduceIte, gs, gw, rng68, stn68s]
    refine hq2 _ _ ⟨_, ?_, rfl, kK.set (by omega) hw1 _⟩
    show resO [.cn 68 3] _ _ = _
    rw [resC]
    show celln 68 (ptr (H.n + 1) 0) _ = _
    rw [cellnp, rangeA_e, AHeap.get_set_same gw, rng_full (stl_len _)]; rfl
def rgtB (L : Ly) (s : Sta) : Bool := staB (tidyS L s) s && (none64 (fun i => anyR L s.lo (tabP L) i && s.lo i) && none32 (fun p => anyR L s.lo (nor L) p && s.po p) && none32 (fun p => anyR L s.lo (rev L) p && !s.po p))
set_option maxHeartbeats 1000000 in
theorem t11 {H : AHeap} {b : Nat} {L : Ly} (h : MaR H b L) (hl : L.r.length ≤ 64) (s : Sta) : ∃ w H', ARun Go.Proofs.Try.prog 0 11 [ptr b 0, .agg (stl s).toArray] H w H' ∧ w = .bool (rgtB L s) ∧ H' = H := by
  suffices h' : ∃ w H', ARun Go.Proofs.Try.prog 0 11 [ptr b 0, .agg (stl s).toArray] H w H' ∧ w = .bool (rgtB L s) ∧ Keeps H H' by
    obtain ⟨_, _, a, rfl, k⟩ := h'
    exact ⟨_, _, a.gc0 k (.inr (.bool _)), rfl, rfl⟩
  refine walk2 f11_ok f11_n ?_
  intro Q hq1 hq2
  have k0 := (Keeps.refl H).alloc (.cells true false 68 (stl s) 32)
  have gs0 := AHeap.get_alloc_new H (.cells true false 68 (stl s) 32)
  have tT := t9 (h.keeps k0) s
  obtain ⟨vr, vl, own, room, T, gb, ms⟩ := h
  have gb0 := k0.at_ gb
  have ms0 := ms.keeps k0
  have hbl := AHeap.get_lt gb
  have r1 := Sl.one ms.r
  have l1 := Sl.one ms.l
  have eqs0 := fun K neg a b => eq_stl K neg a b
  obtain ⟨K0, hK0⟩ : ∃ X, X = H.alloc (.cells true false 68 (stl s) 32) := ⟨_, rfl⟩
  rw [← hK0] at k0 gs0 tT gb0 ms0
  have n0 : H.n < K0.n := AHeap.get_lt gs0
  simp (disch := first | assumption | omega | (simp only [LN] <;> omega) | (simp (disch := first | assumption | omega | (simp only [LN] <;> omega)) only [row_alloc, row_set]; assumption)) only [ f11, P3, ↓reduceIte, reduceAdd, reduceEqDiff, reduceCtorEq, initFr, reduceLT, clsA, reduceLeDiff, reduceMul, reduceSub, reduceIte, stl_one, stl_len, rng68]
  rw [← hK0]
  refine callK tT ?_
  rintro _ X ⟨rfl, hX⟩
  rw [hX]
  unfold rgtB at hq1 hq2
  cases hsb : staB (tidyS L s) s with
  | false =>
    rw [hsb] at hq1 hq2
    simp (disch := first | assumption | omega | (simp only [LN] <;> omega) | (simp (disch := first | assumption | omega | (simp only [LN] <;> omega)) only [row_alloc, row_set]; assumption)) only [W_block, P3, ↓reduceIte, reduceAdd, reduceEqDiff, reduceCtorEq, initFr, reduceLT, clsA, reduceLeDiff, reduceMul, reduceSub, reduceIte, gs0, rng68, O68F_r, eqs0, n0, hsb]
    exact hq2 _ _ ⟨_, rfl, rfl, k0⟩
  | true =>
  rw [hsb] at hq1 hq2
  have tN := t25 (f := s.lo) ms0 hl
  have tC := t26 (f := s.lo) ms0 hl
  unfold mcells at tN tC gb0
  simp (disch := first | assumption | omega | (simp only [LN] <;> omega) | (simp (disch := first | assumption | omega | (simp only [LN] <;> omega)) only [row_alloc, row_set]; assumption)) only [W_block, P3, ↓reduceIte, reduceAdd, reduceEqDiff, reduceCtorEq, initFr, reduceLT, clsA, reduceLeDiff, reduceMul, reduceSub, reduceIte, gs0, gb0, rng68, O68F_r, eqs0, n0, hsb, stl_0, r1, l1]
  refine callK tN ?_
  rintro _ X ⟨rfl, hX⟩
  rw [hX]
  simp (disch := first | assumption | omega | (simp only [LN] <;> omega) | (simp (disch := first | assumption | omega | (simp only [LN] <;> omega)) only [row_alloc, row_set]; assumption)) only [W_block, P3, ↓reduceIte, reduceAdd, reduceEqDiff, reduceCtorEq, initFr, reduceLT, clsA, reduceLeDiff, reduceMul, reduceSub, reduceIte, gs0, gb0, stl_0, r1, l1]
  refine callK tC ?_
  rintro _ X ⟨rfl, hX⟩
  rw [hX]
  cases h1 : none64 (fun i => anyR L s.lo (tabP L) i && s.lo i) with
  | false =>
    rw [h1] at hq1 hq2
    simp (disch := first | assumption | omega | (simp only [LN] <;> omega) | (simp (disch := first | assumption | omega | (simp only [LN] <;> omega)) only [row_alloc, row_set]; assumption)) only [W_block, P3, ↓reduceIte, reduceAdd, reduceEqDiff, reduceCtorEq, initFr, reduceLT, clsA, reduceLeDiff, reduceMul, reduceSub, reduceIte, gs0, stl_0, stl_67, s_and, s_eq0, h1, n0]
    exact hq2 _ _ ⟨_, rfl, rfl, k0⟩
  | true =>
  rw [h1] at hq1 hq2
  cases h2 : none32 (fun p => anyR L s.lo (nor L) p && s.po p) with
  | false =>
    rw [h2] at hq1 hq2
    simp (disch := first | assumption | omega | (simp only [LN] <;> omega) | (simp (disch := first | assumption | omega | (simp only [LN] <;> omega)) only [row_alloc, row_set]; assumption)) only [W_block, P3, ↓reduceIte, reduceAdd, reduceEqDiff, reduceCtorEq, initFr, reduceLT, clsA, reduceLeDiff, reduceMul, reduceSub, reduceIte, gs0, stl_0, stl_67, s_and, s_eq0, p_and, p_eq0, h1, h2, n0]
    exact hq2 _ _ ⟨_, rfl, rfl, k0⟩
  | true =>
  rw [h2] at hq1 hq2
  simp (disch := first | assumption | omega | (simp only [LN] <;> omega) | (simp (disch := first | assumption | omega | (simp only [LN] <;> omega)) only [row_alloc, row_set]; assumption)) only [W_block, P3, ↓reduceIte, reduceAdd, reduceEqDiff, reduceCtorEq, initFr, reduceLT, clsA, reduceLeDiff, reduceMul, reduceSub, reduceIte, gs0, stl_0, stl_67, s_and, s_eq0, p_and, p_andn, p_eq0, h1, h2, n0]
  exact hq2 _ _ ⟨_, rfl, rfl, k0⟩
end Go.AM.Fd

set_option maxRecDepth 100000
set_option maxHeartbeats 0
namespace Go.AM.F
def zclJ : TypeId → List Value
 | _ => []
def zvlJ : TypeId → Value
 | _ => undef
def zklJ : TypeId → List Nat
 | _ => []
def zrlJ : Nat → TypeId → List Value
 | 1, 3 => [(.int .i64 0)]
 | _, _ => []
noncomputable def f68 : AFunc := by
 refine (fun (_ : Cz zclJ zvlJ zklJ zrlJ Go.Proofs.Try.prog 0 [0, 2] 68 ?a) => ?a) ?h
 case h =>
 intro zc zv zk zr hc hv hk hr
 conv => lhs; cbv; try simp only [hc, hv, hk, hr, zclJ, zvlJ, zklJ, zrlJ]
theorem f68_ok : compF Go.Proofs.Try.prog 0 [0, 2] 68 = some f68 := by kernel_rfl
theorem f68_n : argsOK Go.Proofs.Try.prog 68 1 = true := by kernel_rfl
noncomputable def f97 : AFunc := by
 refine (fun (_ : Cz zclJ zvlJ zklJ zrlJ Go.Proofs.Try.prog 0 [0, 1, 2, 4, 5, 6, 7] 97 ?a) => ?a) ?h
 case h =>
 intro zc zv zk zr hc hv hk hr
 have e0A := (rfl : rfA Go.Proofs.Try.prog 97 0 = rfA Go.Proofs.Try.prog 97 0); conv at e0A => rhs; cbv
 have e0B := (rfl : rfB Go.Proofs.Try.prog 97 0 = rfB Go.Proofs.Try.prog 97 0); conv at e0B => rhs; cbv
 conv => lhs; cbv; try simp only [hc, hv, hk, hr, zclJ, zvlJ, zklJ, zrlJ]; simp only [← e0A, ← e0B]
theorem f97_ok : compF Go.Proofs.Try.prog 0 [0, 1, 2, 4, 5, 6, 7] 97 = some f97 := by kernel_rfl
theorem f97_n : argsOK Go.Proofs.Try.prog 97 2 = true := by kernel_rfl
noncomputable def f97r0a : ACode := by
 refine (fun (_ : CzC zclJ zvlJ zklJ zrlJ Go.Proofs.Try.prog 0 13 [0, 1, 2, 4, 5, 6, 7] (rfA Go.Proofs.Try.prog 97 0) ?a) => ?a) ?h
 case h => intro zc zv zk zr hc hv hk hr; conv => lhs; cbv; try simp only [hc, hv, hk, hr, zclJ, zvlJ, zklJ, zrlJ]
theorem f97r0a_ok : compC Go.Proofs.Try.prog 0 13 [0, 1, 2, 4, 5, 6, 7] (rfA Go.Proofs.Try.prog 97 0) = some f97r0a := by kernel_rfl
noncomputable def f97r0b : ACode := by
 refine (fun (_ : CzC zclJ zvlJ zklJ zrlJ Go.Proofs.Try.prog 0 13 [0, 1, 2, 4, 5, 6, 7] (rfB Go.Proofs.Try.prog 97 0) ?a) => ?a) ?h
 case h => intro zc zv zk zr hc hv hk hr; conv => lhs; cbv; try simp only [hc, hv, hk, hr, zclJ, zvlJ, zklJ, zrlJ]
theorem f97r0b_ok : compC Go.Proofs.Try.prog 0 13 [0, 1, 2, 4, 5, 6, 7] (rfB Go.Proofs.Try.prog 97 0) = some f97r0b := by kernel_rfl
theorem f97r0_n : (noRF (rfA Go.Proofs.Try.prog 97 0) && noRF (rfB Go.Proofs.Try.prog 97 0)) = true := by kernel_rfl
end Go.AM.F

set_option linter.unusedSimpArgs false
set_option linter.unusedVariables false
set_option maxRecDepth 8000
namespace Go.AM.Fd
open Nat (reduceAdd reduceEqDiff reduceLT reduceLeDiff reduceMul reduceSub)
open Go.Proofs Go.AM.F
theorem t69 {H : AHeap} (f : Nat → Bool) : ∃ w H', ARun Go.Proofs.Try.prog 0 69 [S64 f] H w H' ∧ w = .func (.func 98) #[] #[ptr H.n 0] ∧ H' = H.alloc (.cells true false 1 [S64 f] 28) := by
  refine walk2 f69_ok f69_n ?_
  intro Q hq1 hq2
  simp (disch := first | assumption | omega | (simp only [LN] <;> omega) | (simp (disch := first | assumption | omega | (simp only [LN] <;> omega)) only [row_alloc, row_set]; assumption)) only [f69, W_block, P3, ↓reduceIte, reduceAdd, reduceEqDiff, reduceCtorEq, initFr, reduceLT, clsA, reduceLeDiff, reduceMul, reduceSub, reduceIte, cells_s64, one_s64, o_s64]
  exact hq2 _ _ ⟨_, rfl, rfl, rfl⟩
theorem t98 {f : Nat → Bool} {rb xb T : Nat} {o r : Bool} (J : Nat → AHeap → Prop)
    (hx : ∀ k X, J k X → X.get xb = some (.cells o r 1 [S64 f] T))
    (hy : ∀ k X, k < 64 → f k = true → J k X → ∃ w X', AYield Go.Proofs.Try.prog 0 rb [.int .i64 (k : Nat)] X w X' ∧ w = .bool true ∧ J (k + 1) X')
    (hs : ∀ k X, k < 64 → f k = false → J k X → J (k + 1) X)
    {H : AHeap} (h0 : J 0 H) : ∃ w H', ARun Go.Proofs.Try.prog 0 98 [.chan (some rb), ptr xb 0] H w H' ∧ J 64 H' := by
  refine walk2 f98_ok f98_n ?_
  intro Q hq1 hq2
  simp (disch := first | assumption | omega | (simp only [LN] <;> omega) | (simp (disch := first | assumption | omega | (simp only [LN] <;> omega)) only [row_alloc, row_set]; assumption)) only [ f98, P3, ↓reduceIte, reduceAdd, reduceEqDiff, reduceCtorEq, initFr, reduceLT, clsA, reduceLeDiff, reduceMul, reduceSub, reduceIte]
  rw [W_block]
  refine W_loop2 (fun q fr X => ∃ k x2 x4 x5, fr = [.chan (some rb), ptr xb 0, x2, .int .i64 ((k : Nat) : Int), x4, x5] ∧ J k X ∧ k ≤ 64 ∧ q = 64 - k) 64 ⟨0, _, _, _, rfl, h0, by omega, rfl⟩ ?_
  rintro Q' q fr X ⟨k, x2, x4, x5, rfl, hJ, hk, rfl⟩ hn' hx' hret
  by_cases hlt : k < 64
  · have gx := hx k X hJ
    have e1 : (k : Int) < 64 := by omega
    have hw : IntKind.i64.wrap ((k : Int) + 1) = ((k + 1 : Nat) : Int) := by rw [wrap_i64 (by omega) (by omega)]; simp
    simp (disch := first | assumption | omega | (simp only [LN] <;> omega) | (simp (disch := first | assumption | omega | (simp only [LN] <;> omega)) only [row_alloc, row_set]; assumption)) only [W_block, P3, ↓reduceIte, reduceAdd, reduceEqDiff, reduceCtorEq, initFr, reduceLT, clsA, reduceLeDiff, reduceMul, reduceSub, reduceIte, e1, gx]
    refine callK (t22 _ _) ?_
    rintro _ Y ⟨rfl, hY⟩
    rw [hY, has_nat _ hlt]
    cases hf : f k with
    | false =>
      simp (disch := first | assumption | omega | (simp only [LN] <;> omega) | (simp (disch := first | assumption | omega | (simp only [LN] <;> omega)) only [row_alloc, row_set]; assumption)) only [W_block, P3, ↓reduceIte, reduceAdd, reduceEqDiff, reduceCtorEq, initFr, reduceLT, clsA, reduceLeDiff, reduceMul, reduceSub, reduceIte, hw]
      exact hn' _ _ _ ⟨k + 1, _, _, _, rfl, hs k X hlt hf hJ, by omega, rfl⟩ (by omega)
    | true =>
      simp (disch := first | assumption | omega | (simp only [LN] <;> omega) | (simp (disch := first | assumption | omega | (simp only [LN] <;> omega)) only [row_alloc, row_set]; assumption)) only [W_block, P3, ↓reduceIte, reduceAdd, reduceEqDiff, reduceCtorEq, initFr, reduceLT, clsA, reduceLeDiff, reduceMul, reduceSub, reduceIte, st_callvy]
      refine yieldK (hy k X hlt hf hJ) ?_
      rintro _ Y ⟨rfl, hJ2⟩
      simp (disch := first | assumption | omega | (simp only [LN] <;> omega) | (simp (disch := first | assumption | omega | (simp only [LN] <;> omega)) only [row_alloc, row_set]; assumption)) only [W_block, P3, ↓reduceIte, reduceAdd, reduceEqDiff, reduceCtorEq, initFr, reduceLT, clsA, reduceLeDiff, reduceMul, reduceSub, reduceIte, hw]
      exact hn' _ _ _ ⟨k + 1, _, _, _, rfl, hJ2, by omega, rfl⟩ (by omega)
  · have e1 : ¬ ((k : Nat) : Int) < 64 := by omega
    have hke : k = 64 := by omega
    subst hke
    simp (disch := first | assumption | omega | (simp only [LN] <;> omega) | (simp (disch := first | assumption | omega | (simp only [LN] <;> omega)) only [row_alloc, row_set]; assumption)) only [W_block, P3, ↓reduceIte, reduceAdd, reduceEqDiff, reduceCtorEq, initFr, reduceLT, clsA, reduceLeDiff, reduceMul, reduceSub, reduceIte, e1]
    refine hx' _ _ _ ?_
    exact hq1 _ _ ⟨_, rfl, hJ⟩
def anyN (n : Nat) (f : Nat → Bool) (g : Nat → Nat → Bool) (p : Nat) : Bool := (List.range n).any fun i => f i && g i p
theorem anyN_s (n : Nat) (f : Nat → Bool) (g : Nat → Nat → Bool) (p : Nat) : anyN (n + 1) f g p = (anyN n f g p || (f n && g n p)) := by
  unfold anyN; rw [List.range_succ, List.any_append]; simp
structure AJ (K : AHeap) (vb : Nat) (L : LRec) (f : Nat → Bool) (g : Nat → Nat → Bool) (k : Nat) (X : AHeap) : Prop where
  n : K.n < X.n
  keep : ∀ b, b < K.n → b ≠ vb → X.get b = K.get b
  var : X.get vb = some (.cells true false 1 [S64 (anyN k f g)] 28)
  rec_ : X.get K.n = some (.loop true .ready none L)
theorem anyN_low (n : Nat) (hn : n ≤ 64) (f : Nat → Bool) (g : Nat → Nat → Bool) : anyN 64 (fun i => f i && lowP (n : Int) i) g = anyN n f g := by
  funext p
  unfold anyN
  rw [Bool.eq_iff_iff, List.any_eq_true, List.any_eq_true]
  constructor
  · rintro ⟨i, _, h⟩
    simp only [lowP, Bool.and_eq_true, decide_eq_true_eq] at h
    exact ⟨i, List.mem_range.2 (by omega), by simp [h.1.1, h.2]⟩
  · rintro ⟨i, hi, h⟩
    have := List.mem_range.1 hi
    simp only [Bool.and_eq_true] at h
    refine ⟨i, List.mem_range.2 (by omega), ?_⟩
    simp only [lowP, h.1, h.2, Bool.true_and, Bool.and_true, decide_eq_true_eq]
    omega
set_option maxHeartbeats 1000000 in
theorem t96 {H : AHeap} {v : Value} {n : Nat} {g : Nat → Nat → Bool} (hs : Sl H 1 v ((List.range n).map fun i => [S64 (g i)])) (hn : n ≤ 64) (f : Nat → Bool) :
    ∃ w H', ARun Go.Proofs.Try.prog 0 96 [v, S64 f] H w H' ∧ w = S64 (anyN n f g) ∧ H' = H := by
  suffices h' : ∃ w H', ARun Go.Proofs.Try.prog 0 96 [v, S64 f] H w H' ∧ w = S64 (anyN n f g) ∧ Keeps H H' by
    obtain ⟨_, _, a, rfl, k⟩ := h'
    exact ⟨_, _, a.gc0 k (.inr (.int _ _)), rfl, rfl⟩
  refine walk2 f96_ok f96_n ?_
  intro Q hq1 hq2
  have one := Sl.one hs
  have is := Sl.is hs
  have len := hs.len
  simp only [List.length_map, List.length_range] at len
  obtain ⟨K0, hK0⟩ : ∃ X, X = (H.alloc (.cells true false 1 [v] 72)).alloc (.cells true false 1 [.int .u64 0] 28) := ⟨_, rfl⟩
  have k0 : Keeps H K0 := by rw [hK0]; exact ((Keeps.refl H).alloc _).alloc _
  have n0 : K0.n = H.n + 2 := by rw [hK0]; rfl
  have gv0 : K0.get H.n = some (.cells true false 1 [v] 72) := by rw [hK0]; exact ((Keeps.refl _).alloc _).at_ (AHeap.get_alloc_new H _)
  have go0 : K0.get (H.n + 1) = some (.cells true false 1 [.int .u64 0] 28) := by rw [hK0]; exact AHeap.get_alloc_new (H.alloc _) _
  have hc := cells_isS is
  simp (disch := first | assumption | omega | (simp only [LN] <;> omega) | (simp (disch := first | assumption | omega | (simp only [LN] <;> omega)) only [row_alloc, row_set]; assumption)) only [f96, W_block, P3, ↓reduceIte, reduceAdd, reduceEqDiff, reduceCtorEq, initFr, reduceLT, clsA, reduceLeDiff, reduceMul, reduceSub, reduceIte, one, is, len, hc]
  simp only [← hK0]
  refine callK (t93 _) ?_
  rintro _ X ⟨rfl, hX⟩
  rw [hX]
  simp (disch := first | assumption | omega | (simp only [LN] <;> omega) | (simp (disch := first | assumption | omega | (simp only [LN] <;> omega)) only [row_alloc, row_set]; assumption)) only [W_block, P3, ↓reduceIte, reduceAdd, reduceEqDiff, reduceCtorEq, initFr, reduceLT, clsA, reduceLeDiff, reduceMul, reduceSub, reduceIte, s_and]
  refine callK (t69 _) ?_
  rintro _ K ⟨rfl, hK⟩
  have kK : Keeps K0 K := by rw [hK]; exact (Keeps.refl K0).alloc _
  have nK : K.n = H.n + 3 := by rw [hK, alloc_n, n0]
  have gx : K.get (H.n + 2) = some (.cells true false 1 [S64 fun i => f i && lowP (n : Int) i] 28) := by rw [hK, ← n0]; exact AHeap.get_alloc_new K0 _
  have gvK := kK.at_ gv0
  have goK := kK.at_ go0
  simp (disch := first | assumption | omega | (simp only [LN] <;> omega) | (simp (disch := first | assumption | omega | (simp only [LN] <;> omega)) only [row_alloc, row_set]; assumption)) only [ P3, ↓reduceIte, reduceAdd, reduceEqDiff, reduceCtorEq, initFr, reduceLT, clsA, reduceLeDiff, reduceMul, reduceSub, reduceIte]
  rw [W_block]
  refine W_rangeF rfl (bodied_of (by kernel_rfl)) ?_
  obtain ⟨L0, hL0⟩ : ∃ L : LRec, L = ⟨21, [0, 1, 2, 4, 5, 6, 12, 13], [v, S64 f, ptr H.n 0, .int .u64 0, ptr (H.n + 1) 0, undef, .func (.func 98) #[] #[ptr K0.n 0], undef], #[13], rfA Go.Proofs.Try.prog 96 0, rfB Go.Proofs.Try.prog 96 0⟩ := ⟨_, rfl⟩
  have kL := (Keeps.refl K).alloc (.loop true .ready none L0)
  obtain ⟨f', hf'⟩ : ∃ f', f' = fun i => f i && lowP (n : Int) i := ⟨_, rfl⟩
  have j0 : AJ K (H.n + 1) L0 f' g 0 (K.alloc (.loop true .ready none L0)) := ⟨by simp [alloc_n], fun b hb _ => kL.get b hb, by rw [kL.at_ goK, s_zero]; rfl, AHeap.get_alloc_new K _⟩
  have tM := t98 (f := f') (rb := K.n) (xb := H.n + 2) (T := 28) (o := true) (r := false) (AJ K (H.n + 1) L0 f' g)
    (fun k X hJ => by rw [hJ.keep _ (by omega) (by omega), gx, hf']) ?_ (fun k X _ hfk hJ => ⟨hJ.n, hJ.keep, by
      rw [hJ.var]
      have : anyN (k + 1) f' g = anyN k f' g := by funext p; rw [anyN_s, hfk]; simp
      rw [this], hJ.rec_⟩) j0
  · rw [n0, hL0] at *
    obtain ⟨w, X, r, hJ⟩ := tM
    refine ⟨w, X, r, afterR_ready hJ.rec_ ?_⟩
    have hrl := AHeap.get_lt hJ.rec_
    have gv : (X.set K.n .dead).get (H.n + 1) = some (.cells true false 1 [S64 (anyN n f g)] 28) := by rw [AHeap.get_set_other X (by omega) hrl, hJ.var, hf', anyN_low n hn]
    simp (disch := first | assumption | omega | (simp only [LN] <;> omega) | (simp (disch := first | assumption | omega | (simp only [LN] <;> omega)) only [row_alloc, row_set]; assumption)) only [W_block, P3, ↓reduceIte, reduceAdd, reduceEqDiff, reduceCtorEq, initFr, reduceLT, clsA, reduceLeDiff, reduceMul, reduceSub, reduceIte, gv]
    refine hq2 _ _ ⟨_, rfl, rfl, ⟨by rw [set_n]; have := hJ.n; omega, fun b hb => ?_⟩⟩
    rw [AHeap.get_set_other X (by omega) hrl, hJ.keep b (by omega) (by omega)]
    exact (k0.trans kK).get b hb
  · intro k X hk hfk hJ
    have hkn : k < n := by rw [hf'] at hfk; simp [lowP] at hfk; exact hfk.2
    rw [hL0] at hJ ⊢
    refine yield_of (R := fun w H' => w = .bool true ∧ AJ K (H.n + 1) _ f' g (k + 1) H') hJ.rec_ f96r0a_ok f96r0b_ok f96r0_n rfl rfl ?_
    show W Go.Proofs.Try.prog 0 f96r0a _ [v, S64 f, ptr H.n 0, .int .u64 0, ptr (H.n + 1) 0, undef, .func (.func 98) #[] #[ptr K0.n 0], .int .i64 ((k : Nat) : Int)] X
    rw [← hL0] at hJ ⊢
    simp (disch := first | assumption | omega | (simp only [LN] <;> omega) | (simp (disch := first | assumption | omega | (simp only [LN] <;> omega)) only [row_alloc, row_set]; assumption)) only [f96r0a, W_block, P3, ↓reduceIte, reduceAdd, reduceEqDiff, reduceCtorEq, initFr, reduceLT, clsA, reduceLeDiff, reduceMul, reduceSub, reduceIte]
    refine ⟨none, L0, hJ.rec_, ?_⟩
    obtain ⟨X1, hX1⟩ : ∃ Y, Y = X.set K.n (.loop true .busy none L0) := ⟨_, rfl⟩
    have hrl := AHeap.get_lt hJ.rec_
    have n1 : X1.n = X.n := by rw [hX1]; rfl
    have oth : ∀ b, b ≠ K.n → X1.get b = X.get b := fun b hb => by rw [hX1]; exact AHeap.get_set_other X hb hrl _
    have gr1 : X1.get K.n = some (.loop true .busy none L0) := by rw [hX1]; exact AHeap.get_set_same hJ.rec_ _
    have go1 : X1.get (H.n + 1) = some (.cells true false 1 [S64 (anyN k f' g)] 28) := by rw [oth _ (by omega)]; exact hJ.var
    have gv1 : X1.get H.n = some (.cells true false 1 [v] 72) := by rw [oth _ (by omega), hJ.keep _ (by omega) (by omega)]; exact gvK
    have s1 : Sl X1 1 v ((List.range n).map fun i => [S64 (g i)]) := hs.get' (fun b e hb => by
      rw [oth _ (by omega), hJ.keep _ (by omega) (by omega)]; exact (k0.trans kK).get b hb)
    obtain ⟨na, ra⟩ := s1.at_ (by omega) (i := k) (by simpa using hkn)
    have ra' : rowA X1 1 v k = some [S64 (g k)] := by rw [ra]; simp
    have e0 : (0 : Int) ≤ (k : Int) := by omega
    have e1 : (k : Int) < ((n : Nat) : Int) := by omega
    have hol := AHeap.get_lt go1
    rw [← hX1]
    simp (disch := first | assumption | omega | (simp only [LN] <;> omega) | (simp (disch := first | assumption | omega | (simp only [LN] <;> omega)) only [row_alloc, row_set]; assumption)) only [f96r0b, W_block, P3, ↓reduceIte, reduceAdd, reduceEqDiff, reduceCtorEq, initFr, reduceLT, clsA, reduceLeDiff, reduceMul, reduceSub, reduceIte, go1, gv1, na, ra', len, e0, e1, a_load1v, s_or, one_s64, o_s64]
    have c2 : ∀ o, (X1.set (H.n + 1) o).get K.n = some (.loop true .busy none L0) := fun o => by rw [AHeap.get_set_other X1 (by omega) hol]; exact gr1
    unfold roundQ
    rw [c2]
    have hXn := hJ.n
    refine ⟨rfl, ?_, ?_, ?_, AHeap.get_set_same (c2 _) _⟩
    · rw [set_n, set_n]; omega
    · intro b hb hb2
      rw [AHeap.get_set_other _ (by omega) (by rw [set_n]; omega), AHeap.get_set_other X1 hb2 hol, oth b (by omega)]
      exact hJ.keep b hb hb2
    · rw [AHeap.get_set_other _ (by omega) (by rw [set_n]; omega), AHeap.get_set_same go1]
      congr 4
      congr 1
      funext p
      rw [anyN_s, hfk]; simp
def lieU (L : Ly) (f : Nat → Bool) : Nat → Bool := anyN L.p.length (fun i => decide (i < 32) && f i) (lieP L)
theorem t67 {H : AHeap} {b : Nat} {L : Ly} (h : MaR H b L) (hl : L.p.length ≤ 32) (f : Nat → Bool) : ∃ w H', ARun Go.Proofs.Try.prog 0 67 [ptr b 0, S32 f] H w H' ∧ w = S64 (lieU L f) ∧ H' = H := by
  refine walk2 f67_ok f67_n ?_
  intro Q hq1 hq2
  obtain ⟨vr, vl, own, room, T, gb, ms⟩ := h
  have tA := t96 (g := lieP L) ms.l (by omega) (fun i => decide (i < 32) && f i)
  unfold mcells at gb
  simp (disch := first | assumption | omega | (simp only [LN] <;> omega) | (simp (disch := first | assumption | omega | (simp only [LN] <;> omega)) only [row_alloc, row_set]; assumption)) only [f67, W_block, P3, ↓reduceIte, reduceAdd, reduceEqDiff, reduceCtorEq, initFr, reduceLT, clsA, reduceLeDiff, reduceMul, reduceSub, reduceIte, gb, s_up]
  refine callK tA ?_
  rintro _ X ⟨rfl, hX⟩
  rw [hX]
  simp (disch := first | assumption | omega | (simp only [LN] <;> omega) | (simp (disch := first | assumption | omega | (simp only [LN] <;> omega)) only [row_alloc, row_set]; assumption)) only [W_block, P3, ↓reduceIte, reduceAdd, reduceEqDiff, reduceCtorEq, initFr, reduceLT, clsA, reduceLeDiff, reduceMul, reduceSub, reduceIte]
  exact hq2 _ _ ⟨_, rfl, rfl, rfl⟩
end Go.AM.Fd

set_option linter.unusedSimpArgs false
set_option linter.unusedVariables false
set_option maxRecDepth 8000
namespace Go.AM.Fd
open Nat (reduceAdd reduceEqDiff reduceLT reduceLeDiff reduceMul reduceSub)
open Go.Proofs Go.AM.F
structure LJ (K : AHeap) (vb : Nat) (L : LRec) (f : Nat → Bool) (k : Nat) (X : AHeap) : Prop where
  n : K.n < X.n
  keep : ∀ b, b < K.n → b ≠ vb → X.get b = K.get b
  rec_ : X.get K.n = some (.loop true .ready none L)
  var : ∃ sv, X.get vb = some (.cells true false 1 [sv] 47) ∧ AP X 3 1 sv ((List.range k).filter f).length (((List.range k).filter f).map fun i => Value.int .i64 (i : Nat)) ∧ ∀ b, blk sv = some b → K.n < b
def fl (f : Nat → Bool) (k : Nat) : List Nat := (List.range k).filter f
theorem fl_yes {f : Nat → Bool} {k : Nat} (h : f k = true) : (List.range (k + 1)).filter f = (List.range k).filter f ++ [k] := by
  rw [List.range_succ, List.filter_append]; simp [h]
theorem fl_no {f : Nat → Bool} {k : Nat} (h : f k = false) : (List.range (k + 1)).filter f = (List.range k).filter f := by
  rw [List.range_succ, List.filter_append]; simp [h]
theorem fl_le (f : Nat → Bool) (k : Nat) : ((List.range k).filter f).length ≤ k := by
  have := List.length_filter_le f (List.range k); simpa using this
theorem AP.sl1 {H : AHeap} {e : Nat} {v : Value} {l : List Value} (h : AP H e 1 v l.length l) : Sl H 1 v (l.map fun x => [x]) := by
  have hf : (l.map fun x => [x]).flatten = l := by
    clear h
    induction l with
    | nil => rfl
    | cons a l ih => simp [ih]
  exact AP.sl (n := l.length) (by rw [hf]; exact h) (by simp) (by simp)
set_option maxHeartbeats 1000000 in
theorem t97 {H : AHeap} {f : Nat → Bool} {xb T : Nat} {o r : Bool} (gx : H.get xb = some (.cells o r 1 [S64 f] T)) :
    ∃ w H', ARun Go.Proofs.Try.prog 0 97 [.slice none 0 0, .func (.func 98) #[] #[ptr xb 0]] H w H' ∧ IL H' w (((List.range 64).filter f).map fun (i : Nat) => (i : Int)) ∧ Keeps H H' ∧ Fresh H.n w := by
  refine walk2 f97_ok f97_n ?_
  intro Q hq1 hq2
  obtain ⟨K, hK⟩ : ∃ X, X = H.alloc (.cells true false 1 [.slice none 0 0] 47) := ⟨_, rfl⟩
  have kK : Keeps H K := by rw [hK]; exact (Keeps.refl H).alloc _
  have nK : K.n = H.n + 1 := by rw [hK]; rfl
  have gv : K.get H.n = some (.cells true false 1 [.slice none 0 0] 47) := by rw [hK]; exact AHeap.get_alloc_new H _
  have hxl := AHeap.get_lt gx
  simp (disch := first | assumption | omega | (simp only [LN] <;> omega) | (simp (disch := first | assumption | omega | (simp only [LN] <;> omega)) only [row_alloc, row_set]; assumption)) only [ f97, P3, ↓reduceIte, reduceAdd, reduceEqDiff, reduceCtorEq, initFr, reduceLT, clsA, reduceLeDiff, reduceMul, reduceSub, reduceIte]
  rw [← hK, W_block]
  refine W_rangeF rfl (bodied_of (by kernel_rfl)) ?_
  obtain ⟨L0, hL0⟩ : ∃ L : LRec, L = ⟨13, [0, 1, 2, 4, 5, 6, 7], [.slice none 0 0, .func (.func 98) #[] #[ptr xb 0], ptr H.n 0, .slice none 0 0, undef, .func (.func 98) #[] #[ptr xb 0], undef], #[7], rfA Go.Proofs.Try.prog 97 0, rfB Go.Proofs.Try.prog 97 0⟩ := ⟨_, rfl⟩
  rw [← hL0]
  have kL := (Keeps.refl K).alloc (.loop true .ready none L0)
  have j0 : LJ K H.n L0 f 0 (K.alloc (.loop true .ready none L0)) := ⟨by simp [alloc_n], fun b hb _ => kL.get b hb, AHeap.get_alloc_new K _, .slice none 0 0, kL.at_ gv, .inl ⟨rfl, rfl, rfl⟩, fun b hb => by cases hb⟩
  have tM := t98 (f := f) (rb := K.n) (xb := xb) (T := T) (o := o) (r := r) (LJ K H.n L0 f)
    (fun k X hJ => by rw [hJ.keep _ (by omega) (by omega)]; exact kK.at_ gx) ?_ (fun k X _ hfk hJ => by
      obtain ⟨sv, v1, v2, v3⟩ := hJ.var
      exact ⟨hJ.n, hJ.keep, hJ.rec_, sv, v1, by rw [fl_no hfk]; exact v2, v3⟩) j0
  · obtain ⟨w, X, r, hJ⟩ := tM
    refine ⟨w, X, r, afterR_ready hJ.rec_ ?_⟩
    have hrl := AHeap.get_lt hJ.rec_
    obtain ⟨sv, v1, v2, v3⟩ := hJ.var
    have gv2 : (X.set K.n .dead).get H.n = some (.cells true false 1 [sv] 47) := by rw [AHeap.get_set_other X (by omega) hrl]; exact v1
    simp (disch := first | assumption | omega | (simp only [LN] <;> omega) | (simp (disch := first | assumption | omega | (simp only [LN] <;> omega)) only [row_alloc, row_set]; assumption)) only [W_block, P3, ↓reduceIte, reduceAdd, reduceEqDiff, reduceCtorEq, initFr, reduceLT, clsA, reduceLeDiff, reduceMul, reduceSub, reduceIte, gv2]
    have ap2 := v2.chg (Chg.set X hrl .dead) (fun b hb => by have := v3 b (mem_blkL.1 hb); simp; omega)
    refine hq2 _ _ ⟨_, rfl, ?_, ⟨by rw [set_n]; have := hJ.n; omega, fun b hb => ?_⟩, fun b hb => by have := v3 b hb; omega⟩
    · have e : (((List.range 64).filter f).map fun (i : Nat) => (i : Int)).map iRow = (((List.range 64).filter f).map fun i => Value.int .i64 (i : Nat)).map fun x => [x] := by
        rw [List.map_map, List.map_map]; rfl
      unfold IL
      rw [e]
      refine AP.sl1 (e := 3) ?_
      rw [List.length_map]; exact ap2
    · rw [AHeap.get_set_other X (by omega) hrl, hJ.keep b (by omega) (by omega)]
      exact kK.get b hb
  · intro k X hk hfk hJ
    rw [hL0] at hJ ⊢
    refine yield_of (R := fun w H' => w = .bool true ∧ LJ K H.n _ f (k + 1) H') hJ.rec_ f97r0a_ok f97r0b_ok f97r0_n rfl rfl ?_
    show W Go.Proofs.Try.prog 0 f97r0a _ [.slice none 0 0, .func (.func 98) #[] #[ptr xb 0], ptr H.n 0, .slice none 0 0, undef, .func (.func 98) #[] #[ptr xb 0], .int .i64 ((k : Nat) : Int)] X
    rw [← hL0] at hJ ⊢
    simp (disch := first | assumption | omega | (simp only [LN] <;> omega) | (simp (disch := first | assumption | omega | (simp only [LN] <;> omega)) only [row_alloc, row_set]; assumption)) only [f97r0a, W_block, P3, ↓reduceIte, reduceAdd, reduceEqDiff, reduceCtorEq, initFr, reduceLT, clsA, reduceLeDiff, reduceMul, reduceSub, reduceIte]
    refine ⟨none, L0, hJ.rec_, ?_⟩
    obtain ⟨X1, hX1⟩ : ∃ Y, Y = X.set K.n (.loop true .busy none L0) := ⟨_, rfl⟩
    have hrl := AHeap.get_lt hJ.rec_
    have n1 : X1.n = X.n := by rw [hX1]; rfl
    have oth : ∀ b, b ≠ K.n → X1.get b = X.get b := fun b hb => by rw [hX1]; exact AHeap.get_set_other X hb hrl _
    have gr1 : X1.get K.n = some (.loop true .busy none L0) := by rw [hX1]; exact AHeap.get_set_same hJ.rec_ _
    obtain ⟨sv, v1, v2, v3⟩ := hJ.var
    have gv1 : X1.get H.n = some (.cells true false 1 [sv] 47) := by rw [oth _ (by omega)]; exact v1
    have ap1 := v2.chg (B := X1) (by rw [hX1]; exact Chg.set X hrl (.loop true .busy none L0)) (fun b hb => by have := v3 b (mem_blkL.1 hb); simp; omega)
    have len := fl_le f k
    have hXn := hJ.n
    have fW : fillA [.int .i64 0] [(0, 1, .int .i64 ((k : Nat) : Int))] = some [.int .i64 ((k : Nat) : Int)] := rfl
    rw [← hX1]
    simp (disch := first | assumption | omega | (simp only [LN] <;> omega) | (simp (disch := first | assumption | omega | (simp only [LN] <;> omega)) only [row_alloc, row_set]; assumption)) only [f97r0b, W_block, P3, ↓reduceIte, reduceAdd, reduceEqDiff, reduceCtorEq, initFr, reduceLT, clsA, reduceLeDiff, reduceMul, reduceSub, reduceIte, gv1, fW]
    obtain ⟨X2, hX2⟩ : ∃ Y, Y = X1.alloc (.cells true false 1 [.int .i64 ((k : Nat) : Int)] 3) := ⟨_, rfl⟩
    have kX2 : Keeps X1 X2 := by rw [hX2]; exact (Keeps.refl X1).alloc _
    have el2 : elemsA X2 1 (slc X1.n 0 1 1) = some [.int .i64 ((k : Nat) : Int)] := by rw [hX2]; exact elems_new rfl rfl
    have n2 : X2.n = X1.n + 1 := by rw [hX2]; rfl
    rw [← hX2]
    refine appG (ap1.keeps kX2) ⟨_, _, rfl⟩ el2 rfl (by omega) ?_
    intro v' K' ap' c' hb'
    have hml : H.n ∉ blkL sv := fun hm => by have := v3 _ (mem_blkL.1 hm); omega
    have hmr : K.n ∉ blkL sv := fun hm => by have := v3 _ (mem_blkL.1 hm); omega
    have gv3 := c'.at_ (kX2.at_ gv1) hml
    have gr3 := c'.at_ (kX2.at_ gr1) hmr
    have o1 : v'.oneCell' = true := by obtain ⟨a, rfl⟩ := ap'.shape; rfl
    have hvl := AHeap.get_lt gv3
    have hbk : ∀ b, blk v' = some b → K.n < b := fun b hb => by
      rcases hb' with e | e
      · exact v3 b (by rw [← e]; exact hb)
      · rw [e] at hb; cases hb; omega
    simp (disch := first | assumption | omega | (simp only [LN] <;> omega) | (simp (disch := first | assumption | omega | (simp only [LN] <;> omega)) only [row_alloc, row_set]; assumption)) only [W_block, P3, ↓reduceIte, reduceAdd, reduceEqDiff, reduceCtorEq, initFr, reduceLT, clsA, reduceLeDiff, reduceMul, reduceSub, reduceIte, gv3, o1]
    have c2 : ∀ o, (K'.set H.n o).get K.n = some (.loop true .busy none L0) := fun o => by rw [AHeap.get_set_other K' (by omega) hvl]; exact gr3
    unfold roundQ
    rw [c2]
    have hKn := c'.n
    refine ⟨rfl, ?_, ?_, AHeap.get_set_same (c2 _) _, v', ?_, ?_, hbk⟩
    · rw [set_n, set_n]; omega
    · intro b hb hb2
      rw [AHeap.get_set_other _ (by omega) (by rw [set_n]; omega), AHeap.get_set_other K' hb2 hvl, c'.get b (by omega) (fun hm => by have := v3 _ (mem_blkL.1 hm); omega), kX2.get b (by omega), oth b (by omega)]
      exact hJ.keep b hb hb2
    · rw [AHeap.get_set_other _ (by omega) (by rw [set_n]; omega), AHeap.get_set_same gv3]
    · rw [fl_yes hfk, List.length_append, List.map_append]
      refine (ap'.chg (Chg.set K' hvl _) (fun b hb => by have := hbk b (mem_blkL.1 hb); simp; omega)).chg (Chg.set _ (by rw [set_n]; omega) _) (fun b hb => by have := hbk b (mem_blkL.1 hb); simp; omega)
theorem t68 {H : AHeap} {f : Nat → Bool} {xb T : Nat} {o r : Bool} (gx : H.get xb = some (.cells o r 1 [S64 f] T)) :
    ∃ w H', ARun Go.Proofs.Try.prog 0 68 [.func (.func 98) #[] #[ptr xb 0]] H w H' ∧ IL H' w (((List.range 64).filter f).map fun (i : Nat) => (i : Int)) ∧ Keeps H H' ∧ Fresh H.n w := by
  refine walk2 f68_ok f68_n ?_
  intro Q hq1 hq2
  simp (disch := first | assumption | omega | (simp only [LN] <;> omega) | (simp (disch := first | assumption | omega | (simp only [LN] <;> omega)) only [row_alloc, row_set]; assumption)) only [f68, W_block, P3, ↓reduceIte, reduceAdd, reduceEqDiff, reduceCtorEq, initFr, reduceLT, clsA, reduceLeDiff, reduceMul, reduceSub, reduceIte]
  refine callK (t97 gx) ?_
  rintro w K ⟨h1, h2, h3⟩
  simp (disch := first | assumption | omega | (simp only [LN] <;> omega) | (simp (disch := first | assumption | omega | (simp only [LN] <;> omega)) only [row_alloc, row_set]; assumption)) only [W_block, P3, ↓reduceIte, reduceAdd, reduceEqDiff, reduceCtorEq, initFr, reduceLT, clsA, reduceLeDiff, reduceMul, reduceSub, reduceIte]
  exact hq2 _ _ ⟨_, rfl, h1, h2, h3⟩
theorem t36 {H : AHeap} (f : Nat → Bool) :
    ∃ w H', ARun Go.Proofs.Try.prog 0 36 [S64 f] H w H' ∧ IL H' w (((List.range 64).filter f).map fun (i : Nat) => (i : Int)) ∧ Keeps H H' ∧ Fresh H.n w := by
  refine walk2 f36_ok f36_n ?_
  intro Q hq1 hq2
  simp (disch := first | assumption | omega | (simp only [LN] <;> omega) | (simp (disch := first | assumption | omega | (simp only [LN] <;> omega)) only [row_alloc, row_set]; assumption)) only [f36, W_block, P3, ↓reduceIte, reduceAdd, reduceEqDiff, reduceCtorEq, initFr, reduceLT, clsA, reduceLeDiff, reduceMul, reduceSub, reduceIte]
  refine callK (t69 _) ?_
  rintro _ K ⟨rfl, hK⟩
  have kK : Keeps H K := by rw [hK]; exact (Keeps.refl H).alloc _
  have gx : K.get H.n = some (.cells true false 1 [S64 f] 28) := by rw [hK]; exact AHeap.get_alloc_new H _
  simp (disch := first | assumption | omega | (simp only [LN] <;> omega) | (simp (disch := first | assumption | omega | (simp only [LN] <;> omega)) only [row_alloc, row_set]; assumption)) only [W_block, P3, ↓reduceIte, reduceAdd, reduceEqDiff, reduceCtorEq, initFr, reduceLT, clsA, reduceLeDiff, reduceMul, reduceSub, reduceIte]
  refine callK (t68 gx) ?_
  rintro w X ⟨h1, h2, h3⟩
  simp (disch := first | assumption | omega | (simp only [LN] <;> omega) | (simp (disch := first | assumption | omega | (simp only [LN] <;> omega)) only [row_alloc, row_set]; assumption)) only [W_block, P3, ↓reduceIte, reduceAdd, reduceEqDiff, reduceCtorEq, initFr, reduceLT, clsA, reduceLeDiff, reduceMul, reduceSub, reduceIte]
  exact hq2 _ _ ⟨_, rfl, h1, kK.trans h2, fun b hb => Nat.le_trans kK.n (h3 b hb)⟩
end Go.AM.Fd

set_option linter.unusedSimpArgs false
set_option linter.unusedVariables false
set_option maxRecDepth 8000
namespace Go.AM.Fd
open Nat (reduceAdd reduceEqDiff reduceLT reduceLeDiff reduceMul reduceSub)
open Go.Proofs Go.AM.F
theorem with_p (p : Nat → Bool) (i : Nat) (hp : p i = true) : (S64 fun j => (decide (j < i) && p j) || oneP (i : Int) j) = S64 fun j => decide (j < i + 1) && p j := by
  apply s64_ext; intro j _
  by_cases e : j = i
  · subst e
    have : j < j + 1 := by omega
    simp [oneP, hp, this]
  · by_cases h : j < i
    · have : j < i + 1 := by omega
      have e2 : ¬ ((j : Int) = (i : Int)) := by omega
      simp [oneP, h, this, e2]
    · have : ¬ j < i + 1 := by omega
      have e2 : ¬ ((j : Int) = (i : Int)) := by omega
      simp [oneP, h, this, e2]
theorem with_n (p : Nat → Bool) (i : Nat) (hp : p i = false) : (S64 fun j => decide (j < i) && p j) = S64 fun j => decide (j < i + 1) && p j := by
  apply s64_ext; intro j _
  by_cases e : j = i
  · subst e; simp [hp]
  · have : decide (j < i) = decide (j < i + 1) := by by_cases h : j < i <;> simp [h] <;> omega
    rw [this]
set_option maxHeartbeats 1000000 in
theorem t31 {H : AHeap} {v : Value} {L : Ly} {p : Nat → Bool} {fn : Nat} {ca : Array Value} (hs : Sl H 6 v (mrows L)) (hl : L.r.length ≤ 64)
    (hF : ∀ (K : AHeap) (i : Nat), Keeps H K → i < L.r.length → ∃ w K', ARun Go.Proofs.Try.prog 0 fn ([.int .i64 (i : Nat), .agg (mrow L i).toArray] ++ ca.toList) K w K' ∧ w = .bool (p i) ∧ K' = K) :
    ∃ w H', ARun Go.Proofs.Try.prog 0 31 [v, .func (.func fn) #[] ca] H w H' ∧ w = S64 (fun i => decide (i < L.r.length) && p i) ∧ H' = H := by
  suffices h' : ∃ w H', ARun Go.Proofs.Try.prog 0 31 [v, .func (.func fn) #[] ca] H w H' ∧ w = S64 (fun i => decide (i < L.r.length) && p i) ∧ Keeps H H' by
    obtain ⟨_, _, a, rfl, k⟩ := h'
    exact ⟨_, _, a.gc0 k (.inr (.int _ _)), rfl, rfl⟩
  refine walk2 f31_ok f31_n ?_
  intro Q hq1 hq2
  have is0 := Sl.is hs
  have len := hs.len
  rw [mrows_len] at len
  simp (disch := first | assumption | omega | (simp only [LN] <;> omega) | (simp (disch := first | assumption | omega | (simp only [LN] <;> omega)) only [row_alloc, row_set]; assumption)) only [ f31, P3, ↓reduceIte, reduceAdd, reduceEqDiff, reduceCtorEq, initFr, reduceLT, clsA, reduceLeDiff, reduceMul, reduceSub, reduceIte, is0, len]
  rw [W_block]
  refine W_loop2 (fun q fr K => ∃ i x4 x5 x9 x10, fr = [v, .func (.func fn) #[] ca, .int .u64 0, S64 (fun j => decide (j < i) && p j), x4, x5, v, .int .i64 ((L.r.length : Nat) : Int), .int .i64 ((i : Nat) : Int), x9, x10] ∧
      Keeps H K ∧ i ≤ L.r.length ∧ q = L.r.length - i) L.r.length
    ⟨0, _, _, _, _, by simp only [Nat.not_lt_zero, decide_false, Bool.false_and]; rw [← s_zero]; rfl, Keeps.refl H, by omega, rfl⟩ ?_
  rintro Q' q fr K ⟨i, x4, x5, x9, x10, rfl, kK, hi, rfl⟩ hn' hx' hret
  by_cases hlt : i < L.r.length
  · obtain ⟨na, ra⟩ := (hs.keeps kK).at_ (by omega) (i := i) (by rw [mrows_len]; exact hlt)
    rw [mrows_at hlt] at ra
    have e0 : (0 : Int) ≤ (i : Int) := by omega
    have e1 : (i : Int) < ((L.r.length : Nat) : Int) := by omega
    have hw : IntKind.i64.wrap ((i : Int) + 1) = ((i + 1 : Nat) : Int) := by rw [wrap_i64 (by omega) (by omega)]; simp
    have kA := (Keeps.refl K).alloc (.cells true false 6 (mrow L i) 89)
    have hf := hF _ i (kK.trans kA) hlt
    unfold mrow at ra hf kA
    simp (disch := first | assumption | omega | (simp only [LN] <;> omega) | (simp (disch := first | assumption | omega | (simp only [LN] <;> omega)) only [row_alloc, row_set]; assumption)) only [W_block, P3, ↓reduceIte, reduceAdd, reduceEqDiff, reduceCtorEq, initFr, reduceLT, clsA, reduceLeDiff, reduceMul, reduceSub, reduceIte, e0, e1, len, na, ra, a_loadnvf, o_s64, o_s32, one_s64, one_s32, toList_arr, List.nil_append, List.append_nil, st_callv]
    refine callK hf ?_
    rintro _ X ⟨rfl, hX⟩
    rw [hX]
    cases hp : p i with
    | false =>
      simp (disch := first | assumption | omega | (simp only [LN] <;> omega) | (simp (disch := first | assumption | omega | (simp only [LN] <;> omega)) only [row_alloc, row_set]; assumption)) only [W_block, P3, ↓reduceIte, reduceAdd, reduceEqDiff, reduceCtorEq, initFr, reduceLT, clsA, reduceLeDiff, reduceMul, reduceSub, reduceIte, hw]
      exact hn' _ _ _ ⟨i + 1, _, _, _, _, by rw [with_n p i hp], kK.trans kA, by omega, rfl⟩ (by omega)
    | true =>
      simp (disch := first | assumption | omega | (simp only [LN] <;> omega) | (simp (disch := first | assumption | omega | (simp only [LN] <;> omega)) only [row_alloc, row_set]; assumption)) only [W_block, P3, ↓reduceIte, reduceAdd, reduceEqDiff, reduceCtorEq, initFr, reduceLT, clsA, reduceLeDiff, reduceMul, reduceSub, reduceIte]
      refine callK (t66 _ _) ?_
      rintro _ X ⟨rfl, hX⟩
      rw [hX]
      simp (disch := first | assumption | omega | (simp only [LN] <;> omega) | (simp (disch := first | assumption | omega | (simp only [LN] <;> omega)) only [row_alloc, row_set]; assumption)) only [W_block, P3, ↓reduceIte, reduceAdd, reduceEqDiff, reduceCtorEq, initFr, reduceLT, clsA, reduceLeDiff, reduceMul, reduceSub, reduceIte, hw]
      exact hn' _ _ _ ⟨i + 1, _, _, _, _, by rw [with_p p i hp], kK.trans kA, by omega, rfl⟩ (by omega)
  · have e1 : ¬ ((i : Nat) : Int) < ((L.r.length : Nat) : Int) := by omega
    have hie : i = L.r.length := by omega
    subst hie
    simp (disch := first | assumption | omega | (simp only [LN] <;> omega) | (simp (disch := first | assumption | omega | (simp only [LN] <;> omega)) only [row_alloc, row_set]; assumption)) only [W_block, P3, ↓reduceIte, reduceAdd, reduceEqDiff, reduceCtorEq, initFr, reduceLT, clsA, reduceLeDiff, reduceMul, reduceSub, reduceIte, e1]
    refine hx' _ _ _ ?_
    simp (disch := first | assumption | omega | (simp only [LN] <;> omega) | (simp (disch := first | assumption | omega | (simp only [LN] <;> omega)) only [row_alloc, row_set]; assumption)) only [W_block, P3, ↓reduceIte, reduceAdd, reduceEqDiff, reduceCtorEq, initFr, reduceLT, clsA, reduceLeDiff, reduceMul, reduceSub, reduceIte]
    exact hq2 _ _ ⟨_, rfl, rfl, kK⟩
theorem t35 {H : AHeap} (i : Value) (t : Nat) : ∃ w H', ARun Go.Proofs.Try.prog 0 35 [i, .int .u8 (t : Nat)] H w H' ∧ w = .bool (decide (t = 0)) ∧ H' = H := by
  refine walk2 f35_ok f35_n ?_
  intro Q hq1 hq2
  have e : (((t : Nat) : Int) == 0) = decide (t = 0) := by rw [Bool.eq_iff_iff]; simp
  simp (disch := first | assumption | omega | (simp only [LN] <;> omega) | (simp (disch := first | assumption | omega | (simp only [LN] <;> omega)) only [row_alloc, row_set]; assumption)) only [f35, W_block, P3, ↓reduceIte, reduceAdd, reduceEqDiff, reduceCtorEq, initFr, reduceLT, clsA, reduceLeDiff, reduceMul, reduceSub, reduceIte, e]
  exact hq2 _ _ ⟨_, rfl, rfl, rfl⟩
set_option maxHeartbeats 1000000 in
theorem t34 {H : AHeap} {b : Nat} {s : Sta} {o r : Bool} {T : Nat} (gb : H.get b = some (.cells o r 68 (stl s) T)) :
    ∃ w H', ARun Go.Proofs.Try.prog 0 34 [slc b 3 64 64, .func (.func 35) #[] #[]] H w H' ∧ w = S64 (fun i => decide (s.ti i = 0)) ∧ H' = H := by
  refine walk2 f34_ok f34_n ?_
  intro Q hq1 hq2
  simp (disch := first | assumption | omega | (simp only [LN] <;> omega) | (simp (disch := first | assumption | omega | (simp only [LN] <;> omega)) only [row_alloc, row_set]; assumption)) only [ f34, P3, ↓reduceIte, reduceAdd, reduceEqDiff, reduceCtorEq, initFr, reduceLT, clsA, reduceLeDiff, reduceMul, reduceSub, reduceIte]
  rw [W_block]
  refine W_loop2 (fun q fr K => ∃ i x4 x5 x9 x10, fr = [slc b 3 64 64, .func (.func 35) #[] #[], .int .u64 0, S64 (fun j => decide (j < i) && decide (s.ti j = 0)), x4, x5, slc b 3 64 64, .int .i64 64, .int .i64 ((i : Nat) : Int), x9, x10] ∧
      K = H ∧ i ≤ 64 ∧ q = 64 - i) 64
    ⟨0, _, _, _, _, by simp only [Nat.not_lt_zero, decide_false, Bool.false_and]; rw [← s_zero]; rfl, rfl, by omega, rfl⟩ ?_
  rintro Q' q fr K ⟨i, x4, x5, x9, x10, rfl, rfl, hi, rfl⟩ hn' hx' hret
  by_cases hlt : i < 64
  · have e0 : (0 : Int) ≤ (i : Int) := by omega
    have e1 : (i : Int) < 64 := by omega
    have e2 : (i : Int) < ((64 : Nat) : Int) := by omega
    have hw : IntKind.i64.wrap ((i : Int) + 1) = ((i + 1 : Nat) : Int) := by rw [wrap_i64 (by omega) (by omega)]; simp
    have st := stl_t s hlt
    simp (disch := first | assumption | omega | (simp only [LN] <;> omega) | (simp (disch := first | assumption | omega | (simp only [LN] <;> omega)) only [row_alloc, row_set]; assumption)) only [W_block, P3, ↓reduceIte, reduceAdd, reduceEqDiff, reduceCtorEq, initFr, reduceLT, clsA, reduceLeDiff, reduceMul, reduceSub, reduceIte, e0, e1, e2, gb, st, Int.toNat_natCast, Nat.mul_one, toList_arr, List.nil_append, List.append_nil, st_callv]
    refine callK (t35 _ _) ?_
    rintro _ X ⟨rfl, hX⟩
    rw [hX]
    cases hp : decide (s.ti i = 0) with
    | false =>
      simp (disch := first | assumption | omega | (simp only [LN] <;> omega) | (simp (disch := first | assumption | omega | (simp only [LN] <;> omega)) only [row_alloc, row_set]; assumption)) only [W_block, P3, ↓reduceIte, reduceAdd, reduceEqDiff, reduceCtorEq, initFr, reduceLT, clsA, reduceLeDiff, reduceMul, reduceSub, reduceIte, hw]
      exact hn' _ _ _ ⟨i + 1, _, _, _, _, by rw [with_n (fun j => decide (s.ti j = 0)) i hp], rfl, by omega, rfl⟩ (by omega)
    | true =>
      simp (disch := first | assumption | omega | (simp only [LN] <;> omega) | (simp (disch := first | assumption | omega | (simp only [LN] <;> omega)) only [row_alloc, row_set]; assumption)) only [W_block, P3, ↓reduceIte, reduceAdd, reduceEqDiff, reduceCtorEq, initFr, reduceLT, clsA, reduceLeDiff, reduceMul, reduceSub, reduceIte]
      refine callK (t66 _ _) ?_
      rintro _ X ⟨rfl, hX⟩
      rw [hX]
      simp (disch := first | assumption | omega | (simp only [LN] <;> omega) | (simp (disch := first | assumption | omega | (simp only [LN] <;> omega)) only [row_alloc, row_set]; assumption)) only [W_block, P3, ↓reduceIte, reduceAdd, reduceEqDiff, reduceCtorEq, initFr, reduceLT, clsA, reduceLeDiff, reduceMul, reduceSub, reduceIte, hw]
      exact hn' _ _ _ ⟨i + 1, _, _, _, _, by rw [with_p (fun j => decide (s.ti j = 0)) i hp], rfl, by omega, rfl⟩ (by omega)
  · have e1 : ¬ ((i : Nat) : Int) < 64 := by omega
    have hie : i = 64 := by omega
    subst hie
    simp (disch := first | assumption | omega | (simp only [LN] <;> omega) | (simp (disch := first | assumption | omega | (simp only [LN] <;> omega)) only [row_alloc, row_set]; assumption)) only [W_block, P3, ↓reduceIte, reduceAdd, reduceEqDiff, reduceCtorEq, initFr, reduceLT, clsA, reduceLeDiff, reduceMul, reduceSub, reduceIte, e1]
    refine hx' _ _ _ ?_
    simp (disch := first | assumption | omega | (simp only [LN] <;> omega) | (simp (disch := first | assumption | omega | (simp only [LN] <;> omega)) only [row_alloc, row_set]; assumption)) only [W_block, P3, ↓reduceIte, reduceAdd, reduceEqDiff, reduceCtorEq, initFr, reduceLT, clsA, reduceLeDiff, reduceMul, reduceSub, reduceIte]
    exact hq2 _ _ ⟨_, rfl, s64_ext fun i hi => by simp [hi], rfl⟩
structure Inp where
  oc : Nat → Bool
  nr : Nat → Bool
  rv : Nat → Bool
def inl (i : Inp) (cv : Value) : List Value := [S64 i.oc, S32 i.nr, S32 i.rv, cv]
theorem t32 {H : AHeap} {L : Ly} {i : Nat} {x : Inp} {cv : Value} {b T : Nat} {o r : Bool} (gb : H.get b = some (.cells o r 4 (inl x cv) T)) :
    ∃ w H', ARun Go.Proofs.Try.prog 0 32 [.int .i64 (i : Nat), .agg (mrow L i).toArray, ptr b 0] H w H' ∧ w = .bool (none64 fun j => trP (ro L i) j && x.oc j) ∧ H' = H := by
  suffices h' : ∃ w H', ARun Go.Proofs.Try.prog 0 32 [.int .i64 (i : Nat), .agg (mrow L i).toArray, ptr b 0] H w H' ∧ w = .bool (none64 fun j => trP (ro L i) j && x.oc j) ∧ Keeps H H' by
    obtain ⟨_, _, a, rfl, k⟩ := h'
    exact ⟨_, _, a.gc0 k (.inr (.bool _)), rfl, rfl⟩
  refine walk2 f32_ok f32_n ?_
  intro Q hq1 hq2
  have kA := (Keeps.refl H).alloc (.cells true false 6 (mrow L i) 89)
  have gA := kA.at_ gb
  have hbl := AHeap.get_lt gb
  unfold mrow at kA gA ⊢
  unfold inl at gb gA
  simp (disch := first | assumption | omega | (simp only [LN] <;> omega) | (simp (disch := first | assumption | omega | (simp only [LN] <;> omega)) only [row_alloc, row_set]; assumption)) only [f32, W_block, P3, ↓reduceIte, reduceAdd, reduceEqDiff, reduceCtorEq, initFr, reduceLT, clsA, reduceLeDiff, reduceMul, reduceSub, reduceIte, gA, gb, hbl, o_s64, o_s32, one_s64, one_s32, s_and, s_eq0]
  exact hq2 _ _ ⟨_, rfl, rfl, kA⟩
theorem t33 {H : AHeap} {L : Ly} {i : Nat} {x : Inp} {cv : Value} {b T : Nat} {o r : Bool} (gb : H.get b = some (.cells o r 4 (inl x cv) T)) :
    ∃ w H', ARun Go.Proofs.Try.prog 0 33 [.int .i64 (i : Nat), .agg (mrow L i).toArray, ptr b 0] H w H' ∧ w = .bool (!none64 fun j => fiP (ro L i) j && x.oc j) ∧ H' = H := by
  suffices h' : ∃ w H', ARun Go.Proofs.Try.prog 0 33 [.int .i64 (i : Nat), .agg (mrow L i).toArray, ptr b 0] H w H' ∧ w = .bool (!none64 fun j => fiP (ro L i) j && x.oc j) ∧ Keeps H H' by
    obtain ⟨_, _, a, rfl, k⟩ := h'
    exact ⟨_, _, a.gc0 k (.inr (.bool _)), rfl, rfl⟩
  refine walk2 f33_ok f33_n ?_
  intro Q hq1 hq2
  have kA := (Keeps.refl H).alloc (.cells true false 6 (mrow L i) 89)
  have gA := kA.at_ gb
  have hbl := AHeap.get_lt gb
  unfold mrow at kA gA ⊢
  unfold inl at gb gA
  simp (disch := first | assumption | omega | (simp only [LN] <;> omega) | (simp (disch := first | assumption | omega | (simp only [LN] <;> omega)) only [row_alloc, row_set]; assumption)) only [f33, W_block, P3, ↓reduceIte, reduceAdd, reduceEqDiff, reduceCtorEq, initFr, reduceLT, clsA, reduceLeDiff, reduceMul, reduceSub, reduceIte, gA, gb, hbl, o_s64, o_s32, one_s64, one_s32, s_and, s_ne0]
  exact hq2 _ _ ⟨_, rfl, rfl, kA⟩
def sideN (x : Inp) (p : Nat) : Bool := x.nr p && !x.rv p
def sideR (x : Inp) (p : Nat) : Bool := x.rv p && !x.nr p
theorem t38 {H : AHeap} {L : Ly} {i : Nat} {f g : Nat → Bool} {b c T T' : Nat} {o r o' r' : Bool} (gb : H.get b = some (.cells o r 1 [S32 f] T)) (gc : H.get c = some (.cells o' r' 1 [S32 g] T')) :
    ∃ w H', ARun Go.Proofs.Try.prog 0 38 [.int .i64 (i : Nat), .agg (mrow L i).toArray, ptr b 0, ptr c 0] H w H' ∧ w = .bool ((none32 fun p => nor L i p && !f p) && (none32 fun p => rev L i p && !g p)) ∧ H' = H := by
  suffices h' : ∃ w H', ARun Go.Proofs.Try.prog 0 38 [.int .i64 (i : Nat), .agg (mrow L i).toArray, ptr b 0, ptr c 0] H w H' ∧ w = .bool ((none32 fun p => nor L i p && !f p) && (none32 fun p => rev L i p && !g p)) ∧ Keeps H H' by
    obtain ⟨_, _, a, rfl, k⟩ := h'
    exact ⟨_, _, a.gc0 k (.inr (.bool _)), rfl, rfl⟩
  refine walk2 f38_ok f38_n ?_
  intro Q hq1 hq2
  have kA := (Keeps.refl H).alloc (.cells true false 6 (mrow L i) 89)
  have gA := kA.at_ gb
  have gB := kA.at_ gc
  have hbl := AHeap.get_lt gb
  have hcl := AHeap.get_lt gc
  unfold nor rev at hq1 hq2
  unfold mrow at kA gA gB ⊢
  cases h1 : (none32 fun p => ndP (nds (ro L i)) false p && !f p) with
  | false =>
    rw [h1] at hq1 hq2
    simp (disch := first | assumption | omega | (simp only [LN] <;> omega) | (simp (disch := first | assumption | omega | (simp only [LN] <;> omega)) only [row_alloc, row_set]; assumption)) only [f38, W_block, P3, ↓reduceIte, reduceAdd, reduceEqDiff, reduceCtorEq, initFr, reduceLT, clsA, reduceLeDiff, reduceMul, reduceSub, reduceIte, gA, gB, gb, gc, hbl, hcl, o_s64, o_s32, one_s64, one_s32, p_andn, p_eq0, h1]
    exact hq2 _ _ ⟨_, rfl, rfl, kA⟩
  | true =>
    rw [h1] at hq1 hq2
    simp (disch := first | assumption | omega | (simp only [LN] <;> omega) | (simp (disch := first | assumption | omega | (simp only [LN] <;> omega)) only [row_alloc, row_set]; assumption)) only [f38, W_block, P3, ↓reduceIte, reduceAdd, reduceEqDiff, reduceCtorEq, initFr, reduceLT, clsA, reduceLeDiff, reduceMul, reduceSub, reduceIte, gA, gB, gb, gc, hbl, hcl, o_s64, o_s32, one_s64, one_s32, p_andn, p_eq0, h1]
    exact hq2 _ _ ⟨_, rfl, rfl, kA⟩
theorem t37 {H : AHeap} {x : Inp} {cv : Value} (hc : isS cv = true) :
    ∃ w H', ARun Go.Proofs.Try.prog 0 37 [.agg (inl x cv).toArray] H w H' ∧ w = .tuple #[S32 (sideN x), S32 (sideR x)] ∧ H' = H := by
  suffices h' : ∃ w H', ARun Go.Proofs.Try.prog 0 37 [.agg (inl x cv).toArray] H w H' ∧ w = .tuple #[S32 (sideN x), S32 (sideR x)] ∧ Keeps H H' by
    obtain ⟨_, _, a, rfl, k⟩ := h'
    exact ⟨_, _, a.gc0 k (.inr (.tuple _ _ rfl (fun i a b => by
      match i, a with
      | 0, _ => exact .int _ _
      | 1, _ => exact .int _ _))), rfl, rfl⟩
  refine walk2 f37_ok f37_n ?_
  intro Q hq1 hq2
  have kA := (Keeps.refl H).alloc (.cells true false 4 (inl x cv) 43)
  have o1 := one_isS hc
  unfold inl at kA ⊢
  simp (disch := first | assumption | omega | (simp only [LN] <;> omega) | (simp (disch := first | assumption | omega | (simp only [LN] <;> omega)) only [row_alloc, row_set]; assumption)) only [f37, W_block, P3, ↓reduceIte, reduceAdd, reduceEqDiff, reduceCtorEq, initFr, reduceLT, clsA, reduceLeDiff, reduceMul, reduceSub, reduceIte, o1, o_s64, o_s32, one_s64, one_s32, p_andn]
  exact hq2 _ _ ⟨_, rfl, rfl, kA⟩
end Go.AM.Fd

set_option maxRecDepth 100000
set_option maxHeartbeats 0
namespace Go.AM.F
def Z68H : List Value := [(.int .u64 0), (.int .u64 0), (.int .u64 0)] ++ List.replicate 64 (.int .u8 0) ++ [(.int .u32 0)]
def O68H : List Nat := List.replicate 68 1
def zclH : TypeId → List Value
 | 32 => Z68H
 | _ => []
def zvlH : TypeId → Value
 | _ => undef
def zklH : TypeId → List Nat
 | 32 => O68H
 | _ => []
def zrlH : Nat → TypeId → List Value
 | _, _ => []
noncomputable def f10 : AFunc := by
 refine (fun (_ : Cz zclH zvlH zklH zrlH Go.Proofs.Try.prog 0 [0, 1, 2, 3, 4, 5, 6, 39, 45] 10 ?a) => ?a) ?h
 case h =>
 intro zc zv zk zr hc hv hk hr
 conv => lhs; cbv; try simp only [hc, hv, hk, hr, zclH, zvlH, zklH, zrlH]
theorem f10_ok : compF Go.Proofs.Try.prog 0 [0, 1, 2, 3, 4, 5, 6, 39, 45] 10 = some f10 := by kernel_rfl
theorem f10_n : argsOK Go.Proofs.Try.prog 10 2 = true := by kernel_rfl
noncomputable def f12 : AFunc := by
 refine (fun (_ : Cz zclH zvlH zklH zrlH Go.Proofs.Try.prog 0 [0, 1, 2, 3, 4, 5, 6, 7, 8, 13, 18, 31, 56, 66, 87] 12 ?a) => ?a) ?h
 case h =>
 intro zc zv zk zr hc hv hk hr
 conv => lhs; cbv; try simp only [hc, hv, hk, hr, zclH, zvlH, zklH, zrlH]
theorem f12_ok : compF Go.Proofs.Try.prog 0 [0, 1, 2, 3, 4, 5, 6, 7, 8, 13, 18, 31, 56, 66, 87] 12 = some f12 := by kernel_rfl
theorem f12_n : argsOK Go.Proofs.Try.prog 12 2 = true := by kernel_rfl
noncomputable def f23 : AFunc := by
 refine (fun (_ : Cz zclH zvlH zklH zrlH Go.Proofs.Try.prog 0 [0, 2, 3, 4, 11] 23 ?a) => ?a) ?h
 case h =>
 intro zc zv zk zr hc hv hk hr
 conv => lhs; cbv; try simp only [hc, hv, hk, hr, zclH, zvlH, zklH, zrlH]
theorem f23_ok : compF Go.Proofs.Try.prog 0 [0, 2, 3, 4, 11] 23 = some f23 := by kernel_rfl
theorem f23_n : argsOK Go.Proofs.Try.prog 23 1 = true := by kernel_rfl
noncomputable def f24 : AFunc := by
 refine (fun (_ : Cz zclH zvlH zklH zrlH Go.Proofs.Try.prog 0 [0, 1, 4] 24 ?a) => ?a) ?h
 case h =>
 intro zc zv zk zr hc hv hk hr
 conv => lhs; cbv; try simp only [hc, hv, hk, hr, zclH, zvlH, zklH, zrlH]
theorem f24_ok : compF Go.Proofs.Try.prog 0 [0, 1, 4] 24 = some f24 := by kernel_rfl
theorem f24_n : argsOK Go.Proofs.Try.prog 24 2 = true := by kernel_rfl
noncomputable def f27 : AFunc := by
 refine (fun (_ : Cz zclH zvlH zklH zrlH Go.Proofs.Try.prog 0 [0, 1, 2, 3, 4, 5, 6, 7, 8, 9, 10, 11, 12, 13, 18, 26, 34, 39, 82] 27 ?a) => ?a) ?h
 case h =>
 intro zc zv zk zr hc hv hk hr
 conv => lhs; cbv; try simp only [hc, hv, hk, hr, zclH, zvlH, zklH, zrlH]
theorem f27_ok : compF Go.Proofs.Try.prog 0 [0, 1, 2, 3, 4, 5, 6, 7, 8, 9, 10, 11, 12, 13, 18, 26, 34, 39, 82] 27 = some f27 := by kernel_rfl
theorem f27_n : argsOK Go.Proofs.Try.prog 27 3 = true := by kernel_rfl
noncomputable def f28 : AFunc := by
 refine (fun (_ : Cz zclH zvlH zklH zrlH Go.Proofs.Try.prog 0 [0, 1, 2, 3] 28 ?a) => ?a) ?h
 case h =>
 intro zc zv zk zr hc hv hk hr
 conv => lhs; cbv; try simp only [hc, hv, hk, hr, zclH, zvlH, zklH, zrlH]
theorem f28_ok : compF Go.Proofs.Try.prog 0 [0, 1, 2, 3] 28 = some f28 := by kernel_rfl
theorem f28_n : argsOK Go.Proofs.Try.prog 28 1 = true := by kernel_rfl
noncomputable def f29 : AFunc := by
 refine (fun (_ : Cz zclH zvlH zklH zrlH Go.Proofs.Try.prog 0 [0, 1, 2, 4] 29 ?a) => ?a) ?h
 case h =>
 intro zc zv zk zr hc hv hk hr
 conv => lhs; cbv; try simp only [hc, hv, hk, hr, zclH, zvlH, zklH, zrlH]
theorem f29_ok : compF Go.Proofs.Try.prog 0 [0, 1, 2, 4] 29 = some f29 := by kernel_rfl
theorem f29_n : argsOK Go.Proofs.Try.prog 29 2 = true := by kernel_rfl
noncomputable def f56 : AFunc := by
 refine (fun (_ : Cz zclH zvlH zklH zrlH Go.Proofs.Try.prog 0 [0, 1, 4, 15] 56 ?a) => ?a) ?h
 case h =>
 intro zc zv zk zr hc hv hk hr
 conv => lhs; cbv; try simp only [hc, hv, hk, hr, zclH, zvlH, zklH, zrlH]
theorem f56_ok : compF Go.Proofs.Try.prog 0 [0, 1, 4, 15] 56 = some f56 := by kernel_rfl
theorem f56_n : argsOK Go.Proofs.Try.prog 56 2 = true := by kernel_rfl
noncomputable def f57 : AFunc := by
 refine (fun (_ : Cz zclH zvlH zklH zrlH Go.Proofs.Try.prog 0 [0, 2, 3, 4, 7] 57 ?a) => ?a) ?h
 case h =>
 intro zc zv zk zr hc hv hk hr
 conv => lhs; cbv; try simp only [hc, hv, hk, hr, zclH, zvlH, zklH, zrlH]
theorem f57_ok : compF Go.Proofs.Try.prog 0 [0, 2, 3, 4, 7] 57 = some f57 := by kernel_rfl
theorem f57_n : argsOK Go.Proofs.Try.prog 57 1 = true := by kernel_rfl
noncomputable def f63 : AFunc := by
 refine (fun (_ : Cz zclH zvlH zklH zrlH Go.Proofs.Try.prog 0 [0, 1, 2, 3] 63 ?a) => ?a) ?h
 case h =>
 intro zc zv zk zr hc hv hk hr
 conv => lhs; cbv; try simp only [hc, hv, hk, hr, zclH, zvlH, zklH, zrlH]
theorem f63_ok : compF Go.Proofs.Try.prog 0 [0, 1, 2, 3] 63 = some f63 := by kernel_rfl
theorem f63_n : argsOK Go.Proofs.Try.prog 63 1 = true := by kernel_rfl
noncomputable def f64 : AFunc := by
 refine (fun (_ : Cz zclH zvlH zklH zrlH Go.Proofs.Try.prog 0 [0, 1, 4, 5, 9, 17] 64 ?a) => ?a) ?h
 case h =>
 intro zc zv zk zr hc hv hk hr
 conv => lhs; cbv; try simp only [hc, hv, hk, hr, zclH, zvlH, zklH, zrlH]
theorem f64_ok : compF Go.Proofs.Try.prog 0 [0, 1, 4, 5, 9, 17] 64 = some f64 := by kernel_rfl
theorem f64_n : argsOK Go.Proofs.Try.prog 64 2 = true := by kernel_rfl
noncomputable def f65 : AFunc := by
 refine (fun (_ : Cz zclH zvlH zklH zrlH Go.Proofs.Try.prog 0 [0, 1, 2, 4, 5, 6, 12, 28, 35] 65 ?a) => ?a) ?h
 case h =>
 intro zc zv zk zr hc hv hk hr
 conv => lhs; cbv; try simp only [hc, hv, hk, hr, zclH, zvlH, zklH, zrlH]
theorem f65_ok : compF Go.Proofs.Try.prog 0 [0, 1, 2, 4, 5, 6, 12, 28, 35] 65 = some f65 := by kernel_rfl
theorem f65_n : argsOK Go.Proofs.Try.prog 65 2 = true := by kernel_rfl
end Go.AM.F

set_option linter.unusedSimpArgs false
set_option linter.unusedVariables false
set_option maxRecDepth 8000
namespace Go.AM.Fd
open Nat (reduceAdd reduceEqDiff reduceLT reduceLeDiff reduceMul reduceSub)
open Go.Proofs Go.AM.F
theorem t57 {H : AHeap} {n : Nat} (hn : n < 64) : ∃ w H', ARun Go.Proofs.Try.prog 0 57 [.int .i64 (n : Nat)] H w H' ∧ w = .int .u64 ((2 ^ n : Nat) : Int) ∧ H' = H := by
  refine walk2 f57_ok f57_n ?_
  intro Q hq1 hq2
  simp (disch := first | assumption | omega | (simp only [LN] <;> omega) | (simp (disch := first | assumption | omega | (simp only [LN] <;> omega)) only [row_alloc, row_set]; assumption)) only [ f57, P3, ↓reduceIte, reduceAdd, reduceEqDiff, reduceCtorEq, initFr, reduceLT, clsA, reduceLeDiff, reduceMul, reduceSub, reduceIte]
  rw [W_block]
  refine W_loop2 (fun q fr K => ∃ i x4, fr = [.int .i64 ((n : Nat) : Int), .int .u64 0, .int .u64 ((2 ^ i : Nat) : Int), .int .i64 ((i : Nat) : Int), x4] ∧ K = H ∧ i ≤ n ∧ q = n - i) n
    ⟨0, _, rfl, rfl, by omega, rfl⟩ ?_
  rintro Q' q fr K ⟨i, x4, rfl, rfl, hi, rfl⟩ hn' hx' hret
  by_cases hlt : i < n
  · have e1 : (i : Int) < ((n : Nat) : Int) := by omega
    have hw : IntKind.i64.wrap ((i : Int) + 1) = ((i + 1 : Nat) : Int) := by rw [wrap_i64 (by omega) (by omega)]; simp
    have hp : 2 ^ (i + 1) < U := pow_u (by omega)
    have hm : IntKind.u64.wrap (((2 ^ i : Nat) : Int) * 2) = ((2 ^ (i + 1) : Nat) : Int) := by
      have : ((2 ^ i : Nat) : Int) * 2 = ((2 ^ (i + 1) : Nat) : Int) := by rw [Nat.pow_succ]; simp
      rw [this, w64 _ hp]
    simp (disch := first | assumption | omega | (simp only [LN] <;> omega) | (simp (disch := first | assumption | omega | (simp only [LN] <;> omega)) only [row_alloc, row_set]; assumption)) only [W_block, P3, ↓reduceIte, reduceAdd, reduceEqDiff, reduceCtorEq, initFr, reduceLT, clsA, reduceLeDiff, reduceMul, reduceSub, reduceIte, e1, hm, hw]
    exact hn' _ _ _ ⟨i + 1, _, rfl, rfl, by omega, rfl⟩ (by omega)
  · have e1 : ¬ ((i : Nat) : Int) < ((n : Nat) : Int) := by omega
    have hie : i = n := by omega
    subst hie
    simp (disch := first | assumption | omega | (simp only [LN] <;> omega) | (simp (disch := first | assumption | omega | (simp only [LN] <;> omega)) only [row_alloc, row_set]; assumption)) only [W_block, P3, ↓reduceIte, reduceAdd, reduceEqDiff, reduceCtorEq, initFr, reduceLT, clsA, reduceLeDiff, reduceMul, reduceSub, reduceIte, e1]
    refine hx' _ _ _ ?_
    simp (disch := first | assumption | omega | (simp only [LN] <;> omega) | (simp (disch := first | assumption | omega | (simp only [LN] <;> omega)) only [row_alloc, row_set]; assumption)) only [W_block, P3, ↓reduceIte, reduceAdd, reduceEqDiff, reduceCtorEq, initFr, reduceLT, clsA, reduceLeDiff, reduceMul, reduceSub, reduceIte]
    exact hq2 _ _ ⟨_, rfl, rfl, rfl⟩
theorem s_quo (f : Nat → Bool) (n : Nat) : binA .quo (S64 f) (.int .u64 ((2 ^ n : Nat) : Int)) = some (S64 fun i => decide (i + n < 64) && f (i + n)) := by
  unfold S64
  have hp : 0 < 2 ^ n := Nat.pow_pos (by omega)
  rw [b_quo _ _ _ (by omega)]
  have : Int.tdiv ((bitsN f 64 : Nat) : Int) ((2 ^ n : Nat) : Int) = ((bitsN f 64 / 2 ^ n : Nat) : Int) := rfl
  rw [this, bit_shr, w64 _ (bitsN_lt _ _)]
theorem s_rem2 (f : Nat → Bool) : binA .rem (S64 f) (.int .u64 2) = some (I1 (f 0)) := by
  unfold S64 I1
  rw [b_rem _ _ _ (by omega)]
  have h1 : Int.tmod ((bitsN f 64 : Nat) : Int) 2 = ((bitsN f 64 % 2 : Nat) : Int) := rfl
  have h2 := bitsN_t f 0 64
  rw [Nat.testBit_zero] at h2
  rw [h1]
  cases hf : f 0 with
  | true => rw [hf] at h2; simp at h2; rw [h2]; rfl
  | false => rw [hf] at h2; simp at h2; rw [h2]; rfl
theorem t24 {H : AHeap} (f : Nat → Bool) (n : Int) : ∃ w H', ARun Go.Proofs.Try.prog 0 24 [S64 f, .int .i64 n] H w H' ∧ w = .bool (hasB f n) ∧ H' = H := by
  refine walk2 f24_ok f24_n ?_
  intro Q hq1 hq2
  unfold hasB at hq1 hq2
  by_cases h1 : 0 ≤ n
  · by_cases h2 : n ≤ 63
    · obtain ⟨m, rfl⟩ : ∃ m : Nat, n = (m : Int) := ⟨n.toNat, by omega⟩
      have h3 : m < 64 := by omega
      simp (disch := first | assumption | omega | (simp only [LN] <;> omega) | (simp (disch := first | assumption | omega | (simp only [LN] <;> omega)) only [row_alloc, row_set]; assumption)) only [f24, W_block, P3, ↓reduceIte, reduceAdd, reduceEqDiff, reduceCtorEq, initFr, reduceLT, clsA, reduceLeDiff, reduceMul, reduceSub, reduceIte, h1, h2]
      refine callK (t57 h3) ?_
      rintro _ X ⟨rfl, hX⟩
      rw [hX]
      simp (disch := first | assumption | omega | (simp only [LN] <;> omega) | (simp (disch := first | assumption | omega | (simp only [LN] <;> omega)) only [row_alloc, row_set]; assumption)) only [W_block, P3, ↓reduceIte, reduceAdd, reduceEqDiff, reduceCtorEq, initFr, reduceLT, clsA, reduceLeDiff, reduceMul, reduceSub, reduceIte, s_quo, s_rem2, i1_eq]
      refine hq2 _ _ ⟨.bool _, rfl, ?_, rfl⟩
      have h4 : (m : Int) < 64 := by omega
      simp; intro _; omega
    · have h4 : ¬ n < 64 := by omega
      simp (disch := first | assumption | omega | (simp only [LN] <;> omega) | (simp (disch := first | assumption | omega | (simp only [LN] <;> omega)) only [row_alloc, row_set]; assumption)) only [f24, W_block, P3, ↓reduceIte, reduceAdd, reduceEqDiff, reduceCtorEq, initFr, reduceLT, clsA, reduceLeDiff, reduceMul, reduceSub, reduceIte, h1, h2]
      exact hq2 _ _ ⟨.bool _, rfl, by simp [h4], rfl⟩
  · simp (disch := first | assumption | omega | (simp only [LN] <;> omega) | (simp (disch := first | assumption | omega | (simp only [LN] <;> omega)) only [row_alloc, row_set]; assumption)) only [f24, W_block, P3, ↓reduceIte, reduceAdd, reduceEqDiff, reduceCtorEq, initFr, reduceLT, clsA, reduceLeDiff, reduceMul, reduceSub, reduceIte, h1]
    exact hq2 _ _ ⟨.bool _, rfl, by simp [h1], rfl⟩
theorem add_or {a b : Nat} (ha : a < U) (hb : b < U) (h : a &&& b = 0) : a + b = a ||| b ∧ a + b < U := by
  have hh : BitVec.ofNat 64 a &&& BitVec.ofNat 64 b = 0#64 := by
    apply BitVec.eq_of_toNat_eq
    rw [BitVec.toNat_and, BitVec.toNat_ofNat, BitVec.toNat_ofNat, Nat.mod_eq_of_lt ha, Nat.mod_eq_of_lt hb, h]; rfl
  have h2 := BitVec.add_eq_or_of_and_eq_zero _ _ hh
  have ho : a ||| b < U := or_u ha hb
  have h3 := congrArg BitVec.toNat h2
  rw [BitVec.toNat_add, BitVec.toNat_or, BitVec.toNat_ofNat, BitVec.toNat_ofNat, Nat.mod_eq_of_lt ha, Nat.mod_eq_of_lt hb] at h3
  have h5 : a + b = a ||| b + 0 := by
    rcases Nat.lt_or_ge (a + b) U with hlt | hge
    · rw [Nat.mod_eq_of_lt hlt] at h3; simpa using h3
    · exfalso
      have hor : a ≤ a ||| b := Nat.left_le_or
      have : (a + b) % 2 ^ 64 = a + b - U := by
        have hu : (2 : Nat) ^ 64 = U := rfl
        rw [hu, Nat.mod_eq_sub_mod hge, Nat.mod_eq_of_lt (by omega)]
      omega
  simp only [Nat.add_zero] at h5
  exact ⟨h5, by rw [h5]; exact ho⟩
theorem s_addp (f : Nat → Bool) {n : Nat} (hn : n < 64) (hf : f n = false) : binA .add (S64 f) (.int .u64 ((2 ^ n : Nat) : Int)) = some (S64 fun i => f i || oneP (n : Nat) i) := by
  unfold S64
  have h0 : bitsN f 64 &&& 2 ^ n = 0 := by
    rw [bit_pow hn, bit_and, ← bit_0 64]
    apply bits_ext; intro m _
    by_cases e : m = n
    · subst e; simp [hf]
    · simp [e]
  obtain ⟨h1, h2⟩ := add_or (bits_u f (by omega)) (pow_u hn) h0
  have e : ((bitsN f 64 : Nat) : Int) + ((2 ^ n : Nat) : Int) = ((bitsN f 64 + 2 ^ n : Nat) : Int) := by simp
  rw [b_add, e, w64 _ h2, h1, bit_pow hn, bit_or]
  congr 4
  congr 1
  funext i
  simp only [oneP, Int.ofNat_inj]
theorem t56 {H : AHeap} (f : Nat → Bool) (n : Int) : ∃ w H', ARun Go.Proofs.Try.prog 0 56 [S64 f, .int .i64 n] H w H' ∧ w = S64 (fun i => f i || oneP n i) ∧ H' = H := by
  refine walk2 f56_ok f56_n ?_
  intro Q hq1 hq2
  by_cases h1 : n < 0
  · simp (disch := first | assumption | omega | (simp only [LN] <;> omega) | (simp (disch := first | assumption | omega | (simp only [LN] <;> omega)) only [row_alloc, row_set]; assumption)) only [f56, W_block, P3, ↓reduceIte, reduceAdd, reduceEqDiff, reduceCtorEq, initFr, reduceLT, clsA, reduceLeDiff, reduceMul, reduceSub, reduceIte, h1]
    refine hq2 _ _ ⟨S64 _, rfl, ?_, rfl⟩
    apply s64_ext; intro i hi
    have : ¬ (i : Int) = n := by omega
    simp [oneP, this]
  · by_cases h2 : 63 < n
    · simp (disch := first | assumption | omega | (simp only [LN] <;> omega) | (simp (disch := first | assumption | omega | (simp only [LN] <;> omega)) only [row_alloc, row_set]; assumption)) only [f56, W_block, P3, ↓reduceIte, reduceAdd, reduceEqDiff, reduceCtorEq, initFr, reduceLT, clsA, reduceLeDiff, reduceMul, reduceSub, reduceIte, h1, h2]
      refine hq2 _ _ ⟨S64 _, rfl, ?_, rfl⟩
      apply s64_ext; intro i hi
      have : ¬ (i : Int) = n := by omega
      simp [oneP, this]
    · obtain ⟨m, rfl⟩ : ∃ m : Nat, n = (m : Int) := ⟨n.toNat, by omega⟩
      have h3 : m < 64 := by omega
      simp (disch := first | assumption | omega | (simp only [LN] <;> omega) | (simp (disch := first | assumption | omega | (simp only [LN] <;> omega)) only [row_alloc, row_set]; assumption)) only [f56, W_block, P3, ↓reduceIte, reduceAdd, reduceEqDiff, reduceCtorEq, initFr, reduceLT, clsA, reduceLeDiff, reduceMul, reduceSub, reduceIte, h1, h2]
      refine callK (t24 _ _) ?_
      rintro _ X ⟨rfl, hX⟩
      rw [hX, has_nat _ h3]
      cases hf : f m with
      | true =>
        simp (disch := first | assumption | omega | (simp only [LN] <;> omega) | (simp (disch := first | assumption | omega | (simp only [LN] <;> omega)) only [row_alloc, row_set]; assumption)) only [W_block, P3, ↓reduceIte, reduceAdd, reduceEqDiff, reduceCtorEq, initFr, reduceLT, clsA, reduceLeDiff, reduceMul, reduceSub, reduceIte]
        refine hq2 _ _ ⟨S64 _, rfl, ?_, rfl⟩
        apply s64_ext; intro i hi
        by_cases e : i = m
        · subst e; simp [hf]
        · have : ¬ (i : Int) = (m : Int) := by omega
          simp [oneP, this]
      | false =>
        have sa := s_addp f h3 hf
        simp (disch := first | assumption | omega | (simp only [LN] <;> omega) | (simp (disch := first | assumption | omega | (simp only [LN] <;> omega)) only [row_alloc, row_set]; assumption)) only [W_block, P3, ↓reduceIte, reduceAdd, reduceEqDiff, reduceCtorEq, initFr, reduceLT, clsA, reduceLeDiff, reduceMul, reduceSub, reduceIte]
        refine callK (t57 h3) ?_
        rintro _ X ⟨rfl, hX⟩
        rw [hX]
        simp (disch := first | assumption | omega | (simp only [LN] <;> omega) | (simp (disch := first | assumption | omega | (simp only [LN] <;> omega)) only [row_alloc, row_set]; assumption)) only [W_block, P3, ↓reduceIte, reduceAdd, reduceEqDiff, reduceCtorEq, initFr, reduceLT, clsA, reduceLeDiff, reduceMul, reduceSub, reduceIte, sa]
        exact hq2 _ _ ⟨_, rfl, rfl, rfl⟩
theorem t23 {H : AHeap} (n : Int) : ∃ w H', ARun Go.Proofs.Try.prog 0 23 [.int .i64 n] H w H' ∧ w = S64 (lowP n) ∧ H' = H := by
  refine walk2 f23_ok f23_n ?_
  intro Q hq1 hq2
  simp (disch := first | assumption | omega | (simp only [LN] <;> omega) | (simp (disch := first | assumption | omega | (simp only [LN] <;> omega)) only [row_alloc, row_set]; assumption)) only [ f23, P3, ↓reduceIte, reduceAdd, reduceEqDiff, reduceCtorEq, initFr, reduceLT, clsA, reduceLeDiff, reduceMul, reduceSub, reduceIte]
  rw [W_block]
  refine W_loop2 (fun q fr K => ∃ i x4, fr = [.int .i64 n, .int .u64 0, S64 (lowP (i : Nat)), .int .i64 ((i : Nat) : Int), x4] ∧ K = H ∧ i ≤ 64 ∧ (i = 0 ∨ (i : Int) ≤ n) ∧ q = 64 - i) 64
    ⟨0, undef, by rw [show S64 (lowP ((0 : Nat) : Int)) = .int .u64 0 from by rw [s_zero]; exact s64_ext fun i _ => by simp [lowP]]; rfl, rfl, by omega, .inl rfl, rfl⟩ ?_
  rintro Q' q fr K ⟨i, x4, rfl, rfl, hi, hin, rfl⟩ hn' hx' hret
  by_cases h1 : (i : Int) < n
  · by_cases h2 : i < 64
    · have e2 : (i : Int) < 64 := by omega
      have hw : IntKind.i64.wrap ((i : Int) + 1) = ((i + 1 : Nat) : Int) := by rw [wrap_i64 (by omega) (by omega)]; simp
      simp (disch := first | assumption | omega | (simp only [LN] <;> omega) | (simp (disch := first | assumption | omega | (simp only [LN] <;> omega)) only [row_alloc, row_set]; assumption)) only [W_block, P3, ↓reduceIte, reduceAdd, reduceEqDiff, reduceCtorEq, initFr, reduceLT, clsA, reduceLeDiff, reduceMul, reduceSub, reduceIte, h1, e2]
      refine callK (t56 _ _) ?_
      rintro _ X ⟨rfl, hX⟩
      rw [hX]
      simp (disch := first | assumption | omega | (simp only [LN] <;> omega) | (simp (disch := first | assumption | omega | (simp only [LN] <;> omega)) only [row_alloc, row_set]; assumption)) only [W_block, P3, ↓reduceIte, reduceAdd, reduceEqDiff, reduceCtorEq, initFr, reduceLT, clsA, reduceLeDiff, reduceMul, reduceSub, reduceIte, hw]
      refine hn' _ _ _ ⟨i + 1, .bool true, ?_, rfl, by omega, .inr (by omega), rfl⟩ (by omega)
      congr 3
      apply s64_ext; intro j _
      by_cases e : j < i
      · have a1 : (j : Int) < (i : Int) := by omega
        have a2 : (j : Int) < ((i + 1 : Nat) : Int) := by omega
        simp [lowP, oneP, a1, a2]; omega
      · by_cases e3 : j = i
        · subst e3; simp [lowP, oneP]; omega
        · have a1 : ¬ (j : Int) < (i : Int) := by omega
          have a2 : ¬ (j : Int) < ((i + 1 : Nat) : Int) := by omega
          have a3 : ¬ (j : Int) = (i : Int) := by omega
          simp [lowP, oneP, a1, a2, a3]; omega
    · have e2 : ¬ (i : Int) < 64 := by omega
      simp (disch := first | assumption | omega | (simp only [LN] <;> omega) | (simp (disch := first | assumption | omega | (simp only [LN] <;> omega)) only [row_alloc, row_set]; assumption)) only [W_block, P3, ↓reduceIte, reduceAdd, reduceEqDiff, reduceCtorEq, initFr, reduceLT, clsA, reduceLeDiff, reduceMul, reduceSub, reduceIte, h1, e2]
      refine hx' _ _ _ ?_
      simp (disch := first | assumption | omega | (simp only [LN] <;> omega) | (simp (disch := first | assumption | omega | (simp only [LN] <;> omega)) only [row_alloc, row_set]; assumption)) only [W_block, P3, ↓reduceIte, reduceAdd, reduceEqDiff, reduceCtorEq, initFr, reduceLT, clsA, reduceLeDiff, reduceMul, reduceSub, reduceIte]
      refine hq2 _ _ ⟨S64 _, rfl, ?_, rfl⟩
      apply s64_ext; intro j hj
      have a1 : (j : Int) < (i : Int) := by omega
      have a2 : (j : Int) < n := by omega
      simp [lowP, a1, a2]
  · simp (disch := first | assumption | omega | (simp only [LN] <;> omega) | (simp (disch := first | assumption | omega | (simp only [LN] <;> omega)) only [row_alloc, row_set]; assumption)) only [W_block, P3, ↓reduceIte, reduceAdd, reduceEqDiff, reduceCtorEq, initFr, reduceLT, clsA, reduceLeDiff, reduceMul, reduceSub, reduceIte, h1]
    refine hx' _ _ _ ?_
    simp (disch := first | assumption | omega | (simp only [LN] <;> omega) | (simp (disch := first | assumption | omega | (simp only [LN] <;> omega)) only [row_alloc, row_set]; assumption)) only [W_block, P3, ↓reduceIte, reduceAdd, reduceEqDiff, reduceCtorEq, initFr, reduceLT, clsA, reduceLeDiff, reduceMul, reduceSub, reduceIte]
    refine hq2 _ _ ⟨S64 _, rfl, ?_, rfl⟩
    apply s64_ext; intro j hj
    simp only [lowP]
    rw [decide_eq_decide]
    omega
end Go.AM.Fd
