/- Part of the proof. -/
import Derived.Test.YtkhnmniiopodoaaGIR05
set_option linter.unusedSimpArgs false
set_option linter.unusedVariables false
set_option linter.unusedSimpArgs false
set_option linter.unusedVariables false
set_option maxRecDepth 20000
namespace Go.AM.Fd
open Nat (reduceAdd reduceEqDiff reduceLT reduceLeDiff reduceMul reduceSub)
open Go.Proofs Go.AM.F
theorem Z68I_z : Z68I = stl Sta0 := stl_zero
theorem O68I_r : O68I = List.replicate 68 1 := rfl
theorem newSl {H : AHeap} {o rm : Bool} {esz e n : Nat} {c : List Value} {rows : List (List Value)} (hr : ∀ r ∈ rows, r.length = esz) (hc : c = rows.flatten) (hn : n = rows.length) : Sl (H.alloc (.cells o rm esz c e)) esz (slc H.n 0 n n) rows := by
  subst hc hn
  exact ⟨⟨_, _, rfl⟩, hr, elems_new rfl (flat_len hr)⟩
def wL : Ly := ⟨[[97], [98], [99]], [([80], 1)], [([71], 0)], [⟨[82], 0, [1, 2], [(0, false)], [], []⟩]⟩
def w0 : Nat → Bool := fun i => decide (i = 0)
def w1 : Nat → Bool := fun i => decide (i = 1)
def wn : Nat → Bool := fun _ => false
def wA : Sta := stepB wL Sta0 ⟨wn, w0, wn⟩ [(1, 0)]
def wB : Sta := stepB wL Sta0 ⟨wn, wn, wn⟩ [(1, 0)]
def wC : Sta := stepB wL wA ⟨w1, w0, wn⟩ []
def wD : Sta := stepB wL wC ⟨wn, w0, wn⟩ []
def wE : Sta := stepB wL wA ⟨w0, w0, wn⟩ [(2, 0)]
theorem c0_64 : Value.int .u64 1 = S64 w0 := congrArg (fun n : Nat => Value.int .u64 (n : Int)) (by decide +kernel : 1 = bitsN w0 64)
theorem c1_64 : Value.int .u64 2 = S64 w1 := congrArg (fun n : Nat => Value.int .u64 (n : Int)) (by decide +kernel : 2 = bitsN w1 64)
theorem c0_32 : Value.int .u32 1 = S32 w0 := congrArg (fun n : Nat => Value.int .u32 (n : Int)) (by decide +kernel : 1 = bitsN w0 32)
theorem wL_ok : checkE wL = 0 := by decide +kernel
theorem wA_lo : S64 wA.lo = .int .u64 1 := congrArg (fun n : Nat => Value.int .u64 (n : Int)) (by decide +kernel : bitsN wA.lo 64 = 1)
theorem wA_pr : S64 (prB wL ⟨wn, w0, wn⟩ wA) = .int .u64 1 := congrArg (fun n : Nat => Value.int .u64 (n : Int)) (by decide +kernel : bitsN (prB wL ⟨wn, w0, wn⟩ wA) 64 = 1)
theorem wB_pr : S64 (prB wL ⟨wn, wn, wn⟩ wB) = .int .u64 0 := congrArg (fun n : Nat => Value.int .u64 (n : Int)) (by decide +kernel : bitsN (prB wL ⟨wn, wn, wn⟩ wB) 64 = 0)
theorem wC_us : S64 wC.us = .int .u64 1 := congrArg (fun n : Nat => Value.int .u64 (n : Int)) (by decide +kernel : bitsN wC.us 64 = 1)
theorem wC_pr : S64 (prB wL ⟨w1, w0, wn⟩ wC) = .int .u64 0 := congrArg (fun n : Nat => Value.int .u64 (n : Int)) (by decide +kernel : bitsN (prB wL ⟨w1, w0, wn⟩ wC) 64 = 0)
theorem wD_eq : staB wD Sta0 = true := by decide +kernel
theorem wE_ca : S64 wE.ca = .int .u64 1 := congrArg (fun n : Nat => Value.int .u64 (n : Int)) (by decide +kernel : bitsN wE.ca 64 = 1)
theorem wE_ti : wE.ti 0 = 19 := by decide +kernel
theorem wA_r : rgtB wL wA = true := by decide +kernel
theorem F1 (x y z a b c : ByteArray) : fillA [.string x, .string y, .string z] [(0, 1, .string a), (1, 1, .string b), (2, 1, .string c)] = some [.string a, .string b, .string c] := rfl
theorem F2 (x a : ByteArray) (k j : IntKind) (n m : Int) : fillA [.string x, .int k m] [(0, 1, .string a), (1, 1, .int j n)] = some [.string a, .int j n] := rfl
theorem F3 (x a : ByteArray) (k : IntKind) (m : Int) : fillA [.string x, .int k m] [(0, 1, .string a)] = some [.string a, .int k m] := rfl
theorem F4 (k j : IntKind) (n m p q : Int) : fillA [.int k n, .int k m] [(0, 1, .int j p), (1, 1, .int j q)] = some [.int j p, .int j q] := rfl
theorem F5 (a b c d : Value) : fillA [c, d] [(0, 2, .agg #[a, b])] = some [a, b] := rfl
theorem F6 (x a : ByteArray) (k : IntKind) (m : Int) (b c d e f g h i j l : Nat) : fillA [.string x, .int k m, .slice none 0 0, .slice none 0 0, .slice none 0 0, .slice none 0 0] [(0, 1, .string a), (2, 1, slc b c d e), (3, 1, slc f g h i)] = some [.string a, .int k m, slc b c d e, slc f g h i, .slice none 0 0, .slice none 0 0] := rfl
theorem F7 (a b c d e f g h i j k l : Value) : fillA [g, h, i, j, k, l] [(0, 6, .agg #[a, b, c, d, e, f])] = some [a, b, c, d, e, f] := rfl
theorem F8 (x y z w a b c d e f g h i j k l : Nat) : fillA [.slice none 0 0, .slice none 0 0, .slice none 0 0, .slice none 0 0] [(0, 1, slc a b c d), (1, 1, slc e f g h), (2, 1, slc i j k l), (3, 1, slc x y z w)] = some [slc a b c d, slc e f g h, slc i j k l, slc x y z w] := rfl
theorem F9 (k j : IntKind) (n m q : Int) : fillA [.int k n, .int j m] [(0, 1, .int k q)] = some [.int k q, .int j m] := rfl
theorem FA (a b c : Int) (d : Value) (x y z w : Nat) : fillA [.int .u64 a, .int .u32 b, .int .u32 c, d] [(1, 1, .int .u32 1), (3, 1, slc x y z w)] = some [.int .u64 a, .int .u32 1, .int .u32 c, slc x y z w] := rfl
theorem FB (a b c : Int) (d : Value) (x y z w : Nat) : fillA [.int .u64 a, .int .u32 b, .int .u32 c, d] [(3, 1, slc x y z w)] = some [.int .u64 a, .int .u32 b, .int .u32 c, slc x y z w] := rfl
theorem FC (a b c e : Int) (d : Value) : fillA [.int .u64 a, .int .u32 b, .int .u32 c, d] [(1, 1, .int .u32 1), (0, 1, .int .u64 e)] = some [.int .u64 e, .int .u32 1, .int .u32 c, d] := rfl
theorem FD (a b c : Int) (d : Value) : fillA [.int .u64 a, .int .u32 b, .int .u32 c, d] [(1, 1, .int .u32 1)] = some [.int .u64 a, .int .u32 1, .int .u32 c, d] := rfl
theorem FE (a b c e : Int) (d : Value) (x y z w : Nat) : fillA [.int .u64 a, .int .u32 b, .int .u32 c, d] [(1, 1, .int .u32 1), (0, 1, .int .u64 e), (3, 1, slc x y z w)] = some [.int .u64 e, .int .u32 1, .int .u32 c, slc x y z w] := rfl
theorem z64 : Value.int .u64 0 = S64 wn := s_zero
theorem z32 : Value.int .u32 0 = S32 wn := p_zero
theorem i1v (cv : Value) : inl ⟨wn, w0, wn⟩ cv = [.int .u64 0, .int .u32 1, .int .u32 0, cv] := by unfold inl; rw [z64, z32, c0_32]
theorem i2v (cv : Value) : inl ⟨wn, wn, wn⟩ cv = [.int .u64 0, .int .u32 0, .int .u32 0, cv] := by unfold inl; rw [z64, z32]
theorem i3v (cv : Value) : inl ⟨w1, w0, wn⟩ cv = [.int .u64 2, .int .u32 1, .int .u32 0, cv] := by unfold inl; rw [c1_64, z32, c0_32]
theorem i4v (cv : Value) : inl ⟨w0, w0, wn⟩ cv = [.int .u64 1, .int .u32 1, .int .u32 0, cv] := by unfold inl; rw [c0_64, z32, c0_32]
theorem wL_lim : LyLim wL := ⟨by decide, by decide, by decide, by decide⟩
theorem CLnil (K : AHeap) : CL K (.slice none 0 0) [] := Sl.nil K 2
def wU (H : AHeap) : V4 := ⟨slc H.n 0 3 3, slc (H.n + 1) 0 1 1, slc (H.n + 2) 0 1 1, slc (H.n + 5) 0 1 1⟩
def wX (H : AHeap) : RV := ⟨⟨[82], 0, [1, 2], [(0, false)], [], []⟩, slc (H.n + 3) 0 2 2, slc (H.n + 4) 0 1 1, .slice none 0 0, .slice none 0 0⟩
def wK (H : AHeap) : AHeap := (((((H.alloc (.cells true false 1 [.string ⟨#[97]⟩, .string ⟨#[98]⟩, .string ⟨#[99]⟩] 9)).alloc (.cells true false 2 [.string ⟨#[80]⟩, .int .i64 1] 46)).alloc
  (.cells true false 2 [.string ⟨#[71]⟩, .int .i64 0] 66)).alloc (.cells true false 1 [.int .i64 1, .int .i64 2] 3)).alloc (.cells true false 2 [.int .i64 0, .bool false] 68)).alloc (.cells true false 6 (wX H).row 50)
theorem wK_ly (H : AHeap) : LyR (wK H) (wU H) [wX H] wL := by
  refine ⟨?_, ?_, ?_, ?_, rfl, ?_⟩
  · exact Sl.keeps (newSl (rows := [[.string ⟨#[97]⟩], [.string ⟨#[98]⟩], [.string ⟨#[99]⟩]]) (by simp) rfl rfl) ((((((Keeps.refl _).alloc _).alloc _).alloc _).alloc _).alloc _)
  · exact Sl.keeps (newSl (rows := [[.string ⟨#[80]⟩, .int .i64 1]]) (by simp) rfl rfl) (((((Keeps.refl _).alloc _).alloc _).alloc _).alloc _)
  · exact Sl.keeps (newSl (rows := [[.string ⟨#[71]⟩, .int .i64 0]]) (by simp) rfl rfl) ((((Keeps.refl _).alloc _).alloc _).alloc _)
  · exact newSl (rows := [(wX H).row]) (by simp [RV.row]) (by simp) rfl
  · intro x hx
    rw [List.mem_singleton] at hx
    subst hx
    refine ⟨?_, ?_, Sl.nil _ _, Sl.nil _ _⟩
    · exact Sl.keeps (newSl (rows := [[.int .i64 1], [.int .i64 2]]) (by simp) rfl rfl) (((Keeps.refl _).alloc _).alloc _)
    · exact Sl.keeps (newSl (rows := [[.int .i64 0, .bool false]]) (by simp) rfl rfl) ((Keeps.refl _).alloc _)
theorem wK_k (H : AHeap) : Keeps H (wK H) := ((((((Keeps.refl H).alloc _).alloc _).alloc _).alloc _).alloc _).alloc _
theorem wL_in : LyIn 9223372036854775807 wL := by
  refine ⟨?_, ?_, ?_, ?_⟩ <;> decide
set_option maxHeartbeats 4000000 in
theorem t8 (H : AHeap) : ∃ w K, ARun Go.Proofs.Try.prog 0 8 [] H w K ∧ w = .bool true ∧ K = H := by
  suffices h' : ∃ w K, ARun Go.Proofs.Try.prog 0 8 [] H w K ∧ w = .bool true ∧ Keeps H K by
    obtain ⟨_, _, a, rfl, k⟩ := h'
    exact ⟨_, _, a.gc0 k (.inr (.bool _)), rfl, rfl⟩
  refine walk2 f8_ok f8_n ?_
  intro Q hq1 hq2
  have kW := wK_k H
  have tN := t21 ((wK_ly H).keeps ((Keeps.refl _).alloc (.cells true false 4 (wU H).l 27))) wL_in
  unfold wK wX RV.row at tN
  simp only [V4.l, wU] at tN
  simp (disch := first | assumption | omega | (simp only [LN] <;> omega) | (simp (disch := first | assumption | omega | (simp only [LN] <;> omega)) only [row_alloc, row_set]; assumption)) only [f8, W_block, P3, ↓reduceIte, reduceAdd, reduceEqDiff, reduceCtorEq, initFr, reduceLT, clsA, reduceLeDiff, reduceMul, reduceSub, reduceIte, F1, F2, F3, F4, F5, F6, F7, F8]
  refine callK tN ?_
  rintro _ K1 ⟨k1, _, e2⟩
  obtain ⟨b, rfl, hMF⟩ := e2 wL_ok
  have hM := hMF.r
  have kH1 : Keeps H K1 := (kW.alloc _).trans k1
  obtain ⟨K2, hK2⟩ : ∃ X, X = K1.alloc (.cells true false 2 [.int .u8 1, .int .i64 0] 70) := ⟨_, rfl⟩
  have k2 : Keeps K1 K2 := by rw [hK2]; exact (Keeps.refl K1).alloc _
  have cl2 : CL K2 (slc K1.n 0 1 1) [(1, 0)] := by rw [hK2]; exact newSl (rows := [[.int .u8 1, .int .i64 0]]) (by simp) rfl rfl
  have hM2 := hM.keeps k2
  have t1 := t14 (s := Sta0) (x := ⟨wn, w0, wn⟩) hM2 wL_lim cl2 (by simp)
  have t2 := fun K (k : Keeps K2 K) => t14 (s := Sta0) (x := ⟨wn, wn, wn⟩) (hM2.keeps k) wL_lim (cl2.keeps k) (by simp)
  have t3 := fun K (k : Keeps K2 K) => t14 (s := wA) (x := ⟨w1, w0, wn⟩) (hM2.keeps k) wL_lim (CLnil K) (by simp)
  have t4 := fun K (k : Keeps K2 K) => t14 (s := wC) (x := ⟨wn, w0, wn⟩) (hM2.keeps k) wL_lim (CLnil K) (by simp)
  have t6 := fun K (k : Keeps K2 K) => t11 (hM2.keeps k) (by decide) wA
  rw [i1v] at t1
  simp only [i2v, i3v] at t2 t3
  simp only [i1v] at t4
  simp (disch := first | assumption | omega | (simp only [LN] <;> omega) | (simp (disch := first | assumption | omega | (simp only [LN] <;> omega)) only [row_alloc, row_set]; assumption)) only [W_block, P3, ↓reduceIte, reduceAdd, reduceEqDiff, reduceCtorEq, initFr, reduceLT, clsA, reduceLeDiff, reduceMul, reduceSub, reduceIte, F9, F5, FA, Z68I_z, fill0]
  rw [← hK2]
  refine callK t1 ?_
  rintro _ X ⟨rfl, hX⟩
  rw [hX]
  have sA : stepB wL Sta0 ⟨wn, w0, wn⟩ [(1, 0)] = wA := rfl
  have sB : stepB wL Sta0 ⟨wn, wn, wn⟩ [(1, 0)] = wB := rfl
  have sC : stepB wL wA ⟨w1, w0, wn⟩ [] = wC := rfl
  have sD : stepB wL wC ⟨wn, w0, wn⟩ [] = wD := rfl
  rw [sA, wA_pr]
  obtain ⟨K3, hK3⟩ : ∃ X, X = (K2.alloc (.cells true false 68 (stl wA) 32)).alloc (.cells true false 2 [.int .u64 1, S32 wA.po] 52) := ⟨_, rfl⟩
  have k3 : Keeps K2 K3 := by rw [hK3]; exact ((Keeps.refl K2).alloc _).alloc _
  have ga3 : K3.get K2.n = some (.cells true false 68 (stl wA) 32) := by rw [hK3]; exact ((Keeps.refl _).alloc _).at_ (AHeap.get_alloc_new K2 _)
  have go3 : K3.get (K2.n + 1) = some (.cells true false 2 [.int .u64 1, S32 wA.po] 52) := by rw [hK3]; exact AHeap.get_alloc_new (K2.alloc _) _
  simp (disch := first | assumption | omega | (simp only [LN] <;> omega) | (simp (disch := first | assumption | omega | (simp only [LN] <;> omega)) only [row_alloc, row_set]; assumption)) only [W_block, P3, ↓reduceIte, reduceAdd, reduceEqDiff, reduceCtorEq, initFr, reduceLT, clsA, reduceLeDiff, reduceMul, reduceSub, reduceIte, Z68I_z, stn68s, stl_one, FB, fill0, o_s32, one_s32]
  simp only [← hK3]
  refine callK (t2 _ k3) ?_
  rintro _ X ⟨rfl, hX⟩
  rw [hX, sB, wB_pr]
  obtain ⟨K4, hK4⟩ : ∃ X, X = (K3.alloc (.cells true false 68 (stl wB) 32)).alloc (.cells true false 2 [.int .u64 0, S32 wB.po] 52) := ⟨_, rfl⟩
  have k4 : Keeps K3 K4 := by rw [hK4]; exact ((Keeps.refl K3).alloc _).alloc _
  have gb4 : K4.get (K3.n + 1) = some (.cells true false 2 [.int .u64 0, S32 wB.po] 52) := by rw [hK4]; exact AHeap.get_alloc_new (K3.alloc _) _
  have ga4 := k4.at_ ga3
  have ha3 := AHeap.get_lt ga3
  simp (disch := first | assumption | omega | (simp only [LN] <;> omega) | (simp (disch := first | assumption | omega | (simp only [LN] <;> omega)) only [row_alloc, row_set]; assumption)) only [W_block, P3, ↓reduceIte, reduceAdd, reduceEqDiff, reduceCtorEq, initFr, reduceLT, clsA, reduceLeDiff, reduceMul, reduceSub, reduceIte, Z68I_z, stn68s, stl_one, FC, fill0, o_s32, one_s32, ga3, rng68]
  simp only [← hK4]
  refine callK (t3 _ (k3.trans k4)) ?_
  rintro _ X ⟨rfl, hX⟩
  rw [hX, sC, wC_pr]
  obtain ⟨K5, hK5⟩ : ∃ X, X = (K4.alloc (.cells true false 68 (stl wC) 32)).alloc (.cells true false 2 [.int .u64 0, S32 wC.po] 52) := ⟨_, rfl⟩
  have k5 : Keeps K4 K5 := by rw [hK5]; exact ((Keeps.refl K4).alloc _).alloc _
  have gc5 : K5.get K4.n = some (.cells true false 68 (stl wC) 32) := by rw [hK5]; exact ((Keeps.refl _).alloc _).at_ (AHeap.get_alloc_new K4 _)
  have gd5 : K5.get (K4.n + 1) = some (.cells true false 2 [.int .u64 0, S32 wC.po] 52) := by rw [hK5]; exact AHeap.get_alloc_new (K4.alloc _) _
  simp (disch := first | assumption | omega | (simp only [LN] <;> omega) | (simp (disch := first | assumption | omega | (simp only [LN] <;> omega)) only [row_alloc, row_set]; assumption)) only [W_block, P3, ↓reduceIte, reduceAdd, reduceEqDiff, reduceCtorEq, initFr, reduceLT, clsA, reduceLeDiff, reduceMul, reduceSub, reduceIte, Z68I_z, stn68s, stl_one, FD, fill0, o_s32, one_s32, rng68]
  simp only [← hK5]
  refine callK (t4 _ ((k3.trans k4).trans k5)) ?_
  rintro _ X ⟨rfl, hX⟩
  rw [hX, sD]
  obtain ⟨K6, hK6⟩ : ∃ X, X = (K5.alloc (.cells true false 68 (stl wD) 32)).alloc (.cells true false 2 [S64 (prB wL ⟨wn, w0, wn⟩ wD), S32 wD.po] 52) := ⟨_, rfl⟩
  have k6 : Keeps K5 K6 := by rw [hK6]; exact ((Keeps.refl K5).alloc _).alloc _
  have ge6 : K6.get K5.n = some (.cells true false 68 (stl wD) 32) := by rw [hK6]; exact ((Keeps.refl _).alloc _).at_ (AHeap.get_alloc_new K5 _)
  have ga6 := (k5.trans k6).at_ ga4
  obtain ⟨K7, hK7⟩ : ∃ X, X = K6.alloc (.cells true false 2 [.int .u8 2, .int .i64 0] 70) := ⟨_, rfl⟩
  have k7 : Keeps K6 K7 := by rw [hK7]; exact (Keeps.refl K6).alloc _
  have cl7 : CL K7 (slc K6.n 0 1 1) [(2, 0)] := by rw [hK7]; exact newSl (rows := [[.int .u8 2, .int .i64 0]]) (by simp) rfl rfl
  have k27 := ((((k3.trans k4).trans k5).trans k6).trans k7)
  have t5 := t14 (s := wA) (x := ⟨w0, w0, wn⟩) (hM2.keeps k27) wL_lim cl7 (by simp)
  rw [i4v] at t5
  have sE : stepB wL wA ⟨w0, w0, wn⟩ [(2, 0)] = wE := rfl
  have ha4 := AHeap.get_lt ga4
  have ha6 := AHeap.get_lt ga6
  have ha5 : K2.n < K5.n := by have := k5.n; omega
  have ga5 := k5.at_ ga4
  simp (disch := first | assumption | omega | (simp only [LN] <;> omega) | (simp (disch := first | assumption | omega | (simp only [LN] <;> omega)) only [row_alloc, row_set]; assumption)) only [W_block, P3, ↓reduceIte, reduceAdd, reduceEqDiff, reduceCtorEq, initFr, reduceLT, clsA, reduceLeDiff, reduceMul, reduceSub, reduceIte, Z68I_z, stn68s, stl_one, F9, F5, FE, fill0, o_s32, o_s64, one_s64, one_s32, rng68, ga5, ha5]
  have n6 : K6.n = K5.n + 1 + 1 := by rw [hK6]; rfl
  rw [n6] at t5
  simp only [← hK6, ← hK7]
  refine callK t5 ?_
  rintro _ X ⟨rfl, hX⟩
  rw [hX, sE]
  obtain ⟨K8, hK8⟩ : ∃ X, X = (K7.alloc (.cells true false 68 (stl wE) 32)).alloc (.cells true false 2 [S64 (prB wL ⟨w0, w0, wn⟩ wE), S32 wE.po] 52) := ⟨_, rfl⟩
  have k8 : Keeps K7 K8 := by rw [hK8]; exact ((Keeps.refl K7).alloc _).alloc _
  have gf8 : K8.get K7.n = some (.cells true false 68 (stl wE) 32) := by rw [hK8]; exact ((Keeps.refl _).alloc _).at_ (AHeap.get_alloc_new K7 _)
  have k78 := k7.trans k8
  have ge8 := k78.at_ ge6
  have gc8 := (k6.trans k78).at_ gc5
  have gd8 := (k6.trans k78).at_ gd5
  have gb8 := ((k5.trans k6).trans k78).at_ gb4
  have go8 := (((k4.trans k5).trans k6).trans k78).at_ go3
  have ga8 := (((k4.trans k5).trans k6).trans k78).at_ ga3
  have eq1 := fun K a b => eq_stl K false a b
  have ti0 := stl_t wE (i := 0) (by omega)
  rw [wE_ti] at ti0
  have ti0' : (stl wE)[3]? = some (.int .u8 19) := ti0
  have kk : Keeps H K8 := ((kH1.trans k2).trans k27).trans k8
  simp (disch := first | assumption | omega | (simp only [LN] <;> omega) | (simp (disch := first | assumption | omega | (simp only [LN] <;> omega)) only [row_alloc, row_set]; assumption)) only [W_block, P3, ↓reduceIte, reduceAdd, reduceEqDiff, reduceCtorEq, initFr, reduceLT, clsA, reduceLeDiff, reduceMul, reduceSub, reduceIte, Z68I_z, O68I_r, stn68s, stl_one, o_s32, o_s64, one_s64, one_s32, fill0]
  simp only [← hK8]
  simp (disch := first | assumption | omega | (simp only [LN] <;> omega) | (simp (disch := first | assumption | omega | (simp only [LN] <;> omega)) only [row_alloc, row_set]; assumption)) only [W_block, P3, ↓reduceIte, reduceAdd, reduceEqDiff, reduceCtorEq, initFr, reduceLT, clsA, reduceLeDiff, reduceMul, reduceSub, reduceIte, ga8, go8, gb8, gc8, gd8, ge8, gf8, stl_0, stl_1, stl_2, wA_lo, wC_us, wE_ca, wD_eq, ti0', eq1, Z68I_z, O68I_r, rng68, fill0]
  refine callK (t6 _ (k27.trans k8)) ?_
  rintro _ X ⟨rfl, hX⟩
  rw [hX, wA_r]
  simp (disch := first | assumption | omega | (simp only [LN] <;> omega) | (simp (disch := first | assumption | omega | (simp only [LN] <;> omega)) only [row_alloc, row_set]; assumption)) only [W_block, P3, ↓reduceIte, reduceAdd, reduceEqDiff, reduceCtorEq, initFr, reduceLT, clsA, reduceLeDiff, reduceMul, reduceSub, reduceIte]
  exact hq2 _ _ ⟨_, rfl, rfl, kk⟩
end Go.AM.Fd

set_option linter.unusedSimpArgs false
set_option linter.unusedVariables false
set_option maxRecDepth 8000
namespace Go.AM.Fd
open Nat (reduceAdd reduceEqDiff reduceLT reduceLeDiff reduceMul reduceSub)
open Go.Proofs Go.AM.F
def setD (L : Ly) (x : Inp) (s : Sta) (i : Nat) : Bool := (!s.lo i && frD x (ro L i)) && ((List.range L.r.length).all (fun k => !(s.lo k && cf L i k)) && (nds (ro L i)).all fun z => !((s.po z.1.toNat != z.2) && hasB x.oc (L.p.getD z.1.toNat ([], 0)).2))
def okC (L : Ly) (kd n : Int) : Bool := (decide (1 ≤ kd) && decide (kd ≤ 3)) && (decide (0 ≤ n) && decide (n < if kd = 3 then ((L.p.length : Nat) : Int) else ((L.r.length : Nat) : Int)))
def xn : Inp := ⟨wn, wn, wn⟩
end Go.AM.Fd

set_option linter.unusedSimpArgs false
set_option linter.unusedVariables false
set_option maxRecDepth 8000
namespace Go.AM.Fd
open Nat (reduceAdd reduceEqDiff reduceLT reduceLeDiff reduceMul reduceSub)
open Go.Proofs Go.AM.F
def poD (l : List (Int × Bool)) (f : Nat → Bool) : Nat → Bool := l.foldl (fun f z p => if p = z.1.toNat then z.2 else f p) f
theorem poD_s (l : List (Int × Bool)) (z : Int × Bool) (f : Nat → Bool) : poD (l ++ [z]) f = fun p => if p = z.1.toNat then z.2 else poD l f p := by
  unfold poD; rw [List.foldl_append]; rfl
def comD (L : Ly) (x : Inp) (s : Sta) (kd n : Int) : Sta :=
  if okC L kd n then
    if kd = 1 ∧ setD L x s n.toNat = true then { s with lo := fun j => s.lo j || decide (j = n.toNat), po := poD (nds (ro L n.toNat)) s.po }
    else if kd = 2 ∧ ((s.lo n.toNat && !s.us n.toNat) && !s.ca n.toNat) = true then
      { s with ca := fun j => s.ca j || decide (j = n.toNat), ti := upd s.ti n.toNat (if hasB x.oc (L.g.getD (ro L n.toNat).g.toNat ([], 0)).2 then 20 else 0) }
    else if kd = 3 ∧ (!hasB x.oc (L.p.getD n.toNat ([], 0)).2 && !needD L s n) = true then { s with po := fun j => s.po j ^^ decide (j = n.toNat) }
    else s
  else s
def roD (L : Ly) (x : Inp) (us : Nat → Bool) (s : Sta) (i : Nat) : Sta :=
  if us i then (if frD x (ro L i) then relS s i else s)
  else if hasB x.oc ((ro L i).path.getD 0 0) then { s with us := fun j => s.us j || decide (j = i) }
  else if s.ca i && decide (0 < s.ti i) then { s with ti := upd s.ti i (s.ti i - 1) }
  else if s.ca i && frD x (ro L i) then relS s i
  else s
end Go.AM.Fd

set_option linter.unusedSimpArgs false
set_option linter.unusedVariables false
set_option maxRecDepth 8000
namespace Go.AM.Fd
open Nat (reduceAdd reduceEqDiff reduceLT reduceLeDiff reduceMul reduceSub)
open Go.Proofs Go.AM.F
def cmdD (L : Ly) (x : Inp) (s : Sta) (cs : List (Int × Int)) : Sta := cs.foldl (fun s c => comD L x s c.1 c.2) s
def rosD (L : Ly) (x : Inp) (us : Nat → Bool) (s : Sta) (i : Nat) : Sta := (List.range i).foldl (fun s i => if s.lo i then roD L x us s i else s) s
def stepD (L : Ly) (s : Sta) (x : Inp) (cs : List (Int × Int)) : Sta := rosD L x (tidyS L s).us (cmdD L x (tidyS L s) (cs.take 8)) L.r.length
theorem cmdD_snoc (L : Ly) (x : Inp) (s : Sta) (cs : List (Int × Int)) (c : Int × Int) : cmdD L x s (cs ++ [c]) = comD L x (cmdD L x s cs) c.1 c.2 := by
  unfold cmdD; rw [List.foldl_append]; rfl
theorem rosD_s (L : Ly) (x : Inp) (us : Nat → Bool) (s : Sta) (i : Nat) : rosD L x us s (i + 1) = if (rosD L x us s i).lo i then roD L x us (rosD L x us s i) i else rosD L x us s i := by
  unfold rosD; rw [List.range_succ, List.foldl_append]; rfl
theorem upd_le {t : Nat → Nat} {i n m : Nat} (h : ∀ j, t j ≤ m) (hn : n ≤ m) (j : Nat) : upd t i n j ≤ m := by
  unfold upd; split
  · exact hn
  · exact h j
theorem comD_ti {L : Ly} {x : Inp} {s : Sta} {kd n : Int} (h : ∀ i, s.ti i ≤ 20) (i : Nat) : (comD L x s kd n).ti i ≤ 20 := by
  unfold comD
  repeat' split
  all_goals first | exact h i | exact upd_le h (by omega) i | (refine upd_le h ?_ i; split <;> omega)
theorem roD_ti {L : Ly} {x : Inp} {us : Nat → Bool} {s : Sta} {k : Nat} (h : ∀ i, s.ti i ≤ 20) (i : Nat) : (roD L x us s k).ti i ≤ 20 := by
  unfold roD relS
  repeat' split
  all_goals first | exact h i | exact upd_le h (by have := h k; omega) i
theorem cmdD_ti {L : Ly} {x : Inp} : ∀ {cs : List (Int × Int)} {s : Sta}, (∀ i, s.ti i ≤ 20) → ∀ i, (cmdD L x s cs).ti i ≤ 20
  | [], s, h => h
  | c :: cs, s, h => cmdD_ti (cs := cs) (comD_ti h)
theorem rosD_ti {L : Ly} {x : Inp} {us : Nat → Bool} {s : Sta} (h : ∀ i, s.ti i ≤ 20) : ∀ k i, (rosD L x us s k).ti i ≤ 20
  | 0 => h
  | k + 1 => by
    rw [rosD_s]
    split
    · exact roD_ti (rosD_ti h k)
    · exact rosD_ti h k
theorem fillO1 (b : Nat → Bool) : fillA [.int .u64 0, .int .u32 0] [(1, 1, S32 b)] = some [.int .u64 0, S32 b] := rfl
end Go.AM.Fd

set_option linter.unusedSimpArgs false
set_option linter.unusedVariables false
set_option maxRecDepth 8000
namespace Go.AM.Fd
open Nat (reduceAdd reduceEqDiff reduceLT reduceLeDiff reduceMul reduceSub)
open Go.Proofs Go.AM.F
theorem Z68K_z : Z68K = stl Sta0 := stl_zero
theorem t50 {H : AHeap} (f : Nat → Bool) {n : Int} (h : 0 ≤ n) : ∃ w H', ARun Go.Proofs.Try.prog 0 50 [S64 f, .int .i64 n] H w H' ∧ w = .bool (hasB f n) ∧ H' = H := by
  refine walk2 f50_ok f50_n ?_
  intro Q hq1 hq2
  obtain ⟨m, rfl⟩ : ∃ m : Nat, n = (m : Int) := ⟨n.toNat, by omega⟩
  simp (disch := first | assumption | omega | (simp only [LN] <;> omega) | (simp (disch := first | assumption | omega | (simp only [LN] <;> omega)) only [row_alloc, row_set]; assumption)) only [f50, W_block, P3, ↓reduceIte, reduceAdd, reduceEqDiff, reduceCtorEq, initFr, reduceLT, clsA, reduceLeDiff, reduceMul, reduceSub, reduceIte, s_shr, s_and1, i1_eq, o_s64, o_i1]
  refine hq2 _ _ ⟨.bool _, rfl, ?_, rfl⟩
  unfold hasB
  have e : decide ((m : Int) < 64) = decide (m < 64) := by rw [decide_eq_decide]; omega
  simp [e]
def tidA (L : Ly) (s : Sta) (i : Nat) : Sta where
  lo := fun j => s.lo j && decide (j < i)
  us := fun j => s.us j && (s.lo j && decide (j < i))
  ca := fun j => s.ca j && (s.lo j && decide (j < i))
  ti := fun j => if s.ca j && (s.lo j && decide (j < i)) then min (s.ti j) 20 else 0
  po := fun j => s.po j && lowP L.p.length j
theorem tidA_0 (L : Ly) (s : Sta) : stl (tidA L s 0) = stl { Sta0 with po := fun j => s.po j && lowP L.p.length j } :=
  stl_ext (fun _ _ => by simp [tidA, Sta0]) (fun _ _ => by simp [tidA, Sta0]) (fun _ _ => by simp [tidA, Sta0]) (fun _ _ => by simp [tidA, Sta0]) (fun _ _ => rfl)
theorem tidA_n (L : Ly) (s : Sta) : tidA L s L.r.length = tidyS L s := by
  have e : ∀ j : Nat, decide (j < L.r.length) = lowP L.r.length j := fun j => by unfold lowP; rw [decide_eq_decide]; omega
  unfold tidA tidyS
  simp only [e]
def tidN (s : Sta) (i : Nat) (t : Sta) : Sta := if s.lo i then ⟨fun j => t.lo j || decide (j = i), if s.us i then (fun j => t.us j || decide (j = i)) else t.us, if s.ca i then (fun j => t.ca j || decide (j = i)) else t.ca, if s.ca i then upd t.ti i (min (s.ti i) 20) else t.ti, t.po⟩ else t
theorem tidN_e (L : Ly) (s : Sta) (i : Nat) : stl (tidA L s (i + 1)) = stl (tidN s i (tidA L s i)) := by
  have lt : ∀ j, j ≠ i → decide (j < i + 1) = decide (j < i) := fun j h => by rw [decide_eq_decide]; omega
  have lp : ∀ j, j ≠ i → (j < i + 1) = (j < i) := fun j h => propext (by omega)
  unfold tidN
  cases h1 : s.lo i with
  | false =>
    refine stl_ext (fun j _ => ?_) (fun j _ => ?_) (fun j _ => ?_) (fun j _ => ?_) (fun _ _ => rfl)
    all_goals
      by_cases e : j = i
      · subst e; simp [tidA, h1]
      · simp [tidA, lt j e, lp j e]
  | true =>
    simp only [if_true]
    cases h2 : s.us i <;> cases h3 : s.ca i <;>
    · refine stl_ext (fun j _ => ?_) (fun j _ => ?_) (fun j _ => ?_) (fun j _ => ?_) (fun _ _ => rfl)
      all_goals
        by_cases e : j = i
        · subst e; simp [tidA, upd, h1, h2, h3]
        · simp [tidA, upd, lt j e, lp j e, e]
set_option maxHeartbeats 2000000 in
theorem t18 {H : AHeap} {b : Nat} {L : Ly} (h : MaA H b L) (hL : L.r.length ≤ 64) (s : Sta) : ∃ w H', ARun Go.Proofs.Try.prog 0 18 [ptr b 0, .agg (stl s).toArray] H w H' ∧ w = .agg (stl (tidyS L s)).toArray ∧ H' = H := by
  suffices h' : ∃ w H', ARun Go.Proofs.Try.prog 0 18 [ptr b 0, .agg (stl s).toArray] H w H' ∧ w = .agg (stl (tidyS L s)).toArray ∧ Keeps H H' by
    obtain ⟨_, _, a, rfl, k⟩ := h'
    exact ⟨_, _, a.gc0 k (.inr (nv_stl _ _)), rfl, rfl⟩
  refine walk2 f18_ok f18_n ?_
  intro Q hq1 hq2
  obtain ⟨vl, vi, ls, own, room, T, gb, sl, ok, si⟩ := h.x
  have hbl := AHeap.get_lt gb
  obtain ⟨K0, hK0⟩ : ∃ X, X = ((H.alloc (.cells true false 68 (stl s) 32)).alloc (.cells true false 68 (stl Sta0) 32)).alloc (.cells true false 68 (stl { Sta0 with po := fun j => s.po j && lowP L.p.length j }) 32) := ⟨_, rfl⟩
  have k0 : Keeps H K0 := by rw [hK0]; exact (((Keeps.refl H).alloc _).alloc _).alloc _
  have n0 : K0.n = H.n + 3 := by rw [hK0]; rfl
  have gs0 : K0.get H.n = some (.cells true false 68 (stl s) 32) := by rw [hK0]; exact (((Keeps.refl _).alloc _).alloc _).at_ (AHeap.get_alloc_new H _)
  have gw0 : K0.get (H.n + 1) = some (.cells true false 68 (stl Sta0) 32) := by rw [hK0]; exact ((Keeps.refl _).alloc _).at_ (AHeap.get_alloc_new (H.alloc _) _)
  have go0 : K0.get (H.n + 2) = some (.cells true false 68 (stl (tidA L s 0)) 32) := by rw [hK0, tidA_0]; exact AHeap.get_alloc_new ((H.alloc _).alloc _) _
  have gb0 := k0.at_ gb
  have hb1 : ¬ b = H.n := by omega
  have hb2 : ¬ b = H.n + 1 := by omega
  have hb3 : ¬ b = H.n + 2 := by omega
  have hbl1 : b < H.n + 1 := by omega
  have hbl2 : b < H.n + 2 := by omega
  have isl := Sl.is sl
  have lenl : lenS vl = L.r.length := by have := Sl.len sl; simpa [arows] using this
  unfold amc at gb gb0
  simp (disch := first | assumption | omega | (simp only [LN] <;> omega) | (simp (disch := first | assumption | omega | (simp only [LN] <;> omega)) only [row_alloc, row_set]; assumption)) only [ f18, P3, ↓reduceIte, reduceAdd, reduceEqDiff, reduceCtorEq, initFr, reduceLT, clsA, reduceLeDiff, reduceMul, reduceSub, reduceIte, stl_one, stl_len, Z68K_z, stl_67, set_67, gb, hbl, hbl1, hbl2, hb1, hb2, hb3, p_and, one_s32, o_s32, isl, lenl]
  rw [← hK0, W_block]
  have h12 : H.n + 1 + 1 = H.n + 2 := rfl
  rw [h12]
  refine W_loop2 (fun q fr K => ∃ i x5 x9 x10 x11 x12, fr = [ptr b 0, .agg (stl s).toArray, ptr H.n 0, ptr (H.n + 1) 0, ptr (H.n + 2) 0, x5, .bool false, .int .i64 ((L.r.length : Nat) : Int), .int .i64 ((i : Nat) : Int), x9, x10, x11, x12] ∧
      Chg [H.n + 2] K0 K ∧ K.get (H.n + 2) = some (.cells true false 68 (stl (tidA L s i)) 32) ∧ i ≤ L.r.length ∧ q = L.r.length - i) L.r.length
    ⟨0, _, _, _, _, _, rfl, Chg.refl _ _, go0, by omega, rfl⟩ ?_
  rintro Q' q fr K ⟨i, x5, x9, x10, x11, x12, rfl, cK, go, hi, rfl⟩ hn' hx' hret
  have gs := cK.at_ gs0 (by simp)
  have gw := cK.at_ gw0 (by simp)
  have hol := AHeap.get_lt go
  have hwl := AHeap.get_lt gw
  by_cases hlt : i < L.r.length
  · have iN : i < 64 := by omega
    have e0 : (0 : Int) ≤ (i : Int) := by omega
    have e1 : (i : Int) < ((L.r.length : Nat) : Int) := by omega
    have e64 : (i : Int) < 64 := by omega
    have hw : IntKind.i64.wrap ((i : Int) + 1) = ((i + 1 : Nat) : Int) := by rw [wrap_i64 (by omega) (by omega)]; simp
    have sh := s_shl1 iN
    have gsx : ∀ o, (K.set (H.n + 2) o).get H.n = some (.cells true false 68 (stl s) 32) := fun o => by rw [AHeap.get_set_other K (by omega) hol]; exact gs
    have gox : ∀ o, (K.set (H.n + 2) o).get (H.n + 2) = some o := fun o => AHeap.get_set_same go o
    have hmn : min ((s.ti i : Nat) : Int) 20 = ((min (s.ti i) 20 : Nat) : Int) := by omega
    have st := stl_t s iN
    have st1 := fun t : Sta => set_t t iN (min (s.ti i) 20)
    have hll : 3 + i < 68 := by omega
    have hstep := tidN_e L s i
    unfold tidN at hstep
    generalize tidA L s i = t at *
    have fin : ∀ {v10 v11 v12 : Value} (t' : Sta), stl (tidA L s (i + 1)) = stl t' → Q' .normal [ptr b 0, .agg (stl s).toArray, ptr H.n 0, ptr (H.n + 1) 0, ptr (H.n + 2) 0, .int .i64 ((i : Nat) : Int), .bool false, .int .i64 ((L.r.length : Nat) : Int), .int .i64 ((i + 1 : Nat) : Int), .bool true, v10, v11, v12] (K.set (H.n + 2) (.cells true false 68 (stl t') 32)) := fun t' e =>
      hn' _ _ _ ⟨i + 1, _, _, _, _, _, rfl, cK.trans (Chg.set K hol _) (by simp), by rw [e]; exact AHeap.get_set_same go _, by omega, rfl⟩ (by omega)
    simp (disch := first | assumption | omega | (simp only [LN] <;> omega) | (simp (disch := first | assumption | omega | (simp only [LN] <;> omega)) only [row_alloc, row_set]; assumption)) only [W_block, P3, ↓reduceIte, reduceAdd, reduceEqDiff, reduceCtorEq, initFr, reduceLT, clsA, reduceLeDiff, reduceMul, reduceSub, reduceIte, e1, gs, stl_0]
    refine callK (t50 _ e0) ?_
    rintro _ X ⟨rfl, hX⟩
    rw [hX, has_nat _ iN]
    cases h1 : s.lo i with
    | false =>
      rw [h1] at hstep
      simp (disch := first | assumption | omega | (simp only [LN] <;> omega) | (simp (disch := first | assumption | omega | (simp only [LN] <;> omega)) only [row_alloc, row_set]; assumption)) only [W_block, P3, ↓reduceIte, reduceAdd, reduceEqDiff, reduceCtorEq, initFr, reduceLT, clsA, reduceLeDiff, reduceMul, reduceSub, reduceIte, hw]
      exact hn' _ _ _ ⟨i + 1, _, _, _, _, _, rfl, cK, by rw [hstep]; exact go, by omega, rfl⟩ (by omega)
    | true =>
    rw [h1] at hstep
    simp (disch := first | assumption | omega | (simp only [LN] <;> omega) | (simp (disch := first | assumption | omega | (simp only [LN] <;> omega)) only [row_alloc, row_set]; assumption)) only [W_block, P3, ↓reduceIte, reduceAdd, reduceEqDiff, reduceCtorEq, initFr, reduceLT, clsA, reduceLeDiff, reduceMul, reduceSub, reduceIte, gs, go, gsx, gox, stl_0, stl_1, stl_2, set_0, set_1, set_2, sh, s_or, o_s64, one_s64, stl_len]
    refine callK (t50 _ e0) ?_
    rintro _ X ⟨rfl, hX⟩
    rw [hX, has_nat _ iN]
    cases h2 : s.us i with
    | false =>
      rw [h2] at hstep
      simp (disch := first | assumption | omega | (simp only [LN] <;> omega) | (simp (disch := first | assumption | omega | (simp only [LN] <;> omega)) only [row_alloc, row_set]; assumption)) only [W_block, P3, ↓reduceIte, reduceAdd, reduceEqDiff, reduceCtorEq, initFr, reduceLT, clsA, reduceLeDiff, reduceMul, reduceSub, reduceIte, gs, go, gsx, gox, stl_0, stl_1, stl_2, set_0, set_1, set_2, sh, s_or, o_s64, one_s64, stl_len]
      refine callK (t50 _ e0) ?_
      rintro _ X ⟨rfl, hX⟩
      rw [hX, has_nat _ iN]
      cases h3 : s.ca i with
      | false =>
        rw [h3] at hstep
        simp (disch := first | assumption | omega | (simp only [LN] <;> omega) | (simp (disch := first | assumption | omega | (simp only [LN] <;> omega)) only [row_alloc, row_set]; assumption)) only [W_block, P3, ↓reduceIte, reduceAdd, reduceEqDiff, reduceCtorEq, initFr, reduceLT, clsA, reduceLeDiff, reduceMul, reduceSub, reduceIte, hw]
        exact fin _ hstep
      | true =>
        rw [h3] at hstep
        simp (disch := first | assumption | omega | (simp only [LN] <;> omega) | (simp (disch := first | assumption | omega | (simp only [LN] <;> omega)) only [row_alloc, row_set]; assumption)) only [W_block, P3, ↓reduceIte, reduceAdd, reduceEqDiff, reduceCtorEq, initFr, reduceLT, clsA, reduceLeDiff, reduceMul, reduceSub, reduceIte, gs, go, gsx, gox, stl_0, stl_1, stl_2, set_0, set_1, set_2, sh, s_or, o_s64, one_s64, stl_len, e0, e64, a_mmn, hmn, a_iaddrp, st, st1, hll, Int.toNat_natCast, Nat.mul_one, hw]
        exact fin _ hstep
    | true =>
      rw [h2] at hstep
      simp (disch := first | assumption | omega | (simp only [LN] <;> omega) | (simp (disch := first | assumption | omega | (simp only [LN] <;> omega)) only [row_alloc, row_set]; assumption)) only [W_block, P3, ↓reduceIte, reduceAdd, reduceEqDiff, reduceCtorEq, initFr, reduceLT, clsA, reduceLeDiff, reduceMul, reduceSub, reduceIte, gs, go, gsx, gox, stl_0, stl_1, stl_2, set_0, set_1, set_2, sh, s_or, o_s64, one_s64, stl_len]
      refine callK (t50 _ e0) ?_
      rintro _ X ⟨rfl, hX⟩
      rw [hX, has_nat _ iN]
      cases h3 : s.ca i with
      | false =>
        rw [h3] at hstep
        simp (disch := first | assumption | omega | (simp only [LN] <;> omega) | (simp (disch := first | assumption | omega | (simp only [LN] <;> omega)) only [row_alloc, row_set]; assumption)) only [W_block, P3, ↓reduceIte, reduceAdd, reduceEqDiff, reduceCtorEq, initFr, reduceLT, clsA, reduceLeDiff, reduceMul, reduceSub, reduceIte, hw]
        exact fin _ hstep
      | true =>
        rw [h3] at hstep
        simp (disch := first | assumption | omega | (simp only [LN] <;> omega) | (simp (disch := first | assumption | omega | (simp only [LN] <;> omega)) only [row_alloc, row_set]; assumption)) only [W_block, P3, ↓reduceIte, reduceAdd, reduceEqDiff, reduceCtorEq, initFr, reduceLT, clsA, reduceLeDiff, reduceMul, reduceSub, reduceIte, gs, go, gsx, gox, stl_0, stl_1, stl_2, set_0, set_1, set_2, sh, s_or, o_s64, one_s64, stl_len, e0, e64, a_mmn, hmn, a_iaddrp, st, st1, hll, Int.toNat_natCast, Nat.mul_one, hw]
        exact fin _ hstep
  · have e1 : ¬ ((i : Nat) : Int) < ((L.r.length : Nat) : Int) := by omega
    have hie : i = L.r.length := by omega
    subst hie
    rw [tidA_n] at go
    simp (disch := first | assumption | omega | (simp only [LN] <;> omega) | (simp (disch := first | assumption | omega | (simp only [LN] <;> omega)) only [row_alloc, row_set]; assumption)) only [W_block, P3, ↓reduceIte, reduceAdd, reduceEqDiff, reduceCtorEq, initFr, reduceLT, clsA, reduceLeDiff, reduceMul, reduceSub, reduceIte, e1]
    refine hx' _ _ _ ?_
    simp (disch := first | assumption | omega | (simp only [LN] <;> omega) | (simp (disch := first | assumption | omega | (simp only [LN] <;> omega)) only [row_alloc, row_set]; assumption)) only [W_block, P3, ↓reduceIte, reduceAdd, reduceEqDiff, reduceCtorEq, initFr, reduceLT, clsA, reduceLeDiff, reduceMul, reduceSub, reduceIte, go, gw, rng68, stn68s]
    refine hq2 _ _ ⟨_, ?_, rfl, (k0.chg_trans cK (by simp)).set (by omega) hwl _⟩
    show resO [.cn 68 3] _ _ = _
    rw [resC]
    show celln 68 (ptr (H.n + 1) 0) _ = _
    rw [cellnp, rangeA_e, AHeap.get_set_same gw, rng_full (stl_len _)]; rfl
end Go.AM.Fd

set_option linter.unusedSimpArgs false
set_option linter.unusedVariables false
set_option maxRecDepth 8000
namespace Go.AM.Fd
open Nat (reduceAdd reduceEqDiff reduceLT reduceLeDiff reduceMul reduceSub)
open Go.Proofs Go.AM.F
def p64 (f : Nat → Bool) : Nat → Bool := fun i => decide (i < 32) && f i
theorem has_p64 (f : Nat → Bool) {n : Int} (h : 0 ≤ n) (h2 : n < 32) : hasB (p64 f) n = f n.toNat := by
  unfold hasB p64
  have e1 : n < 64 := by omega
  have e2 : n.toNat < 32 := by omega
  simp [h, e1, e2]
theorem cfl_0 {L : Ly} {i n : Nat} : ∀ x ∈ cfl L i n, 0 ≤ x ∧ x < n := by
  intro x hx
  unfold cfl at hx
  obtain ⟨k, hk, rfl⟩ := List.mem_map.1 hx
  have := List.mem_range.1 (List.mem_filter.1 hk).1
  omega
theorem cfl_any {L : Ly} {i : Nat} (hL : L.r.length ≤ 64) (s : Sta) : ((cfl L i L.r.length).any fun k => hasB s.lo k) = (List.range L.r.length).any fun k => (decide (i ≠ k) && s.lo k) && cf L i k := by
  unfold cfl
  rw [List.any_map, List.any_filter, Bool.eq_iff_iff, List.any_eq_true, List.any_eq_true]
  constructor
  · rintro ⟨k, hk, h⟩
    have := List.mem_range.1 hk
    refine ⟨k, hk, ?_⟩
    simp only [Function.comp, has_nat s.lo (show k < 64 by omega), Bool.and_eq_true, bne_iff_ne] at h
    simp [h.1.2, h.2]; exact fun e => h.1.1 e.symm
  · rintro ⟨k, hk, h⟩
    have := List.mem_range.1 hk
    refine ⟨k, hk, ?_⟩
    simp only [Function.comp, has_nat s.lo (show k < 64 by omega)]
    simp only [Bool.and_eq_true, decide_eq_true_eq] at h
    simp [h.1.2, h.2]; exact fun e => h.1.1 e.symm
theorem nd_rng {L : Ly} (he : checkE L = 0) {i : Nat} (hi : i < L.r.length) : ∀ z ∈ nds (ro L i), 0 ≤ z.1 ∧ z.1 < 32 := by
  intro z hz
  have hg := (check_good he (List.getElem_mem hi)).nd z (by rw [← ro_eq hi]; exact hz)
  have := (may_lim (check_may he)).p
  exact ⟨hg.1, by omega⟩
end Go.AM.Fd

set_option linter.unusedSimpArgs false
set_option linter.unusedVariables false
set_option maxRecDepth 8000
namespace Go.AM.Fd
open Nat (reduceAdd reduceEqDiff reduceLT reduceLeDiff reduceMul reduceSub)
open Go.Proofs Go.AM.F
def cyl (b : Nat) (s : Sta) (x : Inp) (cv : Value) (us : Nat → Bool) : List Value := ptr b 0 :: (stl s ++ [S64 x.oc, S32 x.nr, S32 x.rv, cv, S64 us])
theorem cyl_len (b : Nat) (s : Sta) (x : Inp) (cv : Value) (us : Nat → Bool) : (cyl b s x cv us).length = 74 := by simp [cyl, stl_len]
section
variable {b : Nat} {s : Sta} {x : Inp} {cv : Value} {us : Nat → Bool}
theorem cyl_s {i : Nat} (h : i < 68) : (cyl b s x cv us)[i + 1]? = (stl s)[i]? := by
  show (stl s ++ _)[i]? = _
  rw [List.getElem?_append_left (by rw [stl_len]; exact h)]
theorem cyl_e {i : Nat} : (cyl b s x cv us)[i + 69]? = [S64 x.oc, S32 x.nr, S32 x.rv, cv, S64 us][i]? := by
  show (stl s ++ _)[i + 68]? = _
  rw [List.getElem?_append_right (by rw [stl_len]; omega), stl_len]; rfl
theorem cyl_0 : (cyl b s x cv us)[0]? = some (ptr b 0) := rfl
theorem cyl_1 : (cyl b s x cv us)[1]? = some (S64 s.lo) := (cyl_s (by omega)).trans (stl_0 s)
theorem cyl_2 : (cyl b s x cv us)[2]? = some (S64 s.us) := (cyl_s (by omega)).trans (stl_1 s)
theorem cyl_3 : (cyl b s x cv us)[3]? = some (S64 s.ca) := (cyl_s (by omega)).trans (stl_2 s)
theorem cyl_68 : (cyl b s x cv us)[68]? = some (S32 s.po) := (cyl_s (by omega)).trans (stl_67 s)
theorem cyl_69 : (cyl b s x cv us)[69]? = some (S64 x.oc) := cyl_e (i := 0)
theorem cyl_73 : (cyl b s x cv us)[73]? = some (S64 us) := cyl_e (i := 4)
theorem cyl_t {i : Nat} (h : i < 64) : (cyl b s x cv us)[4 + i]? = some (.int .u8 (s.ti i : Nat)) := by
  have e : 4 + i = (3 + i) + 1 := by omega
  rw [e, cyl_s (by omega), stl_t s h]
theorem cyl_set {i : Nat} (h : i < 68) (v : Value) {s' : Sta} (hs : (stl s).set i v = stl s') : (cyl b s x cv us).set (i + 1) v = cyl b s' x cv us := by
  show _ :: (stl s ++ _).set i v = _
  rw [List.set_append_left _ _ (by rw [stl_len]; exact h), hs]; rfl
theorem cys_1 (f : Nat → Bool) : (cyl b s x cv us).set 1 (S64 f) = cyl b { s with lo := f } x cv us := cyl_set (by omega) _ (set_0 s f)
theorem cys_2 (f : Nat → Bool) : (cyl b s x cv us).set 2 (S64 f) = cyl b { s with us := f } x cv us := cyl_set (by omega) _ (set_1 s f)
theorem cys_3 (f : Nat → Bool) : (cyl b s x cv us).set 3 (S64 f) = cyl b { s with ca := f } x cv us := cyl_set (by omega) _ (set_2 s f)
theorem cys_68 (f : Nat → Bool) : (cyl b s x cv us).set 68 (S32 f) = cyl b { s with po := f } x cv us := cyl_set (by omega) _ (set_67 s f)
theorem cys_t {i : Nat} (h : i < 64) (n : Nat) : (cyl b s x cv us).set (4 + i) (.int .u8 (n : Nat)) = cyl b { s with ti := upd s.ti i n } x cv us := by
  have e : 4 + i = (3 + i) + 1 := by omega
  rw [e]; exact cyl_set (by omega) _ (set_t s h n)
theorem cys_t0 {i : Nat} (h : i < 64) : (cyl b s x cv us).set (4 + i) (.int .u8 0) = cyl b { s with ti := upd s.ti i 0 } x cv us := cys_t h 0
theorem cys_t20 {i : Nat} (h : i < 64) : (cyl b s x cv us).set (4 + i) (.int .u8 20) = cyl b { s with ti := upd s.ti i 20 } x cv us := cys_t h 20
theorem cys_73 (f : Nat → Bool) : (cyl b s x cv us).set 73 (S64 f) = cyl b s x cv f := by
  show _ :: (stl s ++ _).set 72 _ = _
  rw [List.set_append_right _ _ (by rw [stl_len]; omega), stl_len]; rfl
theorem cyl_st : ((cyl b s x cv us).drop 1).take 68 = stl s := by
  show (stl s ++ _).take 68 = _
  rw [List.take_append_of_le_length (by rw [stl_len]; omega), List.take_of_length_le (by rw [stl_len]; omega)]
theorem cyl_in : ((cyl b s x cv us).drop 69).take 4 = inl x cv := by
  have e : cyl b s x cv us = (ptr b 0 :: stl s) ++ [S64 x.oc, S32 x.nr, S32 x.rv, cv, S64 us] := rfl
  rw [e, List.drop_append, List.drop_of_length_le (by simp [stl_len])]
  simp [stl_len, inl]
theorem rng_cys (o r : Bool) (T : Nat) : rangeO (some (.cells o r 74 (cyl b s x cv us) T)) 1 68 = some (stl s) := by
  rw [rangeO_c, if_pos (by rw [cyl_len]; omega), cyl_st]
theorem rng_cyi (o r : Bool) (T : Nat) : rangeO (some (.cells o r 74 (cyl b s x cv us) T)) 69 4 = some (inl x cv) := by
  rw [rangeO_c, if_pos (by rw [cyl_len]; omega), cyl_in]
end
def CyR (H : AHeap) (c b : Nat) (s : Sta) (x : Inp) (cv : Value) (us : Nat → Bool) : Prop := H.get c = some (.cells true false 74 (cyl b s x cv us) 110)
section
variable {H : AHeap} {c b : Nat} {s : Sta} {x : Inp} {cv : Value} {us : Nat → Bool}
theorem t88 (h : CyR H c b s x cv us) {n : Int} (hn : 0 ≤ n) : ∃ w H', ARun Go.Proofs.Try.prog 0 88 [ptr c 0, .int .i64 n] H w H' ∧ w = .bool (!hasB x.oc n) ∧ H' = H := by
  refine walk2 f88_ok f88_n ?_
  intro Q hq1 hq2
  unfold CyR at h
  simp (disch := first | assumption | omega | (simp only [LN] <;> omega) | (simp (disch := first | assumption | omega | (simp only [LN] <;> omega)) only [row_alloc, row_set]; assumption)) only [f88, W_block, P3, ↓reduceIte, reduceAdd, reduceEqDiff, reduceCtorEq, initFr, reduceLT, clsA, reduceLeDiff, reduceMul, reduceSub, reduceIte, h, cyl_69]
  refine callK (t50 _ hn) ?_
  rintro _ X ⟨rfl, hX⟩
  rw [hX]
  simp (disch := first | assumption | omega | (simp only [LN] <;> omega) | (simp (disch := first | assumption | omega | (simp only [LN] <;> omega)) only [row_alloc, row_set]; assumption)) only [W_block, P3, ↓reduceIte, reduceAdd, reduceEqDiff, reduceCtorEq, initFr, reduceLT, clsA, reduceLeDiff, reduceMul, reduceSub, reduceIte]
  exact hq2 _ _ ⟨_, rfl, rfl, rfl⟩
theorem t47 (h : CyR H c b s x cv us) {n : Int} (hn : 0 ≤ n) : ∃ w H', ARun Go.Proofs.Try.prog 0 47 [ptr c 0, .int .i64 n] H w H' ∧ w = .bool (hasB s.lo n) ∧ H' = H := by
  refine walk2 f47_ok f47_n ?_
  intro Q hq1 hq2
  unfold CyR at h
  simp (disch := first | assumption | omega | (simp only [LN] <;> omega) | (simp (disch := first | assumption | omega | (simp only [LN] <;> omega)) only [row_alloc, row_set]; assumption)) only [f47, W_block, P3, ↓reduceIte, reduceAdd, reduceEqDiff, reduceCtorEq, initFr, reduceLT, clsA, reduceLeDiff, reduceMul, reduceSub, reduceIte, h, cyl_1]
  refine callK (t50 _ hn) ?_
  rintro _ X ⟨rfl, hX⟩
  rw [hX]
  simp (disch := first | assumption | omega | (simp only [LN] <;> omega) | (simp (disch := first | assumption | omega | (simp only [LN] <;> omega)) only [row_alloc, row_set]; assumption)) only [W_block, P3, ↓reduceIte, reduceAdd, reduceEqDiff, reduceCtorEq, initFr, reduceLT, clsA, reduceLeDiff, reduceMul, reduceSub, reduceIte]
  exact hq2 _ _ ⟨_, rfl, rfl, rfl⟩
theorem t113 (h : CyR H c b s x cv us) {p T : Nat} {o r : Bool} (hp : H.get p = some (.cells o r 1 [ptr c 0] T)) {n : Int} (hn : 0 ≤ n) : ∃ w H', ARun Go.Proofs.Try.prog 0 113 [.int .i64 n, ptr p 0] H w H' ∧ w = .bool (hasB x.oc n) ∧ H' = H := by
  refine walk2 f113_ok f113_n ?_
  intro Q hq1 hq2
  simp (disch := first | assumption | omega | (simp only [LN] <;> omega) | (simp (disch := first | assumption | omega | (simp only [LN] <;> omega)) only [row_alloc, row_set]; assumption)) only [f113, W_block, P3, ↓reduceIte, reduceAdd, reduceEqDiff, reduceCtorEq, initFr, reduceLT, clsA, reduceLeDiff, reduceMul, reduceSub, reduceIte, hp]
  refine callK (t88 h hn) ?_
  rintro _ X ⟨rfl, hX⟩
  rw [hX]
  simp (disch := first | assumption | omega | (simp only [LN] <;> omega) | (simp (disch := first | assumption | omega | (simp only [LN] <;> omega)) only [row_alloc, row_set]; assumption)) only [W_block, P3, ↓reduceIte, reduceAdd, reduceEqDiff, reduceCtorEq, initFr, reduceLT, clsA, reduceLeDiff, reduceMul, reduceSub, reduceIte]
  exact hq2 _ _ ⟨.bool _, rfl, by simp, rfl⟩
end
theorem tr_rng {L : Ly} (he : checkE L = 0) {i : Nat} (hi : i < L.r.length) : ∀ z ∈ trk (ro L i), 0 ≤ z := by
  intro z hz
  exact ((check_good he (List.getElem_mem hi)).tr z (by rw [← ro_eq hi]; exact hz)).1
theorem tr_len {L : Ly} (he : checkE L = 0) {i : Nat} (hi : i < L.r.length) : (trk (ro L i)).length ≤ 1000000 := by
  have hgood := check_good he (List.getElem_mem hi)
  rw [← ro_eq hi] at hgood
  have := hgood.lim.p; have := hgood.lim.o; simp [trk]; omega
theorem nd_len {L : Ly} (he : checkE L = 0) {i : Nat} (hi : i < L.r.length) : (nds (ro L i)).length ≤ 32 := by
  have hgood := check_good he (List.getElem_mem hi)
  rw [← ro_eq hi] at hgood
  have := hgood.lim.q; have := hgood.lim.f; simp [nds]; omega
theorem MaA.row {H : AHeap} {L : Ly} {vl : Value} {ls : Nat → V3} (sl : Sl H 5 vl (arows L ls L.r.length)) {i : Nat} (hi : i < L.r.length) : nnS vl = true ∧ rowA H 5 vl i = some (arow L i (ls i)) := by
  obtain ⟨na, ra⟩ := sl.at_ (by omega) (i := i) (by simp [arows]; exact hi)
  refine ⟨na, ?_⟩
  rw [ra]; simp [arows]
theorem t87 {H : AHeap} {c b : Nat} {s : Sta} {x : Inp} {cv : Value} {us : Nat → Bool} {L : Ly} (h : CyR H c b s x cv us) (hm : MaA H b L) (he : checkE L = 0) {i : Nat} (hi : i < L.r.length) :
    ∃ w H', ARun Go.Proofs.Try.prog 0 87 [ptr c 0, .int .i64 (i : Nat)] H w H' ∧ w = .bool (frD x (ro L i)) ∧ H' = H := by
  suffices h' : ∃ w H', ARun Go.Proofs.Try.prog 0 87 [ptr c 0, .int .i64 (i : Nat)] H w H' ∧ w = .bool (frD x (ro L i)) ∧ Keeps H H' by
    obtain ⟨_, _, a, rfl, k⟩ := h'
    exact ⟨_, _, a.gc0 k (.inr (.bool _)), rfl, rfl⟩
  refine walk2 f87_ok f87_n ?_
  intro Q hq1 hq2
  have lr := (may_lim (check_may he)).r
  obtain ⟨vl, vi, ls, own, room, T, gb, sl, ok, si⟩ := hm.x
  have isl := Sl.is sl
  have lenl : lenS vl = L.r.length := by have := Sl.len sl; simpa [arows] using this
  have e0 : (0 : Int) ≤ (i : Int) := by omega
  have e1 : (i : Int) < ((L.r.length : Nat) : Int) := by omega
  obtain ⟨K0, hK0⟩ : ∃ X, X = H.alloc (.cells true false 1 [ptr c 0] 108) := ⟨_, rfl⟩
  have k0 : Keeps H K0 := by rw [hK0]; exact (Keeps.refl H).alloc _
  have gp0 : K0.get H.n = some (.cells true false 1 [ptr c 0] 108) := by rw [hK0]; exact AHeap.get_alloc_new H _
  have h0 : CyR K0 c b s x cv us := k0.at_ h
  have gb0 := k0.at_ gb
  obtain ⟨na, ra⟩ := MaA.row (sl.keeps k0) hi
  have oki := (ok i hi).keeps k0
  have gc0 := h0
  unfold CyR at gc0
  unfold amc at gb0
  unfold arow at ra
  have tF := t51 oki.t.s (tr_len he hi) (p := fun z => hasB x.oc z) (g := 113) (fi := #[]) (ca := #[ptr H.n 0]) (fun z hz => t113 h0 gp0 (tr_rng he hi z hz))
  simp (disch := first | assumption | omega | (simp only [LN] <;> omega) | (simp (disch := first | assumption | omega | (simp only [LN] <;> omega)) only [row_alloc, row_set]; assumption)) only [f87, W_block, P3, ↓reduceIte, reduceAdd, reduceEqDiff, reduceCtorEq, initFr, reduceLT, clsA, reduceLeDiff, reduceMul, reduceSub, reduceIte]
  rw [← hK0]
  simp (disch := first | assumption | omega | (simp only [LN] <;> omega) | (simp (disch := first | assumption | omega | (simp only [LN] <;> omega)) only [row_alloc, row_set]; assumption)) only [W_block, P3, ↓reduceIte, reduceAdd, reduceEqDiff, reduceCtorEq, initFr, reduceLT, clsA, reduceLeDiff, reduceMul, reduceSub, reduceIte, gp0, gc0, cyl_0, gb0, isl, lenl, na, ra, e0, e1, a_load1v]
  refine callK tF ?_
  rintro _ X ⟨rfl, hX⟩
  rw [hX]
  simp (disch := first | assumption | omega | (simp only [LN] <;> omega) | (simp (disch := first | assumption | omega | (simp only [LN] <;> omega)) only [row_alloc, row_set]; assumption)) only [W_block, P3, ↓reduceIte, reduceAdd, reduceEqDiff, reduceCtorEq, initFr, reduceLT, clsA, reduceLeDiff, reduceMul, reduceSub, reduceIte]
  refine hq2 _ _ ⟨.bool _, rfl, ?_, k0⟩
  unfold frD
  rw [← List.not_any_eq_all_not]
theorem t89 {H : AHeap} {x : Inp} {p q T T' : Nat} {o r o' r' : Bool} (hp : H.get p = some (.cells o r 1 [S32 (sideR x)] T)) (hq : H.get q = some (.cells o' r' 1 [S32 (sideN x)] T')) {z : Int × Bool} (h : 0 ≤ z.1 ∧ z.1 < 32) :
    ∃ w H', ARun Go.Proofs.Try.prog 0 89 [.agg (nRow z).toArray, ptr p 0, ptr q 0] H w H' ∧ w = .bool (!(if z.2 then sideR x z.1.toNat else sideN x z.1.toNat)) ∧ H' = H := by
  suffices h' : ∃ w H', ARun Go.Proofs.Try.prog 0 89 [.agg (nRow z).toArray, ptr p 0, ptr q 0] H w H' ∧ w = .bool (!(if z.2 then sideR x z.1.toNat else sideN x z.1.toNat)) ∧ Keeps H H' by
    obtain ⟨_, _, a, rfl, k⟩ := h'
    exact ⟨_, _, a.gc0 k (.inr (.bool _)), rfl, rfl⟩
  refine walk2 f89_ok f89_n ?_
  intro Q hq1 hq2
  obtain ⟨zp, zb⟩ := z
  simp only at h
  have kA := (Keeps.refl H).alloc (.cells true false 2 [.int .i64 zp, .bool zb] 68)
  have lp := AHeap.get_lt hp
  have lq := AHeap.get_lt hq
  have np : ¬ p = H.n := by omega
  have nq : ¬ q = H.n := by omega
  have e1 : S64 (fun i => decide (i < 32) && sideR x i) = S64 (p64 (sideR x)) := rfl
  have e2 : S64 (fun i => decide (i < 32) && sideN x i) = S64 (p64 (sideN x)) := rfl
  unfold nRow
  cases zb with
  | true =>
    simp (disch := first | assumption | omega | (simp only [LN] <;> omega) | (simp (disch := first | assumption | omega | (simp only [LN] <;> omega)) only [row_alloc, row_set]; assumption)) only [f89, W_block, P3, ↓reduceIte, reduceAdd, reduceEqDiff, reduceCtorEq, initFr, reduceLT, clsA, reduceLeDiff, reduceMul, reduceSub, reduceIte, hp, hq, lp, lq, np, nq, s_up]
    rw [e1]
    refine callK (t50 _ h.1) ?_
    rintro _ X ⟨rfl, hX⟩
    rw [hX, has_p64 _ h.1 h.2]
    simp (disch := first | assumption | omega | (simp only [LN] <;> omega) | (simp (disch := first | assumption | omega | (simp only [LN] <;> omega)) only [row_alloc, row_set]; assumption)) only [W_block, P3, ↓reduceIte, reduceAdd, reduceEqDiff, reduceCtorEq, initFr, reduceLT, clsA, reduceLeDiff, reduceMul, reduceSub, reduceIte]
    exact hq2 _ _ ⟨.bool _, rfl, rfl, kA⟩
  | false =>
    simp (disch := first | assumption | omega | (simp only [LN] <;> omega) | (simp (disch := first | assumption | omega | (simp only [LN] <;> omega)) only [row_alloc, row_set]; assumption)) only [f89, W_block, P3, ↓reduceIte, reduceAdd, reduceEqDiff, reduceCtorEq, initFr, reduceLT, clsA, reduceLeDiff, reduceMul, reduceSub, reduceIte, hp, hq, lp, lq, np, nq, s_up]
    rw [e2]
    refine callK (t50 _ h.1) ?_
    rintro _ X ⟨rfl, hX⟩
    rw [hX, has_p64 _ h.1 h.2]
    simp (disch := first | assumption | omega | (simp only [LN] <;> omega) | (simp (disch := first | assumption | omega | (simp only [LN] <;> omega)) only [row_alloc, row_set]; assumption)) only [W_block, P3, ↓reduceIte, reduceAdd, reduceEqDiff, reduceCtorEq, initFr, reduceLT, clsA, reduceLeDiff, reduceMul, reduceSub, reduceIte]
    exact hq2 _ _ ⟨.bool _, rfl, rfl, kA⟩
set_option maxHeartbeats 1000000 in
theorem t49 {H : AHeap} {c b : Nat} {s : Sta} {x : Inp} {cv : Value} {us : Nat → Bool} {L : Ly} (h : CyR H c b s x cv us) (hm : MaA H b L) (he : checkE L = 0) (hcv : isS cv = true) {i : Nat} (hi : i < L.r.length) :
    ∃ w H', ARun Go.Proofs.Try.prog 0 49 [ptr c 0, .int .i64 (i : Nat)] H w H' ∧ w = .bool (proD L x s i) ∧ H' = H := by
  suffices h' : ∃ w H', ARun Go.Proofs.Try.prog 0 49 [ptr c 0, .int .i64 (i : Nat)] H w H' ∧ w = .bool (proD L x s i) ∧ Keeps H H' by
    obtain ⟨_, _, a, rfl, k⟩ := h'
    exact ⟨_, _, a.gc0 k (.inr (.bool _)), rfl, rfl⟩
  refine walk2 f49_ok f49_n ?_
  intro Q hq1 hq2
  have lr := (may_lim (check_may he)).r
  obtain ⟨vl, vi, ls, own, room, T, gb, sl, ok, si⟩ := hm.x
  have isl := Sl.is sl
  have lenl : lenS vl = L.r.length := by have := Sl.len sl; simpa [arows] using this
  have e0 : (0 : Int) ≤ (i : Int) := by omega
  have e1 : (i : Int) < ((L.r.length : Nat) : Int) := by omega
  have iN : i < 64 := by omega
  have gc := h
  unfold CyR at gc
  have hp : proD L x s i = ((((s.lo i && !s.us i) && !s.ca i) && frD x (ro L i)) && (nds (ro L i)).all fun z => if z.2 then sideR x z.1.toNat else sideN x z.1.toNat) := rfl
  simp (disch := first | assumption | omega | (simp only [LN] <;> omega) | (simp (disch := first | assumption | omega | (simp only [LN] <;> omega)) only [row_alloc, row_set]; assumption)) only [f49, W_block, P3, ↓reduceIte, reduceAdd, reduceEqDiff, reduceCtorEq, initFr, reduceLT, clsA, reduceLeDiff, reduceMul, reduceSub, reduceIte]
  refine callK (t47 h e0) ?_
  rintro _ X ⟨rfl, hX⟩
  rw [hX, has_nat _ iN]
  cases h1 : s.lo i with
  | false =>
    rw [h1] at hp
    simp (disch := first | assumption | omega | (simp only [LN] <;> omega) | (simp (disch := first | assumption | omega | (simp only [LN] <;> omega)) only [row_alloc, row_set]; assumption)) only [W_block, P3, ↓reduceIte, reduceAdd, reduceEqDiff, reduceCtorEq, initFr, reduceLT, clsA, reduceLeDiff, reduceMul, reduceSub, reduceIte]
    exact hq2 _ _ ⟨.bool _, rfl, by rw [hp]; rfl, Keeps.refl _⟩
  | true =>
  rw [h1] at hp
  simp (disch := first | assumption | omega | (simp only [LN] <;> omega) | (simp (disch := first | assumption | omega | (simp only [LN] <;> omega)) only [row_alloc, row_set]; assumption)) only [W_block, P3, ↓reduceIte, reduceAdd, reduceEqDiff, reduceCtorEq, initFr, reduceLT, clsA, reduceLeDiff, reduceMul, reduceSub, reduceIte, gc, cyl_2]
  refine callK (t50 _ e0) ?_
  rintro _ X ⟨rfl, hX⟩
  rw [hX, has_nat _ iN]
  cases h2 : s.us i with
  | true =>
    rw [h2] at hp
    simp (disch := first | assumption | omega | (simp only [LN] <;> omega) | (simp (disch := first | assumption | omega | (simp only [LN] <;> omega)) only [row_alloc, row_set]; assumption)) only [W_block, P3, ↓reduceIte, reduceAdd, reduceEqDiff, reduceCtorEq, initFr, reduceLT, clsA, reduceLeDiff, reduceMul, reduceSub, reduceIte]
    exact hq2 _ _ ⟨.bool _, rfl, by rw [hp]; rfl, Keeps.refl _⟩
  | false =>
  rw [h2] at hp
  simp (disch := first | assumption | omega | (simp only [LN] <;> omega) | (simp (disch := first | assumption | omega | (simp only [LN] <;> omega)) only [row_alloc, row_set]; assumption)) only [W_block, P3, ↓reduceIte, reduceAdd, reduceEqDiff, reduceCtorEq, initFr, reduceLT, clsA, reduceLeDiff, reduceMul, reduceSub, reduceIte, gc, cyl_3]
  refine callK (t50 _ e0) ?_
  rintro _ X ⟨rfl, hX⟩
  rw [hX, has_nat _ iN]
  cases h3 : s.ca i with
  | true =>
    rw [h3] at hp
    simp (disch := first | assumption | omega | (simp only [LN] <;> omega) | (simp (disch := first | assumption | omega | (simp only [LN] <;> omega)) only [row_alloc, row_set]; assumption)) only [W_block, P3, ↓reduceIte, reduceAdd, reduceEqDiff, reduceCtorEq, initFr, reduceLT, clsA, reduceLeDiff, reduceMul, reduceSub, reduceIte]
    exact hq2 _ _ ⟨.bool _, rfl, by rw [hp]; rfl, Keeps.refl _⟩
  | false =>
  rw [h3] at hp
  simp (disch := first | assumption | omega | (simp only [LN] <;> omega) | (simp (disch := first | assumption | omega | (simp only [LN] <;> omega)) only [row_alloc, row_set]; assumption)) only [W_block, P3, ↓reduceIte, reduceAdd, reduceEqDiff, reduceCtorEq, initFr, reduceLT, clsA, reduceLeDiff, reduceMul, reduceSub, reduceIte]
  refine callK (t87 h hm he hi) ?_
  rintro _ X ⟨rfl, hX⟩
  rw [hX]
  cases h4 : frD x (ro L i) with
  | false =>
    rw [h4] at hp
    simp (disch := first | assumption | omega | (simp only [LN] <;> omega) | (simp (disch := first | assumption | omega | (simp only [LN] <;> omega)) only [row_alloc, row_set]; assumption)) only [W_block, P3, ↓reduceIte, reduceAdd, reduceEqDiff, reduceCtorEq, initFr, reduceLT, clsA, reduceLeDiff, reduceMul, reduceSub, reduceIte]
    exact hq2 _ _ ⟨.bool _, rfl, by rw [hp]; rfl, Keeps.refl _⟩
  | true =>
  rw [h4] at hp
  have hinl : inl x cv = [S64 x.oc, S32 x.nr, S32 x.rv, cv] := rfl
  have tS := fun K => t37 (H := K) (x := x) (cv := cv) hcv
  simp (disch := first | assumption | omega | (simp only [LN] <;> omega) | (simp (disch := first | assumption | omega | (simp only [LN] <;> omega)) only [row_alloc, row_set]; assumption)) only [W_block, P3, ↓reduceIte, reduceAdd, reduceEqDiff, reduceCtorEq, initFr, reduceLT, clsA, reduceLeDiff, reduceMul, reduceSub, reduceIte, gc, rng_cyi]
  refine callK (tS _) ?_
  rintro _ X ⟨rfl, hX⟩
  rw [hX]
  obtain ⟨K0, hK0⟩ : ∃ X, X = (H.alloc (.cells true false 1 [S32 (sideN x)] 30)).alloc (.cells true false 1 [S32 (sideR x)] 30) := ⟨_, rfl⟩
  have k0 : Keeps H K0 := by rw [hK0]; exact ((Keeps.refl H).alloc _).alloc _
  have gp0 : K0.get H.n = some (.cells true false 1 [S32 (sideN x)] 30) := by rw [hK0]; exact ((Keeps.refl _).alloc _).at_ (AHeap.get_alloc_new H _)
  have gq0 : K0.get (H.n + 1) = some (.cells true false 1 [S32 (sideR x)] 30) := by rw [hK0]; exact AHeap.get_alloc_new (H.alloc _) _
  have gc0 := k0.at_ gc
  have gb0 := k0.at_ gb
  obtain ⟨na, ra⟩ := MaA.row (sl.keeps k0) hi
  have oki := (ok i hi).keeps k0
  unfold amc at gb0
  unfold arow at ra
  have tF := t53 oki.n.s (Nat.le_trans (nd_len he hi) (by omega)) (p := fun z => !(if z.2 then sideR x z.1.toNat else sideN x z.1.toNat)) (g := 89) (fi := #[]) (ca := #[ptr (H.n + 1) 0, ptr H.n 0]) (fun z hz => t89 gq0 gp0 (nd_rng he hi z hz))
  simp (disch := first | assumption | omega | (simp only [LN] <;> omega) | (simp (disch := first | assumption | omega | (simp only [LN] <;> omega)) only [row_alloc, row_set]; assumption)) only [W_block, P3, ↓reduceIte, reduceAdd, reduceEqDiff, reduceCtorEq, initFr, reduceLT, clsA, reduceLeDiff, reduceMul, reduceSub, reduceIte, o_s32, one_s32]
  rw [← hK0]
  simp (disch := first | assumption | omega | (simp only [LN] <;> omega) | (simp (disch := first | assumption | omega | (simp only [LN] <;> omega)) only [row_alloc, row_set]; assumption)) only [W_block, P3, ↓reduceIte, reduceAdd, reduceEqDiff, reduceCtorEq, initFr, reduceLT, clsA, reduceLeDiff, reduceMul, reduceSub, reduceIte, gc0, cyl_0, gb0, isl, lenl, na, ra, e0, e1, a_load1v]
  refine callK tF ?_
  rintro _ X ⟨rfl, hX⟩
  rw [hX]
  simp (disch := first | assumption | omega | (simp only [LN] <;> omega) | (simp (disch := first | assumption | omega | (simp only [LN] <;> omega)) only [row_alloc, row_set]; assumption)) only [W_block, P3, ↓reduceIte, reduceAdd, reduceEqDiff, reduceCtorEq, initFr, reduceLT, clsA, reduceLeDiff, reduceMul, reduceSub, reduceIte]
  refine hq2 _ _ ⟨.bool _, rfl, ?_, k0⟩
  rw [hp]
  have en : ∀ l : List (Int × Bool), (!(l.any fun z => !(if z.2 then sideR x z.1.toNat else sideN x z.1.toNat))) = l.all fun z => if z.2 then sideR x z.1.toNat else sideN x z.1.toNat := fun l => by
    rw [List.not_any_eq_all_not]; congr 1; funext z; simp
  rw [← en]; rfl
end Go.AM.Fd

set_option linter.unusedSimpArgs false
set_option linter.unusedVariables false
set_option maxRecDepth 8000
namespace Go.AM.Fd
open Nat (reduceAdd reduceEqDiff reduceLT reduceLeDiff reduceMul reduceSub)
open Go.Proofs Go.AM.F
theorem pa_rng {L : Ly} (he : checkE L = 0) {i : Nat} (hi : i < L.r.length) : 0 ≤ (ro L i).path.getD 0 0 := by
  have hg := check_good he (List.getElem_mem hi)
  rw [← ro_eq hi] at hg
  have hne := hg.ne
  refine (hg.tr _ ?_).1
  refine List.mem_append_left _ ?_
  rw [List.getD_eq_getElem?_getD, List.getElem?_eq_getElem hne]
  exact List.getElem_mem hne
set_option maxHeartbeats 4000000 in
theorem t48 {H : AHeap} {c b : Nat} {s : Sta} {x : Inp} {cv : Value} {us : Nat → Bool} {L : Ly} (h : CyR H c b s x cv us) (hm : MaA H b L) (he : checkE L = 0) (hti : ∀ j, s.ti j < 256) {i : Nat} (hi : i < L.r.length) :
    ∃ w H', ARun Go.Proofs.Try.prog 0 48 [ptr c 0, .int .i64 (i : Nat)] H w H' ∧ Chg [c] H H' ∧ CyR H' c b (roD L x us s i) x cv us := by
  refine walk2 f48_ok f48_n ?_
  intro Q hq1 hq2
  have lr := (may_lim (check_may he)).r
  obtain ⟨vl, vi, ls, own, room, T, gb, sl, ok, si⟩ := hm.x
  have isl := Sl.is sl
  have lenl : lenS vl = L.r.length := by have := Sl.len sl; simpa [arows] using this
  have e0 : (0 : Int) ≤ (i : Int) := by omega
  have e1 : (i : Int) < ((L.r.length : Nat) : Int) := by omega
  have e64 : (i : Int) < 64 := by omega
  have iN : i < 64 := by omega
  have gc := h
  unfold CyR at gc
  have cl := AHeap.get_lt gc
  obtain ⟨na, ra⟩ := MaA.row sl hi
  have oki := ok i hi
  have w1 := one_isS (Sl.is oki.t.s)
  have w2 := one_isS (Sl.is oki.n.s)
  have w3 := one_isS (Sl.is oki.c.s)
  have w4 : ∀ x : Int, one1 (Value.int .i64 x) = True := fun x => by simp [one1, one_int]
  obtain ⟨K0, hK0⟩ : ∃ X, X = H.alloc (.cells true false 5 (arow L i (ls i)) 107) := ⟨_, rfl⟩
  have k0 : Keeps H K0 := by rw [hK0]; exact (Keeps.refl H).alloc _
  have gr0 : K0.get H.n = some (.cells true false 5 (arow L i (ls i)) 107) := by rw [hK0]; exact AHeap.get_alloc_new H _
  have gc0 := k0.at_ gc
  have h0 : CyR K0 c b s x cv us := gc0
  have hm0 := hm.keeps k0
  have gcx : ∀ o, (K0.set c o).get c = some o := fun o => AHeap.get_set_same gc0 o
  have cl0 := AHeap.get_lt gc0
  have rl0 := AHeap.get_lt gr0
  have hro : roD L x us s i = (if us i then (if frD x (ro L i) then relS s i else s)
    else if hasB x.oc ((ro L i).path.getD 0 0) then { s with us := fun j => s.us j || decide (j = i) }
    else if s.ca i && decide (0 < s.ti i) then { s with ti := upd s.ti i (s.ti i - 1) }
    else if s.ca i && frD x (ro L i) then relS s i
    else s) := rfl
  have hrel : relS s i = ⟨fun j => s.lo j && !decide (j = i), fun j => s.us j && !decide (j = i), fun j => s.ca j && !decide (j = i), upd s.ti i 0, s.po⟩ := rfl
  have fin : ∀ {fr : List Value} (t : Sta), roD L x us s i = t → resO f48.res fr (K0.set c (.cells true false 74 (cyl b t x cv us) 110)) = some (.tuple #[]) → Q .normal fr (K0.set c (.cells true false 74 (cyl b t x cv us) 110)) := fun t e hr =>
    hq1 _ _ ⟨_, hr, (k0.chg [c]).trans (Chg.set K0 cl0 _) (by simp), by unfold CyR; rw [e]; exact gcx _⟩
  have fin0 : ∀ {fr : List Value}, roD L x us s i = s → resO f48.res fr K0 = some (.tuple #[]) → Q .normal fr K0 := fun e hr =>
    hq1 _ _ ⟨_, hr, k0.chg [c], by rw [e]; exact h0⟩
  unfold amc at gb
  unfold arow at ra gr0 hK0
  have sh := s_shl1 iN
  have hp0 := pa_rng he hi
  have z0 := fun t : Sta => cys_t0 (b := b) (s := t) (x := x) (cv := cv) (us := us) iN
  have z1 := cys_t (b := b) (s := s) (x := x) (cv := cv) (us := us) iN (s.ti i - 1)
  have ct := cyl_t (b := b) (s := s) (x := x) (cv := cv) (us := us) iN
  have hll : 4 + i < 74 := by omega
  have rel : ∀ {fr : List Value}, roD L x us s i = relS s i → resO f48.res fr (K0.set c (.cells true false 74 (cyl b ⟨fun j => s.lo j && !decide (j = i), fun j => s.us j && !decide (j = i), fun j => s.ca j && !decide (j = i), upd s.ti i 0, s.po⟩ x cv us) 110)) = some (.tuple #[]) → Q .normal fr (K0.set c (.cells true false 74 (cyl b ⟨fun j => s.lo j && !decide (j = i), fun j => s.us j && !decide (j = i), fun j => s.ca j && !decide (j = i), upd s.ti i 0, s.po⟩ x cv us) 110)) := fun e hr => fin _ (e.trans hrel) hr
  simp (disch := first | assumption | omega | (simp only [LN] <;> omega) | (simp (disch := first | assumption | omega | (simp only [LN] <;> omega)) only [row_alloc, row_set]; assumption)) only [ f48, P3, ↓reduceIte, reduceAdd, reduceEqDiff, reduceCtorEq, initFr, reduceLT, clsA, reduceLeDiff, reduceMul, reduceSub, reduceIte, gc, cyl_0, gb, isl, lenl, na, ra, e0, e1, a_loadnvf, w1, w2, w3, w4]
  rw [← hK0]
  simp (disch := first | assumption | omega | (simp only [LN] <;> omega) | (simp (disch := first | assumption | omega | (simp only [LN] <;> omega)) only [row_alloc, row_set]; assumption)) only [W_block, P3, ↓reduceIte, reduceAdd, reduceEqDiff, reduceCtorEq, initFr, reduceLT, clsA, reduceLeDiff, reduceMul, reduceSub, reduceIte, gc0, cyl_73]
  refine callK (t50 _ e0) ?_
  rintro _ X ⟨rfl, hX⟩
  rw [hX, has_nat _ iN]
  cases h1 : us i with
  | true =>
    rw [h1] at hro
    simp (disch := first | assumption | omega | (simp only [LN] <;> omega) | (simp (disch := first | assumption | omega | (simp only [LN] <;> omega)) only [row_alloc, row_set]; assumption)) only [W_block, P3, ↓reduceIte, reduceAdd, reduceEqDiff, reduceCtorEq, initFr, reduceLT, clsA, reduceLeDiff, reduceMul, reduceSub, reduceIte]
    refine callK (t87 h0 hm0 he hi) ?_
    rintro _ X ⟨rfl, hX⟩
    rw [hX]
    cases h2 : frD x (ro L i) with
    | true =>
      rw [h2] at hro
      simp (disch := first | assumption | omega | (simp only [LN] <;> omega) | (simp (disch := first | assumption | omega | (simp only [LN] <;> omega)) only [row_alloc, row_set]; assumption)) only [W_block, P3, ↓reduceIte, reduceAdd, reduceEqDiff, reduceCtorEq, initFr, reduceLT, clsA, reduceLeDiff, reduceMul, reduceSub, reduceIte, gc0, gcx, cl0, cyl_len, cyl_1, cyl_2, cyl_3, cys_1, cys_2, cys_3, z0, hll, sh, s_andn, o_s64, one_s64, e0, e64, a_iaddrp, Int.toNat_natCast, Nat.mul_one]
      exact rel hro rfl
    | false =>
      rw [h2] at hro
      simp (disch := first | assumption | omega | (simp only [LN] <;> omega) | (simp (disch := first | assumption | omega | (simp only [LN] <;> omega)) only [row_alloc, row_set]; assumption)) only [W_block, P3, ↓reduceIte, reduceAdd, reduceEqDiff, reduceCtorEq, initFr, reduceLT, clsA, reduceLeDiff, reduceMul, reduceSub, reduceIte]
      exact fin0 hro rfl
  | false =>
  rw [h1] at hro
  simp (disch := first | assumption | omega | (simp only [LN] <;> omega) | (simp (disch := first | assumption | omega | (simp only [LN] <;> omega)) only [row_alloc, row_set]; assumption)) only [W_block, P3, ↓reduceIte, reduceAdd, reduceEqDiff, reduceCtorEq, initFr, reduceLT, clsA, reduceLeDiff, reduceMul, reduceSub, reduceIte, gr0, rl0]
  refine callK (t88 h0 hp0) ?_
  rintro _ X ⟨rfl, hX⟩
  rw [hX]
  cases h2 : hasB x.oc ((ro L i).path.getD 0 0) with
  | true =>
    rw [h2] at hro
    simp (disch := first | assumption | omega | (simp only [LN] <;> omega) | (simp (disch := first | assumption | omega | (simp only [LN] <;> omega)) only [row_alloc, row_set]; assumption)) only [W_block, P3, ↓reduceIte, reduceAdd, reduceEqDiff, reduceCtorEq, initFr, reduceLT, clsA, reduceLeDiff, reduceMul, reduceSub, reduceIte, gc0, gcx, cl0, cyl_len, cyl_1, cyl_2, cyl_3, cys_1, cys_2, cys_3, sh, s_or, o_s64, one_s64, e0, e64, a_iaddrp, Int.toNat_natCast, Nat.mul_one]
    exact fin _ hro rfl
  | false =>
  rw [h2] at hro
  simp (disch := first | assumption | omega | (simp only [LN] <;> omega) | (simp (disch := first | assumption | omega | (simp only [LN] <;> omega)) only [row_alloc, row_set]; assumption)) only [W_block, P3, ↓reduceIte, reduceAdd, reduceEqDiff, reduceCtorEq, initFr, reduceLT, clsA, reduceLeDiff, reduceMul, reduceSub, reduceIte, gc0, cyl_3]
  refine callK (t50 _ e0) ?_
  rintro _ X ⟨rfl, hX⟩
  rw [hX, has_nat _ iN]
  cases h3 : s.ca i with
  | false =>
    rw [h3] at hro
    simp (disch := first | assumption | omega | (simp only [LN] <;> omega) | (simp (disch := first | assumption | omega | (simp only [LN] <;> omega)) only [row_alloc, row_set]; assumption)) only [W_block, P3, ↓reduceIte, reduceAdd, reduceEqDiff, reduceCtorEq, initFr, reduceLT, clsA, reduceLeDiff, reduceMul, reduceSub, reduceIte]
    exact fin0 hro rfl
  | true =>
  rw [h3] at hro
  by_cases hp : 0 < s.ti i
  · have hp' : (0 : Int) < ((s.ti i : Nat) : Int) := by omega
    have hsub : IntKind.u8.wrap (((s.ti i : Nat) : Int) - 1) = ((s.ti i - 1 : Nat) : Int) := by have := hti i; rw [wrap_u8]; omega
    simp (disch := first | assumption | omega | (simp only [LN] <;> omega) | (simp (disch := first | assumption | omega | (simp only [LN] <;> omega)) only [row_alloc, row_set]; assumption)) only [W_block, P3, ↓reduceIte, reduceAdd, reduceEqDiff, reduceCtorEq, initFr, reduceLT, clsA, reduceLeDiff, reduceMul, reduceSub, reduceIte, gc0, gcx, cl0, cyl_len, ct, hp', hsub, z1, hll, e0, e64, a_iaddrp, Int.toNat_natCast, Nat.mul_one]
    exact fin _ (by rw [hro]; simp [hp]) rfl
  · have hp' : ¬ (0 : Int) < ((s.ti i : Nat) : Int) := by omega
    simp (disch := first | assumption | omega | (simp only [LN] <;> omega) | (simp (disch := first | assumption | omega | (simp only [LN] <;> omega)) only [row_alloc, row_set]; assumption)) only [W_block, P3, ↓reduceIte, reduceAdd, reduceEqDiff, reduceCtorEq, initFr, reduceLT, clsA, reduceLeDiff, reduceMul, reduceSub, reduceIte, gc0, gcx, cl0, cyl_len, ct, hp', hll, e0, e64, a_iaddrp, Int.toNat_natCast, Nat.mul_one]
    refine callK (t87 h0 hm0 he hi) ?_
    rintro _ X ⟨rfl, hX⟩
    rw [hX]
    cases h4 : frD x (ro L i) with
    | true =>
      rw [h4] at hro
      simp (disch := first | assumption | omega | (simp only [LN] <;> omega) | (simp (disch := first | assumption | omega | (simp only [LN] <;> omega)) only [row_alloc, row_set]; assumption)) only [W_block, P3, ↓reduceIte, reduceAdd, reduceEqDiff, reduceCtorEq, initFr, reduceLT, clsA, reduceLeDiff, reduceMul, reduceSub, reduceIte, gc0, gcx, cl0, cyl_len, cyl_1, cyl_2, cyl_3, cys_1, cys_2, cys_3, z0, hll, sh, s_andn, o_s64, one_s64, e0, e64, a_iaddrp, Int.toNat_natCast, Nat.mul_one]
      exact rel (by rw [hro]; simp [hp]) rfl
    | false =>
      rw [h4] at hro
      simp (disch := first | assumption | omega | (simp only [LN] <;> omega) | (simp (disch := first | assumption | omega | (simp only [LN] <;> omega)) only [row_alloc, row_set]; assumption)) only [W_block, P3, ↓reduceIte, reduceAdd, reduceEqDiff, reduceCtorEq, initFr, reduceLT, clsA, reduceLeDiff, reduceMul, reduceSub, reduceIte]
      exact fin0 (by rw [hro]; simp [hp]) rfl
end Go.AM.Fd

set_option linter.unusedSimpArgs false
set_option linter.unusedVariables false
set_option maxRecDepth 8000
namespace Go.AM.Fd
open Nat (reduceAdd reduceEqDiff reduceLT reduceLeDiff reduceMul reduceSub)
open Go.Proofs Go.AM.F
theorem lie_rng {L : Ly} (he : checkE L = 0) {m : Nat} (hm : m < L.p.length) : 0 ≤ (L.p.getD m ([], 0)).2 := by
  have := check_may he
  simp only [mayB, inB, Bool.and_eq_true, Bool.not_eq_true', List.all_eq_true, decide_eq_true_eq] at this
  exact (this.2.2.1.1 _ (getD_mem hm)).1
theorem sig_rng {L : Ly} (he : checkE L = 0) {m : Nat} (hm : m < L.g.length) : 0 ≤ (L.g.getD m ([], 0)).2 := by
  have := check_may he
  simp only [mayB, inB, Bool.and_eq_true, Bool.not_eq_true', List.all_eq_true, decide_eq_true_eq] at this
  exact (this.2.2.1.2 _ (getD_mem hm)).1
def setA (L : Ly) (x : Inp) (s : Sta) (i : Nat) : Sta := if setD L x s i then { s with lo := fun j => s.lo j || decide (j = i), po := poD (nds (ro L i)) s.po } else s
theorem po_or (f : Nat → Bool) (m : Nat) : (fun p => f p || decide (p = m)) = fun p => if p = m then true else f p := by
  funext p; by_cases e : p = m <;> simp [e]
theorem po_an (f : Nat → Bool) (m : Nat) : (fun p => f p && !decide (p = m)) = fun p => if p = m then false else f p := by
  funext p; by_cases e : p = m <;> simp [e]
theorem set_cf {L : Ly} {s : Sta} {i : Nat} (hL : L.r.length ≤ 64) (h : s.lo i = false) : (List.range L.r.length).all (fun k => !(s.lo k && cf L i k)) = !((cfl L i L.r.length).any fun k => hasB s.lo k) := by
  rw [cfl_any hL, List.not_any_eq_all_not, Bool.eq_iff_iff, List.all_eq_true, List.all_eq_true]
  constructor
  · intro h2 k hk
    have := h2 k hk
    cases h3 : s.lo k <;> simp_all
  · intro h2 k hk
    have := h2 k hk
    by_cases e : i = k
    · subst e; simp [h]
    · simp [e] at this; cases h3 : s.lo k <;> simp_all
set_option maxHeartbeats 4000000 in
theorem t84 {H : AHeap} {c b : Nat} {s : Sta} {x : Inp} {cv : Value} {us : Nat → Bool} {L : Ly} (h : CyR H c b s x cv us) (hm : MaA H b L) (he : checkE L = 0) {i : Nat} (hi : i < L.r.length) :
    ∃ w H', ARun Go.Proofs.Try.prog 0 84 [ptr c 0, .int .i64 (i : Nat)] H w H' ∧ Chg [c] H H' ∧ CyR H' c b (setA L x s i) x cv us := by
  refine walk2 f84_ok f84_n ?_
  intro Q hq1 hq2
  have lr := (may_lim (check_may he)).r
  have lpp := (may_lim (check_may he)).p
  obtain ⟨vl, vi, ls, own, room, T, gb, sl, ok, si⟩ := hm.x
  have isl := Sl.is sl
  have lenl : lenS vl = L.r.length := by have := Sl.len sl; simpa [arows] using this
  have e0 : (0 : Int) ≤ (i : Int) := by omega
  have e1 : (i : Int) < ((L.r.length : Nat) : Int) := by omega
  have iN : i < 64 := by omega
  have gc := h
  unfold CyR at gc
  have cl := AHeap.get_lt gc
  obtain ⟨na, ra⟩ := MaA.row sl hi
  have oki := ok i hi
  have w1 := one_isS (Sl.is oki.t.s)
  have w2 := one_isS (Sl.is oki.n.s)
  have w3 := one_isS (Sl.is oki.c.s)
  have w4 : ∀ x : Int, one1 (Value.int .i64 x) = True := fun x => by simp [one1, one_int]
  obtain ⟨K0, hK0⟩ : ∃ X, X = H.alloc (.cells true false 5 (arow L i (ls i)) 107) := ⟨_, rfl⟩
  have k0 : Keeps H K0 := by rw [hK0]; exact (Keeps.refl H).alloc _
  have gr0 : K0.get H.n = some (.cells true false 5 (arow L i (ls i)) 107) := by rw [hK0]; exact AHeap.get_alloc_new H _
  have gc0 := k0.at_ gc
  have h0 : CyR K0 c b s x cv us := gc0
  have hm0 := hm.keeps k0
  have gb0 := k0.at_ gb
  have oki0 := oki.keeps k0
  have si0 := si.keeps k0
  have cl0 := AHeap.get_lt gc0
  have rl0 := AHeap.get_lt gr0
  have hset : setD L x s i = ((!s.lo i && frD x (ro L i)) && ((List.range L.r.length).all (fun k => !(s.lo k && cf L i k)) && (nds (ro L i)).all fun z => !((s.po z.1.toNat != z.2) && hasB x.oc (L.p.getD z.1.toNat ([], 0)).2))) := rfl
  have hsA : setA L x s i = if setD L x s i then { s with lo := fun j => s.lo j || decide (j = i), po := poD (nds (ro L i)) s.po } else s := rfl
  have no : ∀ {fr : List Value} {K : AHeap}, Keeps H K → setD L x s i = false → resO f84.res fr K = some (.tuple #[]) → Q .ret fr K := fun k e hr =>
    hq2 _ _ ⟨_, hr, k.chg [c], by rw [hsA, e]; exact k.at_ h⟩
  have lcf := cfl_len L i L.r.length
  have lnd := nd_len he hi
  have hrng := nd_rng he hi
  have hndp : ∀ z ∈ nds (ro L i), 0 ≤ z.1 ∧ z.1 < L.p.length := by
    have hg := check_good he (List.getElem_mem hi)
    rw [← ro_eq hi] at hg; exact hg.nd
  unfold amc at gb gb0
  unfold arow at ra gr0 hK0
  have sh := s_shl1 iN
  simp (disch := first | assumption | omega | (simp only [LN] <;> omega) | (simp (disch := first | assumption | omega | (simp only [LN] <;> omega)) only [row_alloc, row_set]; assumption)) only [ f84, P3, ↓reduceIte, reduceAdd, reduceEqDiff, reduceCtorEq, initFr, reduceLT, clsA, reduceLeDiff, reduceMul, reduceSub, reduceIte, gc, cyl_0, gb, isl, lenl, na, ra, e0, e1, a_loadnvf, w1, w2, w3, w4]
  rw [← hK0]
  refine callK (t47 h0 e0) ?_
  rintro _ X ⟨rfl, hX⟩
  rw [hX, has_nat _ iN]
  cases h1 : s.lo i with
  | true =>
    rw [h1] at hset
    simp (disch := first | assumption | omega | (simp only [LN] <;> omega) | (simp (disch := first | assumption | omega | (simp only [LN] <;> omega)) only [row_alloc, row_set]; assumption)) only [W_block, P3, ↓reduceIte, reduceAdd, reduceEqDiff, reduceCtorEq, initFr, reduceLT, clsA, reduceLeDiff, reduceMul, reduceSub, reduceIte]
    exact no k0 hset rfl
  | false =>
  have hcf := set_cf (L := L) (i := i) lr h1
  rw [h1, hcf] at hset
  simp (disch := first | assumption | omega | (simp only [LN] <;> omega) | (simp (disch := first | assumption | omega | (simp only [LN] <;> omega)) only [row_alloc, row_set]; assumption)) only [W_block, P3, ↓reduceIte, reduceAdd, reduceEqDiff, reduceCtorEq, initFr, reduceLT, clsA, reduceLeDiff, reduceMul, reduceSub, reduceIte]
  refine callK (t87 h0 hm0 he hi) ?_
  rintro _ X ⟨rfl, hX⟩
  rw [hX]
  cases h2 : frD x (ro L i) with
  | false =>
    rw [h2] at hset
    simp (disch := first | assumption | omega | (simp only [LN] <;> omega) | (simp (disch := first | assumption | omega | (simp only [LN] <;> omega)) only [row_alloc, row_set]; assumption)) only [W_block, P3, ↓reduceIte, reduceAdd, reduceEqDiff, reduceCtorEq, initFr, reduceLT, clsA, reduceLeDiff, reduceMul, reduceSub, reduceIte]
    exact no k0 (by rw [hset]; rfl) rfl
  | true =>
  rw [h2] at hset
  simp (disch := first | assumption | omega | (simp only [LN] <;> omega) | (simp (disch := first | assumption | omega | (simp only [LN] <;> omega)) only [row_alloc, row_set]; assumption)) only [W_block, P3, ↓reduceIte, reduceAdd, reduceEqDiff, reduceCtorEq, initFr, reduceLT, clsA, reduceLeDiff, reduceMul, reduceSub, reduceIte, gr0, rl0]
  refine callK (t51 oki0.c.s (by omega) (p := fun k => hasB s.lo k) (g := 47) (fi := #[ptr c 0]) (ca := #[]) (fun z hz => t47 h0 (cfl_0 z hz).1)) ?_
  rintro _ X ⟨rfl, hX⟩
  rw [hX]
  cases h3 : (cfl L i L.r.length).any fun k => hasB s.lo k with
  | true =>
    rw [h3] at hset
    simp (disch := first | assumption | omega | (simp only [LN] <;> omega) | (simp (disch := first | assumption | omega | (simp only [LN] <;> omega)) only [row_alloc, row_set]; assumption)) only [W_block, P3, ↓reduceIte, reduceAdd, reduceEqDiff, reduceCtorEq, initFr, reduceLT, clsA, reduceLeDiff, reduceMul, reduceSub, reduceIte]
    exact no k0 (by rw [hset]; rfl) rfl
  | false =>
  rw [h3] at hset
  have isn := Sl.is oki0.n.s
  have lenn : lenS (ls i).n = (nds (ro L i)).length := NL.len oki0.n.s
  simp (disch := first | assumption | omega | (simp only [LN] <;> omega) | (simp (disch := first | assumption | omega | (simp only [LN] <;> omega)) only [row_alloc, row_set]; assumption)) only [ P3, ↓reduceIte, reduceAdd, reduceEqDiff, reduceCtorEq, initFr, reduceLT, clsA, reduceLeDiff, reduceMul, reduceSub, reduceIte, gr0, rl0, isn, lenn]
  rw [W_block]
  have isi := Sl.is si0
  have leni : lenS vi = L.p.length := by have := IL.len si0; simpa using this
  obtain ⟨l, hl⟩ : ∃ l, l = nds (ro L i) := ⟨_, rfl⟩
  have oln : NL K0 (ls i).n l := by rw [hl]; exact oki0.n.s
  rw [← hl] at hset hsA lnd hrng hndp lenn ⊢
  refine W_loop2 (fun q fr K => ∃ j x3 x9 x10, fr = [ptr c 0, .int .i64 ((i : Nat) : Int), ptr H.n 0, x3, undef, .bool false, (ls i).n, .int .i64 ((l.length : Nat) : Int), .int .i64 ((j : Nat) : Int), x9, x10, undef, undef, undef, undef, undef] ∧
      Keeps K0 K ∧ ((l.take j).all fun z => !((s.po z.1.toNat != z.2) && hasB x.oc (L.p.getD z.1.toNat ([], 0)).2)) = true ∧ j ≤ l.length ∧ q = l.length - j) l.length
    ⟨0, _, _, _, rfl, Keeps.refl _, by simp, by omega, rfl⟩ ?_
  rintro Q3 q fr K ⟨j, x3, x9, x10, rfl, kK, hj, hjl, rfl⟩ hn3 hx3 hret3
  have gcK := kK.at_ gc0
  have gbK := kK.at_ gb0
  by_cases hjlt : j < l.length
  · obtain ⟨nj, rj⟩ := (oln.keeps kK).at_ hjlt
    have j0 : (0 : Int) ≤ (j : Int) := by omega
    have j1 : (j : Int) < ((l.length : Nat) : Int) := by omega
    have hw3 : IntKind.i64.wrap ((j : Int) + 1) = ((j + 1 : Nat) : Int) := by rw [wrap_i64 (by omega) (by omega)]; simp
    have hgd : l.getD j (0, false) = l[j] := by rw [List.getD_eq_getElem?_getD, List.getElem?_eq_getElem hjlt]; rfl
    have hmem := List.getElem_mem hjlt
    have hrg := hrng _ hmem
    have hpp := hndp _ hmem
    have ok1 : (!((s.po l[j].1.toNat != l[j].2) && hasB x.oc (L.p.getD l[j].1.toNat ([], 0)).2)) = true → ((l.take (j + 1)).all fun z => !((s.po z.1.toNat != z.2) && hasB x.oc (L.p.getD z.1.toNat ([], 0)).2)) = true := fun e => take_all hjlt hj e
    have bad1 : (!((s.po l[j].1.toNat != l[j].2) && hasB x.oc (L.p.getD l[j].1.toNat ([], 0)).2)) = false → setD L x s i = false := fun e => by
      have : (l.all fun z => !((s.po z.1.toNat != z.2) && hasB x.oc (L.p.getD z.1.toNat ([], 0)).2)) = false := List.all_eq_false.2 ⟨_, hmem, by rw [e]; simp⟩
      rw [hset, this]; rfl
    rw [hgd] at rj
    generalize l[j] = z at *
    obtain ⟨zp, zb⟩ := z
    obtain ⟨m, rfl⟩ : ∃ m : Nat, zp = (m : Int) := ⟨zp.toNat, by have := hrg.1; simp only at this; omega⟩
    have hmp : m < L.p.length := by have := hpp.2; simp only at *; omega
    have hm32 : m < 32 := by omega
    have hmt : (Int.toNat (m : Int)) = m := by omega
    simp only [hmt] at ok1 bad1
    have hlie := lie_rng he hmp
    have hli : (L.p.map (·.2)).getD m 0 = (L.p.getD m ([], 0)).2 := by
      rw [List.getD_eq_getElem?_getD, List.getD_eq_getElem?_getD, List.getElem?_map, List.getElem?_eq_getElem hmp]; rfl
    obtain ⟨np, rp⟩ := (si0.keeps kK).at_ (i := m) (by simpa using hmp)
    rw [hli] at rp
    have m0 : (0 : Int) ≤ (m : Int) := by omega
    have m1 : (m : Int) < ((L.p.length : Nat) : Int) := by omega
    generalize L.p.getD m ([], 0) = w at *
    obtain ⟨KA, hKA⟩ : ∃ X, X = K.alloc (.cells true false 2 [.int .i64 (m : Int), .bool zb] 68) := ⟨_, rfl⟩
    have kA : Keeps K KA := by rw [hKA]; exact (Keeps.refl K).alloc _
    have gzA : KA.get K.n = some (.cells true false 2 [.int .i64 (m : Int), .bool zb] 68) := by rw [hKA]; exact AHeap.get_alloc_new K _
    have gcA := kA.at_ gcK
    have gbA := kA.at_ gbK
    have hA : CyR KA c b s x cv us := gcA
    obtain ⟨npA, rpA⟩ : nnS vi = true ∧ rowA KA 1 vi m = some [.int .i64 w.2] := by
      obtain ⟨q1, q2⟩ := ((si0.keeps kK).keeps kA).at_ (i := m) (by simpa using hmp)
      rw [hli] at q2; exact ⟨q1, q2⟩
    have lzA := AHeap.get_lt gzA
    have lcA := AHeap.get_lt gcA
    have lbA := AHeap.get_lt gbA
    have es : S64 (fun i => decide (i < 32) && s.po i) = S64 (p64 s.po) := rfl
    have hin := has_p64 s.po (n := (m : Int)) (by omega) (by omega)
    rw [hmt] at hin
    have kHA := (k0.trans kK).trans kA
    simp (disch := first | assumption | omega | (simp only [LN] <;> omega) | (simp (disch := first | assumption | omega | (simp only [LN] <;> omega)) only [row_alloc, row_set]; assumption)) only [W_block, P3, ↓reduceIte, reduceAdd, reduceEqDiff, reduceCtorEq, initFr, reduceLT, clsA, reduceLeDiff, reduceMul, reduceSub, reduceIte, j1, lenn, nj, rj, a_loadnvf]
    rw [← hKA]
    simp (disch := first | assumption | omega | (simp only [LN] <;> omega) | (simp (disch := first | assumption | omega | (simp only [LN] <;> omega)) only [row_alloc, row_set]; assumption)) only [W_block, P3, ↓reduceIte, reduceAdd, reduceEqDiff, reduceCtorEq, initFr, reduceLT, clsA, reduceLeDiff, reduceMul, reduceSub, reduceIte, gcA, gzA, cyl_68, s_up, lzA, lcA, lbA]
    rw [es]
    refine callK (t50 _ m0) ?_
    rintro _ X ⟨rfl, hX⟩
    rw [hX, hin]
    cases hpo : s.po m <;> cases zb <;> rw [hpo] at ok1 bad1
    · simp (disch := first | assumption | omega | (simp only [LN] <;> omega) | (simp (disch := first | assumption | omega | (simp only [LN] <;> omega)) only [row_alloc, row_set]; assumption)) only [W_block, P3, ↓reduceIte, reduceAdd, reduceEqDiff, reduceCtorEq, initFr, reduceLT, clsA, reduceLeDiff, reduceMul, reduceSub, reduceIte, gzA, lzA, lcA, lbA, hw3]
      exact hn3 _ _ _ ⟨j + 1, _, _, _, rfl, kK.trans kA, ok1 rfl, by omega, rfl⟩ (by omega)
    · simp (disch := first | assumption | omega | (simp only [LN] <;> omega) | (simp (disch := first | assumption | omega | (simp only [LN] <;> omega)) only [row_alloc, row_set]; assumption)) only [W_block, P3, ↓reduceIte, reduceAdd, reduceEqDiff, reduceCtorEq, initFr, reduceLT, clsA, reduceLeDiff, reduceMul, reduceSub, reduceIte, gzA, gcA, gbA, lzA, lcA, lbA, cyl_0, isi, leni, npA, rpA, m0, m1, a_load1v]
      refine callK (t88 hA hlie) ?_
      rintro _ X ⟨rfl, hX⟩
      rw [hX]
      cases hb : hasB x.oc w.2 with
      | true =>
        simp (disch := first | assumption | omega | (simp only [LN] <;> omega) | (simp (disch := first | assumption | omega | (simp only [LN] <;> omega)) only [row_alloc, row_set]; assumption)) only [W_block, P3, ↓reduceIte, reduceAdd, reduceEqDiff, reduceCtorEq, initFr, reduceLT, clsA, reduceLeDiff, reduceMul, reduceSub, reduceIte]
        refine hret3 _ _ ?_
        exact no kHA (bad1 (by rw [hb]; rfl)) rfl
      | false =>
        simp (disch := first | assumption | omega | (simp only [LN] <;> omega) | (simp (disch := first | assumption | omega | (simp only [LN] <;> omega)) only [row_alloc, row_set]; assumption)) only [W_block, P3, ↓reduceIte, reduceAdd, reduceEqDiff, reduceCtorEq, initFr, reduceLT, clsA, reduceLeDiff, reduceMul, reduceSub, reduceIte, hw3]
        exact hn3 _ _ _ ⟨j + 1, _, _, _, rfl, kK.trans kA, ok1 (by rw [hb]; rfl), by omega, rfl⟩ (by omega)
    · simp (disch := first | assumption | omega | (simp only [LN] <;> omega) | (simp (disch := first | assumption | omega | (simp only [LN] <;> omega)) only [row_alloc, row_set]; assumption)) only [W_block, P3, ↓reduceIte, reduceAdd, reduceEqDiff, reduceCtorEq, initFr, reduceLT, clsA, reduceLeDiff, reduceMul, reduceSub, reduceIte, gzA, gcA, gbA, lzA, lcA, lbA, cyl_0, isi, leni, npA, rpA, m0, m1, a_load1v]
      refine callK (t88 hA hlie) ?_
      rintro _ X ⟨rfl, hX⟩
      rw [hX]
      cases hb : hasB x.oc w.2 with
      | true =>
        simp (disch := first | assumption | omega | (simp only [LN] <;> omega) | (simp (disch := first | assumption | omega | (simp only [LN] <;> omega)) only [row_alloc, row_set]; assumption)) only [W_block, P3, ↓reduceIte, reduceAdd, reduceEqDiff, reduceCtorEq, initFr, reduceLT, clsA, reduceLeDiff, reduceMul, reduceSub, reduceIte]
        refine hret3 _ _ ?_
        exact no kHA (bad1 (by rw [hb]; rfl)) rfl
      | false =>
        simp (disch := first | assumption | omega | (simp only [LN] <;> omega) | (simp (disch := first | assumption | omega | (simp only [LN] <;> omega)) only [row_alloc, row_set]; assumption)) only [W_block, P3, ↓reduceIte, reduceAdd, reduceEqDiff, reduceCtorEq, initFr, reduceLT, clsA, reduceLeDiff, reduceMul, reduceSub, reduceIte, hw3]
        exact hn3 _ _ _ ⟨j + 1, _, _, _, rfl, kK.trans kA, ok1 (by rw [hb]; rfl), by omega, rfl⟩ (by omega)
    · simp (disch := first | assumption | omega | (simp only [LN] <;> omega) | (simp (disch := first | assumption | omega | (simp only [LN] <;> omega)) only [row_alloc, row_set]; assumption)) only [W_block, P3, ↓reduceIte, reduceAdd, reduceEqDiff, reduceCtorEq, initFr, reduceLT, clsA, reduceLeDiff, reduceMul, reduceSub, reduceIte, gzA, lzA, lcA, lbA, hw3]
      exact hn3 _ _ _ ⟨j + 1, _, _, _, rfl, kK.trans kA, ok1 rfl, by omega, rfl⟩ (by omega)
  · have j1 : ¬ ((j : Nat) : Int) < ((l.length : Nat) : Int) := by omega
    have hje : j = l.length := by omega
    subst hje
    rw [List.take_length] at hj
    rw [hj] at hset
    have hyes : setA L x s i = { s with lo := fun j => s.lo j || decide (j = i), po := poD l s.po } := by rw [hsA, hset]; rfl
    have grK := kK.at_ gr0
    have lcK := AHeap.get_lt gcK
    have lrK := AHeap.get_lt grK
    have olnK := oln.keeps kK
    obtain ⟨K1, hK1⟩ : ∃ X, X = K.set c (.cells true false 74 (cyl b { s with lo := fun j => s.lo j || decide (j = i) } x cv us) 110) := ⟨_, rfl⟩
    have c1 : Chg [c] K K1 := by rw [hK1]; exact Chg.set K lcK _
    have gc1 : K1.get c = some (.cells true false 74 (cyl b { s with lo := fun j => s.lo j || decide (j = i), po := poD (l.take 0) s.po } x cv us) 110) := by rw [hK1]; exact AHeap.get_set_same gcK _
    have c01 : Chg [c] H K1 := ((k0.trans kK).chg [c]).trans c1 (by simp)
    have gr1 : K1.get H.n = some (.cells true false 5 [.int .i64 ((ro L i).path.getD 0 0), .int .i64 (L.g.getD (ro L i).g.toNat ([], 0)).2, (ls i).t, (ls i).n, (ls i).c] 107) := c1.at_ grK (by simp; omega)
    simp (disch := first | assumption | omega | (simp only [LN] <;> omega) | (simp (disch := first | assumption | omega | (simp only [LN] <;> omega)) only [row_alloc, row_set]; assumption)) only [W_block, P3, ↓reduceIte, reduceAdd, reduceEqDiff, reduceCtorEq, initFr, reduceLT, clsA, reduceLeDiff, reduceMul, reduceSub, reduceIte, j1]
    refine hx3 _ _ _ ?_
    simp (disch := first | assumption | omega | (simp only [LN] <;> omega) | (simp (disch := first | assumption | omega | (simp only [LN] <;> omega)) only [row_alloc, row_set]; assumption)) only [ P3, ↓reduceIte, reduceAdd, reduceEqDiff, reduceCtorEq, initFr, reduceLT, clsA, reduceLeDiff, reduceMul, reduceSub, reduceIte, gcK, lcK, cyl_len, cyl_1, cys_1, sh, s_or, o_s64, one_s64]
    rw [← hK1]
    simp (disch := first | assumption | omega | (simp only [LN] <;> omega) | (simp (disch := first | assumption | omega | (simp only [LN] <;> omega)) only [row_alloc, row_set]; assumption)) only [ P3, ↓reduceIte, reduceAdd, reduceEqDiff, reduceCtorEq, initFr, reduceLT, clsA, reduceLeDiff, reduceMul, reduceSub, reduceIte, grK, isn, lenn]
    rw [W_block]
    refine W_loop2 (fun q fr N => ∃ j x4 x14 x15, fr = [ptr c 0, .int .i64 ((i : Nat) : Int), ptr H.n 0, x3, x4, .bool false, (ls i).n, .int .i64 ((l.length : Nat) : Int), .int .i64 ((l.length : Nat) : Int), .bool false, x10, (ls i).n, .int .i64 ((l.length : Nat) : Int), .int .i64 ((j : Nat) : Int), x14, x15] ∧
        Chg [c] K1 N ∧ N.get c = some (.cells true false 74 (cyl b { s with lo := fun j => s.lo j || decide (j = i), po := poD (l.take j) s.po } x cv us) 110) ∧ j ≤ l.length ∧ q = l.length - j) l.length
      ⟨0, _, _, _, rfl, Chg.refl _ _, gc1, by omega, rfl⟩ ?_
    rintro Q4 q fr N ⟨j, x4, x14, x15, rfl, cN, gcN, hj4, rfl⟩ hn4 hx4 hret4
    have c0N := c01.trans cN (by simp)
    have lcN := AHeap.get_lt gcN
    by_cases hjlt4 : j < l.length
    · have olN : NL N (ls i).n l := Sl.chg olnK (c1.trans cN (by simp)) (fun b' hb' hm' => by
        simp only [List.mem_cons, List.not_mem_nil, or_false] at hm'
        subst hm'
        obtain ⟨o, r, cc, T', g⟩ := oki0.n.b _ hb'
        rw [gc0] at g; injection g with g; injection g with _ _ e; omega)
      obtain ⟨nj, rj⟩ := olN.at_ hjlt4
      have j0 : (0 : Int) ≤ (j : Int) := by omega
      have j2 : (j : Int) < ((l.length : Nat) : Int) := by omega
      have hw3 : IntKind.i64.wrap ((j : Int) + 1) = ((j + 1 : Nat) : Int) := by rw [wrap_i64 (by omega) (by omega)]; simp
      have hgd : l.getD j (0, false) = l[j] := by rw [List.getD_eq_getElem?_getD, List.getElem?_eq_getElem hjlt4]; rfl
      have hmem := List.getElem_mem hjlt4
      have hrg := hrng _ hmem
      have htk : poD (l.take (j + 1)) s.po = fun p => if p = l[j].1.toNat then l[j].2 else poD (l.take j) s.po p := by
        rw [List.take_add_one, List.getElem?_eq_getElem hjlt4]; exact poD_s _ _ _
      rw [hgd] at rj
      generalize l[j] = z at *
      obtain ⟨zp, zb⟩ := z
      obtain ⟨m, rfl⟩ : ∃ m : Nat, zp = (m : Int) := ⟨zp.toNat, by have := hrg.1; simp only at this; omega⟩
      have hm32 : m < 32 := by have := hrg.2; simp only at this; omega
      have hmt : (Int.toNat (m : Int)) = m := by omega
      simp only [hmt] at htk
      have s2 := p_shl1 hm32
      obtain ⟨NA, hNA⟩ : ∃ X, X = N.alloc (.cells true false 2 [.int .i64 (m : Int), .bool zb] 68) := ⟨_, rfl⟩
      have kA : Keeps N NA := by rw [hNA]; exact (Keeps.refl N).alloc _
      have gzA : NA.get N.n = some (.cells true false 2 [.int .i64 (m : Int), .bool zb] 68) := by rw [hNA]; exact AHeap.get_alloc_new N _
      have gcA := kA.at_ gcN
      have lzA := AHeap.get_lt gzA
      have lcA := AHeap.get_lt gcA
      generalize poD (l.take j) s.po = f at *
      simp (disch := first | assumption | omega | (simp only [LN] <;> omega) | (simp (disch := first | assumption | omega | (simp only [LN] <;> omega)) only [row_alloc, row_set]; assumption)) only [W_block, P3, ↓reduceIte, reduceAdd, reduceEqDiff, reduceCtorEq, initFr, reduceLT, clsA, reduceLeDiff, reduceMul, reduceSub, reduceIte, j2, nj, rj, lenn, a_loadnvf]
      rw [← hNA]
      cases zb with
      | true =>
        simp (disch := first | assumption | omega | (simp only [LN] <;> omega) | (simp (disch := first | assumption | omega | (simp only [LN] <;> omega)) only [row_alloc, row_set]; assumption)) only [W_block, P3, ↓reduceIte, reduceAdd, reduceEqDiff, reduceCtorEq, initFr, reduceLT, clsA, reduceLeDiff, reduceMul, reduceSub, reduceIte, gzA, gcA, lzA, lcA, cyl_len, cyl_68, cys_68, s2, p_or, o_s32, one_s32, hw3]
        exact hn4 _ _ _ ⟨j + 1, _, _, _, rfl, (cN.trans (kA.chg [c]) (by simp)).trans (Chg.set NA lcA _) (by simp), by rw [htk, ← po_or]; exact AHeap.get_set_same gcA _, by omega, rfl⟩ (by omega)
      | false =>
        simp (disch := first | assumption | omega | (simp only [LN] <;> omega) | (simp (disch := first | assumption | omega | (simp only [LN] <;> omega)) only [row_alloc, row_set]; assumption)) only [W_block, P3, ↓reduceIte, reduceAdd, reduceEqDiff, reduceCtorEq, initFr, reduceLT, clsA, reduceLeDiff, reduceMul, reduceSub, reduceIte, gzA, gcA, lzA, lcA, cyl_len, cyl_68, cys_68, s2, p_andn, o_s32, one_s32, hw3]
        exact hn4 _ _ _ ⟨j + 1, _, _, _, rfl, (cN.trans (kA.chg [c]) (by simp)).trans (Chg.set NA lcA _) (by simp), by rw [htk, ← po_an]; exact AHeap.get_set_same gcA _, by omega, rfl⟩ (by omega)
    · have j2 : ¬ ((j : Nat) : Int) < ((l.length : Nat) : Int) := by omega
      have hje : j = l.length := by omega
      subst hje
      rw [List.take_length] at gcN
      simp (disch := first | assumption | omega | (simp only [LN] <;> omega) | (simp (disch := first | assumption | omega | (simp only [LN] <;> omega)) only [row_alloc, row_set]; assumption)) only [W_block, P3, ↓reduceIte, reduceAdd, reduceEqDiff, reduceCtorEq, initFr, reduceLT, clsA, reduceLeDiff, reduceMul, reduceSub, reduceIte, j2]
      refine hx4 _ _ _ ?_
      simp (disch := first | assumption | omega | (simp only [LN] <;> omega) | (simp (disch := first | assumption | omega | (simp only [LN] <;> omega)) only [row_alloc, row_set]; assumption)) only [W_block, P3, ↓reduceIte, reduceAdd, reduceEqDiff, reduceCtorEq, initFr, reduceLT, clsA, reduceLeDiff, reduceMul, reduceSub, reduceIte]
      exact hq1 _ _ ⟨_, rfl, c0N, by rw [hyes]; exact gcN⟩
end Go.AM.Fd

set_option linter.unusedSimpArgs false
set_option linter.unusedVariables false
set_option maxRecDepth 8000
namespace Go.AM.Fd
open Nat (reduceAdd reduceEqDiff reduceLT reduceLeDiff reduceMul reduceSub)
open Go.Proofs Go.AM.F
def TZ (s : Sta) : Prop := ∀ j, s.ca j = false → s.ti j = 0
def canA (L : Ly) (x : Inp) (s : Sta) (i : Nat) : Sta := if ((s.lo i && !s.us i) && !s.ca i) = true then
      { s with ca := fun j => s.ca j || decide (j = i), ti := upd s.ti i (if hasB x.oc (L.g.getD (ro L i).g.toNat ([], 0)).2 then 20 else 0) } else s
theorem upd_0 {t : Nat → Nat} {i : Nat} (h : t i = 0) : upd t i 0 = t := by
  funext j; unfold upd
  by_cases e : j = i
  · subst e; simp [h]
  · simp [e]
set_option maxHeartbeats 2000000 in
theorem t85 {K H : AHeap} {c b : Nat} {s : Sta} {x : Inp} {cv : Value} {us : Nat → Bool} {L : Ly} (h : CyR H c b s x cv us) (hK : MaA K b L) (kK : Keeps K H) (hc : K.n ≤ c) (he : checkE L = 0) (hz : TZ s) {i : Nat} (hi : i < L.r.length) :
    ∃ w H', ARun Go.Proofs.Try.prog 0 85 [ptr c 0, .int .i64 (i : Nat)] H w H' ∧ Chg [c] H H' ∧ CyR H' c b (canA L x s i) x cv us := by
  refine walk2 f85_ok f85_n ?_
  intro Q hq1 hq2
  have lr := (may_lim (check_may he)).r
  obtain ⟨vl, vi, ls, own, room, T, gbK, slK, okK, siK⟩ := hK.x
  have gb := kK.at_ gbK
  have sl := slK.keeps kK
  have isl := Sl.is sl
  have lenl : lenS vl = L.r.length := by have := Sl.len sl; simpa [arows] using this
  have e0 : (0 : Int) ≤ (i : Int) := by omega
  have e1 : (i : Int) < ((L.r.length : Nat) : Int) := by omega
  have e64 : (i : Int) < 64 := by omega
  have iN : i < 64 := by omega
  have gc := h
  unfold CyR at gc
  have cl := AHeap.get_lt gc
  have hgood := check_good he (List.getElem_mem hi)
  rw [← ro_eq hi] at hgood
  have hsig : 0 ≤ (L.g.getD (ro L i).g.toNat ([], 0)).2 := sig_rng he (by have := hgood.lim.g; omega)
  have hcn : canA L x s i = if ((s.lo i && !s.us i) && !s.ca i) = true then
      { s with ca := fun j => s.ca j || decide (j = i), ti := upd s.ti i (if hasB x.oc (L.g.getD (ro L i).g.toNat ([], 0)).2 then 20 else 0) } else s := rfl
  have hzi := hz i
  have fin0 : ∀ {fr : List Value}, canA L x s i = s → resO f85.res fr H = some (.tuple #[]) → Q .ret fr H := fun e hr =>
    hq2 _ _ ⟨_, hr, Chg.refl _ _, by rw [e]; exact h⟩
  have fin : ∀ {fr : List Value} (t : Sta), canA L x s i = t → resO f85.res fr (H.set c (.cells true false 74 (cyl b t x cv us) 110)) = some (.tuple #[]) → Q .normal fr (H.set c (.cells true false 74 (cyl b t x cv us) 110)) := fun t e hr =>
    hq1 _ _ ⟨_, hr, Chg.set H cl _, by unfold CyR; rw [e]; exact AHeap.get_set_same gc _⟩
  unfold amc at gb gbK
  have sh := s_shl1 iN
  have z20 := fun t : Sta => cys_t20 (b := b) (s := t) (x := x) (cv := cv) (us := us) iN
  have hll : 4 + i < 74 := by omega
  simp (disch := first | assumption | omega | (simp only [LN] <;> omega) | (simp (disch := first | assumption | omega | (simp only [LN] <;> omega)) only [row_alloc, row_set]; assumption)) only [f85, W_block, P3, ↓reduceIte, reduceAdd, reduceEqDiff, reduceCtorEq, initFr, reduceLT, clsA, reduceLeDiff, reduceMul, reduceSub, reduceIte]
  refine callK (t47 h e0) ?_
  rintro _ X ⟨rfl, hX⟩
  rw [hX, has_nat _ iN]
  cases h1 : s.lo i with
  | false =>
    rw [h1] at hcn
    simp (disch := first | assumption | omega | (simp only [LN] <;> omega) | (simp (disch := first | assumption | omega | (simp only [LN] <;> omega)) only [row_alloc, row_set]; assumption)) only [W_block, P3, ↓reduceIte, reduceAdd, reduceEqDiff, reduceCtorEq, initFr, reduceLT, clsA, reduceLeDiff, reduceMul, reduceSub, reduceIte]
    exact fin0 hcn rfl
  | true =>
  rw [h1] at hcn
  simp (disch := first | assumption | omega | (simp only [LN] <;> omega) | (simp (disch := first | assumption | omega | (simp only [LN] <;> omega)) only [row_alloc, row_set]; assumption)) only [W_block, P3, ↓reduceIte, reduceAdd, reduceEqDiff, reduceCtorEq, initFr, reduceLT, clsA, reduceLeDiff, reduceMul, reduceSub, reduceIte, gc, cyl_2]
  refine callK (t50 _ e0) ?_
  rintro _ X ⟨rfl, hX⟩
  rw [hX, has_nat _ iN]
  cases h2 : s.us i with
  | true =>
    rw [h2] at hcn
    simp (disch := first | assumption | omega | (simp only [LN] <;> omega) | (simp (disch := first | assumption | omega | (simp only [LN] <;> omega)) only [row_alloc, row_set]; assumption)) only [W_block, P3, ↓reduceIte, reduceAdd, reduceEqDiff, reduceCtorEq, initFr, reduceLT, clsA, reduceLeDiff, reduceMul, reduceSub, reduceIte]
    exact fin0 hcn rfl
  | false =>
  rw [h2] at hcn
  simp (disch := first | assumption | omega | (simp only [LN] <;> omega) | (simp (disch := first | assumption | omega | (simp only [LN] <;> omega)) only [row_alloc, row_set]; assumption)) only [W_block, P3, ↓reduceIte, reduceAdd, reduceEqDiff, reduceCtorEq, initFr, reduceLT, clsA, reduceLeDiff, reduceMul, reduceSub, reduceIte, gc, cyl_3]
  refine callK (t50 _ e0) ?_
  rintro _ X ⟨rfl, hX⟩
  rw [hX, has_nat _ iN]
  cases h3 : s.ca i with
  | true =>
    rw [h3] at hcn
    simp (disch := first | assumption | omega | (simp only [LN] <;> omega) | (simp (disch := first | assumption | omega | (simp only [LN] <;> omega)) only [row_alloc, row_set]; assumption)) only [W_block, P3, ↓reduceIte, reduceAdd, reduceEqDiff, reduceCtorEq, initFr, reduceLT, clsA, reduceLeDiff, reduceMul, reduceSub, reduceIte]
    exact fin0 hcn rfl
  | false =>
  rw [h3] at hcn
  obtain ⟨K0, hK0⟩ : ∃ X, X = H.set c (.cells true false 74 (cyl b { s with ca := fun j => s.ca j || decide (j = i) } x cv us) 110) := ⟨_, rfl⟩
  have c0 : Chg [c] H K0 := by rw [hK0]; exact Chg.set H cl _
  have h0 : CyR K0 c b { s with ca := fun j => s.ca j || decide (j = i) } x cv us := by rw [hK0]; exact AHeap.get_set_same gc _
  have kK0 : Keeps K K0 := kK.chg_trans c0 (by simp; omega)
  have gb0 := kK0.at_ gbK
  obtain ⟨na0, ra0⟩ := MaA.row (slK.keeps kK0) hi
  unfold arow at ra0
  have cl0 := AHeap.get_lt h0
  have gc0 := h0
  unfold CyR at gc0
  simp (disch := first | assumption | omega | (simp only [LN] <;> omega) | (simp (disch := first | assumption | omega | (simp only [LN] <;> omega)) only [row_alloc, row_set]; assumption)) only [W_block, P3, ↓reduceIte, reduceAdd, reduceEqDiff, reduceCtorEq, initFr, reduceLT, clsA, reduceLeDiff, reduceMul, reduceSub, reduceIte, gc, cl, cyl_3, cys_3, cyl_len, sh, s_or, o_s64, one_s64]
  rw [← hK0]
  simp (disch := first | assumption | omega | (simp only [LN] <;> omega) | (simp (disch := first | assumption | omega | (simp only [LN] <;> omega)) only [row_alloc, row_set]; assumption)) only [W_block, P3, ↓reduceIte, reduceAdd, reduceEqDiff, reduceCtorEq, initFr, reduceLT, clsA, reduceLeDiff, reduceMul, reduceSub, reduceIte, gc0, cyl_0, gb0, isl, lenl, na0, ra0, e0, e1, a_load1v]
  refine callK (t88 h0 hsig) ?_
  rintro _ X ⟨rfl, hX⟩
  rw [hX]
  cases h4 : hasB x.oc (L.g.getD (ro L i).g.toNat ([], 0)).2 with
  | false =>
    rw [h4] at hcn
    have hu : upd s.ti i 0 = s.ti := upd_0 (hzi h3)
    simp (disch := first | assumption | omega | (simp only [LN] <;> omega) | (simp (disch := first | assumption | omega | (simp only [LN] <;> omega)) only [row_alloc, row_set]; assumption)) only [W_block, P3, ↓reduceIte, reduceAdd, reduceEqDiff, reduceCtorEq, initFr, reduceLT, clsA, reduceLeDiff, reduceMul, reduceSub, reduceIte]
    rw [hK0]
    exact fin _ (by rw [hcn]; simp only [Bool.false_eq_true, if_false, hu]; rfl) rfl
  | true =>
    rw [h4] at hcn
    simp (disch := first | assumption | omega | (simp only [LN] <;> omega) | (simp (disch := first | assumption | omega | (simp only [LN] <;> omega)) only [row_alloc, row_set]; assumption)) only [W_block, P3, ↓reduceIte, reduceAdd, reduceEqDiff, reduceCtorEq, initFr, reduceLT, clsA, reduceLeDiff, reduceMul, reduceSub, reduceIte, gc0, cl0, cyl_len, z20, hll, e0, e64, a_iaddrp, Int.toNat_natCast, Nat.mul_one]
    rw [hK0, set_set]
    exact fin _ (by rw [hcn]; rfl) rfl
theorem t112 {H : AHeap} {p T : Nat} {o r : Bool} {n : Int} (hp : H.get p = some (.cells o r 1 [.int .i64 n] T)) (z : Int × Bool) :
    ∃ w H', ARun Go.Proofs.Try.prog 0 112 [.agg (nRow z).toArray, ptr p 0] H w H' ∧ w = .bool (z.1 == n) ∧ H' = H := by
  suffices h' : ∃ w H', ARun Go.Proofs.Try.prog 0 112 [.agg (nRow z).toArray, ptr p 0] H w H' ∧ w = .bool (z.1 == n) ∧ Keeps H H' by
    obtain ⟨_, _, a, rfl, k⟩ := h'
    exact ⟨_, _, a.gc0 k (.inr (.bool _)), rfl, rfl⟩
  refine walk2 f112_ok f112_n ?_
  intro Q hq1 hq2
  obtain ⟨zp, zb⟩ := z
  have kA := (Keeps.refl H).alloc (.cells true false 2 [.int .i64 zp, .bool zb] 68)
  have lp := AHeap.get_lt hp
  have np : ¬ p = H.n := by omega
  unfold nRow
  simp (disch := first | assumption | omega | (simp only [LN] <;> omega) | (simp (disch := first | assumption | omega | (simp only [LN] <;> omega)) only [row_alloc, row_set]; assumption)) only [f112, W_block, P3, ↓reduceIte, reduceAdd, reduceEqDiff, reduceCtorEq, initFr, reduceLT, clsA, reduceLeDiff, reduceMul, reduceSub, reduceIte, hp, lp, np]
  exact hq2 _ _ ⟨.bool _, rfl, rfl, kA⟩
def movA (L : Ly) (x : Inp) (s : Sta) (m : Nat) : Sta := if (!hasB x.oc (L.p.getD m ([], 0)).2 && !needD L s m) = true then { s with po := fun j => s.po j ^^ decide (j = m) } else s
set_option maxHeartbeats 2000000 in
theorem t86 {H : AHeap} {c b : Nat} {s : Sta} {x : Inp} {cv : Value} {us : Nat → Bool} {L : Ly} (h : CyR H c b s x cv us) (hm : MaA H b L) (he : checkE L = 0) {m : Nat} (hmp : m < L.p.length) :
    ∃ w H', ARun Go.Proofs.Try.prog 0 86 [ptr c 0, .int .i64 (m : Nat)] H w H' ∧ Chg [c] H H' ∧ CyR H' c b (movA L x s m) x cv us := by
  refine walk2 f86_ok f86_n ?_
  intro Q hq1 hq2
  have lr := (may_lim (check_may he)).r
  have lpp := (may_lim (check_may he)).p
  obtain ⟨vl, vi, ls, own, room, T, gb, sl, ok, si⟩ := hm.x
  have isl := Sl.is sl
  have lenl : lenS vl = L.r.length := by have := Sl.len sl; simpa [arows] using this
  have isi := Sl.is si
  have leni : lenS vi = L.p.length := by have := IL.len si; simpa using this
  have hli : (L.p.map (·.2)).getD m 0 = (L.p.getD m ([], 0)).2 := by
    rw [List.getD_eq_getElem?_getD, List.getD_eq_getElem?_getD, List.getElem?_map, List.getElem?_eq_getElem hmp]; rfl
  have hlie := lie_rng he hmp
  have m0 : (0 : Int) ≤ (m : Int) := by omega
  have m1 : (m : Int) < ((L.p.length : Nat) : Int) := by omega
  have gc := h
  unfold CyR at gc
  obtain ⟨K0, hK0⟩ : ∃ X, X = H.alloc (.cells true false 1 [.int .i64 (m : Int)] 3) := ⟨_, rfl⟩
  have k0 : Keeps H K0 := by rw [hK0]; exact (Keeps.refl H).alloc _
  have gp0 : K0.get H.n = some (.cells true false 1 [.int .i64 (m : Int)] 3) := by rw [hK0]; exact AHeap.get_alloc_new H _
  have gc0 := k0.at_ gc
  have gb0 := k0.at_ gb
  have h0 : CyR K0 c b s x cv us := gc0
  obtain ⟨np, rp⟩ := (si.keeps k0).at_ (i := m) (by simpa using hmp)
  rw [hli] at rp
  have l0 := AHeap.get_lt gp0
  have l1 := AHeap.get_lt gc0
  have l2 := AHeap.get_lt gb0
  have hmv : movA L x s m = if (!hasB x.oc (L.p.getD m ([], 0)).2 && !needD L s m) = true then { s with po := fun j => s.po j ^^ decide (j = m) } else s := rfl
  have no : ∀ {fr : List Value} {K : AHeap}, Keeps H K → movA L x s m = s → resO f86.res fr K = some (.tuple #[]) → Q .ret fr K := fun k e hr =>
    hq2 _ _ ⟨_, hr, k.chg [c], by rw [e]; exact k.at_ h⟩
  unfold amc at gb0
  simp (disch := first | assumption | omega | (simp only [LN] <;> omega) | (simp (disch := first | assumption | omega | (simp only [LN] <;> omega)) only [row_alloc, row_set]; assumption)) only [f86, W_block, P3, ↓reduceIte, reduceAdd, reduceEqDiff, reduceCtorEq, initFr, reduceLT, clsA, reduceLeDiff, reduceMul, reduceSub, reduceIte]
  rw [← hK0]
  simp (disch := first | assumption | omega | (simp only [LN] <;> omega) | (simp (disch := first | assumption | omega | (simp only [LN] <;> omega)) only [row_alloc, row_set]; assumption)) only [W_block, P3, ↓reduceIte, reduceAdd, reduceEqDiff, reduceCtorEq, initFr, reduceLT, clsA, reduceLeDiff, reduceMul, reduceSub, reduceIte, gp0, gc0, cyl_0, gb0, isi, leni, np, rp, m0, m1, a_load1v, l0, l1, l2]
  refine callK (t88 h0 hlie) ?_
  rintro _ X ⟨rfl, hX⟩
  rw [hX]
  cases h1 : hasB x.oc (L.p.getD m ([], 0)).2 with
  | true =>
    rw [h1] at hmv
    simp (disch := first | assumption | omega | (simp only [LN] <;> omega) | (simp (disch := first | assumption | omega | (simp only [LN] <;> omega)) only [row_alloc, row_set]; assumption)) only [W_block, P3, ↓reduceIte, reduceAdd, reduceEqDiff, reduceCtorEq, initFr, reduceLT, clsA, reduceLeDiff, reduceMul, reduceSub, reduceIte]
    exact no k0 hmv rfl
  | false =>
  rw [h1] at hmv
  simp (disch := first | assumption | omega | (simp only [LN] <;> omega) | (simp (disch := first | assumption | omega | (simp only [LN] <;> omega)) only [row_alloc, row_set]; assumption)) only [ P3, ↓reduceIte, reduceAdd, reduceEqDiff, reduceCtorEq, initFr, reduceLT, clsA, reduceLeDiff, reduceMul, reduceSub, reduceIte, gc0, cyl_0, gb0, isl, lenl]
  rw [W_block]
  refine W_loop2 (fun q fr K => ∃ i x3 x4 x9 x10, fr = [ptr c 0, .int .i64 (m : Int), ptr H.n 0, x3, x4, .bool false, vl, .int .i64 ((L.r.length : Nat) : Int), .int .i64 ((i : Nat) : Int), x9, x10] ∧
      Keeps K0 K ∧ ((List.range i).any fun i => (nds (ro L i)).any fun z => s.lo i && (z.1 == (m : Int))) = false ∧ i ≤ L.r.length ∧ q = L.r.length - i) L.r.length
    ⟨0, _, _, _, _, rfl, Keeps.refl _, rfl, by omega, rfl⟩ ?_
  rintro Q' q fr K ⟨i, x3, x4, x9, x10, rfl, kK, hall, hi, rfl⟩ hn' hx' hret
  by_cases hlt : i < L.r.length
  · have iN : i < 64 := by omega
    have e0 : (0 : Int) ≤ (i : Int) := by omega
    have e1 : (i : Int) < ((L.r.length : Nat) : Int) := by omega
    have hw : IntKind.i64.wrap ((i : Int) + 1) = ((i + 1 : Nat) : Int) := by rw [wrap_i64 (by omega) (by omega)]; simp
    have yes : ((nds (ro L i)).any fun z => s.lo i && (z.1 == (m : Int))) = true → needD L s m = true := fun e => any_at (p := fun i => (nds (ro L i)).any fun z => s.lo i && (z.1 == (m : Int))) hlt e
    have nope : ((nds (ro L i)).any fun z => s.lo i && (z.1 == (m : Int))) = false → ((List.range (i + 1)).any fun i => (nds (ro L i)).any fun z => s.lo i && (z.1 == (m : Int))) = false := fun e => any_snoc hall e
    obtain ⟨na, ra⟩ := MaA.row ((sl.keeps k0).keeps kK) hlt
    have oki := ok i hlt
    have w1 := one_isS (Sl.is oki.t.s)
    have w2 := one_isS (Sl.is oki.n.s)
    have w3 := one_isS (Sl.is oki.c.s)
    have w4 : ∀ x : Int, one1 (Value.int .i64 x) = True := fun x => by simp [one1, one_int]
    obtain ⟨KA, hKA⟩ : ∃ X, X = K.alloc (.cells true false 5 (arow L i (ls i)) 107) := ⟨_, rfl⟩
    have kA : Keeps K KA := by rw [hKA]; exact (Keeps.refl K).alloc _
    have grA : KA.get K.n = some (.cells true false 5 (arow L i (ls i)) 107) := by rw [hKA]; exact AHeap.get_alloc_new K _
    have gpA := kA.at_ (kK.at_ gp0)
    have hA : CyR KA c b s x cv us := kA.at_ (kK.at_ gc0)
    have okA := ((oki.keeps k0).keeps kK).keeps kA
    have kHA := (k0.trans kK).trans kA
    have lrA := AHeap.get_lt grA
    unfold arow at ra grA hKA
    simp (disch := first | assumption | omega | (simp only [LN] <;> omega) | (simp (disch := first | assumption | omega | (simp only [LN] <;> omega)) only [row_alloc, row_set]; assumption)) only [W_block, P3, ↓reduceIte, reduceAdd, reduceEqDiff, reduceCtorEq, initFr, reduceLT, clsA, reduceLeDiff, reduceMul, reduceSub, reduceIte, e1, lenl, na, ra, a_loadnvf, w1, w2, w3, w4]
    rw [← hKA]
    refine callK (t47 hA e0) ?_
    rintro _ X ⟨rfl, hX⟩
    rw [hX, has_nat _ iN]
    cases h2 : s.lo i with
    | false =>
      rw [h2] at nope
      simp (disch := first | assumption | omega | (simp only [LN] <;> omega) | (simp (disch := first | assumption | omega | (simp only [LN] <;> omega)) only [row_alloc, row_set]; assumption)) only [W_block, P3, ↓reduceIte, reduceAdd, reduceEqDiff, reduceCtorEq, initFr, reduceLT, clsA, reduceLeDiff, reduceMul, reduceSub, reduceIte, hw]
      exact hn' _ _ _ ⟨i + 1, _, _, _, _, rfl, kK.trans kA, nope (by simp), by omega, rfl⟩ (by omega)
    | true =>
      rw [h2] at nope yes
      simp (disch := first | assumption | omega | (simp only [LN] <;> omega) | (simp (disch := first | assumption | omega | (simp only [LN] <;> omega)) only [row_alloc, row_set]; assumption)) only [W_block, P3, ↓reduceIte, reduceAdd, reduceEqDiff, reduceCtorEq, initFr, reduceLT, clsA, reduceLeDiff, reduceMul, reduceSub, reduceIte, grA, lrA]
      refine callK (t53 okA.n.s (Nat.le_trans (nd_len he hlt) (by omega)) (p := fun z => z.1 == (m : Int)) (g := 112) (fi := #[]) (ca := #[ptr H.n 0]) (fun z _ => t112 gpA z)) ?_
      rintro _ X ⟨rfl, hX⟩
      rw [hX]
      cases h3 : (nds (ro L i)).any fun z => z.1 == (m : Int) with
      | true =>
        simp (disch := first | assumption | omega | (simp only [LN] <;> omega) | (simp (disch := first | assumption | omega | (simp only [LN] <;> omega)) only [row_alloc, row_set]; assumption)) only [W_block, P3, ↓reduceIte, reduceAdd, reduceEqDiff, reduceCtorEq, initFr, reduceLT, clsA, reduceLeDiff, reduceMul, reduceSub, reduceIte]
        refine hret _ _ ?_
        exact no kHA (by rw [hmv, yes (by simpa using h3)]; rfl) rfl
      | false =>
        simp (disch := first | assumption | omega | (simp only [LN] <;> omega) | (simp (disch := first | assumption | omega | (simp only [LN] <;> omega)) only [row_alloc, row_set]; assumption)) only [W_block, P3, ↓reduceIte, reduceAdd, reduceEqDiff, reduceCtorEq, initFr, reduceLT, clsA, reduceLeDiff, reduceMul, reduceSub, reduceIte, hw]
        exact hn' _ _ _ ⟨i + 1, _, _, _, _, rfl, kK.trans kA, nope (by simpa using h3), by omega, rfl⟩ (by omega)
  · have e1 : ¬ ((i : Nat) : Int) < ((L.r.length : Nat) : Int) := by omega
    have hie : i = L.r.length := by omega
    subst hie
    have hnd : needD L s m = false := hall
    rw [hnd] at hmv
    have gpK := kK.at_ gp0
    have gcK := kK.at_ gc0
    have lpK := AHeap.get_lt gpK
    have lcK := AHeap.get_lt gcK
    have s2 := p_shl1 (show m < 32 by omega)
    simp (disch := first | assumption | omega | (simp only [LN] <;> omega) | (simp (disch := first | assumption | omega | (simp only [LN] <;> omega)) only [row_alloc, row_set]; assumption)) only [W_block, P3, ↓reduceIte, reduceAdd, reduceEqDiff, reduceCtorEq, initFr, reduceLT, clsA, reduceLeDiff, reduceMul, reduceSub, reduceIte, e1]
    refine hx' _ _ _ ?_
    simp (disch := first | assumption | omega | (simp only [LN] <;> omega) | (simp (disch := first | assumption | omega | (simp only [LN] <;> omega)) only [row_alloc, row_set]; assumption)) only [W_block, P3, ↓reduceIte, reduceAdd, reduceEqDiff, reduceCtorEq, initFr, reduceLT, clsA, reduceLeDiff, reduceMul, reduceSub, reduceIte, gpK, gcK, lpK, lcK, cyl_len, cyl_68, cys_68, s2, p_xor, o_s32, one_s32]
    exact hq1 _ _ ⟨_, rfl, ((k0.trans kK).chg [c]).trans (Chg.set K lcK _) (by simp), by rw [hmv]; exact AHeap.get_set_same gcK _⟩
end Go.AM.Fd

set_option linter.unusedSimpArgs false
set_option linter.unusedVariables false
set_option maxRecDepth 8000
namespace Go.AM.Fd
open Nat (reduceAdd reduceEqDiff reduceLT reduceLeDiff reduceMul reduceSub)
open Go.Proofs Go.AM.F
def comA (L : Ly) (x : Inp) (s : Sta) (kd n : Int) : Sta :=
  if okC L kd n then (if kd = 1 then setA L x s n.toNat else if kd = 2 then canA L x s n.toNat else movA L x s n.toNat) else s
theorem comA_eq {L : Ly} {x : Inp} {s : Sta} {kd n : Int} : comA L x s kd n = comD L x s kd n := by
  unfold comA comD
  by_cases h : okC L kd n = true
  · rw [if_pos h, if_pos h]
    have h' := h
    unfold okC at h'
    simp only [Bool.and_eq_true, decide_eq_true_eq] at h'
    have hn : ((n.toNat : Nat) : Int) = n := by omega
    by_cases h1 : kd = 1
    · subst h1
      unfold setA
      cases setD L x s n.toNat <;> simp
    · by_cases h2 : kd = 2
      · subst h2
        unfold canA
        by_cases h3 : ((s.lo n.toNat && !s.us n.toNat) && !s.ca n.toNat) = true <;> simp [h3]
      · have h3 : kd = 3 := by omega
        subst h3
        unfold movA
        rw [hn]
        by_cases h4 : (!hasB x.oc (L.p.getD n.toNat ([], 0)).2 && !needD L s n) = true <;> simp [h4]
  · rw [if_neg h, if_neg h]
theorem e_nn : eqA 4 .nilFunc .nilFunc = some true := rfl
theorem e_fn (a : Fn) (b c : Array Value) : eqA 4 (.func a b c) .nilFunc = some false := rfl
theorem fillF (a b c : Fn) (d e f g h i : Array Value) : fillA [.nilFunc, .nilFunc, .nilFunc, .nilFunc] [(1, 1, .func a d e), (2, 1, .func b f g), (3, 1, .func c h i)] = some [.nilFunc, .func a d e, .func b f g, .func c h i] := rfl
theorem one_fn (a : Fn) (b c : Array Value) : (Value.func a b c).oneCell' = true := rfl
theorem o_fn (a : Fn) (b c : Array Value) : one1 (Value.func a b c) = True := by simp [one1, one_fn]
theorem one_nf : (Value.nilFunc).oneCell' = true := rfl
theorem o_nf : one1 (Value.nilFunc) = True := by simp [one1, one_nf]
set_option maxHeartbeats 4000000 in
theorem t46 {K H : AHeap} {c b : Nat} {s : Sta} {x : Inp} {cv : Value} {us : Nat → Bool} {L : Ly} (h : CyR H c b s x cv us) (hK : MaA K b L) (kK : Keeps K H) (hc : K.n ≤ c) (he : checkE L = 0) (hz : TZ s) {kd n : Int} (hkd : 0 ≤ kd) (hkd2 : kd < 256) :
    ∃ w H', ARun Go.Proofs.Try.prog 0 46 [ptr c 0, .agg #[.int .u8 kd, .int .i64 n]] H w H' ∧ Chg [c] H H' ∧ CyR H' c b (comD L x s kd n) x cv us := by
  rw [← comA_eq]
  refine walk2 f46_ok f46_n ?_
  intro Q hq1 hq2
  have lr := (may_lim (check_may he)).r
  have lpp := (may_lim (check_may he)).p
  obtain ⟨vl, vi, ls, own, room, T, gbK, slK, okK, siK⟩ := hK.x
  have gb := kK.at_ gbK
  have isl := Sl.is slK
  have lenl : lenS vl = L.r.length := by have := Sl.len slK; simpa [arows] using this
  have isi := Sl.is siK
  have leni : lenS vi = L.p.length := by have := IL.len siK; simpa using this
  have gc := h
  unfold CyR at gc
  obtain ⟨fs, hfs⟩ : ∃ fs : List Value, fs = [.nilFunc, .func (.func 84) #[ptr c 0] #[], .func (.func 85) #[ptr c 0] #[], .func (.func 86) #[ptr c 0] #[]] := ⟨_, rfl⟩
  obtain ⟨K0, hK0⟩ : ∃ X, X = (H.alloc (.cells true false 2 [.int .u8 kd, .int .i64 n] 70)).alloc (.cells true false 4 fs 143) := ⟨_, rfl⟩
  have k0 : Keeps H K0 := by rw [hK0]; exact ((Keeps.refl H).alloc _).alloc _
  have gm0 : K0.get H.n = some (.cells true false 2 [.int .u8 kd, .int .i64 n] 70) := by rw [hK0]; exact ((Keeps.refl _).alloc _).at_ (AHeap.get_alloc_new H _)
  have gf0 : K0.get (H.n + 1) = some (.cells true false 4 fs 143) := by rw [hK0]; exact AHeap.get_alloc_new (H.alloc _) _
  have gc0 := k0.at_ gc
  have gb0 := k0.at_ gb
  have h0 : CyR K0 c b s x cv us := gc0
  have l0 := AHeap.get_lt gm0
  have l1 := AHeap.get_lt gf0
  unfold amc at gb0
  subst hfs
  simp (disch := first | assumption | omega | (simp only [LN] <;> omega) | (simp (disch := first | assumption | omega | (simp only [LN] <;> omega)) only [row_alloc, row_set]; assumption)) only [f46, W_block, P3, ↓reduceIte, reduceAdd, reduceEqDiff, reduceCtorEq, initFr, reduceLT, clsA, reduceLeDiff, reduceMul, reduceSub, reduceIte, fillF, one_fn, o_fn, o_nf, one_nf]
  rw [← hK0]
  simp (disch := first | assumption | omega | (simp only [LN] <;> omega) | (simp (disch := first | assumption | omega | (simp only [LN] <;> omega)) only [row_alloc, row_set]; assumption)) only [W_block, P3, ↓reduceIte, reduceAdd, reduceEqDiff, reduceCtorEq, initFr, reduceLT, clsA, reduceLeDiff, reduceMul, reduceSub, reduceIte, gc0, cyl_0, gb0, isl, lenl]
  have off : okC L kd n = false → comA L x s kd n = s := fun e => by unfold comA; rw [e]; rfl
  have kKK := kK.trans k0
  by_cases hk1 : kd = 1
  · subst hk1
    have t1 : Int.toNat 1 = 1 := rfl
    have w1 : IntKind.i64.wrap 1 = 1 := by rw [wrap_i64 (by omega) (by omega)]
    have q1 : ((1 : Int) == 3) = false := rfl
    have r1 : (1 : Int) < 4 := by omega
    have z1 : (0 : Int) ≤ 1 := by omega
    by_cases g1 : 0 ≤ n
    · by_cases g2 : n < ((L.r.length : Nat) : Int)
      · obtain ⟨m, rfl⟩ : ∃ m : Nat, n = (m : Int) := ⟨n.toNat, by omega⟩
        have g3 : m < L.r.length := by omega
        have mt : Int.toNat (m : Int) = m := by omega
        have hok : okC L 1 (m : Int) = true := by unfold okC; simp; omega
        have hres : comA L x s 1 (m : Int) = setA L x s m := by unfold comA; rw [if_pos hok, mt]; simp
        simp (disch := first | assumption | omega | (simp only [LN] <;> omega) | (simp (disch := first | assumption | omega | (simp only [LN] <;> omega)) only [row_alloc, row_set]; assumption)) only [W_block, P3, ↓reduceIte, reduceAdd, reduceEqDiff, reduceCtorEq, initFr, reduceLT, clsA, reduceLeDiff, reduceMul, reduceSub, reduceIte, gm0, gf0, gc0, cyl_0, gb0, isl, lenl, isi, leni, l0, l1, t1, w1, q1, r1, z1, g1, g2, a_iaddrp, Nat.mul_one, Nat.zero_add, e_nn, e_fn, st_callv, toList_arr, List.nil_append, List.append_nil]
        refine callK (t84 h0 (hK.keeps kKK) he g3) ?_
        rintro _ X ⟨cX, hX⟩
        simp (disch := first | assumption | omega | (simp only [LN] <;> omega) | (simp (disch := first | assumption | omega | (simp only [LN] <;> omega)) only [row_alloc, row_set]; assumption)) only [W_block, P3, ↓reduceIte, reduceAdd, reduceEqDiff, reduceCtorEq, initFr, reduceLT, clsA, reduceLeDiff, reduceMul, reduceSub, reduceIte]
        exact hq1 _ _ ⟨_, rfl, (k0.chg [c]).trans cX (by simp), by rw [hres]; exact hX⟩
      · have hok : okC L 1 n = false := by unfold okC; simp; omega
        simp (disch := first | assumption | omega | (simp only [LN] <;> omega) | (simp (disch := first | assumption | omega | (simp only [LN] <;> omega)) only [row_alloc, row_set]; assumption)) only [W_block, P3, ↓reduceIte, reduceAdd, reduceEqDiff, reduceCtorEq, initFr, reduceLT, clsA, reduceLeDiff, reduceMul, reduceSub, reduceIte, gm0, gf0, gc0, cyl_0, gb0, isl, lenl, isi, leni, l0, l1, t1, w1, q1, r1, z1, g1, g2, a_iaddrp, Nat.mul_one, Nat.zero_add, e_nn, e_fn]
        exact hq1 _ _ ⟨_, rfl, k0.chg [c], by rw [off hok]; exact h0⟩
    · have hok : okC L 1 n = false := by unfold okC; simp; omega
      simp (disch := first | assumption | omega | (simp only [LN] <;> omega) | (simp (disch := first | assumption | omega | (simp only [LN] <;> omega)) only [row_alloc, row_set]; assumption)) only [W_block, P3, ↓reduceIte, reduceAdd, reduceEqDiff, reduceCtorEq, initFr, reduceLT, clsA, reduceLeDiff, reduceMul, reduceSub, reduceIte, gm0, gf0, gc0, cyl_0, gb0, isl, lenl, isi, leni, l0, l1, t1, w1, q1, r1, z1, g1, a_iaddrp, Nat.mul_one, Nat.zero_add, e_nn, e_fn]
      exact hq1 _ _ ⟨_, rfl, k0.chg [c], by rw [off hok]; exact h0⟩
  by_cases hk2 : kd = 2
  · subst hk2
    have t2 : Int.toNat 2 = 2 := rfl
    have w2 : IntKind.i64.wrap 2 = 2 := by rw [wrap_i64 (by omega) (by omega)]
    have q2 : ((2 : Int) == 3) = false := rfl
    have r2 : (2 : Int) < 4 := by omega
    have z2 : (0 : Int) ≤ 2 := by omega
    by_cases g1 : 0 ≤ n
    · by_cases g2 : n < ((L.r.length : Nat) : Int)
      · obtain ⟨m, rfl⟩ : ∃ m : Nat, n = (m : Int) := ⟨n.toNat, by omega⟩
        have g3 : m < L.r.length := by omega
        have mt : Int.toNat (m : Int) = m := by omega
        have hok : okC L 2 (m : Int) = true := by unfold okC; simp; omega
        have hres : comA L x s 2 (m : Int) = canA L x s m := by unfold comA; rw [if_pos hok, mt]; simp
        simp (disch := first | assumption | omega | (simp only [LN] <;> omega) | (simp (disch := first | assumption | omega | (simp only [LN] <;> omega)) only [row_alloc, row_set]; assumption)) only [W_block, P3, ↓reduceIte, reduceAdd, reduceEqDiff, reduceCtorEq, initFr, reduceLT, clsA, reduceLeDiff, reduceMul, reduceSub, reduceIte, gm0, gf0, gc0, cyl_0, gb0, isl, lenl, isi, leni, l0, l1, t2, w2, q2, r2, z2, g1, g2, a_iaddrp, Nat.mul_one, Nat.zero_add, e_nn, e_fn, st_callv, toList_arr, List.nil_append, List.append_nil]
        refine callK (t85 h0 hK kKK hc he hz g3) ?_
        rintro _ X ⟨cX, hX⟩
        simp (disch := first | assumption | omega | (simp only [LN] <;> omega) | (simp (disch := first | assumption | omega | (simp only [LN] <;> omega)) only [row_alloc, row_set]; assumption)) only [W_block, P3, ↓reduceIte, reduceAdd, reduceEqDiff, reduceCtorEq, initFr, reduceLT, clsA, reduceLeDiff, reduceMul, reduceSub, reduceIte]
        exact hq1 _ _ ⟨_, rfl, (k0.chg [c]).trans cX (by simp), by rw [hres]; exact hX⟩
      · have hok : okC L 2 n = false := by unfold okC; simp; omega
        simp (disch := first | assumption | omega | (simp only [LN] <;> omega) | (simp (disch := first | assumption | omega | (simp only [LN] <;> omega)) only [row_alloc, row_set]; assumption)) only [W_block, P3, ↓reduceIte, reduceAdd, reduceEqDiff, reduceCtorEq, initFr, reduceLT, clsA, reduceLeDiff, reduceMul, reduceSub, reduceIte, gm0, gf0, gc0, cyl_0, gb0, isl, lenl, isi, leni, l0, l1, t2, w2, q2, r2, z2, g1, g2, a_iaddrp, Nat.mul_one, Nat.zero_add, e_nn, e_fn]
        exact hq1 _ _ ⟨_, rfl, k0.chg [c], by rw [off hok]; exact h0⟩
    · have hok : okC L 2 n = false := by unfold okC; simp; omega
      simp (disch := first | assumption | omega | (simp only [LN] <;> omega) | (simp (disch := first | assumption | omega | (simp only [LN] <;> omega)) only [row_alloc, row_set]; assumption)) only [W_block, P3, ↓reduceIte, reduceAdd, reduceEqDiff, reduceCtorEq, initFr, reduceLT, clsA, reduceLeDiff, reduceMul, reduceSub, reduceIte, gm0, gf0, gc0, cyl_0, gb0, isl, lenl, isi, leni, l0, l1, t2, w2, q2, r2, z2, g1, a_iaddrp, Nat.mul_one, Nat.zero_add, e_nn, e_fn]
      exact hq1 _ _ ⟨_, rfl, k0.chg [c], by rw [off hok]; exact h0⟩
  by_cases hk3 : kd = 3
  · subst hk3
    have t3 : Int.toNat 3 = 3 := rfl
    have w3 : IntKind.i64.wrap 3 = 3 := by rw [wrap_i64 (by omega) (by omega)]
    have q3 : ((3 : Int) == 3) = true := rfl
    have r3 : (3 : Int) < 4 := by omega
    have z3 : (0 : Int) ≤ 3 := by omega
    by_cases g1 : 0 ≤ n
    · by_cases g2 : n < ((L.p.length : Nat) : Int)
      · obtain ⟨m, rfl⟩ : ∃ m : Nat, n = (m : Int) := ⟨n.toNat, by omega⟩
        have g3 : m < L.p.length := by omega
        have mt : Int.toNat (m : Int) = m := by omega
        have hok : okC L 3 (m : Int) = true := by unfold okC; simp; omega
        have hres : comA L x s 3 (m : Int) = movA L x s m := by unfold comA; rw [if_pos hok, mt]; simp
        simp (disch := first | assumption | omega | (simp only [LN] <;> omega) | (simp (disch := first | assumption | omega | (simp only [LN] <;> omega)) only [row_alloc, row_set]; assumption)) only [W_block, P3, ↓reduceIte, reduceAdd, reduceEqDiff, reduceCtorEq, initFr, reduceLT, clsA, reduceLeDiff, reduceMul, reduceSub, reduceIte, gm0, gf0, gc0, cyl_0, gb0, isl, lenl, isi, leni, l0, l1, t3, w3, q3, r3, z3, g1, g2, a_iaddrp, Nat.mul_one, Nat.zero_add, e_nn, e_fn, st_callv, toList_arr, List.nil_append, List.append_nil]
        refine callK (t86 h0 (hK.keeps kKK) he g3) ?_
        rintro _ X ⟨cX, hX⟩
        simp (disch := first | assumption | omega | (simp only [LN] <;> omega) | (simp (disch := first | assumption | omega | (simp only [LN] <;> omega)) only [row_alloc, row_set]; assumption)) only [W_block, P3, ↓reduceIte, reduceAdd, reduceEqDiff, reduceCtorEq, initFr, reduceLT, clsA, reduceLeDiff, reduceMul, reduceSub, reduceIte]
        exact hq1 _ _ ⟨_, rfl, (k0.chg [c]).trans cX (by simp), by rw [hres]; exact hX⟩
      · have hok : okC L 3 n = false := by unfold okC; simp; omega
        simp (disch := first | assumption | omega | (simp only [LN] <;> omega) | (simp (disch := first | assumption | omega | (simp only [LN] <;> omega)) only [row_alloc, row_set]; assumption)) only [W_block, P3, ↓reduceIte, reduceAdd, reduceEqDiff, reduceCtorEq, initFr, reduceLT, clsA, reduceLeDiff, reduceMul, reduceSub, reduceIte, gm0, gf0, gc0, cyl_0, gb0, isl, lenl, isi, leni, l0, l1, t3, w3, q3, r3, z3, g1, g2, a_iaddrp, Nat.mul_one, Nat.zero_add, e_nn, e_fn]
        exact hq1 _ _ ⟨_, rfl, k0.chg [c], by rw [off hok]; exact h0⟩
    · have hok : okC L 3 n = false := by unfold okC; simp; omega
      simp (disch := first | assumption | omega | (simp only [LN] <;> omega) | (simp (disch := first | assumption | omega | (simp only [LN] <;> omega)) only [row_alloc, row_set]; assumption)) only [W_block, P3, ↓reduceIte, reduceAdd, reduceEqDiff, reduceCtorEq, initFr, reduceLT, clsA, reduceLeDiff, reduceMul, reduceSub, reduceIte, gm0, gf0, gc0, cyl_0, gb0, isl, lenl, isi, leni, l0, l1, t3, w3, q3, r3, z3, g1, a_iaddrp, Nat.mul_one, Nat.zero_add, e_nn, e_fn]
      exact hq1 _ _ ⟨_, rfl, k0.chg [c], by rw [off hok]; exact h0⟩
  have hok : okC L kd n = false := by unfold okC; simp; omega
  have q3 : (kd == 3) = false := by simp [hk3]
  have wk : IntKind.i64.wrap kd = kd := by rw [wrap_i64 (by omega) (by omega)]
  by_cases hk0 : kd = 0
  · subst hk0
    have t0 : Int.toNat 0 = 0 := rfl
    have r0 : (0 : Int) < 4 := by omega
    simp (disch := first | assumption | omega | (simp only [LN] <;> omega) | (simp (disch := first | assumption | omega | (simp only [LN] <;> omega)) only [row_alloc, row_set]; assumption)) only [W_block, P3, ↓reduceIte, reduceAdd, reduceEqDiff, reduceCtorEq, initFr, reduceLT, clsA, reduceLeDiff, reduceMul, reduceSub, reduceIte, gm0, gf0, gc0, cyl_0, gb0, isl, lenl, isi, leni, l0, l1, q3, wk, t0, r0, a_iaddrp, Nat.mul_one, Nat.zero_add, e_nn, e_fn]
    exact hq1 _ _ ⟨_, rfl, k0.chg [c], by rw [off hok]; exact h0⟩
  · have r4 : ¬ kd < 4 := by omega
    simp (disch := first | assumption | omega | (simp only [LN] <;> omega) | (simp (disch := first | assumption | omega | (simp only [LN] <;> omega)) only [row_alloc, row_set]; assumption)) only [W_block, P3, ↓reduceIte, reduceAdd, reduceEqDiff, reduceCtorEq, initFr, reduceLT, clsA, reduceLeDiff, reduceMul, reduceSub, reduceIte, gm0, gf0, gc0, cyl_0, gb0, isl, lenl, isi, leni, l0, l1, q3, wk, r4]
    exact hq1 _ _ ⟨_, rfl, k0.chg [c], by rw [off hok]; exact h0⟩
end Go.AM.Fd

set_option linter.unusedSimpArgs false
set_option linter.unusedVariables false
set_option maxRecDepth 8000
namespace Go.AM.Fd
open Go.Proofs Go.AM.F
structure SlC (H : AHeap) (z : Nat) (v : Value) (rows : List (List Value)) : Prop where
  s : Sl H z v rows
  c : v = .slice none 0 0 ∨ (∃ b o q, v = .slice (some ⟨b, o, some q⟩) 0 0) ∨ ∃ b n k o r c u, v = slc b 0 n k ∧ n ≤ k ∧ H.get b = some (.cells o r z c u)
theorem SlC.keeps {H K : AHeap} {z : Nat} {v : Value} {rows : List (List Value)} (h : SlC H z v rows) (k : Keeps H K) : SlC K z v rows := by
  refine ⟨h.s.keeps k, ?_⟩
  rcases h.c with e | e | ⟨b, n, m, o, r, c, u, e1, e2, e3⟩
  · exact .inl e
  · exact .inr (.inl e)
  · exact .inr (.inr ⟨b, n, m, o, r, c, u, e1, e2, k.at_ e3⟩)
theorem SlC.pre {H : AHeap} {z : Nat} {v : Value} {rows : List (List Value)} (h : SlC H z v rows) {i : Nat} {kd : IntKind} (hi : i ≤ rows.length) : ∃ w, (∀ K, Keeps H K → asem (.slsl z v none (some (.int kd (i : Nat))) none) K = some (w, K)) ∧ Sl H z w (rows.take i) := by
  have hr : ∀ r ∈ rows.take i, r.length = z := fun r hm => h.s.row r (List.mem_of_mem_take hm)
  have hl := h.s.len
  rcases h.c with rfl | ⟨b, o, q, rfl⟩ | ⟨b, n, k, o, r, c, u, rfl, e2, e3⟩
  · have : rows = [] := List.eq_nil_of_length_eq_zero hl.symm
    subst this
    have : i = 0 := by simpa using hi
    subst this
    exact ⟨_, fun _ _ => a_slsl_nil ⟨0, 0, 0, bnd_none 0 0, bnd_some kd 0 0 0 (Nat.le_refl _), bnd_none 0 0⟩, Sl.nil _ _⟩
  · have : rows = [] := List.eq_nil_of_length_eq_zero hl.symm
    subst this
    have : i = 0 := by simpa using hi
    subst this
    refine ⟨_, fun K _ => ?_, h.s⟩
    have h1 := bnd_none 0 0
    have h2 := bnd_some kd 0 0 0 (Nat.le_refl _)
    simp only [asem, h1, h2, and_self, if_true]
  · have hn : n = rows.length := hl
    subst hn
    refine ⟨_, fun K kk => a_slsl (kk.at_ e3) (bnd_none _ _) (bnd_some kd i rows.length k (by omega)) (bnd_none 0 i), ⟨⟨_, _, by rw [List.length_take, Nat.min_eq_left hi, Nat.sub_zero]; rfl⟩, hr, ?_⟩⟩
    have hel := h.s.el
    simp only [elemsA, slc, e3] at hel
    have hf : rows.flatten.length = rows.length * z := flat_len h.s.row
    have hle : i * z ≤ rows.length * z := Nat.mul_le_mul_right _ hi
    split at hel
    · rename_i hc
      rw [Option.some.injEq, List.drop_zero] at hel
      simp only [elemsA, slc, e3, Nat.zero_mul, Nat.add_zero, Nat.zero_add, Nat.sub_zero]
      rw [if_pos (by omega), List.drop_zero]
      congr 1
      have e : rows.flatten = (rows.take i).flatten ++ (rows.drop i).flatten := by rw [← List.flatten_append, List.take_append_drop]
      have hl2 : (rows.take i).flatten.length = i * z := by rw [flat_len hr, List.length_take, Nat.min_eq_left hi]
      have e4 : c.take (i * z) = (c.take (rows.length * z)).take (i * z) := by rw [List.take_take, Nat.min_eq_left hle]
      rw [e4, hel, e, ← hl2, List.take_left]
    · cases hel
theorem fillG (z0 u a : Value) (zs zi S I : List Value) (h1 : zs.length = 68) (h2 : zi.length = 4) (h3 : S.length = 68) (h4 : I.length = 4) (ha : a.cells.toList = [a]) :
    fillA (z0 :: (zs ++ (zi ++ [u]))) [(0, 1, a), (1, 68, .agg S.toArray), (69, 4, .agg I.toArray)] = some (a :: (S ++ (I ++ [u]))) := by
  have c1 : (Value.agg S.toArray).cells.toList = S := rfl
  have c2 : (Value.agg I.toArray).cells.toList = I := rfl
  rw [fill_cons, ha, if_pos ⟨rfl, by simp⟩]
  have e1 : (z0 :: (zs ++ (zi ++ [u]))).take 0 ++ [a] ++ (z0 :: (zs ++ (zi ++ [u]))).drop (0 + 1) = a :: (zs ++ (zi ++ [u])) := by simp
  rw [e1, fill_cons, c1, if_pos ⟨h3, by simp [h1]⟩]
  have e2 : (a :: (zs ++ (zi ++ [u]))).take 1 ++ S ++ (a :: (zs ++ (zi ++ [u]))).drop (1 + 68) = (a :: S) ++ (zi ++ [u]) := by
    have : (a :: (zs ++ (zi ++ [u]))).drop (1 + 68) = zi ++ [u] := by
      rw [Nat.add_comm, List.drop_succ_cons, ← h1, List.drop_left]
    rw [this]; simp
  rw [e2, fill_cons, c2, if_pos ⟨h4, by simp [h2, h3]⟩]
  have e3 : ((a :: S) ++ (zi ++ [u])).take 69 = a :: S := by
    have : (69 : Nat) = (a :: S).length := by simp [h3]
    rw [this, List.take_left]
  have e4 : ((a :: S) ++ (zi ++ [u])).drop (69 + 4) = [u] := by
    have e : (a :: S) ++ (zi ++ [u]) = ((a :: S) ++ zi) ++ [u] := by simp
    have : (69 + 4 : Nat) = ((a :: S) ++ zi).length := by simp [h3, h2]
    rw [e, this, List.drop_left]
  rw [e3, e4]
  simp [fillA]
theorem Z74K_z : Z74K = Value.pointer none :: ((([.int .u64 0, .int .u64 0, .int .u64 0] : List Value) ++ List.replicate 64 (.int .u8 0) ++ [.int .u32 0]) ++ (([.int .u64 0, .int .u32 0, .int .u32 0, .slice none 0 0] : List Value) ++ [.int .u64 0])) := rfl
theorem fillC (b : Nat) (s : Sta) (x : Inp) (cv : Value) : fillA Z74K [(0, 1, ptr b 0), (1, 68, .agg (stl s).toArray), (69, 4, .agg #[S64 x.oc, S32 x.nr, S32 x.rv, cv])] = some (cyl b s x cv fun _ => false) := by
  have e : (#[S64 x.oc, S32 x.nr, S32 x.rv, cv] : Array Value) = [S64 x.oc, S32 x.nr, S32 x.rv, cv].toArray := rfl
  rw [Z74K_z, e, fillG _ _ _ _ _ _ _ (by simp) rfl (stl_len s) rfl rfl, s_zero]
  rfl
theorem cyl_one {b : Nat} {s : Sta} {x : Inp} {cv : Value} {us : Nat → Bool} (hc : isS cv = true) : (cyl b s x cv us).all Value.oneCell' = true := by
  show (true && (stl s ++ [S64 x.oc, S32 x.nr, S32 x.rv, cv, S64 us]).all Value.oneCell') = true
  rw [List.all_append, stl_one]
  have : cv.oneCell' = true := by
    cases cv with
    | slice a n k => rfl
    | _ => cases hc
  simp [this, one_s64, one_s32]
theorem tz_tidy (L : Ly) (s : Sta) : TZ (tidyS L s) := by
  intro j h
  show (if _ then _ else _) = 0
  rw [if_neg]
  have h' : (s.ca j && (s.lo j && lowP L.r.length j)) = false := h
  rw [h']; simp
theorem tz_com {L : Ly} {x : Inp} {s : Sta} {kd n : Int} (h : TZ s) : TZ (comD L x s kd n) := by
  intro j
  have hj := h j
  unfold comD
  repeat' split
  all_goals first | exact hj | skip
  all_goals
    intro h2
    simp only [Bool.or_eq_false_iff, decide_eq_false_iff_not] at h2
    show upd _ _ _ j = 0
    unfold upd
    rw [if_neg h2.2]; exact hj h2.1
theorem tz_cmd {L : Ly} {x : Inp} : ∀ {cs : List (Int × Int)} {s : Sta}, TZ s → TZ (cmdD L x s cs)
  | [], s, h => h
  | c :: cs, s, h => tz_cmd (cs := cs) (tz_com h)
end Go.AM.Fd

set_option linter.unusedSimpArgs false
set_option linter.unusedVariables false
set_option maxRecDepth 8000
namespace Go.AM.Fd
open Nat (reduceAdd reduceEqDiff reduceLT reduceLeDiff reduceMul reduceSub)
open Go.Proofs Go.AM.F
set_option maxHeartbeats 8000000 in
theorem t17 {H : AHeap} {b : Nat} {L : Ly} {s : Sta} {x : Inp} {cv : Value} {cs : List (Int × Int)} (hm : MaA H b L) (he : checkE L = 0) (hc : SlC H 2 cv (cs.map cRow)) (hcl : cs.length ≤ 1000000) (hk : ∀ c ∈ cs, 0 ≤ c.1 ∧ c.1 < 256) :
    ∃ w H', ARun Go.Proofs.Try.prog 0 17 [ptr b 0, .agg (stl s).toArray, .agg (inl x cv).toArray] H w H' ∧ w = .tuple #[.agg (stl (stepD L s x cs)).toArray, .agg #[S64 (fun i => decide (i < L.r.length) && proD L x (stepD L s x cs) i), S32 (stepD L s x cs).po]] ∧ H' = H := by
  suffices h' : ∃ w H', ARun Go.Proofs.Try.prog 0 17 [ptr b 0, .agg (stl s).toArray, .agg (inl x cv).toArray] H w H' ∧ w = .tuple #[.agg (stl (stepD L s x cs)).toArray, .agg #[S64 (fun i => decide (i < L.r.length) && proD L x (stepD L s x cs) i), S32 (stepD L s x cs).po]] ∧ Keeps H H' by
    obtain ⟨_, _, a, rfl, k⟩ := h'
    exact ⟨_, _, a.gc0 k (.inr (NV.tuple_of (.cons (nv_stl _ _) (.cons (NV.agg_of (l := [S64 (fun i => decide (i < L.r.length) && proD L x (stepD L s x cs) i), S32 (stepD L s x cs).po]) (NL.plain rfl)) .nil)))), rfl, rfl⟩
  refine walk2 f17_ok f17_n ?_
  intro Q hq1 hq2
  have lr := (may_lim (check_may he)).r
  obtain ⟨vl, vi, ls, own, room, T, gb, sl, ok, si⟩ := hm.x
  have isl := Sl.is sl
  have lenl : lenS vl = L.r.length := by have := Sl.len sl; simpa [arows] using this
  have isc := Sl.is hc.s
  have onec := Sl.one hc.s
  have clen : lenS cv = cs.length := by have := Sl.len hc.s; simpa using this
  have hinl : inl x cv = [S64 x.oc, S32 x.nr, S32 x.rv, cv] := rfl
  obtain ⟨K0, hK0⟩ : ∃ X, X = (((H.alloc (.cells true false 68 (stl s) 32)).alloc (.cells true false 4 (inl x cv) 43)).alloc (.cells true false 68 (stl Sta0) 32)).alloc (.cells true false 2 [.int .u64 0, .int .u32 0] 52) := ⟨_, rfl⟩
  have k0 : Keeps H K0 := by rw [hK0]; exact ((((Keeps.refl H).alloc _).alloc _).alloc _).alloc _
  have n0 : K0.n = H.n + 4 := by rw [hK0]; rfl
  have gs0 : K0.get H.n = some (.cells true false 68 (stl s) 32) := by rw [hK0]; exact ((((Keeps.refl _).alloc _).alloc _).alloc _).at_ (AHeap.get_alloc_new H _)
  have gi0 : K0.get (H.n + 1) = some (.cells true false 4 (inl x cv) 43) := by rw [hK0]; exact (((Keeps.refl _).alloc _).alloc _).at_ (AHeap.get_alloc_new (H.alloc _) _)
  have gw0 : K0.get (H.n + 2) = some (.cells true false 68 (stl Sta0) 32) := by rw [hK0]; exact ((Keeps.refl _).alloc _).at_ (AHeap.get_alloc_new ((H.alloc _).alloc _) _)
  have go0 : K0.get (H.n + 3) = some (.cells true false 2 [.int .u64 0, .int .u32 0] 52) := by rw [hK0]; exact AHeap.get_alloc_new (((H.alloc _).alloc _).alloc _) _
  have gb0 := k0.at_ gb
  have l0 := AHeap.get_lt gs0
  have l1 := AHeap.get_lt gi0
  have tT := t18 (hm.keeps k0) lr s
  unfold amc at gb gb0
  have cl1 := cyl_one (b := b) (s := tidyS L s) (x := x) (us := fun _ => false) isc
  rw [hinl] at hK0 gi0
  rw [hinl]
  simp (disch := first | assumption | omega | (simp only [LN] <;> omega) | (simp (disch := first | assumption | omega | (simp only [LN] <;> omega)) only [row_alloc, row_set]; assumption)) only [f17, W_block, P3, ↓reduceIte, reduceAdd, reduceEqDiff, reduceCtorEq, initFr, reduceLT, clsA, reduceLeDiff, reduceMul, reduceSub, reduceIte, stl_one, stl_len, rng68, onec, o_s64, o_s32, one_s64, one_s32, Z68K_z]
  simp only [← hK0]
  refine callK tT ?_
  rintro _ X ⟨rfl, hX⟩
  rw [hX]
  obtain ⟨s0, hs0e⟩ : ∃ t, t = tidyS L s := ⟨_, rfl⟩
  rw [← hs0e] at cl1 ⊢
  obtain ⟨K1, hK1⟩ : ∃ X, X = K0.alloc (.cells true false 74 (cyl b s0 x cv s0.us) 110) := ⟨_, rfl⟩
  have k1 : Keeps K0 K1 := by rw [hK1]; exact (Keeps.refl K0).alloc _
  have gc1 : CyR K1 (H.n + 4) b s0 x cv s0.us := by rw [hK1, ← n0]; exact AHeap.get_alloc_new K0 _
  simp (disch := first | assumption | omega | (simp only [LN] <;> omega) | (simp (disch := first | assumption | omega | (simp only [LN] <;> omega)) only [row_alloc, row_set]; assumption)) only [ P3, ↓reduceIte, reduceAdd, reduceEqDiff, reduceCtorEq, initFr, reduceLT, clsA, reduceLeDiff, reduceMul, reduceSub, reduceIte, gs0, gi0, l0, l1, rng68, fillC, cl1, cyl_len, cyl_2, cys_73, o_s64, one_s64]
  rw [← hK1]
  have hmn : min ((lenS cv : Nat) : Int) 8 = ((min cs.length 8 : Nat) : Int) := by rw [clen]; omega
  obtain ⟨cw, hcw0, slw0⟩ := hc.pre (i := min cs.length 8) (kd := .i64) (by rw [List.length_map]; omega)
  have hcw := hcw0 _ (k0.trans k1)
  obtain ⟨ds, hds⟩ : ∃ ds, ds = cs.take 8 := ⟨_, rfl⟩
  have slw : CL H cw ds := by
    have e : (cs.map cRow).take (min cs.length 8) = ds.map cRow := by
      rw [hds, List.map_take, List.take_eq_take_iff]; simp; omega
    rw [e] at slw0; exact slw0
  have lends : ds.length = min cs.length 8 := by rw [hds, List.length_take, Nat.min_comm]
  have isw := Sl.is slw
  have lenw := slw.len
  rw [← lends] at hmn hcw
  have ld8 : ds.length ≤ 8 := by omega
  simp (disch := first | assumption | omega | (simp only [LN] <;> omega) | (simp (disch := first | assumption | omega | (simp only [LN] <;> omega)) only [row_alloc, row_set]; assumption)) only [ P3, ↓reduceIte, reduceAdd, reduceEqDiff, reduceCtorEq, initFr, reduceLT, clsA, reduceLeDiff, reduceMul, reduceSub, reduceIte, hmn, hcw, isw, lenw]
  obtain ⟨A2, hA2⟩ : ∃ v : Value, v = .agg (stl s).toArray := ⟨_, rfl⟩
  obtain ⟨A4, hA4⟩ : ∃ v : Value, v = .agg #[S64 x.oc, S32 x.nr, S32 x.rv, cv] := ⟨_, rfl⟩
  rw [W_block, ← hA2, ← hA4, n0]
  refine W_loop2 (fun q fr X => ∃ i x8 x16, fr = [ptr b 0, A2, A4, ptr H.n 0, ptr (H.n + 1) 0, ptr (H.n + 2) 0, ptr (H.n + 3) 0, ptr (H.n + 4) 0, x8, undef, undef, undef, .bool false, cw, .int .i64 ((ds.length : Nat) : Int), .int .i64 ((i : Nat) : Int), x16, undef, undef, undef, undef, undef, undef, undef, undef] ∧
      Chg [H.n + 4] K1 X ∧ CyR X (H.n + 4) b (cmdD L x s0 (ds.take i)) x cv s0.us ∧ i ≤ ds.length ∧ q = ds.length - i) ds.length
    ⟨0, _, _, rfl, Chg.refl _ _, gc1, by omega, rfl⟩ ?_
  rintro Q' q fr X ⟨i, x8, x16, rfl, cX, gX, hi, rfl⟩ hn' hx' hret
  have kX : Keeps H X := (k0.trans k1).chg_trans cX (by simp)
  by_cases h1 : i < ds.length
  · obtain ⟨nc, rc⟩ := CL.at_ (slw.keeps kX) h1
    have e0 : (0 : Int) ≤ (i : Int) := by omega
    have e1 : (i : Int) < ((ds.length : Nat) : Int) := by omega
    have hw : IntKind.i64.wrap ((i : Int) + 1) = ((i + 1 : Nat) : Int) := by rw [wrap_i64 (by omega) (by omega)]; simp
    have hgd : ds.getD i (0, 0) = ds[i] := by rw [List.getD_eq_getElem?_getD, List.getElem?_eq_getElem h1]; rfl
    have htk : ds.take (i + 1) = ds.take i ++ [ds[i]] := by rw [List.take_add_one, List.getElem?_eq_getElem h1]; rfl
    have hkd := hk ds[i] (List.mem_of_mem_take (by rw [← hds]; exact List.getElem_mem h1))
    have tz : TZ (cmdD L x s0 (ds.take i)) := tz_cmd (by rw [hs0e]; exact tz_tidy L s)
    rw [hgd] at rc
    generalize ds[i] = c at *
    obtain ⟨kd, n⟩ := c
    obtain ⟨XA, hXA⟩ : ∃ Z, Z = X.alloc (.cells true false 2 [.int .u8 kd, .int .i64 n] 70) := ⟨_, rfl⟩
    have kA : Keeps X XA := by rw [hXA]; exact (Keeps.refl X).alloc _
    have gmA : XA.get X.n = some (.cells true false 2 [.int .u8 kd, .int .i64 n] 70) := by rw [hXA]; exact AHeap.get_alloc_new X _
    have gA : CyR XA (H.n + 4) b (cmdD L x s0 (ds.take i)) x cv s0.us := kA.at_ gX
    have lA := AHeap.get_lt gmA
    simp (disch := first | assumption | omega | (simp only [LN] <;> omega) | (simp (disch := first | assumption | omega | (simp only [LN] <;> omega)) only [row_alloc, row_set]; assumption)) only [W_block, P3, ↓reduceIte, reduceAdd, reduceEqDiff, reduceCtorEq, initFr, reduceLT, clsA, reduceLeDiff, reduceMul, reduceSub, reduceIte, e1, nc, rc, a_loadnvf, lenw]
    rw [← hXA]
    refine callK (t46 gA hm (kX.trans kA) (by omega) he tz hkd.1 hkd.2) ?_
    rintro _ Y ⟨cY, gY⟩
    simp (disch := first | assumption | omega | (simp only [LN] <;> omega) | (simp (disch := first | assumption | omega | (simp only [LN] <;> omega)) only [row_alloc, row_set]; assumption)) only [W_block, P3, ↓reduceIte, reduceAdd, reduceEqDiff, reduceCtorEq, initFr, reduceLT, clsA, reduceLeDiff, reduceMul, reduceSub, reduceIte, hw]
    exact hn' _ _ _ ⟨i + 1, _, _, rfl, (cX.trans (kA.chg [H.n + 4]) (by simp)).trans cY (by simp), by rw [htk, cmdD_snoc]; exact gY, by omega, rfl⟩ (by omega)
  · have e1 : ¬ (i : Int) < ((ds.length : Nat) : Int) := by omega
    have hil : i = ds.length := by omega
    subst hil
    rw [List.take_length] at gX
    obtain ⟨s1, hs1⟩ : ∃ t, t = cmdD L x s0 ds := ⟨_, rfl⟩
    rw [← hs1] at gX
    have ti1 : ∀ i, s1.ti i ≤ 20 := by rw [hs1, hs0e]; exact cmdD_ti (tidy_ti L s)
    have hst : stepD L s x cs = rosD L x s0.us s1 L.r.length := by unfold stepD; rw [hs1, hs0e, hds]
    rw [hst] at hq1 hq2
    simp (disch := first | assumption | omega | (simp only [LN] <;> omega) | (simp (disch := first | assumption | omega | (simp only [LN] <;> omega)) only [row_alloc, row_set]; assumption)) only [W_block, P3, ↓reduceIte, reduceAdd, reduceEqDiff, reduceCtorEq, initFr, reduceLT, clsA, reduceLeDiff, reduceMul, reduceSub, reduceIte, e1]
    refine hx' _ _ _ ?_
    have gbX := kX.at_ gb
    simp (disch := first | assumption | omega | (simp only [LN] <;> omega) | (simp (disch := first | assumption | omega | (simp only [LN] <;> omega)) only [row_alloc, row_set]; assumption)) only [ P3, ↓reduceIte, reduceAdd, reduceEqDiff, reduceCtorEq, initFr, reduceLT, clsA, reduceLeDiff, reduceMul, reduceSub, reduceIte, gbX, isl, lenl]
    rw [W_block]
    refine W_loop2 (fun q fr Y => ∃ k x9 x19 x20, fr = [ptr b 0, A2, A4, ptr H.n 0, ptr (H.n + 1) 0, ptr (H.n + 2) 0, ptr (H.n + 3) 0, ptr (H.n + 4) 0, x8, x9, undef, undef, .bool false, cw, .int .i64 ((ds.length : Nat) : Int), .int .i64 ((ds.length : Nat) : Int), .bool false, .int .i64 ((L.r.length : Nat) : Int), .int .i64 ((k : Nat) : Int), x19, x20, undef, undef, undef, undef] ∧
        Chg [H.n + 4] K1 Y ∧ CyR Y (H.n + 4) b (rosD L x s0.us s1 k) x cv s0.us ∧ k ≤ L.r.length ∧ q = L.r.length - k) L.r.length
      ⟨0, _, _, _, rfl, cX, gX, by omega, rfl⟩ ?_
    rintro Q2 q fr Y ⟨k, x9, x19, x20, rfl, cY, gY, hk', rfl⟩ hn2 hx2 hret2
    have kY : Keeps H Y := (k0.trans k1).chg_trans cY (by simp)
    by_cases hlk : k < L.r.length
    · have kN : k < 64 := by omega
      have c0 : (0 : Int) ≤ (k : Int) := by omega
      have c1 : ((k : Nat) : Int) < ((L.r.length : Nat) : Int) := by omega
      have hw2 : IntKind.i64.wrap ((k : Int) + 1) = ((k + 1 : Nat) : Int) := by rw [wrap_i64 (by omega) (by omega)]; simp
      have hrs := rosD_s L x s0.us s1 k
      have tik := rosD_ti (L := L) (x := x) (us := s0.us) ti1 k
      generalize rosD L x s0.us s1 k = t at *
      simp (disch := first | assumption | omega | (simp only [LN] <;> omega) | (simp (disch := first | assumption | omega | (simp only [LN] <;> omega)) only [row_alloc, row_set]; assumption)) only [W_block, P3, ↓reduceIte, reduceAdd, reduceEqDiff, reduceCtorEq, initFr, reduceLT, clsA, reduceLeDiff, reduceMul, reduceSub, reduceIte, c1]
      refine callK (t47 gY c0) ?_
      rintro _ Z ⟨rfl, hZ⟩
      rw [hZ, has_nat _ kN]
      cases hlo : t.lo k with
      | false =>
        rw [hlo] at hrs
        simp (disch := first | assumption | omega | (simp only [LN] <;> omega) | (simp (disch := first | assumption | omega | (simp only [LN] <;> omega)) only [row_alloc, row_set]; assumption)) only [W_block, P3, ↓reduceIte, reduceAdd, reduceEqDiff, reduceCtorEq, initFr, reduceLT, clsA, reduceLeDiff, reduceMul, reduceSub, reduceIte, hw2]
        exact hn2 _ _ _ ⟨k + 1, _, _, _, rfl, cY, by rw [hrs]; exact gY, by omega, rfl⟩ (by omega)
      | true =>
        rw [hlo] at hrs
        simp (disch := first | assumption | omega | (simp only [LN] <;> omega) | (simp (disch := first | assumption | omega | (simp only [LN] <;> omega)) only [row_alloc, row_set]; assumption)) only [W_block, P3, ↓reduceIte, reduceAdd, reduceEqDiff, reduceCtorEq, initFr, reduceLT, clsA, reduceLeDiff, reduceMul, reduceSub, reduceIte]
        refine callK (t48 gY (hm.keeps kY) he (fun i => by have := tik i; omega) hlk) ?_
        rintro _ Z ⟨cZ, gZ⟩
        simp (disch := first | assumption | omega | (simp only [LN] <;> omega) | (simp (disch := first | assumption | omega | (simp only [LN] <;> omega)) only [row_alloc, row_set]; assumption)) only [W_block, P3, ↓reduceIte, reduceAdd, reduceEqDiff, reduceCtorEq, initFr, reduceLT, clsA, reduceLeDiff, reduceMul, reduceSub, reduceIte, hw2]
        exact hn2 _ _ _ ⟨k + 1, _, _, _, rfl, cY.trans cZ (by simp), by rw [hrs]; exact gZ, by omega, rfl⟩ (by omega)
    · have c1 : ¬ ((k : Nat) : Int) < ((L.r.length : Nat) : Int) := by omega
      have hke : k = L.r.length := by omega
      subst hke
      obtain ⟨t, ht⟩ : ∃ t, t = rosD L x s0.us s1 L.r.length := ⟨_, rfl⟩
      rw [← ht] at hq1 hq2 gY
      have gcY := gY
      unfold CyR at gcY
      have lcY := AHeap.get_lt gcY
      have gbY := kY.at_ gb
      have gwY := cY.at_ (k1.at_ gw0) (by simp)
      have goY := cY.at_ (k1.at_ go0) (by simp)
      simp (disch := first | assumption | omega | (simp only [LN] <;> omega) | (simp (disch := first | assumption | omega | (simp only [LN] <;> omega)) only [row_alloc, row_set]; assumption)) only [W_block, P3, ↓reduceIte, reduceAdd, reduceEqDiff, reduceCtorEq, initFr, reduceLT, clsA, reduceLeDiff, reduceMul, reduceSub, reduceIte, c1]
      refine hx2 _ _ _ ?_
      obtain ⟨Z0, hZ0⟩ : ∃ Z, Z = Y.alloc (.cells true false 2 [S64 fun j => decide (j < 0) && proD L x t j, S32 t.po] 52) := ⟨_, rfl⟩
      have kZ0 : Keeps Y Z0 := by rw [hZ0]; exact (Keeps.refl Y).alloc _
      have gz0 : Z0.get Y.n = some (.cells true false 2 [S64 fun j => decide (j < 0) && proD L x t j, S32 t.po] 52) := by rw [hZ0]; exact AHeap.get_alloc_new Y _
      have e00 : Value.int .u64 0 = S64 fun j => decide (j < 0) && proD L x t j := by rw [s_zero]; exact s64_ext fun i _ => by simp
      simp (disch := first | assumption | omega | (simp only [LN] <;> omega) | (simp (disch := first | assumption | omega | (simp only [LN] <;> omega)) only [row_alloc, row_set]; assumption)) only [ P3, ↓reduceIte, reduceAdd, reduceEqDiff, reduceCtorEq, initFr, reduceLT, clsA, reduceLeDiff, reduceMul, reduceSub, reduceIte, gcY, cyl_68, gbY, isl, lenl, fillO1, o_s32, one_s32]
      have gbZ0 := kZ0.at_ gbY
      rw [e00, ← hZ0]
      simp (disch := first | assumption | omega | (simp only [LN] <;> omega) | (simp (disch := first | assumption | omega | (simp only [LN] <;> omega)) only [row_alloc, row_set]; assumption)) only [ P3, ↓reduceIte, reduceAdd, reduceEqDiff, reduceCtorEq, initFr, reduceLT, clsA, reduceLeDiff, reduceMul, reduceSub, reduceIte, gbZ0, isl, lenl]
      rw [W_block]
      refine W_loop2 (fun q fr Z => ∃ k x11 x23 x24, fr = [ptr b 0, A2, A4, ptr H.n 0, ptr (H.n + 1) 0, ptr (H.n + 2) 0, ptr (H.n + 3) 0, ptr (H.n + 4) 0, x8, x9, ptr Y.n 0, x11, .bool false, cw, .int .i64 ((ds.length : Nat) : Int), .int .i64 ((ds.length : Nat) : Int), .bool false, .int .i64 ((L.r.length : Nat) : Int), .int .i64 ((L.r.length : Nat) : Int), .bool false, x20, .int .i64 ((L.r.length : Nat) : Int), .int .i64 ((k : Nat) : Int), x23, x24] ∧
          Chg [Y.n] Z0 Z ∧ Z.get Y.n = some (.cells true false 2 [S64 fun j => decide (j < k) && proD L x t j, S32 t.po] 52) ∧ k ≤ L.r.length ∧ q = L.r.length - k) L.r.length
        ⟨0, _, _, _, rfl, Chg.refl _ _, gz0, by omega, rfl⟩ ?_
      rintro Q3 q fr Z ⟨k, x11, x23, x24, rfl, cZ, gz, hk', rfl⟩ hn3 hx3 hret3
      have kYZ : Keeps Y Z := kZ0.chg_trans cZ (by simp)
      have kZ : Keeps H Z := kY.trans kYZ
      have gZ : CyR Z (H.n + 4) b t x cv s0.us := kYZ.at_ gcY
      have gcZ := kYZ.at_ gcY
      have gwZ := kYZ.at_ gwY
      have goZ := kYZ.at_ goY
      have lZ := AHeap.get_lt gz
      by_cases hlk : k < L.r.length
      · have kN : k < 64 := by omega
        have c0 : (0 : Int) ≤ (k : Int) := by omega
        have c1 : ((k : Nat) : Int) < ((L.r.length : Nat) : Int) := by omega
        have hw2 : IntKind.i64.wrap ((k : Int) + 1) = ((k + 1 : Nat) : Int) := by rw [wrap_i64 (by omega) (by omega)]; simp
        have sh := s_shl1 kN
        simp (disch := first | assumption | omega | (simp only [LN] <;> omega) | (simp (disch := first | assumption | omega | (simp only [LN] <;> omega)) only [row_alloc, row_set]; assumption)) only [W_block, P3, ↓reduceIte, reduceAdd, reduceEqDiff, reduceCtorEq, initFr, reduceLT, clsA, reduceLeDiff, reduceMul, reduceSub, reduceIte, c1]
        refine callK (t49 gZ (hm.keeps kZ) he isc hlk) ?_
        rintro _ Z' ⟨rfl, hZ'⟩
        rw [hZ']
        cases hp : proD L x t k with
        | false =>
          simp (disch := first | assumption | omega | (simp only [LN] <;> omega) | (simp (disch := first | assumption | omega | (simp only [LN] <;> omega)) only [row_alloc, row_set]; assumption)) only [W_block, P3, ↓reduceIte, reduceAdd, reduceEqDiff, reduceCtorEq, initFr, reduceLT, clsA, reduceLeDiff, reduceMul, reduceSub, reduceIte, hw2]
          exact hn3 _ _ _ ⟨k + 1, _, _, _, rfl, cZ, by rw [gz, with_n (proD L x t) k hp], by omega, rfl⟩ (by omega)
        | true =>
          simp (disch := first | assumption | omega | (simp only [LN] <;> omega) | (simp (disch := first | assumption | omega | (simp only [LN] <;> omega)) only [row_alloc, row_set]; assumption)) only [W_block, P3, ↓reduceIte, reduceAdd, reduceEqDiff, reduceCtorEq, initFr, reduceLT, clsA, reduceLeDiff, reduceMul, reduceSub, reduceIte, gz, sh, s_or, o_s64, one_s64, hw2]
          refine hn3 _ _ _ ⟨k + 1, _, _, _, rfl, cZ.trans (Chg.set Z lZ _) (by simp), ?_, by omega, rfl⟩ (by omega)
          rw [AHeap.get_set_same gz, ← with_p (proD L x t) k hp]
          congr 4
          congr 1
          funext j
          simp only [oneP, Int.ofNat_inj]
      · have c1 : ¬ ((k : Nat) : Int) < ((L.r.length : Nat) : Int) := by omega
        have hke : k = L.r.length := by omega
        subst hke
        have hwl := AHeap.get_lt gwZ
        have hol := AHeap.get_lt goZ
        have oa : ∀ o, (Z.set (H.n + 2) o).get (H.n + 3) = Z.get (H.n + 3) := fun o => AHeap.get_set_other Z (by omega) hwl o
        simp (disch := first | assumption | omega | (simp only [LN] <;> omega) | (simp (disch := first | assumption | omega | (simp only [LN] <;> omega)) only [row_alloc, row_set]; assumption)) only [W_block, P3, ↓reduceIte, reduceAdd, reduceEqDiff, reduceCtorEq, initFr, reduceLT, clsA, reduceLeDiff, reduceMul, reduceSub, reduceIte, c1]
        refine hx3 _ _ _ ?_
        simp (disch := first | assumption | omega | (simp only [LN] <;> omega) | (simp (disch := first | assumption | omega | (simp only [LN] <;> omega)) only [row_alloc, row_set]; assumption)) only [W_block, P3, ↓reduceIte, reduceAdd, reduceEqDiff, reduceCtorEq, initFr, reduceLT, clsA, reduceLeDiff, reduceMul, reduceSub, reduceIte, gcZ, rng_cys, gz, gwZ, goZ, oa, rng68, stn68s, o_s64, o_s32, one_s64, one_s32]
        obtain ⟨pr, hpr⟩ : ∃ pr : Nat → Bool, pr = fun j => decide (j < L.r.length) && proD L x t j := ⟨_, rfl⟩
        rw [← hpr] at hq2 ⊢
        refine ⟨by simp, hq2 _ _ ⟨.tuple #[.agg (stl t).toArray, .agg #[S64 pr, S32 t.po]], ?_, rfl, (kZ.set (by omega) hwl _).set (by omega) (by rw [set_n]; exact hol) _⟩⟩
        have ga3 : ((Z.set (H.n + 2) (.cells true false 68 (stl t) 32)).set (H.n + 3) (.cells true false 2 [S64 pr, S32 t.po] 52)).get (H.n + 2) = some (.cells true false 68 (stl t) 32) := by
          rw [AHeap.get_set_other _ (by omega) (by rw [set_n]; exact hol)]; exact AHeap.get_set_same gwZ _
        have go3 : ((Z.set (H.n + 2) (.cells true false 68 (stl t) 32)).set (H.n + 3) (.cells true false 2 [S64 pr, S32 t.po] 52)).get (H.n + 3) = some (.cells true false 2 [S64 pr, S32 t.po] 52) :=
          AHeap.get_set_same ((oa _).trans goZ) _
        show resO [.cn 68 5, .cn 2 6] _ _ = _
        have r1' : celln 68 (ptr (H.n + 2) 0) ((Z.set (H.n + 2) (.cells true false 68 (stl t) 32)).set (H.n + 3) (.cells true false 2 [S64 pr, S32 t.po] 52)) = some (.agg (stl t).toArray) := by
          rw [cellnp, rangeA_e, ga3, rng68]; rfl
        have r2' : celln 2 (ptr (H.n + 3) 0) ((Z.set (H.n + 2) (.cells true false 68 (stl t) 32)).set (H.n + 3) (.cells true false 2 [S64 pr, S32 t.po] 52)) = some (.agg #[S64 pr, S32 t.po]) := by
          rw [cellnp, rangeA_e, go3]; rfl
        have e5 : ∀ l : List Value, l.getD 5 undef = ptr (H.n + 2) 0 → l.getD 6 undef = ptr (H.n + 3) 0 → ∀ K, celln 68 (ptr (H.n + 2) 0) K = some (.agg (stl t).toArray) → celln 2 (ptr (H.n + 3) 0) K = some (.agg #[S64 pr, S32 t.po]) →
            resO [.cn 68 5, .cn 2 6] l K = some (.tuple #[.agg (stl t).toArray, .agg #[S64 pr, S32 t.po]]) := fun l a b K c d => by
          simp only [resO, resVs, RX.get, a, b, c, d]; rfl
        exact e5 _ rfl rfl _ r1' r2'
end Go.AM.Fd

set_option linter.unusedSimpArgs false
set_option linter.unusedVariables false
set_option maxRecDepth 20000
namespace Go.AM.Fd
open Nat (reduceAdd reduceEqDiff reduceLT reduceLeDiff reduceMul reduceSub)
open Go.Proofs Go.AM.F
theorem rgt_eq {L : Ly} (he : checkE L = 0) (s : Sta) : rgtB L s = rgtD L s := by
  have hL := may_lim (check_may he)
  have lr := hL.r
  have lp := hL.p
  unfold rgtB rgtD
  congr 1
  rw [Bool.eq_iff_iff]
  simp only [Bool.and_eq_true, none64, none32, List.all_eq_true, List.mem_range, Bool.not_eq_true', Bool.and_eq_false_iff, iOK, kOK, nOK, Bool.or_eq_true, Bool.not_eq_false']
  constructor
  · rintro ⟨⟨h1, h2⟩, h3⟩ i hi
    refine ⟨?_, ?_⟩
    · cases hlo : s.lo i with
      | false => exact .inl rfl
      | true =>
        right
        intro k hk
        by_cases hik : i = k
        · left; left; simp [hik]
        · by_cases hlk : s.lo k = true
          · right
            rcases h1 k (by omega) with h | h
            · have : (s.lo i && tabP L i k) = false := by
                have := h
                unfold anyR at this
                rw [List.any_eq_false] at this
                simpa using this i (List.mem_range.2 hi)
              rw [hlo] at this
              have hki : ¬ k = i := fun e => hik e.symm
              simp [tabP, hk, hki] at this
              exact this
            · rw [hlk] at h; cases h
          · left; right; simpa using hlk
    · intro x hx
      cases hlo : s.lo i with
      | false => exact .inl rfl
      | true =>
        right
        have hg := (check_good he (List.getElem_mem hi)).nd x (by rw [← ro_eq hi]; exact hx)
        obtain ⟨xp, xb⟩ := x
        obtain ⟨m, rfl⟩ : ∃ m : Nat, xp = (m : Int) := ⟨xp.toNat, by have := hg.1; simp only at this; omega⟩
        have hm : m < 32 := by have := hg.2; simp only at this; omega
        show (s.po m != xb) = false
        cases xb with
        | false =>
          rcases h2 m hm with h | h
          · have : (s.lo i && nor L i m) = false := by
              unfold anyR at h
              rw [List.any_eq_false] at h
              simpa using h i (List.mem_range.2 hi)
            rw [hlo] at this
            have hc : nor L i m = true := List.contains_iff_mem.2 hx
            rw [hc] at this; cases this
          · rw [h]; rfl
        | true =>
          rcases h3 m hm with h | h
          · have : (s.lo i && rev L i m) = false := by
              unfold anyR at h
              rw [List.any_eq_false] at h
              simpa using h i (List.mem_range.2 hi)
            rw [hlo] at this
            have hc : rev L i m = true := List.contains_iff_mem.2 hx
            rw [hc] at this; cases this
          · rw [h]; rfl
  · intro h
    refine ⟨⟨?_, ?_⟩, ?_⟩
    · intro k hk
      by_cases hlk : s.lo k = true
      · left
        unfold anyR
        rw [List.any_eq_false]
        intro i hi
        have hi' := List.mem_range.1 hi
        cases hlo : s.lo i with
        | false => simp
        | true =>
          rcases (h i hi').1 with h1 | h1
          · rw [hlo] at h1; cases h1
          · by_cases hkn : k < L.r.length
            · rcases h1 k hkn with (h2 | h2) | h2
              · have e : i = k := by simpa using h2
                subst e
                simp [tabP]
              · rw [hlk] at h2; cases h2
              · simp [tabP, h2]
            · simp [tabP, hkn]
      · right; simpa using hlk
    · intro p hp
      by_cases hpo : s.po p = true
      · left
        unfold anyR
        rw [List.any_eq_false]
        intro i hi
        have hi' := List.mem_range.1 hi
        cases hlo : s.lo i with
        | false => simp
        | true =>
          simp only [Bool.true_and]
          intro hc
          have hx := List.contains_iff_mem.1 (show (nds (ro L i)).contains ((p : Int), false) = true from hc)
          rcases (h i hi').2 _ hx with h2 | h2
          · rw [hlo] at h2; cases h2
          · have h2' : (s.po p != false) = false := h2
            rw [hpo] at h2'; cases h2'
      · right; simpa using hpo
    · intro p hp
      by_cases hpo : s.po p = false
      · left
        unfold anyR
        rw [List.any_eq_false]
        intro i hi
        have hi' := List.mem_range.1 hi
        cases hlo : s.lo i with
        | false => simp
        | true =>
          simp only [Bool.true_and]
          intro hc
          have hx := List.contains_iff_mem.1 (show (nds (ro L i)).contains ((p : Int), true) = true from hc)
          rcases (h i hi').2 _ hx with h2 | h2
          · rw [hlo] at h2; cases h2
          · have h2' : (s.po p != true) = false := h2
            rw [hpo] at h2'; cases h2'
      · right; simpa using hpo
theorem ly_ones {H : AHeap} {u : V4} {xs : List RV} {L : Ly} (h : LyR H u xs L) : u.l.all Value.oneCell' = true := by
  have os := Sl.one h.s
  have op := Sl.one h.p
  have og := Sl.one h.g
  have or := Sl.one h.r
  simp only [V4.l, List.all_cons, List.all_nil, os, op, og, or]; rfl
theorem t7 {H : AHeap} {u : V4} {xs : List RV} {L : Ly} (h : LyR H u xs L) (hi : LyIn 9223372036854775807 L) :
    ∃ w H', ARun Go.Proofs.Try.prog 0 7 [.agg u.l.toArray] H w H' ∧ Keeps H H' ∧ (w = .tuple #[.pointer none, .bool false] ∨ ∃ b, checkE L = 0 ∧ w = .tuple #[ptr b 0, .bool true] ∧ MaF H.n H' b L) := by
  refine walk2 f7_ok f7_n ?_
  intro Q hq1 hq2
  have ho := ly_ones h
  have hul : u.l = [u.s, u.p, u.g, u.r] := rfl
  have kA := (Keeps.refl H).alloc (.cells true false 4 u.l 27)
  have gl := AHeap.get_alloc_new H (.cells true false 4 u.l 27)
  have hA := h.keeps kA
  have ll : u.l.length = 4 := rfl
  obtain ⟨K0, hK0⟩ : ∃ X, X = H.alloc (.cells true false 4 u.l 27) := ⟨_, rfl⟩
  rw [← hK0] at kA gl hA
  simp (disch := first | assumption | omega | (simp only [LN] <;> omega) | (simp (disch := first | assumption | omega | (simp only [LN] <;> omega)) only [row_alloc, row_set]; assumption)) only [f7, W_block, P3, ↓reduceIte, reduceAdd, reduceEqDiff, reduceCtorEq, initFr, reduceLT, clsA, reduceLeDiff, reduceMul, reduceSub, reduceIte, ho, ll]
  rw [← hK0]
  refine callK (t20 (top := 400) (by omega) hA hi) ?_
  rintro _ X ⟨⟨n, rfl⟩, hX⟩
  rw [hX]
  by_cases hn : (400 : Int) < n
  · simp (disch := first | assumption | omega | (simp only [LN] <;> omega) | (simp (disch := first | assumption | omega | (simp only [LN] <;> omega)) only [row_alloc, row_set]; assumption)) only [W_block, P3, ↓reduceIte, reduceAdd, reduceEqDiff, reduceCtorEq, initFr, reduceLT, clsA, reduceLeDiff, reduceMul, reduceSub, reduceIte, hn]
    exact hq2 _ _ ⟨_, rfl, kA, .inl rfl⟩
  simp (disch := first | assumption | omega | (simp only [LN] <;> omega) | (simp (disch := first | assumption | omega | (simp only [LN] <;> omega)) only [row_alloc, row_set]; assumption)) only [W_block, P3, ↓reduceIte, reduceAdd, reduceEqDiff, reduceCtorEq, initFr, reduceLT, clsA, reduceLeDiff, reduceMul, reduceSub, reduceIte, hn, gl, ll]
  refine callK (t21 hA hi) ?_
  rintro _ K1 ⟨k1, e1, e2⟩
  by_cases he : checkE L = 0
  · obtain ⟨b, rfl, hM⟩ := e2 he
    simp (disch := first | assumption | omega | (simp only [LN] <;> omega) | (simp (disch := first | assumption | omega | (simp only [LN] <;> omega)) only [row_alloc, row_set]; assumption)) only [W_block, P3, ↓reduceIte, reduceAdd, reduceEqDiff, reduceCtorEq, initFr, reduceLT, clsA, reduceLeDiff, reduceMul, reduceSub, reduceIte]
    exact hq2 _ _ ⟨_, rfl, kA.trans k1, .inr ⟨b, he, rfl, hM.base kA.n⟩⟩
  · rw [e1 he]
    have ne : (checkE L == 0) = false := by simp [he]
    simp (disch := first | assumption | omega | (simp only [LN] <;> omega) | (simp (disch := first | assumption | omega | (simp only [LN] <;> omega)) only [row_alloc, row_set]; assumption)) only [W_block, P3, ↓reduceIte, reduceAdd, reduceEqDiff, reduceCtorEq, initFr, reduceLT, clsA, reduceLeDiff, reduceMul, reduceSub, reduceIte, ne]
    exact hq2 _ _ ⟨_, rfl, kA.trans k1, .inl rfl⟩
end Go.AM.Fd

set_option linter.unusedSimpArgs false
set_option linter.unusedVariables false
namespace Go.AM.Fd
open Go.Proofs Go.AM.F
theorem n64_iff {f : Nat → Bool} : none64 f = true ↔ ∀ i, i < 64 → f i = false := by
  unfold none64; simp
theorem n32_iff {f : Nat → Bool} : none32 f = true ↔ ∀ i, i < 32 → f i = false := by
  unfold none32; simp
theorem n64_and (f g : Nat → Bool) : none64 (fun i => f i || g i) = (none64 f && none64 g) := by
  rw [Bool.eq_iff_iff, Bool.and_eq_true, n64_iff, n64_iff, n64_iff]
  constructor
  · intro h
    exact ⟨fun i hi => by have := h i hi; simp at this; exact this.1, fun i hi => by have := h i hi; simp at this; exact this.2⟩
  · rintro ⟨h, k⟩ i hi
    rw [h i hi, k i hi]; rfl
theorem none_one (f : Nat → Bool) (n : Int) : none64 (fun j => oneP n j && f j) = !hasB f n := by
  rw [Bool.eq_iff_iff, n64_iff]
  unfold hasB oneP
  constructor
  · intro h
    by_cases h0 : 0 ≤ n
    · by_cases h1 : n < 64
      · have := h n.toNat (by omega)
        have e : decide (((n.toNat : Nat) : Int) = n) = true := by simp; omega
        rw [e] at this
        simp at this
        simp [this]
      · simp [h1]
    · simp [h0]
  · intro h i hi
    by_cases e : (i : Int) = n
    · subst e
      have e1 : decide ((0 : Int) ≤ (i : Int)) = true := by simp
      have e2 : decide ((i : Int) < 64) = true := by simp; omega
      rw [e1, e2] at h
      simp at h
      simp [h]
    · simp [e]
theorem none_comm (f g : Nat → Bool) : none64 (fun j => f j && g j) = none64 (fun j => g j && f j) := by
  congr 1; funext j; rw [Bool.and_comm]
theorem ent_eq {L : Ly} {x : Inp} {i : Nat} (hi : i < L.r.length) : entB L x i = hasB x.oc ((ro L i).path.getD 0 0) := by
  unfold entB fiP
  rw [none_one]; simp [hi]
theorem free_eq {L : Ly} {x : Inp} {i : Nat} (he : checkE L = 0) (hi : i < L.r.length) : (none64 fun j => trP (ro L i) j && x.oc j) = frD x (ro L i) := by
  have hg := check_good he (List.getElem_mem hi)
  rw [← ro_eq hi] at hg
  have hL := (may_lim (check_may he)).s
  rw [Bool.eq_iff_iff, n64_iff]
  unfold frD trP
  rw [List.all_eq_true]
  constructor
  · intro h t ht
    obtain ⟨h0, h1⟩ := hg.tr t ht
    obtain ⟨m, rfl⟩ : ∃ m : Nat, t = (m : Int) := ⟨t.toNat, by omega⟩
    have hm : m < 64 := by omega
    have := h m hm
    rw [List.contains_iff_mem.2 ht] at this
    rw [has_nat _ hm]
    simpa using this
  · intro h j hj
    by_cases hc : (trk (ro L i)).contains (j : Int) = true
    · have := h _ (List.contains_iff_mem.1 hc)
      rw [has_nat _ hj] at this
      rw [hc]; simpa using this
    · simp only [Bool.not_eq_true] at hc
      rw [hc]; rfl
theorem nds_nodup {L : Ly} {i : Nat} (he : checkE L = 0) (hi : i < L.r.length) : ((nds (ro L i)).map (·.1)).Nodup := by
  have hf := check_form he (List.getElem_mem hi)
  rw [← ro_eq hi] at hf
  simp only [formedB, badB, Bool.and_eq_true, Bool.not_eq_true', Bool.or_eq_false_iff, Bool.not_eq_false', decide_eq_true_eq] at hf
  exact hf.1.2
theorem side_mem {l : List (Int × Bool)} (hn : (l.map (·.1)).Nodup) {p : Int} {b : Bool} : (p, b) ∈ l ↔ sideO p l = some b := by
  induction l with
  | nil => simp [sideO]
  | cons z l ih =>
    obtain ⟨zp, zb⟩ := z
    simp only [List.map_cons, List.nodup_cons] at hn
    have ih := ih hn.2
    by_cases e : zp = p
    · subst e
      have hs : sideO zp ((zp, zb) :: l) = some zb := by simp [sideO]
      rw [hs]
      constructor
      · intro h
        rcases List.mem_cons.1 h with h | h
        · cases h; rfl
        · exact absurd (List.mem_map.2 ⟨_, h, rfl⟩) hn.1
      · intro h; cases h; exact List.mem_cons_self
    · have hs : sideO p ((zp, zb) :: l) = sideO p l := by
        have : (zp == p) = false := by simp [e]
        simp [sideO, this]
      rw [hs, ← ih]
      constructor
      · intro h
        rcases List.mem_cons.1 h with h | h
        · cases h; exact absurd rfl e
        · exact h
      · intro h; exact List.mem_cons_of_mem _ h
theorem poD_side {l : List (Int × Bool)} (hn : (l.map (·.1)).Nodup) (h0 : ∀ z ∈ l, 0 ≤ z.1) (f : Nat → Bool) (p : Nat) : poD l f p = match sideO (p : Int) l with | some b => b | none => f p := by
  induction l generalizing f with
  | nil => rfl
  | cons z l ih =>
    obtain ⟨zp, zb⟩ := z
    simp only [List.map_cons, List.nodup_cons] at hn
    have hz := h0 (zp, zb) List.mem_cons_self
    obtain ⟨m, rfl⟩ : ∃ m : Nat, zp = (m : Int) := ⟨zp.toNat, by simp only at hz; omega⟩
    have e1 : poD (((m : Int), zb) :: l) f = poD l (fun p => if p = m then zb else f p) := by
      unfold poD; simp
    rw [e1, ih hn.2 (fun z hz => h0 z (List.mem_cons_of_mem _ hz))]
    by_cases e : p = m
    · subst e
      have hs : sideO (p : Int) (((p : Int), zb) :: l) = some zb := by simp [sideO]
      have hno : sideO (p : Int) l = none := by
        unfold sideO
        have : l.find? (fun x => x.1 == (p : Int)) = none := List.find?_eq_none.2 (fun y hy he => hn.1 (List.mem_map.2 ⟨y, hy, by simpa using he⟩))
        rw [this]; rfl
      rw [hs, hno]; simp
    · have hs : sideO (p : Int) (((m : Int), zb) :: l) = sideO (p : Int) l := by
        have : ((m : Int) == (p : Int)) = false := by simp; omega
        simp [sideO, this]
      rw [hs]
      cases sideO (p : Int) l <;> simp [e]
theorem turn_side {L : Ly} {i : Nat} (he : checkE L = 0) (hi : i < L.r.length) (s : Sta) (p : Nat) : turnP L s i p = match sideO (p : Int) (nds (ro L i)) with | some b => (s.po p != b) | none => false := by
  have hn := nds_nodup he hi
  have e1 : nor L i p = decide (sideO (p : Int) (nds (ro L i)) = some false) := by
    unfold nor ndP
    rw [Bool.eq_iff_iff, List.contains_iff_mem, decide_eq_true_eq]
    exact side_mem hn
  have e2 : rev L i p = decide (sideO (p : Int) (nds (ro L i)) = some true) := by
    unfold rev ndP
    rw [Bool.eq_iff_iff, List.contains_iff_mem, decide_eq_true_eq]
    exact side_mem hn
  unfold turnP
  rw [e1, e2]
  cases sideO (p : Int) (nds (ro L i)) with
  | none => simp
  | some b => cases b <;> cases s.po p <;> rfl
theorem po_turn {L : Ly} {i : Nat} (he : checkE L = 0) (hi : i < L.r.length) (s : Sta) (p : Nat) : (s.po p ^^ turnP L s i p) = poD (nds (ro L i)) s.po p := by
  have hg := check_good he (List.getElem_mem hi)
  rw [← ro_eq hi] at hg
  rw [turn_side he hi, poD_side (nds_nodup he hi) (fun z hz => (hg.nd z hz).1)]
  cases sideO (p : Int) (nds (ro L i)) with
  | none => simp
  | some b => cases b <;> cases s.po p <;> rfl
theorem lie_none {L : Ly} (hp : L.p.length ≤ 32) (oc f : Nat → Bool) : (none64 fun j => oc j && lieU L f j) = (List.range L.p.length).all fun p => !(f p && hasB oc (L.p.getD p ([], 0)).2) := by
  rw [Bool.eq_iff_iff, n64_iff, List.all_eq_true]
  unfold lieU anyN
  constructor
  · intro h p hpm
    have hpl := List.mem_range.1 hpm
    have h1 := none_one oc (L.p.getD p ([], 0)).2
    cases hf : f p with
    | false => rfl
    | true =>
      have : none64 (fun j => oneP (L.p.getD p ([], 0)).2 j && oc j) = true := n64_iff.2 (fun j hj => by
        have hj2 := h j hj
        cases ho : oc j with
        | false => simp
        | true =>
          rw [ho] at hj2
          simp only [Bool.true_and] at hj2
          rw [List.any_eq_false] at hj2
          have := hj2 p hpm
          have h32 : p < 32 := by omega
          simp [hf, h32, lieP] at this
          simp [this])
      rw [this] at h1
      simp only [Bool.true_and]
      exact h1.symm
  · intro h j hj
    cases ho : oc j with
    | false => rfl
    | true =>
      simp only [Bool.true_and]
      rw [List.any_eq_false]
      intro p hpm
      have hpl := List.mem_range.1 hpm
      have := h p hpm
      cases hf : f p with
      | false => simp
      | true =>
        rw [hf] at this
        simp only [Bool.true_and, Bool.not_eq_true'] at this
        have h1 := none_one oc (L.p.getD p ([], 0)).2
        rw [this] at h1
        have := n64_iff.1 h1 j hj
        rw [ho] at this
        simp only [Bool.and_true] at this
        have h2 : lieP L p j = false := this
        simp [h2]
theorem set_eq {L : Ly} {x : Inp} {i : Nat} (he : checkE L = 0) (hi : i < L.r.length) (s : Sta) : setC L x.oc s i = setD L x s i := by
  have hg := check_good he (List.getElem_mem hi)
  rw [← ro_eq hi] at hg
  have hL := may_lim (check_may he)
  have lr := hL.r
  have lp := hL.p
  have hn := nds_nodup he hi
  unfold setC setD
  have e1 : (none64 fun j => s.lo j && (oneP (i : Nat) j || tabP L i j)) = (!s.lo i && (List.range L.r.length).all (fun k => !(s.lo k && cf L i k))) := by
    rw [Bool.eq_iff_iff, n64_iff, Bool.and_eq_true, List.all_eq_true]
    constructor
    · intro h
      have h0 : s.lo i = false := by
        have := h i (by omega)
        simpa [oneP] using this
      refine ⟨by simp [h0], fun k hk => ?_⟩
      have hkl := List.mem_range.1 hk
      by_cases e : k = i
      · subst e; simp [h0]
      · have := h k (by omega)
        have e2 : ¬ ((k : Int) = (i : Int)) := by omega
        cases hlo : s.lo k with
        | false => rfl
        | true =>
          simp [oneP, e2, tabP, hkl, e, hlo] at this
          simp [this]
    · rintro ⟨h0, h⟩ j hj
      cases hlo : s.lo j with
      | false => rfl
      | true =>
        have hji : ¬ j = i := fun e => by subst e; rw [hlo] at h0; cases h0
        have e2 : ¬ ((j : Int) = (i : Int)) := by omega
        by_cases hjl : j < L.r.length
        · have := h j (List.mem_range.2 hjl)
          rw [hlo] at this
          simp at this
          simp [oneP, e2, tabP, this]
        · simp [oneP, e2, tabP, hjl]
  have e2 : (none64 fun j => x.oc j && (trP (ro L i) j || lieU L (turnP L s i) j)) = (frD x (ro L i) && (nds (ro L i)).all fun z => !((s.po z.1.toNat != z.2) && hasB x.oc (L.p.getD z.1.toNat ([], 0)).2)) := by
    have : (fun j => x.oc j && (trP (ro L i) j || lieU L (turnP L s i) j)) = fun j => (trP (ro L i) j && x.oc j) || (x.oc j && lieU L (turnP L s i) j) := by
      funext j; cases x.oc j <;> simp
    rw [this, n64_and, free_eq he hi, lie_none lp]
    congr 1
    rw [Bool.eq_iff_iff, List.all_eq_true, List.all_eq_true]
    constructor
    · intro h z hz
      obtain ⟨zp, zb⟩ := z
      obtain ⟨h0, h1⟩ := hg.nd _ hz
      obtain ⟨m, rfl⟩ : ∃ m : Nat, zp = (m : Int) := ⟨zp.toNat, by simp only at h0; omega⟩
      have hml : m < L.p.length := by simp only at h1; omega
      have := h m (List.mem_range.2 hml)
      rw [turn_side he hi, (side_mem hn).1 hz] at this
      exact this
    · intro h p hp
      rw [turn_side he hi]
      cases hs : sideO (p : Int) (nds (ro L i)) with
      | none => rfl
      | some b => exact h _ ((side_mem hn).2 hs)
  rw [e1, e2]
  cases s.lo i <;> cases frD x (ro L i) <;> cases (List.range L.r.length).all (fun k => !(s.lo k && cf L i k)) <;> rfl
theorem oneP_nat (i j : Nat) : oneP (i : Nat) j = decide (j = i) := by unfold oneP; simp only [Int.ofNat_inj]
theorem canc_eq {L : Ly} {i : Nat} (hi : i < 64) (s : Sta) : cancC s i = ((s.lo i && !s.us i) && !s.ca i) := by
  unfold cancC
  have : (fun j => ((oneP (i : Nat) j && s.lo j) && !s.us j) && !s.ca j) = fun j => oneP (i : Nat) j && ((s.lo j && !s.us j) && !s.ca j) := by
    funext j; cases oneP (i : Nat) j <;> simp
  rw [this, none_one (fun j => (s.lo j && !s.us j) && !s.ca j), has_nat _ hi, Bool.not_not]
theorem any_need (L : Ly) (s : Sta) (p : Nat) : (anyR L s.lo (nor L) p || anyR L s.lo (rev L) p) = needD L s (p : Int) := by
  unfold anyR needD nor rev ndP
  rw [Bool.eq_iff_iff]
  simp only [Bool.or_eq_true, List.any_eq_true, Bool.and_eq_true, List.contains_iff_mem, beq_iff_eq]
  constructor
  · rintro (⟨i, hi, h1, h2⟩ | ⟨i, hi, h1, h2⟩)
    · exact ⟨i, hi, _, h2, h1, rfl⟩
    · exact ⟨i, hi, _, h2, h1, rfl⟩
  · rintro ⟨i, hi, ⟨zp, zb⟩, h2, h1, h3⟩
    simp only at h3
    subst h3
    cases zb
    · exact .inl ⟨i, hi, h1, h2⟩
    · exact .inr ⟨i, hi, h1, h2⟩
theorem move_eq {L : Ly} {x : Inp} {n : Int} (he : checkE L = 0) (s : Sta) : moveC L x.oc s n = ((decide (0 ≤ n) && decide (n < (L.p.length : Nat))) && (!hasB x.oc (L.p.getD n.toNat ([], 0)).2 && !needD L s n)) := by
  have hL := may_lim (check_may he)
  have lp := hL.p
  unfold moveC
  by_cases h : 0 ≤ n ∧ n < (L.p.length : Nat)
  · obtain ⟨i, rfl⟩ : ∃ i : Nat, n = (i : Int) := ⟨n.toNat, by omega⟩
    have hi : i < L.p.length := by omega
    have e0 : none64 (fun j => decide (j + 32 < 64) && oneP (i : Int) (j + 32)) = true := n64_iff.2 (fun j hj => by
      have : ¬ j + 32 = i := by omega
      rw [oneP_nat]; simp [this])
    have e1 : none32 (fun j => ptP L (i : Int) j && !(anyR L s.lo (nor L) j || anyR L s.lo (rev L) j)) = needD L s (i : Int) := by
      rw [Bool.eq_iff_iff, n32_iff]
      constructor
      · intro h
        have := h i (by omega)
        rw [any_need] at this
        have hp : ptP L (i : Int) i = true := by unfold ptP; rw [oneP_nat]; simp [lowP, hi]
        rw [hp] at this
        simpa using this
      · intro h j hj
        by_cases e : j = i
        · subst e; rw [any_need, h]; simp
        · have hp : ptP L (i : Int) j = false := by unfold ptP; rw [oneP_nat]; simp [e]
          rw [hp]; rfl
    have e2 : none64 (fun j => lieU L (ptP L (i : Int)) j && x.oc j) = !hasB x.oc (L.p.getD i ([], 0)).2 := by
      rw [none_comm, lie_none lp, Bool.eq_iff_iff, List.all_eq_true]
      constructor
      · intro h
        have := h i (List.mem_range.2 hi)
        have hp : ptP L (i : Int) i = true := by unfold ptP; rw [oneP_nat]; simp [lowP, hi]
        rw [hp] at this
        simpa using this
      · intro h p hp
        by_cases e : p = i
        · subst e; cases ptP L (p : Int) p <;> simp at h ⊢; exact h
        · have hp : ptP L (i : Int) p = false := by unfold ptP; rw [oneP_nat]; simp [e]
          rw [hp]; rfl
    have e3 : Int.toNat (i : Int) = i := by omega
    rw [e0, e1, e2, e3]
    have d1 : decide ((0 : Int) ≤ (i : Int)) = true := by simp
    have d2 : decide ((i : Int) < ((L.p.length : Nat) : Int)) = true := by simp; omega
    rw [d1, d2]
    cases needD L s (i : Int) <;> cases hasB x.oc (L.p.getD i ([], 0)).2 <;> rfl
  · have e1 : none32 (fun j => ptP L n j && !(anyR L s.lo (nor L) j || anyR L s.lo (rev L) j)) = true := n32_iff.2 (fun j hj => by
      have hp : ptP L n j = false := by
        unfold ptP oneP lowP
        by_cases e : (j : Int) = n
        · have : ¬ (j : Int) < (L.p.length : Nat) := by omega
          simp [this]
        · simp [e]
      rw [hp]; rfl)
    have d : (decide (0 ≤ n) && decide (n < ((L.p.length : Nat) : Int))) = false := by
      rw [Bool.eq_false_iff]; intro hh; simp at hh; exact h hh
    rw [e1, d]; simp
theorem com_eq {L : Ly} {x : Inp} (he : checkE L = 0) (s : Sta) (kd n : Int) : comB L x.oc s kd n = comD L x s kd n := by
  have hL := may_lim (check_may he)
  have lr := hL.r
  have lp := hL.p
  unfold comB comD okC
  by_cases k1 : kd = 1
  · subst k1
    rw [if_pos rfl]
    by_cases h : 0 ≤ n ∧ n < L.r.length
    · rw [if_pos h]
      have d : ((decide ((1 : Int) ≤ 1) && decide ((1 : Int) ≤ 3)) && (decide (0 ≤ n) && decide (n < if (1 : Int) = 3 then ((L.p.length : Nat) : Int) else ((L.r.length : Nat) : Int)))) = true := by simp [h]
      rw [if_pos d]
      have hi : n.toNat < L.r.length := by omega
      rw [set_eq he hi]
      cases hs : setD L x s n.toNat with
      | false => simp
      | true =>
        rw [if_pos rfl, if_pos ⟨rfl, rfl⟩]
        unfold setS
        congr 1
        · funext j; rw [oneP_nat]
        · funext p; exact po_turn he hi s p
    · rw [if_neg h, if_neg]
      intro hd
      simp at hd
      exact h ⟨hd.1, hd.2⟩
  · rw [if_neg k1]
    by_cases k2 : kd = 2
    · subst k2
      rw [if_pos rfl]
      by_cases h : 0 ≤ n ∧ n < L.r.length
      · rw [if_pos h]
        have d : ((decide ((1 : Int) ≤ 2) && decide ((2 : Int) ≤ 3)) && (decide (0 ≤ n) && decide (n < if (2 : Int) = 3 then ((L.p.length : Nat) : Int) else ((L.r.length : Nat) : Int)))) = true := by simp [h]
        have z1 : ¬ ((2 : Int) = 1 ∧ setD L x s n.toNat = true) := fun h => by cases h.1
        rw [if_pos d, if_neg z1]
        have hi : n.toNat < L.r.length := by omega
        rw [canc_eq (L := L) (by omega)]
        cases hs : ((s.lo n.toNat && !s.us n.toNat) && !s.ca n.toNat) with
        | false => simp
        | true =>
          rw [if_pos rfl, if_pos ⟨rfl, rfl⟩]
          unfold cancS ahP
          rw [none_one]
          congr 1
          · funext j; rw [oneP_nat]
          · rw [Bool.not_not]
      · rw [if_neg h, if_neg]
        intro hd
        simp at hd
        exact h ⟨hd.1, hd.2⟩
    · rw [if_neg k2]
      by_cases k3 : kd = 3
      · subst k3
        rw [if_pos rfl, move_eq he]
        by_cases h : 0 ≤ n ∧ n < (L.p.length : Nat)
        · have d : ((decide ((1 : Int) ≤ 3) && decide ((3 : Int) ≤ 3)) && (decide (0 ≤ n) && decide (n < if (3 : Int) = 3 then ((L.p.length : Nat) : Int) else ((L.r.length : Nat) : Int)))) = true := by simp [h]
          have d2 : (decide (0 ≤ n) && decide (n < ((L.p.length : Nat) : Int))) = true := by simp [h]
          have z1 : ¬ ((3 : Int) = 1 ∧ setD L x s n.toNat = true) := fun h => by cases h.1
          have z2 : ¬ ((3 : Int) = 2 ∧ ((s.lo n.toNat && !s.us n.toNat) && !s.ca n.toNat) = true) := fun h => by cases h.1
          rw [if_pos d, if_neg z1, if_neg z2, d2, Bool.true_and]
          cases hs : (!hasB x.oc (L.p.getD n.toNat ([], 0)).2 && !needD L s n) with
          | false => simp
          | true =>
            rw [if_pos rfl, if_pos ⟨rfl, rfl⟩]
            unfold moveS
            congr 1
            funext j
            congr 1
            obtain ⟨i, rfl⟩ : ∃ i : Nat, n = (i : Int) := ⟨n.toNat, by omega⟩
            have e3 : Int.toNat (i : Int) = i := by omega
            unfold ptP
            rw [oneP_nat, e3]
            by_cases e : j = i
            · subst e; simp [lowP]; omega
            · simp [e]
        · have d : (decide (0 ≤ n) && decide (n < ((L.p.length : Nat) : Int))) = false := by
            rw [Bool.eq_false_iff]; intro hh; simp at hh; exact h hh
          rw [d, if_neg (by simp), if_neg]
          intro hd
          simp at hd
          exact h ⟨hd.1, hd.2⟩
      · rw [if_neg k3, if_neg]
        intro hd
        simp at hd
        omega
theorem cmd_eq {L : Ly} {x : Inp} (he : checkE L = 0) : ∀ (cs : List (Int × Int)) (s : Sta), cmdB L x.oc s cs = cmdD L x s cs
  | [], s => rfl
  | c :: cs, s => by
    show cmdB L x.oc (comB L x.oc s c.1 c.2) cs = cmdD L x (comD L x s c.1 c.2) cs
    rw [com_eq he, cmd_eq he cs]
end Go.AM.Fd

set_option linter.unusedSimpArgs false
set_option linter.unusedVariables false
namespace Go.AM.Fd
open Go.Proofs Go.AM.F
structure SI (L : Ly) (us : Nat → Bool) (s : Sta) : Prop where
  u : s.us = us
  ul : ∀ i, us i = true → s.lo i = true
  cl : ∀ i, s.ca i = true → s.lo i = true
  ln : ∀ i, s.lo i = true → i < L.r.length
theorem si_tidy (L : Ly) (s : Sta) : SI L (tidyS L s).us (tidyS L s) := by
  refine ⟨rfl, fun i h => ?_, fun i h => ?_, fun i h => ?_⟩
  · have h' : (s.us i && (s.lo i && lowP L.r.length i)) = true := h
    show (s.lo i && lowP L.r.length i) = true
    simp only [Bool.and_eq_true] at h' ⊢; exact h'.2
  · have h' : (s.ca i && (s.lo i && lowP L.r.length i)) = true := h
    show (s.lo i && lowP L.r.length i) = true
    simp only [Bool.and_eq_true] at h' ⊢; exact h'.2
  · have h' : (s.lo i && lowP L.r.length i) = true := h
    simp only [Bool.and_eq_true, lowP, decide_eq_true_eq] at h'
    omega
theorem si_com {L : Ly} {x : Inp} {us : Nat → Bool} {s : Sta} (h : SI L us s) (kd n : Int) : SI L us (comD L x s kd n) := by
  unfold comD
  split
  · rename_i hok
    simp only [okC, Bool.and_eq_true, decide_eq_true_eq] at hok
    split
    · rename_i hk
      have hn : n.toNat < L.r.length := by
        have := hok.2.2
        rw [hk.1, if_neg (by omega)] at this
        omega
      refine ⟨h.u, fun i hi => ?_, fun i hi => ?_, fun i hi => ?_⟩
      · show (s.lo i || decide (i = n.toNat)) = true
        rw [h.ul i hi]; rfl
      · show (s.lo i || decide (i = n.toNat)) = true
        rw [h.cl i hi]; rfl
      · have hi' : (s.lo i || decide (i = n.toNat)) = true := hi
        simp only [Bool.or_eq_true, decide_eq_true_eq] at hi'
        rcases hi' with h1 | h1
        · exact h.ln i h1
        · omega
    · split
      · rename_i hk
        simp only [Bool.and_eq_true] at hk
        refine ⟨h.u, h.ul, fun i hi => ?_, h.ln⟩
        have hi' : (s.ca i || decide (i = n.toNat)) = true := hi
        simp only [Bool.or_eq_true, decide_eq_true_eq] at hi'
        rcases hi' with h1 | h1
        · exact h.cl i h1
        · rw [h1]; exact hk.2.1.1
      · split
        · exact ⟨h.u, h.ul, h.cl, h.ln⟩
        · exact h
  · exact h
theorem si_cmd {L : Ly} {x : Inp} {us : Nat → Bool} : ∀ {cs : List (Int × Int)} {s : Sta}, SI L us s → SI L us (cmdD L x s cs)
  | [], s, h => h
  | c :: cs, s, h => si_cmd (cs := cs) (si_com h c.1 c.2)
def at_eq (s t : Sta) (j : Nat) : Prop := s.lo j = t.lo j ∧ s.us j = t.us j ∧ s.ca j = t.ca j ∧ s.ti j = t.ti j
theorem at_refl (s : Sta) (j : Nat) : at_eq s s j := ⟨rfl, rfl, rfl, rfl⟩
theorem at_trans {s t u : Sta} {j : Nat} (h : at_eq s t j) (k : at_eq t u j) : at_eq s u j := ⟨h.1.trans k.1, h.2.1.trans k.2.1, h.2.2.1.trans k.2.2.1, h.2.2.2.trans k.2.2.2⟩
theorem ro_po (L : Ly) (x : Inp) (us : Nat → Bool) (s : Sta) (i : Nat) : (roD L x us s i).po = s.po := by
  unfold roD relS; repeat' split
  all_goals rfl
theorem ro_other (L : Ly) (x : Inp) (us : Nat → Bool) (s : Sta) {i j : Nat} (h : j ≠ i) : at_eq (roD L x us s i) s j := by
  unfold roD relS at_eq upd
  repeat' split
  all_goals simp [h]
theorem ro_here (L : Ly) (x : Inp) (us : Nat → Bool) {s t : Sta} {i : Nat} (h : at_eq s t i) : at_eq (roD L x us s i) (roD L x us t i) i := by
  obtain ⟨h1, h2, h3, h4⟩ := h
  unfold roD relS at_eq upd
  rw [h3, h4]
  repeat' split
  all_goals simp [h1, h2, h3, h4]
theorem ros_at (L : Ly) (x : Inp) (us : Nat → Bool) (s : Sta) (j : Nat) : ∀ k, at_eq (rosD L x us s k) (if j < k ∧ s.lo j = true then roD L x us s j else s) j ∧ (rosD L x us s k).po = s.po
  | 0 => ⟨by rw [if_neg (by omega)]; exact at_refl _ _, rfl⟩
  | k + 1 => by
    obtain ⟨ih, ihp⟩ := ros_at L x us s j k
    rw [rosD_s]
    by_cases e : j = k
    · subst e
      rw [if_neg (by omega)] at ih
      have hl := ih.1
      cases hlo : s.lo j with
      | false =>
        rw [hlo] at hl
        rw [if_neg (by rw [hl]; simp), if_neg (by simp)]
        exact ⟨ih, ihp⟩
      | true =>
        rw [hlo] at hl
        rw [if_pos hl, if_pos ⟨by omega, rfl⟩]
        exact ⟨ro_here L x us ih, by rw [ro_po]; exact ihp⟩
    · have ec : (j < k + 1 ∧ s.lo j = true) = (j < k ∧ s.lo j = true) := by
        apply propext
        exact ⟨fun h => ⟨by omega, h.2⟩, fun h => ⟨by omega, h.2⟩⟩
      simp only [ec]
      split
      · exact ⟨at_trans (ro_other L x us _ e) ih, by rw [ro_po]; exact ihp⟩
      · exact ⟨ih, ihp⟩
theorem sta_ext {s t : Sta} (h : ∀ j, at_eq s t j) (hp : s.po = t.po) : s = t := by
  obtain ⟨a, b, c, d, e⟩ := s
  obtain ⟨a', b', c', d', e'⟩ := t
  simp only at hp
  subst hp
  have h1 : a = a' := funext fun j => (h j).1
  have h2 : b = b' := funext fun j => (h j).2.1
  have h3 : c = c' := funext fun j => (h j).2.2.1
  have h4 : d = d' := funext fun j => (h j).2.2.2
  subst h1 h2 h3 h4; rfl
theorem end_eq {L : Ly} {x : Inp} (he : checkE L = 0) {us : Nat → Bool} {s : Sta} (h : SI L us s) : endS L x us s = rosD L x us s L.r.length := by
  refine sta_ext (fun j => ?_) (by rw [(ros_at L x us s 0 L.r.length).2]; rfl)
  have hr := (ros_at L x us s j L.r.length).1
  obtain ⟨r1, r2, r3, r4⟩ := hr
  unfold at_eq
  rw [r1, r2, r3, r4]
  clear r1 r2 r3 r4
  have hu : s.us j = us j := by rw [h.u]
  show (s.lo j && !relB L x us s j) = _ ∧ ((s.lo j && !relB L x us s j) && (us j || entB L x j)) = _ ∧ (s.ca j && !relB L x us s j) = _ ∧ (if relB L x us s j then 0 else if waitB L x us s j && !decide (s.ti j = 0) then s.ti j - 1 else s.ti j) = _
  cases hlo : s.lo j with
  | false =>
    have hus : us j = false := by
      cases hx : us j with
      | false => rfl
      | true => have := h.ul j hx; rw [hlo] at this; cases this
    have hca : s.ca j = false := by
      cases hx : s.ca j with
      | false => rfl
      | true => have := h.cl j hx; rw [hlo] at this; cases this
    rw [if_neg (by simp)]
    have hw : waitB L x us s j = false := by unfold waitB; rw [hca]; rfl
    have hrel : relB L x us s j = false := by unfold relB; rw [hus, hw]; simp
    rw [hrel, hw, hca, hlo, hu, hus]; simp
  | true =>
    have hj := h.ln j hlo
    rw [if_pos ⟨hj, rfl⟩]
    have hfree : freeB L x j = frD x (ro L j) := by unfold freeB; rw [free_eq he hj]; simp [hj]
    have hent := ent_eq (x := x) hj
    unfold relB waitB roD relS upd
    rw [hfree, hent]
    cases hus : us j <;> cases hen : hasB x.oc ((ro L j).path.getD 0 0) <;> cases hfr : frD x (ro L j) <;> cases hca : s.ca j <;> by_cases ht : s.ti j = 0 <;>
      (have ht' : (0 < s.ti j) = (¬ s.ti j = 0) := by apply propext; omega
       rw [hus] at hu
       simp [hlo, hu, hca, ht, ht'])
theorem step_eq {L : Ly} (he : checkE L = 0) (s : Sta) (x : Inp) (cs : List (Int × Int)) : stepB L s x cs = stepD L s x cs := by
  unfold stepB stepD
  rw [cmd_eq he]
  exact end_eq he (si_cmd (si_tidy L s))
theorem pr_eq {L : Ly} {x : Inp} (he : checkE L = 0) (s : Sta) (i : Nat) : prB L x s i = (decide (i < L.r.length) && proD L x s i) := by
  unfold prB proD freeB detB
  by_cases hi : i < L.r.length
  · rw [free_eq he hi]
    have hg := check_good he (List.getElem_mem hi)
    rw [← ro_eq hi] at hg
    have lp := (may_lim (check_may he)).p
    have e : ((none32 fun p => nor L i p && !sideN x p) && (none32 fun p => rev L i p && !sideR x p)) = (nds (ro L i)).all fun z => if z.2 then sideR x z.1.toNat else sideN x z.1.toNat := by
      rw [Bool.eq_iff_iff, Bool.and_eq_true, n32_iff, n32_iff, List.all_eq_true]
      constructor
      · rintro ⟨h1, h2⟩ ⟨zp, zb⟩ hz
        obtain ⟨g0, g1⟩ := hg.nd _ hz
        obtain ⟨m, rfl⟩ : ∃ m : Nat, zp = (m : Int) := ⟨zp.toNat, by simp only at g0; omega⟩
        have hm : m < 32 := by simp only at g1; omega
        have hmt : (Int.toNat (m : Int)) = m := by omega
        simp only [hmt]
        cases zb with
        | false =>
          have hc : nor L i m = true := List.contains_iff_mem.2 hz
          have := h1 m hm
          rw [hc] at this
          simpa using this
        | true =>
          have hc : rev L i m = true := List.contains_iff_mem.2 hz
          have := h2 m hm
          rw [hc] at this
          simpa using this
      · intro h
        refine ⟨fun p hp => ?_, fun p hp => ?_⟩
        · cases hc : nor L i p with
          | false => rfl
          | true =>
            have := h _ (List.contains_iff_mem.1 (show (nds (ro L i)).contains ((p : Int), false) = true from hc))
            have hmt : (Int.toNat (p : Int)) = p := by omega
            simp only [hmt, Bool.false_eq_true, if_false] at this
            rw [this]; rfl
        · cases hc : rev L i p with
          | false => rfl
          | true =>
            have := h _ (List.contains_iff_mem.1 (show (nds (ro L i)).contains ((p : Int), true) = true from hc))
            have hmt : (Int.toNat (p : Int)) = p := by omega
            simp only [hmt, if_true] at this
            rw [this]; rfl
    rw [e]
    simp only [hi, decide_true, Bool.true_and]
    cases s.lo i <;> cases s.us i <;> cases s.ca i <;> cases frD x (ro L i) <;> simp
  · simp [hi]
end Go.AM.Fd

set_option linter.unusedSimpArgs false
set_option linter.unusedVariables false
set_option maxRecDepth 20000
namespace Go.AM.Fd
open Nat (reduceAdd reduceEqDiff reduceLT reduceLeDiff reduceMul reduceSub)
open Go.Proofs Go.AM.F
theorem ar_slc {P : Program} {H : AHeap} {v : Value} {t e esz : Nat} (hu : P.underlying t = some (.slice e)) (hz : P.cellsOf e = esz) (h : AR P H.get t [v]) : ∃ rows, (SlC H esz v rows ∧ rows.length ≤ 9223372036854775807) ∧ ∀ r ∈ rows, AR P H.get e r := by
  obtain ⟨rows, ⟨hs, hl⟩, hr⟩ := ar_rows hu hz h
  refine ⟨rows, ⟨⟨hs, ?_⟩, hl⟩, hr⟩
  rcases h.slice_inv hu with h2 | ⟨x, hx, h2⟩ | ⟨b, n, k, c, u, h2, h3, h4, _, h6, _⟩
  · cases h2; exact .inl rfl
  · cases h2
    obtain ⟨b, o, q⟩ := x
    cases q with
    | none => cases hx
    | some q => exact .inr (.inl ⟨b, o, q, rfl⟩)
  · cases h2
    rw [hz] at h6
    exact .inr (.inr ⟨b, n, k, _, _, c, u, rfl, h4, h6⟩)
theorem inp_of {H : AHeap} {cells : List Value} (h : AR Go.Proofs.Try.prog H.get 43 cells) : ∃ (x : Inp) (cv : Value) (cs : List (Int × Int)), cells = inl x cv ∧ SlC H 2 cv (cs.map cRow) ∧ cs.length ≤ 9223372036854775807 ∧ ∀ c ∈ cs, 0 ≤ c.1 ∧ c.1 < 256 := by
  have h1 := h.flat (d := 6) (ks := [.int .u64, .int .u32, .int .u32, .sl 41]) (by kernel_rfl)
  obtain ⟨a, as1, e1, ha, h2⟩ := h1.inv
  obtain ⟨b, bs, rfl, hb, h3⟩ := h2.inv
  obtain ⟨c, cs, rfl, hc, h4⟩ := h3.inv
  obtain ⟨d, ds, rfl, hd, h5⟩ := h4.inv
  have := h5.end_; subst this
  obtain ⟨n1, rfl, g1⟩ := fits_u64 ha
  obtain ⟨n2, rfl, g2⟩ := fits_u32 hb
  obtain ⟨n3, rfl, g3⟩ := fits_u32 hc
  obtain ⟨f1, q1⟩ := s64_of (x := (n1 : Int)) (by omega) (by omega)
  obtain ⟨f2, q2⟩ := s32_of (x := (n2 : Int)) (by omega) (by omega)
  obtain ⟨f3, q3⟩ := s32_of (x := (n3 : Int)) (by omega) (by omega)
  obtain ⟨rows, ⟨hr, lr⟩, hrow⟩ := ar_slc (e := 70) (esz := 2) (by kernel_rfl) (by kernel_rfl) hd
  obtain ⟨l, rfl, hl⟩ := list_choose (f := cRow) (Q := fun c : Int × Int => 0 ≤ c.1 ∧ c.1 < 256) (l := rows) (fun r hm => by
    have h1 := (hrow r hm).flat (d := 5) (ks := [.int .u8, .int .i64]) (by kernel_rfl)
    obtain ⟨a, as1, rfl, ha, h2⟩ := h1.inv
    obtain ⟨b, bs, rfl, hb, h3⟩ := h2.inv
    have := h3.end_; subst this
    obtain ⟨n, rfl, g⟩ := fits_u8 ha
    obtain ⟨m, rfl, _⟩ := hb
    exact ⟨((n : Int), m), rfl, by simp only; omega, by simp only; omega⟩)
  exact ⟨⟨f1, f2, f3⟩, d, l, by rw [e1, q1, q2, q3]; rfl, hr, by simpa using lr, hl⟩
theorem eq_out2 (K : AHeap) (neg : Bool) (f g : Nat → Bool) : asem (.eqs [1, 1] neg (.agg #[S64 f, S32 g]) (.agg #[S64 f, S32 g])) K = some (.bool (if neg then false else true), K) := by
  simp [asem, eqCs, eqC, S64, S32]
theorem staB_rfl (s : Sta) : staB s s = true := by unfold staB; simp
end Go.AM.Fd
