/- Part of the proof. -/
import Derived.Test.YtngnahfbgilapaaGLKnown04
set_option linter.unusedSimpArgs false
set_option linter.unusedVariables false
set_option linter.unusedSimpArgs false
set_option linter.unusedVariables false
namespace Go.AM.Fd
open Nat (reduceAdd reduceEqDiff reduceLT reduceLeDiff reduceMul reduceSub)
open Go.Proofs Go.AM.F
section
variable {H : AHeap} {b : Nat} {x : En}
theorem errNV {ρ : Nat → Option Nat} (e : Int) : NV ρ (.tuple #[.slice none 0 0, .int .i64 e]) (.tuple #[.slice none 0 0, .int .i64 e]) :=
  NV.tuple_of (l := [.slice none 0 0, .int .i64 e]) (l' := [.slice none 0 0, .int .i64 e]) (.cons .nilSl (.cons (.int _ e) .nil))
theorem err2NV {ρ : Nat → Option Nat} (s : ByteArray) (e : Int) : NV ρ (.tuple #[.string s, .int .i64 e]) (.tuple #[.string s, .int .i64 e]) :=
  NV.tuple_of (l := [.string s, .int .i64 e]) (l' := [.string s, .int .i64 e]) (.cons (.string s) (.cons (.int _ e) .nil))
theorem t37no (g : H.get b = some (.cells true false 7 (cE x) 145)) {v : Value} {B : List UInt8} (hB : BQ H v B) (hl : B.length ≤ 1000000) (hh : hE x (geLi B) ≠ 0) :
    ∃ w H', ARun Go.Proofs.Try.prog 0 37 [ptr b 0, v] H w H' ∧ w = .tuple #[.slice none 0 0, .int .i64 (hE x (geLi B))] ∧ H' = H := by
  obtain ⟨o, ho⟩ : ∃ o, geLi B = o := ⟨_, rfl⟩
  rw [ho] at hh ⊢
  obtain ⟨w, H', a, rfl, k⟩ : ∃ w H', ARun Go.Proofs.Try.prog 0 37 [ptr b 0, v] H w H' ∧ w = .tuple #[.slice none 0 0, .int .i64 (hE x o)] ∧ Keeps H H' := by
    refine walk2 f37_ok f37_n ?_
    intro Q hq1 hq2
    simp (disch := first | assumption | omega | (simp only [LN] <;> omega) | (simp (disch := first | assumption | omega | (simp only [LN] <;> omega)) only [row_alloc, row_set]; assumption)) only [f37, W_block, P3, ↓reduceIte, reduceAdd, reduceEqDiff, reduceCtorEq, initFr, reduceLT, clsA, reduceLeDiff, reduceMul, reduceSub, reduceIte]
    refine callK (e24 hB hl) ?_
    rintro _ K ⟨vb, rfl, k, fb, ab⟩
    simp only [ho] at *
    obtain ⟨y, hy⟩ : ∃ y, y = o.getD Li0 := ⟨_, rfl⟩
    rw [← hy] at ab ⊢
    have h1b := ab.bs.sl.one
    have om : (cLi vb y).all Value.oneCell' = true := by simp only [cLi, List.all_cons, List.all_nil, h1b]; rfl
    have lm : (cLi vb y).length = 5 := rfl
    have kk := k.alloc (.cells true false 5 (cLi vb y) 65)
    have g2 := k.at_ g
    have lb := AHeap.get_lt g2
    cases o with
    | none =>
      rw [show er (none : Option Li).isSome = 130 from rfl]
      simp (disch := first | assumption | omega | (simp only [LN] <;> omega) | (simp (disch := first | assumption | omega | (simp only [LN] <;> omega)) only [row_alloc, row_set]; assumption)) only [W_block, P3, ↓reduceIte, reduceAdd, reduceEqDiff, reduceCtorEq, initFr, reduceLT, clsA, reduceLeDiff, reduceMul, reduceSub, reduceIte, GotV, lm, om]
      exact hq2 _ _ ⟨_, rfl, rfl, kk⟩
    | some m =>
      obtain rfl : y = m := hy
      rw [show er (some y).isSome = 0 from rfl]
      by_cases h1 : y.f = x.t
      · have h1' : (y.f : Int) = (x.t : Int) := by omega
        by_cases h2 : y.t = x.f
        · have h2' : (y.t : Int) = (x.f : Int) := by omega
          have h12 : ¬ (y.f ≠ x.t ∨ y.t ≠ x.f) := by omega
          have h3 : y.q ≤ x.k := by
            by_cases h3 : y.q ≤ x.k
            · exact h3
            · simp only [hE] at hh; rw [if_neg h12, if_neg h3] at hh; exact absurd rfl hh
          have hv : hE x (some y) = 180 := by simp only [hE]; rw [if_neg h12, if_pos h3]
          rw [hv] at hq2
          simp (disch := first | assumption | omega | (simp only [LN] <;> omega) | (simp (disch := first | assumption | omega | (simp only [LN] <;> omega)) only [row_alloc, row_set]; assumption)) only [W_block, P3, ↓reduceIte, reduceAdd, reduceEqDiff, reduceCtorEq, initFr, reduceLT, clsA, reduceLeDiff, reduceMul, reduceSub, reduceIte, GotV, lm, om, cLiG vb y, g2, cEg x, h1', h2']
          exact hq2 _ _ ⟨_, rfl, rfl, kk⟩
        · have h2' : ¬ (y.t : Int) = (x.f : Int) := by omega
          have hv : hE x (some y) = 2 := by simp only [hE]; rw [if_pos (.inr h2)]
          rw [hv] at hq2
          simp (disch := first | assumption | omega | (simp only [LN] <;> omega) | (simp (disch := first | assumption | omega | (simp only [LN] <;> omega)) only [row_alloc, row_set]; assumption)) only [W_block, P3, ↓reduceIte, reduceAdd, reduceEqDiff, reduceCtorEq, initFr, reduceLT, clsA, reduceLeDiff, reduceMul, reduceSub, reduceIte, GotV, lm, om, cLiG vb y, g2, cEg x, h1', h2']
          exact hq2 _ _ ⟨_, rfl, rfl, kk⟩
      · have h1' : ¬ (y.f : Int) = (x.t : Int) := by omega
        have hv : hE x (some y) = 2 := by simp only [hE]; rw [if_pos (.inl h1)]
        rw [hv] at hq2
        simp (disch := first | assumption | omega | (simp only [LN] <;> omega) | (simp (disch := first | assumption | omega | (simp only [LN] <;> omega)) only [row_alloc, row_set]; assumption)) only [W_block, P3, ↓reduceIte, reduceAdd, reduceEqDiff, reduceCtorEq, initFr, reduceLT, clsA, reduceLeDiff, reduceMul, reduceSub, reduceIte, GotV, lm, om, cLiG vb y, g2, cEg x, h1']
        exact hq2 _ _ ⟨_, rfl, rfl, kk⟩
  exact ⟨_, _, a.gc0 k (.inr (errNV _)), rfl, rfl⟩
theorem t38no (g : H.get b = some (.cells true false 6 (cR x) 93)) {v : Value} {B : List UInt8} (hB : BQ H v B) (hl : B.length ≤ 1000000) (hh : hE x (geLi B) ≠ 0) :
    ∃ w H', ARun Go.Proofs.Try.prog 0 38 [ptr b 0, v] H w H' ∧ w = .tuple #[strB [], .int .i64 (hE x (geLi B))] ∧ H' = H := by
  obtain ⟨o, ho⟩ : ∃ o, geLi B = o := ⟨_, rfl⟩
  rw [ho] at hh ⊢
  obtain ⟨w, H', a, rfl, k⟩ : ∃ w H', ARun Go.Proofs.Try.prog 0 38 [ptr b 0, v] H w H' ∧ w = .tuple #[strB [], .int .i64 (hE x o)] ∧ Keeps H H' := by
    refine walk2 f38_ok f38_n ?_
    intro Q hq1 hq2
    simp (disch := first | assumption | omega | (simp only [LN] <;> omega) | (simp (disch := first | assumption | omega | (simp only [LN] <;> omega)) only [row_alloc, row_set]; assumption)) only [f38, W_block, P3, ↓reduceIte, reduceAdd, reduceEqDiff, reduceCtorEq, initFr, reduceLT, clsA, reduceLeDiff, reduceMul, reduceSub, reduceIte]
    refine callP (d25 hB hl) ?_
    simp only [ho] at *
    obtain ⟨y, hy⟩ : ∃ y, y = o.getD Li0 := ⟨_, rfl⟩
    rw [← hy]
    have lm := cLsL y
    have kk := (Keeps.refl H).alloc (.cells true false 5 (cLs y) 69)
    have lb := AHeap.get_lt g
    have cg : (cLs y)[0]? = some (.int .u8 (y.f : Nat)) ∧ (cLs y)[1]? = some (.int .u8 (y.t : Nat)) ∧ (cLs y)[2]? = some (.int .i64 y.q) := ⟨rfl, rfl, rfl⟩
    cases o with
    | none =>
      simp (disch := first | assumption | omega | (simp only [LN] <;> omega) | (simp (disch := first | assumption | omega | (simp only [LN] <;> omega)) only [row_alloc, row_set]; assumption)) only [W_block, P3, ↓reduceIte, reduceAdd, reduceEqDiff, reduceCtorEq, initFr, reduceLT, clsA, reduceLeDiff, reduceMul, reduceSub, reduceIte, GotB, cLsL, cLsO, Option.isSome_none]
      exact hq2 _ _ ⟨_, rfl, rfl, kk⟩
    | some m =>
      obtain rfl : y = m := hy
      by_cases h1 : y.f = x.t
      · have h1' : (y.f : Int) = (x.t : Int) := by omega
        by_cases h2 : y.t = x.f
        · have h2' : (y.t : Int) = (x.f : Int) := by omega
          have h12 : ¬ (y.f ≠ x.t ∨ y.t ≠ x.f) := by omega
          have h3 : y.q ≤ x.k := by
            by_cases h3 : y.q ≤ x.k
            · exact h3
            · simp only [hE] at hh; rw [if_neg h12, if_neg h3] at hh; exact absurd rfl hh
          have hv : hE x (some y) = 180 := by simp only [hE]; rw [if_neg h12, if_pos h3]
          rw [hv] at hq2
          simp (disch := first | assumption | omega | (simp only [LN] <;> omega) | (simp (disch := first | assumption | omega | (simp only [LN] <;> omega)) only [row_alloc, row_set]; assumption)) only [W_block, P3, ↓reduceIte, reduceAdd, reduceEqDiff, reduceCtorEq, initFr, reduceLT, clsA, reduceLeDiff, reduceMul, reduceSub, reduceIte, GotB, cLsL, cLsO, cg, g, cRg x, h1', h2', Option.isSome_some]
          exact hq2 _ _ ⟨_, rfl, rfl, kk⟩
        · have h2' : ¬ (y.t : Int) = (x.f : Int) := by omega
          have hv : hE x (some y) = 2 := by simp only [hE]; rw [if_pos (.inr h2)]
          rw [hv] at hq2
          simp (disch := first | assumption | omega | (simp only [LN] <;> omega) | (simp (disch := first | assumption | omega | (simp only [LN] <;> omega)) only [row_alloc, row_set]; assumption)) only [W_block, P3, ↓reduceIte, reduceAdd, reduceEqDiff, reduceCtorEq, initFr, reduceLT, clsA, reduceLeDiff, reduceMul, reduceSub, reduceIte, GotB, cLsL, cLsO, cg, g, cRg x, h1', h2', Option.isSome_some]
          exact hq2 _ _ ⟨_, rfl, rfl, kk⟩
      · have h1' : ¬ (y.f : Int) = (x.t : Int) := by omega
        have hv : hE x (some y) = 2 := by simp only [hE]; rw [if_pos (.inl h1)]
        rw [hv] at hq2
        simp (disch := first | assumption | omega | (simp only [LN] <;> omega) | (simp (disch := first | assumption | omega | (simp only [LN] <;> omega)) only [row_alloc, row_set]; assumption)) only [W_block, P3, ↓reduceIte, reduceAdd, reduceEqDiff, reduceCtorEq, initFr, reduceLT, clsA, reduceLeDiff, reduceMul, reduceSub, reduceIte, GotB, cLsL, cLsO, cg, g, cRg x, h1', Option.isSome_some]
        exact hq2 _ _ ⟨_, rfl, rfl, kk⟩
  exact ⟨_, _, a.gc0 k (.inr (err2NV _ _)), rfl, rfl⟩
theorem hE0 {m : Li} (h : hE x (some m) = 0) : m.f = x.t ∧ m.t = x.f ∧ x.k < m.q := by
  simp only [hE] at h
  split at h
  · exact absurd h (by decide)
  · rename_i h1
    split at h
    · exact absurd h (by decide)
    · exact ⟨by omega, by omega, by omega⟩
theorem t37 (hw : WfE x) (g : H.get b = some (.cells true false 7 (cE x) 145)) {v : Value} {B : List UInt8} (hB : BQ H v B) (hl : B.length ≤ 1000000) {m : Li} (hm : geLi B = some m) (hh : hE x (some m) = 0) :
    ∃ w H', ARun Go.Proofs.Try.prog 0 37 [ptr b 0, v] H w H' ∧ ∃ vb, w = .tuple #[vb, .int .i64 0] ∧ H'.get b = some (.cells true false 7 (cE (hX x m)) 145) ∧ Chg [b] H H' ∧ Fresh H.n vb ∧ AP H' 5 1 vb m.B.length (cellsOf m.B) := by
  obtain ⟨h1, h2, h3⟩ := hE0 hh
  have ho := okLi_iff.1 (geLi_ok hm)
  refine walk2 f37_ok f37_n ?_
  intro Q hq1 hq2
  simp (disch := first | assumption | omega | (simp only [LN] <;> omega) | (simp (disch := first | assumption | omega | (simp only [LN] <;> omega)) only [row_alloc, row_set]; assumption)) only [f37, W_block, P3, ↓reduceIte, reduceAdd, reduceEqDiff, reduceCtorEq, initFr, reduceLT, clsA, reduceLeDiff, reduceMul, reduceSub, reduceIte]
  refine callK (e24 hB hl) ?_
  rintro _ K ⟨vb, rfl, k, fb, ab⟩
  simp only [hm, Option.getD_some, Option.isSome_some] at ab ⊢
  rw [show er true = 0 from rfl]
  have h1b := ab.bs.sl.one
  have om : (cLi vb m).all Value.oneCell' = true := by simp only [cLi, List.all_cons, List.all_nil, h1b]; rfl
  have lm : (cLi vb m).length = 5 := rfl
  have g2 := k.at_ g
  have lb := AHeap.get_lt g
  have lk := k.n
  have h1' : (m.f : Int) = (x.t : Int) := by omega
  have h2' : (m.t : Int) = (x.f : Int) := by omega
  have hkl := hw.hk
  have hll := hw.hl
  have lE : ∀ y : En, (cE y).length = 7 := fun _ => rfl
  have g65 := AHeap.get_alloc_new K (.cells true false 5 (cLi vb m) 65)
  have ab2 := ab.keeps ((Keeps.refl K).alloc (.cells true false 5 (cLi vb m) 65))
  have g3 := (k.alloc (.cells true false 5 (cLi vb m) 65)).at_ g
  have kk := k.alloc (.cells true false 5 (cLi vb m) 65)
  have hns : ∀ z ∈ blkL vb, z ≠ b := fun z hz => by have := fb z (mem_blkL.1 hz); omega
  simp (disch := first | assumption | omega | (simp only [LN] <;> omega) | (simp (disch := first | assumption | omega | (simp only [LN] <;> omega)) only [row_alloc, row_set]; assumption)) only [W_block, P3, ↓reduceIte, reduceAdd, reduceEqDiff, reduceCtorEq, initFr, reduceLT, clsA, reduceLeDiff, reduceMul, reduceSub, reduceIte, GotV, lm, om]
  obtain ⟨K2, hK2⟩ : ∃ X, X = K.alloc (.cells true false 5 (cLi vb m) 65) := ⟨_, rfl⟩
  rw [← hK2] at g65 ab2 g3 kk ⊢
  have hbK : b ≠ K.n := by omega
  have lb2 := AHeap.get_lt g3
  have l65 := AHeap.get_lt g65
  simp (disch := first | assumption | omega | (simp only [LN] <;> omega) | (simp (disch := first | assumption | omega | (simp only [LN] <;> omega)) only [row_alloc, row_set]; assumption)) only [W_block, P3, ↓reduceIte, reduceAdd, reduceEqDiff, reduceCtorEq, initFr, reduceLT, clsA, reduceLeDiff, reduceMul, reduceSub, reduceIte, cLiG vb m, g65, g3, cEg x, h1', h2']
  have fin : ∀ y : En, cE y = cE (hX x m) → (∃ w, (some (Value.tuple #[vb, .int .i64 0]) : Option Value) = some w ∧ ∃ vb', w = .tuple #[vb', .int .i64 0] ∧ (K2.set b (.cells true false 7 (cE y) 145)).get b = some (.cells true false 7 (cE (hX x m)) 145) ∧ Chg [b] H (K2.set b (.cells true false 7 (cE y) 145)) ∧ Fresh H.n vb' ∧ AP (K2.set b (.cells true false 7 (cE y) 145)) 5 1 vb' m.B.length (cellsOf m.B)) := by
    intro y hy
    rw [hy]
    exact ⟨_, rfl, vb, rfl, AHeap.get_set_same g3 _, (kk.chg _).trans (Chg.set K2 lb2 _) (fun z hz => .inl hz), fb, ab2.chg (Chg.set K2 lb2 _) (fun z hz => by simpa using hns z hz)⟩
  have aX : (hX x m).k = m.q := rfl
  by_cases c1 : 0 < x.k
  · have w1 : IntKind.i64.wrap (m.q - x.k) = m.q - x.k := wrap_i64 (by omega) (by omega)
    have w2 : IntKind.i64.wrap (m.q - x.k - 1) = m.q - x.k - 1 := wrap_i64 (by omega) (by omega)
    have w3 : IntKind.i64.wrap (x.l + (m.q - x.k - 1)) = x.l + (m.q - x.k - 1) := wrap_i64 (by omega) (by omega)
    obtain ⟨x1, hx1⟩ : ∃ y : En, y = { x with l := x.l + (m.q - x.k - 1) } := ⟨_, rfl⟩
    have s1 : (cE x).set 6 (.int .i64 (x.l + (m.q - x.k - 1))) = cE x1 := by rw [hx1]; rfl
    obtain ⟨x2, hx2⟩ : ∃ y : En, y = { x1 with k := m.q } := ⟨_, rfl⟩
    have s2 : (cE x1).set 3 (.int .i64 m.q) = cE x2 := by rw [hx2]; rfl
    have q2 : x2.q = x.q ∧ x2.a = x.a := by rw [hx2, hx1]; exact ⟨rfl, rfl⟩
    by_cases c2 : m.k ≤ x.q
    · obtain ⟨x3, hx3⟩ : ∃ y : En, y = { x2 with a := max x.a m.k } := ⟨_, rfl⟩
      have s3 : (cE x2).set 5 (.int .i64 (max x.a m.k)) = cE x3 := by rw [hx3]; rfl
      have e3 : cE x3 = cE (hX x m) := by rw [hx3, hx2, hx1]; simp only [hX, if_pos c1, if_pos c2]
      simp (disch := first | assumption | omega | (simp only [LN] <;> omega) | (simp (disch := first | assumption | omega | (simp only [LN] <;> omega)) only [row_alloc, row_set]; assumption)) only [W_block, P3, ↓reduceIte, reduceAdd, reduceEqDiff, reduceCtorEq, initFr, reduceLT, clsA, reduceLeDiff, reduceMul, reduceSub, reduceIte, cLiG vb m, g65, g3, cEg x, w1, w2, w3, lE, s1, s2, cEg x2, q2, a_mmx, s3]
      exact hq2 _ _ (fin _ e3)
    · have e2 : cE x2 = cE (hX x m) := by rw [hx2, hx1]; simp only [hX, if_pos c1, if_neg c2]
      simp (disch := first | assumption | omega | (simp only [LN] <;> omega) | (simp (disch := first | assumption | omega | (simp only [LN] <;> omega)) only [row_alloc, row_set]; assumption)) only [W_block, P3, ↓reduceIte, reduceAdd, reduceEqDiff, reduceCtorEq, initFr, reduceLT, clsA, reduceLeDiff, reduceMul, reduceSub, reduceIte, cLiG vb m, g65, g3, cEg x, w1, w2, w3, lE, s1, s2, cEg x2, q2]
      exact hq2 _ _ (fin _ e2)
  · obtain ⟨x2, hx2⟩ : ∃ y : En, y = { x with k := m.q } := ⟨_, rfl⟩
    have s2 : (cE x).set 3 (.int .i64 m.q) = cE x2 := by rw [hx2]; rfl
    have q2 : x2.q = x.q ∧ x2.a = x.a := by rw [hx2]; exact ⟨rfl, rfl⟩
    by_cases c2 : m.k ≤ x.q
    · obtain ⟨x3, hx3⟩ : ∃ y : En, y = { x2 with a := max x.a m.k } := ⟨_, rfl⟩
      have s3 : (cE x2).set 5 (.int .i64 (max x.a m.k)) = cE x3 := by rw [hx3]; rfl
      have e3 : cE x3 = cE (hX x m) := by rw [hx3, hx2]; simp only [hX, if_neg c1, if_pos c2]
      simp (disch := first | assumption | omega | (simp only [LN] <;> omega) | (simp (disch := first | assumption | omega | (simp only [LN] <;> omega)) only [row_alloc, row_set]; assumption)) only [W_block, P3, ↓reduceIte, reduceAdd, reduceEqDiff, reduceCtorEq, initFr, reduceLT, clsA, reduceLeDiff, reduceMul, reduceSub, reduceIte, cLiG vb m, g65, g3, cEg x, lE, s2, cEg x2, q2, a_mmx, s3]
      exact hq2 _ _ (fin _ e3)
    · have e2 : cE x2 = cE (hX x m) := by rw [hx2]; simp only [hX, if_neg c1, if_neg c2]
      simp (disch := first | assumption | omega | (simp only [LN] <;> omega) | (simp (disch := first | assumption | omega | (simp only [LN] <;> omega)) only [row_alloc, row_set]; assumption)) only [W_block, P3, ↓reduceIte, reduceAdd, reduceEqDiff, reduceCtorEq, initFr, reduceLT, clsA, reduceLeDiff, reduceMul, reduceSub, reduceIte, cLiG vb m, g65, g3, cEg x, lE, s2, cEg x2, q2]
      exact hq2 _ _ (fin _ e2)
theorem AOr.plain {ρ : Nat → Option Nat} {own room : Bool} {esz e : Nat} {c : List Value} (h : c.all plain1 = true) : AOr ρ (.cells own room esz c e) (.cells own room esz c e) := ⟨own, c, rfl, fun h => h, NL.plain h⟩
theorem ARun.gc1 {P : Program} {ng : Nat} {f : FuncId} {args : List Value} {H H' : AHeap} {v : Value} {b : Nat} {own room : Bool} {esz e : Nat} {c : List Value} (a : ARun P ng f args H v H') (hb : b < H.n) (hs : (H.get b).isSome = true) (k : Chg [b] H H') (g : H'.get b = some (.cells own room esz c e)) (hc : c.all plain1 = true)
    (hv : NV (rho H.n []) v v) : ARun P ng f args H v (H.set b (.cells own room esz c e)) := by
  refine a.gcs [] rfl (by simp) (by simp) (fun y o' hy ho => ?_) (by simp) (.inr hv)
  by_cases hyb : y = b
  · subst hyb
    rw [g] at ho; cases ho
    refine .inr ⟨_, ?_, AOr.plain hc⟩
    obtain ⟨o0, h0⟩ := Option.isSome_iff_exists.1 hs
    exact AHeap.get_set_same h0 _
  · rw [k.get y hy (by simpa using hyb)] at ho
    exact .inl ⟨ho, by rw [AHeap.get_set_other _ hyb hb]; exact ho⟩
theorem t38 (hw : WfE x) (g : H.get b = some (.cells true false 6 (cR x) 93)) {v : Value} {B : List UInt8} (hB : BQ H v B) (hl : B.length ≤ 1000000) {m : Li} (hm : geLi B = some m) (hh : hE x (some m) = 0) :
    ∃ w H', ARun Go.Proofs.Try.prog 0 38 [ptr b 0, v] H w H' ∧ w = .tuple #[strB m.B, .int .i64 0] ∧ H' = H.set b (.cells true false 6 (cR (hX x m)) 93) := by
  obtain ⟨w, H', a, rfl, k, gb⟩ : ∃ w H', ARun Go.Proofs.Try.prog 0 38 [ptr b 0, v] H w H' ∧ w = .tuple #[strB m.B, .int .i64 0] ∧ Chg [b] H H' ∧ H'.get b = some (.cells true false 6 (cR (hX x m)) 93) := by
    obtain ⟨h1, h2, h3⟩ := hE0 hh
    have ho := okLi_iff.1 (geLi_ok hm)
    refine walk2 f38_ok f38_n ?_
    intro Q hq1 hq2
    simp (disch := first | assumption | omega | (simp only [LN] <;> omega) | (simp (disch := first | assumption | omega | (simp only [LN] <;> omega)) only [row_alloc, row_set]; assumption)) only [f38, W_block, P3, ↓reduceIte, reduceAdd, reduceEqDiff, reduceCtorEq, initFr, reduceLT, clsA, reduceLeDiff, reduceMul, reduceSub, reduceIte]
    refine callP (d25 hB hl) ?_
    simp only [hm, Option.getD_some, Option.isSome_some]
    have lm := cLsL m
    have lb := AHeap.get_lt g
    have h1' : (m.f : Int) = (x.t : Int) := by omega
    have h2' : (m.t : Int) = (x.f : Int) := by omega
    have hkl := hw.hk
    have hll := hw.hl
    have lE : ∀ y : En, (cR y).length = 6 := fun _ => rfl
    have cg : (cLs m)[0]? = some (.int .u8 (m.f : Nat)) ∧ (cLs m)[1]? = some (.int .u8 (m.t : Nat)) ∧ (cLs m)[2]? = some (.int .i64 m.q) ∧ (cLs m)[3]? = some (.int .i64 m.k) ∧ (cLs m)[4]? = some (strB m.B) := ⟨rfl, rfl, rfl, rfl, rfl⟩
    have g65 := AHeap.get_alloc_new H (.cells true false 5 (cLs m) 69)
    have kk := (Keeps.refl H).alloc (.cells true false 5 (cLs m) 69)
    have g3 := kk.at_ g
    simp (disch := first | assumption | omega | (simp only [LN] <;> omega) | (simp (disch := first | assumption | omega | (simp only [LN] <;> omega)) only [row_alloc, row_set]; assumption)) only [W_block, P3, ↓reduceIte, reduceAdd, reduceEqDiff, reduceCtorEq, initFr, reduceLT, clsA, reduceLeDiff, reduceMul, reduceSub, reduceIte, GotB, cLsL, cLsO]
    obtain ⟨K2, hK2⟩ : ∃ X, X = H.alloc (.cells true false 5 (cLs m) 69) := ⟨_, rfl⟩
    rw [← hK2] at g65 g3 kk ⊢
    have hbK : b ≠ H.n := by omega
    have lb2 := AHeap.get_lt g3
    have l65 := AHeap.get_lt g65
    simp (disch := first | assumption | omega | (simp only [LN] <;> omega) | (simp (disch := first | assumption | omega | (simp only [LN] <;> omega)) only [row_alloc, row_set]; assumption)) only [W_block, P3, ↓reduceIte, reduceAdd, reduceEqDiff, reduceCtorEq, initFr, reduceLT, clsA, reduceLeDiff, reduceMul, reduceSub, reduceIte, cg, g65, g3, cRg x, h1', h2']
    have fin : ∀ y : En, cR y = cR (hX x m) → (∃ w, (some (Value.tuple #[strB m.B, .int .i64 0]) : Option Value) = some w ∧ w = .tuple #[strB m.B, .int .i64 0] ∧ Chg [b] H (K2.set b (.cells true false 6 (cR y) 93)) ∧ (K2.set b (.cells true false 6 (cR y) 93)).get b = some (.cells true false 6 (cR (hX x m)) 93)) := by
      intro y hy
      rw [hy]
      exact ⟨_, rfl, rfl, (kk.chg _).trans (Chg.set K2 lb2 _) (fun z hz => .inl hz), AHeap.get_set_same g3 _⟩
    by_cases c1 : 0 < x.k
    · have w1 : IntKind.i64.wrap (x.l + m.q) = x.l + m.q := wrap_i64 (by omega) (by omega)
      have w2 : IntKind.i64.wrap (x.l + m.q - x.k) = x.l + m.q - x.k := wrap_i64 (by omega) (by omega)
      have w3 : IntKind.i64.wrap (x.l + m.q - x.k - 1) = x.l + m.q - x.k - 1 := wrap_i64 (by omega) (by omega)
      obtain ⟨x1, hx1⟩ : ∃ y : En, y = { x with l := x.l + m.q - x.k - 1 } := ⟨_, rfl⟩
      have s1 : (cR x).set 5 (.int .i64 (x.l + m.q - x.k - 1)) = cR x1 := by rw [hx1]; rfl
      obtain ⟨x2, hx2⟩ : ∃ y : En, y = { x1 with k := m.q } := ⟨_, rfl⟩
      have s2 : (cR x1).set 3 (.int .i64 m.q) = cR x2 := by rw [hx2]; rfl
      have q2 : x2.q = x.q ∧ x2.a = x.a := by rw [hx2, hx1]; exact ⟨rfl, rfl⟩
      have el : x.l + m.q - x.k - 1 = x.l + (m.q - x.k - 1) := by omega
      by_cases c0 : x.a < m.k
      · by_cases c2 : m.k ≤ x.q
        · obtain ⟨x3, hx3⟩ : ∃ y : En, y = { x2 with a := m.k } := ⟨_, rfl⟩
          have s3 : (cR x2).set 4 (.int .i64 m.k) = cR x3 := by rw [hx3]; rfl
          have e3 : cR x3 = cR (hX x m) := by
            have : max x.a m.k = m.k := by rw [Int.max_def]; split <;> omega
            rw [hx3, hx2, hx1]; simp only [hX, if_pos c1, if_pos c2, el, this]
          simp (disch := first | assumption | omega | (simp only [LN] <;> omega) | (simp (disch := first | assumption | omega | (simp only [LN] <;> omega)) only [row_alloc, row_set]; assumption)) only [W_block, P3, ↓reduceIte, reduceAdd, reduceEqDiff, reduceCtorEq, initFr, reduceLT, clsA, reduceLeDiff, reduceMul, reduceSub, reduceIte, cg, g65, g3, cRg x, w1, w2, w3, lE, s1, s2, cRg x2, q2, s3]
          exact hq2 _ _ (fin _ e3)
        · have e2 : cR x2 = cR (hX x m) := by rw [hx2, hx1]; simp only [hX, if_pos c1, if_neg c2, el]
          simp (disch := first | assumption | omega | (simp only [LN] <;> omega) | (simp (disch := first | assumption | omega | (simp only [LN] <;> omega)) only [row_alloc, row_set]; assumption)) only [W_block, P3, ↓reduceIte, reduceAdd, reduceEqDiff, reduceCtorEq, initFr, reduceLT, clsA, reduceLeDiff, reduceMul, reduceSub, reduceIte, cg, g65, g3, cRg x, w1, w2, w3, lE, s1, s2, cRg x2, q2]
          exact hq2 _ _ (fin _ e2)
      · have e2 : cR x2 = cR (hX x m) := by
          have : max x.a m.k = x.a := by rw [Int.max_def]; split <;> omega
          rw [hx2, hx1]; simp only [hX, if_pos c1, el, this, ite_self]
        simp (disch := first | assumption | omega | (simp only [LN] <;> omega) | (simp (disch := first | assumption | omega | (simp only [LN] <;> omega)) only [row_alloc, row_set]; assumption)) only [W_block, P3, ↓reduceIte, reduceAdd, reduceEqDiff, reduceCtorEq, initFr, reduceLT, clsA, reduceLeDiff, reduceMul, reduceSub, reduceIte, cg, g65, g3, cRg x, w1, w2, w3, lE, s1, s2, cRg x2, q2]
        exact hq2 _ _ (fin _ e2)
    · obtain ⟨x2, hx2⟩ : ∃ y : En, y = { x with k := m.q } := ⟨_, rfl⟩
      have s2 : (cR x).set 3 (.int .i64 m.q) = cR x2 := by rw [hx2]; rfl
      have q2 : x2.q = x.q ∧ x2.a = x.a := by rw [hx2]; exact ⟨rfl, rfl⟩
      by_cases c0 : x.a < m.k
      · by_cases c2 : m.k ≤ x.q
        · obtain ⟨x3, hx3⟩ : ∃ y : En, y = { x2 with a := m.k } := ⟨_, rfl⟩
          have s3 : (cR x2).set 4 (.int .i64 m.k) = cR x3 := by rw [hx3]; rfl
          have e3 : cR x3 = cR (hX x m) := by
            have : max x.a m.k = m.k := by rw [Int.max_def]; split <;> omega
            rw [hx3, hx2]; simp only [hX, if_neg c1, if_pos c2, this]
          simp (disch := first | assumption | omega | (simp only [LN] <;> omega) | (simp (disch := first | assumption | omega | (simp only [LN] <;> omega)) only [row_alloc, row_set]; assumption)) only [W_block, P3, ↓reduceIte, reduceAdd, reduceEqDiff, reduceCtorEq, initFr, reduceLT, clsA, reduceLeDiff, reduceMul, reduceSub, reduceIte, cg, g65, g3, cRg x, lE, s2, cRg x2, q2, s3]
          exact hq2 _ _ (fin _ e3)
        · have e2 : cR x2 = cR (hX x m) := by rw [hx2]; simp only [hX, if_neg c1, if_neg c2]
          simp (disch := first | assumption | omega | (simp only [LN] <;> omega) | (simp (disch := first | assumption | omega | (simp only [LN] <;> omega)) only [row_alloc, row_set]; assumption)) only [W_block, P3, ↓reduceIte, reduceAdd, reduceEqDiff, reduceCtorEq, initFr, reduceLT, clsA, reduceLeDiff, reduceMul, reduceSub, reduceIte, cg, g65, g3, cRg x, lE, s2, cRg x2, q2]
          exact hq2 _ _ (fin _ e2)
      · have e2 : cR x2 = cR (hX x m) := by
          have : max x.a m.k = x.a := by rw [Int.max_def]; split <;> omega
          rw [hx2]; simp only [hX, if_neg c1, this, ite_self]
        simp (disch := first | assumption | omega | (simp only [LN] <;> omega) | (simp (disch := first | assumption | omega | (simp only [LN] <;> omega)) only [row_alloc, row_set]; assumption)) only [W_block, P3, ↓reduceIte, reduceAdd, reduceEqDiff, reduceCtorEq, initFr, reduceLT, clsA, reduceLeDiff, reduceMul, reduceSub, reduceIte, cg, g65, g3, cRg x, lE, s2, cRg x2, q2]
        exact hq2 _ _ (fin _ e2)
  exact ⟨_, _, ARun.gc1 a (AHeap.get_lt g) (by rw [g]; rfl) k gb rfl (err2NV _ _), rfl, rfl⟩
end
end Go.AM.Fd

set_option linter.unusedSimpArgs false
set_option linter.unusedVariables false
namespace Go.AM.Fd
open Nat (reduceAdd reduceEqDiff reduceLT reduceLeDiff reduceMul reduceSub)
open Go.Proofs Go.AM.F
theorem PutR.lt {H H' : AHeap} {v : Value} {l : List UInt8} (h : PutR H H' v l) {b : Nat} (hb : blk v = some b) : H.n ≤ b ∧ b < H'.n := ⟨h.2.2 b hb, h.1.lt hb⟩
theorem PutR.isS {H H' : AHeap} {v : Value} {l : List UInt8} (h : PutR H H' v l) : isS v = true := by obtain ⟨a, rfl⟩ := h.1.shape; rfl
end Go.AM.Fd

set_option linter.unusedSimpArgs false
set_option linter.unusedVariables false
namespace Go.AM
def AO.unown : AO → AO
  | .dead => .dead
  | .cells _ room esz c e => .cells false room esz c e
  | .obj _ o => .obj false o
def AHeap.unown (H : AHeap) : AHeap := ⟨H.n, H.l.map AO.unown⟩
theorem AHeap.unown_n (H : AHeap) : H.unown.n = H.n := _root_.id rfl
theorem AHeap.unown_get (H : AHeap) (b : Nat) : H.unown.get b = (H.get b).map AO.unown := by
  unfold AHeap.get AHeap.unown
  split <;> simp
theorem AO.unown_own (o : AO) : o.unown.own = false := by cases o <;> rfl
theorem AHeap.unown_no (H : AHeap) : NoOwn H.unown := fun b o h => by
  rw [AHeap.unown_get] at h
  cases hb : H.get b with
  | none => rw [hb] at h; cases h
  | some x => rw [hb] at h; cases h; exact AO.unown_own x
theorem OR.unown {σ : Sg} {w : World} {i : BI} {o : AO} (h : OR σ w i o) : OR σ w i o.unown := by
  cases o with
  | dead => trivial
  | cells own room esz c e =>
    obtain ⟨a1, a2, a3, a4, a5, c', fr, a6, a7, a8, a9⟩ := h
    exact ⟨a1, a2, a3, a4, a5, c', fr, a6, a7, a8, fun h => by cases h⟩
  | obj own o => exact h
theorem HR.unown {ng : Nat} {σ : Sg} {H : AHeap} {w : World} (h : HR ng σ H.get w) : HR ng σ H.unown.get w := by
  refine ⟨fun b i hb => ?_, fun b1 b2 i1 i2 o1 o2 _ _ _ g1 _ hw => ?_, h.lt, h.glob⟩
  · obtain ⟨o, h1, h2⟩ := h.obj b i hb
    exact ⟨o.unown, by rw [AHeap.unown_get, h1]; rfl, h2.unown⟩
  · rw [H.unown_no b1 o1 g1] at hw; cases hw
def over (H H' : AHeap) : AHeap := ⟨H'.n, (List.range (H'.n - H.n)).map (fun i => (H'.l[i]?).getD .dead) ++ H.l⟩
theorem over_old {H H' : AHeap} (hn : H.n ≤ H'.n) {b : Nat} (hb : b < H.n) : (over H H').get b = H.get b := by
  unfold AHeap.get over
  simp only
  rw [if_pos (by omega), if_pos hb, List.getElem?_append_right (by simp; omega)]
  simp only [List.length_map, List.length_range]
  rw [show H'.n - 1 - b - (H'.n - H.n) = H.n - 1 - b by omega]
theorem over_new {H H' : AHeap} {b : Nat} (hb : H.n ≤ b) (hb2 : b < H'.n) {o : AO} (h : H'.get b = some o) : (over H H').get b = some o := by
  unfold AHeap.get over at *
  simp only
  rw [if_pos hb2] at h ⊢
  rw [List.getElem?_append_left (by simp; omega)]
  simp only [List.getElem?_map]
  rw [List.getElem?_range (by omega)]
  simp [h]
theorem over_keeps {H H' : AHeap} (hn : H.n ≤ H'.n) : Keeps H (over H H') := ⟨hn, fun b hb => over_old hn hb⟩
variable {P : Program} {ng : Nat} {f : FuncId} {args : List Value} {H H' : AHeap} {v : Value}
theorem ARun.over (h : ARun P ng f args H.unown v H') : ARun P ng f args H v (AM.over H H') ∧ Keeps H (AM.over H H') := by
  obtain ⟨h0, h1, h2⟩ := h
  rw [AHeap.unown_n] at h1
  refine ⟨⟨h0, h1, fun σ w args' hr ha => ?_⟩, over_keeps h1⟩
  refine (h2 σ w args' hr.unown ha).mono ?_
  rintro e w' ⟨v', σ', rfl, k1, k2, k3⟩
  have hk : ∀ k, k < w.heap.size → w'.heap[k]? = w.heap[k]? := fun k hk => k2.keep k hk (fun b i o hb ho hw => by rw [H.unown_no b o ho] at hw; cases hw)
  have old : ∀ b i, σ b = some i → b < H.n := fun b i hb => by
    obtain ⟨o, g, _⟩ := hr.obj b i hb
    exact AHeap.get_lt g
  have back : ∀ b i, b < H.n → σ' b = some i → σ b = some i := fun b i hb hs => by
    cases hsb : σ b with
    | none =>
      have := (k2.new b i hsb hs).1.1
      rw [AHeap.unown_n] at this; omega
    | some j => have := k2.sub b j hsb; rw [hs] at this; exact this.symm
  have fresh : ∀ b i, H.n ≤ b → σ' b = some i → w.heap.size ≤ i.c := fun b i hb hs => by
    have hsb : σ b = none := by
      cases hsb : σ b with
      | none => rfl
      | some j => have := old b j hsb; omega
    rcases (k2.new b i hsb hs).2 with h | ⟨b0, i0, o0, _, e2, e3, _⟩
    · exact h
    · rw [H.unown_no b0 o0 e2] at e3; cases e3
  have obj : ∀ b i, σ' b = some i → (b < H.n ∧ σ b = some i ∧ i.c < w.heap.size) ∨ (H.n ≤ b ∧ w.heap.size ≤ i.c ∧ ∃ o, H'.get b = some o ∧ (AM.over H H').get b = some o ∧ OR σ' w' i o) := fun b i hs => by
    by_cases hb : b < H.n
    · have := back b i hb hs
      exact .inl ⟨hb, this, hr.lt b i this⟩
    · obtain ⟨o, g1, g2⟩ := k1.obj b i hs
      exact .inr ⟨by omega, fresh b i (by omega) hs, o, g1, over_new (by omega) (AHeap.get_lt g1) g1, g2⟩
  refine ⟨v', σ', rfl, ⟨?_, ?_, k1.lt, k1.glob⟩, ⟨k2.sub, ?_, ?_, ?_, ?_, k2.size, h1, k2.os, k2.tape, k2.output⟩, k3⟩
  · intro b i hs
    rcases obj b i hs with ⟨hb, hs0, _⟩ | ⟨_, _, o, _, g2, g3⟩
    · obtain ⟨o, g1, g2⟩ := hr.obj b i hs0
      exact ⟨o, by rw [over_old h1 hb]; exact g1, (g2.congr (fun _ => hk _ (hr.lt b i hs0))).mono k2.sub⟩
    · exact ⟨o, g2, g3⟩
  · intro b1 b2 i1 i2 o1 o2 hne s1 s2 g1 g2 hw hl
    rcases obj b1 i1 s1 with ⟨hb1, t1, l1⟩ | ⟨hb1, l1, p1, q1, q2, q3⟩
    · rcases obj b2 i2 s2 with ⟨hb2, t2, l2⟩ | ⟨hb2, l2, p2, r1, r2, r3⟩
      · rw [over_old h1 hb1] at g1
        rw [over_old h1 hb2] at g2
        exact hr.inj b1 b2 i1 i2 o1 o2 hne t1 t2 g1 g2 hw hl
      · omega
    · rcases obj b2 i2 s2 with ⟨hb2, t2, l2⟩ | ⟨hb2, l2, p2, r1, r2, r3⟩
      · omega
      · rw [q2] at g1; cases g1
        rw [r2] at g2; cases g2
        exact k1.inj b1 b2 i1 i2 _ _ hne s1 s2 q1 r1 hw hl
  · intro b i hb hs
    have := k2.new b i hb hs
    rw [AHeap.unown_n] at this
    rcases obj b i hs with ⟨_, hs0, _⟩ | ⟨_, l, _⟩
    · rw [hb] at hs0; cases hs0
    · exact ⟨this.1, .inl l⟩
  · intro b i o' hb ho hw
    obtain ⟨o, g1, _⟩ := hr.obj b i hb
    rw [over_old h1 (old b i hb), g1] at ho
    cases ho
    exact ⟨_, g1, hw⟩
  · intro b i o' hb ho hw
    obtain ⟨o, g1, _⟩ := hr.obj b i hb
    rw [over_old h1 (old b i hb), g1] at ho
    cases ho
    exact ⟨_, g1, hw⟩
  · intro k hlt _
    exact hk k hlt
theorem ARun.pure (h : ARun P ng f args H.unown v H') (hv : plain1 v = true) : ARun P ng f args H v H := by
  obtain ⟨h1, h2⟩ := h.over
  exact h1.gc0 h2 (.inr (NV.plain hv))
end Go.AM

set_option linter.unusedSimpArgs false
set_option linter.unusedVariables false
namespace Go.AM
namespace Hk
abbrev HF := List Value → Nat → HT → CK → Bool
def HFok (P : Program) (ng k : Nat) (h : HF) : Prop := ∀ xs n t K, h xs n t K = true → ∀ H, Rp n t H → ∃ v H', ARun P ng k xs H v H' ∧ KP K v H'
def EFok (P : Program) (ng k : Nat) (f : EF) : Prop := ∃ af, compF P ng f.sl k = some af ∧ af.sl = f.sl ∧ af.res = f.res ∧ (af.body = f.body ∨ simpC af.body = f.body) ∧ argsOK P k f.na = true
def EFof (na : Nat) (af : AFunc) : EF := ⟨na, af.sl, af.res, af.body⟩
theorem ok_af {P : Program} {ng k na : Nat} {sl : List Nat} {af : AFunc} (h : compF P ng sl k = some af) (hs : af.sl = sl) (ha : argsOK P k na = true) : EFok P ng k (EFof na af) := by
  subst hs
  exact ⟨af, h, rfl, rfl, .inl rfl, ha⟩
theorem ok_of {P : Program} {ng k : Nat} {f : EF} (h : f.ok P ng k) : EFok P ng k f := by
  obtain ⟨af, h1, h2, h3, h4, h5⟩ := h
  exact ⟨af, h1, h2, h3, .inr h4, h5⟩
inductive FT
  | leaf
  | node (k : Nat) (f : EF) (l r : FT)
  | hook (k : Nat) (h : HF) (l r : FT)
noncomputable def FT.find (T : FT) (k : Nat) (K : EF → Bool) (KH : HF → Bool) : Bool :=
  FT.rec (motive := fun _ => Bool) false (fun k' f _ _ l r => Bool.rec (motive := fun _ => Bool) (Bool.rec (motive := fun _ => Bool) r l (Nat.ble k k')) (K f) (Nat.beq k k'))
    (fun k' h _ _ l r => Bool.rec (motive := fun _ => Bool) (Bool.rec (motive := fun _ => Bool) r l (Nat.ble k k')) (KH h) (Nat.beq k k')) T
def FT.ok (P : Program) (ng : Nat) : FT → Prop
  | .leaf => True
  | .node k f l r => EFok P ng k f ∧ l.ok P ng ∧ r.ok P ng
  | .hook k h l r => HFok P ng k h ∧ l.ok P ng ∧ r.ok P ng
theorem FT.find_true {P : Program} {ng : Nat} {k : Nat} {K : EF → Bool} {KH : HF → Bool} : ∀ {T : FT}, T.ok P ng → T.find k K KH = true → (∃ f, EFok P ng k f ∧ K f = true) ∨ ∃ h, HFok P ng k h ∧ KH h = true
  | .leaf, _, h => by cases h
  | .node k' f l r, hT, h => by
    have e : (FT.node k' f l r).find k K KH = Bool.rec (motive := fun _ => Bool) (Bool.rec (motive := fun _ => Bool) (r.find k K KH) (l.find k K KH) (Nat.ble k k')) (K f) (Nat.beq k k') := rfl
    rw [e] at h
    cases e1 : Nat.beq k k'
    · rw [e1] at h
      cases e2 : Nat.ble k k'
      · rw [e2] at h; exact FT.find_true hT.2.2 h
      · rw [e2] at h; exact FT.find_true hT.2.1 h
    · rw [e1] at h
      have := Nat.eq_of_beq_eq_true e1
      subst this
      exact .inl ⟨f, hT.1, h⟩
  | .hook k' f l r, hT, h => by
    have e : (FT.hook k' f l r).find k K KH = Bool.rec (motive := fun _ => Bool) (Bool.rec (motive := fun _ => Bool) (r.find k K KH) (l.find k K KH) (Nat.ble k k')) (KH f) (Nat.beq k k') := rfl
    rw [e] at h
    cases e1 : Nat.beq k k'
    · rw [e1] at h
      cases e2 : Nat.ble k k'
      · rw [e2] at h; exact FT.find_true hT.2.2 h
      · rw [e2] at h; exact FT.find_true hT.2.1 h
    · rw [e1] at h
      have := Nat.eq_of_beq_eq_true e1
      subst this
      exact .inr ⟨f, hT.1, h⟩
noncomputable def callE (T : FT) (rec : ACode → List Value → Nat → HT → EK → Bool) : Caller := fun f xs n t K => T.find f (fun ef => asT (Nat.beq xs.length ef.na) (initK ef.sl xs fun fr => rec ef.body fr n t fun e fr n t => match e with
  | .normal => resK ef.res fr t fun v => K v n t
  | .ret => resK ef.res fr t fun v => K v n t
  | _ => false)) (fun h => h xs n t K)
noncomputable def runS (T : FT) (rec : ACode → List Value → Nat → HT → EK → Bool) (c : ACode) : List Value → Nat → HT → EK → Bool :=
  ACode.rec (motive := fun _ => List Value → Nat → HT → EK → Bool)
    (fun fr n t K => K .normal fr n t)
    (fun ops fr n t K => runOps (callE T rec) ops fr [] n t fun fr n t => K .normal fr n t)
    (fun ops fr n t K => runD (callE T rec) ops fr [] n t [] fun fr n t => K .normal fr n t)
    (fun _ _ iha ihb fr n t K => iha fr n t (seqK ihb K))
    (fun c _ _ iht ihe fr n t K => evX c fr [] fun v => condK v (iht fr n t K) (ihe fr n t K))
    (fun id _ ih fr n t K => ih fr n t (blockK id K))
    (fun c ih fr n t K => ih fr n t (seqK (rec (.loop c)) K))
    (fun id fr n t K => K (.exit id) fr n t)
    (fun fr n t K => K .ret fr n t) c
noncomputable def run (T : FT) (fuel : Nat) : ACode → List Value → Nat → HT → EK → Bool :=
  Nat.rec (motive := fun _ => ACode → List Value → Nat → HT → EK → Bool) (fun _ _ _ _ _ => false) (fun _ ih => runS T ih) fuel
theorem callE_ok {P : Program} {ng : Nat} {T : FT} (hT : T.ok P ng) {rec : ACode → List Value → Nat → HT → EK → Bool} (hr : ∀ c fr n t K, rec c fr n t K = true → ∀ H, Rp n t H → W P ng c (QP K) fr H) : CallOK P ng (callE T rec) := by
  intro f xs n t K h H r
  rcases FT.find_true hT h with ⟨ef, ⟨af, h1, h2, h3, h4, h5⟩, h6⟩ | ⟨hf, h1, h2⟩
  case inr => exact h1 xs n t K h2 H r
  obtain ⟨h7, h8⟩ := asT_true h6
  have hlen := Nat.eq_of_beq_eq_true h7
  rw [initK_eq] at h8
  have hw := hr _ _ _ _ _ h8 H r
  have hw2 : W P ng af.body (QP fun e fr n t => match e with
    | .normal => resK ef.res fr t fun v => K v n t
    | .ret => resK ef.res fr t fun v => K v n t
    | _ => false) (initFr ef.sl xs) H := by
    rcases h4 with h4 | h4
    · rw [h4]; exact hw
    · rw [← h4] at hw; exact W_simp af.body hw
  refine walk h1 (by rw [hlen]; exact h5) ?_
  rw [h2]
  refine W_mono ?_ hw2
  rintro e fr H' ⟨n', t', r', h'⟩
  cases e with
  | normal => obtain ⟨v, h9, h10⟩ := resK_true r' h'; rw [h3]; exact ⟨v, h9, n', t', r', h10⟩
  | ret => obtain ⟨v, h9, h10⟩ := resK_true r' h'; rw [h3]; exact ⟨v, h9, n', t', r', h10⟩
  | exit id => cases h'
  | goto l => cases h'
  | panic ch => cases h'
  | outgrown => cases h'
theorem runS_sound {P : Program} {ng : Nat} {T : FT} (hT : T.ok P ng) {rec : ACode → List Value → Nat → HT → EK → Bool} (hr : ∀ c fr n t K, rec c fr n t K = true → ∀ H, Rp n t H → W P ng c (QP K) fr H) :
    ∀ c fr n t K, runS T rec c fr n t K = true → ∀ H, Rp n t H → W P ng c (QP K) fr H := by
  have hcall := callE_ok hT hr
  intro c
  induction c with
  | skip => intro fr n t K h H r; exact ⟨n, t, r, h⟩
  | reg ops => intro fr n t K h H r; exact runOps_sound hcall (K := fun fr n t => K .normal fr n t) h r
  | dreg ops => intro fr n t K h H r; exact runD_sound hcall (K := fun fr n t => K .normal fr n t) h .nil r
  | seq a b iha ihb =>
    intro fr n t K h H r
    show W P ng a (AQ.andThen (QP K) (W P ng b (QP K))) fr H
    exact W_mono (QP_seq (fun fr n t h H r => ihb fr n t K h H r)) (iha fr n t _ h H r)
  | cond c a b iha ihb =>
    intro fr n t K h H r
    have e : runS T rec (.cond c a b) fr n t K = evX c fr [] fun v => condK v (runS T rec a fr n t K) (runS T rec b fr n t K) := rfl
    rw [e, evX_eq] at h
    simp only [W]
    unfold condK at h
    split at h
    · rename_i tt ht
      rw [ht]
      cases tt
      · exact ihb fr n t K h H r
      · exact iha fr n t K h H r
    · cases h
  | block id c ih =>
    intro fr n t K h H r
    show W P ng c (AQ.inBlock (QP K) id) fr H
    refine W_mono ?_ (ih fr n t _ h H r)
    rintro e fr' H' ⟨n', t', r', h'⟩
    cases e with
    | exit id' =>
      simp only [blockK] at h'
      simp only [AQ.inBlock]
      cases e : Nat.beq id' id
      · rw [e] at h'
        rw [if_neg (fun hh => by subst hh; rw [Nat.beq_refl] at e; cases e)]
        exact ⟨n', t', r', h'⟩
      · rw [e] at h'
        rw [if_pos (Nat.eq_of_beq_eq_true e)]
        exact ⟨n', t', r', h'⟩
    | normal => exact ⟨n', t', r', h'⟩
    | ret => exact ⟨n', t', r', h'⟩
    | goto l => exact ⟨n', t', r', h'⟩
    | panic ch => exact ⟨n', t', r', h'⟩
    | outgrown => exact ⟨n', t', r', h'⟩
  | loop c ih =>
    intro fr n t K h H r
    exact W_again (W_mono (QP_seq (c := .loop c) (fun fr n t h H r => hr (.loop c) fr n t K h H r)) (ih fr n t _ h H r))
  | exit id => intro fr n t K h H r; exact ⟨n, t, r, h⟩
  | ret => intro fr n t K h H r; exact ⟨n, t, r, h⟩
theorem run_sound {P : Program} {ng : Nat} {T : FT} (hT : T.ok P ng) : ∀ (fuel : Nat) (c : ACode) (fr : List Value) (n : Nat) (t : HT) (K : EK), run T fuel c fr n t K = true → ∀ H, Rp n t H → W P ng c (QP K) fr H
  | 0, c, fr, n, t, K, h => by cases h
  | m + 1, c, fr, n, t, K, h => runS_sound hT (rec := run T m) (run_sound hT m) c fr n t K h
noncomputable def runF (T : FT) (fuel : Nat) (f : FuncId) (xs : List Value) (n : Nat) (t : HT) (K : CK) : Bool := callE T (run T fuel) f xs n t K
theorem runF_sound {P : Program} {ng : Nat} {T : FT} (hT : T.ok P ng) {fuel : Nat} {f : FuncId} {xs : List Value} {n : Nat} {t : HT} {K : CK} (h : runF T fuel f xs n t K = true) {H : AHeap} (r : Rp n t H) : ∃ v H', ARun P ng f xs H v H' ∧ KP K v H' :=
  callE_ok hT (run_sound hT fuel) f xs n t K h H r
theorem closed_calls {P : Program} {T : FT} (hT : T.ok P 0) {fuel : Nat} {f : FuncId} (h : runF T fuel f [] 0 .leaf isTrue = true) (w : World) : Calls P f #[] w fun e w' => e = .returned (.bool true) ∧ Go.RowKit.Below w.heap.size w w' := by
  obtain ⟨v, H', ⟨_, _, h1⟩, h2⟩ := runF_sound hT h Rp.empty
  have hv := isTrue_spec h2
  subst hv
  refine (h1 (fun _ => none) w [] (HR.empty w) .nil).mono ?_
  rintro e w' ⟨v', σ', rfl, k1, k2, k3⟩
  rw [k3.bool_inv]
  exact ⟨rfl, k2.os, k2.tape, k2.output, k2.size, fun k hk => k2.keep k hk (fun b i o hb => by cases hb)⟩
theorem closed_any {P : Program} {T : FT} (hT : T.ok P 0) {fuel : Nat} {f : FuncId} (h : runF T fuel f [] 0 .leaf isTrue = true) (H : AHeap) : ARun P 0 f [] H (.bool true) H := by
  obtain ⟨v, H', ⟨h0, _, h1⟩, h2⟩ := runF_sound hT h Rp.empty
  have hv := isTrue_spec h2
  subst hv
  refine ⟨h0, Nat.le_refl _, fun σ w args' hr ha => ?_⟩
  cases ha
  refine (h1 (fun _ => none) w [] (HR.empty w) .nil).mono ?_
  rintro e w' ⟨v', σ', rfl, k1, k2, k3⟩
  have hk : ∀ k, k < w.heap.size → w'.heap[k]? = w.heap[k]? := fun k hk => k2.keep k hk (fun b i o hb => by cases hb)
  have hsz := k2.size
  refine ⟨v', σ, rfl, ⟨fun b i hb => ?_, hr.inj, fun b i hb => Nat.lt_of_lt_of_le (hr.lt b i hb) hsz, hr.glob⟩, ⟨Sg.le.refl σ, (fun b i h1 h2 => by rw [h1] at h2; cases h2), fun _ _ o' _ a b => ⟨o', a, b⟩, fun _ _ o' _ a b => ⟨o', a, b⟩, fun k a _ => hk k a, hsz, Nat.le_refl _, k2.os, k2.tape, k2.output⟩, ?_⟩
  · obtain ⟨o, a1, a2⟩ := hr.obj b i hb
    exact ⟨o, a1, a2.congr (fun _ => hk _ (hr.lt b i hb))⟩
  · rw [k3.bool_inv]; exact .bool _
theorem HFok.of {P : Program} {ng k : Nat} {h : HF} (hk : ∀ xs n t K, h xs n t K = true → ∀ H, Rp n t H → ∃ v, ARun P ng k xs H v H ∧ K v n t = true) : HFok P ng k h := fun xs n t K h1 H r => by
  obtain ⟨v, h2, h3⟩ := hk xs n t K h1 H r
  exact ⟨v, H, h2, n, t, r, h3⟩
noncomputable def byK (c : List Value) : (List UInt8 → Bool) → Bool :=
  List.rec (motive := fun _ => (List UInt8 → Bool) → Bool) (fun K => K []) (fun x _ ih K => match x with
    | .int .u8 (.ofNat n) => forceB (Nat.ble n 255) fun b => Bool.rec (motive := fun _ => Bool) false (ih fun l => K (UInt8.ofNat n :: l)) b
    | _ => false) c
theorem byK_cons (x : Value) (c : List Value) (K : List UInt8 → Bool) : byK (x :: c) K = match x with
      | .int .u8 (.ofNat n) => forceB (Nat.ble n 255) fun b => Bool.rec (motive := fun _ => Bool) false (byK c fun l => K (UInt8.ofNat n :: l)) b
      | _ => false := rfl
theorem byK_true : ∀ {c : List Value} {K : List UInt8 → Bool}, byK c K = true → ∃ l, c = cellsOf l ∧ K l = true
  | [], K, h => ⟨[], rfl, h⟩
  | x :: c, K, h => by
    rw [byK_cons] at h
    split at h
    · rename_i n
      rw [forceB_eq] at h
      cases e : Nat.ble n 255
      · rw [e] at h; cases h
      · rw [e] at h
        have hn := Nat.le_of_ble_eq_true e
        obtain ⟨l, rfl, h2⟩ := byK_true h
        exact ⟨UInt8.ofNat n :: l, by simp [cellsOf]; omega, h2⟩
    · cases h
noncomputable def dropK (l : List Value) : Nat → (List Value → Bool) → Bool :=
  List.rec (motive := fun _ => Nat → (List Value → Bool) → Bool) (fun _ K => K []) (fun x r ih n K => Nat.rec (motive := fun _ => Bool) (K (x :: r)) (fun m _ => ih m K) n) l
theorem dropK_eq : ∀ (l : List Value) (n : Nat) (K : List Value → Bool), dropK l n K = K (l.drop n)
  | [], n, K => by simp [dropK]
  | x :: l, 0, K => rfl
  | x :: l, n + 1, K => (dropK_eq l n K).trans (by simp)
noncomputable def takeK (l : List Value) : Nat → (List Value → Bool) → Bool :=
  List.rec (motive := fun _ => Nat → (List Value → Bool) → Bool) (fun _ K => K []) (fun x _ ih n K => Nat.rec (motive := fun _ => Bool) (K []) (fun m _ => ih m fun r => K (x :: r)) n) l
theorem takeK_eq : ∀ (l : List Value) (n : Nat) (K : List Value → Bool), takeK l n K = K (l.take n)
  | [], n, K => by simp [takeK]
  | x :: l, 0, K => rfl
  | x :: l, n + 1, K => (takeK_eq l n _).trans (by simp)
noncomputable def bqK (v : Value) (t : HT) (K : List UInt8 → Bool) : Bool := match v with
  | .slice none n k => asT (Nat.beq n 0) (asT (Nat.beq k 0) (K []))
  | .slice (some ⟨b, o, none⟩) n k => t.getK b fun x => match x with
    | .cells own room esz c e => asT (Nat.beq esz 1) (asT (Nat.ble n k) (asT (Nat.ble (Nat.add o n) c.length) (dropK c o fun c => takeK c n fun c => byK c K)))
    | _ => false
  | _ => false
theorem bqK_true {n : Nat} {t : HT} {H : AHeap} (r : Rp n t H) {v : Value} {K : List UInt8 → Bool} (h : bqK v t K = true) : ∃ l, BQ H v l ∧ K l = true := by
  unfold bqK at h
  split at h
  · obtain ⟨h1, h2⟩ := asT_true h
    obtain ⟨h3, h4⟩ := asT_true h2
    have := Nat.eq_of_beq_eq_true h1
    have := Nat.eq_of_beq_eq_true h3
    subst_vars
    exact ⟨[], .inl ⟨rfl, rfl⟩, h4⟩
  · rename_i b o n k
    obtain ⟨ob, h1, h2⟩ := r.getK h
    split at h2
    · rename_i own room esz c e
      obtain ⟨h3, h4⟩ := asT_true h2
      obtain ⟨h5, h6⟩ := asT_true h4
      obtain ⟨h7, h8⟩ := asT_true h6
      rw [dropK_eq, takeK_eq] at h8
      obtain ⟨l, h9, h10⟩ := byK_true h8
      have h3 := Nat.eq_of_beq_eq_true h3
      have h5 := Nat.le_of_ble_eq_true h5
      have h7 : o + n ≤ c.length := Nat.le_of_ble_eq_true h7
      have hl : l.length = n := by
        have := congrArg List.length h9
        rw [cellsOf_length, List.length_take, List.length_drop] at this; omega
      subst hl
      exact ⟨l, .inr (.inr ⟨b, o, k, own, room, esz, c, e, rfl, h5, h1, .inl h3, h9, h7⟩), h10⟩
    · cases h2
  · cases h
end Hk
theorem BQ.unown {H : AHeap} {v : Value} {l : List UInt8} (h : BQ H v l) : BQ H.unown v l := by
  rcases h with h | h | ⟨b, o, k, own, room, esz, c, e, rfl, h1, h2, h3, h4, h5⟩
  · exact .inl h
  · exact .inr (.inl h)
  · exact .inr (.inr ⟨b, o, k, false, room, esz, c, e, rfl, h1, by rw [AHeap.unown_get, h2]; rfl, h3, h4, h5⟩)
theorem elems_unown (H : AHeap) (esz : Nat) (v : Value) : elemsA H.unown esz v = elemsA H esz v := by
  unfold elemsA
  split
  · rfl
  · rename_i b o n k
    rw [AHeap.unown_get]
    cases H.get b with
    | none => rfl
    | some o => cases o <;> rfl
  · rfl
  · rfl
theorem BS.unown {H : AHeap} {v : Value} {l : List UInt8} (h : BS H v l) : BS H.unown v l := ⟨h.sh, by rw [elems_unown]; exact h.el⟩
theorem Sl.unown {H : AHeap} {esz : Nat} {v : Value} {rows : List (List Value)} (h : Sl H esz v rows) : Sl H.unown esz v rows := ⟨h.sh, h.row, by rw [elems_unown]; exact h.el⟩
end Go.AM

set_option linter.unusedSimpArgs false
set_option linter.unusedVariables false
namespace Go.AM.Hk
open Go.Proofs Go.AM.F Go.AM.Fd
noncomputable def eiK (n : Nat) : Nat → (Nat → Bool) → Bool := Nat.rec (motive := fun _ => Nat → (Nat → Bool) → Bool) (fun r K => K r) (fun _ ih r K => forceN (ah r) fun r' => ih r' K) n
theorem eiK_eq : ∀ (n r : Nat) (K : Nat → Bool), eiK n r K = K (ei n r)
  | 0, r, K => rfl
  | n + 1, r, K => by
    show forceN (ah r) (fun r' => eiK n r' K) = _
    rw [forceN_eq, eiK_eq n]; rfl
noncomputable def crcK (l : List UInt8) : Nat → (Nat → Bool) → Bool := List.rec (motive := fun _ => Nat → (Nat → Bool) → Bool) (fun r K => K r) (fun c _ ih r K => forceN (Nat.xor r c.toNat) fun r1 => eiK 8 r1 fun r2 => ih r2 K) l
theorem crcK_eq : ∀ (l : List UInt8) (r : Nat) (K : Nat → Bool), crcK l r K = K (l.foldl crcS r)
  | [], r, K => rfl
  | c :: l, r, K => by
    show forceN (Nat.xor r c.toNat) (fun r1 => eiK 8 r1 fun r2 => crcK l r2 K) = _
    rw [forceN_eq, eiK_eq, crcK_eq l]; rfl
noncomputable def sumH : HF := fun xs n t K => match xs with
  | [v] => bqK v t fun l => asT (Nat.ble l.length 1000000) (crcK l 4294967295 fun r => forceN (Nat.xor 4294967295 r) fun r => K (.int .u32 (.ofNat r)) n t)
  | _ => false
theorem sumH_true {xs : List Value} {n : Nat} {t : HT} {K : CK} (h : sumH xs n t K = true) {H : AHeap} (r : Rp n t H) : ∃ v l, xs = [v] ∧ BQ H v l ∧ l.length ≤ 1000000 ∧ K (.int .u32 (crc l : Nat)) n t = true := by
  unfold sumH at h
  split at h
  · rename_i v
    obtain ⟨l, h1, h2⟩ := bqK_true r h
    obtain ⟨h3, h4⟩ := asT_true h2
    rw [crcK_eq, forceN_eq] at h4
    exact ⟨v, l, rfl, h1, Nat.le_of_ble_eq_true h3, h4⟩
  · cases h
theorem sum97 : HFok Go.Proofs.Try.prog 0 97 sumH := HFok.of fun xs n t K h H r => by
  obtain ⟨v, l, rfl, h1, h2, h3⟩ := sumH_true h r
  obtain ⟨w, H', a, rfl, rfl⟩ := t97 h1.bs (by omega)
  exact ⟨_, a, h3⟩
noncomputable def uK (k : IntKind) (v : Value) (K : Nat → Bool) : Bool := match v with
  | .int k' (.ofNat n) => asT (Nat.beq (kNum k') (kNum k)) (asT (Nat.ble (Nat.succ n) (kMax k)) (K n))
  | _ => false
theorem uK_true {k : IntKind} {v : Value} {K : Nat → Bool} (h : uK k v K = true) : ∃ n : Nat, v = .int k n ∧ n < kMax k ∧ K n = true := by
  unfold uK at h
  split at h
  · rename_i k' n
    obtain ⟨h1, h2⟩ := asT_true h
    obtain ⟨h3, h4⟩ := asT_true h2
    have := kNum_inj h1
    subst this
    exact ⟨n, rfl, Nat.le_of_ble_eq_true h3, h4⟩
  · cases h
noncomputable def iK (v : Value) (K : Int → Bool) : Bool := match v with
  | .int .i64 n => K n
  | _ => false
noncomputable def trueH : HF := fun xs n t K => match xs with
  | [] => K (.bool true) n t
  | _ => false
end Go.AM.Hk

set_option maxRecDepth 100000
namespace Go.AM.TFw
open Go.Proofs
def EFok (P : Program) (ng k : Nat) (f : EF) : Prop := ((compF P ng f.sl k).map fun af => (af.sl, af.res, simpC af.body)) = some (f.sl, f.res, f.body)
theorem ok_of {P : Program} {ng k : Nat} {f : EF} (h : EFok P ng k f) (ha : argsOK P k f.na = true) : f.ok P ng k := by
  unfold EFok at h
  simp only [Option.map_eq_some_iff, Prod.mk.injEq] at h
  obtain ⟨af, h1, h2, h3, h4⟩ := h
  exact ⟨af, h1, h2, h3, h4, ha⟩
def e24 : EF := Hk.EFof 1 F.f24
theorem e24_ok : Hk.EFok Go.Proofs.Try.prog 0 24 e24 := Hk.ok_af F.f24_ok rfl F.f24_n
def e31 : EF := Hk.EFof 0 F.f31
theorem e31_ok : Hk.EFok Go.Proofs.Try.prog 0 31 e31 := Hk.ok_af F.f31_ok rfl F.f31_n
def e32 : EF := Hk.EFof 3 F.f32
theorem e32_ok : Hk.EFok Go.Proofs.Try.prog 0 32 e32 := Hk.ok_af F.f32_ok rfl F.f32_n
def e34 : EF := Hk.EFof 2 F.f34
theorem e34_ok : Hk.EFok Go.Proofs.Try.prog 0 34 e34 := Hk.ok_af F.f34_ok rfl F.f34_n
def e36 : EF := Hk.EFof 1 F.f36
theorem e36_ok : Hk.EFok Go.Proofs.Try.prog 0 36 e36 := Hk.ok_af F.f36_ok rfl F.f36_n
def e37 : EF := Hk.EFof 2 F.f37
theorem e37_ok : Hk.EFok Go.Proofs.Try.prog 0 37 e37 := Hk.ok_af F.f37_ok rfl F.f37_n
def e39 : EF := Hk.EFof 1 F.f39
theorem e39_ok : Hk.EFok Go.Proofs.Try.prog 0 39 e39 := Hk.ok_af F.f39_ok rfl F.f39_n
def e40 : EF := Hk.EFof 1 F.f40
theorem e40_ok : Hk.EFok Go.Proofs.Try.prog 0 40 e40 := Hk.ok_af F.f40_ok rfl F.f40_n
def e41 : EF := Hk.EFof 1 F.f41
theorem e41_ok : Hk.EFok Go.Proofs.Try.prog 0 41 e41 := Hk.ok_af F.f41_ok rfl F.f41_n
def e62 : EF := Hk.EFof 2 F.f62
theorem e62_ok : Hk.EFok Go.Proofs.Try.prog 0 62 e62 := Hk.ok_af F.f62_ok rfl F.f62_n
def e63 : EF := Hk.EFof 1 F.f63
theorem e63_ok : Hk.EFok Go.Proofs.Try.prog 0 63 e63 := Hk.ok_af F.f63_ok rfl F.f63_n
def e64 : EF := Hk.EFof 1 F.f64
theorem e64_ok : Hk.EFok Go.Proofs.Try.prog 0 64 e64 := Hk.ok_af F.f64_ok rfl F.f64_n
def e65 : EF := Hk.EFof 1 F.f65
theorem e65_ok : Hk.EFok Go.Proofs.Try.prog 0 65 e65 := Hk.ok_af F.f65_ok rfl F.f65_n
def e73 : EF := Hk.EFof 1 F.f73
theorem e73_ok : Hk.EFok Go.Proofs.Try.prog 0 73 e73 := Hk.ok_af F.f73_ok rfl F.f73_n
def e74 : EF := Hk.EFof 2 F.f74
theorem e74_ok : Hk.EFok Go.Proofs.Try.prog 0 74 e74 := Hk.ok_af F.f74_ok rfl F.f74_n
def e75 : EF := Hk.EFof 1 F.f75
theorem e75_ok : Hk.EFok Go.Proofs.Try.prog 0 75 e75 := Hk.ok_af F.f75_ok rfl F.f75_n
def e76 : EF := Hk.EFof 3 F.f76
theorem e76_ok : Hk.EFok Go.Proofs.Try.prog 0 76 e76 := Hk.ok_af F.f76_ok rfl F.f76_n
def e77 : EF := Hk.EFof 3 F.f77
theorem e77_ok : Hk.EFok Go.Proofs.Try.prog 0 77 e77 := Hk.ok_af F.f77_ok rfl F.f77_n
def e78 : EF := Hk.EFof 2 F.f78
theorem e78_ok : Hk.EFok Go.Proofs.Try.prog 0 78 e78 := Hk.ok_af F.f78_ok rfl F.f78_n
def e79 : EF := Hk.EFof 2 F.f79
theorem e79_ok : Hk.EFok Go.Proofs.Try.prog 0 79 e79 := Hk.ok_af F.f79_ok rfl F.f79_n
def e80 : EF := Hk.EFof 2 F.f80
theorem e80_ok : Hk.EFok Go.Proofs.Try.prog 0 80 e80 := Hk.ok_af F.f80_ok rfl F.f80_n
def e81 : EF := Hk.EFof 2 F.f81
theorem e81_ok : Hk.EFok Go.Proofs.Try.prog 0 81 e81 := Hk.ok_af F.f81_ok rfl F.f81_n
def e82 : EF := Hk.EFof 2 F.f82
theorem e82_ok : Hk.EFok Go.Proofs.Try.prog 0 82 e82 := Hk.ok_af F.f82_ok rfl F.f82_n
def e84 : EF := Hk.EFof 2 F.f84
theorem e84_ok : Hk.EFok Go.Proofs.Try.prog 0 84 e84 := Hk.ok_af F.f84_ok rfl F.f84_n
def e85 : EF := Hk.EFof 2 F.f85
theorem e85_ok : Hk.EFok Go.Proofs.Try.prog 0 85 e85 := Hk.ok_af F.f85_ok rfl F.f85_n
def e96 : EF := Hk.EFof 1 F.f96
theorem e96_ok : Hk.EFok Go.Proofs.Try.prog 0 96 e96 := Hk.ok_af F.f96_ok rfl F.f96_n
def e98 : EF := Hk.EFof 2 F.f98
theorem e98_ok : Hk.EFok Go.Proofs.Try.prog 0 98 e98 := Hk.ok_af F.f98_ok rfl F.f98_n
def e99 : EF := Hk.EFof 1 F.f99
theorem e99_ok : Hk.EFok Go.Proofs.Try.prog 0 99 e99 := Hk.ok_af F.f99_ok rfl F.f99_n
def e100 : EF := Hk.EFof 1 F.f100
theorem e100_ok : Hk.EFok Go.Proofs.Try.prog 0 100 e100 := Hk.ok_af F.f100_ok rfl F.f100_n
def e101 : EF := Hk.EFof 1 F.f101
theorem e101_ok : Hk.EFok Go.Proofs.Try.prog 0 101 e101 := Hk.ok_af F.f101_ok rfl F.f101_n
def e103 : EF := Hk.EFof 2 F.f103
theorem e103_ok : Hk.EFok Go.Proofs.Try.prog 0 103 e103 := Hk.ok_af F.f103_ok rfl F.f103_n
def e104 : EF := Hk.EFof 1 F.f104
theorem e104_ok : Hk.EFok Go.Proofs.Try.prog 0 104 e104 := Hk.ok_af F.f104_ok rfl F.f104_n
def e105 : EF := Hk.EFof 2 F.f105
theorem e105_ok : Hk.EFok Go.Proofs.Try.prog 0 105 e105 := Hk.ok_af F.f105_ok rfl F.f105_n
def e110 : EF := Hk.EFof 2 F.f110
theorem e110_ok : Hk.EFok Go.Proofs.Try.prog 0 110 e110 := Hk.ok_af F.f110_ok rfl F.f110_n
def e111 : EF := Hk.EFof 1 F.f111
theorem e111_ok : Hk.EFok Go.Proofs.Try.prog 0 111 e111 := Hk.ok_af F.f111_ok rfl F.f111_n
def e112 : EF := Hk.EFof 2 F.f112
theorem e112_ok : Hk.EFok Go.Proofs.Try.prog 0 112 e112 := Hk.ok_af F.f112_ok rfl F.f112_n
def e113 : EF := Hk.EFof 1 F.f113
theorem e113_ok : Hk.EFok Go.Proofs.Try.prog 0 113 e113 := Hk.ok_af F.f113_ok rfl F.f113_n
def e114 : EF := Hk.EFof 1 F.f114
theorem e114_ok : Hk.EFok Go.Proofs.Try.prog 0 114 e114 := Hk.ok_af F.f114_ok rfl F.f114_n
def e116 : EF := Hk.EFof 2 F.f116
theorem e116_ok : Hk.EFok Go.Proofs.Try.prog 0 116 e116 := Hk.ok_af F.f116_ok rfl F.f116_n
def e117 : EF := Hk.EFof 1 F.f117
theorem e117_ok : Hk.EFok Go.Proofs.Try.prog 0 117 e117 := Hk.ok_af F.f117_ok rfl F.f117_n
def e118 : EF := Hk.EFof 2 F.f118
theorem e118_ok : Hk.EFok Go.Proofs.Try.prog 0 118 e118 := Hk.ok_af F.f118_ok rfl F.f118_n
def e119 : EF := Hk.EFof 2 F.f119
theorem e119_ok : Hk.EFok Go.Proofs.Try.prog 0 119 e119 := Hk.ok_af F.f119_ok rfl F.f119_n
noncomputable def tab : Hk.FT := (.node 81 e81 (.node 63 e63 (.node 37 e37 (.node 32 e32 (.node 31 e31 (.node 24 e24 .leaf .leaf) .leaf) (.node 36 e36 (.node 34 e34 .leaf .leaf) .leaf)) (.node 41 e41 (.node 40 e40 (.node 39 e39 .leaf .leaf) .leaf) (.node 62 e62 .leaf .leaf))) (.node 76 e76 (.node 73 e73 (.node 65 e65 (.node 64 e64 .leaf .leaf) .leaf) (.node 75 e75 (.node 74 e74 .leaf .leaf) .leaf)) (.node 79 e79 (.node 78 e78 (.node 77 e77 .leaf .leaf) .leaf) (.node 80 e80 .leaf .leaf)))) (.node 104 e104 (.node 98 e98 (.node 85 e85 (.node 84 e84 (.node 82 e82 .leaf .leaf) .leaf) (.hook 97 Hk.sumH (.node 96 e96 .leaf .leaf) .leaf)) (.node 101 e101 (.node 100 e100 (.node 99 e99 .leaf .leaf) .leaf) (.node 103 e103 .leaf .leaf))) (.node 114 e114 (.node 111 e111 (.node 110 e110 (.node 105 e105 .leaf .leaf) .leaf) (.node 113 e113 (.node 112 e112 .leaf .leaf) .leaf)) (.node 118 e118 (.node 117 e117 (.node 116 e116 .leaf .leaf) .leaf) (.node 119 e119 .leaf .leaf)))))
theorem tab_ok : tab.ok Go.Proofs.Try.prog 0 := ⟨e81_ok, ⟨e63_ok, ⟨e37_ok, ⟨e32_ok, ⟨e31_ok, ⟨e24_ok, trivial, trivial⟩, trivial⟩, ⟨e36_ok, ⟨e34_ok, trivial, trivial⟩, trivial⟩⟩, ⟨e41_ok, ⟨e40_ok, ⟨e39_ok, trivial, trivial⟩, trivial⟩, ⟨e62_ok, trivial, trivial⟩⟩⟩, ⟨e76_ok, ⟨e73_ok, ⟨e65_ok, ⟨e64_ok, trivial, trivial⟩, trivial⟩, ⟨e75_ok, ⟨e74_ok, trivial, trivial⟩, trivial⟩⟩, ⟨e79_ok, ⟨e78_ok, ⟨e77_ok, trivial, trivial⟩, trivial⟩, ⟨e80_ok, trivial, trivial⟩⟩⟩⟩, ⟨e104_ok, ⟨e98_ok, ⟨e85_ok, ⟨e84_ok, ⟨e82_ok, trivial, trivial⟩, trivial⟩, ⟨Hk.sum97, ⟨e96_ok, trivial, trivial⟩, trivial⟩⟩, ⟨e101_ok, ⟨e100_ok, ⟨e99_ok, trivial, trivial⟩, trivial⟩, ⟨e103_ok, trivial, trivial⟩⟩⟩, ⟨e114_ok, ⟨e111_ok, ⟨e110_ok, ⟨e105_ok, trivial, trivial⟩, trivial⟩, ⟨e113_ok, ⟨e112_ok, trivial, trivial⟩, trivial⟩⟩, ⟨e118_ok, ⟨e117_ok, ⟨e116_ok, trivial, trivial⟩, trivial⟩, ⟨e119_ok, trivial, trivial⟩⟩⟩⟩⟩
end Go.AM.TFw

set_option linter.unusedSimpArgs false
set_option linter.unusedVariables false
namespace Go.AM.TFw
open Nat (reduceAdd reduceEqDiff reduceLT reduceLeDiff reduceMul reduceSub)
theorem works_ev : Hk.runF tab 100000 31 [] 0 .leaf isTrue = true := by kernel_rfl
end Go.AM.TFw
namespace Go.AM.Fd
open Nat (reduceAdd reduceEqDiff reduceLT reduceLeDiff reduceMul reduceSub)
open Go.Proofs Go.AM.F
theorem t31 (H : AHeap) : ∃ w H', ARun Go.Proofs.Try.prog 0 31 [] H w H' ∧ w = .bool true ∧ H' = H := ⟨_, _, Hk.closed_any TFw.tab_ok TFw.works_ev H, rfl, rfl⟩
structure Cl where
  n : Nat
  B : List UInt8
  vB : Value
  F : Li
  vF : Value
  I : Int
def cC (c : Cl) : List Value := [.int .u8 (c.n : Nat), c.vB, .int .u8 (c.F.f : Nat), .int .u8 (c.F.t : Nat), .int .i64 c.F.q, .int .i64 c.F.k, c.vF, .int .i64 c.I]
structure okC (H : AHeap) (c : Cl) : Prop where
  hn : c.n < 256
  hB : BQ H c.vB c.B
  hF : BQ H c.vF c.F.B
  hr : rgLi c.F
  hI : -9223372036854775808 ≤ c.I ∧ c.I ≤ 9223372036854775807
theorem okC.keeps {H H' : AHeap} {c : Cl} (h : okC H c) (k : Keeps H H') : okC H' c := ⟨h.hn, h.hB.keeps k, h.hF.keeps k, h.hr, h.hI⟩
def few18 (cs : List Cl) : Prop := cs.length ≤ 200 ∧ ∀ c ∈ cs, c.B.length ≤ 6000 ∧ c.F.B.length ≤ 6000
theorem cCg (c : Cl) : (cC c)[0]? = some (.int .u8 (c.n : Nat)) ∧ (cC c)[1]? = some c.vB ∧ (cC c)[6]? = some c.vF ∧ (cC c)[7]? = some (.int .i64 c.I) := ⟨rfl, rfl, rfl, rfl⟩
theorem t30 {H : AHeap} {v : Value} {cs : List Cl} (hs : Sl H 8 v (cs.map cC)) (hc : ∀ c ∈ cs, okC H c) : ∃ w H', ARun Go.Proofs.Try.prog 0 30 [v] H w H' ∧ ∃ b, w = .bool b ∧ H' = H ∧ (b = false → few18 cs) := by
  refine walk2 f30_ok f30_n ?_
  intro Q hq1 hq2
  have his := hs.is
  have hlen := hs.len
  rw [List.length_map] at hlen
  by_cases h0 : 200 < cs.length
  · simp (disch := first | assumption | omega | (simp only [LN] <;> omega) | (simp (disch := first | assumption | omega | (simp only [LN] <;> omega)) only [row_alloc, row_set]; assumption)) only [f30, W_block, P3, ↓reduceIte, reduceAdd, reduceEqDiff, reduceCtorEq, initFr, reduceLT, clsA, reduceLeDiff, reduceMul, reduceSub, reduceIte, hlen]
    exact hq2 _ _ ⟨_, rfl, true, rfl, rfl, by simp⟩
  simp (disch := first | assumption | omega | (simp only [LN] <;> omega) | (simp (disch := first | assumption | omega | (simp only [LN] <;> omega)) only [row_alloc, row_set]; assumption)) only [f30, W_block, P3, ↓reduceIte, reduceAdd, reduceEqDiff, reduceCtorEq, initFr, reduceLT, clsA, reduceLeDiff, reduceMul, reduceSub, reduceIte, hlen]
  refine W_loop2 (fun q fr K => ∃ (i n : Nat) (a b : Value), i ≤ cs.length ∧ q = cs.length - i ∧ n ≤ 12000 ∧ (∀ j (h : j < i) (h2 : j < cs.length), cs[j].B.length ≤ 6000 ∧ cs[j].F.B.length ≤ 6000) ∧ K = H ∧ fr = [v, .bool false, .int .i64 (n : Nat), .int .i64 (i : Nat), .bool false, a, b]) cs.length ⟨0, 0, _, _, by omega, rfl, by omega, by intro j h; omega, rfl, rfl⟩ ?_
  rintro Q' q fr K ⟨i, n, a, b, hi, rfl, hn, hall, rfl, rfl⟩ hnx hex hrt
  by_cases hci : i < cs.length
  case neg =>
    simp (disch := first | assumption | omega | (simp only [LN] <;> omega) | (simp (disch := first | assumption | omega | (simp only [LN] <;> omega)) only [row_alloc, row_set]; assumption)) only [W_block, P3, ↓reduceIte, reduceAdd, reduceEqDiff, reduceCtorEq, initFr, reduceLT, clsA, reduceLeDiff, reduceMul, reduceSub, reduceIte]
    refine hex _ _ _ ?_
    by_cases h1 : 6000 < n
    · simp (disch := first | assumption | omega | (simp only [LN] <;> omega) | (simp (disch := first | assumption | omega | (simp only [LN] <;> omega)) only [row_alloc, row_set]; assumption)) only [W_block, P3, ↓reduceIte, reduceAdd, reduceEqDiff, reduceCtorEq, initFr, reduceLT, clsA, reduceLeDiff, reduceMul, reduceSub, reduceIte]
      exact hq2 _ _ ⟨_, rfl, true, rfl, rfl, by simp⟩
    · simp (disch := first | assumption | omega | (simp only [LN] <;> omega) | (simp (disch := first | assumption | omega | (simp only [LN] <;> omega)) only [row_alloc, row_set]; assumption)) only [W_block, P3, ↓reduceIte, reduceAdd, reduceEqDiff, reduceCtorEq, initFr, reduceLT, clsA, reduceLeDiff, reduceMul, reduceSub, reduceIte]
      exact hq2 _ _ ⟨_, rfl, false, rfl, rfl, fun _ => ⟨by omega, fun c hcm => by
        obtain ⟨j, hj, rfl⟩ := List.mem_iff_getElem.1 hcm
        exact hall j (by omega) hj⟩⟩
  obtain ⟨hnn, hrow⟩ := hs.at_ (by omega) (i := i) (by simpa using hci)
  rw [List.getElem_map] at hrow
  have hok := hc _ (List.getElem_mem hci)
  obtain ⟨c, hce⟩ : ∃ c, c = cs[i] := ⟨_, rfl⟩
  rw [← hce] at hrow hok
  have e1 := hok.hB.bs.sl.len
  have e2 := hok.hB.bs.sl.is
  have e3 := hok.hF.bs.sl.len
  have e4 := hok.hF.bs.sl.is
  rw [List.length_map] at e1 e3
  have hw : IntKind.i64.wrap (6000 - (n : Int)) = 6000 - (n : Int) := wrap_i64 (by omega) (by omega)
  by_cases h1 : (6000 - (n : Int)) < (c.B.length : Int)
  · simp (disch := first | assumption | omega | (simp only [LN] <;> omega) | (simp (disch := first | assumption | omega | (simp only [LN] <;> omega)) only [row_alloc, row_set]; assumption)) only [W_block, P3, ↓reduceIte, reduceAdd, reduceEqDiff, reduceCtorEq, initFr, reduceLT, clsA, reduceLeDiff, reduceMul, reduceSub, reduceIte, hlen, hrow, cCg c, e1, hw]
    refine hrt _ _ ?_
    exact hq2 _ _ ⟨_, rfl, true, rfl, rfl, by simp⟩
  by_cases h2 : (6000 - (n : Int)) < (c.F.B.length : Int)
  · simp (disch := first | assumption | omega | (simp only [LN] <;> omega) | (simp (disch := first | assumption | omega | (simp only [LN] <;> omega)) only [row_alloc, row_set]; assumption)) only [W_block, P3, ↓reduceIte, reduceAdd, reduceEqDiff, reduceCtorEq, initFr, reduceLT, clsA, reduceLeDiff, reduceMul, reduceSub, reduceIte, hlen, hrow, cCg c, e1, e3, hw]
    refine hrt _ _ ?_
    exact hq2 _ _ ⟨_, rfl, true, rfl, rfl, by simp⟩
  have w1 : IntKind.i64.wrap ((n : Int) + (c.B.length : Int)) = ((n + c.B.length : Nat) : Int) := by rw [wrap_i64 (by omega) (by omega)]; push_cast; rfl
  have w2 : IntKind.i64.wrap (((n + c.B.length : Nat) : Int) + (c.F.B.length : Int)) = ((n + c.B.length + c.F.B.length : Nat) : Int) := by rw [wrap_i64 (by omega) (by omega)]; push_cast; rfl
  simp (disch := first | assumption | omega | (simp only [LN] <;> omega) | (simp (disch := first | assumption | omega | (simp only [LN] <;> omega)) only [row_alloc, row_set]; assumption)) only [W_block, P3, ↓reduceIte, reduceAdd, reduceEqDiff, reduceCtorEq, initFr, reduceLT, clsA, reduceLeDiff, reduceMul, reduceSub, reduceIte, hlen, hrow, cCg c, e1, e3, hw, w1, w2, wrap_succ (n := i) (by omega)]
  refine hnx _ _ _ ⟨i + 1, n + c.B.length + c.F.B.length, _, _, by omega, rfl, by omega, ?_, rfl, rfl⟩ (by omega)
  intro j hj hj2
  by_cases hji : j < i
  · exact hall j hji hj2
  · have : j = i := by omega
    subst this
    rw [← hce]
    omega
end Go.AM.Fd

set_option linter.unusedSimpArgs false
set_option linter.unusedVariables false
namespace Go.AM.Fd
open Nat (reduceAdd reduceEqDiff reduceLT reduceLeDiff reduceMul reduceSub)
open Go.Proofs Go.AM.F
def M4 (f t : Nat) (n : Int) (v : Value) (bE bM i : Nat) (H : AHeap) (fr : List Value) (K : AHeap) : Prop :=
  ∃ (x : En) (y9 y10 y11 y12 y13 y14 y15 y16 y17 y18 y19 y20 y21 y22 y23 y24 y25 y26 y27 y28 y29 y30 y31 y32 : Value), WfE x ∧ K.get bE = some (.cells true false 7 (cE x) 145) ∧ K.get bM = some (.cells true false 6 (cR x) 93) ∧ Keeps H K ∧
    fr = [.int .u8 (f : Nat), .int .u8 (t : Nat), .int .i64 n, v, .bool false, ptr bE 0, .int .i64 0, ptr bM 0, .int .i64 (i : Nat), y9, y10, y11, y12, y13, y14, y15, y16, y17, y18, y19, y20, y21, y22, y23, y24, y25, y26, y27, y28, y29, y30, y31, y32]
theorem modu8 {n : Nat} (h : n < 256) : binA .rem (.int .u8 (n : Int)) (.int .u8 8) = some (.int .u8 ((n % 8 : Nat) : Int)) := b_rem8 n
set_option maxHeartbeats 4000000 in
theorem t4 {H : AHeap} (f t : Nat) (n : Int) {v : Value} {cs : List Cl} (hf : f < 256) (ht : t < 256) (hn : -9223372036854775808 ≤ n ∧ n ≤ 9223372036854775807) (hs : Sl H 8 v (cs.map cC)) (hc : ∀ c ∈ cs, okC H c) :
    ∃ w H', ARun Go.Proofs.Try.prog 0 4 [.int .u8 (f : Nat), .int .u8 (t : Nat), .int .i64 n, v] H w H' ∧ w = .bool true ∧ H' = H := by
  obtain ⟨w, H', a, rfl, k⟩ : ∃ w H', ARun Go.Proofs.Try.prog 0 4 [.int .u8 (f : Nat), .int .u8 (t : Nat), .int .i64 n, v] H w H' ∧ w = .bool true ∧ Keeps H H' := by
    refine walk2 f4_ok f4_n ?_
    intro Q hq1 hq2
    simp (disch := first | assumption | omega | (simp only [LN] <;> omega) | (simp (disch := first | assumption | omega | (simp only [LN] <;> omega)) only [row_alloc, row_set]; assumption)) only [f4, W_block, P3, ↓reduceIte, reduceAdd, reduceEqDiff, reduceCtorEq, initFr, reduceLT, clsA, reduceLeDiff, reduceMul, reduceSub, reduceIte]
    refine callK (t30 hs hc) ?_
    rintro _ X ⟨bl, rfl, hXX, hfew⟩
    obtain rfl := hXX.symm
    clear hXX
    cases bl with
    | true =>
      simp (disch := first | assumption | omega | (simp only [LN] <;> omega) | (simp (disch := first | assumption | omega | (simp only [LN] <;> omega)) only [row_alloc, row_set]; assumption)) only [W_block, P3, ↓reduceIte, reduceAdd, reduceEqDiff, reduceCtorEq, initFr, reduceLT, clsA, reduceLeDiff, reduceMul, reduceSub, reduceIte]
      refine callP (t31 _) ?_
      simp (disch := first | assumption | omega | (simp only [LN] <;> omega) | (simp (disch := first | assumption | omega | (simp only [LN] <;> omega)) only [row_alloc, row_set]; assumption)) only [W_block, P3, ↓reduceIte, reduceAdd, reduceEqDiff, reduceCtorEq, initFr, reduceLT, clsA, reduceLeDiff, reduceMul, reduceSub, reduceIte]
      exact hq2 _ _ ⟨_, rfl, rfl, Keeps.refl _⟩
    | false =>
    obtain ⟨hc1, hc2⟩ := hfew rfl
    simp (disch := first | assumption | omega | (simp only [LN] <;> omega) | (simp (disch := first | assumption | omega | (simp only [LN] <;> omega)) only [row_alloc, row_set]; assumption)) only [W_block, P3, ↓reduceIte, reduceAdd, reduceEqDiff, reduceCtorEq, initFr, reduceLT, clsA, reduceLeDiff, reduceMul, reduceSub, reduceIte]
    refine callK (t32 f t n _ hn) ?_
    rintro _ _ ⟨rfl, rfl⟩
    by_cases hne : f = t ∨ n < 1 ∨ 2305843009213693952 < n
    · simp only [if_pos hne]
      simp (disch := first | assumption | omega | (simp only [LN] <;> omega) | (simp (disch := first | assumption | omega | (simp only [LN] <;> omega)) only [row_alloc, row_set]; assumption)) only [W_block, P3, ↓reduceIte, reduceAdd, reduceEqDiff, reduceCtorEq, initFr, reduceLT, clsA, reduceLeDiff, reduceMul, reduceSub, reduceIte]
      refine callK (t33 f t n _ hn) ?_
      rintro _ _ ⟨rfl, rfl⟩
      simp only [if_pos hne]
      simp (disch := first | assumption | omega | (simp only [LN] <;> omega) | (simp (disch := first | assumption | omega | (simp only [LN] <;> omega)) only [row_alloc, row_set]; assumption)) only [W_block, P3, ↓reduceIte, reduceAdd, reduceEqDiff, reduceCtorEq, initFr, reduceLT, clsA, reduceLeDiff, reduceMul, reduceSub, reduceIte]
      refine callP (t31 _) ?_
      simp (disch := first | assumption | omega | (simp only [LN] <;> omega) | (simp (disch := first | assumption | omega | (simp only [LN] <;> omega)) only [row_alloc, row_set]; assumption)) only [W_block, P3, ↓reduceIte, reduceAdd, reduceEqDiff, reduceCtorEq, initFr, reduceLT, clsA, reduceLeDiff, reduceMul, reduceSub, reduceIte]
      exact hq2 _ _ ⟨_, rfl, rfl, Keeps.refl _⟩
    simp only [if_neg hne]
    simp (disch := first | assumption | omega | (simp only [LN] <;> omega) | (simp (disch := first | assumption | omega | (simp only [LN] <;> omega)) only [row_alloc, row_set]; assumption)) only [W_block, P3, ↓reduceIte, reduceAdd, reduceEqDiff, reduceCtorEq, initFr, reduceLT, clsA, reduceLeDiff, reduceMul, reduceSub, reduceIte]
    refine callK (t33 f t n _ hn) ?_
    rintro _ _ ⟨rfl, rfl⟩
    simp only [if_neg hne]
    have his := hs.is
    have hlen := hs.len
    rw [List.length_map] at hlen
    obtain ⟨bE, hbE⟩ : ∃ y, y = H.n := ⟨_, rfl⟩
    obtain ⟨bM, hbM⟩ : ∃ y, y = H.n + 1 := ⟨_, rfl⟩
    have hEM : bE ≠ bM := by omega
    have hw0 : WfE ⟨f, t, n - 1, 0, 0, 0⟩ := ⟨hf, ht, by simp only; omega, by simp only; omega, by simp only; omega, by simp only; omega⟩
    have gE0 : ((H.alloc (.cells true false 7 (cE ⟨f, t, n - 1, 0, 0, 0⟩) 145)).alloc (.cells true false 6 (cR ⟨f, t, n - 1, 0, 0, 0⟩) 93)).get bE = some (.cells true false 7 (cE ⟨f, t, n - 1, 0, 0, 0⟩) 145) := by subst hbE; simp (disch := first | assumption | omega | (simp only [LN] <;> omega) | (simp (disch := first | assumption | omega | (simp only [LN] <;> omega)) only [row_alloc, row_set]; assumption)) only [W_block, P3, ↓reduceIte, reduceAdd, reduceEqDiff, reduceCtorEq, initFr, reduceLT, clsA, reduceLeDiff, reduceMul, reduceSub, reduceIte]
    have gM0 : ((H.alloc (.cells true false 7 (cE ⟨f, t, n - 1, 0, 0, 0⟩) 145)).alloc (.cells true false 6 (cR ⟨f, t, n - 1, 0, 0, 0⟩) 93)).get bM = some (.cells true false 6 (cR ⟨f, t, n - 1, 0, 0, 0⟩) 93) := by subst hbM; simp (disch := first | assumption | omega | (simp only [LN] <;> omega) | (simp (disch := first | assumption | omega | (simp only [LN] <;> omega)) only [row_alloc, row_set]; assumption)) only [W_block, P3, ↓reduceIte, reduceAdd, reduceEqDiff, reduceCtorEq, initFr, reduceLT, clsA, reduceLeDiff, reduceMul, reduceSub, reduceIte]
    simp (disch := first | assumption | omega | (simp only [LN] <;> omega) | (simp (disch := first | assumption | omega | (simp only [LN] <;> omega)) only [row_alloc, row_set]; assumption)) only [W_block, P3, ↓reduceIte, reduceAdd, reduceEqDiff, reduceCtorEq, initFr, reduceLT, clsA, reduceLeDiff, reduceMul, reduceSub, reduceIte]
    rw [← hbM, ← hbE]
    refine W_loop2 (fun q fr K => ∃ i, i ≤ cs.length ∧ q = cs.length - i ∧ M4 f t n v bE bM i H fr K) cs.length ⟨0, by omega, rfl, _, _, _, _, _, _, _, _, _, _, _, _, _, _, _, _, _, _, _, _, _, _, _, _, _, hw0, gE0, gM0, ((Keeps.refl H).alloc _).alloc _, rfl⟩ ?_
    clear gE0 gM0 hw0
    rintro Q' q fr K ⟨i, hi, rfl, x, y9, y10, y11, y12, y13, y14, y15, y16, y17, y18, y19, y20, y21, y22, y23, y24, y25, y26, y27, y28, y29, y30, y31, y32, hw, gE, gM, kK, rfl⟩ hnx hex hrt
    by_cases hci : i < cs.length
    case neg =>
      simp (disch := first | assumption | omega | (simp only [LN] <;> omega) | (simp (disch := first | assumption | omega | (simp only [LN] <;> omega)) only [row_alloc, row_set]; assumption)) only [W_block, P3, ↓reduceIte, reduceAdd, reduceEqDiff, reduceCtorEq, initFr, reduceLT, clsA, reduceLeDiff, reduceMul, reduceSub, reduceIte]
      refine hex _ _ _ ?_
      simp (disch := first | assumption | omega | (simp only [LN] <;> omega) | (simp (disch := first | assumption | omega | (simp only [LN] <;> omega)) only [row_alloc, row_set]; assumption)) only [W_block, P3, ↓reduceIte, reduceAdd, reduceEqDiff, reduceCtorEq, initFr, reduceLT, clsA, reduceLeDiff, reduceMul, reduceSub, reduceIte]
      refine callP (t31 _) ?_
      simp (disch := first | assumption | omega | (simp only [LN] <;> omega) | (simp (disch := first | assumption | omega | (simp only [LN] <;> omega)) only [row_alloc, row_set]; assumption)) only [W_block, P3, ↓reduceIte, reduceAdd, reduceEqDiff, reduceCtorEq, initFr, reduceLT, clsA, reduceLeDiff, reduceMul, reduceSub, reduceIte]
      exact hq2 _ _ ⟨_, rfl, rfl, kK⟩
    obtain ⟨hnn, hrow⟩ := (hs.keeps kK).at_ (by omega) (i := i) (by simpa using hci)
    rw [List.getElem_map] at hrow
    have hokH := hc _ (List.getElem_mem hci)
    have hok := hokH.keeps kK
    have hcl := hc2 _ (List.getElem_mem hci)
    obtain ⟨c, hce⟩ : ∃ c, c = cs[i] := ⟨_, rfl⟩
    rw [← hce] at hrow hok hcl hokH
    have tB : ∀ y ∈ tb c.vB, y < H.n := hokH.hB.tbl
    have tF : ∀ y ∈ tb c.vF, y < H.n := hokH.hF.tbl
    simp (disch := first | assumption | omega | (simp only [LN] <;> omega) | (simp (disch := first | assumption | omega | (simp only [LN] <;> omega)) only [row_alloc, row_set]; assumption)) only [ P3, ↓reduceIte, reduceAdd, reduceEqDiff, reduceCtorEq, initFr, reduceLT, clsA, reduceLeDiff, reduceMul, reduceSub, reduceIte]
    rw [W_block]
    refine W_part 3 (M4 f t n v bE bM i H) rfl ?_ ?_
    rotate_left
    · rintro fr K2 ⟨x2, z9, z10, z11, z12, z13, z14, z15, z16, z17, z18, z19, z20, z21, z22, z23, z24, z25, z26, z27, z28, z29, z30, z31, z32, hw2, gE2, gM2, kK2, rfl⟩
      simp (disch := first | assumption | omega | (simp only [LN] <;> omega) | (simp (disch := first | assumption | omega | (simp only [LN] <;> omega)) only [row_alloc, row_set]; assumption)) only [cpost, W_block, P3, ↓reduceIte, reduceAdd, reduceEqDiff, reduceCtorEq, initFr, reduceLT, clsA, reduceLeDiff, reduceMul, reduceSub, reduceIte]
      refine callP (t39 gE2) ?_
      have lM2 := AHeap.get_lt gM2
      simp (disch := first | assumption | omega | (simp only [LN] <;> omega) | (simp (disch := first | assumption | omega | (simp only [LN] <;> omega)) only [row_alloc, row_set]; assumption)) only [W_block, P3, ↓reduceIte, reduceAdd, reduceEqDiff, reduceCtorEq, initFr, reduceLT, clsA, reduceLeDiff, reduceMul, reduceSub, reduceIte, gM2, cRg x2, lM2]
      refine callP (t40 gE2) ?_
      simp (disch := first | assumption | omega | (simp only [LN] <;> omega) | (simp (disch := first | assumption | omega | (simp only [LN] <;> omega)) only [row_alloc, row_set]; assumption)) only [W_block, P3, ↓reduceIte, reduceAdd, reduceEqDiff, reduceCtorEq, initFr, reduceLT, clsA, reduceLeDiff, reduceMul, reduceSub, reduceIte, gM2, cRg x2, lM2]
      refine callP (t41 gE2) ?_
      simp (disch := first | assumption | omega | (simp only [LN] <;> omega) | (simp (disch := first | assumption | omega | (simp only [LN] <;> omega)) only [row_alloc, row_set]; assumption)) only [W_block, P3, ↓reduceIte, reduceAdd, reduceEqDiff, reduceCtorEq, initFr, reduceLT, clsA, reduceLeDiff, reduceMul, reduceSub, reduceIte, gM2, cRg x2, lM2]
      refine callP (t42 gE2) ?_
      simp (disch := first | assumption | omega | (simp only [LN] <;> omega) | (simp (disch := first | assumption | omega | (simp only [LN] <;> omega)) only [row_alloc, row_set]; assumption)) only [W_block, P3, ↓reduceIte, reduceAdd, reduceEqDiff, reduceCtorEq, initFr, reduceLT, clsA, reduceLeDiff, reduceMul, reduceSub, reduceIte, gM2, cRg x2, lM2, wrap_succ (n := i) (by omega)]
      exact hnx _ _ _ ⟨i + 1, by omega, rfl, x2, _, _, _, _, _, _, _, _, _, _, _, _, _, _, _, _, _, _, _, _, _, _, _, _, hw2, gE2, gM2, kK2, rfl⟩ (by omega)
    intro Q2 hM2 hex2 hrt2
    have lE := AHeap.get_lt gE
    have lM := AHeap.get_lt gM
    have lc8 : (cC c).length = 8 := rfl
    have ob := hok.hB.bs.sl.one
    have of' := hok.hF.bs.sl.one
    have oc8 : (cC c).all Value.oneCell' = true := by simp only [cC, List.all_cons, List.all_nil, ob, of']; rfl
    have hbB := hok.hB.keeps ((Keeps.refl K).alloc (.cells true false 8 (cC c) 84))
    simp (disch := first | assumption | omega | (simp only [LN] <;> omega) | (simp (disch := first | assumption | omega | (simp only [LN] <;> omega)) only [row_alloc, row_set]; assumption)) only [ cpre, P3, ↓reduceIte, reduceAdd, reduceEqDiff, reduceCtorEq, initFr, reduceLT, clsA, reduceLeDiff, reduceMul, reduceSub, reduceIte, hrow, lc8, oc8, cCg c, a_b2sB hbB.bs, a_s2bl, modu8 hok.hn]
    rw [W_block]
    have kc := ((Keeps.refl K).alloc (.cells true false 8 (cC c) 84)).alloc (.cells true true 1 (cellsOf c.B) 5)
    have g9 := ((Keeps.refl (K.alloc (.cells true false 8 (cC c) 84))).alloc (.cells true true 1 (cellsOf c.B) 5)).at_ (AHeap.get_alloc_new K (.cells true false 8 (cC c) 84))
    have hin := bq_new (K.alloc (.cells true false 8 (cC c) 84)) true c.B c.B.length rfl
    have hn2 : (K.alloc (.cells true false 8 (cC c) 84)).n = K.n + 1 := rfl
    rw [hn2] at hin
    obtain ⟨K2, hK2⟩ : ∃ X, X = (K.alloc (.cells true false 8 (cC c) 84)).alloc (.cells true true 1 (cellsOf c.B) 5) := ⟨_, rfl⟩
    rw [← hK2] at kc g9 hin ⊢
    have hok2 := hok.keeps kc
    have gE2 := kc.at_ gE
    have gM2 := kc.at_ gM
    have kK2 := kK.trans kc
    have lE2 := AHeap.get_lt gE2
    have lM2 := AHeap.get_lt gM2
    have l92 := AHeap.get_lt g9
    clear hK2 hbB hrow
    refine W_part 1 (fun fr X => X = K2 ∧ ∃ (y31 y32 : Value), fr = [.int .u8 (f : Nat), .int .u8 (t : Nat), .int .i64 n, v, .bool false, ptr bE 0, .int .i64 0, ptr bM 0, .int .i64 (i : Nat), ptr K.n 0, slc (K.n + 1) 0 c.B.length c.B.length, y11, y12, y13, y14, y15, y16, y17, y18, y19, y20, y21, y22, y23, .bool true, .int .u8 ((c.n % 8 : Nat) : Int), y26, y27, y28, y29, .bool (decide (c.n % 8 ≠ 2 ∧ c.n % 8 ≠ 3 ∧ c.n % 8 ≠ 4)), y31, y32]) rfl ?_ ?_
    · intro Q3 h3 _ _
      have : c.n % 8 = 0 ∨ c.n % 8 = 1 ∨ c.n % 8 = 2 ∨ c.n % 8 = 3 ∨ c.n % 8 = 4 ∨ c.n % 8 = 5 ∨ c.n % 8 = 6 ∨ c.n % 8 = 7 := by omega
      rcases this with e | e | e | e | e | e | e | e <;> rw [e] at h3 ⊢ <;> simp (disch := first | assumption | omega | (simp only [LN] <;> omega) | (simp (disch := first | assumption | omega | (simp only [LN] <;> omega)) only [row_alloc, row_set]; assumption)) only [cpre, W_block, P3, ↓reduceIte, reduceAdd, reduceEqDiff, reduceCtorEq, initFr, reduceLT, clsA, reduceLeDiff, reduceMul, reduceSub, reduceIte] <;> exact h3 _ _ ⟨rfl, _, _, rfl⟩
    rintro fr X ⟨hXX, y31', y32', rfl⟩
    obtain rfl := hXX.symm
    clear hXX
    by_cases hsend : c.n % 8 ≠ 2 ∧ c.n % 8 ≠ 3 ∧ c.n % 8 ≠ 4
    · rw [decide_eq_true hsend]
      simp (disch := first | assumption | omega | (simp only [LN] <;> omega) | (simp (disch := first | assumption | omega | (simp only [LN] <;> omega)) only [row_alloc, row_set]; assumption)) only [cpost, W_block, P3, ↓reduceIte, reduceAdd, reduceEqDiff, reduceCtorEq, initFr, reduceLT, clsA, reduceLeDiff, reduceMul, reduceSub, reduceIte]
      have htb : ∀ y ∈ tb (slc (K.n + 1) 0 c.B.length c.B.length), y ≠ bE := fun y hy => by
        simp [tb, slc] at hy; omega
      by_cases hno : 2048 < c.B.length ∨ 4611686018427387904 ≤ x.q
      · refine callP (t34no gE2 hin.bs hno) ?_
        simp (disch := first | assumption | omega | (simp only [LN] <;> omega) | (simp (disch := first | assumption | omega | (simp only [LN] <;> omega)) only [row_alloc, row_set]; assumption)) only [W_block, P3, ↓reduceIte, reduceAdd, reduceEqDiff, reduceCtorEq, initFr, reduceLT, clsA, reduceLeDiff, reduceMul, reduceSub, reduceIte, g9, cCg c, a_b2sB hok2.hB.bs]
        refine callP (t35no gM2 hno) ?_
        simp (disch := first | assumption | omega | (simp only [LN] <;> omega) | (simp (disch := first | assumption | omega | (simp only [LN] <;> omega)) only [row_alloc, row_set]; assumption)) only [W_block, P3, ↓reduceIte, reduceAdd, reduceEqDiff, reduceCtorEq, initFr, reduceLT, clsA, reduceLeDiff, reduceMul, reduceSub, reduceIte, a_b2sB (BS.nil K2), bytes_eq]
        exact hM2 _ _ ⟨x, _, _, _, _, _, _, _, _, _, _, _, _, _, _, _, _, _, _, _, _, _, _, _, _, hw, gE2, gM2, kK2, rfl⟩
      · refine callK (t34 hw gE2 hin htb (by omega) (by omega)) ?_
        rintro _ K3 ⟨r, rfl, p3⟩
        have k3 := p3.2.1
        have gE3 := k3.at_ (AHeap.get_set_same gE2 (.cells true false 7 (cE (sX x)) 145))
        have gM3 : K3.get bM = some (.cells true false 6 (cR x) 93) := k3.at_ (by rw [AHeap.get_set_other _ (Ne.symm hEM) lE2]; exact gM2)
        have g93 : K3.get K.n = some (.cells true false 8 (cC c) 84) := k3.at_ (by rw [AHeap.get_set_other _ (by omega) lE2]; exact g9)
        have lM3 := AHeap.get_lt gM3
        have c3 : Chg [bE] K2 K3 := (Chg.set K2 lE2 _).trans (k3.chg []) (by simp)
        have hB3 : BS K3 c.vB c.B := hok2.hB.bs.chgT c3 (fun y hy => by have := tB y hy; simp; omega)
        simp (disch := first | assumption | omega | (simp only [LN] <;> omega) | (simp (disch := first | assumption | omega | (simp only [LN] <;> omega)) only [row_alloc, row_set]; assumption)) only [W_block, P3, ↓reduceIte, reduceAdd, reduceEqDiff, reduceCtorEq, initFr, reduceLT, clsA, reduceLeDiff, reduceMul, reduceSub, reduceIte, g93, cCg c, a_b2sB hB3]
        refine callK (t35 hw gM3 (by omega) (by omega)) ?_
        rintro _ K4 ⟨r', rfl, p4⟩
        have k4 := p4.k
        have gE4 : K4.get bE = some (.cells true false 7 (cE (sX x)) 145) := k4.at_ (by rw [AHeap.get_set_other _ hEM lM3]; exact gE3)
        have gM4 := k4.at_ (AHeap.get_set_same gM3 (.cells true false 6 (cR (sX x)) 93))
        have c4 : Chg [bM] K3 K4 := (Chg.set K3 lM3 _).trans (k4.chg []) (by simp)
        have p34 : BS K4 r (fLi ⟨x.f, x.t, x.q + 1, x.k, c.B⟩) := (p3.1.chg c4 (fun y hy => by have := p3.2.2 y (mem_blkL.1 hy); rw [set_n] at this; simp; omega)).bs
        simp (disch := first | assumption | omega | (simp only [LN] <;> omega) | (simp (disch := first | assumption | omega | (simp only [LN] <;> omega)) only [row_alloc, row_set]; assumption)) only [W_block, P3, ↓reduceIte, reduceAdd, reduceEqDiff, reduceCtorEq, initFr, reduceLT, clsA, reduceLeDiff, reduceMul, reduceSub, reduceIte, a_b2sB p34, a_b2sB p4.bs, bytes_eq]
        refine hM2 _ _ ⟨sX x, _, _, _, _, _, _, _, _, _, _, _, _, _, _, _, _, _, _, _, _, _, _, _, _, ?_, gE4, gM4, ?_, rfl⟩
        · obtain ⟨a1, a2, a3, a4, a5, a6⟩ := hw
          exact ⟨a1, a2, by simp only [sX]; omega, a4, a5, a6⟩
        · exact (kK2.chg_trans c3 (by simp; omega)).chg_trans c4 (by simp; omega)
    · rw [decide_eq_false hsend]
      simp only [cpost, w_cond, AX_fr, List.getD_cons_succ, List.getD_cons_zero, cond_false]
      refine W_part 1 (fun fr X => ∃ (vin : Value) (Bi : List UInt8) (y11 y12 y13 y14 y15 y16 y17 y18 y19 y20 y21 y22 y23 y24 y25 y26 y27 y28 y29 y30 y31 y32 : Value), BQ X vin Bi ∧ Bi.length ≤ 100000 ∧ (∀ y ∈ tb vin, K.n ≤ y) ∧ Keeps K2 X ∧ fr = [.int .u8 (f : Nat), .int .u8 (t : Nat), .int .i64 n, v, .bool false, ptr bE 0, .int .i64 0, ptr bM 0, .int .i64 (i : Nat), ptr K.n 0, vin, y11, y12, y13, y14, y15, y16, y17, y18, y19, y20, y21, y22, y23, y24, y25, y26, y27, y28, y29, y30, y31, y32]) rfl ?_ ?_
      · intro Q3 h3 _ _
        have hB5 : rangeO (some (.cells true false 8 (cC c) 84)) 2 5 = some (cLi c.vF c.F) := rfl
        by_cases h2 : c.n % 8 = 2
        · have h2' : ((c.n % 8 : Nat) : Int) = 2 := by omega
          simp (disch := first | assumption | omega | (simp only [LN] <;> omega) | (simp (disch := first | assumption | omega | (simp only [LN] <;> omega)) only [row_alloc, row_set]; assumption)) only [cpre, W_block, P3, ↓reduceIte, reduceAdd, reduceEqDiff, reduceCtorEq, initFr, reduceLT, clsA, reduceLeDiff, reduceMul, reduceSub, reduceIte, g9, cCg c, modu8 hok.hn, h2', hB5]
          refine callK (t36 c.F hok.hr hok2.hF.bs (by omega)) ?_
          rintro r K3 p3
          simp (disch := first | assumption | omega | (simp only [LN] <;> omega) | (simp (disch := first | assumption | omega | (simp only [LN] <;> omega)) only [row_alloc, row_set]; assumption)) only [W_block, P3, ↓reduceIte, reduceAdd, reduceEqDiff, reduceCtorEq, initFr, reduceLT, clsA, reduceLeDiff, reduceMul, reduceSub, reduceIte]
          have := fLi_len (x := c.F)
          exact h3 _ _ ⟨r, fLi c.F, _, _, _, _, _, _, _, _, _, _, _, _, _, _, _, _, _, _, _, _, _, _, p3.bq, by omega, fun y hy => by have := p3.2.2 y (tb_blk hy); have := kc.n; omega, p3.2.1, rfl⟩
        · have h2' : ¬ ((c.n % 8 : Nat) : Int) = 2 := by omega
          simp (disch := first | assumption | omega | (simp only [LN] <;> omega) | (simp (disch := first | assumption | omega | (simp only [LN] <;> omega)) only [row_alloc, row_set]; assumption)) only [cpre, W_block, P3, ↓reduceIte, reduceAdd, reduceEqDiff, reduceCtorEq, initFr, reduceLT, clsA, reduceLeDiff, reduceMul, reduceSub, reduceIte, g9, cCg c, modu8 hok.hn, h2']
          exact h3 _ _ ⟨_, c.B, _, _, _, _, _, _, _, _, _, _, _, _, _, _, _, _, _, _, _, _, _, _, hin, by omega, fun y hy => by simp [tb, slc] at hy; omega, Keeps.refl _, rfl⟩
      rintro fr K3 ⟨vin, Bi, z11, z12, z13, z14, z15, z16, z17, z18, z19, z20, z21, z22, z23, z24, z25, z26, z27, z28, z29, z30, z31, z32, hvi, hBi, htv, k3, rfl⟩
      have gE3 := k3.at_ gE2
      have gM3 := k3.at_ gM2
      have kK3 := kK2.trans k3
      have lE3 := AHeap.get_lt gE3
      have lM3 := AHeap.get_lt gM3
      have hvn : ∀ y ∈ tb vin, y ≠ bE ∧ y ≠ bM := fun y hy => by have := htv y hy; omega
      refine W_part 3 (fun fr X => ∃ (x' : En) (va : Value) (Ba : List UInt8) (e : Int) (y11 y12 y13 y14 y20 y21 y22 y23 y24 y25 y26 y27 y28 y29 y30 y31 y32 : Value), WfE x' ∧ X.get bE = some (.cells true false 7 (cE x') 145) ∧ X.get bM = some (.cells true false 6 (cR x') 93) ∧ Keeps H X ∧ BQ X vin Bi ∧ AP X 5 1 va Ba.length (cellsOf Ba) ∧ (∀ y ∈ blkL va, K3.n ≤ y) ∧ Ba.length ≤ 100000 ∧
        fr = [.int .u8 (f : Nat), .int .u8 (t : Nat), .int .i64 n, v, .bool false, ptr bE 0, .int .i64 0, ptr bM 0, .int .i64 (i : Nat), ptr K.n 0, vin, y11, y12, y13, y14, strB Bi, va, .int .i64 e, strB Ba, .int .i64 e, y20, y21, y22, y23, y24, y25, y26, y27, y28, y29, y30, y31, y32]) rfl ?_ ?_
      · intro Q3 h3 _ _
        simp (disch := first | assumption | omega | (simp only [LN] <;> omega) | (simp (disch := first | assumption | omega | (simp only [LN] <;> omega)) only [row_alloc, row_set]; assumption)) only [cpost, cpre, W_block, P3, ↓reduceIte, reduceAdd, reduceEqDiff, reduceCtorEq, initFr, reduceLT, clsA, reduceLeDiff, reduceMul, reduceSub, reduceIte, a_b2sB hvi.bs]
        by_cases hh : hE x (geLi Bi) = 0
        · cases hm : geLi Bi with
          | none => rw [hm] at hh; exact absurd hh (by simp [hE])
          | some m =>
          rw [hm] at hh
          refine callK (t37 hw gE3 hvi (by omega) hm hh) ?_
          rintro _ K4 ⟨vb, rfl, gE4, c4, f4, a4⟩
          have gM4 : K4.get bM = some (.cells true false 6 (cR x) 93) := c4.at_ gM3 (by simp; omega)
          simp (disch := first | assumption | omega | (simp only [LN] <;> omega) | (simp (disch := first | assumption | omega | (simp only [LN] <;> omega)) only [row_alloc, row_set]; assumption)) only [W_block, P3, ↓reduceIte, reduceAdd, reduceEqDiff, reduceCtorEq, initFr, reduceLT, clsA, reduceLeDiff, reduceMul, reduceSub, reduceIte, a_s2bl, strB]
          have hq := bq_new K4 true Bi Bi.length rfl
          have kq := (Keeps.refl K4).alloc (.cells true true 1 (cellsOf Bi) 5)
          have gM5 := kq.at_ gM4
          have gE5 := kq.at_ gE4
          have lM5 := AHeap.get_lt gM5
          refine callK (t38 hw gM5 hq (by omega) hm hh) ?_
          rintro _ _ ⟨rfl, rfl⟩
          simp (disch := first | assumption | omega | (simp only [LN] <;> omega) | (simp (disch := first | assumption | omega | (simp only [LN] <;> omega)) only [row_alloc, row_set]; assumption)) only [W_block, P3, ↓reduceIte, reduceAdd, reduceEqDiff, reduceCtorEq, initFr, reduceLT, clsA, reduceLeDiff, reduceMul, reduceSub, reduceIte]
          have cM := Chg.set (K4.alloc (.cells true true 1 (cellsOf Bi) 5)) lM5 (.cells true false 6 (cR (hX x m)) 93)
          have hmB := (geLi_some hm).2.2.2
          have hx := hX_wf hw (geLi_ok hm) (hE0 hh).2.2
          have n4 := c4.n
          refine h3 _ _ ⟨hX x m, vb, m.B, 0, _, _, _, _, _, _, _, _, _, _, _, _, _, _, _, _, _, hx, ?_, AHeap.get_set_same gM5 _, ?_, ?_, ?_, fun y hy => f4 y (mem_blkL.1 hy), by omega, rfl⟩
          · rw [AHeap.get_set_other _ hEM lM5]; exact gE5
          · exact ((kK3.chg_trans c4 (by simp; omega)).trans kq).chg_trans cM (by simp; omega)
          · exact ((hvi.chg c4 (fun y hy => by simpa using (hvn y hy).1)).keeps kq).chg cM (fun y hy => by simpa using (hvn y hy).2)
          · exact (a4.keeps kq).chg cM (fun y hy => by have := f4 y (mem_blkL.1 hy); simp; omega)
        · refine callP (t37no gE3 hvi (by omega) hh) ?_
          simp (disch := first | assumption | omega | (simp only [LN] <;> omega) | (simp (disch := first | assumption | omega | (simp only [LN] <;> omega)) only [row_alloc, row_set]; assumption)) only [W_block, P3, ↓reduceIte, reduceAdd, reduceEqDiff, reduceCtorEq, initFr, reduceLT, clsA, reduceLeDiff, reduceMul, reduceSub, reduceIte, a_s2bl, strB]
          have hq := bq_new K3 true Bi Bi.length rfl
          have kq := (Keeps.refl K3).alloc (.cells true true 1 (cellsOf Bi) 5)
          refine callP (t38no (kq.at_ gM3) hq (by omega) hh) ?_
          simp (disch := first | assumption | omega | (simp only [LN] <;> omega) | (simp (disch := first | assumption | omega | (simp only [LN] <;> omega)) only [row_alloc, row_set]; assumption)) only [W_block, P3, ↓reduceIte, reduceAdd, reduceEqDiff, reduceCtorEq, initFr, reduceLT, clsA, reduceLeDiff, reduceMul, reduceSub, reduceIte]
          exact h3 _ _ ⟨x, .slice none 0 0, [], hE x (geLi Bi), _, _, _, _, _, _, _, _, _, _, _, _, _, _, _, _, _, hw, kq.at_ gE3, kq.at_ gM3, kK3.trans kq, hvi.keeps kq, .inl ⟨rfl, rfl, rfl⟩, by simp [blkL, blk], by simp, rfl⟩
      rintro fr K4 ⟨x', va, Ba, e, w11, w12, w13, w14, w20, w21, w22, w23, w24, w25, w26, w27, w28, w29, w30, w31, w32, hw', gE4, gM4, kK4, hvi4, ha4, hfr4, hBa, rfl⟩
      simp (disch := first | assumption | omega | (simp only [LN] <;> omega) | (simp (disch := first | assumption | omega | (simp only [LN] <;> omega)) only [row_alloc, row_set]; assumption)) only [cpost, W_block, P3, ↓reduceIte, reduceAdd, reduceEqDiff, reduceCtorEq, initFr, reduceLT, clsA, reduceLeDiff, reduceMul, reduceSub, reduceIte, a_b2sB ha4.bs, a_b2sB hvi4.bs, strB, bytes_eq]
      have hisa := ha4.bs.sl.is
      have hlena := ha4.bs.sl.len
      rw [List.length_map] at hlena
      refine W_loop2 (fun q fr X => ∃ (j : Nat) (l' : List UInt8) (z28 : Value), j ≤ Ba.length ∧ q = Ba.length - j ∧ l'.length = Ba.length ∧ AP X 5 1 va Ba.length (cellsOf l') ∧ Chg (blkL va) K4 X ∧
        fr = [.int .u8 (f : Nat), .int .u8 (t : Nat), .int .i64 n, v, .bool false, ptr bE 0, .int .i64 0, ptr bM 0, .int .i64 (i : Nat), ptr K.n 0, vin, w11, w12, w13, w14, strB Bi, va, .int .i64 e, strB Ba, .int .i64 e, .int .i64 (j : Nat), w21, w22, w23, w24, w25, w26, .bool false, z28, w29, w30, w31, w32]) Ba.length ⟨0, Ba, _, by omega, rfl, rfl, ha4, Chg.refl _ _, rfl⟩ ?_
      rintro Q5 q fr X ⟨j, l', z28, hj, rfl, hl', aX, cX, rfl⟩ hnx5 hex5 hrt5
      by_cases hcj : j < Ba.length
      · rcases aX with ⟨_, h0', _⟩ | ⟨bb, room, rfl, h1', gy⟩
        · omega
        have hj' : j < l'.length := by omega
        have py := AHeap.get_lt gy
        simp (disch := first | assumption | omega | (simp only [LN] <;> omega) | (simp (disch := first | assumption | omega | (simp only [LN] <;> omega)) only [row_alloc, row_set]; assumption)) only [W_block, P3, ↓reduceIte, reduceAdd, reduceEqDiff, reduceCtorEq, initFr, reduceLT, clsA, reduceLeDiff, reduceMul, reduceSub, reduceIte, gy, cells_get hj', inc_byte, cellsOf_length, cells_set, wrap_succ (n := j) (by omega)]
        refine hnx5 _ _ _ ⟨j + 1, l'.set j (UInt8.ofNat (l'[j].toNat + 1)), _, by omega, rfl, by rw [List.length_set]; exact hl', .inr ⟨bb, room, rfl, by rw [cellsOf_length, List.length_set]; omega, AHeap.get_set_same gy _⟩, ?_, rfl⟩ (by omega)
        exact cX.trans (Chg.set X py _) (fun x hx => .inl (by simp at hx; subst hx; exact mem_blkL.2 rfl))
      · simp (disch := first | assumption | omega | (simp only [LN] <;> omega) | (simp (disch := first | assumption | omega | (simp only [LN] <;> omega)) only [row_alloc, row_set]; assumption)) only [W_block, P3, ↓reduceIte, reduceAdd, reduceEqDiff, reduceCtorEq, initFr, reduceLT, clsA, reduceLeDiff, reduceMul, reduceSub, reduceIte]
        refine hex5 _ _ _ ?_
        have hva : ∀ y ∈ blkL va, H.n + 2 ≤ y ∧ K3.n ≤ y := fun y hy => ⟨by have := hfr4 y hy; have := kc.n; have := k3.n; omega, hfr4 y hy⟩
        have hvi5 := hvi4.chg cX (fun y hy hy2 => by have := hfr4 y hy2; have := hvi.tbl y hy; omega)
        simp (disch := first | assumption | omega | (simp only [LN] <;> omega) | (simp (disch := first | assumption | omega | (simp only [LN] <;> omega)) only [row_alloc, row_set]; assumption)) only [W_block, P3, ↓reduceIte, reduceAdd, reduceEqDiff, reduceCtorEq, initFr, reduceLT, clsA, reduceLeDiff, reduceMul, reduceSub, reduceIte, strB, a_b2sB hvi5.bs, bytes_eq]
        exact hM2 _ _ ⟨x', _, _, _, _, _, _, _, _, _, _, _, _, _, _, _, _, _, _, _, _, _, _, _, _, hw', cX.at_ gE4 (fun hy => by have := hva _ hy; omega), cX.at_ gM4 (fun hy => by have := hva _ hy; omega), kK4.chg_trans cX (fun y hy => by have := hva y hy; omega), rfl⟩
  exact ⟨_, _, a.gc0 k (.inr (.bool _)), rfl, rfl⟩
end Go.AM.Fd

set_option linter.unusedSimpArgs false
set_option linter.unusedVariables false
namespace Go.AM
def WR (H : AHeap) (e esz : Nat) (v : Value) (n : Nat) (c : List Value) : Prop :=
  (v = .slice none 0 0 ∧ n = 0 ∧ c = []) ∨ ∃ b k room d, v = slc b 0 n k ∧ n ≤ k ∧ d.length = k * esz ∧ d.take (n * esz) = c ∧ H.get b = some (.cells true room esz d e)
section
variable {H H' : AHeap} {e esz : Nat} {v : Value} {n : Nat} {c : List Value}
theorem AP.wr (h : AP H e esz v n c) : WR H e esz v n c := by
  rcases h with h | ⟨b, room, rfl, h1, h2⟩
  · exact .inl h
  · exact .inr ⟨b, n, room, c, rfl, Nat.le_refl _, h1, by rw [← h1, List.take_length], h2⟩
theorem WR.len (h : WR H e esz v n c) : c.length = n * esz := by
  rcases h with ⟨rfl, rfl, rfl⟩ | ⟨b, k, room, d, rfl, h1, h2, rfl, h4⟩
  · simp
  · have := Nat.mul_le_mul_right esz h1
    rw [List.length_take, h2]; omega
theorem WR.elems (h : WR H e esz v n c) : elemsA H esz v = some c := by
  rcases h with ⟨rfl, rfl, rfl⟩ | ⟨b, k, room, d, rfl, h1, h2, rfl, h4⟩
  · rfl
  · have := Nat.mul_le_mul_right esz h1
    simp only [elemsA, slc, h4]
    rw [if_pos (by omega), List.drop_zero]
theorem WR.shape (h : WR H e esz v n c) : ∃ a k, v = .slice a n k := by
  rcases h with ⟨rfl, rfl, rfl⟩ | ⟨b, k, room, d, rfl, h1, h2, h3, h4⟩
  · exact ⟨_, _, rfl⟩
  · exact ⟨_, _, rfl⟩
theorem WR.is (h : WR H e esz v n c) : isS v = true := by obtain ⟨a, k, rfl⟩ := h.shape; rfl
theorem WR.lenS (h : WR H e esz v n c) : Go.AM.lenS v = n := by obtain ⟨a, k, rfl⟩ := h.shape; rfl
theorem WR.one (h : WR H e esz v n c) : v.oneCell' = true := by obtain ⟨a, k, rfl⟩ := h.shape; rfl
theorem WR.lt (h : WR H e esz v n c) {b : Nat} (hb : blk v = some b) : b < H.n := by
  rcases h with ⟨rfl, rfl, rfl⟩ | ⟨b', k, room, d, rfl, h1, h2, h3, h4⟩
  · cases hb
  · cases hb; exact AHeap.get_lt h4
theorem WR.chg {S : List Nat} (h : WR H e esz v n c) (k : Chg S H H') (hS : ∀ x ∈ blkL v, x ∉ S) : WR H' e esz v n c := by
  rcases h with h | ⟨b, m, room, d, rfl, h1, h2, h3, h4⟩
  · exact .inl h
  · exact .inr ⟨b, m, room, d, rfl, h1, h2, h3, k.at_ h4 (hS b (mem_blkL.2 rfl))⟩
theorem WR.keeps (h : WR H e esz v n c) (k : Keeps H H') : WR H' e esz v n c := h.chg (k.chg []) (by simp)
theorem WR.sl {rows : List (List Value)} (h : WR H e esz v n rows.flatten) (hr : ∀ r ∈ rows, r.length = esz) (hn : n = rows.length) : Sl H esz v rows := by
  obtain ⟨a, k, rfl⟩ := h.shape
  exact ⟨⟨a, k, by rw [hn]⟩, hr, h.elems⟩
theorem WR.app {bytes m : Nat} {news : List Value} (h : WR H e esz v n c) (hm : news.length = m * esz) (hs : (n + m) * bytes ≤ 140737488355328 ∧ n + m ≤ 140737488355328) :
    ∃ v' H', appA H e esz bytes v m news = some (v', H') ∧ WR H' e esz v' (n + m) (c ++ news) ∧ Chg (blkL v) H H' ∧ (blk v' = blk v ∨ blk v' = some H.n) := by
  rcases h with ⟨rfl, rfl, rfl⟩ | ⟨b, k, room, d, rfl, h1, h2, h3, h4⟩
  · obtain ⟨v', H', a, b, d⟩ := AP.app (H := H) (e := e) (esz := esz) (v := .slice none 0 0) (n := 0) (c := []) (.inl ⟨rfl, rfl, rfl⟩) hm hs
    exact ⟨v', H', a, b.wr, d⟩
  · simp only [appA, slc]
    by_cases hm0 : m = 0
    · subst hm0
      have : news = [] := by rw [← List.length_eq_zero_iff]; omega
      subst this
      rw [if_pos rfl]
      exact ⟨_, _, rfl, .inr ⟨b, k, room, d, rfl, h1, h2, by simpa using h3, h4⟩, Chg.refl _ _, .inl rfl⟩
    · have hle := Nat.mul_le_mul_right esz h1
      have hc : c.length = n * esz := by rw [← h3, List.length_take, h2]; omega
      have hnm : (n + m) * esz = n * esz + m * esz := Nat.add_mul _ _ _
      rw [if_neg hm0, if_pos hs]
      simp only [h4, true_and]
      rw [if_pos (show 0 + k * esz ≤ d.length by omega)]
      by_cases hk : n + m ≤ k
      · have hle2 := Nat.mul_le_mul_right esz hk
        rw [if_pos hk]
        simp only [if_true]
        refine ⟨_, _, rfl, .inr ⟨b, k, room, _, rfl, hk, ?_, ?_, AHeap.get_set_same h4 _⟩, Chg.set H (AHeap.get_lt h4) _, .inl rfl⟩
        · rw [List.length_append, List.length_append, List.length_take, List.length_drop, hm]; omega
        · rw [Nat.zero_add, h3, List.take_append_of_le_length (by rw [List.length_append, hc, hm]; omega), List.take_of_length_le (by rw [List.length_append, hc, hm]; omega)]
      · rw [if_neg hk, List.drop_zero, h3]
        have hlen : (c ++ news).length = (n + m) * esz := by rw [List.length_append, hc, hm, Nat.add_mul]
        split
        · exact ⟨_, _, rfl, .inr ⟨H.n, n + m, true, _, rfl, Nat.le_refl _, hlen, by rw [← hlen, List.take_length], AHeap.get_alloc_new H _⟩, (Chg.refl _ _).alloc _, .inr rfl⟩
        · exact ⟨_, _, rfl, .inr ⟨H.n, n + m, true, _, rfl, Nat.le_refl _, hlen, by rw [← hlen, List.take_length], AHeap.get_alloc_new (H.set b .dead) _⟩, (Chg.set H (AHeap.get_lt h4) _).alloc _, .inr rfl⟩
end
section
variable {P : Program} {ng : Nat} {H : AHeap} {KF : List Value → AHeap → Prop} {fr tm : List Value} {tr : List TE} {e esz : Nat} {v : Value} {n : Nat} {c : List Value}
theorem WR.appR {d : D} {r : List AOper} {bytes : Nat} {x : Value} {m : Nat} {news : List Value} (h : WR H e esz v n c) (hx : ∃ a k, x = .slice a m k) (h1 : elemsA H esz x = some news) (hm : news.length = m * esz)
    (hs : (n + m) * bytes ≤ 140737488355328 ∧ n + m ≤ 140737488355328)
    (hk : ∀ v' H', WR H' e esz v' (n + m) (c ++ news) → Chg (blkL v) H H' → (blk v' = blk v ∨ blk v' = some H.n) → RW P ng r (d.frame v' fr) (d.temps v' tm) H' KF) : goR P ng (asem (.app e esz bytes v x) H) d r fr tm KF := by
  obtain ⟨v', H', e1, e2, e3, e4⟩ := h.app (bytes := bytes) hm hs
  obtain ⟨a, k, rfl⟩ := hx
  refine ⟨v', H', ?_, hk v' H' e2 e3 e4⟩
  simp only [asem, h1]; exact e1
theorem WR.appD {d : D} {r : List (AOper × List Nat)} {bytes : Nat} {x : Value} {m : Nat} {news : List Value} (h : WR H e esz v n c) (hx : ∃ a k, x = .slice a m k) (h1 : elemsA H esz x = some news) (hm : news.length = m * esz)
    (hs : (n + m) * bytes ≤ 140737488355328 ∧ n + m ≤ 140737488355328)
    (hk : ∀ v' H', WR H' e esz v' (n + m) (c ++ news) → Chg (blkL v) H H' → (blk v' = blk v ∨ blk v' = some H.n) → RD P ng r (d.frame v' fr) (d.temps v' tm) H' (tr ++ [⟨3, [], H, H'⟩]) KF) : goD P ng (.app e esz bytes v x) (asem (.app e esz bytes v x) H) d [] r fr tm H tr KF := by
  obtain ⟨v', H', e1, e2, e3, e4⟩ := h.app (bytes := bytes) hm hs
  obtain ⟨a, k, rfl⟩ := hx
  exact ⟨v', H', by simp only [asem, h1]; exact e1, trivial, hk v' H' e2 e3 e4⟩
end
end Go.AM

set_option linter.unusedSimpArgs false
set_option linter.unusedVariables false
namespace Go.AM.Fd
open Nat (reduceAdd reduceEqDiff reduceLT reduceLeDiff reduceMul reduceSub)
open Go.Proofs Go.AM.F
abbrev It := Value × List UInt8
def wF (b : Nat) (wv : Value) (its : List It) : List Nat := b :: (blkL wv ++ its.flatMap fun it => blkL it.1)
structure WI (b : Nat) (wv : Value) (its : List It) (K : AHeap) : Prop where
  g : K.get b = some (.cells true false 1 [wv] 113)
  w : WR K 22 1 wv its.length (its.map (·.1))
  a : ∀ it ∈ its, AP K 5 1 it.1 it.2.length (cellsOf it.2)
  nd : (wF b wv its).Nodup
theorem mem_wF {b : Nat} {wv : Value} {its : List It} {y : Nat} : y ∈ wF b wv its ↔ y = b ∨ y ∈ blkL wv ∨ ∃ it ∈ its, y ∈ blkL it.1 := by
  simp only [wF, List.mem_cons, List.mem_append, List.mem_flatMap]
theorem WI.lt {b : Nat} {wv : Value} {its : List It} {K : AHeap} (h : WI b wv its K) : ∀ y ∈ wF b wv its, y < K.n := by
  intro y hy
  rcases mem_wF.1 hy with rfl | hy | ⟨it, hit, hy⟩
  · exact AHeap.get_lt h.g
  · exact h.w.lt (mem_blkL.1 hy)
  · exact (h.a it hit).lt (mem_blkL.1 hy)
theorem WI.chg {b : Nat} {wv : Value} {its : List It} {K K' : AHeap} {S : List Nat} (h : WI b wv its K) (k : Chg S K K') (hS : ∀ y ∈ wF b wv its, y ∉ S) : WI b wv its K' :=
  ⟨k.at_ h.g (hS b (mem_wF.2 (.inl rfl))), h.w.chg k (fun y hy => hS y (mem_wF.2 (.inr (.inl hy)))), fun it hit => (h.a it hit).chg k (fun y hy => hS y (mem_wF.2 (.inr (.inr ⟨it, hit, hy⟩)))), h.nd⟩
theorem WI.keeps {b : Nat} {wv : Value} {its : List It} {K K' : AHeap} (h : WI b wv its K) (k : Keeps K K') : WI b wv its K' := h.chg (k.chg []) (by simp)
theorem nodup_app {a c : List Nat} (ha : a.Nodup) (hc : c.Nodup) (hd : ∀ x ∈ a, x ∉ c) : (a ++ c).Nodup := by
  rw [List.nodup_append]
  exact ⟨ha, hc, fun x hx y hy e => hd x hx (e ▸ hy)⟩
theorem blkL_nd (v : Value) : (blkL v).Nodup := by
  unfold blkL
  cases blk v <;> simp
theorem wF_nd {b : Nat} {wv : Value} {its : List It} : (wF b wv its).Nodup ↔ b ∉ blkL wv ∧ (∀ it ∈ its, b ∉ blkL it.1) ∧ (∀ y ∈ blkL wv, ∀ it ∈ its, y ∉ blkL it.1) ∧ (its.flatMap fun it => blkL it.1).Nodup := by
  simp only [wF, List.nodup_cons, List.mem_append, List.mem_flatMap, List.nodup_append]
  constructor
  · rintro ⟨h1, h2, h3, h4⟩
    exact ⟨fun h => h1 (.inl h), fun it hi h => h1 (.inr ⟨it, hi, h⟩), fun y hy it hi h => h4 y hy y ⟨it, hi, h⟩ rfl, h3⟩
  · rintro ⟨h1, h2, h3, h4⟩
    refine ⟨?_, blkL_nd wv, h4, ?_⟩
    · rintro (h | ⟨it, hi, h⟩)
      · exact h1 h
      · exact h2 it hi h
    · rintro y hy z ⟨it, hi, hz⟩ rfl
      exact h3 y hy it hi hz
theorem wF_add {b n : Nat} {wv wv' r : Value} {B : List UInt8} {its : List It} (hnd : (wF b wv its).Nodup) (hlt : ∀ y ∈ wF b wv its, y < n) (hv : ∀ y ∈ blkL wv', y ∈ blkL wv ∨ n ≤ y) (hr : ∀ y ∈ blkL r, n ≤ y) (hd : ∀ y ∈ blkL wv', y ∉ blkL r) : (wF b wv' (its ++ [(r, B)])).Nodup := by
  obtain ⟨h1, h2, h3, h4⟩ := wF_nd.1 hnd
  have hb := hlt b (mem_wF.2 (.inl rfl))
  have hi : ∀ it ∈ its, ∀ y ∈ blkL it.1, y < n := fun it hit y hy => hlt y (mem_wF.2 (.inr (.inr ⟨it, hit, hy⟩)))
  refine wF_nd.2 ⟨fun h => ?_, fun it hit h => ?_, fun y hy it hit h => ?_, ?_⟩
  · rcases hv b h with h | h
    · exact h1 h
    · omega
  · rcases List.mem_append.1 hit with hit | hit
    · exact h2 it hit h
    · simp only [List.mem_singleton] at hit; subst hit
      have := hr b h; omega
  · rcases List.mem_append.1 hit with hit | hit
    · rcases hv y hy with h' | h'
      · exact h3 y h' it hit h
      · have := hi it hit y h; omega
    · simp only [List.mem_singleton] at hit; subst hit
      exact hd y hy h
  · rw [List.flatMap_append]
    refine nodup_app h4 (by simpa using blkL_nd r) (fun y hy hy2 => ?_)
    obtain ⟨it, hit, hy⟩ := List.mem_flatMap.1 hy
    have := hi it hit y hy
    have := hr y (by simpa using hy2)
    omega
section
variable {H : AHeap} {b : Nat} {wv : Value} {its : List It}
theorem t61 (h : WI b wv its H) : ∃ w H', ARun Go.Proofs.Try.prog 0 61 [ptr b 0] H w H' ∧ w = .int .i64 (its.length : Nat) ∧ H' = H := by
  refine walk2 f61_ok f61_n ?_
  intro Q hq1 hq2
  have e1 := h.w.is
  have e2 := h.w.lenS
  simp (disch := first | assumption | omega | (simp only [LN] <;> omega) | (simp (disch := first | assumption | omega | (simp only [LN] <;> omega)) only [row_alloc, row_set]; assumption)) only [f61, W_block, P3, ↓reduceIte, reduceAdd, reduceEqDiff, reduceCtorEq, initFr, reduceLT, clsA, reduceLeDiff, reduceMul, reduceSub, reduceIte, h.g, e2]
  exact hq2 _ _ ⟨_, rfl, rfl, rfl⟩
def askE (n : Nat) (i : Int) (room : Bool) : Int := if i < 0 ∨ (n : Int) ≤ i then 5 else if room = true ∧ 64 ≤ n then 3 else 0
theorem t94 (h : WI b wv its H) (hl : its.length ≤ 1000) (i : Int) (room : Bool) : ∃ w H', ARun Go.Proofs.Try.prog 0 94 [ptr b 0, .int .i64 i, .bool room] H w H' ∧ w = .int .i64 (askE its.length i room) ∧ H' = H := by
  refine walk2 f94_ok f94_n ?_
  intro Q hq1 hq2
  have e1 := h.w.is
  have e2 := h.w.lenS
  by_cases h1 : i < 0
  · simp (disch := first | assumption | omega | (simp only [LN] <;> omega) | (simp (disch := first | assumption | omega | (simp only [LN] <;> omega)) only [row_alloc, row_set]; assumption)) only [f94, W_block, P3, ↓reduceIte, reduceAdd, reduceEqDiff, reduceCtorEq, initFr, reduceLT, clsA, reduceLeDiff, reduceMul, reduceSub, reduceIte, h.g, e2]
    exact hq2 _ _ ⟨_, rfl, by rw [askE, if_pos (.inl h1)]; rfl, rfl⟩
  by_cases h2 : (its.length : Int) ≤ i
  · simp (disch := first | assumption | omega | (simp only [LN] <;> omega) | (simp (disch := first | assumption | omega | (simp only [LN] <;> omega)) only [row_alloc, row_set]; assumption)) only [f94, W_block, P3, ↓reduceIte, reduceAdd, reduceEqDiff, reduceCtorEq, initFr, reduceLT, clsA, reduceLeDiff, reduceMul, reduceSub, reduceIte, h.g, e2]
    exact hq2 _ _ ⟨_, rfl, by rw [askE, if_pos (.inr h2)]; rfl, rfl⟩
  have h12 : ¬ (i < 0 ∨ (its.length : Int) ≤ i) := by omega
  cases room with
  | false =>
    simp (disch := first | assumption | omega | (simp only [LN] <;> omega) | (simp (disch := first | assumption | omega | (simp only [LN] <;> omega)) only [row_alloc, row_set]; assumption)) only [f94, W_block, P3, ↓reduceIte, reduceAdd, reduceEqDiff, reduceCtorEq, initFr, reduceLT, clsA, reduceLeDiff, reduceMul, reduceSub, reduceIte, h.g, e2]
    exact hq2 _ _ ⟨_, rfl, by rw [askE, if_neg h12]; rfl, rfl⟩
  | true =>
    by_cases h3 : 64 ≤ its.length
    · simp (disch := first | assumption | omega | (simp only [LN] <;> omega) | (simp (disch := first | assumption | omega | (simp only [LN] <;> omega)) only [row_alloc, row_set]; assumption)) only [f94, W_block, P3, ↓reduceIte, reduceAdd, reduceEqDiff, reduceCtorEq, initFr, reduceLT, clsA, reduceLeDiff, reduceMul, reduceSub, reduceIte, h.g, e2]
      exact hq2 _ _ ⟨_, rfl, by rw [askE, if_neg h12, if_pos ⟨rfl, h3⟩]; rfl, rfl⟩
    · simp (disch := first | assumption | omega | (simp only [LN] <;> omega) | (simp (disch := first | assumption | omega | (simp only [LN] <;> omega)) only [row_alloc, row_set]; assumption)) only [f94, W_block, P3, ↓reduceIte, reduceAdd, reduceEqDiff, reduceCtorEq, initFr, reduceLT, clsA, reduceLeDiff, reduceMul, reduceSub, reduceIte, h.g, e2]
      exact hq2 _ _ ⟨_, rfl, by rw [askE, if_neg h12, if_neg (by omega)]; rfl, rfl⟩
theorem t59no (h : WI b wv its H) {x : Value} (hl : 64 ≤ its.length) : ∃ w H', ARun Go.Proofs.Try.prog 0 59 [ptr b 0, x] H w H' ∧ w = .int .i64 3 ∧ H' = H := by
  refine walk2 f59_ok f59_n ?_
  intro Q hq1 hq2
  have e1 := h.w.is
  have e2 := h.w.lenS
  simp (disch := first | assumption | omega | (simp only [LN] <;> omega) | (simp (disch := first | assumption | omega | (simp only [LN] <;> omega)) only [row_alloc, row_set]; assumption)) only [f59, W_block, P3, ↓reduceIte, reduceAdd, reduceEqDiff, reduceCtorEq, initFr, reduceLT, clsA, reduceLeDiff, reduceMul, reduceSub, reduceIte, h.g, e2]
  exact hq2 _ _ ⟨_, rfl, rfl, rfl⟩
theorem fillS1 {a : Value} (ha : isS a = true) : fillA [.slice none 0 0] [(0, 1, a)] = some [a] := by
  obtain ⟨_, _, _, rfl⟩ := isS_inv ha
  rfl
theorem t59 (h : WI b wv its H) {x : Value} {B : List UInt8} (hB : BS H x B) (hBl : B.length ≤ 1000000) (hl : its.length < 64) :
    ∃ w H', ARun Go.Proofs.Try.prog 0 59 [ptr b 0, x] H w H' ∧ w = .int .i64 0 ∧ ∃ wv' v', WI b wv' (its ++ [(v', B)]) H' ∧ Chg (b :: blkL wv) H H' ∧ (∀ y ∈ wF b wv' (its ++ [(v', B)]), y ∈ wF b wv its ∨ H.n ≤ y) := by
  refine walk2 f59_ok f59_n ?_
  intro Q hq1 hq2
  have e1 := h.w.is
  have e2 := h.w.lenS
  simp (disch := first | assumption | omega | (simp only [LN] <;> omega) | (simp (disch := first | assumption | omega | (simp only [LN] <;> omega)) only [row_alloc, row_set]; assumption)) only [f59, W_block, P3, ↓reduceIte, reduceAdd, reduceEqDiff, reduceCtorEq, initFr, reduceLT, clsA, reduceLeDiff, reduceMul, reduceSub, reduceIte, h.g, e2]
  refine callK (t73 hB (by omega)) ?_
  rintro r K ⟨a1, k1, f1⟩
  have g1 := k1.at_ h.g
  have lb := AHeap.get_lt h.g
  have hr : isS r = true := by obtain ⟨a, rfl⟩ := a1.shape; rfl
  have kK := k1.alloc (.cells true false 1 [r] 22)
  have hwr := h.w.keeps kK
  simp (disch := first | assumption | omega | (simp only [LN] <;> omega) | (simp (disch := first | assumption | omega | (simp only [LN] <;> omega)) only [row_alloc, row_set]; assumption)) only [W_block, P3, ↓reduceIte, reduceAdd, reduceEqDiff, reduceCtorEq, initFr, reduceLT, clsA, reduceLeDiff, reduceMul, reduceSub, reduceIte, h.g, g1, AHeap.get_lt h.g, fillS1 hr, one_isS hr]
  refine ⟨by simp, ?_⟩
  refine WR.appD hwr ⟨_, _, rfl⟩ (elems_new rfl rfl) rfl (by omega) ?_
  rintro v' K' w' c' hb'
  obtain ⟨n1, n2, n3, n4⟩ := wF_nd.1 h.nd
  have hlt := h.lt
  have hnK := k1.n
  have g' : K'.get b = some (.cells true false 1 [wv] 113) := c'.at_ (kK.at_ h.g) n1
  have lb' := AHeap.get_lt g'
  have ov' : v'.oneCell' = true := w'.one
  have hv' : ∀ y ∈ blkL v', y ∈ blkL wv ∨ H.n ≤ y := fun y hy => by
    rcases hb' with e | e
    · exact .inl (by unfold blkL at hy ⊢; rw [e] at hy; exact hy)
    · right
      have := mem_blkL.1 hy
      rw [e, alloc_n] at this
      cases this; omega
  have hr' : ∀ y ∈ blkL r, H.n ≤ y := fun y hy => f1 y (mem_blkL.1 hy)
  have hd' : ∀ y ∈ blkL v', y ∉ blkL r := fun y hy hy2 => by
    have h1 := a1.lt (mem_blkL.1 hy2)
    rcases hb' with e | e
    · have : y ∈ blkL wv := by unfold blkL at hy ⊢; rw [e] at hy; exact hy
      have := hlt y (mem_wF.2 (.inr (.inl this)))
      have := hr' y hy2
      omega
    · have := mem_blkL.1 hy
      rw [e, alloc_n] at this
      cases this; omega
  have hnd := wF_add (B := B) h.nd hlt hv' hr' hd'
  obtain ⟨m1, m2, m3, m4⟩ := wF_nd.1 hnd
  have cs := Chg.set K' lb' (.cells true false 1 [v'] 113)
  simp (disch := first | assumption | omega | (simp only [LN] <;> omega) | (simp (disch := first | assumption | omega | (simp only [LN] <;> omega)) only [row_alloc, row_set]; assumption)) only [W_block, P3, ↓reduceIte, reduceAdd, reduceEqDiff, reduceCtorEq, initFr, reduceLT, clsA, reduceLeDiff, reduceMul, reduceSub, reduceIte, g', ov', List.set_cons_zero]
  refine hq2 _ _ ⟨_, rfl, rfl, v', r, ⟨AHeap.get_set_same g' _, ?_, ?_, hnd⟩, ?_, ?_⟩
  · have : WR K' 22 1 v' (its ++ [(r, B)]).length ((its ++ [(r, B)]).map (·.1)) := by
      rw [List.length_append, List.map_append]; exact w'
    exact this.chg cs (fun y hy => by simp; intro e; subst e; exact m1 hy)
  · intro it hit
    rcases List.mem_append.1 hit with hit' | hit'
    · exact (((h.a it hit').keeps kK).chg c' (fun y hy hy2 => n3 y hy2 it hit' hy)).chg cs (fun y hy => by simp; intro e; subst e; exact n2 it hit' hy)
    · simp only [List.mem_singleton] at hit'; subst hit'
      exact ((a1.keeps ((Keeps.refl K).alloc _)).chg c' (fun y hy hy2 => by have := hr' y hy; have := hlt y (mem_wF.2 (.inr (.inl hy2))); omega)).chg cs (fun y hy => by simp; intro e; subst e; have := hr' y hy; have := AHeap.get_lt h.g; omega)
  · exact ((kK.chg (b :: blkL wv)).trans c' (fun y hy => .inl (by simp [hy]))).trans cs (fun y hy => .inl (by simp at hy; simp [hy]))
  · intro y hy
    rcases mem_wF.1 hy with rfl | hy | ⟨it, hit, hy⟩
    · exact .inl (mem_wF.2 (.inl rfl))
    · rcases hv' y hy with h' | h'
      · exact .inl (mem_wF.2 (.inr (.inl h')))
      · exact .inr h'
    · rcases List.mem_append.1 hit with hit' | hit'
      · exact .inl (mem_wF.2 (.inr (.inr ⟨it, hit', hy⟩)))
      · simp only [List.mem_singleton] at hit'; subst hit'
        exact .inr (hr' y hy)
end
end Go.AM.Fd

set_option linter.unusedSimpArgs false
set_option linter.unusedVariables false
namespace Go.AM.Fd
open Nat (reduceAdd reduceEqDiff reduceLT reduceLeDiff reduceMul reduceSub)
open Go.Proofs Go.AM.F
theorem a_slslc {H : AHeap} {b n k : Nat} {own room : Bool} {d : List Value} {e : Nat} (g : H.get b = some (.cells own room 1 d e)) {lo hi mx : Option Value} {l h m : Nat} (h1 : bndA mx k k = some m) (h2 : bndA hi n m = some h) (h3 : bndA lo 0 h = some l) (o : Nat) :
    asem (.slsl 1 (slc b o n k) lo hi mx) H = some (slc b (o + l) (h - l) (m - l), H) := by
  rw [a_slsl g h1 h2 h3, Nat.mul_one]
theorem eraseIdx_eq {d : List Value} {n i : Nat} (hi : i < n) (hn : n ≤ d.length) : (d.take n).eraseIdx i = d.take i ++ (d.drop (i + 1)).take (n - (i + 1)) := by
  rw [List.eraseIdx_eq_take_drop_succ, List.take_take, Nat.min_eq_left (by omega), List.drop_take]
set_option maxHeartbeats 1000000 in
theorem t95 {H : AHeap} {wv : Value} {n i : Nat} {c : List Value} (h : WR H 22 1 wv n c) (hi : i < n) (hn : n ≤ 1000) :
    ∃ w H', ARun Go.Proofs.Try.prog 0 95 [wv, .int .i64 (i : Nat), .int .i64 ((i + 1 : Nat) : Int)] H w H' ∧ WR H' 22 1 w (n - 1) (c.eraseIdx i) ∧ Chg (blkL wv) H H' ∧ blk w = blk wv := by
  rcases h with ⟨rfl, rfl, rfl⟩ | ⟨b, k, room, d, rfl, h1, h2, rfl, g⟩
  · omega
  rw [Nat.mul_one] at h2 ⊢
  rw [eraseIdx_eq hi (by omega)]
  refine walk2 f95_ok f95_n ?_
  intro Q hq1 hq2
  have lb := AHeap.get_lt g
  have s1 := a_slslc g (lo := some (.int .i64 (i : Nat))) (hi := some (.int .i64 ((i + 1 : Nat) : Int))) (mx := some (.int .i64 (n : Nat))) (n := n) (k := k) (m := n) (h := i + 1) (l := i) (bnd_some _ _ _ _ h1) (bnd_some _ _ _ _ (by omega)) (bnd_some _ _ _ _ (by omega)) 0
  have s2 := a_slslc g (lo := none) (hi := some (.int .i64 (i : Nat))) (mx := none) (n := n) (k := k) (m := k) (h := i) (l := 0) (bnd_none _ _) (bnd_some _ _ _ _ (by omega)) (bnd_none _ _) 0
  have s3 := a_slslc g (lo := some (.int .i64 ((i + 1 : Nat) : Int))) (hi := none) (mx := none) (n := n) (k := k) (m := k) (h := n) (l := i + 1) (bnd_none _ _) (bnd_none _ _) (bnd_some _ _ _ _ (by omega)) 0
  simp only [Nat.zero_add, Nat.sub_zero] at s1 s2 s3
  have el : elemsA H 1 (slc b (i + 1) (n - (i + 1)) (k - (i + 1))) = some ((d.drop (i + 1)).take (n - (i + 1))) := by
    simp only [elemsA, slc, g, Nat.mul_one]
    rw [if_pos (by omega)]
  have hne : ¬ ((i : Int) = ((i + 1 : Nat) : Int)) := by omega
  by_cases hm : n - (i + 1) = 0
  · have ha : asem (.app 22 1 24 (slc b 0 i k) (slc b (i + 1) (n - (i + 1)) (k - (i + 1)))) H = some (slc b 0 i k, H) := by
      rw [hm] at el ⊢
      have : asem (.app 22 1 24 (slc b 0 i k) (slc b (i + 1) 0 (k - (i + 1)))) H = appA H 22 1 24 (slc b 0 i k) 0 ((d.drop (i + 1)).take 0) := by
        simp only [asem, slc] at el ⊢; rw [el]
      rw [this]; simp [appA, slc]
    have s4 := a_slslc g (lo := some (.int .i64 (i : Nat))) (hi := some (.int .i64 (n : Nat))) (mx := none) (n := i) (k := k) (m := k) (h := n) (l := i) (bnd_none _ _) (bnd_some _ _ _ _ (by omega)) (bnd_some _ _ _ _ (by omega)) 0
    simp only [Nat.zero_add] at s4
    have hc : asem (.clr 1 [.slice none 0 0] (slc b i (n - i) (k - i))) H = some (.tuple #[], H.set b (.cells true room 1 (d.take i ++ (List.replicate (n - i) [Value.slice none 0 0]).flatten ++ d.drop (i + (n - i))) 22)) := by
      simp only [asem, slc, g, Nat.mul_one]
      rw [if_neg (by omega), if_pos ⟨trivial, by omega, rfl, rfl⟩]
    simp (disch := first | assumption | omega | (simp only [LN] <;> omega) | (simp (disch := first | assumption | omega | (simp only [LN] <;> omega)) only [row_alloc, row_set]; assumption)) only [f95, W_block, P3, ↓reduceIte, reduceAdd, reduceEqDiff, reduceCtorEq, initFr, reduceLT, clsA, reduceLeDiff, reduceMul, reduceSub, reduceIte, s1, s2, s3, s4, ha, hc]
    have hfl : (List.replicate (n - i) [Value.slice none 0 0]).flatten.length = n - i := by simp
    refine hq2 _ _ ⟨_, rfl, .inr ⟨b, k, room, _, by rw [show n - 1 = i by omega]; rfl, by omega, ?_, ?_, AHeap.get_set_same g _⟩, (Chg.set H lb _).mono (by simp [blkL, blk, slc]), rfl⟩
    · rw [List.length_append, List.length_append, List.length_take, List.length_drop, hfl]; omega
    · rw [hm, List.take_zero, List.append_nil, show (n - 1) * 1 = i by omega, List.append_assoc, List.take_append_of_le_length (by rw [List.length_take]; omega), List.take_take, Nat.min_self]
  · have hnl : ((d.drop (i + 1)).take (n - (i + 1))).length = n - (i + 1) := by rw [List.length_take, List.length_drop]; omega
    obtain ⟨news, hnews⟩ : ∃ x, x = (d.drop (i + 1)).take (n - (i + 1)) := ⟨_, rfl⟩
    rw [← hnews] at el hnl hq2
    have ha : asem (.app 22 1 24 (slc b 0 i k) (slc b (i + 1) (n - (i + 1)) (k - (i + 1)))) H = some (slc b 0 (n - 1) k, H.set b (.cells true room 1 (d.take i ++ news ++ d.drop (i + (n - (i + 1)))) 22)) := by
      have : asem (.app 22 1 24 (slc b 0 i k) (slc b (i + 1) (n - (i + 1)) (k - (i + 1)))) H = appA H 22 1 24 (slc b 0 i k) (n - (i + 1)) news := by
        simp only [asem, slc] at el ⊢; rw [el]
      rw [this]
      simp only [appA, slc]
      rw [if_neg hm, if_pos (by omega)]
      simp only [g, true_and, Nat.mul_one, Nat.zero_add]
      rw [if_pos (by omega), if_pos (by omega), if_pos trivial, hnl, show i + (n - (i + 1)) = n - 1 by omega]
    obtain ⟨d2, hd2⟩ : ∃ x, x = d.take i ++ news ++ d.drop (i + (n - (i + 1))) := ⟨_, rfl⟩
    have hl2 : d2.length = k := by rw [hd2, List.length_append, List.length_append, List.length_take, List.length_drop, hnl]; omega
    rw [← hd2] at ha
    have g2 : (H.set b (.cells true room 1 d2 22)).get b = some (.cells true room 1 d2 22) := AHeap.get_set_same g _
    have s4 := a_slslc g2 (lo := some (.int .i64 ((n - 1 : Nat) : Int))) (hi := some (.int .i64 (n : Nat))) (mx := none) (n := n - 1) (k := k) (m := k) (h := n) (l := n - 1) (bnd_none _ _) (bnd_some _ _ _ _ (by omega)) (bnd_some _ _ _ _ (by omega)) 0
    simp only [Nat.zero_add] at s4
    have hc : asem (.clr 1 [.slice none 0 0] (slc b (n - 1) (n - (n - 1)) (k - (n - 1)))) (H.set b (.cells true room 1 d2 22)) = some (.tuple #[], H.set b (.cells true room 1 (d2.take (n - 1) ++ (List.replicate (n - (n - 1)) [Value.slice none 0 0]).flatten ++ d2.drop (n - 1 + (n - (n - 1)))) 22)) := by
      simp only [asem, slc, g2, Nat.mul_one]
      rw [if_neg (by omega), if_pos ⟨trivial, by omega, rfl, rfl⟩, set_set]
    have hpos : 0 < n := by omega
    simp (disch := first | assumption | omega | (simp only [LN] <;> omega) | (simp (disch := first | assumption | omega | (simp only [LN] <;> omega)) only [row_alloc, row_set]; assumption)) only [f95, W_block, P3, ↓reduceIte, reduceAdd, reduceEqDiff, reduceCtorEq, initFr, reduceLT, clsA, reduceLeDiff, reduceMul, reduceSub, reduceIte, s1, s2, s3, ha, s4, hc]
    have hfl : (List.replicate (n - (n - 1)) [Value.slice none 0 0]).flatten.length = n - (n - 1) := by simp
    refine hq2 _ _ ⟨_, rfl, .inr ⟨b, k, room, _, rfl, by omega, ?_, ?_, AHeap.get_set_same g _⟩, (Chg.set H lb _).mono (by simp [blkL, blk, slc]), rfl⟩
    · rw [List.length_append, List.length_append, List.length_take, List.length_drop, hfl]; omega
    · rw [Nat.mul_one, List.append_assoc, List.take_append_of_le_length (by rw [List.length_take]; omega), List.take_take, Nat.min_self, hd2, List.take_append_of_le_length (by rw [List.length_append, List.length_take, hnl]; omega), List.take_of_length_le (by rw [List.length_append, List.length_take, hnl]; omega)]
theorem Sl.at1 {H : AHeap} {v : Value} {n : Nat} {c : List Value} {e : Nat} (h : WR H e 1 v n c) {i : Nat} {x : Value} (hx : c[i]? = some x) : nnS v = true ∧ rowA H 1 v i = some [x] := by
  rcases h with ⟨rfl, rfl, rfl⟩ | ⟨b, k, room, d, rfl, h1, h2, rfl, g⟩
  · simp at hx
  · rw [Nat.mul_one] at h2 hx
    obtain ⟨hl, hx⟩ := List.getElem?_eq_some_iff.1 hx
    rw [List.length_take] at hl
    rw [List.getElem_take] at hx
    refine ⟨rfl, ?_⟩
    simp only [rowA, slc, rangeA, g, Nat.zero_add, Nat.mul_one]
    rw [if_pos (by omega), ← hx, List.drop_eq_getElem_cons (by omega)]
    rfl
section
variable {H : AHeap} {b : Nat} {wv : Value} {its : List It}
theorem t55no (h : WI b wv its H) (hl : its.length ≤ 1000) {i : Int} (hi : i < 0 ∨ (its.length : Int) ≤ i) : ∃ w H', ARun Go.Proofs.Try.prog 0 55 [ptr b 0, .int .i64 i] H w H' ∧ w = .tuple #[.slice none 0 0, .int .i64 5] ∧ H' = H := by
  refine walk2 f55_ok f55_n ?_
  intro Q hq1 hq2
  simp (disch := first | assumption | omega | (simp only [LN] <;> omega) | (simp (disch := first | assumption | omega | (simp only [LN] <;> omega)) only [row_alloc, row_set]; assumption)) only [f55, W_block, P3, ↓reduceIte, reduceAdd, reduceEqDiff, reduceCtorEq, initFr, reduceLT, clsA, reduceLeDiff, reduceMul, reduceSub, reduceIte]
  refine callP (t94 h hl i false) ?_
  rw [show askE its.length i false = 5 by rw [askE, if_pos hi]]
  simp (disch := first | assumption | omega | (simp only [LN] <;> omega) | (simp (disch := first | assumption | omega | (simp only [LN] <;> omega)) only [row_alloc, row_set]; assumption)) only [W_block, P3, ↓reduceIte, reduceAdd, reduceEqDiff, reduceCtorEq, initFr, reduceLT, clsA, reduceLeDiff, reduceMul, reduceSub, reduceIte]
  exact hq2 _ _ ⟨_, rfl, rfl, rfl⟩
theorem flat_erase {α : Type} (f : α → List Nat) : ∀ {l : List α}, (l.flatMap f).Nodup → ∀ i, ((l.eraseIdx i).flatMap f).Nodup
  | [], h, i => by simp
  | a :: l, h, 0 => by
    rw [List.flatMap_cons, List.nodup_append] at h
    exact h.2.1
  | a :: l, h, i + 1 => by
    rw [List.flatMap_cons, List.nodup_append] at h
    rw [List.eraseIdx_cons_succ, List.flatMap_cons, List.nodup_append]
    refine ⟨h.1, flat_erase f h.2.1 i, fun x hx y hy => h.2.2 x hx y ?_⟩
    obtain ⟨z, hz, hy⟩ := List.mem_flatMap.1 hy
    exact List.mem_flatMap.2 ⟨z, List.mem_of_mem_eraseIdx hz, hy⟩
theorem erase_map {α β : Type} (f : α → β) : ∀ (l : List α) (i : Nat), (l.eraseIdx i).map f = (l.map f).eraseIdx i
  | [], i => by simp
  | a :: l, 0 => by simp
  | a :: l, i + 1 => by simp [erase_map f l i]
theorem wF_erase {b : Nat} {wv wv' : Value} {its : List It} (hnd : (wF b wv its).Nodup) (hb : blk wv' = blk wv) (i : Nat) : (wF b wv' (its.eraseIdx i)).Nodup := by
  have e : blkL wv' = blkL wv := by unfold blkL; rw [hb]
  obtain ⟨h1, h2, h3, h4⟩ := wF_nd.1 hnd
  refine wF_nd.2 ⟨by rw [e]; exact h1, fun it hit => h2 it (List.mem_of_mem_eraseIdx hit), fun y hy it hit => h3 y (by rw [← e]; exact hy) it (List.mem_of_mem_eraseIdx hit), ?_⟩
  exact flat_erase _ h4 i
theorem t55 (h : WI b wv its H) (hl : its.length ≤ 1000) {i : Nat} {it : It} (hit : its[i]? = some it) :
    ∃ w H', ARun Go.Proofs.Try.prog 0 55 [ptr b 0, .int .i64 (i : Nat)] H w H' ∧ w = .tuple #[it.1, .int .i64 0] ∧ ∃ wv', WI b wv' (its.eraseIdx i) H' ∧ AP H' 5 1 it.1 it.2.length (cellsOf it.2) ∧ Chg (b :: blkL wv) H H' ∧ blk wv' = blk wv := by
  obtain ⟨hil, hie⟩ := List.getElem?_eq_some_iff.1 hit
  have hmem : it ∈ its := List.mem_of_getElem? hit
  have hx : (its.map (·.1))[i]? = some it.1 := by rw [List.getElem?_map, hit]; rfl
  obtain ⟨hnn, hrow⟩ := Sl.at1 h.w hx
  refine walk2 f55_ok f55_n ?_
  intro Q hq1 hq2
  have e1 := h.w.is
  have e2 := h.w.lenS
  simp (disch := first | assumption | omega | (simp only [LN] <;> omega) | (simp (disch := first | assumption | omega | (simp only [LN] <;> omega)) only [row_alloc, row_set]; assumption)) only [f55, W_block, P3, ↓reduceIte, reduceAdd, reduceEqDiff, reduceCtorEq, initFr, reduceLT, clsA, reduceLeDiff, reduceMul, reduceSub, reduceIte]
  refine callP (t94 h hl i false) ?_
  rw [show askE its.length i false = 0 by rw [askE, if_neg (by omega), if_neg (by simp)]]
  have w1 : IntKind.i64.wrap ((i : Int) + 1) = ((i + 1 : Nat) : Int) := wrap_succ (by omega)
  have oi : it.1.oneCell' = true := by obtain ⟨a, ha⟩ := (h.a it hmem).shape; rw [ha]; rfl
  simp (disch := first | assumption | omega | (simp only [LN] <;> omega) | (simp (disch := first | assumption | omega | (simp only [LN] <;> omega)) only [row_alloc, row_set]; assumption)) only [W_block, P3, ↓reduceIte, reduceAdd, reduceEqDiff, reduceCtorEq, initFr, reduceLT, clsA, reduceLeDiff, reduceMul, reduceSub, reduceIte, h.g, hrow, w1]
  refine callK (t95 h.w hil (by omega)) ?_
  rintro wv' K ⟨w', c', hb'⟩
  obtain ⟨n1, n2, n3, n4⟩ := wF_nd.1 h.nd
  have g' : K.get b = some (.cells true false 1 [wv] 113) := c'.at_ h.g n1
  have lb' := AHeap.get_lt g'
  have ov' : wv'.oneCell' = true := w'.one
  have cs := Chg.set K lb' (.cells true false 1 [wv'] 113)
  simp (disch := first | assumption | omega | (simp only [LN] <;> omega) | (simp (disch := first | assumption | omega | (simp only [LN] <;> omega)) only [row_alloc, row_set]; assumption)) only [W_block, P3, ↓reduceIte, reduceAdd, reduceEqDiff, reduceCtorEq, initFr, reduceLT, clsA, reduceLeDiff, reduceMul, reduceSub, reduceIte, g', ov', List.set_cons_zero]
  have stay : ∀ it ∈ its, AP (K.set b (.cells true false 1 [wv'] 113)) 5 1 it.1 it.2.length (cellsOf it.2) := fun it hit =>
    ((h.a it hit).chg c' (fun y hy hy2 => n3 y hy2 it hit hy)).chg cs (fun y hy => by simp; intro e; subst e; exact n2 it hit hy)
  refine hq2 _ _ ⟨_, rfl, rfl, wv', ⟨AHeap.get_set_same g' _, ?_, fun it hit => stay it (List.mem_of_mem_eraseIdx hit), wF_erase h.nd hb' i⟩, stay it hmem, ?_, hb'⟩
  · have : WR K 22 1 wv' (its.eraseIdx i).length ((its.eraseIdx i).map (·.1)) := by
      rw [List.length_eraseIdx_of_lt hil, erase_map]; exact w'
    exact this.chg cs (fun y hy => by simp; intro e; subst e; apply n1; unfold blkL at hy ⊢; rw [← hb']; exact hy)
  · exact (c'.mono (fun y hy => by simp [hy])).trans cs (fun y hy => .inl (by simp at hy; simp [hy]))
theorem t57no (h : WI b wv its H) (hl : its.length ≤ 1000) {i : Int} (hi : askE its.length i true ≠ 0) : ∃ w H', ARun Go.Proofs.Try.prog 0 57 [ptr b 0, .int .i64 i] H w H' ∧ w = .int .i64 (askE its.length i true) ∧ H' = H := by
  refine walk2 f57_ok f57_n ?_
  intro Q hq1 hq2
  simp (disch := first | assumption | omega | (simp only [LN] <;> omega) | (simp (disch := first | assumption | omega | (simp only [LN] <;> omega)) only [row_alloc, row_set]; assumption)) only [f57, W_block, P3, ↓reduceIte, reduceAdd, reduceEqDiff, reduceCtorEq, initFr, reduceLT, clsA, reduceLeDiff, reduceMul, reduceSub, reduceIte]
  refine callP (t94 h hl i true) ?_
  simp (disch := first | assumption | omega | (simp only [LN] <;> omega) | (simp (disch := first | assumption | omega | (simp only [LN] <;> omega)) only [row_alloc, row_set]; assumption)) only [W_block, P3, ↓reduceIte, reduceAdd, reduceEqDiff, reduceCtorEq, initFr, reduceLT, clsA, reduceLeDiff, reduceMul, reduceSub, reduceIte, hi]
  exact hq2 _ _ ⟨_, rfl, rfl, rfl⟩
theorem t57 (h : WI b wv its H) (hl : its.length < 64) {i : Nat} {it : It} (hit : its[i]? = some it) (hB : it.2.length ≤ 1000000) :
    ∃ w H', ARun Go.Proofs.Try.prog 0 57 [ptr b 0, .int .i64 (i : Nat)] H w H' ∧ w = .int .i64 0 ∧ ∃ wv' v', WI b wv' (its ++ [(v', it.2)]) H' ∧ Chg (b :: blkL wv) H H' ∧ (∀ y ∈ wF b wv' (its ++ [(v', it.2)]), y ∈ wF b wv its ∨ H.n ≤ y) := by
  obtain ⟨hil, hie⟩ := List.getElem?_eq_some_iff.1 hit
  have hmem : it ∈ its := List.mem_of_getElem? hit
  have hx : (its.map (·.1))[i]? = some it.1 := by rw [List.getElem?_map, hit]; rfl
  obtain ⟨hnn, hrow⟩ := Sl.at1 h.w hx
  refine walk2 f57_ok f57_n ?_
  intro Q hq1 hq2
  have e1 := h.w.is
  have e2 := h.w.lenS
  simp (disch := first | assumption | omega | (simp only [LN] <;> omega) | (simp (disch := first | assumption | omega | (simp only [LN] <;> omega)) only [row_alloc, row_set]; assumption)) only [f57, W_block, P3, ↓reduceIte, reduceAdd, reduceEqDiff, reduceCtorEq, initFr, reduceLT, clsA, reduceLeDiff, reduceMul, reduceSub, reduceIte]
  refine callP (t94 h (by omega) i true) ?_
  rw [show askE its.length i true = 0 by rw [askE, if_neg (by omega), if_neg (by omega)]]
  simp (disch := first | assumption | omega | (simp only [LN] <;> omega) | (simp (disch := first | assumption | omega | (simp only [LN] <;> omega)) only [row_alloc, row_set]; assumption)) only [W_block, P3, ↓reduceIte, reduceAdd, reduceEqDiff, reduceCtorEq, initFr, reduceLT, clsA, reduceLeDiff, reduceMul, reduceSub, reduceIte, h.g, hrow]
  refine callK (t59 h (h.a it hmem).bs hB hl) ?_
  rintro _ K ⟨rfl, r⟩
  simp (disch := first | assumption | omega | (simp only [LN] <;> omega) | (simp (disch := first | assumption | omega | (simp only [LN] <;> omega)) only [row_alloc, row_set]; assumption)) only [W_block, P3, ↓reduceIte, reduceAdd, reduceEqDiff, reduceCtorEq, initFr, reduceLT, clsA, reduceLeDiff, reduceMul, reduceSub, reduceIte]
  exact hq2 _ _ ⟨_, rfl, rfl, r⟩
end
end Go.AM.Fd

set_option linter.unusedSimpArgs false
set_option linter.unusedVariables false
namespace Go.AM.Fd
open Nat (reduceAdd reduceEqDiff reduceLT reduceLeDiff reduceMul reduceSub)
open Go.Proofs Go.AM.F
structure RI (b : Nat) (mv : Value) (Bs : List (List UInt8)) (K : AHeap) : Prop where
  g : K.get b = some (.cells true false 1 [mv] 117)
  w : AP K 9 1 mv Bs.length (Bs.map strB)
  nd : b ∉ blkL mv
theorem RI.chg {b : Nat} {mv : Value} {Bs : List (List UInt8)} {K K' : AHeap} {S : List Nat} (h : RI b mv Bs K) (k : Chg S K K') (hS : ∀ y, y = b ∨ y ∈ blkL mv → y ∉ S) : RI b mv Bs K' :=
  ⟨k.at_ h.g (hS b (.inl rfl)), h.w.chg k (fun y hy => hS y (.inr hy)), h.nd⟩
theorem AP.is' {H : AHeap} {e esz : Nat} {v : Value} {n : Nat} {c : List Value} (h : AP H e esz v n c) : isS v = true ∧ lenS v = n := by obtain ⟨a, rfl⟩ := h.shape; exact ⟨rfl, rfl⟩
section
variable {H : AHeap} {b : Nat} {mv : Value} {Bs : List (List UInt8)}
theorem RI.lt (h : RI b mv Bs H) : ∀ y, y = b ∨ y ∈ blkL mv → y < H.n := by
  rintro y (rfl | hy)
  · exact AHeap.get_lt h.g
  · exact h.w.lt (mem_blkL.1 hy)
theorem t60no (h : RI b mv Bs H) {x : Value} (hl : 64 ≤ Bs.length) : ∃ w H', ARun Go.Proofs.Try.prog 0 60 [ptr b 0, x] H w H' ∧ w = .int .i64 3 ∧ H' = H := by
  refine walk2 f60_ok f60_n ?_
  intro Q hq1 hq2
  obtain ⟨e1, e2⟩ := AP.is' h.w
  simp (disch := first | assumption | omega | (simp only [LN] <;> omega) | (simp (disch := first | assumption | omega | (simp only [LN] <;> omega)) only [row_alloc, row_set]; assumption)) only [f60, W_block, P3, ↓reduceIte, reduceAdd, reduceEqDiff, reduceCtorEq, initFr, reduceLT, clsA, reduceLeDiff, reduceMul, reduceSub, reduceIte, h.g, e2]
  exact hq2 _ _ ⟨_, rfl, rfl, rfl⟩
theorem fillT1 (B : List UInt8) : fillA [.string ByteArray.empty] [(0, 1, strB B)] = some [strB B] := rfl
theorem t60 (h : RI b mv Bs H) {B : List UInt8} (hl : Bs.length < 64) :
    ∃ w H', ARun Go.Proofs.Try.prog 0 60 [ptr b 0, strB B] H w H' ∧ w = .int .i64 0 ∧ ∃ mv', RI b mv' (Bs ++ [B]) H' ∧ Chg (b :: blkL mv) H H' ∧ (∀ y ∈ blkL mv', y ∈ blkL mv ∨ H.n ≤ y) := by
  refine walk2 f60_ok f60_n ?_
  intro Q hq1 hq2
  obtain ⟨e1, e2⟩ := AP.is' h.w
  have lb := AHeap.get_lt h.g
  have ob : (strB B).oneCell' = true := rfl
  have k1 := (Keeps.refl H).alloc (.cells true false 1 [strB B] 9)
  simp (disch := first | assumption | omega | (simp only [LN] <;> omega) | (simp (disch := first | assumption | omega | (simp only [LN] <;> omega)) only [row_alloc, row_set]; assumption)) only [f60, W_block, P3, ↓reduceIte, reduceAdd, reduceEqDiff, reduceCtorEq, initFr, reduceLT, clsA, reduceLeDiff, reduceMul, reduceSub, reduceIte, h.g, e2, fillT1, ob]
  refine appG (h.w.keeps k1) ⟨_, _, rfl⟩ (elems_new rfl rfl) rfl (by omega) ?_
  intro v' K' w' c' hb'
  have hv' : ∀ y ∈ blkL v', y ∈ blkL mv ∨ H.n ≤ y := fun y hy => by
    rcases hb' with e | e
    · exact .inl (by unfold blkL at hy ⊢; rw [e] at hy; exact hy)
    · right
      have := mem_blkL.1 hy
      rw [e, alloc_n] at this
      cases this; omega
  have hbv : b ∉ blkL v' := fun hy => by
    rcases hv' b hy with h' | h'
    · exact h.nd h'
    · omega
  have g' : K'.get b = some (.cells true false 1 [mv] 117) := c'.at_ (k1.at_ h.g) h.nd
  have lb' := AHeap.get_lt g'
  have ov' : v'.oneCell' = true := by obtain ⟨a, rfl⟩ := w'.shape; rfl
  have cs := Chg.set K' lb' (.cells true false 1 [v'] 117)
  simp (disch := first | assumption | omega | (simp only [LN] <;> omega) | (simp (disch := first | assumption | omega | (simp only [LN] <;> omega)) only [row_alloc, row_set]; assumption)) only [W_block, P3, ↓reduceIte, reduceAdd, reduceEqDiff, reduceCtorEq, initFr, reduceLT, clsA, reduceLeDiff, reduceMul, reduceSub, reduceIte, g', ov', List.set_cons_zero]
  refine hq2 _ _ ⟨_, rfl, rfl, v', ⟨AHeap.get_set_same g' _, ?_, hbv⟩, ?_, hv'⟩
  · have : AP K' 9 1 v' (Bs ++ [B]).length ((Bs ++ [B]).map strB) := by rw [List.length_append, List.map_append]; exact w'
    exact this.chg cs (fun y hy => by simp; intro e; subst e; exact hbv hy)
  · exact ((k1.chg (b :: blkL mv)).trans c' (fun y hy => .inl (by simp [hy]))).trans cs (fun y hy => .inl (by simp at hy; simp [hy]))
theorem t58no (h : RI b mv Bs H) (hl : Bs.length ≤ 1000) {i : Int} (hi : askE Bs.length i true ≠ 0) : ∃ w H', ARun Go.Proofs.Try.prog 0 58 [ptr b 0, .int .i64 i] H w H' ∧ w = .int .i64 (askE Bs.length i true) ∧ H' = H := by
  refine walk2 f58_ok f58_n ?_
  intro Q hq1 hq2
  obtain ⟨e1, e2⟩ := AP.is' h.w
  by_cases h1 : i < 0
  · simp (disch := first | assumption | omega | (simp only [LN] <;> omega) | (simp (disch := first | assumption | omega | (simp only [LN] <;> omega)) only [row_alloc, row_set]; assumption)) only [f58, W_block, P3, ↓reduceIte, reduceAdd, reduceEqDiff, reduceCtorEq, initFr, reduceLT, clsA, reduceLeDiff, reduceMul, reduceSub, reduceIte, h.g, e2]
    exact hq2 _ _ ⟨_, rfl, by rw [askE, if_pos (.inl h1)]; rfl, rfl⟩
  by_cases h2 : (Bs.length : Int) ≤ i
  · simp (disch := first | assumption | omega | (simp only [LN] <;> omega) | (simp (disch := first | assumption | omega | (simp only [LN] <;> omega)) only [row_alloc, row_set]; assumption)) only [f58, W_block, P3, ↓reduceIte, reduceAdd, reduceEqDiff, reduceCtorEq, initFr, reduceLT, clsA, reduceLeDiff, reduceMul, reduceSub, reduceIte, h.g, e2]
    exact hq2 _ _ ⟨_, rfl, by rw [askE, if_pos (.inr h2)]; rfl, rfl⟩
  have h12 : ¬ (i < 0 ∨ (Bs.length : Int) ≤ i) := by omega
  have h3 : 64 ≤ Bs.length := by
    by_cases h3 : 64 ≤ Bs.length
    · exact h3
    · rw [askE, if_neg h12, if_neg (by omega)] at hi; exact absurd rfl hi
  have ha : askE Bs.length i true = 3 := by rw [askE, if_neg h12, if_pos ⟨rfl, h3⟩]
  rw [ha] at hq2
  obtain ⟨m, rfl⟩ : ∃ m : Nat, i = m := ⟨i.toNat, by omega⟩
  have hm : m < Bs.length := by omega
  have hx : (Bs.map strB)[m]? = some (strB Bs[m]) := by rw [List.getElem?_map, List.getElem?_eq_getElem hm]; rfl
  obtain ⟨hnn, hrow⟩ := Sl.at1 h.w.wr hx
  simp (disch := first | assumption | omega | (simp only [LN] <;> omega) | (simp (disch := first | assumption | omega | (simp only [LN] <;> omega)) only [row_alloc, row_set]; assumption)) only [f58, W_block, P3, ↓reduceIte, reduceAdd, reduceEqDiff, reduceCtorEq, initFr, reduceLT, clsA, reduceLeDiff, reduceMul, reduceSub, reduceIte, h.g, e2, hrow]
  refine callP (t60no h h3) ?_
  simp (disch := first | assumption | omega | (simp only [LN] <;> omega) | (simp (disch := first | assumption | omega | (simp only [LN] <;> omega)) only [row_alloc, row_set]; assumption)) only [W_block, P3, ↓reduceIte, reduceAdd, reduceEqDiff, reduceCtorEq, initFr, reduceLT, clsA, reduceLeDiff, reduceMul, reduceSub, reduceIte]
  exact hq2 _ _ ⟨_, rfl, rfl, rfl⟩
theorem t58 (h : RI b mv Bs H) (hl : Bs.length < 64) {i : Nat} (hi : i < Bs.length) :
    ∃ w H', ARun Go.Proofs.Try.prog 0 58 [ptr b 0, .int .i64 (i : Nat)] H w H' ∧ w = .int .i64 0 ∧ ∃ mv', RI b mv' (Bs ++ [Bs[i]]) H' ∧ Chg (b :: blkL mv) H H' ∧ (∀ y ∈ blkL mv', y ∈ blkL mv ∨ H.n ≤ y) := by
  refine walk2 f58_ok f58_n ?_
  intro Q hq1 hq2
  obtain ⟨e1, e2⟩ := AP.is' h.w
  have hx : (Bs.map strB)[i]? = some (strB Bs[i]) := by rw [List.getElem?_map, List.getElem?_eq_getElem hi]; rfl
  obtain ⟨hnn, hrow⟩ := Sl.at1 h.w.wr hx
  simp (disch := first | assumption | omega | (simp only [LN] <;> omega) | (simp (disch := first | assumption | omega | (simp only [LN] <;> omega)) only [row_alloc, row_set]; assumption)) only [f58, W_block, P3, ↓reduceIte, reduceAdd, reduceEqDiff, reduceCtorEq, initFr, reduceLT, clsA, reduceLeDiff, reduceMul, reduceSub, reduceIte, h.g, e2, hrow]
  refine callK (t60 h hl) ?_
  rintro _ K ⟨rfl, r⟩
  simp (disch := first | assumption | omega | (simp only [LN] <;> omega) | (simp (disch := first | assumption | omega | (simp only [LN] <;> omega)) only [row_alloc, row_set]; assumption)) only [W_block, P3, ↓reduceIte, reduceAdd, reduceEqDiff, reduceCtorEq, initFr, reduceLT, clsA, reduceLeDiff, reduceMul, reduceSub, reduceIte]
  exact hq2 _ _ ⟨_, rfl, rfl, r⟩
theorem t56no (h : RI b mv Bs H) {i : Int} (hl : Bs.length ≤ 1000) (hi : i < 0 ∨ (Bs.length : Int) ≤ i) : ∃ w H', ARun Go.Proofs.Try.prog 0 56 [ptr b 0, .int .i64 i] H w H' ∧ w = .tuple #[strB [], .int .i64 5] ∧ H' = H := by
  refine walk2 f56_ok f56_n ?_
  intro Q hq1 hq2
  obtain ⟨e1, e2⟩ := AP.is' h.w
  by_cases h1 : i < 0
  · simp (disch := first | assumption | omega | (simp only [LN] <;> omega) | (simp (disch := first | assumption | omega | (simp only [LN] <;> omega)) only [row_alloc, row_set]; assumption)) only [f56, W_block, P3, ↓reduceIte, reduceAdd, reduceEqDiff, reduceCtorEq, initFr, reduceLT, clsA, reduceLeDiff, reduceMul, reduceSub, reduceIte, h.g, e2]
    exact hq2 _ _ ⟨_, rfl, rfl, rfl⟩
  · have h2 : (Bs.length : Int) ≤ i := by omega
    simp (disch := first | assumption | omega | (simp only [LN] <;> omega) | (simp (disch := first | assumption | omega | (simp only [LN] <;> omega)) only [row_alloc, row_set]; assumption)) only [f56, W_block, P3, ↓reduceIte, reduceAdd, reduceEqDiff, reduceCtorEq, initFr, reduceLT, clsA, reduceLeDiff, reduceMul, reduceSub, reduceIte, h.g, e2]
    exact hq2 _ _ ⟨_, rfl, rfl, rfl⟩
set_option maxHeartbeats 1000000 in
theorem t56 (h : RI b mv Bs H) (hl : Bs.length ≤ 1000) {i : Nat} (hi : i < Bs.length) :
    ∃ w H', ARun Go.Proofs.Try.prog 0 56 [ptr b 0, .int .i64 (i : Nat)] H w H' ∧ w = .tuple #[strB Bs[i], .int .i64 0] ∧ ∃ mv', RI b mv' (Bs.eraseIdx i) H' ∧ Chg (b :: blkL mv) H H' ∧ (∀ y ∈ blkL mv', y ∈ blkL mv ∨ H.n ≤ y) := by
  refine walk2 f56_ok f56_n ?_
  intro Q hq1 hq2
  obtain ⟨e1, e2⟩ := AP.is' h.w
  have hx : (Bs.map strB)[i]? = some (strB Bs[i]) := by rw [List.getElem?_map, List.getElem?_eq_getElem hi]; rfl
  obtain ⟨hnn, hrow⟩ := Sl.at1 h.w.wr hx
  have w1 : IntKind.i64.wrap ((i : Int) + 1) = ((i + 1 : Nat) : Int) := wrap_succ (by omega)
  have oi : (strB Bs[i]).oneCell' = true := rfl
  have lb := AHeap.get_lt h.g
  rcases h.w with ⟨_, h0, _⟩ | ⟨y, room, rfl, hc, g⟩
  · omega
  have hcl : (Bs.map strB).length = Bs.length := by simp
  have ly := AHeap.get_lt g
  have hyb : y ≠ b := fun e => h.nd (by subst e; exact mem_blkL.2 rfl)
  have s2 := a_slslc g (lo := none) (hi := some (.int .i64 (i : Nat))) (mx := none) (n := Bs.length) (k := Bs.length) (m := Bs.length) (h := i) (l := 0) (bnd_none _ _) (bnd_some _ _ _ _ (by omega)) (bnd_none _ _) 0
  simp only [Nat.zero_add, Nat.sub_zero] at s2
  have el2 : elemsA H 1 (slc y 0 i Bs.length) = some ((Bs.map strB).take i) := by
    simp only [elemsA, slc, g, Nat.mul_one]
    rw [if_pos (by omega), List.drop_zero]
  simp (disch := first | assumption | omega | (simp only [LN] <;> omega) | (simp (disch := first | assumption | omega | (simp only [LN] <;> omega)) only [row_alloc, row_set]; assumption)) only [f56, W_block, P3, ↓reduceIte, reduceAdd, reduceEqDiff, reduceCtorEq, initFr, reduceLT, clsA, reduceLeDiff, reduceMul, reduceSub, reduceIte, h.g, e2, hrow, s2]
  refine appG (.inl ⟨rfl, rfl, rfl⟩) ⟨_, _, rfl⟩ el2 (by rw [List.length_take, hcl]; omega) (by omega) ?_
  intro v1 K1 a1 c1 hb1
  have k1 : Keeps H K1 := c1.keeps (by simp [blkL, blk])
  rw [Nat.zero_add, List.nil_append] at a1
  have g1 := k1.at_ h.g
  have gy1 := k1.at_ g
  have s3 := a_slslc gy1 (lo := some (.int .i64 ((i + 1 : Nat) : Int))) (hi := none) (mx := none) (n := Bs.length) (k := Bs.length) (m := Bs.length) (h := Bs.length) (l := i + 1) (bnd_none _ _) (bnd_none _ _) (bnd_some _ _ _ _ (by omega)) 0
  simp only [Nat.zero_add] at s3
  have el3 : elemsA K1 1 (slc y (i + 1) (Bs.length - (i + 1)) (Bs.length - (i + 1))) = some (((Bs.map strB).drop (i + 1)).take (Bs.length - (i + 1))) := by
    simp only [elemsA, slc, gy1, Nat.mul_one]
    rw [if_pos (by omega)]
  simp (disch := first | assumption | omega | (simp only [LN] <;> omega) | (simp (disch := first | assumption | omega | (simp only [LN] <;> omega)) only [row_alloc, row_set]; assumption)) only [W_block, P3, ↓reduceIte, reduceAdd, reduceEqDiff, reduceCtorEq, initFr, reduceLT, clsA, reduceLeDiff, reduceMul, reduceSub, reduceIte, g1, w1, s3]
  refine appG a1 ⟨_, _, rfl⟩ el3 (by rw [List.length_take, List.length_drop, hcl]; omega) (by omega) ?_
  intro v2 K2 a2 c2 hb2
  have hf1 : ∀ z ∈ blkL v1, H.n ≤ z := fun z hz => by
    have := mem_blkL.1 hz
    rcases hb1 with e | e
    · rw [e] at this; cases this
    · rw [e] at this; cases this; omega
  have hf2 : ∀ z ∈ blkL v2, H.n ≤ z := fun z hz => by
    have hz' := mem_blkL.1 hz
    rcases hb2 with e | e
    · exact hf1 z (mem_blkL.2 (by rw [← e]; exact hz'))
    · rw [e] at hz'; cases hz'; exact k1.n
  have k2 : Keeps H K2 := k1.chg_trans c2 hf1
  have g2 := k2.at_ h.g
  have lb2 := AHeap.get_lt g2
  have ov2 : v2.oneCell' = true := by obtain ⟨a, rfl⟩ := a2.shape; rfl
  have cs := Chg.set K2 lb2 (.cells true false 1 [v2] 117)
  have hbv : b ∉ blkL v2 := fun hz => by have := hf2 b hz; omega
  simp (disch := first | assumption | omega | (simp only [LN] <;> omega) | (simp (disch := first | assumption | omega | (simp only [LN] <;> omega)) only [row_alloc, row_set]; assumption)) only [W_block, P3, ↓reduceIte, reduceAdd, reduceEqDiff, reduceCtorEq, initFr, reduceLT, clsA, reduceLeDiff, reduceMul, reduceSub, reduceIte, g2, ov2, List.set_cons_zero]
  refine hq2 _ _ ⟨_, rfl, rfl, v2, ⟨AHeap.get_set_same g2 _, ?_, hbv⟩, ?_, fun z hz => .inr (hf2 z hz)⟩
  · have : AP K2 9 1 v2 (Bs.eraseIdx i).length ((Bs.eraseIdx i).map strB) := by
      have e : (Bs.eraseIdx i).map strB = (Bs.map strB).take i ++ ((Bs.map strB).drop (i + 1)).take (Bs.length - (i + 1)) := by
        rw [erase_map, List.eraseIdx_eq_take_drop_succ, List.take_of_length_le (l := (Bs.map strB).drop (i + 1)) (by rw [List.length_drop, hcl]; omega)]
      rw [e, List.length_eraseIdx_of_lt hi, show Bs.length - 1 = i + (Bs.length - (i + 1)) by omega]
      exact a2
    exact this.chg cs (fun z hz => by simp; intro e; subst e; exact hbv hz)
  · exact (k2.chg _).trans cs (fun z hz => .inl (by simp at hz; simp [hz]))
end
end Go.AM.Fd

set_option linter.unusedSimpArgs false
set_option linter.unusedVariables false
namespace Go.AM
open Nat (reduceAdd reduceEqDiff reduceLT reduceLeDiff reduceMul reduceSub)
def mutL (o i ix ik ic : Nat) : ACode := .loop (.seq (.seq (.reg [
    ⟨.mov (.fr ik), .tm, none⟩,
    ⟨.mov (.fr ix), .tm, none⟩,
    ⟨.len false (.tm 0), .tm, none⟩,
    ⟨.bin .lss (.tm 2) (.tm 0), .fr ic, none⟩]) <|
    .cond (.fr ic)
      (.skip)
      (.exit o)) <|
    .seq (.block i (.reg [
      ⟨.mov (.fr ix), .tm, none⟩,
      ⟨.mov (.fr ik), .tm, none⟩,
      ⟨.mov (.fr ix), .tm, none⟩,
      ⟨.mov (.fr ik), .tm, none⟩,
      ⟨.iaddr 1 (.tm 1) (.tm 0), .tm, none⟩,
      ⟨.load1 (.tm 0), .tm, none⟩,
      ⟨.bin .add (.tm 0) (.c (.int .u8 1)), .tm, none⟩,
      ⟨.iaddr 1 (.tm 6) (.tm 5), .tm, none⟩,
      ⟨.store1 (.tm 0) (.tm 1), .no, none⟩])) <|
    .reg [
    ⟨.mov (.fr ik), .tm, none⟩,
    ⟨.bin .add (.tm 0) (.c (.int .i64 1)), .tm, none⟩,
    ⟨.mov (.tm 0), .fr ik, none⟩])
variable {P : Program} {ng : Nat} {H : AHeap} {Q : AQ} {fr : List Value}
theorem getD_set_same {l : List Value} {i : Nat} (h : i < l.length) (v : Value) : (l.set i v).getD i undef = v := by
  rw [List.getD_eq_getElem?_getD, List.getElem?_set_self h]; rfl
theorem getD_set_other {l : List Value} {i j : Nat} (h : i ≠ j) (v : Value) : (l.set i v).getD j undef = l.getD j undef := by
  rw [List.getD_eq_getElem?_getD, List.getD_eq_getElem?_getD, List.getElem?_set_ne h]
theorem W_mut (o i ix ik ic : Nat) {v : Value} {e : Nat} {l : List UInt8} (hx : fr.getD ix undef = v) (hk : fr.getD ik undef = .int .i64 0) (hik : ik < fr.length) (hic : ic < fr.length) (h1 : ik ≠ ix) (h2 : ic ≠ ix) (h3 : ic ≠ ik)
    (ha : AP H e 1 v l.length (cellsOf l)) (hl : l.length ≤ 1000000000)
    (hq : ∀ H' l', l'.length = l.length → AP H' e 1 v l.length (cellsOf l') → Chg (blkL v) H H' → Q (.exit o) ((fr.set ik (.int .i64 (l.length : Nat))).set ic (.bool false)) H') : W P ng (mutL o i ix ik ic) Q fr H := by
  have his := ha.bs.sl.is
  have hlen := ha.bs.sl.len
  rw [List.length_map] at hlen
  have hF0 : fr = (fr.set ik (.int .i64 ((0 : Nat) : Int))).set ic (fr.getD ic undef) := by
    apply List.ext_getElem?
    intro j
    rw [List.getElem?_set, List.getElem?_set]
    by_cases e1 : ic = j
    · subst e1
      simp only [if_true, List.length_set, hic]
      rw [List.getD_eq_getElem?_getD, List.getElem?_eq_getElem hic]; rfl
    · simp only [e1, if_false]
      by_cases e2 : ik = j
      · subst e2
        simp only [if_true, hik]
        rw [List.getD_eq_getElem?_getD, List.getElem?_eq_getElem hik] at hk
        rw [List.getElem?_eq_getElem hik]
        exact congrArg some hk
      · simp only [e2, if_false]
  refine W_loop2 (fun q f K => ∃ (j : Nat) (l' : List UInt8) (b : Value), j ≤ l.length ∧ q = l.length - j ∧ l'.length = l.length ∧ AP K e 1 v l.length (cellsOf l') ∧ Chg (blkL v) H K ∧ f = (fr.set ik (.int .i64 (j : Nat))).set ic b) l.length ⟨0, l, _, by omega, rfl, rfl, ha, Chg.refl _ _, hF0⟩ ?_
  rintro Q' q f K ⟨j, l', b, hj, rfl, hl', aK, cK, rfl⟩ hnx hex hrt
  have fx : ∀ a b : Value, ((fr.set ik a).set ic b).getD ix undef = v := fun a b => by rw [getD_set_other h2, getD_set_other h1, hx]
  have fk : ∀ a b : Value, ((fr.set ik a).set ic b).getD ik undef = a := fun a b => by rw [getD_set_other h3, getD_set_same hik]
  have fc : ∀ a b : Value, ((fr.set ik a).set ic b).getD ic undef = b := fun a b => getD_set_same (by rw [List.length_set]; exact hic) b
  have sc : ∀ a b c : Value, ((fr.set ik a).set ic b).set ic c = (fr.set ik a).set ic c := fun a b c => by rw [List.set_set]
  have sk : ∀ a b c : Value, ((fr.set ik a).set ic b).set ik c = (fr.set ik c).set ic b := fun a b c => by rw [List.set_comm _ _ h3, List.set_set]
  by_cases hc : j < l.length
  · rcases aK with ⟨_, h0', _⟩ | ⟨bb, room, rfl, h1', gy⟩
    · omega
    have hj' : j < l'.length := by omega
    have py := AHeap.get_lt gy
    simp (disch := first | assumption | omega | (simp only [LN] <;> omega) | (simp (disch := first | assumption | omega | (simp only [LN] <;> omega)) only [row_alloc, row_set]; assumption)) only [W_block, P3, ↓reduceIte, reduceAdd, reduceEqDiff, reduceCtorEq, initFr, reduceLT, clsA, reduceLeDiff, reduceMul, reduceSub, reduceIte, fx, fk, fc, sc, sk, gy, cells_get hj', inc_byte, cellsOf_length, cells_set, wrap_succ (n := j) (by omega)]
    refine hnx _ _ _ ⟨j + 1, l'.set j (UInt8.ofNat (l'[j].toNat + 1)), _, by omega, rfl, by rw [List.length_set]; exact hl', .inr ⟨bb, room, rfl, by rw [cellsOf_length, List.length_set]; omega, AHeap.get_set_same gy _⟩, ?_, rfl⟩ (by omega)
    exact cK.trans (Chg.set K py _) (fun x hx => .inl (by simp at hx; subst hx; exact mem_blkL.2 rfl))
  · have : j = l.length := by omega
    subst this
    simp (disch := first | assumption | omega | (simp only [LN] <;> omega) | (simp (disch := first | assumption | omega | (simp only [LN] <;> omega)) only [row_alloc, row_set]; assumption)) only [W_block, P3, ↓reduceIte, reduceAdd, reduceEqDiff, reduceCtorEq, initFr, reduceLT, clsA, reduceLeDiff, reduceMul, reduceSub, reduceIte, fx, fk, fc, sc, sk]
    exact hex _ _ _ (hq _ _ hl' aK cK)
theorem W_sw {kd : IntKind} {ix ic : Nat} {k n : Int} {C D' : ACode} (hx : fr.getD ix undef = .int kd n) (hic : ic < fr.length) (h1 : n = k → W P ng C Q (fr.set ic (.bool true)) H) (h2 : n ≠ k → W P ng D' Q (fr.set ic (.bool false)) H) :
    W P ng (.seq (.reg [⟨.bin .eql (.fr ix) (.c (.int kd k)), .tm, none⟩, ⟨.mov (.tm 0), .fr ic, none⟩]) (.cond (.fr ic) C D')) Q fr H := by
  have fc : ∀ b : Value, (fr.set ic b).getD ic undef = b := fun b => getD_set_same hic b
  by_cases h : n = k
  · have hb : (n == k) = true := by simp [h]
    simp (disch := first | assumption | omega | (simp only [LN] <;> omega) | (simp (disch := first | assumption | omega | (simp only [LN] <;> omega)) only [row_alloc, row_set]; assumption)) only [W_block, P3, ↓reduceIte, reduceAdd, reduceEqDiff, reduceCtorEq, initFr, reduceLT, clsA, reduceLeDiff, reduceMul, reduceSub, reduceIte, hx, fc, hb]
    exact h1 h
  · have hb : (n == k) = false := by simp [h]
    simp (disch := first | assumption | omega | (simp only [LN] <;> omega) | (simp (disch := first | assumption | omega | (simp only [LN] <;> omega)) only [row_alloc, row_set]; assumption)) only [W_block, P3, ↓reduceIte, reduceAdd, reduceEqDiff, reduceCtorEq, initFr, reduceLT, clsA, reduceLeDiff, reduceMul, reduceSub, reduceIte, hx, fc, hb]
    exact h2 h
end Go.AM

set_option linter.unusedSimpArgs false
set_option linter.unusedVariables false
namespace Go.AM.Fd
open Nat (reduceAdd reduceEqDiff reduceLT reduceLeDiff reduceMul reduceSub)
open Go.Proofs Go.AM.F
structure JW (H : AHeap) (bW : Nat) (wv : Value) (its : List It) (bM : Nat) (mv : Value) (K : AHeap) : Prop where
  w : WI bW wv its K
  r : RI bM mv (its.map (·.2)) K
  s1 : ∀ y ∈ wF bW wv its, H.n ≤ y ∧ y ≠ bM ∧ y ∉ blkL mv
  s2 : H.n ≤ bM ∧ ∀ y ∈ blkL mv, H.n ≤ y
  k : Keeps H K
  l : its.length ≤ 64
  b : ∀ it ∈ its, it.2.length ≤ 6000
section
variable {H K K1 K2 : AHeap} {bW bM : Nat} {wv mv wv' mv' : Value} {its its' : List It}
theorem JW.mid (h : JW H bW wv its bM mv K) (c : Chg (bW :: blkL wv) K K1) : RI bM mv (its.map (·.2)) K1 ∧ Keeps H K1 := by
  refine ⟨h.r.chg c (fun y hy hy2 => ?_), h.k.chg_trans c (fun y hy => ?_)⟩
  · have hy3 : y ∈ wF bW wv its := by
      rcases List.mem_cons.1 hy2 with e | e
      · exact mem_wF.2 (.inl e)
      · exact mem_wF.2 (.inr (.inl e))
    obtain ⟨_, a, b⟩ := h.s1 y hy3
    rcases hy with hy | hy
    · exact a hy
    · exact b hy
  · rcases List.mem_cons.1 hy with e | e
    · exact (h.s1 y (mem_wF.2 (.inl e))).1
    · exact (h.s1 y (mem_wF.2 (.inr (.inl e)))).1
theorem JW.keeps (h : JW H bW wv its bM mv K) (k : Keeps K K1) : JW H bW wv its bM mv K1 :=
  ⟨h.w.keeps k, h.r.chg (k.chg []) (by simp), h.s1, h.s2, h.k.trans k, h.l, h.b⟩
theorem JW.go (h : JW H bW wv its bM mv K) (W1 : WI bW wv' its' K1) (c1 : Chg (bW :: blkL wv) K K1) (f1 : ∀ y ∈ wF bW wv' its', y ∈ wF bW wv its ∨ K.n ≤ y)
    (R2 : RI bM mv' (its'.map (·.2)) K2) (c2 : Chg (bM :: blkL mv) K1 K2) (f2 : ∀ y ∈ blkL mv', y ∈ blkL mv ∨ K1.n ≤ y) (hl : its'.length ≤ 64) (hb : ∀ it ∈ its', it.2.length ≤ 6000) : JW H bW wv' its' bM mv' K2 := by
  have hr := h.r.lt
  have h2 := h.s2
  have hs : ∀ y ∈ wF bW wv' its', H.n ≤ y ∧ y ≠ bM ∧ y ∉ blkL mv := fun y hy => by
    rcases f1 y hy with e | e
    · exact h.s1 y e
    · have := h.k.n
      have := hr bM (.inl rfl)
      exact ⟨by omega, by omega, fun hy2 => by have := hr y (.inr hy2); omega⟩
  have hn := c1.n
  have W2 : WI bW wv' its' K2 := W1.chg c2 (fun y hy hy2 => by
    obtain ⟨_, a, b⟩ := hs y hy
    rcases List.mem_cons.1 hy2 with e | e
    · exact a e
    · exact b e)
  refine ⟨W2, R2, fun y hy => ⟨(hs y hy).1, (hs y hy).2.1, fun hy2 => ?_⟩, ⟨h2.1, fun y hy => ?_⟩, ?_, hl, hb⟩
  · rcases f2 y hy2 with e | e
    · exact (hs y hy).2.2 e
    · have := W1.lt y hy; omega
  · rcases f2 y hy with e | e
    · exact h2.2 y e
    · have := h.k.n; omega
  · exact (h.mid c1).2.chg_trans c2 (fun y hy => by
      rcases List.mem_cons.1 hy with e | e
      · subst e; exact h2.1
      · exact h2.2 y e)
end
theorem flat_apart {α : Type} (f : α → List Nat) : ∀ {l : List α}, (l.flatMap f).Nodup → ∀ (i : Nat) (a : α), l[i]? = some a → ∀ y ∈ f a, ∀ b ∈ l.eraseIdx i, y ∉ f b
  | [], _, i, a, h => by simp at h
  | x :: l, hn, 0, a, h => by
    simp only [List.getElem?_cons_zero, Option.some.injEq] at h; subst h
    rw [List.flatMap_cons, List.nodup_append] at hn
    intro y hy b hb hyb
    exact hn.2.2 y hy y (List.mem_flatMap.2 ⟨b, by simpa using hb, hyb⟩) rfl
  | x :: l, hn, i + 1, a, h => by
    rw [List.flatMap_cons, List.nodup_append] at hn
    rw [List.getElem?_cons_succ] at h
    intro y hy b hb hyb
    rw [List.eraseIdx_cons_succ] at hb
    rcases List.mem_cons.1 hb with rfl | hb
    · exact hn.2.2 y hyb y (List.mem_flatMap.2 ⟨a, List.mem_of_getElem? h, hy⟩) rfl
    · exact flat_apart f hn.2.1 i a h y hy b hb hyb
theorem askE0 {n : Nat} {i : Int} (h : askE n i true = 0) : ∃ m : Nat, i = m ∧ m < n ∧ n < 64 := by
  unfold askE at h
  split at h
  · exact absurd h (by decide)
  · rename_i h1
    split at h
    · exact absurd h (by decide)
    · rename_i h2
      exact ⟨i.toNat, by omega, by omega, by simp at h2; omega⟩
def M8 (v : Value) (bW bM i : Nat) (H : AHeap) (fr : List Value) (K : AHeap) : Prop :=
  ∃ (wv mv : Value) (its : List It) (y5 y6 y7 y8 y9 y10 y11 y12 y13 y14 y15 y16 y17 y18 y19 y20 y21 y22 y23 : Value), JW H bW wv its bM mv K ∧ fr = [v, .bool false, ptr bW 0, ptr bM 0, .int .i64 (i : Nat), y5, y6, y7, y8, y9, y10, y11, y12, y13, y14, y15, y16, y17, y18, y19, y20, y21, y22, y23]
set_option maxHeartbeats 4000000 in
theorem t8 {H : AHeap} {v : Value} {cs : List Cl} (hs : Sl H 8 v (cs.map cC)) (hc : ∀ c ∈ cs, okC H c) :
    ∃ w H', ARun Go.Proofs.Try.prog 0 8 [v] H w H' ∧ w = .bool true ∧ H' = H := by
  obtain ⟨w, H', a, rfl, k⟩ : ∃ w H', ARun Go.Proofs.Try.prog 0 8 [v] H w H' ∧ w = .bool true ∧ Keeps H H' := by
    refine walk2 f8_ok f8_n ?_
    intro Q hq1 hq2
    simp (disch := first | assumption | omega | (simp only [LN] <;> omega) | (simp (disch := first | assumption | omega | (simp only [LN] <;> omega)) only [row_alloc, row_set]; assumption)) only [f8, W_block, P3, ↓reduceIte, reduceAdd, reduceEqDiff, reduceCtorEq, initFr, reduceLT, clsA, reduceLeDiff, reduceMul, reduceSub, reduceIte]
    refine callK (t30 hs hc) ?_
    rintro _ X ⟨bl, rfl, hXX, hfew⟩
    obtain rfl := hXX.symm
    clear hXX
    cases bl with
    | true =>
      simp (disch := first | assumption | omega | (simp only [LN] <;> omega) | (simp (disch := first | assumption | omega | (simp only [LN] <;> omega)) only [row_alloc, row_set]; assumption)) only [W_block, P3, ↓reduceIte, reduceAdd, reduceEqDiff, reduceCtorEq, initFr, reduceLT, clsA, reduceLeDiff, reduceMul, reduceSub, reduceIte]
      refine callP (t31 _) ?_
      simp (disch := first | assumption | omega | (simp only [LN] <;> omega) | (simp (disch := first | assumption | omega | (simp only [LN] <;> omega)) only [row_alloc, row_set]; assumption)) only [W_block, P3, ↓reduceIte, reduceAdd, reduceEqDiff, reduceCtorEq, initFr, reduceLT, clsA, reduceLeDiff, reduceMul, reduceSub, reduceIte]
      exact hq2 _ _ ⟨_, rfl, rfl, Keeps.refl _⟩
    | false =>
    obtain ⟨hc1, hc2⟩ := hfew rfl
    have his := hs.is
    have hlen := hs.len
    rw [List.length_map] at hlen
    obtain ⟨bW, hbW⟩ : ∃ y, y = H.n := ⟨_, rfl⟩
    obtain ⟨bM, hbM⟩ : ∃ y, y = H.n + 1 := ⟨_, rfl⟩
    simp (disch := first | assumption | omega | (simp only [LN] <;> omega) | (simp (disch := first | assumption | omega | (simp only [LN] <;> omega)) only [row_alloc, row_set]; assumption)) only [W_block, P3, ↓reduceIte, reduceAdd, reduceEqDiff, reduceCtorEq, initFr, reduceLT, clsA, reduceLeDiff, reduceMul, reduceSub, reduceIte]
    rw [← hbM, ← hbW]
    have j0 : JW H bW (.slice none 0 0) [] bM (.slice none 0 0) ((H.alloc (.cells true false 1 [.slice none 0 0] 113)).alloc (.cells true false 1 [.slice none 0 0] 117)) := by
      refine ⟨⟨?_, .inl ⟨rfl, rfl, rfl⟩, by simp, by simp [wF, blkL, blk]⟩, ⟨?_, .inl ⟨rfl, rfl, rfl⟩, by simp [blkL, blk]⟩, ?_, ⟨by omega, by simp [blkL, blk]⟩, ((Keeps.refl H).alloc _).alloc _, by simp, by simp⟩
      · subst hbW; simp (disch := first | assumption | omega | (simp only [LN] <;> omega) | (simp (disch := first | assumption | omega | (simp only [LN] <;> omega)) only [row_alloc, row_set]; assumption)) only [W_block, P3, ↓reduceIte, reduceAdd, reduceEqDiff, reduceCtorEq, initFr, reduceLT, clsA, reduceLeDiff, reduceMul, reduceSub, reduceIte]
      · subst hbM; simp (disch := first | assumption | omega | (simp only [LN] <;> omega) | (simp (disch := first | assumption | omega | (simp only [LN] <;> omega)) only [row_alloc, row_set]; assumption)) only [W_block, P3, ↓reduceIte, reduceAdd, reduceEqDiff, reduceCtorEq, initFr, reduceLT, clsA, reduceLeDiff, reduceMul, reduceSub, reduceIte]
      · intro y hy
        simp [wF, blkL, blk] at hy ⊢
        omega
    refine W_loop2 (fun q fr K => ∃ i, i ≤ cs.length ∧ q = cs.length - i ∧ M8 v bW bM i H fr K) cs.length ⟨0, by omega, rfl, _, _, [], _, _, _, _, _, _, _, _, _, _, _, _, _, _, _, _, _, _, _, j0, rfl⟩ ?_
    clear j0
    rintro Q' q fr K ⟨i, hi, rfl, wv, mv, its, y5, y6, y7, y8, y9, y10, y11, y12, y13, y14, y15, y16, y17, y18, y19, y20, y21, y22, y23, hJ, rfl⟩ hnx hex hrt
    by_cases hci : i < cs.length
    case neg =>
      simp (disch := first | assumption | omega | (simp only [LN] <;> omega) | (simp (disch := first | assumption | omega | (simp only [LN] <;> omega)) only [row_alloc, row_set]; assumption)) only [W_block, P3, ↓reduceIte, reduceAdd, reduceEqDiff, reduceCtorEq, initFr, reduceLT, clsA, reduceLeDiff, reduceMul, reduceSub, reduceIte]
      refine hex _ _ _ ?_
      simp (disch := first | assumption | omega | (simp only [LN] <;> omega) | (simp (disch := first | assumption | omega | (simp only [LN] <;> omega)) only [row_alloc, row_set]; assumption)) only [W_block, P3, ↓reduceIte, reduceAdd, reduceEqDiff, reduceCtorEq, initFr, reduceLT, clsA, reduceLeDiff, reduceMul, reduceSub, reduceIte]
      refine callP (t31 _) ?_
      simp (disch := first | assumption | omega | (simp only [LN] <;> omega) | (simp (disch := first | assumption | omega | (simp only [LN] <;> omega)) only [row_alloc, row_set]; assumption)) only [W_block, P3, ↓reduceIte, reduceAdd, reduceEqDiff, reduceCtorEq, initFr, reduceLT, clsA, reduceLeDiff, reduceMul, reduceSub, reduceIte]
      exact hq2 _ _ ⟨_, rfl, rfl, hJ.k⟩
    obtain ⟨hnn, hrow⟩ := (hs.keeps hJ.k).at_ (by omega) (i := i) (by simpa using hci)
    rw [List.getElem_map] at hrow
    have hokH := hc _ (List.getElem_mem hci)
    have hok := hokH.keeps hJ.k
    have hcl := hc2 _ (List.getElem_mem hci)
    obtain ⟨c, hce⟩ : ∃ c, c = cs[i] := ⟨_, rfl⟩
    rw [← hce] at hrow hok hcl hokH
    have tB : ∀ y ∈ tb c.vB, y < H.n := hokH.hB.tbl
    simp (disch := first | assumption | omega | (simp only [LN] <;> omega) | (simp (disch := first | assumption | omega | (simp only [LN] <;> omega)) only [row_alloc, row_set]; assumption)) only [ P3, ↓reduceIte, reduceAdd, reduceEqDiff, reduceCtorEq, initFr, reduceLT, clsA, reduceLeDiff, reduceMul, reduceSub, reduceIte]
    rw [W_block]
    refine W_part 2 (M8 v bW bM i H) rfl ?_ ?_
    rotate_left
    · rintro fr K2 ⟨wv2, mv2, its2, z5, z6, z7, z8, z9, z10, z11, z12, z13, z14, z15, z16, z17, z18, z19, z20, z21, z22, z23, j2, rfl⟩
      simp (disch := first | assumption | omega | (simp only [LN] <;> omega) | (simp (disch := first | assumption | omega | (simp only [LN] <;> omega)) only [row_alloc, row_set]; assumption)) only [cpost, W_block, P3, ↓reduceIte, reduceAdd, reduceEqDiff, reduceCtorEq, initFr, reduceLT, clsA, reduceLeDiff, reduceMul, reduceSub, reduceIte]
      refine callP (t61 j2.w) ?_
      obtain ⟨e1, e2⟩ := AP.is' j2.r.w
      rw [List.length_map] at e2
      simp (disch := first | assumption | omega | (simp only [LN] <;> omega) | (simp (disch := first | assumption | omega | (simp only [LN] <;> omega)) only [row_alloc, row_set]; assumption)) only [W_block, P3, ↓reduceIte, reduceAdd, reduceEqDiff, reduceCtorEq, initFr, reduceLT, clsA, reduceLeDiff, reduceMul, reduceSub, reduceIte, j2.r.g, AHeap.get_lt j2.r.g, e2, wrap_succ (n := i) (by omega)]
      exact hnx _ _ _ ⟨i + 1, by omega, rfl, wv2, mv2, its2, _, _, _, _, _, _, _, _, _, _, _, _, _, _, _, _, _, _, _, j2, rfl⟩ (by omega)
    intro Q2 hM2 hex2 hrt2
    have lc8 : (cC c).length = 8 := rfl
    have ob := hok.hB.bs.sl.one
    have of' := hok.hF.bs.sl.one
    have oc8 : (cC c).all Value.oneCell' = true := by simp only [cC, List.all_cons, List.all_nil, ob, of']; rfl
    have kc := (Keeps.refl K).alloc (.cells true false 8 (cC c) 84)
    have g9 := AHeap.get_alloc_new K (.cells true false 8 (cC c) 84)
    simp (disch := first | assumption | omega | (simp only [LN] <;> omega) | (simp (disch := first | assumption | omega | (simp only [LN] <;> omega)) only [row_alloc, row_set]; assumption)) only [ cpre, P3, ↓reduceIte, reduceAdd, reduceEqDiff, reduceCtorEq, initFr, reduceLT, clsA, reduceLeDiff, reduceMul, reduceSub, reduceIte, hrow, lc8, oc8, cCg c, modu8 hok.hn]
    rw [W_block]
    obtain ⟨K2, hK2⟩ : ∃ X, X = K.alloc (.cells true false 8 (cC c) 84) := ⟨_, rfl⟩
    rw [← hK2] at kc g9 ⊢
    have hok2 := hok.keeps kc
    have l9 := AHeap.get_lt g9
    have j2 := hJ.keeps kc
    have hF9 : ∀ y ∈ wF bW wv its, y < K.n := hJ.w.lt
    have hR9 : ∀ y, y = bM ∨ y ∈ blkL mv → y < K.n := hJ.r.lt
    have hn9 : ∀ {K3 : AHeap}, Chg (bW :: blkL wv) K2 K3 → K3.get K.n = some (.cells true false 8 (cC c) 84) := fun c3 => c3.at_ g9 (fun hy => by
      have : K.n ∈ wF bW wv its := by
        rcases List.mem_cons.1 hy with e | e
        · exact mem_wF.2 (.inl e)
        · exact mem_wF.2 (.inr (.inl e))
      have := hF9 _ this; omega)
    have hl64 := hJ.l
    have hIr := hok.hI
    clear hK2 hrow
    by_cases h6 : c.n % 8 = 6
    · rw [h6]
      simp (disch := first | assumption | omega | (simp only [LN] <;> omega) | (simp (disch := first | assumption | omega | (simp only [LN] <;> omega)) only [row_alloc, row_set]; assumption)) only [W_block, P3, ↓reduceIte, reduceAdd, reduceEqDiff, reduceCtorEq, initFr, reduceLT, clsA, reduceLeDiff, reduceMul, reduceSub, reduceIte, g9, cCg c]
      have fin : ∀ (X : AHeap) (wv' mv' va : Value) (Ba : List UInt8) (its' : List It) (x7 x8 x9 x11 x12 x13 x14 x15 x16 x17 x18 x19 x20 x21 x22 x23 : Value), JW H bW wv' its' bM mv' X → AP X 5 1 va Ba.length (cellsOf Ba) → Ba.length ≤ 6000 → (∀ y ∈ blkL va, H.n ≤ y ∧ y ∉ wF bW wv' its' ∧ y ≠ bM ∧ y ∉ blkL mv') →
          W Go.Proofs.Try.prog 0 (mutL 5 6 6 10 20) ((Q2.inBlock 2).inBlock 5) [v, .bool false, ptr bW 0, ptr bM 0, .int .i64 (i : Nat), ptr K.n 0, va, x7, x8, x9, .int .i64 0, x11, x12, x13, x14, x15, x16, x17, x18, x19, x20, x21, x22, x23] X := by
        intro X wv' mv' va Ba its' x7 x8 x9 x11 x12 x13 x14 x15 x16 x17 x18 x19 x20 x21 x22 x23 jX aX hBa d1
        refine W_mut 5 6 6 10 20 rfl rfl (by simp) (by simp) (by decide) (by decide) (by decide) aX (by omega) ?_
        intro X' l' hl' aX' cX
        simp (disch := first | assumption | omega | (simp only [LN] <;> omega) | (simp (disch := first | assumption | omega | (simp only [LN] <;> omega)) only [row_alloc, row_set]; assumption)) only [W_block, P3, ↓reduceIte, reduceAdd, reduceEqDiff, reduceCtorEq, initFr, reduceLT, clsA, reduceLeDiff, reduceMul, reduceSub, reduceIte]
        refine hM2 _ _ ⟨wv', mv', its', _, _, _, _, _, _, _, _, _, _, _, _, _, _, _, _, _, _, _, ⟨jX.w.chg cX (fun y hy hy2 => (d1 y hy2).2.1 hy), jX.r.chg cX (fun y hy hy2 => by
          obtain ⟨_, _, a, b⟩ := d1 y hy2
          rcases hy with e | e
          · exact a e
          · exact b e), jX.s1, jX.s2, jX.k.chg_trans cX (fun y hy => (d1 y hy).1), jX.l, jX.b⟩, rfl⟩
      by_cases hno : c.I < 0 ∨ (its.length : Int) ≤ c.I
      · refine callP (t55no j2.w (by omega) hno) ?_
        simp (disch := first | assumption | omega | (simp only [LN] <;> omega) | (simp (disch := first | assumption | omega | (simp only [LN] <;> omega)) only [row_alloc, row_set]; assumption)) only [W_block, P3, ↓reduceIte, reduceAdd, reduceEqDiff, reduceCtorEq, initFr, reduceLT, clsA, reduceLeDiff, reduceMul, reduceSub, reduceIte, g9, cCg c]
        refine callP (t56no j2.r (by rw [List.length_map]; omega) (by rw [List.length_map]; exact hno)) ?_
        simp (disch := first | assumption | omega | (simp only [LN] <;> omega) | (simp (disch := first | assumption | omega | (simp only [LN] <;> omega)) only [row_alloc, row_set]; assumption)) only [W_block, P3, ↓reduceIte, reduceAdd, reduceEqDiff, reduceCtorEq, initFr, reduceLT, clsA, reduceLeDiff, reduceMul, reduceSub, reduceIte, a_b2sB (BS.nil K2), strB, bytes_eq]
        exact fin _ _ _ _ [] _ _ _ _ _ _ _ _ _ _ _ _ _ _ _ _ _ j2 (.inl ⟨rfl, rfl, rfl⟩) (by simp) (by simp [blkL, blk])
      · obtain ⟨m, hmI⟩ : ∃ m : Nat, c.I = m := ⟨c.I.toNat, by omega⟩
        have hml : m < its.length := by omega
        obtain ⟨it, hit⟩ : ∃ it, its[m]? = some it := ⟨_, List.getElem?_eq_getElem hml⟩
        have hite : its[m] = it := by rw [List.getElem?_eq_getElem hml] at hit; simpa using hit
        have hmem : it ∈ its := List.mem_of_getElem? hit
        rw [hmI]
        refine callK (t55 j2.w (by omega) hit) ?_
        rintro _ K3 ⟨rfl, wv', W3, a3, c3, hb3⟩
        have e3 : blkL wv' = blkL wv := by unfold blkL; rw [hb3]
        have g93 := hn9 c3
        have l93 := AHeap.get_lt g93
        simp (disch := first | assumption | omega | (simp only [LN] <;> omega) | (simp (disch := first | assumption | omega | (simp only [LN] <;> omega)) only [row_alloc, row_set]; assumption)) only [W_block, P3, ↓reduceIte, reduceAdd, reduceEqDiff, reduceCtorEq, initFr, reduceLT, clsA, reduceLeDiff, reduceMul, reduceSub, reduceIte, g93, cCg c, hmI]
        obtain ⟨R3, k3⟩ := j2.mid c3
        refine callK (t56 R3 (by rw [List.length_map]; omega) (i := m) (by rw [List.length_map]; exact hml)) ?_
        rintro _ K4 ⟨rfl, mv', R4, c4, f4⟩
        have f3 : ∀ y ∈ wF bW wv' (its.eraseIdx m), y ∈ wF bW wv its ∨ K2.n ≤ y := fun y hy => by
          rcases mem_wF.1 hy with e | e | ⟨z, hz, e⟩
          · exact .inl (mem_wF.2 (.inl e))
          · exact .inl (mem_wF.2 (.inr (.inl (by rw [← e3]; exact e))))
          · exact .inl (mem_wF.2 (.inr (.inr ⟨z, List.mem_of_mem_eraseIdx hz, e⟩)))
        have j4 := j2.go (its' := its.eraseIdx m) W3 c3 f3 (by rw [erase_map]; exact R4) c4 f4 (by rw [List.length_eraseIdx_of_lt hml]; omega) (fun z hz => hJ.b z (List.mem_of_mem_eraseIdx hz))
        have hyF : ∀ y ∈ blkL it.1, y ∈ wF bW wv its := fun y hy => mem_wF.2 (.inr (.inr ⟨it, hmem, hy⟩))
        obtain ⟨n1, n2, n3, n4⟩ := wF_nd.1 hJ.w.nd
        have a4 : AP K4 5 1 it.1 it.2.length (cellsOf it.2) := a3.chg c4 (fun y hy hy2 => by
          obtain ⟨_, p, q⟩ := hJ.s1 y (hyF y hy)
          rcases List.mem_cons.1 hy2 with e | e
          · exact p e
          · exact q e)
        simp (disch := first | assumption | omega | (simp only [LN] <;> omega) | (simp (disch := first | assumption | omega | (simp only [LN] <;> omega)) only [row_alloc, row_set]; assumption)) only [W_block, P3, ↓reduceIte, reduceAdd, reduceEqDiff, reduceCtorEq, initFr, reduceLT, clsA, reduceLeDiff, reduceMul, reduceSub, reduceIte, a_b2sB a4.bs, List.getElem_map, hite, strB, bytes_eq]
        refine fin _ _ _ _ it.2 _ _ _ _ _ _ _ _ _ _ _ _ _ _ _ _ _ j4 a4 (hJ.b it hmem) (fun y hy => ⟨(hJ.s1 y (hyF y hy)).1, fun hy2 => ?_, (hJ.s1 y (hyF y hy)).2.1, fun hy2 => ?_⟩)
        · rcases mem_wF.1 hy2 with e | e | ⟨z, hz, e⟩
          · exact n2 it hmem (e ▸ hy)
          · exact n3 y (by rw [← e3]; exact e) it hmem hy
          · exact flat_apart _ n4 m it hit y hy z hz e
        · rcases f4 y hy2 with e | e
          · exact (hJ.s1 y (hyF y hy)).2.2 e
          · have := j2.w.lt y (hyF y hy); have := c3.n; omega
    by_cases h7 : c.n % 8 = 7
    · rw [h7]
      simp (disch := first | assumption | omega | (simp only [LN] <;> omega) | (simp (disch := first | assumption | omega | (simp only [LN] <;> omega)) only [row_alloc, row_set]; assumption)) only [W_block, P3, ↓reduceIte, reduceAdd, reduceEqDiff, reduceCtorEq, initFr, reduceLT, clsA, reduceLeDiff, reduceMul, reduceSub, reduceIte, g9, cCg c]
      by_cases hno : askE its.length c.I true = 0
      · obtain ⟨m, hmI, hml, hl⟩ := askE0 hno
        obtain ⟨it, hit⟩ : ∃ it, its[m]? = some it := ⟨_, List.getElem?_eq_getElem hml⟩
        have hite : its[m] = it := by rw [List.getElem?_eq_getElem hml] at hit; simpa using hit
        have hmem : it ∈ its := List.mem_of_getElem? hit
        have hbi := hJ.b it hmem
        rw [hmI]
        refine callK (t57 j2.w hl hit (by omega)) ?_
        rintro _ K3 ⟨rfl, wv', v', W3, c3, f3⟩
        have g93 := hn9 c3
        have l93 := AHeap.get_lt g93
        simp (disch := first | assumption | omega | (simp only [LN] <;> omega) | (simp (disch := first | assumption | omega | (simp only [LN] <;> omega)) only [row_alloc, row_set]; assumption)) only [W_block, P3, ↓reduceIte, reduceAdd, reduceEqDiff, reduceCtorEq, initFr, reduceLT, clsA, reduceLeDiff, reduceMul, reduceSub, reduceIte, g93, g9, l9, l93, cCg c, hmI]
        obtain ⟨R3, k3⟩ := j2.mid c3
        refine callK (t58 R3 (by rw [List.length_map]; exact hl) (i := m) (by rw [List.length_map]; exact hml)) ?_
        rintro _ K4 ⟨rfl, mv', R4, c4, f4⟩
        have j4 := j2.go (its' := its ++ [(v', it.2)]) W3 c3 f3 (by rw [List.map_append]; simpa [hite] using R4) c4 f4 (by simp; omega) (fun z hz => by
          rcases List.mem_append.1 hz with hz | hz
          · exact hJ.b z hz
          · simp only [List.mem_singleton] at hz; subst hz; exact hbi)
        simp (disch := first | assumption | omega | (simp only [LN] <;> omega) | (simp (disch := first | assumption | omega | (simp only [LN] <;> omega)) only [row_alloc, row_set]; assumption)) only [W_block, P3, ↓reduceIte, reduceAdd, reduceEqDiff, reduceCtorEq, initFr, reduceLT, clsA, reduceLeDiff, reduceMul, reduceSub, reduceIte]
        exact hM2 _ _ ⟨_, _, _, _, _, _, _, _, _, _, _, _, _, _, _, _, _, _, _, _, _, _, j4, rfl⟩
      · refine callP (t57no j2.w (by omega) hno) ?_
        simp (disch := first | assumption | omega | (simp only [LN] <;> omega) | (simp (disch := first | assumption | omega | (simp only [LN] <;> omega)) only [row_alloc, row_set]; assumption)) only [W_block, P3, ↓reduceIte, reduceAdd, reduceEqDiff, reduceCtorEq, initFr, reduceLT, clsA, reduceLeDiff, reduceMul, reduceSub, reduceIte, g9, l9, cCg c]
        refine callP (t58no j2.r (by rw [List.length_map]; omega) (by rw [List.length_map]; exact hno)) ?_
        rw [List.length_map]
        simp (disch := first | assumption | omega | (simp only [LN] <;> omega) | (simp (disch := first | assumption | omega | (simp only [LN] <;> omega)) only [row_alloc, row_set]; assumption)) only [W_block, P3, ↓reduceIte, reduceAdd, reduceEqDiff, reduceCtorEq, initFr, reduceLT, clsA, reduceLeDiff, reduceMul, reduceSub, reduceIte]
        exact hM2 _ _ ⟨_, _, _, _, _, _, _, _, _, _, _, _, _, _, _, _, _, _, _, _, _, _, j2, rfl⟩
    · have h6' : ¬ ((c.n % 8 : Nat) : Int) = 6 := by omega
      have h7' : ¬ ((c.n % 8 : Nat) : Int) = 7 := by omega
      simp (disch := first | assumption | omega | (simp only [LN] <;> omega) | (simp (disch := first | assumption | omega | (simp only [LN] <;> omega)) only [row_alloc, row_set]; assumption)) only [W_block, P3, ↓reduceIte, reduceAdd, reduceEqDiff, reduceCtorEq, initFr, reduceLT, clsA, reduceLeDiff, reduceMul, reduceSub, reduceIte, g9, cCg c, h6', h7', a_b2sB hok2.hB.bs, a_s2bl]
      have ka := (Keeps.refl K2).alloc (.cells true true 1 (cellsOf c.B) 5)
      have aI : AP (K2.alloc (.cells true true 1 (cellsOf c.B) 5)) 5 1 (slc K2.n 0 c.B.length c.B.length) c.B.length (cellsOf c.B) := .inr ⟨K2.n, true, rfl, by rw [cellsOf_length, Nat.mul_one], AHeap.get_alloc_new _ _⟩
      obtain ⟨vI, hvI⟩ : ∃ y, y = slc K2.n 0 c.B.length c.B.length := ⟨_, rfl⟩
      have bI : ∀ y ∈ blkL vI, y = K2.n := fun y hy => by rw [hvI] at hy; simpa [blkL, blk, slc] using hy
      rw [← hvI] at aI ⊢
      have j3 := j2.keeps ka
      have g93 := ka.at_ g9
      have hok3 := hok2.keeps ka
      obtain ⟨K3, hK3⟩ : ∃ X, X = K2.alloc (.cells true true 1 (cellsOf c.B) 5) := ⟨_, rfl⟩
      have hn3 : K3.n = K2.n + 1 := by rw [hK3]; rfl
      rw [← hK3] at aI j3 g93 hok3 ⊢
      have l93 := AHeap.get_lt g93
      have hF3 : ∀ y ∈ wF bW wv its, y < K2.n := fun y hy => by have := hF9 y hy; have := kc.n; omega
      have hR3 : ∀ y, y = bM ∨ y ∈ blkL mv → y < K2.n := fun y hy => by have := hR9 y hy; have := kc.n; omega
      have fin : ∀ (X : AHeap) (wv' mv' : Value) (its' : List It) (x6 x7 x8 x9 x10 x13 x14 x15 x16 x17 x18 x19 x20 x21 x22 x23 : Value), JW H bW wv' its' bM mv' X → AP X 5 1 vI c.B.length (cellsOf c.B) → (∀ y ∈ wF bW wv' its', y ≠ K2.n) → (∀ y, y = bM ∨ y ∈ blkL mv' → y ≠ K2.n) →
          W Go.Proofs.Try.prog 0 (mutL 3 4 11 12 17) ((Q2.inBlock 2).inBlock 3) [v, .bool false, ptr bW 0, ptr bM 0, .int .i64 (i : Nat), ptr K.n 0, x6, x7, x8, x9, x10, vI, .int .i64 0, x13, x14, x15, x16, x17, x18, x19, x20, x21, x22, x23] X := by
        intro X wv' mv' its' x6 x7 x8 x9 x10 x13 x14 x15 x16 x17 x18 x19 x20 x21 x22 x23 jX aX d1 d2
        refine W_mut 3 4 11 12 17 rfl rfl (by simp) (by simp) (by decide) (by decide) (by decide) aX (by omega) ?_
        intro X' l' hl' aX' cX
        have hv2 : ∀ y ∈ blkL vI, y = K2.n := bI
        simp (disch := first | assumption | omega | (simp only [LN] <;> omega) | (simp (disch := first | assumption | omega | (simp only [LN] <;> omega)) only [row_alloc, row_set]; assumption)) only [W_block, P3, ↓reduceIte, reduceAdd, reduceEqDiff, reduceCtorEq, initFr, reduceLT, clsA, reduceLeDiff, reduceMul, reduceSub, reduceIte]
        refine hM2 _ _ ⟨wv', mv', its', _, _, _, _, _, _, _, _, _, _, _, _, _, _, _, _, _, _, _, ⟨jX.w.chg cX (fun y hy hy2 => d1 y hy (bI y hy2)), jX.r.chg cX (fun y hy hy2 => d2 y hy (bI y hy2)), jX.s1, jX.s2, jX.k.chg_trans cX (fun y hy => by have := bI y hy; have := j2.k.n; omega), jX.l, jX.b⟩, rfl⟩
      have tBk : olderB (tb c.vB) K3 := tb_older hok3.hB.tbl
      by_cases hl : 64 ≤ its.length
      · refine callP (t59no j3.w hl) ?_
        simp (disch := first | assumption | omega | (simp only [LN] <;> omega) | (simp (disch := first | assumption | omega | (simp only [LN] <;> omega)) only [row_alloc, row_set]; assumption)) only [W_block, P3, ↓reduceIte, reduceAdd, reduceEqDiff, reduceCtorEq, initFr, reduceLT, clsA, reduceLeDiff, reduceMul, reduceSub, reduceIte, g93, l93, cCg c, a_b2sB hok3.hB.bs, touch_b2s, tbk hok3.hB.bs (Keeps.refl K3)]
        refine callP (t60no j3.r (by rw [List.length_map]; exact hl)) ?_
        simp (disch := first | assumption | omega | (simp only [LN] <;> omega) | (simp (disch := first | assumption | omega | (simp only [LN] <;> omega)) only [row_alloc, row_set]; assumption)) only [W_block, P3, ↓reduceIte, reduceAdd, reduceEqDiff, reduceCtorEq, initFr, reduceLT, clsA, reduceLeDiff, reduceMul, reduceSub, reduceIte, g93, cCg c, a_b2sB hok3.hB.bs, a_b2sB aI.bs, bytes_eq]
        exact fin _ _ _ _ _ _ _ _ _ _ _ _ _ _ _ _ _ _ _ _ j3 aI (fun y hy => by have := hF3 y hy; omega) (fun y hy => by have := hR3 y hy; omega)
      · refine callK (t59 j3.w aI.bs (by omega) (by omega)) ?_
        rintro _ K4 ⟨rfl, wv', v', W4, c4, f4⟩
        have hcw : ∀ y ∈ bW :: blkL wv, y ∈ wF bW wv its := fun y hy => by
          rcases List.mem_cons.1 hy with e | e
          · exact mem_wF.2 (.inl e)
          · exact mem_wF.2 (.inr (.inl e))
        have g94 := c4.at_ g93 (fun hy => by have := hF9 _ (hcw _ hy); omega)
        have l94 := AHeap.get_lt g94
        have hB4 : BS K4 c.vB c.B := hok3.hB.bs.chgT c4 (fun y hy hy2 => by have := tB y hy; have := (j3.s1 y (hcw y hy2)).1; omega)
        have tB4 : olderB (tb c.vB) K4 := tb_older hB4.tbl
        have tk34 : keepsB (tb c.vB) K3 K4 := tb_keeps (fun y hy => ⟨hok3.hB.tbl y hy, fun hy2 => by have := tB y hy; have := (j3.s1 y (hcw y hy2)).1; omega⟩) c4
        have R4 := (j3.mid c4).1
        simp (disch := first | assumption | omega | (simp only [LN] <;> omega) | (simp (disch := first | assumption | omega | (simp only [LN] <;> omega)) only [row_alloc, row_set]; assumption)) only [W_block, P3, ↓reduceIte, reduceAdd, reduceEqDiff, reduceCtorEq, initFr, reduceLT, clsA, reduceLeDiff, reduceMul, reduceSub, reduceIte, g93, g94, l93, l94, cCg c, a_b2sB hB4, touch_b2s, tBk, tB4, tk34]
        refine callK (t60 R4 (B := c.B) (by rw [List.length_map]; omega)) ?_
        rintro _ K5 ⟨rfl, mv', R5, c5, f5⟩
        have j5 := j3.go (its' := its ++ [(v', c.B)]) W4 c4 f4 (by rw [List.map_append]; exact R5) c5 f5 (by simp; omega) (fun it hit => by
          rcases List.mem_append.1 hit with hit | hit
          · exact hJ.b it hit
          · simp only [List.mem_singleton] at hit; subst hit; exact hcl.1)
        have nb : ∀ y ∈ bM :: blkL mv, y < K2.n := fun y hy => by
          rcases List.mem_cons.1 hy with e | e
          · exact hR3 y (.inl e)
          · exact hR3 y (.inr e)
        have hn4 := c4.n
        have g95 := c5.at_ g94 (fun hy => by
          rcases List.mem_cons.1 hy with e | e
          · have := hR9 _ (.inl e); omega
          · have := hR9 _ (.inr e); omega)
        have nH : ∀ y ∈ bM :: blkL mv, H.n ≤ y := fun y hy => by
          rcases List.mem_cons.1 hy with e | e
          · subst e; exact j3.s2.1
          · exact j3.s2.2 y e
        have hB5 : BS K5 c.vB c.B := hB4.chgT c5 (fun y hy hy2 => by have := tB y hy; have := nH y hy2; omega)
        have aI5 : AP K5 5 1 vI c.B.length (cellsOf c.B) := (aI.chg c4 (fun y hy hy2 => by have := bI y hy; have := hF3 y (hcw y hy2); omega)).chg c5 (fun y hy hy2 => by have := bI y hy; have := nb y hy2; omega)
        simp (disch := first | assumption | omega | (simp only [LN] <;> omega) | (simp (disch := first | assumption | omega | (simp only [LN] <;> omega)) only [row_alloc, row_set]; assumption)) only [W_block, P3, ↓reduceIte, reduceAdd, reduceEqDiff, reduceCtorEq, initFr, reduceLT, clsA, reduceLeDiff, reduceMul, reduceSub, reduceIte, g95, cCg c, a_b2sB hB5, a_b2sB aI5.bs, bytes_eq]
        refine fin _ _ _ _ _ _ _ _ _ _ _ _ _ _ _ _ _ _ _ _ j5 aI5 (fun y hy => ?_) (fun y hy => ?_)
        · rcases f4 y hy with e | e
          · have := hF3 y e; omega
          · omega
        · rcases hy with e | e
          · have := hR3 y (.inl e); omega
          · rcases f5 y e with e' | e'
            · have := hR3 y (.inr e'); omega
            · omega
  exact ⟨_, _, a.gc0 k (.inr (.bool _)), rfl, rfl⟩
end Go.AM.Fd

set_option linter.unusedSimpArgs false
set_option linter.unusedVariables false
namespace Go.AM
structure SepH (H K : AHeap) (ts : List Th) : Prop where
  sep : Sep K ts
  k : Keeps H K
  ge : ∀ t ∈ ts, ∀ y ∈ t.F, H.n ≤ y
section
variable {H K K' : AHeap} {t t' a b c d : Th} {r ts : List Th}
theorem SepH.keeps (h : SepH H K ts) (k : Keeps K K') : SepH H K' ts := ⟨h.sep.keeps k, h.k.trans k, h.ge⟩
theorem SepH.upd {l : List Th} (h : SepH H K (l ++ t :: r)) (c : Chg t.F K K') (hp : t'.P K') (hf : ∀ y ∈ t'.F, y ∈ t.F ∨ K.n ≤ y) : SepH H K' (l ++ t' :: r) := by
  refine ⟨h.sep.upd c hp hf, h.k.chg_trans c (fun y hy => h.ge t (by simp) y hy), fun x hx y hy => ?_⟩
  rcases List.mem_append.1 hx with hx | hx
  · exact h.ge x (by simp [hx]) y hy
  · rcases List.mem_cons.1 hx with rfl | hx
    · rcases hf y hy with e | e
      · exact h.ge t (by simp) y e
      · have := h.k.n; omega
    · exact h.ge x (by simp [hx]) y hy
theorem SepH.u0 (h : SepH H K (t :: r)) (c : Chg t.F K K') (hp : t'.P K') (hf : ∀ y ∈ t'.F, y ∈ t.F ∨ K.n ≤ y) : SepH H K' (t' :: r) := h.upd (l := []) c hp hf
theorem SepH.u1 (h : SepH H K (a :: t :: r)) (c : Chg t.F K K') (hp : t'.P K') (hf : ∀ y ∈ t'.F, y ∈ t.F ∨ K.n ≤ y) : SepH H K' (a :: t' :: r) := h.upd (l := [a]) c hp hf
theorem SepH.u2 (h : SepH H K (a :: b :: t :: r)) (c : Chg t.F K K') (hp : t'.P K') (hf : ∀ y ∈ t'.F, y ∈ t.F ∨ K.n ≤ y) : SepH H K' (a :: b :: t' :: r) := h.upd (l := [a, b]) c hp hf
theorem SepH.u3 (h : SepH H K (a :: b :: c :: t :: r)) (ch : Chg t.F K K') (hp : t'.P K') (hf : ∀ y ∈ t'.F, y ∈ t.F ∨ K.n ≤ y) : SepH H K' (a :: b :: c :: t' :: r) := h.upd (l := [a, b, c]) ch hp hf
theorem SepH.u4 (h : SepH H K (a :: b :: c :: d :: t :: r)) (ch : Chg t.F K K') (hp : t'.P K') (hf : ∀ y ∈ t'.F, y ∈ t.F ∨ K.n ≤ y) : SepH H K' (a :: b :: c :: d :: t' :: r) := h.upd (l := [a, b, c, d]) ch hp hf
theorem SepH.at_ (h : SepH H K ts) (i : Nat) (hi : ts[i]? = some t) : t.P K := h.sep.get i hi
theorem SepH.apart (h : SepH H K ts) (i j : Nat) (hij : i < j) (hi : ts[i]? = some a) (hj : ts[j]? = some b) {y : Nat} (hy : y ∈ a.F) : y ∉ b.F := h.sep.apart i j hij hi hj y hy
theorem SepH.lt (h : SepH H K ts) (i : Nat) (hi : ts[i]? = some t) {y : Nat} (hy : y ∈ t.F) : y < K.n := t.lt K (h.at_ i hi) y hy
theorem SepH.gei (h : SepH H K ts) (i : Nat) (hi : ts[i]? = some t) {y : Nat} (hy : y ∈ t.F) : H.n ≤ y := h.ge t (List.mem_of_getElem? hi) y hy
theorem SepH.old (h : SepH H K ts) (i : Nat) (hi : ts[i]? = some t) {y : Nat} (hy : y < H.n) : y ∉ t.F := fun hf => by have := h.gei i hi hf; omega
theorem SepH.add (h : SepH H K ts) (k : Keeps K K') (hp : t.P K') (hf : ∀ y ∈ t.F, K.n ≤ y) : SepH H K' (t :: ts) :=
  ⟨h.sep.add k hp hf, h.k.trans k, fun x hx y hy => by
    rcases List.mem_cons.1 hx with rfl | hx
    · have := hf y hy; have := h.k.n; omega
    · exact h.ge x hx y hy⟩
theorem SepH.nil (H : AHeap) : SepH H H [] := ⟨Sep.nil H, Keeps.refl H, by simp⟩
theorem SepH.perm {us : List Th} (h : SepH H K ts) (p : ts.Perm us) : SepH H K us := ⟨h.sep.perm p, h.k, fun t ht => h.ge t (p.mem_iff.2 ht)⟩
end
def thA (e esz : Nat) (v : Value) (n : Nat) (c : List Value) : Th where
  P K := AP K e esz v n c
  F := blkL v
  lt K h y hy := h.lt (mem_blkL.1 hy)
  st K K' h hn k := by
    rcases h with ⟨rfl, rfl, rfl⟩ | ⟨b, room, rfl, h1, h2⟩
    · exact .inl ⟨rfl, rfl, rfl⟩
    · exact .inr ⟨b, room, rfl, h1, by rw [k b (mem_blkL.2 rfl)]; exact h2⟩
end Go.AM
