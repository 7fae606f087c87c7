/- Part of the proof. -/
import Derived.Test.YtngnahfbgilapaaGKnown05
set_option linter.unusedSimpArgs false
set_option linter.unusedVariables false
set_option linter.unusedSimpArgs false
set_option linter.unusedVariables false
namespace Go.AM.Fd
open Nat (reduceAdd reduceEqDiff reduceLT reduceLeDiff reduceMul reduceSub)
open Go.Proofs Go.AM.F
theorem fillu1 (a : Int) : fillA [.int .u8 0] [(0, 1, .int .u8 a)] = some [.int .u8 a] := rfl
theorem fillu2 (a b : Int) : fillA [.int .u8 0, .int .u8 0] [(0, 1, .int .u8 a), (1, 1, .int .u8 b)] = some [.int .u8 a, .int .u8 b] := rfl
theorem fillu3 (a b c : Int) : fillA [.int .u8 0, .int .u8 0, .int .u8 0] [(0, 1, .int .u8 a), (1, 1, .int .u8 b), (2, 1, .int .u8 c)] = some [.int .u8 a, .int .u8 b, .int .u8 c] := rfl
theorem cy_nat {n : Int} (h : cyB n = true) : IntKind.u64.wrap n = ((n.toNat : Nat) : Int) := by
  have := cyB_iff.1 h
  rw [wrap_u64]; omega
theorem sq_nat {n : Int} (h : sqB n = true) : IntKind.u64.wrap n = ((n.toNat : Nat) : Int) := by
  have := sqB_iff.1 h
  rw [wrap_u64]; omega
theorem u64w {n : Nat} (h : n < 18446744073709551616) : IntKind.u64.wrap (n : Int) = (n : Int) := by rw [wrap_u64]; omega
theorem cOuG (x : Ou) : (cOu x)[0]? = some (.int .u8 (x.ch : Nat)) ∧ (cOu x)[1]? = some (.int .i64 x.cy) ∧ (cOu x)[2]? = some (.int .i64 x.ep) ∧ (cOu x)[3]? = some (.int .u64 (x.pr : Nat)) ∧ (cOu x)[4]? = some (.int .u32 (x.pt : Nat)) := ⟨rfl, rfl, rfl, rfl, rfl⟩
theorem cStG {x : St} (h : x.t.length = 64) : (cSt x)[0]? = some (.int .u64 (x.a : Nat)) ∧ (cSt x)[1]? = some (.int .u64 (x.b : Nat)) ∧ (cSt x)[2]? = some (.int .u64 (x.c : Nat)) ∧ (cSt x)[67]? = some (.int .u32 (x.p : Nat)) := ⟨rfl, rfl, rfl, cSt_67 h⟩
theorem cStT {x : St} (h : x.t.length = 64) {i : Nat} (hi : i < 64) : (cSt x)[3 + i]? = some (.int .u8 ((x.t[i]'(by omega)).toNat : Nat)) := by
  have e := cSt_t h
  have : ((cSt x).drop 3)[i]? = some (.int .u8 ((x.t[i]'(by omega)).toNat : Nat)) := by
    have h2 : (((cSt x).drop 3).take 64)[i]? = (cellsOf x.t)[i]? := by rw [e]
    rw [List.getElem?_take_of_lt hi] at h2
    rw [h2, cells_get (by omega)]
  rwa [List.getElem?_drop] at this
theorem cLoG {x : Lo} (h : x.s.t.length = 64) : (cLo x)[0]? = some (.int .i64 x.e) ∧ (cLo x)[1]? = some (.int .i64 x.c) := ⟨rfl, rfl⟩
def strB (l : List UInt8) : Value := .string ⟨l.toArray⟩
theorem a_lenB (l : List UInt8) (H : AHeap) : asem (.len true (strB l)) H = some (.int .i64 (l.length : Nat), H) := by
  have : (⟨l.toArray⟩ : ByteArray).size = l.length := by simp [ByteArray.size]
  show some (Value.int .i64 ((⟨l.toArray⟩ : ByteArray).size : Nat), H) = _
  rw [this]
theorem cLiG (v : Value) (x : Li) : (cLi v x)[0]? = some (.int .u8 (x.f : Nat)) ∧ (cLi v x)[1]? = some (.int .u8 (x.t : Nat)) ∧ (cLi v x)[2]? = some (.int .i64 x.q) ∧ (cLi v x)[3]? = some (.int .i64 x.k) ∧ (cLi v x)[4]? = some v := ⟨rfl, rfl, rfl, rfl, rfl⟩
theorem cI6G (v : Value) (x : I6) : (cI6 v x)[0]? = some (.int .u8 (x.ch : Nat)) ∧ (cI6 v x)[1]? = some (.int .i64 x.cy) ∧ (cI6 v x)[2]? = some (.int .u64 (x.oc : Nat)) ∧ (cI6 v x)[3]? = some (.int .u32 (x.no : Nat)) ∧ (cI6 v x)[4]? = some (.int .u32 (x.re : Nat)) ∧ (cI6 v x)[5]? = some v := ⟨rfl, rfl, rfl, rfl, rfl, rfl⟩
theorem t49 (x : Ou) (hx : rgOu x) (H : AHeap) : ∃ v H', ARun Go.Proofs.Try.prog 0 49 [.agg (cOu x).toArray] H v H' ∧ OB 5 H H' v (fOu x) := by
  refine walk2 f49_ok f49_n ?_
  intro Q hq1 hq2
  have lx : (cOu x).length = 5 := rfl
  have ox : (cOu x).all Value.oneCell' = true := rfl
  have kH := (Keeps.refl H).alloc (.cells true false 5 (cOu x) 45)
  have ch := hx.1
  have hpr := hx.2
  have hpt := hx.3
  simp (disch := first | assumption | omega | (simp only [LN] <;> omega) | (simp (disch := first | assumption | omega | (simp only [LN] <;> omega)) only [row_alloc, row_set]; assumption)) only [f49, W_block, P3, ↓reduceIte, reduceAdd, reduceEqDiff, reduceCtorEq, initFr, reduceLT, clsA, reduceLeDiff, reduceMul, reduceSub, reduceIte, ox, (cOuG x).2.1]
  refine callK (t90 _ _) ?_
  rintro _ _ ⟨rfl, rfl⟩
  cases h1 : cyB x.cy with
  | false =>
    simp (disch := first | assumption | omega | (simp only [LN] <;> omega) | (simp (disch := first | assumption | omega | (simp only [LN] <;> omega)) only [row_alloc, row_set]; assumption)) only [W_block, P3, ↓reduceIte, reduceAdd, reduceEqDiff, reduceCtorEq, initFr, reduceLT, clsA, reduceLeDiff, reduceMul, reduceSub, reduceIte]
    refine hq2 _ _ ⟨_, rfl, ?_⟩
    have e : fOu x = [] := by unfold fOu okOu; rw [h1]; rfl
    rw [e]
    exact (OB.nil _ _).base kH
  | true =>
    simp (disch := first | assumption | omega | (simp only [LN] <;> omega) | (simp (disch := first | assumption | omega | (simp only [LN] <;> omega)) only [row_alloc, row_set]; assumption)) only [W_block, P3, ↓reduceIte, reduceAdd, reduceEqDiff, reduceCtorEq, initFr, reduceLT, clsA, reduceLeDiff, reduceMul, reduceSub, reduceIte, (cOuG x).2.2.1]
    refine callK (t90 _ _) ?_
    rintro _ _ ⟨rfl, rfl⟩
    cases h2 : cyB x.ep with
    | false =>
      simp (disch := first | assumption | omega | (simp only [LN] <;> omega) | (simp (disch := first | assumption | omega | (simp only [LN] <;> omega)) only [row_alloc, row_set]; assumption)) only [W_block, P3, ↓reduceIte, reduceAdd, reduceEqDiff, reduceCtorEq, initFr, reduceLT, clsA, reduceLeDiff, reduceMul, reduceSub, reduceIte]
      refine hq2 _ _ ⟨_, rfl, ?_⟩
      have e : fOu x = [] := by unfold fOu okOu; rw [h1, h2]; rfl
      rw [e]
      exact (OB.nil _ _).base kH
    | true =>
      obtain ⟨H1, hH1⟩ : ∃ X, X = H.alloc (.cells true false 5 (cOu x) 45) := ⟨_, rfl⟩
      have gx : H1.get H.n = some (.cells true false 5 (cOu x) 45) := by rw [hH1]; exact AHeap.get_alloc_new _ _
      have px := AHeap.get_lt gx
      rw [← hH1] at kH ⊢
      simp (disch := first | assumption | omega | (simp only [LN] <;> omega) | (simp (disch := first | assumption | omega | (simp only [LN] <;> omega)) only [row_alloc, row_set]; assumption)) only [W_block, P3, ↓reduceIte, reduceAdd, reduceEqDiff, reduceCtorEq, initFr, reduceLT, clsA, reduceLeDiff, reduceMul, reduceSub, reduceIte, gx, (cOuG x).1, (cOuG x).2.1, (cOuG x).2.2.1, (cOuG x).2.2.2.1, (cOuG x).2.2.2.2, fillu2]
      obtain ⟨K1, hK1⟩ : ∃ X, X = H1.alloc (.cells true false 1 [.int .u8 2, .int .u8 (x.ch : Nat)] 5) := ⟨_, rfl⟩
      have o1 : OB 5 H1 K1 (slc (H1.n) 0 2 2) [UInt8.ofNat 2, UInt8.ofNat x.ch] := by rw [hK1]; exact OB.lit (Keeps.refl H1) (cells2 (show 2 < 256 by omega) ch) rfl rfl false
      rw [← hK1]
      have k1 := o1.k
      simp (disch := first | assumption | omega | (simp only [LN] <;> omega) | (simp (disch := first | assumption | omega | (simp only [LN] <;> omega)) only [row_alloc, row_set, Keeps.row k1]; assumption)) only [Keeps.get k1, Keeps.row k1, W_block, P3, ↓reduceIte, reduceAdd, reduceEqDiff, reduceCtorEq, initFr, reduceLT, clsA, reduceLeDiff, reduceMul, reduceSub, reduceIte, gx, (cOuG x).1, (cOuG x).2.1, (cOuG x).2.2.1, (cOuG x).2.2.2.1, (cOuG x).2.2.2.2, cy_nat h1]
      refine callK (t91 (x.cy.toNat) 8 (by omega) _) ?_
      rintro w1 L1 p1
      simp (disch := first | assumption | omega | (simp only [LN] <;> omega) | (simp (disch := first | assumption | omega | (simp only [LN] <;> omega)) only [row_alloc, row_set, Keeps.row k1]; assumption)) only [Keeps.get k1, Keeps.row k1, W_block, P3, ↓reduceIte, reduceAdd, reduceEqDiff, reduceCtorEq, initFr, reduceLT, clsA, reduceLeDiff, reduceMul, reduceSub, reduceIte, gx, (cOuG x).1, (cOuG x).2.1, (cOuG x).2.2.1, (cOuG x).2.2.2.1, (cOuG x).2.2.2.2]
      refine (o1.keeps p1.k).appR p1.bs (by simp only [List.length_append, be_length, List.length_cons, List.length_nil]; omega) ?_
      intro v2 K2 o2
      have k2 := o2.k
      simp (disch := first | assumption | omega | (simp only [LN] <;> omega) | (simp (disch := first | assumption | omega | (simp only [LN] <;> omega)) only [row_alloc, row_set, Keeps.row k2]; assumption)) only [Keeps.get k2, Keeps.row k2, W_block, P3, ↓reduceIte, reduceAdd, reduceEqDiff, reduceCtorEq, initFr, reduceLT, clsA, reduceLeDiff, reduceMul, reduceSub, reduceIte, gx, (cOuG x).1, (cOuG x).2.1, (cOuG x).2.2.1, (cOuG x).2.2.2.1, (cOuG x).2.2.2.2, cy_nat h2]
      refine callK (t91 (x.ep.toNat) 8 (by omega) _) ?_
      rintro w2 L2 p2
      simp (disch := first | assumption | omega | (simp only [LN] <;> omega) | (simp (disch := first | assumption | omega | (simp only [LN] <;> omega)) only [row_alloc, row_set, Keeps.row k2]; assumption)) only [Keeps.get k2, Keeps.row k2, W_block, P3, ↓reduceIte, reduceAdd, reduceEqDiff, reduceCtorEq, initFr, reduceLT, clsA, reduceLeDiff, reduceMul, reduceSub, reduceIte, gx, (cOuG x).1, (cOuG x).2.1, (cOuG x).2.2.1, (cOuG x).2.2.2.1, (cOuG x).2.2.2.2]
      refine (o2.keeps p2.k).appR p2.bs (by simp only [List.length_append, be_length, List.length_cons, List.length_nil]; omega) ?_
      intro v3 K3 o3
      have k3 := o3.k
      simp (disch := first | assumption | omega | (simp only [LN] <;> omega) | (simp (disch := first | assumption | omega | (simp only [LN] <;> omega)) only [row_alloc, row_set, Keeps.row k3]; assumption)) only [Keeps.get k3, Keeps.row k3, W_block, P3, ↓reduceIte, reduceAdd, reduceEqDiff, reduceCtorEq, initFr, reduceLT, clsA, reduceLeDiff, reduceMul, reduceSub, reduceIte, gx, (cOuG x).1, (cOuG x).2.1, (cOuG x).2.2.1, (cOuG x).2.2.2.1, (cOuG x).2.2.2.2]
      refine callK (t91 (x.pr) 8 (by omega) _) ?_
      rintro w3 L3 p3
      simp (disch := first | assumption | omega | (simp only [LN] <;> omega) | (simp (disch := first | assumption | omega | (simp only [LN] <;> omega)) only [row_alloc, row_set, Keeps.row k3]; assumption)) only [Keeps.get k3, Keeps.row k3, W_block, P3, ↓reduceIte, reduceAdd, reduceEqDiff, reduceCtorEq, initFr, reduceLT, clsA, reduceLeDiff, reduceMul, reduceSub, reduceIte, gx, (cOuG x).1, (cOuG x).2.1, (cOuG x).2.2.1, (cOuG x).2.2.2.1, (cOuG x).2.2.2.2]
      refine (o3.keeps p3.k).appR p3.bs (by simp only [List.length_append, be_length, List.length_cons, List.length_nil]; omega) ?_
      intro v4 K4 o4
      have k4 := o4.k
      simp (disch := first | assumption | omega | (simp only [LN] <;> omega) | (simp (disch := first | assumption | omega | (simp only [LN] <;> omega)) only [row_alloc, row_set, Keeps.row k4]; assumption)) only [Keeps.get k4, Keeps.row k4, W_block, P3, ↓reduceIte, reduceAdd, reduceEqDiff, reduceCtorEq, initFr, reduceLT, clsA, reduceLeDiff, reduceMul, reduceSub, reduceIte, gx, (cOuG x).1, (cOuG x).2.1, (cOuG x).2.2.1, (cOuG x).2.2.2.1, (cOuG x).2.2.2.2, u64w (show x.pt < 18446744073709551616 by omega)]
      refine callK (t91 (x.pt) 4 (by omega) _) ?_
      rintro w4 L4 p4
      simp (disch := first | assumption | omega | (simp only [LN] <;> omega) | (simp (disch := first | assumption | omega | (simp only [LN] <;> omega)) only [row_alloc, row_set, Keeps.row k4]; assumption)) only [Keeps.get k4, Keeps.row k4, W_block, P3, ↓reduceIte, reduceAdd, reduceEqDiff, reduceCtorEq, initFr, reduceLT, clsA, reduceLeDiff, reduceMul, reduceSub, reduceIte, gx, (cOuG x).1, (cOuG x).2.1, (cOuG x).2.2.1, (cOuG x).2.2.2.1, (cOuG x).2.2.2.2]
      refine (o4.keeps p4.k).appR p4.bs (by simp only [List.length_append, be_length, List.length_cons, List.length_nil]; omega) ?_
      intro v5 K5 o5
      have k5 := o5.k
      simp (disch := first | assumption | omega | (simp only [LN] <;> omega) | (simp (disch := first | assumption | omega | (simp only [LN] <;> omega)) only [row_alloc, row_set, Keeps.row k5]; assumption)) only [Keeps.get k5, Keeps.row k5, W_block, P3, ↓reduceIte, reduceAdd, reduceEqDiff, reduceCtorEq, initFr, reduceLT, clsA, reduceLeDiff, reduceMul, reduceSub, reduceIte, gx, (cOuG x).1, (cOuG x).2.1, (cOuG x).2.2.1, (cOuG x).2.2.2.1, (cOuG x).2.2.2.2]
      refine callK (t92 o5 (by simp only [List.length_append, be_length, List.length_cons, List.length_nil]; omega)) ?_
      rintro v9 K9 o9
      simp (disch := first | assumption | omega | (simp only [LN] <;> omega) | (simp (disch := first | assumption | omega | (simp only [LN] <;> omega)) only [row_alloc, row_set, Keeps.row k5]; assumption)) only [Keeps.get k5, Keeps.row k5, W_block, P3, ↓reduceIte, reduceAdd, reduceEqDiff, reduceCtorEq, initFr, reduceLT, clsA, reduceLeDiff, reduceMul, reduceSub, reduceIte, gx, (cOuG x).1, (cOuG x).2.1, (cOuG x).2.2.1, (cOuG x).2.2.2.1, (cOuG x).2.2.2.2]
      refine hq2 _ _ ⟨_, rfl, ?_⟩
      have e : fOu x = chk ([UInt8.ofNat 2, UInt8.ofNat x.ch] ++ be 8 x.cy.toNat ++ be 8 x.ep.toNat ++ be 8 x.pr ++ be 4 x.pt) := by
        unfold fOu
        rw [if_pos (by unfold okOu; rw [h1, h2]; rfl)]
        unfold enOu
        simp only [be1, List.append_assoc, List.cons_append, List.nil_append]
        rfl
      rw [e]
      exact o9.base kH
theorem t93 (x : St) (hx : rgSt x) (H : AHeap) : ∃ v H', ARun Go.Proofs.Try.prog 0 93 [.agg (cSt x).toArray] H v H' ∧ OB 5 H H' v (enSt x) := by
  refine walk2 f93_ok f93_n ?_
  intro Q hq1 hq2
  have lx := cSt_len hx.1
  have ox := cSt_one x
  have kH := (Keeps.refl H).alloc (.cells true false 68 (cSt x) 51)
  have ht := hx.1
  have ha := hx.2
  have hb := hx.3
  have hc := hx.4
  have hp := hx.5
  simp (disch := first | assumption | omega | (simp only [LN] <;> omega) | (simp (disch := first | assumption | omega | (simp only [LN] <;> omega)) only [row_alloc, row_set]; assumption)) only [f93, W_block, P3, ↓reduceIte, reduceAdd, reduceEqDiff, reduceCtorEq, initFr, reduceLT, clsA, reduceLeDiff, reduceMul, reduceSub, reduceIte, ox]
  obtain ⟨H1, hH1⟩ : ∃ X, X = H.alloc (.cells true false 68 (cSt x) 51) := ⟨_, rfl⟩
  have gx : H1.get H.n = some (.cells true false 68 (cSt x) 51) := by rw [hH1]; exact AHeap.get_alloc_new _ _
  have px := AHeap.get_lt gx
  rw [← hH1] at kH ⊢
  simp (disch := first | assumption | omega | (simp only [LN] <;> omega) | (simp (disch := first | assumption | omega | (simp only [LN] <;> omega)) only [row_alloc, row_set]; assumption)) only [W_block, P3, ↓reduceIte, reduceAdd, reduceEqDiff, reduceCtorEq, initFr, reduceLT, clsA, reduceLeDiff, reduceMul, reduceSub, reduceIte, gx, (cStG hx.1).1, (cStG hx.1).2.1, (cStG hx.1).2.2.1, (cStG hx.1).2.2.2]
  refine callK (t91 (x.a) 8 (by omega) _) ?_
  rintro v1 K1 o1
  have k1 := o1.k
  simp (disch := first | assumption | omega | (simp only [LN] <;> omega) | (simp (disch := first | assumption | omega | (simp only [LN] <;> omega)) only [row_alloc, row_set, Keeps.row k1]; assumption)) only [Keeps.get k1, Keeps.row k1, W_block, P3, ↓reduceIte, reduceAdd, reduceEqDiff, reduceCtorEq, initFr, reduceLT, clsA, reduceLeDiff, reduceMul, reduceSub, reduceIte, gx, (cStG hx.1).1, (cStG hx.1).2.1, (cStG hx.1).2.2.1, (cStG hx.1).2.2.2]
  refine callK (t91 (x.b) 8 (by omega) _) ?_
  rintro w1 L1 p1
  simp (disch := first | assumption | omega | (simp only [LN] <;> omega) | (simp (disch := first | assumption | omega | (simp only [LN] <;> omega)) only [row_alloc, row_set, Keeps.row k1]; assumption)) only [Keeps.get k1, Keeps.row k1, W_block, P3, ↓reduceIte, reduceAdd, reduceEqDiff, reduceCtorEq, initFr, reduceLT, clsA, reduceLeDiff, reduceMul, reduceSub, reduceIte, gx, (cStG hx.1).1, (cStG hx.1).2.1, (cStG hx.1).2.2.1, (cStG hx.1).2.2.2]
  refine (o1.keeps p1.k).appR p1.bs (by simp only [List.length_append, be_length, List.length_cons, List.length_nil]; omega) ?_
  intro v2 K2 o2
  have k2 := o2.k
  simp (disch := first | assumption | omega | (simp only [LN] <;> omega) | (simp (disch := first | assumption | omega | (simp only [LN] <;> omega)) only [row_alloc, row_set, Keeps.row k2]; assumption)) only [Keeps.get k2, Keeps.row k2, W_block, P3, ↓reduceIte, reduceAdd, reduceEqDiff, reduceCtorEq, initFr, reduceLT, clsA, reduceLeDiff, reduceMul, reduceSub, reduceIte, gx, (cStG hx.1).1, (cStG hx.1).2.1, (cStG hx.1).2.2.1, (cStG hx.1).2.2.2]
  refine callK (t91 (x.c) 8 (by omega) _) ?_
  rintro w2 L2 p2
  simp (disch := first | assumption | omega | (simp only [LN] <;> omega) | (simp (disch := first | assumption | omega | (simp only [LN] <;> omega)) only [row_alloc, row_set, Keeps.row k2]; assumption)) only [Keeps.get k2, Keeps.row k2, W_block, P3, ↓reduceIte, reduceAdd, reduceEqDiff, reduceCtorEq, initFr, reduceLT, clsA, reduceLeDiff, reduceMul, reduceSub, reduceIte, gx, (cStG hx.1).1, (cStG hx.1).2.1, (cStG hx.1).2.2.1, (cStG hx.1).2.2.2]
  refine (o2.keeps p2.k).appR p2.bs (by simp only [List.length_append, be_length, List.length_cons, List.length_nil]; omega) ?_
  intro v3 K3 o3
  have k3 := o3.k
  simp (disch := first | assumption | omega | (simp only [LN] <;> omega) | (simp (disch := first | assumption | omega | (simp only [LN] <;> omega)) only [row_alloc, row_set, Keeps.row k3]; assumption)) only [Keeps.get k3, Keeps.row k3, W_block, P3, ↓reduceIte, reduceAdd, reduceEqDiff, reduceCtorEq, initFr, reduceLT, clsA, reduceLeDiff, reduceMul, reduceSub, reduceIte, gx, (cStG hx.1).1, (cStG hx.1).2.1, (cStG hx.1).2.2.1, (cStG hx.1).2.2.2]
  refine W_loop2 (fun q fr K => ∃ (i : Nat) (v e : Value), i ≤ 64 ∧ q = 64 - i ∧ OB 5 H1 K v (be 8 x.a ++ be 8 x.b ++ be 8 x.c ++ x.t.take i) ∧ fr = [.agg (cSt x).toArray, ptr H.n 0, .slice none 0 0, v, .int .i64 i, e]) 64 ⟨0, v3, undef, by omega, rfl, by simpa using o3, rfl⟩ ?_
  rintro Q' q fr K ⟨i, v, e, hi, rfl, o4, rfl⟩ hnx hex hrt
  have k4 := o4.k
  by_cases hc : i < 64
  · simp (disch := first | assumption | omega | (simp only [LN] <;> omega) | (simp (disch := first | assumption | omega | (simp only [LN] <;> omega)) only [row_alloc, row_set, Keeps.row k4]; assumption)) only [Keeps.get k4, Keeps.row k4, W_block, P3, ↓reduceIte, reduceAdd, reduceEqDiff, reduceCtorEq, initFr, reduceLT, clsA, reduceLeDiff, reduceMul, reduceSub, reduceIte, gx, cStT ht hc]
    have hb8 : (x.t[i]'(by omega)).toNat < 256 := UInt8.toNat_lt _
    have o5 : OB 5 H1 (K.alloc (.cells true false 1 [.int .u8 ((x.t[i]'(by omega)).toNat : Nat)] 5)) (slc K.n 0 1 1) [UInt8.ofNat (x.t[i]'(by omega)).toNat] := OB.lit k4 (cells1 hb8) rfl rfl false
    refine (o4.keeps ((Keeps.refl K).alloc _)).appR o5.bs (by simp only [List.length_append, be_length, List.length_cons, List.length_nil, List.length_take]; omega) ?_
    intro v6 K6 o6
    simp (disch := first | assumption | omega | (simp only [LN] <;> omega) | (simp (disch := first | assumption | omega | (simp only [LN] <;> omega)) only [row_alloc, row_set]; assumption)) only [W_block, P3, ↓reduceIte, reduceAdd, reduceEqDiff, reduceCtorEq, initFr, reduceLT, clsA, reduceLeDiff, reduceMul, reduceSub, reduceIte, wrap_succ (n := i) (by omega)]
    refine hnx _ _ _ ⟨i + 1, v6, _, by omega, rfl, ?_, rfl⟩ (by omega)
    rw [List.take_succ_eq_append_getElem (by omega)]
    simp only [List.append_assoc, UInt8.ofNat_toNat] at o6 ⊢
    exact o6
  · simp (disch := first | assumption | omega | (simp only [LN] <;> omega) | (simp (disch := first | assumption | omega | (simp only [LN] <;> omega)) only [row_alloc, row_set]; assumption)) only [W_block, P3, ↓reduceIte, reduceAdd, reduceEqDiff, reduceCtorEq, initFr, reduceLT, clsA, reduceLeDiff, reduceMul, reduceSub, reduceIte]
    refine hex _ _ _ ?_
    have hi64 : i = 64 := by omega
    subst hi64
    rw [show x.t.take 64 = x.t from List.take_of_length_le (by omega)] at o4
    simp (disch := first | assumption | omega | (simp only [LN] <;> omega) | (simp (disch := first | assumption | omega | (simp only [LN] <;> omega)) only [row_alloc, row_set, Keeps.row k4]; assumption)) only [Keeps.get k4, Keeps.row k4, W_block, P3, ↓reduceIte, reduceAdd, reduceEqDiff, reduceCtorEq, initFr, reduceLT, clsA, reduceLeDiff, reduceMul, reduceSub, reduceIte, gx, (cStG hx.1).1, (cStG hx.1).2.1, (cStG hx.1).2.2.1, (cStG hx.1).2.2.2, u64w (show x.p < 18446744073709551616 by omega)]
    refine callK (t91 (x.p) 4 (by omega) _) ?_
    rintro w5 L5 p5
    simp (disch := first | assumption | omega | (simp only [LN] <;> omega) | (simp (disch := first | assumption | omega | (simp only [LN] <;> omega)) only [row_alloc, row_set]; assumption)) only [W_block, P3, ↓reduceIte, reduceAdd, reduceEqDiff, reduceCtorEq, initFr, reduceLT, clsA, reduceLeDiff, reduceMul, reduceSub, reduceIte]
    refine (o4.keeps p5.k).appR p5.bs (by simp only [List.length_append, be_length]; omega) ?_
    intro v6 K6 o6
    simp (disch := first | assumption | omega | (simp only [LN] <;> omega) | (simp (disch := first | assumption | omega | (simp only [LN] <;> omega)) only [row_alloc, row_set]; assumption)) only [W_block, P3, ↓reduceIte, reduceAdd, reduceEqDiff, reduceCtorEq, initFr, reduceLT, clsA, reduceLeDiff, reduceMul, reduceSub, reduceIte]
    refine hq2 _ _ ⟨_, rfl, ?_⟩
    have ee : enSt x = be 8 x.a ++ be 8 x.b ++ be 8 x.c ++ x.t ++ be 4 x.p := by simp only [enSt, List.append_assoc]
    rw [ee]
    exact o6.base kH
theorem t50 (x : St) (hx : rgSt x) (H : AHeap) : ∃ v H', ARun Go.Proofs.Try.prog 0 50 [.agg (cSt x).toArray] H v H' ∧ OB 5 H H' v (fSt x) := by
  refine walk2 f50_ok f50_n ?_
  intro Q hq1 hq2
  have lx := cSt_len hx.1
  have ox := cSt_one x
  have kH := (Keeps.refl H).alloc (.cells true false 68 (cSt x) 51)
  simp (disch := first | assumption | omega | (simp only [LN] <;> omega) | (simp (disch := first | assumption | omega | (simp only [LN] <;> omega)) only [row_alloc, row_set]; assumption)) only [f50, W_block, P3, ↓reduceIte, reduceAdd, reduceEqDiff, reduceCtorEq, initFr, reduceLT, clsA, reduceLeDiff, reduceMul, reduceSub, reduceIte, ox]
  obtain ⟨H1, hH1⟩ : ∃ X, X = H.alloc (.cells true false 68 (cSt x) 51) := ⟨_, rfl⟩
  have gx : H1.get H.n = some (.cells true false 68 (cSt x) 51) := by rw [hH1]; exact AHeap.get_alloc_new _ _
  have px := AHeap.get_lt gx
  rw [← hH1] at kH ⊢
  obtain ⟨K1, hK1⟩ : ∃ X, X = H1.alloc (.cells true false 1 [.int .u8 3] 5) := ⟨_, rfl⟩
  have hn1 : H1.n = H.n + 1 := by rw [hH1]; rfl
  have o1 : OB 5 H1 K1 (slc (H.n + 1) 0 1 1) [UInt8.ofNat 3] := by rw [hK1, ← hn1]; exact OB.lit (Keeps.refl H1) (cells1 (show 3 < 256 by omega)) rfl rfl false
  rw [← hK1]
  have k1 := o1.k
  refine callK (t93 x hx _) ?_
  rintro w1 L1 p1
  simp (disch := first | assumption | omega | (simp only [LN] <;> omega) | (simp (disch := first | assumption | omega | (simp only [LN] <;> omega)) only [row_alloc, row_set]; assumption)) only [W_block, P3, ↓reduceIte, reduceAdd, reduceEqDiff, reduceCtorEq, initFr, reduceLT, clsA, reduceLeDiff, reduceMul, reduceSub, reduceIte]
  have hl := enSt_len hx.1
  refine (o1.keeps p1.k).appR p1.bs (by rw [hl]; simp) ?_
  intro v2 K2 o2
  simp (disch := first | assumption | omega | (simp only [LN] <;> omega) | (simp (disch := first | assumption | omega | (simp only [LN] <;> omega)) only [row_alloc, row_set]; assumption)) only [W_block, P3, ↓reduceIte, reduceAdd, reduceEqDiff, reduceCtorEq, initFr, reduceLT, clsA, reduceLeDiff, reduceMul, reduceSub, reduceIte]
  refine callK (t92 o2 (by rw [List.length_append, hl]; simp)) ?_
  rintro v3 K3 o3
  simp (disch := first | assumption | omega | (simp only [LN] <;> omega) | (simp (disch := first | assumption | omega | (simp only [LN] <;> omega)) only [row_alloc, row_set]; assumption)) only [W_block, P3, ↓reduceIte, reduceAdd, reduceEqDiff, reduceCtorEq, initFr, reduceLT, clsA, reduceLeDiff, reduceMul, reduceSub, reduceIte]
  exact hq2 _ _ ⟨_, rfl, o3.base kH⟩
theorem t51 (x : Lo) (hx : rgSt x.s) (H : AHeap) : ∃ v H', ARun Go.Proofs.Try.prog 0 51 [.agg (cLo x).toArray] H v H' ∧ OB 5 H H' v (fLo x) := by
  refine walk2 f51_ok f51_n ?_
  intro Q hq1 hq2
  have lx := cLo_len hx.1
  have ox := cLo_one x
  have kH := (Keeps.refl H).alloc (.cells true false 70 (cLo x) 60)
  simp (disch := first | assumption | omega | (simp only [LN] <;> omega) | (simp (disch := first | assumption | omega | (simp only [LN] <;> omega)) only [row_alloc, row_set]; assumption)) only [f51, W_block, P3, ↓reduceIte, reduceAdd, reduceEqDiff, reduceCtorEq, initFr, reduceLT, clsA, reduceLeDiff, reduceMul, reduceSub, reduceIte, ox, (cLoG hx.1).1]
  refine callK (t90 _ _) ?_
  rintro _ _ ⟨rfl, rfl⟩
  cases h1 : cyB x.e with
  | false =>
    simp (disch := first | assumption | omega | (simp only [LN] <;> omega) | (simp (disch := first | assumption | omega | (simp only [LN] <;> omega)) only [row_alloc, row_set]; assumption)) only [W_block, P3, ↓reduceIte, reduceAdd, reduceEqDiff, reduceCtorEq, initFr, reduceLT, clsA, reduceLeDiff, reduceMul, reduceSub, reduceIte]
    refine hq2 _ _ ⟨_, rfl, ?_⟩
    have e : fLo x = [] := by unfold fLo okLo; rw [h1]; rfl
    rw [e]
    exact (OB.nil _ _).base kH
  | true =>
    simp (disch := first | assumption | omega | (simp only [LN] <;> omega) | (simp (disch := first | assumption | omega | (simp only [LN] <;> omega)) only [row_alloc, row_set]; assumption)) only [W_block, P3, ↓reduceIte, reduceAdd, reduceEqDiff, reduceCtorEq, initFr, reduceLT, clsA, reduceLeDiff, reduceMul, reduceSub, reduceIte, (cLoG hx.1).2]
    refine callK (t90 _ _) ?_
    rintro _ _ ⟨rfl, rfl⟩
    cases h2 : cyB x.c with
    | false =>
      simp (disch := first | assumption | omega | (simp only [LN] <;> omega) | (simp (disch := first | assumption | omega | (simp only [LN] <;> omega)) only [row_alloc, row_set]; assumption)) only [W_block, P3, ↓reduceIte, reduceAdd, reduceEqDiff, reduceCtorEq, initFr, reduceLT, clsA, reduceLeDiff, reduceMul, reduceSub, reduceIte]
      refine hq2 _ _ ⟨_, rfl, ?_⟩
      have e : fLo x = [] := by unfold fLo okLo; rw [h1, h2]; rfl
      rw [e]
      exact (OB.nil _ _).base kH
    | true =>
      obtain ⟨H1, hH1⟩ : ∃ X, X = H.alloc (.cells true false 70 (cLo x) 60) := ⟨_, rfl⟩
      have gx : H1.get H.n = some (.cells true false 70 (cLo x) 60) := by rw [hH1]; exact AHeap.get_alloc_new _ _
      have px := AHeap.get_lt gx
      rw [← hH1] at kH ⊢
      simp (disch := first | assumption | omega | (simp only [LN] <;> omega) | (simp (disch := first | assumption | omega | (simp only [LN] <;> omega)) only [row_alloc, row_set]; assumption)) only [W_block, P3, ↓reduceIte, reduceAdd, reduceEqDiff, reduceCtorEq, initFr, reduceLT, clsA, reduceLeDiff, reduceMul, reduceSub, reduceIte, gx, (cLoG hx.1).1, (cLoG hx.1).2, fillu1]
      obtain ⟨K1, hK1⟩ : ∃ X, X = H1.alloc (.cells true false 1 [.int .u8 4] 5) := ⟨_, rfl⟩
      have o1 : OB 5 H1 K1 (slc (H1.n) 0 1 1) [UInt8.ofNat 4] := by rw [hK1]; exact OB.lit (Keeps.refl H1) (cells1 (show 4 < 256 by omega)) rfl rfl false
      rw [← hK1]
      have k1 := o1.k
      simp (disch := first | assumption | omega | (simp only [LN] <;> omega) | (simp (disch := first | assumption | omega | (simp only [LN] <;> omega)) only [row_alloc, row_set, Keeps.row k1]; assumption)) only [Keeps.get k1, Keeps.row k1, W_block, P3, ↓reduceIte, reduceAdd, reduceEqDiff, reduceCtorEq, initFr, reduceLT, clsA, reduceLeDiff, reduceMul, reduceSub, reduceIte, gx, (cLoG hx.1).1, (cLoG hx.1).2, cy_nat h1]
      refine callK (t91 (x.e.toNat) 8 (by omega) _) ?_
      rintro w1 L1 p1
      simp (disch := first | assumption | omega | (simp only [LN] <;> omega) | (simp (disch := first | assumption | omega | (simp only [LN] <;> omega)) only [row_alloc, row_set, Keeps.row k1]; assumption)) only [Keeps.get k1, Keeps.row k1, W_block, P3, ↓reduceIte, reduceAdd, reduceEqDiff, reduceCtorEq, initFr, reduceLT, clsA, reduceLeDiff, reduceMul, reduceSub, reduceIte, gx, (cLoG hx.1).1, (cLoG hx.1).2]
      refine (o1.keeps p1.k).appR p1.bs (by simp only [List.length_append, be_length, List.length_cons, List.length_nil]; omega) ?_
      intro v2 K2 o2
      have k2 := o2.k
      simp (disch := first | assumption | omega | (simp only [LN] <;> omega) | (simp (disch := first | assumption | omega | (simp only [LN] <;> omega)) only [row_alloc, row_set, Keeps.row k2]; assumption)) only [Keeps.get k2, Keeps.row k2, W_block, P3, ↓reduceIte, reduceAdd, reduceEqDiff, reduceCtorEq, initFr, reduceLT, clsA, reduceLeDiff, reduceMul, reduceSub, reduceIte, gx, (cLoG hx.1).1, (cLoG hx.1).2, cy_nat h2]
      refine callK (t91 (x.c.toNat) 8 (by omega) _) ?_
      rintro w2 L2 p2
      simp (disch := first | assumption | omega | (simp only [LN] <;> omega) | (simp (disch := first | assumption | omega | (simp only [LN] <;> omega)) only [row_alloc, row_set, Keeps.row k2]; assumption)) only [Keeps.get k2, Keeps.row k2, W_block, P3, ↓reduceIte, reduceAdd, reduceEqDiff, reduceCtorEq, initFr, reduceLT, clsA, reduceLeDiff, reduceMul, reduceSub, reduceIte, gx, (cLoG hx.1).1, (cLoG hx.1).2]
      refine (o2.keeps p2.k).appR p2.bs (by simp only [List.length_append, be_length, List.length_cons, List.length_nil]; omega) ?_
      intro v3 K3 o3
      have k3 := o3.k
      have hne : (cLo x).length ≠ 68 := by omega
      simp (disch := first | assumption | omega | (simp only [LN] <;> omega) | (simp (disch := first | assumption | omega | (simp only [LN] <;> omega)) only [row_alloc, row_set, Keeps.row k3]; assumption)) only [Keeps.get k3, Keeps.row k3, W_block, P3, ↓reduceIte, reduceAdd, reduceEqDiff, reduceCtorEq, initFr, reduceLT, clsA, reduceLeDiff, reduceMul, reduceSub, reduceIte, gx, lx, cLo_s hx.1]
      refine callK (t93 x.s hx _) ?_
      rintro w3 L3 p3
      simp (disch := first | assumption | omega | (simp only [LN] <;> omega) | (simp (disch := first | assumption | omega | (simp only [LN] <;> omega)) only [row_alloc, row_set]; assumption)) only [W_block, P3, ↓reduceIte, reduceAdd, reduceEqDiff, reduceCtorEq, initFr, reduceLT, clsA, reduceLeDiff, reduceMul, reduceSub, reduceIte]
      have hl := enSt_len hx.1
      refine (o3.keeps p3.k).appR p3.bs (by simp only [List.length_append, be_length, List.length_cons, List.length_nil]; omega) ?_
      intro v4 K4 o4
      simp (disch := first | assumption | omega | (simp only [LN] <;> omega) | (simp (disch := first | assumption | omega | (simp only [LN] <;> omega)) only [row_alloc, row_set]; assumption)) only [W_block, P3, ↓reduceIte, reduceAdd, reduceEqDiff, reduceCtorEq, initFr, reduceLT, clsA, reduceLeDiff, reduceMul, reduceSub, reduceIte]
      refine callK (t92 o4 (by simp only [List.length_append, be_length, List.length_cons, List.length_nil]; omega)) ?_
      rintro v5 K5 o5
      simp (disch := first | assumption | omega | (simp only [LN] <;> omega) | (simp (disch := first | assumption | omega | (simp only [LN] <;> omega)) only [row_alloc, row_set]; assumption)) only [W_block, P3, ↓reduceIte, reduceAdd, reduceEqDiff, reduceCtorEq, initFr, reduceLT, clsA, reduceLeDiff, reduceMul, reduceSub, reduceIte]
      refine hq2 _ _ ⟨_, rfl, ?_⟩
      have e : fLo x = chk ([UInt8.ofNat 4] ++ be 8 x.e.toNat ++ be 8 x.c.toNat ++ enSt x.s) := by
        unfold fLo
        rw [if_pos (by unfold okLo; rw [h1, h2]; rfl)]
        unfold enLo
        simp only [List.append_assoc, List.cons_append, List.nil_append]
        rfl
      rw [e]
      exact o5.base kH
theorem t52 (x : Li) (hx : rgLi x) (H : AHeap) (hl : x.B.length ≤ 1000000) : ∃ v H', ARun Go.Proofs.Try.prog 0 52 [.agg (cLi (strB x.B) x).toArray] H v H' ∧ OB 5 H H' v (fLi x) := by
  refine walk2 f52_ok f52_n ?_
  intro Q hq1 hq2
  have lx : (cLi (strB x.B) x).length = 5 := rfl
  have ox : (cLi (strB x.B) x).all Value.oneCell' = true := rfl
  have kH := (Keeps.refl H).alloc (.cells true false 5 (cLi (strB x.B) x) 69)
  obtain ⟨H1, hH1⟩ : ∃ X, X = H.alloc (.cells true false 5 (cLi (strB x.B) x) 69) := ⟨_, rfl⟩
  have gx : H1.get H.n = some (.cells true false 5 (cLi (strB x.B) x) 69) := by rw [hH1]; exact AHeap.get_alloc_new _ _
  have px := AHeap.get_lt gx
  by_cases hok : okLi x = true
  rotate_left
  · have e : fLi x = [] := by unfold fLi; rw [if_neg hok]
    have hno : x.q < 0 ∨ 4611686018427387904 < x.q ∨ x.k < 0 ∨ 4611686018427387904 < x.k ∨ (2048 : Int) < (x.B.length : Int) := by
      by_cases h0 : x.q < 0 ∨ 4611686018427387904 < x.q ∨ x.k < 0 ∨ 4611686018427387904 < x.k ∨ (2048 : Int) < (x.B.length : Int)
      · exact h0
      · exact absurd (okLi_iff.2 (by omega)) hok
    by_cases c1 : x.q < 0
    · simp (disch := first | assumption | omega | (simp only [LN] <;> omega) | (simp (disch := first | assumption | omega | (simp only [LN] <;> omega)) only [row_alloc, row_set]; assumption)) only [f52, W_block, P3, ↓reduceIte, reduceAdd, reduceEqDiff, reduceCtorEq, initFr, reduceLT, clsA, reduceLeDiff, reduceMul, reduceSub, reduceIte, ox, (cLiG (strB x.B) x).1, (cLiG (strB x.B) x).2.1, (cLiG (strB x.B) x).2.2.1, (cLiG (strB x.B) x).2.2.2.1, (cLiG (strB x.B) x).2.2.2.2]
      exact hq2 _ _ ⟨_, rfl, by rw [e]; exact (OB.nil _ _).base kH⟩
    by_cases c2 : 4611686018427387904 < x.q
    · simp (disch := first | assumption | omega | (simp only [LN] <;> omega) | (simp (disch := first | assumption | omega | (simp only [LN] <;> omega)) only [row_alloc, row_set]; assumption)) only [f52, W_block, P3, ↓reduceIte, reduceAdd, reduceEqDiff, reduceCtorEq, initFr, reduceLT, clsA, reduceLeDiff, reduceMul, reduceSub, reduceIte, ox, (cLiG (strB x.B) x).1, (cLiG (strB x.B) x).2.1, (cLiG (strB x.B) x).2.2.1, (cLiG (strB x.B) x).2.2.2.1, (cLiG (strB x.B) x).2.2.2.2]
      exact hq2 _ _ ⟨_, rfl, by rw [e]; exact (OB.nil _ _).base kH⟩
    by_cases c3 : x.k < 0
    · simp (disch := first | assumption | omega | (simp only [LN] <;> omega) | (simp (disch := first | assumption | omega | (simp only [LN] <;> omega)) only [row_alloc, row_set]; assumption)) only [f52, W_block, P3, ↓reduceIte, reduceAdd, reduceEqDiff, reduceCtorEq, initFr, reduceLT, clsA, reduceLeDiff, reduceMul, reduceSub, reduceIte, ox, (cLiG (strB x.B) x).1, (cLiG (strB x.B) x).2.1, (cLiG (strB x.B) x).2.2.1, (cLiG (strB x.B) x).2.2.2.1, (cLiG (strB x.B) x).2.2.2.2]
      exact hq2 _ _ ⟨_, rfl, by rw [e]; exact (OB.nil _ _).base kH⟩
    by_cases c4 : 4611686018427387904 < x.k
    · simp (disch := first | assumption | omega | (simp only [LN] <;> omega) | (simp (disch := first | assumption | omega | (simp only [LN] <;> omega)) only [row_alloc, row_set]; assumption)) only [f52, W_block, P3, ↓reduceIte, reduceAdd, reduceEqDiff, reduceCtorEq, initFr, reduceLT, clsA, reduceLeDiff, reduceMul, reduceSub, reduceIte, ox, (cLiG (strB x.B) x).1, (cLiG (strB x.B) x).2.1, (cLiG (strB x.B) x).2.2.1, (cLiG (strB x.B) x).2.2.2.1, (cLiG (strB x.B) x).2.2.2.2]
      exact hq2 _ _ ⟨_, rfl, by rw [e]; exact (OB.nil _ _).base kH⟩
    have c5 : (2048 : Int) < (x.B.length : Int) := by omega
    simp (disch := first | assumption | omega | (simp only [LN] <;> omega) | (simp (disch := first | assumption | omega | (simp only [LN] <;> omega)) only [row_alloc, row_set]; assumption)) only [f52, W_block, P3, ↓reduceIte, reduceAdd, reduceEqDiff, reduceCtorEq, initFr, reduceLT, clsA, reduceLeDiff, reduceMul, reduceSub, reduceIte, ox, (cLiG (strB x.B) x).1, (cLiG (strB x.B) x).2.1, (cLiG (strB x.B) x).2.2.1, (cLiG (strB x.B) x).2.2.2.1, (cLiG (strB x.B) x).2.2.2.2, a_lenB]
    exact hq2 _ _ ⟨_, rfl, by rw [e]; exact (OB.nil _ _).base kH⟩
  obtain ⟨⟨c1, c2⟩, ⟨c3, c4⟩, c5⟩ := okLi_iff.1 hok
  have h1 : sqB x.q = true := sqB_iff.2 ⟨c1, c2⟩
  have h2 : sqB x.k = true := sqB_iff.2 ⟨c3, c4⟩
  have c5' : ¬ (2048 : Int) < (x.B.length : Int) := by omega
  have n1 : ¬ x.q < 0 := by omega
  have n2 : ¬ 4611686018427387904 < x.q := by omega
  have n3 : ¬ x.k < 0 := by omega
  have n4 : ¬ 4611686018427387904 < x.k := by omega
  simp (disch := first | assumption | omega | (simp only [LN] <;> omega) | (simp (disch := first | assumption | omega | (simp only [LN] <;> omega)) only [row_alloc, row_set]; assumption)) only [f52, W_block, P3, ↓reduceIte, reduceAdd, reduceEqDiff, reduceCtorEq, initFr, reduceLT, clsA, reduceLeDiff, reduceMul, reduceSub, reduceIte, ox, (cLiG (strB x.B) x).1, (cLiG (strB x.B) x).2.1, (cLiG (strB x.B) x).2.2.1, (cLiG (strB x.B) x).2.2.2.1, (cLiG (strB x.B) x).2.2.2.2, a_lenB]
  rw [← hH1] at kH ⊢
  simp (disch := first | assumption | omega | (simp only [LN] <;> omega) | (simp (disch := first | assumption | omega | (simp only [LN] <;> omega)) only [row_alloc, row_set]; assumption)) only [W_block, P3, ↓reduceIte, reduceAdd, reduceEqDiff, reduceCtorEq, initFr, reduceLT, clsA, reduceLeDiff, reduceMul, reduceSub, reduceIte, gx, (cLiG (strB x.B) x).1, (cLiG (strB x.B) x).2.1, (cLiG (strB x.B) x).2.2.1, (cLiG (strB x.B) x).2.2.2.1, (cLiG (strB x.B) x).2.2.2.2, fillu3]
  have hn1 : H1.n = H.n + 1 := by rw [hH1]; rfl
  obtain ⟨K1, hK1⟩ : ∃ X, X = H1.alloc (.cells true false 1 [.int .u8 5, .int .u8 (x.f : Nat), .int .u8 (x.t : Nat)] 5) := ⟨_, rfl⟩
  have o1 : OB 5 H1 K1 (slc (H.n + 1) 0 3 3) [UInt8.ofNat 5, UInt8.ofNat x.f, UInt8.ofNat x.t] := by rw [hK1, ← hn1]; exact OB.lit (Keeps.refl H1) (cells3 (show 5 < 256 by omega) hx.1 hx.2) rfl rfl false
  rw [← hK1]
  have k1 := o1.k
  simp (disch := first | assumption | omega | (simp only [LN] <;> omega) | (simp (disch := first | assumption | omega | (simp only [LN] <;> omega)) only [row_alloc, row_set, Keeps.row k1]; assumption)) only [Keeps.get k1, Keeps.row k1, W_block, P3, ↓reduceIte, reduceAdd, reduceEqDiff, reduceCtorEq, initFr, reduceLT, clsA, reduceLeDiff, reduceMul, reduceSub, reduceIte, gx, (cLiG (strB x.B) x).1, (cLiG (strB x.B) x).2.1, (cLiG (strB x.B) x).2.2.1, (cLiG (strB x.B) x).2.2.2.1, (cLiG (strB x.B) x).2.2.2.2, sq_nat h1]
  refine callK (t91 (x.q.toNat) 8 (by omega) _) ?_
  rintro w1 L1 p1
  simp (disch := first | assumption | omega | (simp only [LN] <;> omega) | (simp (disch := first | assumption | omega | (simp only [LN] <;> omega)) only [row_alloc, row_set, Keeps.row k1]; assumption)) only [Keeps.get k1, Keeps.row k1, W_block, P3, ↓reduceIte, reduceAdd, reduceEqDiff, reduceCtorEq, initFr, reduceLT, clsA, reduceLeDiff, reduceMul, reduceSub, reduceIte, gx, (cLiG (strB x.B) x).1, (cLiG (strB x.B) x).2.1, (cLiG (strB x.B) x).2.2.1, (cLiG (strB x.B) x).2.2.2.1, (cLiG (strB x.B) x).2.2.2.2]
  refine (o1.keeps p1.k).appR p1.bs (by simp only [List.length_append, be_length, List.length_cons, List.length_nil]; omega) ?_
  intro v2 K2 o2
  have k2 := o2.k
  simp (disch := first | assumption | omega | (simp only [LN] <;> omega) | (simp (disch := first | assumption | omega | (simp only [LN] <;> omega)) only [row_alloc, row_set, Keeps.row k2]; assumption)) only [Keeps.get k2, Keeps.row k2, W_block, P3, ↓reduceIte, reduceAdd, reduceEqDiff, reduceCtorEq, initFr, reduceLT, clsA, reduceLeDiff, reduceMul, reduceSub, reduceIte, gx, (cLiG (strB x.B) x).1, (cLiG (strB x.B) x).2.1, (cLiG (strB x.B) x).2.2.1, (cLiG (strB x.B) x).2.2.2.1, (cLiG (strB x.B) x).2.2.2.2, sq_nat h2]
  refine callK (t91 (x.k.toNat) 8 (by omega) _) ?_
  rintro w2 L2 p2
  simp (disch := first | assumption | omega | (simp only [LN] <;> omega) | (simp (disch := first | assumption | omega | (simp only [LN] <;> omega)) only [row_alloc, row_set, Keeps.row k2]; assumption)) only [Keeps.get k2, Keeps.row k2, W_block, P3, ↓reduceIte, reduceAdd, reduceEqDiff, reduceCtorEq, initFr, reduceLT, clsA, reduceLeDiff, reduceMul, reduceSub, reduceIte, gx, (cLiG (strB x.B) x).1, (cLiG (strB x.B) x).2.1, (cLiG (strB x.B) x).2.2.1, (cLiG (strB x.B) x).2.2.2.1, (cLiG (strB x.B) x).2.2.2.2]
  refine (o2.keeps p2.k).appR p2.bs (by simp only [List.length_append, be_length, List.length_cons, List.length_nil]; omega) ?_
  intro v3 K3 o3
  have k3 := o3.k
  simp (disch := first | assumption | omega | (simp only [LN] <;> omega) | (simp (disch := first | assumption | omega | (simp only [LN] <;> omega)) only [row_alloc, row_set, Keeps.row k3]; assumption)) only [Keeps.get k3, Keeps.row k3, W_block, P3, ↓reduceIte, reduceAdd, reduceEqDiff, reduceCtorEq, initFr, reduceLT, clsA, reduceLeDiff, reduceMul, reduceSub, reduceIte, gx, (cLiG (strB x.B) x).1, (cLiG (strB x.B) x).2.1, (cLiG (strB x.B) x).2.2.1, (cLiG (strB x.B) x).2.2.2.1, (cLiG (strB x.B) x).2.2.2.2, a_lenB, u64w (show x.B.length < 18446744073709551616 by omega)]
  refine callK (t91 (x.B.length) 2 (by omega) _) ?_
  rintro w3 L3 p3
  simp (disch := first | assumption | omega | (simp only [LN] <;> omega) | (simp (disch := first | assumption | omega | (simp only [LN] <;> omega)) only [row_alloc, row_set, Keeps.row k3]; assumption)) only [Keeps.get k3, Keeps.row k3, W_block, P3, ↓reduceIte, reduceAdd, reduceEqDiff, reduceCtorEq, initFr, reduceLT, clsA, reduceLeDiff, reduceMul, reduceSub, reduceIte, gx, (cLiG (strB x.B) x).1, (cLiG (strB x.B) x).2.1, (cLiG (strB x.B) x).2.2.1, (cLiG (strB x.B) x).2.2.2.1, (cLiG (strB x.B) x).2.2.2.2]
  refine (o3.keeps p3.k).appR p3.bs (by simp only [List.length_append, be_length, List.length_cons, List.length_nil]; omega) ?_
  intro v4 K4 o4
  have k4 := o4.k
  simp (disch := first | assumption | omega | (simp only [LN] <;> omega) | (simp (disch := first | assumption | omega | (simp only [LN] <;> omega)) only [row_alloc, row_set, Keeps.row k4]; assumption)) only [Keeps.get k4, Keeps.row k4, W_block, P3, ↓reduceIte, reduceAdd, reduceEqDiff, reduceCtorEq, initFr, reduceLT, clsA, reduceLeDiff, reduceMul, reduceSub, reduceIte, gx, (cLiG (strB x.B) x).1, (cLiG (strB x.B) x).2.1, (cLiG (strB x.B) x).2.2.1, (cLiG (strB x.B) x).2.2.2.1, (cLiG (strB x.B) x).2.2.2.2]
  refine o4.appsR (m := x.B) (by simp only [List.length_append, be_length, List.length_cons, List.length_nil]; omega) ?_
  intro v5 K5 o5
  simp (disch := first | assumption | omega | (simp only [LN] <;> omega) | (simp (disch := first | assumption | omega | (simp only [LN] <;> omega)) only [row_alloc, row_set]; assumption)) only [W_block, P3, ↓reduceIte, reduceAdd, reduceEqDiff, reduceCtorEq, initFr, reduceLT, clsA, reduceLeDiff, reduceMul, reduceSub, reduceIte]
  refine callK (t92 o5 (by simp only [List.length_append, be_length, List.length_cons, List.length_nil]; omega)) ?_
  rintro v6 K6 o6
  simp (disch := first | assumption | omega | (simp only [LN] <;> omega) | (simp (disch := first | assumption | omega | (simp only [LN] <;> omega)) only [row_alloc, row_set]; assumption)) only [W_block, P3, ↓reduceIte, reduceAdd, reduceEqDiff, reduceCtorEq, initFr, reduceLT, clsA, reduceLeDiff, reduceMul, reduceSub, reduceIte]
  refine hq2 _ _ ⟨_, rfl, ?_⟩
  have e : fLi x = chk ([UInt8.ofNat 5, UInt8.ofNat x.f, UInt8.ofNat x.t] ++ be 8 x.q.toNat ++ be 8 x.k.toNat ++ be 2 x.B.length ++ x.B) := by
    unfold fLi
    rw [if_pos hok]
    unfold enLi
    simp only [be1, List.append_assoc, List.cons_append, List.nil_append]
    rfl
  rw [e]
  exact o6.base kH
theorem t48 (x : I6) (hx : rgI6 x) {H : AHeap} {vc : Value} (hC0 : Sl H 2 vc (CC x.cs)) (hl : x.cs.length ≤ 1000000) : ∃ v H', ARun Go.Proofs.Try.prog 0 48 [.agg (cI6 vc x).toArray] H v H' ∧ OB 5 H H' v (fI6 x) := by
  refine walk2 f48_ok f48_n ?_
  intro Q hq1 hq2
  have hone := hC0.one
  have lx : (cI6 vc x).length = 6 := rfl
  have ox : (cI6 vc x).all Value.oneCell' = true := by simp only [cI6, List.all_cons, List.all_nil, hone]; rfl
  have kH := (Keeps.refl H).alloc (.cells true false 6 (cI6 vc x) 34)
  have his := hC0.is
  have hlen := hC0.len
  rw [CC, List.length_map] at hlen
  have ch := hx.1
  have hoc := hx.2
  have hno := hx.3
  have hre := hx.4
  simp (disch := first | assumption | omega | (simp only [LN] <;> omega) | (simp (disch := first | assumption | omega | (simp only [LN] <;> omega)) only [row_alloc, row_set]; assumption)) only [f48, W_block, P3, ↓reduceIte, reduceAdd, reduceEqDiff, reduceCtorEq, initFr, reduceLT, clsA, reduceLeDiff, reduceMul, reduceSub, reduceIte, ox, (cI6G vc x).2.1]
  refine callK (t90 _ _) ?_
  rintro _ _ ⟨rfl, rfl⟩
  cases h1 : cyB x.cy with
  | false =>
    simp (disch := first | assumption | omega | (simp only [LN] <;> omega) | (simp (disch := first | assumption | omega | (simp only [LN] <;> omega)) only [row_alloc, row_set]; assumption)) only [W_block, P3, ↓reduceIte, reduceAdd, reduceEqDiff, reduceCtorEq, initFr, reduceLT, clsA, reduceLeDiff, reduceMul, reduceSub, reduceIte]
    refine hq2 _ _ ⟨_, rfl, ?_⟩
    have e : fI6 x = [] := by unfold fI6 okI6; rw [h1]; rfl
    rw [e]
    exact (OB.nil _ _).base kH
  | true =>
  by_cases h2 : (8 : Int) < (x.cs.length : Int)
  · simp (disch := first | assumption | omega | (simp only [LN] <;> omega) | (simp (disch := first | assumption | omega | (simp only [LN] <;> omega)) only [row_alloc, row_set]; assumption)) only [W_block, P3, ↓reduceIte, reduceAdd, reduceEqDiff, reduceCtorEq, initFr, reduceLT, clsA, reduceLeDiff, reduceMul, reduceSub, reduceIte, (cI6G vc x).2.2.2.2.2, hlen]
    refine hq2 _ _ ⟨_, rfl, ?_⟩
    have e : fI6 x = [] := by
      unfold fI6 okI6
      rw [h1, show decide (x.cs.length ≤ 8) = false from by simp; omega]; rfl
    rw [e]
    exact (OB.nil _ _).base kH
  simp (disch := first | assumption | omega | (simp only [LN] <;> omega) | (simp (disch := first | assumption | omega | (simp only [LN] <;> omega)) only [row_alloc, row_set]; assumption)) only [W_block, P3, ↓reduceIte, reduceAdd, reduceEqDiff, reduceCtorEq, initFr, reduceLT, clsA, reduceLeDiff, reduceMul, reduceSub, reduceIte, (cI6G vc x).2.2.2.2.2, hlen]
  obtain ⟨H1, hH1⟩ : ∃ X, X = H.alloc (.cells true false 6 (cI6 vc x) 34) := ⟨_, rfl⟩
  have gx : H1.get H.n = some (.cells true false 6 (cI6 vc x) 34) := by rw [hH1]; exact AHeap.get_alloc_new _ _
  have px := AHeap.get_lt gx
  rw [← hH1] at kH ⊢
  have hC := hC0.keeps kH
  have wl : IntKind.u8.wrap (x.cs.length : Int) = (x.cs.length : Int) := by rw [wrap_u8]; omega
  simp (disch := first | assumption | omega | (simp only [LN] <;> omega) | (simp (disch := first | assumption | omega | (simp only [LN] <;> omega)) only [row_alloc, row_set]; assumption)) only [W_block, P3, ↓reduceIte, reduceAdd, reduceEqDiff, reduceCtorEq, initFr, reduceLT, clsA, reduceLeDiff, reduceMul, reduceSub, reduceIte, gx, (cI6G vc x).1, (cI6G vc x).2.1, (cI6G vc x).2.2.1, (cI6G vc x).2.2.2.1, (cI6G vc x).2.2.2.2.1, (cI6G vc x).2.2.2.2.2, hlen, fillu2]
  obtain ⟨K1, hK1⟩ : ∃ X, X = H1.alloc (.cells true false 1 [.int .u8 1, .int .u8 (x.ch : Nat)] 5) := ⟨_, rfl⟩
  have o1 : OB 5 H1 K1 (slc (H1.n) 0 2 2) [UInt8.ofNat 1, UInt8.ofNat x.ch] := by rw [hK1]; exact OB.lit (Keeps.refl H1) (cells2 (show 1 < 256 by omega) ch) rfl rfl false
  rw [← hK1]
  have k1 := o1.k
  simp (disch := first | assumption | omega | (simp only [LN] <;> omega) | (simp (disch := first | assumption | omega | (simp only [LN] <;> omega)) only [row_alloc, row_set, Keeps.row k1]; assumption)) only [Keeps.get k1, Keeps.row k1, W_block, P3, ↓reduceIte, reduceAdd, reduceEqDiff, reduceCtorEq, initFr, reduceLT, clsA, reduceLeDiff, reduceMul, reduceSub, reduceIte, gx, (cI6G vc x).1, (cI6G vc x).2.1, (cI6G vc x).2.2.1, (cI6G vc x).2.2.2.1, (cI6G vc x).2.2.2.2.1, (cI6G vc x).2.2.2.2.2, hlen, cy_nat h1]
  refine callK (t91 (x.cy.toNat) 8 (by omega) _) ?_
  rintro w1 L1 p1
  simp (disch := first | assumption | omega | (simp only [LN] <;> omega) | (simp (disch := first | assumption | omega | (simp only [LN] <;> omega)) only [row_alloc, row_set, Keeps.row k1]; assumption)) only [Keeps.get k1, Keeps.row k1, W_block, P3, ↓reduceIte, reduceAdd, reduceEqDiff, reduceCtorEq, initFr, reduceLT, clsA, reduceLeDiff, reduceMul, reduceSub, reduceIte, gx, (cI6G vc x).1, (cI6G vc x).2.1, (cI6G vc x).2.2.1, (cI6G vc x).2.2.2.1, (cI6G vc x).2.2.2.2.1, (cI6G vc x).2.2.2.2.2, hlen]
  refine (o1.keeps p1.k).appR p1.bs (by simp only [List.length_append, be_length, List.length_cons, List.length_nil]; omega) ?_
  intro v2 K2 o2
  have k2 := o2.k
  simp (disch := first | assumption | omega | (simp only [LN] <;> omega) | (simp (disch := first | assumption | omega | (simp only [LN] <;> omega)) only [row_alloc, row_set, Keeps.row k2]; assumption)) only [Keeps.get k2, Keeps.row k2, W_block, P3, ↓reduceIte, reduceAdd, reduceEqDiff, reduceCtorEq, initFr, reduceLT, clsA, reduceLeDiff, reduceMul, reduceSub, reduceIte, gx, (cI6G vc x).1, (cI6G vc x).2.1, (cI6G vc x).2.2.1, (cI6G vc x).2.2.2.1, (cI6G vc x).2.2.2.2.1, (cI6G vc x).2.2.2.2.2, hlen]
  refine callK (t91 (x.oc) 8 (by omega) _) ?_
  rintro w2 L2 p2
  simp (disch := first | assumption | omega | (simp only [LN] <;> omega) | (simp (disch := first | assumption | omega | (simp only [LN] <;> omega)) only [row_alloc, row_set, Keeps.row k2]; assumption)) only [Keeps.get k2, Keeps.row k2, W_block, P3, ↓reduceIte, reduceAdd, reduceEqDiff, reduceCtorEq, initFr, reduceLT, clsA, reduceLeDiff, reduceMul, reduceSub, reduceIte, gx, (cI6G vc x).1, (cI6G vc x).2.1, (cI6G vc x).2.2.1, (cI6G vc x).2.2.2.1, (cI6G vc x).2.2.2.2.1, (cI6G vc x).2.2.2.2.2, hlen]
  refine (o2.keeps p2.k).appR p2.bs (by simp only [List.length_append, be_length, List.length_cons, List.length_nil]; omega) ?_
  intro v3 K3 o3
  have k3 := o3.k
  simp (disch := first | assumption | omega | (simp only [LN] <;> omega) | (simp (disch := first | assumption | omega | (simp only [LN] <;> omega)) only [row_alloc, row_set, Keeps.row k3]; assumption)) only [Keeps.get k3, Keeps.row k3, W_block, P3, ↓reduceIte, reduceAdd, reduceEqDiff, reduceCtorEq, initFr, reduceLT, clsA, reduceLeDiff, reduceMul, reduceSub, reduceIte, gx, (cI6G vc x).1, (cI6G vc x).2.1, (cI6G vc x).2.2.1, (cI6G vc x).2.2.2.1, (cI6G vc x).2.2.2.2.1, (cI6G vc x).2.2.2.2.2, hlen, u64w (show x.no < 18446744073709551616 by omega)]
  refine callK (t91 (x.no) 4 (by omega) _) ?_
  rintro w3 L3 p3
  simp (disch := first | assumption | omega | (simp only [LN] <;> omega) | (simp (disch := first | assumption | omega | (simp only [LN] <;> omega)) only [row_alloc, row_set, Keeps.row k3]; assumption)) only [Keeps.get k3, Keeps.row k3, W_block, P3, ↓reduceIte, reduceAdd, reduceEqDiff, reduceCtorEq, initFr, reduceLT, clsA, reduceLeDiff, reduceMul, reduceSub, reduceIte, gx, (cI6G vc x).1, (cI6G vc x).2.1, (cI6G vc x).2.2.1, (cI6G vc x).2.2.2.1, (cI6G vc x).2.2.2.2.1, (cI6G vc x).2.2.2.2.2, hlen]
  refine (o3.keeps p3.k).appR p3.bs (by simp only [List.length_append, be_length, List.length_cons, List.length_nil]; omega) ?_
  intro v4 K4 o4
  have k4 := o4.k
  simp (disch := first | assumption | omega | (simp only [LN] <;> omega) | (simp (disch := first | assumption | omega | (simp only [LN] <;> omega)) only [row_alloc, row_set, Keeps.row k4]; assumption)) only [Keeps.get k4, Keeps.row k4, W_block, P3, ↓reduceIte, reduceAdd, reduceEqDiff, reduceCtorEq, initFr, reduceLT, clsA, reduceLeDiff, reduceMul, reduceSub, reduceIte, gx, (cI6G vc x).1, (cI6G vc x).2.1, (cI6G vc x).2.2.1, (cI6G vc x).2.2.2.1, (cI6G vc x).2.2.2.2.1, (cI6G vc x).2.2.2.2.2, hlen, u64w (show x.re < 18446744073709551616 by omega)]
  refine callK (t91 (x.re) 4 (by omega) _) ?_
  rintro w4 L4 p4
  simp (disch := first | assumption | omega | (simp only [LN] <;> omega) | (simp (disch := first | assumption | omega | (simp only [LN] <;> omega)) only [row_alloc, row_set, Keeps.row k4]; assumption)) only [Keeps.get k4, Keeps.row k4, W_block, P3, ↓reduceIte, reduceAdd, reduceEqDiff, reduceCtorEq, initFr, reduceLT, clsA, reduceLeDiff, reduceMul, reduceSub, reduceIte, gx, (cI6G vc x).1, (cI6G vc x).2.1, (cI6G vc x).2.2.1, (cI6G vc x).2.2.2.1, (cI6G vc x).2.2.2.2.1, (cI6G vc x).2.2.2.2.2, hlen]
  refine (o4.keeps p4.k).appR p4.bs (by simp only [List.length_append, be_length, List.length_cons, List.length_nil]; omega) ?_
  intro v5 K5 o5
  have k5 := o5.k
  simp (disch := first | assumption | omega | (simp only [LN] <;> omega) | (simp (disch := first | assumption | omega | (simp only [LN] <;> omega)) only [row_alloc, row_set, Keeps.row k5]; assumption)) only [Keeps.get k5, Keeps.row k5, W_block, P3, ↓reduceIte, reduceAdd, reduceEqDiff, reduceCtorEq, initFr, reduceLT, clsA, reduceLeDiff, reduceMul, reduceSub, reduceIte, gx, (cI6G vc x).1, (cI6G vc x).2.1, (cI6G vc x).2.2.1, (cI6G vc x).2.2.2.1, (cI6G vc x).2.2.2.2.1, (cI6G vc x).2.2.2.2.2, hlen, wl]
  have o6 : OB 5 H1 (K5.alloc (.cells true false 1 [.int .u8 (x.cs.length : Nat)] 5)) (slc K5.n 0 1 1) [UInt8.ofNat x.cs.length] := OB.lit k5 (cells1 (show x.cs.length < 256 by omega)) rfl rfl false
  refine (o5.keeps ((Keeps.refl K5).alloc _)).appR o6.bs (by simp only [List.length_append, be_length, List.length_cons, List.length_nil]; omega) ?_
  intro v7 K7 o7
  have k7 := o7.k
  simp (disch := first | assumption | omega | (simp only [LN] <;> omega) | (simp (disch := first | assumption | omega | (simp only [LN] <;> omega)) only [row_alloc, row_set, Keeps.row k7]; assumption)) only [Keeps.get k7, Keeps.row k7, W_block, P3, ↓reduceIte, reduceAdd, reduceEqDiff, reduceCtorEq, initFr, reduceLT, clsA, reduceLeDiff, reduceMul, reduceSub, reduceIte, gx, (cI6G vc x).1, (cI6G vc x).2.1, (cI6G vc x).2.2.1, (cI6G vc x).2.2.2.1, (cI6G vc x).2.2.2.2.1, (cI6G vc x).2.2.2.2.2, hlen]
  refine W_loop2 (fun q fr K => ∃ (i : Nat) (v pc e f : Value), i ≤ x.cs.length ∧ q = x.cs.length - i ∧ (∀ j (hj : j < x.cs.length), j < i → cmB x.cs[j] = true) ∧ OB 5 H1 K v ([UInt8.ofNat 1, UInt8.ofNat x.ch] ++ be 8 x.cy.toNat ++ be 8 x.oc ++ be 4 x.no ++ be 4 x.re ++ [UInt8.ofNat x.cs.length] ++ enCs (x.cs.take i)) ∧
    fr = [.agg (cI6 vc x).toArray, ptr H.n 0, .slice none 0 0, v, .int .i64 i, pc, .bool false, e, f]) x.cs.length ⟨0, v7, undef, undef, undef, by omega, rfl, by intro j _ h; omega, by simpa [enCs] using o7, rfl⟩ ?_
  rintro Q' q fr K ⟨i, v, pc, e, f, hi, rfl, hall, o8, rfl⟩ hnx hex hrt
  have k8 := o8.k
  by_cases hc : i < x.cs.length
  · obtain ⟨hnn, hrow⟩ := (hC.keeps k8).at_ (by omega) (i := i) (by simpa [CC] using hc)
    simp only [CC, List.getElem_map] at hrow
    obtain ⟨y, hy⟩ : ∃ y, y = x.cs[i] := ⟨_, rfl⟩
    rw [← hy] at hrow
    simp (disch := first | assumption | omega | (simp only [LN] <;> omega) | (simp (disch := first | assumption | omega | (simp only [LN] <;> omega)) only [row_alloc, row_set, Keeps.row k8]; assumption)) only [Keeps.get k8, Keeps.row k8, W_block, P3, ↓reduceIte, reduceAdd, reduceEqDiff, reduceCtorEq, initFr, reduceLT, clsA, reduceLeDiff, reduceMul, reduceSub, reduceIte, gx, (cI6G vc x).1, (cI6G vc x).2.1, (cI6G vc x).2.2.1, (cI6G vc x).2.2.2.1, (cI6G vc x).2.2.2.2.1, (cI6G vc x).2.2.2.2.2, hlen]
    by_cases hb : cmB y = true
    rotate_left
    · have e : fI6 x = [] := by
        unfold fI6
        rw [if_neg]
        intro h
        have := (okI6_iff.1 h).2.2 x.cs[i] (List.getElem_mem hc)
        rw [← hy] at this
        exact hb (cmB_iff.2 this)
      have hno : (y.1 : Int) < 1 ∨ 3 < (y.1 : Int) ∨ y.2 < 0 ∨ 63 < y.2 := by
        by_cases h0 : (y.1 : Int) < 1 ∨ 3 < (y.1 : Int) ∨ y.2 < 0 ∨ 63 < y.2
        · exact h0
        · exact absurd (cmB_iff.2 (by omega)) hb
      by_cases c1 : (y.1 : Int) < 1
      · simp (disch := first | assumption | omega | (simp only [LN] <;> omega) | (simp (disch := first | assumption | omega | (simp only [LN] <;> omega)) only [row_alloc, row_set, Keeps.row k8]; assumption)) only [Keeps.get k8, Keeps.row k8, W_block, P3, ↓reduceIte, reduceAdd, reduceEqDiff, reduceCtorEq, initFr, reduceLT, clsA, reduceLeDiff, reduceMul, reduceSub, reduceIte, gx, (cI6G vc x).1, (cI6G vc x).2.1, (cI6G vc x).2.2.1, (cI6G vc x).2.2.2.1, (cI6G vc x).2.2.2.2.1, (cI6G vc x).2.2.2.2.2, hlen]
        refine hrt _ _ ?_
        simp (disch := first | assumption | omega | (simp only [LN] <;> omega) | (simp (disch := first | assumption | omega | (simp only [LN] <;> omega)) only [row_alloc, row_set]; assumption)) only [W_block, P3, ↓reduceIte, reduceAdd, reduceEqDiff, reduceCtorEq, initFr, reduceLT, clsA, reduceLeDiff, reduceMul, reduceSub, reduceIte]
        refine hq2 _ _ ⟨_, rfl, ?_⟩
        rw [e]
        exact (OB.nil _ _).base (kH.trans (k8.alloc _))
      by_cases c2 : 3 < (y.1 : Int)
      · simp (disch := first | assumption | omega | (simp only [LN] <;> omega) | (simp (disch := first | assumption | omega | (simp only [LN] <;> omega)) only [row_alloc, row_set, Keeps.row k8]; assumption)) only [Keeps.get k8, Keeps.row k8, W_block, P3, ↓reduceIte, reduceAdd, reduceEqDiff, reduceCtorEq, initFr, reduceLT, clsA, reduceLeDiff, reduceMul, reduceSub, reduceIte, gx, (cI6G vc x).1, (cI6G vc x).2.1, (cI6G vc x).2.2.1, (cI6G vc x).2.2.2.1, (cI6G vc x).2.2.2.2.1, (cI6G vc x).2.2.2.2.2, hlen]
        refine hrt _ _ ?_
        simp (disch := first | assumption | omega | (simp only [LN] <;> omega) | (simp (disch := first | assumption | omega | (simp only [LN] <;> omega)) only [row_alloc, row_set]; assumption)) only [W_block, P3, ↓reduceIte, reduceAdd, reduceEqDiff, reduceCtorEq, initFr, reduceLT, clsA, reduceLeDiff, reduceMul, reduceSub, reduceIte]
        refine hq2 _ _ ⟨_, rfl, ?_⟩
        rw [e]
        exact (OB.nil _ _).base (kH.trans (k8.alloc _))
      by_cases c3 : y.2 < 0
      · simp (disch := first | assumption | omega | (simp only [LN] <;> omega) | (simp (disch := first | assumption | omega | (simp only [LN] <;> omega)) only [row_alloc, row_set, Keeps.row k8]; assumption)) only [Keeps.get k8, Keeps.row k8, W_block, P3, ↓reduceIte, reduceAdd, reduceEqDiff, reduceCtorEq, initFr, reduceLT, clsA, reduceLeDiff, reduceMul, reduceSub, reduceIte, gx, (cI6G vc x).1, (cI6G vc x).2.1, (cI6G vc x).2.2.1, (cI6G vc x).2.2.2.1, (cI6G vc x).2.2.2.2.1, (cI6G vc x).2.2.2.2.2, hlen]
        refine hrt _ _ ?_
        simp (disch := first | assumption | omega | (simp only [LN] <;> omega) | (simp (disch := first | assumption | omega | (simp only [LN] <;> omega)) only [row_alloc, row_set]; assumption)) only [W_block, P3, ↓reduceIte, reduceAdd, reduceEqDiff, reduceCtorEq, initFr, reduceLT, clsA, reduceLeDiff, reduceMul, reduceSub, reduceIte]
        refine hq2 _ _ ⟨_, rfl, ?_⟩
        rw [e]
        exact (OB.nil _ _).base (kH.trans (k8.alloc _))
      have c4 : 63 < y.2 := by omega
      simp (disch := first | assumption | omega | (simp only [LN] <;> omega) | (simp (disch := first | assumption | omega | (simp only [LN] <;> omega)) only [row_alloc, row_set, Keeps.row k8]; assumption)) only [Keeps.get k8, Keeps.row k8, W_block, P3, ↓reduceIte, reduceAdd, reduceEqDiff, reduceCtorEq, initFr, reduceLT, clsA, reduceLeDiff, reduceMul, reduceSub, reduceIte, gx, (cI6G vc x).1, (cI6G vc x).2.1, (cI6G vc x).2.2.1, (cI6G vc x).2.2.2.1, (cI6G vc x).2.2.2.2.1, (cI6G vc x).2.2.2.2.2, hlen]
      refine hrt _ _ ?_
      simp (disch := first | assumption | omega | (simp only [LN] <;> omega) | (simp (disch := first | assumption | omega | (simp only [LN] <;> omega)) only [row_alloc, row_set]; assumption)) only [W_block, P3, ↓reduceIte, reduceAdd, reduceEqDiff, reduceCtorEq, initFr, reduceLT, clsA, reduceLeDiff, reduceMul, reduceSub, reduceIte]
      refine hq2 _ _ ⟨_, rfl, ?_⟩
      rw [e]
      exact (OB.nil _ _).base (kH.trans (k8.alloc _))
    obtain ⟨c1, c2, c3, c4⟩ := cmB_iff.1 hb
    have w2 : IntKind.u8.wrap y.2 = ((y.2.toNat : Nat) : Int) := by rw [wrap_u8]; omega
    simp (disch := first | assumption | omega | (simp only [LN] <;> omega) | (simp (disch := first | assumption | omega | (simp only [LN] <;> omega)) only [row_alloc, row_set, Keeps.row k8]; assumption)) only [Keeps.get k8, Keeps.row k8, W_block, P3, ↓reduceIte, reduceAdd, reduceEqDiff, reduceCtorEq, initFr, reduceLT, clsA, reduceLeDiff, reduceMul, reduceSub, reduceIte, gx, (cI6G vc x).1, (cI6G vc x).2.1, (cI6G vc x).2.2.1, (cI6G vc x).2.2.2.1, (cI6G vc x).2.2.2.2.1, (cI6G vc x).2.2.2.2.2, hlen, fillu2, w2]
    have o9 : OB 5 H1 ((K.alloc (.cells true false 2 [.int .u8 (y.1 : Nat), .int .i64 y.2] 108)).alloc (.cells true false 1 [.int .u8 (y.1 : Nat), .int .u8 (y.2.toNat : Nat)] 5)) (slc (K.n + 1) 0 2 2) [UInt8.ofNat y.1, UInt8.ofNat y.2.toNat] :=
      OB.lit (k8.alloc _) (cells2 (by omega) (by omega)) rfl rfl false
    refine (o8.keeps (((Keeps.refl K).alloc _).alloc _)).appR o9.bs (by simp only [List.length_append, be_length, List.length_cons, List.length_nil, enCs_len, List.length_take]; omega) ?_
    intro v10 K10 o10
    simp (disch := first | assumption | omega | (simp only [LN] <;> omega) | (simp (disch := first | assumption | omega | (simp only [LN] <;> omega)) only [row_alloc, row_set]; assumption)) only [W_block, P3, ↓reduceIte, reduceAdd, reduceEqDiff, reduceCtorEq, initFr, reduceLT, clsA, reduceLeDiff, reduceMul, reduceSub, reduceIte, wrap_succ (n := i) (by omega)]
    refine hnx _ _ _ ⟨i + 1, v10, _, _, _, by omega, rfl, ?_, ?_, rfl⟩ (by omega)
    · intro j hj hji
      by_cases hjk : j < i
      · exact hall j hj hjk
      · have : j = i := by omega
        subst this
        rw [← hy]; exact hb
    · rw [List.take_succ_eq_append_getElem hc, enCs_app, ← hy]
      have e1 : enCs [y] = [UInt8.ofNat y.1, UInt8.ofNat y.2.toNat] := by simp [enCs, be1]
      rw [e1]
      simp only [List.append_assoc] at o10 ⊢
      exact o10
  · simp (disch := first | assumption | omega | (simp only [LN] <;> omega) | (simp (disch := first | assumption | omega | (simp only [LN] <;> omega)) only [row_alloc, row_set, Keeps.row k8]; assumption)) only [Keeps.get k8, Keeps.row k8, W_block, P3, ↓reduceIte, reduceAdd, reduceEqDiff, reduceCtorEq, initFr, reduceLT, clsA, reduceLeDiff, reduceMul, reduceSub, reduceIte, gx, (cI6G vc x).1, (cI6G vc x).2.1, (cI6G vc x).2.2.1, (cI6G vc x).2.2.2.1, (cI6G vc x).2.2.2.2.1, (cI6G vc x).2.2.2.2.2, hlen]
    refine hex _ _ _ ?_
    have hil : i = x.cs.length := by omega
    subst hil
    rw [List.take_of_length_le (Nat.le_refl _)] at o8
    simp (disch := first | assumption | omega | (simp only [LN] <;> omega) | (simp (disch := first | assumption | omega | (simp only [LN] <;> omega)) only [row_alloc, row_set]; assumption)) only [W_block, P3, ↓reduceIte, reduceAdd, reduceEqDiff, reduceCtorEq, initFr, reduceLT, clsA, reduceLeDiff, reduceMul, reduceSub, reduceIte]
    refine callK (t92 o8 (by simp only [List.length_append, be_length, List.length_cons, List.length_nil, enCs_len]; omega)) ?_
    rintro v10 K10 o10
    simp (disch := first | assumption | omega | (simp only [LN] <;> omega) | (simp (disch := first | assumption | omega | (simp only [LN] <;> omega)) only [row_alloc, row_set]; assumption)) only [W_block, P3, ↓reduceIte, reduceAdd, reduceEqDiff, reduceCtorEq, initFr, reduceLT, clsA, reduceLeDiff, reduceMul, reduceSub, reduceIte]
    refine hq2 _ _ ⟨_, rfl, ?_⟩
    have e : fI6 x = chk ([UInt8.ofNat 1, UInt8.ofNat x.ch] ++ be 8 x.cy.toNat ++ be 8 x.oc ++ be 4 x.no ++ be 4 x.re ++ [UInt8.ofNat x.cs.length] ++ enCs x.cs) := by
      unfold fI6
      rw [if_pos (okI6_iff.2 ⟨cyB_iff.1 h1, by omega, fun c hc => by
        obtain ⟨j, hj, rfl⟩ := List.mem_iff_getElem.1 hc
        exact cmB_iff.1 (hall j hj hj)⟩)]
      unfold enI6
      simp only [be1, List.append_assoc, List.cons_append, List.nil_append]
      rfl
    rw [e]
    exact o10.base kH
end Go.AM.Fd

set_option linter.unusedSimpArgs false
set_option linter.unusedVariables false
namespace Go.AM.Fd
open Nat (reduceAdd reduceEqDiff reduceLT reduceLeDiff reduceMul reduceSub)
open Go.Proofs Go.AM.F
theorem na_one {b : List UInt8} {i : Nat} (h : i < b.length) : na b i 1 = b[i].toNat := by
  unfold na seg
  rw [if_neg (by omega), List.drop_eq_getElem_cons h]
  simp only [List.take_succ_cons, List.take_zero]
  have := b[i].toNat_lt
  simp only [num, List.foldl_cons, List.foldl_nil]
  omega
theorem geOu_some {b : List UInt8} {y : Ou} (h : geOu b = some y) : fOu y = b ∧ rgOu y ∧ y = deOu (bd b) ∧ b.length = 34 := by
  unfold geOu at h
  split at h
  · rename_i hf
    have hd : y = deOu (bd b) := by unfold pdOu at h; split at h; exact (Option.some.inj h).symm; cases h
    obtain ⟨h1, h2, h3⟩ := pdOu_e h
    have h5 := frm_len hf
    have hl := enOu_len y
    rw [h1, bd_len] at hl
    refine ⟨?_, h3, hd, by omega⟩
    unfold fOu
    rw [if_pos h2, h1]
    exact (frm_eq hf).symm
  · cases h
theorem geOu_of {x : Ou} (hr : rgOu x) {b : List UInt8} (hb : b ≠ []) (h : fOu x = b) : geOu b = some x := by
  unfold fOu at h
  split at h
  · rename_i hok
    subst h
    unfold geOu
    have e : frm 2 (chk (2 :: enOu x)) = true := frm_chk (k := 2) _
    rw [if_pos e, bd_chk, pdOu_d hok hr]
  · exact absurd h.symm hb
theorem geSt_some {b : List UInt8} {y : St} (h : geSt b = some y) : fSt y = b ∧ rgSt y ∧ y = deSt (bd b) 0 ∧ b.length = 97 := by
  unfold geSt at h
  split at h
  · rename_i hf
    have hd : y = deSt (bd b) 0 := by unfold pdSt at h; split at h; exact (Option.some.inj h).symm; cases h
    obtain ⟨h1, h3⟩ := pdSt_e h
    have h5 := frm_len hf
    have hl := enSt_len h3.1
    rw [h1, bd_len] at hl
    refine ⟨?_, h3, hd, by omega⟩
    unfold fSt
    rw [h1]
    exact (frm_eq hf).symm
  · cases h
theorem geSt_of {x : St} (hr : rgSt x) {b : List UInt8} (h : fSt x = b) : geSt b = some x := by
  unfold fSt at h
  subst h
  unfold geSt
  have e : frm 3 (chk (3 :: enSt x)) = true := frm_chk (k := 3) _
  rw [if_pos e, bd_chk, pdSt_d hr]
theorem geLo_some {b : List UInt8} {y : Lo} (h : geLo b = some y) : fLo y = b ∧ rgSt y.s ∧ y = deLo (bd b) ∧ b.length = 113 := by
  unfold geLo at h
  split at h
  · rename_i hf
    have hd : y = deLo (bd b) := by unfold pdLo at h; split at h; exact (Option.some.inj h).symm; cases h
    obtain ⟨h1, h2, h3⟩ := pdLo_e h
    have h5 := frm_len hf
    have hl := enLo_len h3.1
    rw [h1, bd_len] at hl
    refine ⟨?_, h3, hd, by omega⟩
    unfold fLo
    rw [if_pos h2, h1]
    exact (frm_eq hf).symm
  · cases h
theorem geLo_of {x : Lo} (hr : rgSt x.s) {b : List UInt8} (hb : b ≠ []) (h : fLo x = b) : geLo b = some x := by
  unfold fLo at h
  split at h
  · rename_i hok
    subst h
    unfold geLo
    have e : frm 4 (chk (4 :: enLo x)) = true := frm_chk (k := 4) _
    rw [if_pos e, bd_chk, pdLo_d hok hr]
  · exact absurd h.symm hb
theorem geLi_some {b : List UInt8} {y : Li} (h : geLi b = some y) : fLi y = b ∧ rgLi y ∧ y = deLi (bd b) ∧ b.length = 25 + y.B.length := by
  unfold geLi at h
  split at h
  · rename_i hf
    have hd : y = deLi (bd b) := by unfold pdLi at h; split at h; exact (Option.some.inj h).symm; cases h
    obtain ⟨h1, h2, h3⟩ := pdLi_e h
    have h5 := frm_len hf
    have hl := enLi_len y
    rw [h1, bd_len] at hl
    refine ⟨?_, h3, hd, by omega⟩
    unfold fLi
    rw [if_pos h2, h1]
    exact (frm_eq hf).symm
  · cases h
theorem geLi_of {x : Li} (hr : rgLi x) {b : List UInt8} (hb : b ≠ []) (h : fLi x = b) : geLi b = some x := by
  unfold fLi at h
  split at h
  · rename_i hok
    subst h
    unfold geLi
    have e : frm 5 (chk (5 :: enLi x)) = true := frm_chk (k := 5) _
    rw [if_pos e, bd_chk, pdLi_d hok hr]
  · exact absurd h.symm hb
theorem geI6_some {b : List UInt8} {y : I6} (h : geI6 b = some y) : fI6 y = b ∧ rgI6 y ∧ y = deI6 (bd b) ∧ b.length = 31 + 2 * y.cs.length := by
  unfold geI6 at h
  split at h
  · rename_i hf
    have hd : y = deI6 (bd b) := by unfold pdI6 at h; split at h; exact (Option.some.inj h).symm; cases h
    obtain ⟨h1, h2, h3⟩ := pdI6_e h
    have h5 := frm_len hf
    have hl := enI6_len y
    rw [h1, bd_len] at hl
    refine ⟨?_, h3, hd, by omega⟩
    unfold fI6
    rw [if_pos h2, h1]
    exact (frm_eq hf).symm
  · cases h
theorem geI6_of {x : I6} (hr : rgI6 x) {b : List UInt8} (hb : b ≠ []) (h : fI6 x = b) : geI6 b = some x := by
  unfold fI6 at h
  split at h
  · rename_i hok
    subst h
    unfold geI6
    have e : frm 1 (chk (1 :: enI6 x)) = true := frm_chk (k := 1) _
    rw [if_pos e, bd_chk, pdI6_d hok hr]
  · exact absurd h.symm hb
def GotB (c : List Value) (ok : Bool) : Value := .tuple #[.agg c.toArray, .bool ok]
theorem GotB.nv {ρ : Nat → Option Nat} {c : List Value} (h : c.all plain1 = true) (ok : Bool) : NV ρ (GotB c ok) (GotB c ok) :=
  NV.tuple_of (.cons (NV.agg_of (NL.plain h)) (.cons (.bool ok) .nil))
theorem touch_b2s (v : Value) (X : AHeap) : touchA (.b2s v) X = tb v := by
  unfold touchA
  have : clsA (.b2s v) = 1 := rfl
  rw [if_pos this]
  cases v <;> try rfl
  rename_i a n k
  cases a with
  | none => rfl
  | some a =>
    obtain ⟨b, o, z⟩ := a
    cases z <;> rfl
theorem tbk {H K : AHeap} {v : Value} {b : List UInt8} (h : BS H v b) (k : Keeps H K) : olderB (tb v) H ∧ keepsB (tb v) H K := ⟨tb_older h.tbl, tb_keeps (fun y hy => ⟨h.tbl y hy, by simp⟩) (k.chg [])⟩
theorem cOuL (x : Ou) : (cOu x).length = 5 := rfl
theorem cOuO (x : Ou) : (cOu x).all Value.oneCell' = true := rfl
def tOu (o : Option Ou) : Value := match o with
  | some x => GotB (cOu x) true
  | none => GotB (cOu Ou0) false
theorem t17 {H : AHeap} {v : Value} {b : List UInt8} (hb : BQ H v b) (hl : b.length ≤ 1000000000) : ∃ w H', ARun Go.Proofs.Try.prog 0 17 [v] H w H' ∧ w = tOu (geOu b) ∧ H' = H := by
  suffices h : ∃ w H', ARun Go.Proofs.Try.prog 0 17 [v] H w H' ∧ w = tOu (geOu b) ∧ Keeps H H' by
    obtain ⟨_, _, a, rfl, k⟩ := h
    refine ⟨_, _, a.gc0 k (.inr ?_), rfl, rfl⟩
    cases geOu b <;> exact GotB.nv rfl _
  refine walk2 f17_ok f17_n ?_
  intro Q hq1 hq2
  have hr : ∀ fr H', resO f17.res fr H' = (celln 5 (fr.getD 1 undef) H').map fun c => .tuple #[c, fr.getD 2 undef] := fun fr H' => resCT 5 1 2 fr
  have hs := hb.bs.sl
  have his := hs.is
  have hlen := hs.len
  rw [List.length_map] at hlen
  have lz : (cOu Ou0).length = 5 := rfl
  have ozz : (cOu Ou0).all Value.oneCell' = true := rfl
  have k0 := (Keeps.refl H).alloc (.cells true false 5 (cOu Ou0) 45)
  by_cases h0 : b.length = 34
  rotate_left
  · simp (disch := first | assumption | omega | (simp only [LN] <;> omega) | (simp (disch := first | assumption | omega | (simp only [LN] <;> omega)) only [row_alloc, row_set]; assumption)) only [f17, W_block, P3, ↓reduceIte, reduceAdd, reduceEqDiff, reduceCtorEq, initFr, reduceLT, clsA, reduceLeDiff, reduceMul, reduceSub, reduceIte, hlen, ozz]
    refine hq2 _ _ ⟨_, by rw [hr]; simp (disch := first | assumption | omega | (simp only [LN] <;> omega) | (simp (disch := first | assumption | omega | (simp only [LN] <;> omega)) only [row_alloc, row_set]; assumption)) only [W_block, P3, ↓reduceIte, reduceAdd, reduceEqDiff, reduceCtorEq, initFr, reduceLT, clsA, reduceLeDiff, reduceMul, reduceSub, reduceIte, ozz, lz]; rfl, ?_, k0⟩
    cases hg : geOu b with
    | none => rfl
    | some y => exact absurd (geOu_some hg).2.2.2 h0
  obtain ⟨hnn, hrow⟩ := hs.at_ (by omega) (i := 1) (by rw [List.length_map]; omega)
  rw [List.getElem_map] at hrow
  have hbn := hs.bn_le (by intro e; simp at e; subst e; simp at h0) (by omega)
  rw [← na_one (by omega)] at hrow
  simp (disch := first | assumption | omega | (simp only [LN] <;> omega) | (simp (disch := first | assumption | omega | (simp only [LN] <;> omega)) only [row_alloc, row_set]; assumption)) only [f17, W_block, P3, ↓reduceIte, reduceAdd, reduceEqDiff, reduceCtorEq, initFr, reduceLT, clsA, reduceLeDiff, reduceMul, reduceSub, reduceIte, hlen, ozz, Int.reduceToNat]
  refine callK (t67 (hb.keeps (by ((repeat (first | exact Keeps.refl _ | assumption | refine Keeps.alloc ?_ _ | (refine Keeps.set ?_ (by first | omega | (simp only [alloc_n, set_n] <;> omega)) (by first | omega | (simp only [alloc_n, set_n] <;> omega)) _) | (refine Keeps.trans' (by assumption) ?_)))))) 2 8 (by omega) (by omega) hl) ?_
  rintro _ _ ⟨rfl, rfl⟩
  simp (disch := first | assumption | omega | (simp only [LN] <;> omega) | (simp (disch := first | assumption | omega | (simp only [LN] <;> omega)) only [row_alloc, row_set]; assumption)) only [W_block, P3, ↓reduceIte, reduceAdd, reduceEqDiff, reduceCtorEq, initFr, reduceLT, clsA, reduceLeDiff, reduceMul, reduceSub, reduceIte, hlen, ozz, ite_self, Int.reduceToNat]
  refine callK (t67 (hb.keeps (by ((repeat (first | exact Keeps.refl _ | assumption | refine Keeps.alloc ?_ _ | (refine Keeps.set ?_ (by first | omega | (simp only [alloc_n, set_n] <;> omega)) (by first | omega | (simp only [alloc_n, set_n] <;> omega)) _) | (refine Keeps.trans' (by assumption) ?_)))))) 10 8 (by omega) (by omega) hl) ?_
  rintro _ _ ⟨rfl, rfl⟩
  simp (disch := first | assumption | omega | (simp only [LN] <;> omega) | (simp (disch := first | assumption | omega | (simp only [LN] <;> omega)) only [row_alloc, row_set]; assumption)) only [W_block, P3, ↓reduceIte, reduceAdd, reduceEqDiff, reduceCtorEq, initFr, reduceLT, clsA, reduceLeDiff, reduceMul, reduceSub, reduceIte, hlen, ozz, ite_self, Int.reduceToNat]
  refine callK (t67 (hb.keeps (by ((repeat (first | exact Keeps.refl _ | assumption | refine Keeps.alloc ?_ _ | (refine Keeps.set ?_ (by first | omega | (simp only [alloc_n, set_n] <;> omega)) (by first | omega | (simp only [alloc_n, set_n] <;> omega)) _) | (refine Keeps.trans' (by assumption) ?_)))))) 18 8 (by omega) (by omega) hl) ?_
  rintro _ _ ⟨rfl, rfl⟩
  simp (disch := first | assumption | omega | (simp only [LN] <;> omega) | (simp (disch := first | assumption | omega | (simp only [LN] <;> omega)) only [row_alloc, row_set]; assumption)) only [W_block, P3, ↓reduceIte, reduceAdd, reduceEqDiff, reduceCtorEq, initFr, reduceLT, clsA, reduceLeDiff, reduceMul, reduceSub, reduceIte, hlen, ozz, ite_self, Int.reduceToNat]
  refine callK (t67 (hb.keeps (by ((repeat (first | exact Keeps.refl _ | assumption | refine Keeps.alloc ?_ _ | (refine Keeps.set ?_ (by first | omega | (simp only [alloc_n, set_n] <;> omega)) (by first | omega | (simp only [alloc_n, set_n] <;> omega)) _) | (refine Keeps.trans' (by assumption) ?_)))))) 26 4 (by omega) (by omega) hl) ?_
  rintro _ _ ⟨rfl, rfl⟩
  have w4 : IntKind.u32.wrap (na b 26 4 : Nat) = (na b 26 4 : Nat) := by have := na4 b 26; rw [wrap_u32]; omega
  obtain ⟨x, hx⟩ : ∃ x, x = (⟨na b 1 1, sg (na b 2 8), sg (na b 10 8), na b 18 8, na b 26 4⟩ : Ou) := ⟨_, rfl⟩
  have hd : x = deOu (bd b) := by
    rw [hx]
    unfold deOu
    rw [← na_bd (s := 0) (by omega), ← na_bd (s := 1) (by omega), ← na_bd (s := 9) (by omega), ← na_bd (s := 17) (by omega), ← na_bd (s := 25) (by omega)]
  have hrg : rgOu x := by rw [hd]; exact deOu_rg _
  have lx : (cOu x).length = 5 := rfl
  have ox : (cOu x).all Value.oneCell' = true := rfl
  simp (disch := first | assumption | omega | (simp only [LN] <;> omega) | (simp (disch := first | assumption | omega | (simp only [LN] <;> omega)) only [row_alloc, row_set]; assumption)) only [W_block, P3, ↓reduceIte, reduceAdd, reduceEqDiff, reduceCtorEq, initFr, reduceLT, clsA, reduceLeDiff, reduceMul, reduceSub, reduceIte, hlen, ozz, ite_self, Int.reduceToNat, fillOp, fillOu, w4, cOuL, cOuO]
  rw [show (⟨na b 1 1, IntKind.i64.wrap (na b 2 8), IntKind.i64.wrap (na b 10 8), na b 18 8, na b 26 4⟩ : Ou) = x from hx.symm]
  simp (disch := first | assumption | omega | (simp only [LN] <;> omega) | (simp (disch := first | assumption | omega | (simp only [LN] <;> omega)) only [row_alloc, row_set]; assumption)) only [W_block, P3, ↓reduceIte, reduceAdd, reduceEqDiff, reduceCtorEq, initFr, reduceLT, clsA, reduceLeDiff, reduceMul, reduceSub, reduceIte]
  refine callK (t49 x hrg _) ?_
  rintro v2 K2 o2
  have k2 := o2.k
  have kb := k0.trans (((Keeps.refl _).alloc (.cells true false 5 (cOu x) 45)).trans k2)
  have hb2 := hb.bs.keeps kb
  have tk := tbk (hb.bs.keeps (k0.trans ((Keeps.refl _).alloc (.cells true false 5 (cOu x) 45)))) k2
  have n2 := k2.n
  simp only [alloc_n] at n2
  by_cases heq : fOu x = b
  · have hg := geOu_of hrg (by intro e; rw [e] at h0; simp at h0) heq
    have e1 : decide (fOu x = b) = true := by simp [heq]
    simp (disch := first | assumption | omega | (simp only [LN] <;> omega) | (simp (disch := first | assumption | omega | (simp only [LN] <;> omega)) only [row_alloc, row_set, Keeps.row k2]; assumption)) only [Keeps.get k2, Keeps.row k2, W_block, P3, ↓reduceIte, reduceAdd, reduceEqDiff, reduceCtorEq, initFr, reduceLT, clsA, reduceLeDiff, reduceMul, reduceSub, reduceIte, a_b2sB o2.bs, a_b2sB hb2, touch_b2s, ite_self, bytes_eq, e1, ox, ozz, lz]
    refine ⟨tk, ?_⟩
    refine hq2 _ _ ⟨_, by rw [hr]; simp (disch := first | assumption | omega | (simp only [LN] <;> omega) | (simp (disch := first | assumption | omega | (simp only [LN] <;> omega)) only [row_alloc, row_set, Keeps.row k2]; assumption)) only [Keeps.get k2, Keeps.row k2, W_block, P3, ↓reduceIte, reduceAdd, reduceEqDiff, reduceCtorEq, initFr, reduceLT, clsA, reduceLeDiff, reduceMul, reduceSub, reduceIte]; rfl, by rw [hg]; rfl, ?_⟩
    exact kb.set (Nat.le_refl _) (by omega) _
  · have e1 : decide (fOu x = b) = false := by simp [heq]
    have hg : geOu b = none := by
      cases hg : geOu b with
      | none => rfl
      | some y =>
        obtain ⟨h1, _, h3, _⟩ := geOu_some hg
        rw [← hd] at h3
        subst h3
        exact absurd h1 heq
    simp (disch := first | assumption | omega | (simp only [LN] <;> omega) | (simp (disch := first | assumption | omega | (simp only [LN] <;> omega)) only [row_alloc, row_set, Keeps.row k2]; assumption)) only [Keeps.get k2, Keeps.row k2, W_block, P3, ↓reduceIte, reduceAdd, reduceEqDiff, reduceCtorEq, initFr, reduceLT, clsA, reduceLeDiff, reduceMul, reduceSub, reduceIte, a_b2sB o2.bs, a_b2sB hb2, touch_b2s, ite_self, bytes_eq, e1, ox, ozz, lz]
    refine ⟨tk, ?_⟩
    refine hq2 _ _ ⟨_, by rw [hr]; simp (disch := first | assumption | omega | (simp only [LN] <;> omega) | (simp (disch := first | assumption | omega | (simp only [LN] <;> omega)) only [row_alloc, row_set, Keeps.row k2]; assumption)) only [Keeps.get k2, Keeps.row k2, W_block, P3, ↓reduceIte, reduceAdd, reduceEqDiff, reduceCtorEq, initFr, reduceLT, clsA, reduceLeDiff, reduceMul, reduceSub, reduceIte, ozz, lz]; rfl, by rw [hg]; rfl, ?_⟩
    exact kb.set (Nat.le_refl _) (by omega) _
end Go.AM.Fd

set_option linter.unusedSimpArgs false
set_option linter.unusedVariables false
namespace Go.AM.Fd
open Nat (reduceAdd reduceEqDiff reduceLT reduceLeDiff reduceMul reduceSub)
open Go.Proofs Go.AM.F
def tR (b : List UInt8) (s i : Nat) : List UInt8 := (List.range i).map (fun j => UInt8.ofNat (na b (s + j) 1)) ++ List.replicate (64 - i) 0
def deR (b : List UInt8) (s : Nat) : St := ⟨na b s 8, na b (s + 8) 8, na b (s + 16) 8, tR b (s + 24) 64, na b (s + 88) 4⟩
theorem tR_len (b : List UInt8) (s : Nat) {i : Nat} (h : i ≤ 64) : (tR b s i).length = 64 := by simp [tR]; omega
theorem tR_set (b : List UInt8) (s : Nat) {i : Nat} (h : i < 64) : (tR b s i).set i (UInt8.ofNat (na b (s + i) 1)) = tR b s (i + 1) := by
  unfold tR
  rw [List.set_append_right _ _ (by simp)]
  simp only [List.length_map, List.length_range, Nat.sub_self]
  rw [show 64 - i = (64 - (i + 1)) + 1 by omega, List.replicate_succ, List.set_cons_zero, List.range_succ, List.map_append]
  simp
theorem tR_in {b : List UInt8} {s : Nat} (h : s + 64 ≤ b.length) : tR b s 64 = (b.drop s).take 64 := by
  apply List.ext_getElem?
  intro i
  by_cases hi : i < 64
  · rw [List.getElem?_take_of_lt hi, List.getElem?_drop]
    unfold tR
    rw [List.getElem?_append_left (by simpa using hi)]
    simp only [List.getElem?_map, List.getElem?_range hi, Option.map_some]
    rw [na_one (by omega), List.getElem?_eq_getElem (by omega)]
    simp
  · rw [List.getElem?_eq_none (by rw [tR_len _ _ (Nat.le_refl _)]; omega), List.getElem?_eq_none (by rw [List.length_take]; omega)]
theorem deR_rg (b : List UInt8) (s : Nat) : rgSt (deR b s) := ⟨tR_len b _ (Nat.le_refl _), na8 b _, na8 b _, na8 b _, na4 b _⟩
theorem deR_in {b : List UInt8} {s : Nat} (h : s + 92 + 5 ≤ b.length) : deR b (s + 1) = deSt (bd b) s := by
  unfold deR deSt
  rw [na_bd (s := s) (by omega), show s + 1 + 8 = s + 8 + 1 by omega, na_bd (s := s + 8) (by omega), show s + 1 + 16 = s + 16 + 1 by omega, na_bd (s := s + 16) (by omega), show s + 1 + 88 = s + 88 + 1 by omega, na_bd (s := s + 88) (by omega)]
  rw [tR_in (by omega), tmr_in (by rw [bd_len]; omega)]
  unfold bd
  rw [List.drop_take, List.take_take, List.drop_drop, Nat.min_eq_left (by omega), show 1 + (s + 24) = s + 1 + 24 by omega]
theorem fillS4 (a b c p : Nat) : fillA Z68 [(0, 1, .int .u64 (a : Nat)), (1, 1, .int .u64 (b : Nat)), (2, 1, .int .u64 (c : Nat)), (67, 1, .int .u32 (p : Nat))] = some (cSt ⟨a, b, c, Z64, p⟩) := rfl
theorem cSt_setT {x : St} {i n : Nat} (hi : i < x.t.length) (hn : n < 256) : (cSt x).set (3 + i) (.int .u8 (n : Nat)) = cSt { x with t := x.t.set i (UInt8.ofNat n) } := by
  have e : (Value.int .u8 (n : Nat)) = .int .u8 ((UInt8.ofNat n).toNat : Nat) := by
    congr 1
    simp only [UInt8.toNat_ofNat']
    omega
  unfold cSt
  rw [show 3 + i = i + 1 + 1 + 1 by omega, List.set_cons_succ, List.set_cons_succ, List.set_cons_succ, List.set_append_left _ _ (by rw [cellsOf_length]; exact hi), e, cells_set]
theorem cSt_plain (x : St) : (cSt x).all plain1 = true := by
  have : (cellsOf x.t).all plain1 = true := by
    rw [List.all_eq_true]
    intro v hv
    simp only [cellsOf, List.mem_map] at hv
    obtain ⟨b, _, rfl⟩ := hv
    rfl
  simp only [cSt, List.all_cons, List.all_append, this]
  rfl
theorem cLo_plain (x : Lo) : (cLo x).all plain1 = true := by
  simp only [cLo, List.all_cons, cSt_plain]
  rfl
theorem t71 {H : AHeap} {v : Value} {b : List UInt8} (hb : BQ H v b) (s : Nat) (hs : s ≤ 1000) (hl : b.length ≤ 1000000000) : ∃ w H', ARun Go.Proofs.Try.prog 0 71 [v, .int .i64 (s : Nat)] H w H' ∧ w = .agg (cSt (deR b s)).toArray ∧ H' = H := by
  suffices h : ∃ w H', ARun Go.Proofs.Try.prog 0 71 [v, .int .i64 (s : Nat)] H w H' ∧ w = .agg (cSt (deR b s)).toArray ∧ Keeps H H' by
    obtain ⟨_, _, a, rfl, k⟩ := h
    exact ⟨_, _, a.gc0 k (.inr (NV.agg_of (NL.plain (cSt_plain _)))), rfl, rfl⟩
  refine walk2 f71_ok f71_n ?_
  intro Q hq1 hq2
  have hr : ∀ fr H', resO f71.res fr H' = (celln 68 (fr.getD 2 undef) H') := fun fr H' => resC 2 68 fr
  have lz : Z68.length = 68 := rfl
  have ozz : Z68.all Value.oneCell' = true := rfl
  have k0 := (Keeps.refl H).alloc (.cells true false 68 Z68 51)
  have w8 : IntKind.i64.wrap ((s : Int) + 8) = ((s + 8 : Nat) : Int) := by rw [wrap_i64 (by omega) (by omega)]; push_cast; rfl
  have w16 : IntKind.i64.wrap ((s : Int) + 16) = ((s + 16 : Nat) : Int) := by rw [wrap_i64 (by omega) (by omega)]; push_cast; rfl
  have w88 : IntKind.i64.wrap ((s : Int) + 88) = ((s + 88 : Nat) : Int) := by rw [wrap_i64 (by omega) (by omega)]; push_cast; rfl
  have w24 : IntKind.i64.wrap ((s : Int) + 24) = ((s + 24 : Nat) : Int) := by rw [wrap_i64 (by omega) (by omega)]; push_cast; rfl
  have w4 : IntKind.u32.wrap (na b (s + 88) 4 : Nat) = (na b (s + 88) 4 : Nat) := by have := na4 b (s + 88); rw [wrap_u32]; omega
  simp (disch := first | assumption | omega | (simp only [LN] <;> omega) | (simp (disch := first | assumption | omega | (simp only [LN] <;> omega)) only [row_alloc, row_set]; assumption)) only [f71, W_block, P3, ↓reduceIte, reduceAdd, reduceEqDiff, reduceCtorEq, initFr, reduceLT, clsA, reduceLeDiff, reduceMul, reduceSub, reduceIte, ozz]
  refine callK (t67 (hb.keeps k0) s 8 (by omega) (by omega) hl) ?_
  rintro _ _ ⟨rfl, rfl⟩
  simp (disch := first | assumption | omega | (simp only [LN] <;> omega) | (simp (disch := first | assumption | omega | (simp only [LN] <;> omega)) only [row_alloc, row_set]; assumption)) only [W_block, P3, ↓reduceIte, reduceAdd, reduceEqDiff, reduceCtorEq, initFr, reduceLT, clsA, reduceLeDiff, reduceMul, reduceSub, reduceIte, w8]
  refine callK (t67 (hb.keeps k0) (s + 8) 8 (by omega) (by omega) hl) ?_
  rintro _ _ ⟨rfl, rfl⟩
  simp (disch := first | assumption | omega | (simp only [LN] <;> omega) | (simp (disch := first | assumption | omega | (simp only [LN] <;> omega)) only [row_alloc, row_set]; assumption)) only [W_block, P3, ↓reduceIte, reduceAdd, reduceEqDiff, reduceCtorEq, initFr, reduceLT, clsA, reduceLeDiff, reduceMul, reduceSub, reduceIte, w16]
  refine callK (t67 (hb.keeps k0) (s + 16) 8 (by omega) (by omega) hl) ?_
  rintro _ _ ⟨rfl, rfl⟩
  simp (disch := first | assumption | omega | (simp only [LN] <;> omega) | (simp (disch := first | assumption | omega | (simp only [LN] <;> omega)) only [row_alloc, row_set]; assumption)) only [W_block, P3, ↓reduceIte, reduceAdd, reduceEqDiff, reduceCtorEq, initFr, reduceLT, clsA, reduceLeDiff, reduceMul, reduceSub, reduceIte, w88]
  refine callK (t67 (hb.keeps k0) (s + 88) 4 (by omega) (by omega) hl) ?_
  rintro _ _ ⟨rfl, rfl⟩
  have lS : ∀ a b c p : Nat, (cSt ⟨a, b, c, Z64, p⟩).length = 68 := fun a b c p => cSt_len (x := ⟨a, b, c, Z64, p⟩) rfl
  simp (disch := first | assumption | omega | (simp only [LN] <;> omega) | (simp (disch := first | assumption | omega | (simp only [LN] <;> omega)) only [row_alloc, row_set]; assumption)) only [W_block, P3, ↓reduceIte, reduceAdd, reduceEqDiff, reduceCtorEq, initFr, reduceLT, clsA, reduceLeDiff, reduceMul, reduceSub, reduceIte, w4, fillS4, ozz, lS, cSt_one]
  refine W_loop2 (fun q fr K => ∃ (i : Nat) (e : Value), i ≤ 64 ∧ q = 64 - i ∧ K = (H.alloc (.cells true false 68 Z68 51)).alloc (.cells true false 68 (cSt ⟨na b s 8, na b (s + 8) 8, na b (s + 16) 8, tR b (s + 24) i, na b (s + 88) 4⟩) 51) ∧ fr = [v, .int .i64 (s : Nat), ptr H.n 0, ptr (H.n + 1) 0, .int .i64 i, e]) 64 ⟨0, undef, by omega, rfl, rfl, rfl⟩ ?_
  rintro Q' q fr K ⟨i, e, hi, rfl, rfl, rfl⟩ hnx hex hrt
  by_cases hc : i < 64
  · have wi : IntKind.i64.wrap (((s + 24 : Nat) : Int) + (i : Int)) = ((s + 24 + i : Nat) : Int) := by rw [wrap_i64 (by omega) (by omega)]; push_cast; rfl
    simp (disch := first | assumption | omega | (simp only [LN] <;> omega) | (simp (disch := first | assumption | omega | (simp only [LN] <;> omega)) only [row_alloc, row_set]; assumption)) only [W_block, P3, ↓reduceIte, reduceAdd, reduceEqDiff, reduceCtorEq, initFr, reduceLT, clsA, reduceLeDiff, reduceMul, reduceSub, reduceIte, w24, wi]
    refine callK (t67 ((hb.keeps k0).keeps ((Keeps.refl _).alloc _)) (s + 24 + i) 1 (by omega) (by omega) hl) ?_
    rintro _ _ ⟨rfl, rfl⟩
    have h1 := na1 b (s + 24 + i)
    have wu : IntKind.u8.wrap (na b (s + 24 + i) 1 : Nat) = (na b (s + 24 + i) 1 : Nat) := by rw [wrap_u8]; omega
    have lt := tR_len b (s + 24) hi
    have ll := cSt_len (x := ⟨na b s 8, na b (s + 8) 8, na b (s + 16) 8, tR b (s + 24) i, na b (s + 88) 4⟩) lt
    simp (disch := first | assumption | omega | (simp only [LN] <;> omega) | (simp (disch := first | assumption | omega | (simp only [LN] <;> omega)) only [row_alloc, row_set]; assumption)) only [W_block, P3, ↓reduceIte, reduceAdd, reduceEqDiff, reduceCtorEq, initFr, reduceLT, clsA, reduceLeDiff, reduceMul, reduceSub, reduceIte, wu, wrap_succ (n := i) (by omega)]
    refine hnx _ _ _ ⟨i + 1, _, by omega, rfl, ?_, rfl⟩ (by omega)
    rw [cSt_setT (x := ⟨na b s 8, na b (s + 8) 8, na b (s + 16) 8, tR b (s + 24) i, na b (s + 88) 4⟩) (by rw [lt]; exact hc) h1]
    simp only [tR_set b (s + 24) hc]
  · have hi64 : i = 64 := by omega
    subst hi64
    simp (disch := first | assumption | omega | (simp only [LN] <;> omega) | (simp (disch := first | assumption | omega | (simp only [LN] <;> omega)) only [row_alloc, row_set]; assumption)) only [W_block, P3, ↓reduceIte, reduceAdd, reduceEqDiff, reduceCtorEq, initFr, reduceLT, clsA, reduceLeDiff, reduceMul, reduceSub, reduceIte]
    refine hex _ _ _ ?_
    have ll : (cSt (deR b s)).length = 68 := cSt_len (deR_rg b s).1
    have oo := cSt_one (deR b s)
    have ed : (⟨na b s 8, na b (s + 8) 8, na b (s + 16) 8, tR b (s + 24) 64, na b (s + 88) 4⟩ : St) = deR b s := rfl
    rw [ed]
    simp (disch := first | assumption | omega | (simp only [LN] <;> omega) | (simp (disch := first | assumption | omega | (simp only [LN] <;> omega)) only [row_alloc, row_set]; assumption)) only [W_block, P3, ↓reduceIte, reduceAdd, reduceEqDiff, reduceCtorEq, initFr, reduceLT, clsA, reduceLeDiff, reduceMul, reduceSub, reduceIte, oo, lz]
    refine hq2 _ _ ⟨_, by rw [hr]; simp (disch := first | assumption | omega | (simp only [LN] <;> omega) | (simp (disch := first | assumption | omega | (simp only [LN] <;> omega)) only [row_alloc, row_set]; assumption)) only [W_block, P3, ↓reduceIte, reduceAdd, reduceEqDiff, reduceCtorEq, initFr, reduceLT, clsA, reduceLeDiff, reduceMul, reduceSub, reduceIte], rfl, ?_⟩
    ((repeat (first | exact Keeps.refl _ | assumption | refine Keeps.alloc ?_ _ | (refine Keeps.set ?_ (by first | omega | (simp only [alloc_n, set_n] <;> omega)) (by first | omega | (simp only [alloc_n, set_n] <;> omega)) _) | (refine Keeps.trans' (by assumption) ?_))))
end Go.AM.Fd

set_option linter.unusedSimpArgs false
set_option linter.unusedVariables false
namespace Go.AM.Fd
open Nat (reduceAdd reduceEqDiff reduceLT reduceLeDiff reduceMul reduceSub)
open Go.Proofs Go.AM.F
def tSt (o : Option St) : Value := match o with
  | some x => GotB (cSt x) true
  | none => GotB (cSt St0) false
def tLo (o : Option Lo) : Value := match o with
  | some x => GotB (cLo x) true
  | none => GotB (cLo Lo0) false
def cLs (x : Li) : List Value := cLi (strB x.B) x
def tLi (o : Option Li) : Value := match o with
  | some x => GotB (cLs x) true
  | none => GotB (cLs Li0) false
theorem cLsL (x : Li) : (cLs x).length = 5 := rfl
theorem cLsO (x : Li) : (cLs x).all Value.oneCell' = true := rfl
theorem cLs_plain (x : Li) : (cLs x).all plain1 = true := rfl
theorem fillLs (f t : Nat) (q k : Int) (B : List UInt8) : fillA [.int .u8 0, .int .u8 0, .int .i64 0, .int .i64 0, .string ByteArray.empty] [(0, 1, .int .u8 (f : Nat)), (1, 1, .int .u8 (t : Nat)), (2, 1, .int .i64 q), (3, 1, .int .i64 k), (4, 1, .string ⟨B.toArray⟩)] = some (cLs ⟨f, t, q, k, B⟩) := rfl
theorem t20 {H : AHeap} {v : Value} {b : List UInt8} (hb : BQ H v b) (hl : b.length ≤ 1000000) : ∃ w H', ARun Go.Proofs.Try.prog 0 20 [v] H w H' ∧ w = tSt (geSt b) ∧ H' = H := by
  suffices h : ∃ w H', ARun Go.Proofs.Try.prog 0 20 [v] H w H' ∧ w = tSt (geSt b) ∧ Keeps H H' by
    obtain ⟨_, _, a, rfl, k⟩ := h
    refine ⟨_, _, a.gc0 k (.inr ?_), rfl, rfl⟩
    cases geSt b <;> exact GotB.nv (cSt_plain _) _
  refine walk2 f20_ok f20_n ?_
  intro Q hq1 hq2
  have hr : ∀ fr H', resO f20.res fr H' = (celln 68 (fr.getD 1 undef) H').map fun c => .tuple #[c, fr.getD 2 undef] := fun fr H' => resCT 68 1 2 fr
  have lz : (Z68 : List Value).length = 68 := rfl
  have ozz : (Z68 : List Value).all Value.oneCell' = true := rfl
  have k0 := (Keeps.refl H).alloc (.cells true false 68 (Z68) 51)
  obtain ⟨x, hx⟩ : ∃ x, x = deR b 1 := ⟨_, rfl⟩
  have hrg : rgSt x := by rw [hx]; exact deR_rg _ _
  have lx : (cSt x).length = 68 := cSt_len hrg.1
  have ox := cSt_one x
  simp (disch := first | assumption | omega | (simp only [LN] <;> omega) | (simp (disch := first | assumption | omega | (simp only [LN] <;> omega)) only [row_alloc, row_set]; assumption)) only [f20, W_block, P3, ↓reduceIte, reduceAdd, reduceEqDiff, reduceCtorEq, initFr, reduceLT, clsA, reduceLeDiff, reduceMul, reduceSub, reduceIte, ozz]
  refine callK (t71 (hb.keeps k0) 1 (by omega) (by omega)) ?_
  rintro _ _ ⟨rfl, rfl⟩
  rw [← hx]
  simp (disch := first | assumption | omega | (simp only [LN] <;> omega) | (simp (disch := first | assumption | omega | (simp only [LN] <;> omega)) only [row_alloc, row_set]; assumption)) only [W_block, P3, ↓reduceIte, reduceAdd, reduceEqDiff, reduceCtorEq, initFr, reduceLT, clsA, reduceLeDiff, reduceMul, reduceSub, reduceIte, ozz, lz, ox, lx]
  refine callK (t50 x hrg _) ?_
  rintro v2 K2 o2
  have k2 := o2.k
  have kC := k0.trans ((Keeps.refl _).alloc (.cells true false 68 (cSt x) 51))
  have tk := tbk (hb.bs.keeps kC) k2
  have n2 := k2.n
  simp only [alloc_n] at n2
  have kb := kC.trans k2
  have hb2 := hb.bs.keeps kb
  by_cases heq : fSt x = b
  · have e1 : decide (fSt x = b) = true := by simp [heq]
    have hg := geSt_of hrg heq
    simp (disch := first | assumption | omega | (simp only [LN] <;> omega) | (simp (disch := first | assumption | omega | (simp only [LN] <;> omega)) only [row_alloc, row_set, Keeps.row k2]; assumption)) only [Keeps.get k2, Keeps.row k2, W_block, P3, ↓reduceIte, reduceAdd, reduceEqDiff, reduceCtorEq, initFr, reduceLT, clsA, reduceLeDiff, reduceMul, reduceSub, reduceIte, a_b2sB o2.bs, a_b2sB hb2, touch_b2s, ite_self, bytes_eq, e1, ox, lx, ozz, lz]
    refine ⟨tk, ?_⟩
    refine hq2 _ _ ⟨_, by rw [hr]; simp (disch := first | assumption | omega | (simp only [LN] <;> omega) | (simp (disch := first | assumption | omega | (simp only [LN] <;> omega)) only [row_alloc, row_set, Keeps.row k2]; assumption)) only [Keeps.get k2, Keeps.row k2, W_block, P3, ↓reduceIte, reduceAdd, reduceEqDiff, reduceCtorEq, initFr, reduceLT, clsA, reduceLeDiff, reduceMul, reduceSub, reduceIte, lx]; rfl, by rw [hg]; rfl, ?_⟩
    exact kb.set (Nat.le_refl _) (by omega) _
  · have e1 : decide (fSt x = b) = false := by simp [heq]
    have hg : geSt b = none := by
      cases hg : geSt b with
      | none => rfl
      | some y =>
        obtain ⟨h1, h2, h3, h4⟩ := geSt_some hg
        have hxy : x = y := by
          rw [hx, h3]
          exact deR_in (s := 0) (by omega)
        subst hxy
        exact absurd h1 heq
    simp (disch := first | assumption | omega | (simp only [LN] <;> omega) | (simp (disch := first | assumption | omega | (simp only [LN] <;> omega)) only [row_alloc, row_set, Keeps.row k2]; assumption)) only [Keeps.get k2, Keeps.row k2, W_block, P3, ↓reduceIte, reduceAdd, reduceEqDiff, reduceCtorEq, initFr, reduceLT, clsA, reduceLeDiff, reduceMul, reduceSub, reduceIte, a_b2sB o2.bs, a_b2sB hb2, touch_b2s, ite_self, bytes_eq, e1, ox, lx, ozz, lz]
    refine ⟨tk, ?_⟩
    refine hq2 _ _ ⟨_, by rw [hr]; simp (disch := first | assumption | omega | (simp only [LN] <;> omega) | (simp (disch := first | assumption | omega | (simp only [LN] <;> omega)) only [row_alloc, row_set, Keeps.row k2]; assumption)) only [Keeps.get k2, Keeps.row k2, W_block, P3, ↓reduceIte, reduceAdd, reduceEqDiff, reduceCtorEq, initFr, reduceLT, clsA, reduceLeDiff, reduceMul, reduceSub, reduceIte, ozz, lz]; rfl, by rw [hg]; rfl, ?_⟩
    exact kb.set (Nat.le_refl _) (by omega) _
theorem t22 {H : AHeap} {v : Value} {b : List UInt8} (hb : BQ H v b) (hl : b.length ≤ 1000000) : ∃ w H', ARun Go.Proofs.Try.prog 0 22 [v] H w H' ∧ w = tLo (geLo b) ∧ H' = H := by
  suffices h : ∃ w H', ARun Go.Proofs.Try.prog 0 22 [v] H w H' ∧ w = tLo (geLo b) ∧ Keeps H H' by
    obtain ⟨_, _, a, rfl, k⟩ := h
    refine ⟨_, _, a.gc0 k (.inr ?_), rfl, rfl⟩
    cases geLo b <;> exact GotB.nv (cLo_plain _) _
  refine walk2 f22_ok f22_n ?_
  intro Q hq1 hq2
  have hr : ∀ fr H', resO f22.res fr H' = (celln 70 (fr.getD 1 undef) H').map fun c => .tuple #[c, fr.getD 2 undef] := fun fr H' => resCT 70 1 2 fr
  have lz : (Z70 : List Value).length = 70 := rfl
  have ozz : (Z70 : List Value).all Value.oneCell' = true := rfl
  have k0 := (Keeps.refl H).alloc (.cells true false 70 (Z70) 60)
  have hs := hb.bs.sl
  have his := hs.is
  have hlen := hs.len
  rw [List.length_map] at hlen
  obtain ⟨x, hx⟩ : ∃ x, x = (⟨sg (na b 1 8), sg (na b 9 8), deR b 17⟩ : Lo) := ⟨_, rfl⟩
  have hrg : rgSt x.s := by rw [hx]; exact deR_rg _ _
  have lx : (cLo x).length = 70 := cLo_len hrg.1
  have ox := cLo_one x
  simp (disch := first | assumption | omega | (simp only [LN] <;> omega) | (simp (disch := first | assumption | omega | (simp only [LN] <;> omega)) only [row_alloc, row_set]; assumption)) only [f22, W_block, P3, ↓reduceIte, reduceAdd, reduceEqDiff, reduceCtorEq, initFr, reduceLT, clsA, reduceLeDiff, reduceMul, reduceSub, reduceIte, ozz]
  refine callK (t67 (hb.keeps k0) 1 8 (by omega) (by omega) (by omega)) ?_
  rintro _ _ ⟨rfl, rfl⟩
  simp (disch := first | assumption | omega | (simp only [LN] <;> omega) | (simp (disch := first | assumption | omega | (simp only [LN] <;> omega)) only [row_alloc, row_set]; assumption)) only [W_block, P3, ↓reduceIte, reduceAdd, reduceEqDiff, reduceCtorEq, initFr, reduceLT, clsA, reduceLeDiff, reduceMul, reduceSub, reduceIte]
  refine callK (t67 (hb.keeps k0) 9 8 (by omega) (by omega) (by omega)) ?_
  rintro _ _ ⟨rfl, rfl⟩
  simp (disch := first | assumption | omega | (simp only [LN] <;> omega) | (simp (disch := first | assumption | omega | (simp only [LN] <;> omega)) only [row_alloc, row_set]; assumption)) only [W_block, P3, ↓reduceIte, reduceAdd, reduceEqDiff, reduceCtorEq, initFr, reduceLT, clsA, reduceLeDiff, reduceMul, reduceSub, reduceIte]
  refine callK (t71 (hb.keeps k0) 17 (by omega) (by omega)) ?_
  rintro _ _ ⟨rfl, rfl⟩
  simp (disch := first | assumption | omega | (simp only [LN] <;> omega) | (simp (disch := first | assumption | omega | (simp only [LN] <;> omega)) only [row_alloc, row_set]; assumption)) only [W_block, P3, ↓reduceIte, reduceAdd, reduceEqDiff, reduceCtorEq, initFr, reduceLT, clsA, reduceLeDiff, reduceMul, reduceSub, reduceIte, fillLo (s := deR b 17) (deR_rg b 17).1, ozz]
  rw [show (⟨IntKind.i64.wrap (na b 1 8), IntKind.i64.wrap (na b 9 8), deR b 17⟩ : Lo) = x from hx.symm]
  simp (disch := first | assumption | omega | (simp only [LN] <;> omega) | (simp (disch := first | assumption | omega | (simp only [LN] <;> omega)) only [row_alloc, row_set]; assumption)) only [W_block, P3, ↓reduceIte, reduceAdd, reduceEqDiff, reduceCtorEq, initFr, reduceLT, clsA, reduceLeDiff, reduceMul, reduceSub, reduceIte, ozz, lz, ox, lx]
  refine callK (t51 x hrg _) ?_
  rintro v2 K2 o2
  have k2 := o2.k
  have kC := k0.trans ((Keeps.refl _).alloc (.cells true false 70 (cLo x) 60))
  have tk := tbk (hb.bs.keeps kC) k2
  have n2 := k2.n
  simp only [alloc_n] at n2
  have kb := kC.trans k2
  have hb2 := hb.bs.keeps kb
  by_cases hb0 : b = []
  · have hg : geLo b = none := by
      cases hg : geLo b with
      | none => rfl
      | some y => have := (geLo_some hg).2.2.2; rw [hb0] at this; simp at this
    by_cases heq : fLo x = b
    · have e1 : decide (fLo x = b) = true := by simp [heq]
      have hb00 : b.length = 0 := by rw [hb0]; rfl
      simp (disch := first | assumption | omega | (simp only [LN] <;> omega) | (simp (disch := first | assumption | omega | (simp only [LN] <;> omega)) only [row_alloc, row_set, Keeps.row k2]; assumption)) only [Keeps.get k2, Keeps.row k2, W_block, P3, ↓reduceIte, reduceAdd, reduceEqDiff, reduceCtorEq, initFr, reduceLT, clsA, reduceLeDiff, reduceMul, reduceSub, reduceIte, a_b2sB o2.bs, a_b2sB hb2, touch_b2s, ite_self, bytes_eq, e1, ox, lx, ozz, lz, hlen]
      refine ⟨tk, ?_⟩
      refine hq2 _ _ ⟨_, by rw [hr]; simp (disch := first | assumption | omega | (simp only [LN] <;> omega) | (simp (disch := first | assumption | omega | (simp only [LN] <;> omega)) only [row_alloc, row_set, Keeps.row k2]; assumption)) only [Keeps.get k2, Keeps.row k2, W_block, P3, ↓reduceIte, reduceAdd, reduceEqDiff, reduceCtorEq, initFr, reduceLT, clsA, reduceLeDiff, reduceMul, reduceSub, reduceIte, ozz, lz]; rfl, by rw [hg]; rfl, ?_⟩
      exact kb.set (Nat.le_refl _) (by omega) _
    · have e1 : decide (fLo x = b) = false := by simp [heq]
      simp (disch := first | assumption | omega | (simp only [LN] <;> omega) | (simp (disch := first | assumption | omega | (simp only [LN] <;> omega)) only [row_alloc, row_set, Keeps.row k2]; assumption)) only [Keeps.get k2, Keeps.row k2, W_block, P3, ↓reduceIte, reduceAdd, reduceEqDiff, reduceCtorEq, initFr, reduceLT, clsA, reduceLeDiff, reduceMul, reduceSub, reduceIte, a_b2sB o2.bs, a_b2sB hb2, touch_b2s, ite_self, bytes_eq, e1, ox, lx, ozz, lz, hlen]
      refine ⟨tk, ?_⟩
      refine hq2 _ _ ⟨_, by rw [hr]; simp (disch := first | assumption | omega | (simp only [LN] <;> omega) | (simp (disch := first | assumption | omega | (simp only [LN] <;> omega)) only [row_alloc, row_set, Keeps.row k2]; assumption)) only [Keeps.get k2, Keeps.row k2, W_block, P3, ↓reduceIte, reduceAdd, reduceEqDiff, reduceCtorEq, initFr, reduceLT, clsA, reduceLeDiff, reduceMul, reduceSub, reduceIte, ozz, lz]; rfl, by rw [hg]; rfl, ?_⟩
      exact kb.set (Nat.le_refl _) (by omega) _
  have hbl : 0 < b.length := List.length_pos_iff.2 hb0
  by_cases heq : fLo x = b
  · have e1 : decide (fLo x = b) = true := by simp [heq]
    have hg := geLo_of hrg hb0 heq
    simp (disch := first | assumption | omega | (simp only [LN] <;> omega) | (simp (disch := first | assumption | omega | (simp only [LN] <;> omega)) only [row_alloc, row_set, Keeps.row k2]; assumption)) only [Keeps.get k2, Keeps.row k2, W_block, P3, ↓reduceIte, reduceAdd, reduceEqDiff, reduceCtorEq, initFr, reduceLT, clsA, reduceLeDiff, reduceMul, reduceSub, reduceIte, a_b2sB o2.bs, a_b2sB hb2, touch_b2s, ite_self, bytes_eq, e1, ox, lx, ozz, lz, hlen]
    refine ⟨tk, ?_⟩
    refine hq2 _ _ ⟨_, by rw [hr]; simp (disch := first | assumption | omega | (simp only [LN] <;> omega) | (simp (disch := first | assumption | omega | (simp only [LN] <;> omega)) only [row_alloc, row_set, Keeps.row k2]; assumption)) only [Keeps.get k2, Keeps.row k2, W_block, P3, ↓reduceIte, reduceAdd, reduceEqDiff, reduceCtorEq, initFr, reduceLT, clsA, reduceLeDiff, reduceMul, reduceSub, reduceIte, lx]; rfl, by rw [hg]; rfl, ?_⟩
    exact kb.set (Nat.le_refl _) (by omega) _
  · have e1 : decide (fLo x = b) = false := by simp [heq]
    have hg : geLo b = none := by
      cases hg : geLo b with
      | none => rfl
      | some y =>
        obtain ⟨h1, h2, h3, h4⟩ := geLo_some hg
        have hxy : x = y := by
          rw [hx, h3]
          unfold deLo
          rw [← na_bd (s := 0) (by omega), ← na_bd (s := 8) (by omega), ← deR_in (s := 16) (by omega)]
        subst hxy
        exact absurd h1 heq
    simp (disch := first | assumption | omega | (simp only [LN] <;> omega) | (simp (disch := first | assumption | omega | (simp only [LN] <;> omega)) only [row_alloc, row_set, Keeps.row k2]; assumption)) only [Keeps.get k2, Keeps.row k2, W_block, P3, ↓reduceIte, reduceAdd, reduceEqDiff, reduceCtorEq, initFr, reduceLT, clsA, reduceLeDiff, reduceMul, reduceSub, reduceIte, a_b2sB o2.bs, a_b2sB hb2, touch_b2s, ite_self, bytes_eq, e1, ox, lx, ozz, lz]
    refine ⟨tk, ?_⟩
    refine hq2 _ _ ⟨_, by rw [hr]; simp (disch := first | assumption | omega | (simp only [LN] <;> omega) | (simp (disch := first | assumption | omega | (simp only [LN] <;> omega)) only [row_alloc, row_set, Keeps.row k2]; assumption)) only [Keeps.get k2, Keeps.row k2, W_block, P3, ↓reduceIte, reduceAdd, reduceEqDiff, reduceCtorEq, initFr, reduceLT, clsA, reduceLeDiff, reduceMul, reduceSub, reduceIte, ozz, lz]; rfl, by rw [hg]; rfl, ?_⟩
    exact kb.set (Nat.le_refl _) (by omega) _
theorem t25 {H : AHeap} {v : Value} {b : List UInt8} (hb : BQ H v b) (hl : b.length ≤ 1000000) : ∃ w H', ARun Go.Proofs.Try.prog 0 25 [v] H w H' ∧ w = tLi (geLi b) ∧ H' = H := by
  suffices h : ∃ w H', ARun Go.Proofs.Try.prog 0 25 [v] H w H' ∧ w = tLi (geLi b) ∧ Keeps H H' by
    obtain ⟨_, _, a, rfl, k⟩ := h
    refine ⟨_, _, a.gc0 k (.inr ?_), rfl, rfl⟩
    cases geLi b <;> exact GotB.nv (cLs_plain _) _
  refine walk2 f25_ok f25_n ?_
  intro Q hq1 hq2
  have hr : ∀ fr H', resO f25.res fr H' = (celln 5 (fr.getD 1 undef) H').map fun c => .tuple #[c, fr.getD 2 undef] := fun fr H' => resCT 5 1 2 fr
  have lz : ([.int .u8 0, .int .u8 0, .int .i64 0, .int .i64 0, .string ByteArray.empty] : List Value).length = 5 := rfl
  have ozz : ([.int .u8 0, .int .u8 0, .int .i64 0, .int .i64 0, .string ByteArray.empty] : List Value).all Value.oneCell' = true := rfl
  have k0 := (Keeps.refl H).alloc (.cells true false 5 ([.int .u8 0, .int .u8 0, .int .i64 0, .int .i64 0, .string ByteArray.empty]) 69)
  have hs := hb.bs.sl
  have his := hs.is
  have hlen := hs.len
  rw [List.length_map] at hlen
  by_cases h0 : b.length < 25
  · simp (disch := first | assumption | omega | (simp only [LN] <;> omega) | (simp (disch := first | assumption | omega | (simp only [LN] <;> omega)) only [row_alloc, row_set]; assumption)) only [f25, W_block, P3, ↓reduceIte, reduceAdd, reduceEqDiff, reduceCtorEq, initFr, reduceLT, clsA, reduceLeDiff, reduceMul, reduceSub, reduceIte, hlen, ozz]
    refine hq2 _ _ ⟨_, by rw [hr]; simp (disch := first | assumption | omega | (simp only [LN] <;> omega) | (simp (disch := first | assumption | omega | (simp only [LN] <;> omega)) only [row_alloc, row_set]; assumption)) only [W_block, P3, ↓reduceIte, reduceAdd, reduceEqDiff, reduceCtorEq, initFr, reduceLT, clsA, reduceLeDiff, reduceMul, reduceSub, reduceIte, ozz, lz]; rfl, ?_, k0⟩
    cases hg : geLi b with
    | none => rfl
    | some y => have := (geLi_some hg).2.2.2; omega
  obtain ⟨hnn, hrow⟩ := hs.at_ (by omega) (i := 1) (by rw [List.length_map]; omega)
  obtain ⟨_, hrow2⟩ := hs.at_ (by omega) (i := 2) (by rw [List.length_map]; omega)
  rw [List.getElem_map] at hrow hrow2
  have hbn := hs.bn_le (by intro e; simp at e; subst e; simp at h0) (by omega)
  rw [← na_one (by omega)] at hrow hrow2
  have hw : IntKind.i64.wrap ((b.length : Int) - 4) = ((b.length - 4 : Nat) : Int) := by rw [wrap_i64 (by omega) (by omega)]; omega
  obtain ⟨x, hx⟩ : ∃ x, x = (⟨na b 1 1, na b 2 1, sg (na b 3 8), sg (na b 11 8), (b.drop 21).take (b.length - 4 - 21)⟩ : Li) := ⟨_, rfl⟩
  have hrg : rgLi x := by rw [hx]; exact ⟨na1 _ _, na1 _ _⟩
  have hxl : x.B.length ≤ 1000000 := by rw [hx]; simp only [List.length_take, List.length_drop]; omega
  have lx : (cLs x).length = 5 := rfl
  have ox := cLsO x
  simp (disch := first | assumption | omega | (simp only [LN] <;> omega) | (simp (disch := first | assumption | omega | (simp only [LN] <;> omega)) only [row_alloc, row_set]; assumption)) only [f25, W_block, P3, ↓reduceIte, reduceAdd, reduceEqDiff, reduceCtorEq, initFr, reduceLT, clsA, reduceLeDiff, reduceMul, reduceSub, reduceIte, hlen, ozz, Int.reduceToNat]
  refine callK (t67 (hb.keeps k0) 3 8 (by omega) (by omega) (by omega)) ?_
  rintro _ _ ⟨rfl, rfl⟩
  simp (disch := first | assumption | omega | (simp only [LN] <;> omega) | (simp (disch := first | assumption | omega | (simp only [LN] <;> omega)) only [row_alloc, row_set]; assumption)) only [W_block, P3, ↓reduceIte, reduceAdd, reduceEqDiff, reduceCtorEq, initFr, reduceLT, clsA, reduceLeDiff, reduceMul, reduceSub, reduceIte, hlen, ozz, Int.reduceToNat, ite_self]
  refine callK (t67 (hb.keeps k0) 11 8 (by omega) (by omega) (by omega)) ?_
  rintro _ _ ⟨rfl, rfl⟩
  obtain ⟨u, s1, q1⟩ := (hb.keeps k0).mid (k := .i64) (k' := .i64) 21 (b.length - 4) (by omega) (by omega)
  have s1' : asem (.slsl 1 v (some (.int .i64 21)) (some (.int .i64 (b.length - 4 : Nat))) none) (H.alloc (.cells true false 5 [.int .u8 0, .int .u8 0, .int .i64 0, .int .i64 0, .string ByteArray.empty] 69)) = some (u, H.alloc (.cells true false 5 [.int .u8 0, .int .u8 0, .int .i64 0, .int .i64 0, .string ByteArray.empty] 69)) := s1
  have tv := tbk (hb.bs.keeps k0) (Keeps.refl _)
  have tu := tbk q1.bs (Keeps.refl _)
  simp (disch := first | assumption | omega | (simp only [LN] <;> omega) | (simp (disch := first | assumption | omega | (simp only [LN] <;> omega)) only [row_alloc, row_set]; assumption)) only [W_block, P3, ↓reduceIte, reduceAdd, reduceEqDiff, reduceCtorEq, initFr, reduceLT, clsA, reduceLeDiff, reduceMul, reduceSub, reduceIte, hlen, ozz, Int.reduceToNat, ite_self, hw, s1', a_b2sB q1.bs, touch_b2s, touch_sl, fillLs, cLsL, cLsO, tv.1, tv.2, tu.1, tu.2]
  rw [show (⟨na b 1 1, na b 2 1, IntKind.i64.wrap (na b 3 8), IntKind.i64.wrap (na b 11 8), (b.drop 21).take (b.length - 4 - 21)⟩ : Li) = x from hx.symm]
  simp (disch := first | assumption | omega | (simp only [LN] <;> omega) | (simp (disch := first | assumption | omega | (simp only [LN] <;> omega)) only [row_alloc, row_set]; assumption)) only [W_block, P3, ↓reduceIte, reduceAdd, reduceEqDiff, reduceCtorEq, initFr, reduceLT, clsA, reduceLeDiff, reduceMul, reduceSub, reduceIte]
  refine callK (t52 x hrg _ hxl) ?_
  rintro v2 K2 o2
  have k2 := o2.k
  have kC := k0.trans ((Keeps.refl _).alloc (.cells true false 5 (cLs x) 69))
  have tk := tbk (hb.bs.keeps kC) k2
  have n2 := k2.n
  simp only [alloc_n] at n2
  have kb := kC.trans k2
  have hb2 := hb.bs.keeps kb
  by_cases heq : fLi x = b
  · have e1 : decide (fLi x = b) = true := by simp [heq]
    have hg := geLi_of hrg (by intro e; rw [e] at h0; simp at h0) heq
    simp (disch := first | assumption | omega | (simp only [LN] <;> omega) | (simp (disch := first | assumption | omega | (simp only [LN] <;> omega)) only [row_alloc, row_set, Keeps.row k2]; assumption)) only [Keeps.get k2, Keeps.row k2, W_block, P3, ↓reduceIte, reduceAdd, reduceEqDiff, reduceCtorEq, initFr, reduceLT, clsA, reduceLeDiff, reduceMul, reduceSub, reduceIte, a_b2sB o2.bs, a_b2sB hb2, touch_b2s, ite_self, bytes_eq, e1, ox, lx, ozz, lz]
    refine ⟨tk, ?_⟩
    refine hq2 _ _ ⟨_, by rw [hr]; simp (disch := first | assumption | omega | (simp only [LN] <;> omega) | (simp (disch := first | assumption | omega | (simp only [LN] <;> omega)) only [row_alloc, row_set, Keeps.row k2]; assumption)) only [Keeps.get k2, Keeps.row k2, W_block, P3, ↓reduceIte, reduceAdd, reduceEqDiff, reduceCtorEq, initFr, reduceLT, clsA, reduceLeDiff, reduceMul, reduceSub, reduceIte, lx]; rfl, by rw [hg]; rfl, ?_⟩
    exact kb.set (Nat.le_refl _) (by omega) _
  · have e1 : decide (fLi x = b) = false := by simp [heq]
    have hg : geLi b = none := by
      cases hg : geLi b with
      | none => rfl
      | some y =>
        obtain ⟨h1, h2, h3, h4⟩ := geLi_some hg
        have hxy : x = y := by
          have ef : y.f = na b 1 1 := by rw [h3]; exact (na_bd (s := 0) (by omega)).symm
          have et : y.t = na b 2 1 := by rw [h3]; exact (na_bd (s := 1) (by omega)).symm
          have eq : y.q = sg (na b 3 8) := by rw [h3]; show sg (na (bd b) 2 8) = _; rw [← na_bd (s := 2) (by omega)]
          have ek : y.k = sg (na b 11 8) := by rw [h3]; show sg (na (bd b) 10 8) = _; rw [← na_bd (s := 10) (by omega)]
          have eB : y.B = (b.drop 21).take (b.length - 4 - 21) := by
            have e1 : y.B = seg (bd b) 20 (na (bd b) 18 2) := by rw [h3]; rfl
            rw [e1] at h4 ⊢
            generalize na (bd b) 18 2 = n at h4 ⊢
            unfold seg at h4 ⊢
            split
            · rename_i hc
              rw [if_pos hc, List.length_nil] at h4
              rw [show b.length - 4 - 21 = 0 by omega, List.take_zero]
            · rename_i hc
              rw [if_neg hc, List.length_take, List.length_drop, bd_len] at h4
              rw [bd_len] at hc
              unfold bd
              rw [List.drop_take, List.take_take, List.drop_drop]
              congr 1
              omega
          rw [hx, ← ef, ← et, ← eq, ← ek, ← eB]
        subst hxy
        exact absurd h1 heq
    simp (disch := first | assumption | omega | (simp only [LN] <;> omega) | (simp (disch := first | assumption | omega | (simp only [LN] <;> omega)) only [row_alloc, row_set, Keeps.row k2]; assumption)) only [Keeps.get k2, Keeps.row k2, W_block, P3, ↓reduceIte, reduceAdd, reduceEqDiff, reduceCtorEq, initFr, reduceLT, clsA, reduceLeDiff, reduceMul, reduceSub, reduceIte, a_b2sB o2.bs, a_b2sB hb2, touch_b2s, ite_self, bytes_eq, e1, ox, lx, ozz, lz]
    refine ⟨tk, ?_⟩
    refine hq2 _ _ ⟨_, by rw [hr]; simp (disch := first | assumption | omega | (simp only [LN] <;> omega) | (simp (disch := first | assumption | omega | (simp only [LN] <;> omega)) only [row_alloc, row_set, Keeps.row k2]; assumption)) only [Keeps.get k2, Keeps.row k2, W_block, P3, ↓reduceIte, reduceAdd, reduceEqDiff, reduceCtorEq, initFr, reduceLT, clsA, reduceLeDiff, reduceMul, reduceSub, reduceIte, ozz, lz]; rfl, by rw [hg]; rfl, ?_⟩
    exact kb.set (Nat.le_refl _) (by omega) _
end Go.AM.Fd

set_option linter.unusedSimpArgs false
set_option linter.unusedVariables false
namespace Go.AM.Fd
open Nat (reduceAdd reduceEqDiff reduceLT reduceLeDiff reduceMul reduceSub)
open Go.Proofs Go.AM.F
theorem cI6L (v : Value) (x : I6) : (cI6 v x).length = 6 := rfl
def I6B (H H' : AHeap) (w : Value) (o : Option I6) : Prop := ∃ vc, Fresh H.n vc ∧ match o with
  | some x => w = GotB (cI6 vc x) true ∧ AP H' 108 2 vc x.cs.length (CC x.cs).flatten
  | none => w = GotB (cI6 (.slice none 0 0) I60) false
theorem geI6_few {b : List UInt8} {y : I6} (h : geI6 b = some y) : y.cs.length ≤ 8 ∧ y.cs.length = na b 26 1 := by
  obtain ⟨h1, h2, h3, h4⟩ := geI6_some h
  constructor
  · unfold fI6 at h1
    split at h1
    · rename_i hok; exact (okI6_iff.1 hok).2.1
    · rw [← h1] at h4; simp only [List.length_nil] at h4; omega
  · have e : y.cs.length = na (bd b) 25 1 := by
      have this : y.cs.length = (deI6 (bd b)).cs.length := congrArg (fun z : I6 => z.cs.length) h3
      rw [this]
      show (deCs (bd b) (na (bd b) 25 1)).length = _
      rw [deCs_len]
    rw [e, ← na_bd (s := 25) (by omega)]
theorem t13 {H : AHeap} {v : Value} {b : List UInt8} (hb : BQ H v b) (hl : b.length ≤ 1000000) : ∃ w H', ARun Go.Proofs.Try.prog 0 13 [v] H w H' ∧ Keeps H H' ∧ I6B H H' w (geI6 b) := by
  refine walk2 f13_ok f13_n ?_
  intro Q hq1 hq2
  have hr : ∀ fr H', resO f13.res fr H' = (celln 6 (fr.getD 1 undef) H').map fun c => .tuple #[c, fr.getD 2 undef] := fun fr H' => resCT 6 1 2 fr
  have hs := hb.bs.sl
  have his := hs.is
  have hlen := hs.len
  rw [List.length_map] at hlen
  have lz : (cI6 (.slice none 0 0) I60).length = 6 := rfl
  have ozz : (cI6 (.slice none 0 0) I60).all Value.oneCell' = true := rfl
  have k0 := (Keeps.refl H).alloc (.cells true false 6 (cI6 (.slice none 0 0) I60) 34)
  by_cases h0 : b.length < 31
  · simp (disch := first | assumption | omega | (simp only [LN] <;> omega) | (simp (disch := first | assumption | omega | (simp only [LN] <;> omega)) only [row_alloc, row_set]; assumption)) only [f13, W_block, P3, ↓reduceIte, reduceAdd, reduceEqDiff, reduceCtorEq, initFr, reduceLT, clsA, reduceLeDiff, reduceMul, reduceSub, reduceIte, hlen, ozz]
    refine hq2 _ _ ⟨_, by rw [hr]; simp (disch := first | assumption | omega | (simp only [LN] <;> omega) | (simp (disch := first | assumption | omega | (simp only [LN] <;> omega)) only [row_alloc, row_set]; assumption)) only [W_block, P3, ↓reduceIte, reduceAdd, reduceEqDiff, reduceCtorEq, initFr, reduceLT, clsA, reduceLeDiff, reduceMul, reduceSub, reduceIte, ozz, lz]; rfl, k0, .slice none 0 0, fun b hb => (by cases hb), ?_⟩
    cases hg : geI6 b with
    | none => rfl
    | some y => have := (geI6_some hg).2.2.2; omega
  obtain ⟨hnn, hrow⟩ := hs.at_ (by omega) (i := 1) (by rw [List.length_map]; omega)
  obtain ⟨_, hrow2⟩ := hs.at_ (by omega) (i := 26) (by rw [List.length_map]; omega)
  rw [List.getElem_map] at hrow hrow2
  have hbn := hs.bn_le (by intro e; simp at e; subst e; simp at h0) (by omega)
  rw [← na_one (by omega)] at hrow hrow2
  have kz : Keeps H (H.alloc (.cells true false 6 [.int .u8 0, .int .i64 0, .int .u64 0, .int .u32 0, .int .u32 0, .slice none 0 0] 34)) := (Keeps.refl H).alloc _
  simp (disch := first | assumption | omega | (simp only [LN] <;> omega) | (simp (disch := first | assumption | omega | (simp only [LN] <;> omega)) only [row_alloc, row_set]; assumption)) only [f13, W_block, P3, ↓reduceIte, reduceAdd, reduceEqDiff, reduceCtorEq, initFr, reduceLT, clsA, reduceLeDiff, reduceMul, reduceSub, reduceIte, hlen, ozz, Int.reduceToNat]
  refine callK (t67 (hb.keeps kz) 2 8 (by omega) (by omega) (by omega)) ?_
  rintro _ _ ⟨rfl, rfl⟩
  simp (disch := first | assumption | omega | (simp only [LN] <;> omega) | (simp (disch := first | assumption | omega | (simp only [LN] <;> omega)) only [row_alloc, row_set]; assumption)) only [W_block, P3, ↓reduceIte, reduceAdd, reduceEqDiff, reduceCtorEq, initFr, reduceLT, clsA, reduceLeDiff, reduceMul, reduceSub, reduceIte, hlen, ozz, Int.reduceToNat, ite_self]
  refine callK (t67 (hb.keeps kz) 10 8 (by omega) (by omega) (by omega)) ?_
  rintro _ _ ⟨rfl, rfl⟩
  simp (disch := first | assumption | omega | (simp only [LN] <;> omega) | (simp (disch := first | assumption | omega | (simp only [LN] <;> omega)) only [row_alloc, row_set]; assumption)) only [W_block, P3, ↓reduceIte, reduceAdd, reduceEqDiff, reduceCtorEq, initFr, reduceLT, clsA, reduceLeDiff, reduceMul, reduceSub, reduceIte, hlen, ozz, Int.reduceToNat, ite_self]
  refine callK (t67 (hb.keeps kz) 18 4 (by omega) (by omega) (by omega)) ?_
  rintro _ _ ⟨rfl, rfl⟩
  simp (disch := first | assumption | omega | (simp only [LN] <;> omega) | (simp (disch := first | assumption | omega | (simp only [LN] <;> omega)) only [row_alloc, row_set]; assumption)) only [W_block, P3, ↓reduceIte, reduceAdd, reduceEqDiff, reduceCtorEq, initFr, reduceLT, clsA, reduceLeDiff, reduceMul, reduceSub, reduceIte, hlen, ozz, Int.reduceToNat, ite_self]
  refine callK (t67 (hb.keeps kz) 22 4 (by omega) (by omega) (by omega)) ?_
  rintro _ _ ⟨rfl, rfl⟩
  have w1 : IntKind.u32.wrap (na b 18 4 : Nat) = (na b 18 4 : Nat) := by have := na4 b 18; rw [wrap_u32]; omega
  have w2 : IntKind.u32.wrap (na b 22 4 : Nat) = (na b 22 4 : Nat) := by have := na4 b 22; rw [wrap_u32]; omega
  obtain ⟨n, hn⟩ : ∃ n, n = na b 26 1 := ⟨_, rfl⟩
  have hn256 := na1 b 26
  rw [← hn] at hrow2 hn256
  have w3 : IntKind.i64.wrap (n : Int) = (n : Int) := wrap_nat (by omega)
  have w5 : IntKind.i64.wrap (2 * (n : Int)) = ((2 * n : Nat) : Int) := by rw [wrap_i64 (by omega) (by omega)]; push_cast; rfl
  have w6 : IntKind.i64.wrap (31 + ((2 * n : Nat) : Int)) = ((31 + 2 * n : Nat) : Int) := by rw [wrap_i64 (by omega) (by omega)]; push_cast; rfl
  obtain ⟨x, hx⟩ : ∃ x, x = (⟨na b 1 1, sg (na b 2 8), na b 10 8, na b 18 4, na b 22 4, deCs (bd b) n⟩ : I6) := ⟨_, rfl⟩
  have cx : ∀ vc, cI6 vc x = [.int .u8 (na b 1 1 : Nat), .int .i64 (IntKind.i64.wrap (na b 2 8)), .int .u64 (na b 10 8 : Nat), .int .u32 (na b 18 4 : Nat), .int .u32 (na b 22 4 : Nat), vc] := fun vc => by rw [hx]; rfl
  by_cases h1 : 8 < n
  · simp (disch := first | assumption | omega | (simp only [LN] <;> omega) | (simp (disch := first | assumption | omega | (simp only [LN] <;> omega)) only [row_alloc, row_set]; assumption)) only [W_block, P3, ↓reduceIte, reduceAdd, reduceEqDiff, reduceCtorEq, initFr, reduceLT, clsA, reduceLeDiff, reduceMul, reduceSub, reduceIte, hlen, ozz, Int.reduceToNat, ite_self, fill4, fill6, cI6, w1, w2, w3]
    refine hq2 _ _ ⟨_, by rw [hr]; simp (disch := first | assumption | omega | (simp only [LN] <;> omega) | (simp (disch := first | assumption | omega | (simp only [LN] <;> omega)) only [row_alloc, row_set]; assumption)) only [W_block, P3, ↓reduceIte, reduceAdd, reduceEqDiff, reduceCtorEq, initFr, reduceLT, clsA, reduceLeDiff, reduceMul, reduceSub, reduceIte, ozz, lz]; rfl, ?_, .slice none 0 0, fun b hb => (by cases hb), ?_⟩
    · ((repeat (first | exact Keeps.refl _ | assumption | refine Keeps.alloc ?_ _ | (refine Keeps.set ?_ (by first | omega | (simp only [alloc_n, set_n] <;> omega)) (by first | omega | (simp only [alloc_n, set_n] <;> omega)) _) | (refine Keeps.trans' (by assumption) ?_))))
    · cases hg : geI6 b with
      | none => rfl
      | some y => have := geI6_few hg; omega
  by_cases h2 : b.length = 31 + 2 * n
  rotate_left
  · simp (disch := first | assumption | omega | (simp only [LN] <;> omega) | (simp (disch := first | assumption | omega | (simp only [LN] <;> omega)) only [row_alloc, row_set]; assumption)) only [W_block, P3, ↓reduceIte, reduceAdd, reduceEqDiff, reduceCtorEq, initFr, reduceLT, clsA, reduceLeDiff, reduceMul, reduceSub, reduceIte, hlen, ozz, Int.reduceToNat, ite_self, fill4, fill6, cI6, w1, w2, w3, w5, w6]
    refine hq2 _ _ ⟨_, by rw [hr]; simp (disch := first | assumption | omega | (simp only [LN] <;> omega) | (simp (disch := first | assumption | omega | (simp only [LN] <;> omega)) only [row_alloc, row_set]; assumption)) only [W_block, P3, ↓reduceIte, reduceAdd, reduceEqDiff, reduceCtorEq, initFr, reduceLT, clsA, reduceLeDiff, reduceMul, reduceSub, reduceIte, ozz, lz]; rfl, ?_, .slice none 0 0, fun b hb => (by cases hb), ?_⟩
    · ((repeat (first | exact Keeps.refl _ | assumption | refine Keeps.alloc ?_ _ | (refine Keeps.set ?_ (by first | omega | (simp only [alloc_n, set_n] <;> omega)) (by first | omega | (simp only [alloc_n, set_n] <;> omega)) _) | (refine Keeps.trans' (by assumption) ?_))))
    · cases hg : geI6 b with
      | none => rfl
      | some y => have := geI6_few hg; have := (geI6_some hg).2.2.2; omega
  have hd : x = deI6 (bd b) := by
    rw [hx]
    unfold deI6
    rw [← na_bd (s := 0) (by omega), ← na_bd (s := 1) (by omega), ← na_bd (s := 9) (by omega), ← na_bd (s := 17) (by omega), ← na_bd (s := 21) (by omega), ← na_bd (s := 25) (by omega), ← hn]
  have hrg : rgI6 x := by rw [hd]; exact deI6_rg _
  have hxc : x.cs = deCs (bd b) n := by rw [hx]
  simp (disch := first | assumption | omega | (simp only [LN] <;> omega) | (simp (disch := first | assumption | omega | (simp only [LN] <;> omega)) only [row_alloc, row_set]; assumption)) only [W_block, P3, ↓reduceIte, reduceAdd, reduceEqDiff, reduceCtorEq, initFr, reduceLT, clsA, reduceLeDiff, reduceMul, reduceSub, reduceIte, hlen, ozz, Int.reduceToNat, ite_self, fill4, fill6, cI6, w1, w2, w3, w5, w6]
  refine W_loop2 (fun q fr K => ∃ (i : Nat) (vc e f : Value), i ≤ n ∧ q = n - i ∧ Keeps H K ∧ K.get H.n = some (.cells true false 6 (cI6 (.slice none 0 0) I60) 34) ∧ K.get (H.n + 1) = some (.cells true false 6 (cI6 vc x) 34) ∧ AP K 108 2 vc i (CC (deCs (bd b) i)).flatten ∧ Fresh (H.n + 2) vc ∧
    fr = [v, ptr H.n 0, .bool false, ptr (H.n + 1) 0, .int .i64 (n : Nat), .int .i64 (i : Nat), .bool false, .bool false, e, f]) n ⟨0, .slice none 0 0, undef, undef, by omega, rfl, by ((repeat (first | exact Keeps.refl _ | assumption | refine Keeps.alloc ?_ _ | (refine Keeps.set ?_ (by first | omega | (simp only [alloc_n, set_n] <;> omega)) (by first | omega | (simp only [alloc_n, set_n] <;> omega)) _) | (refine Keeps.trans' (by assumption) ?_)))), ?_, by rw [cx]; exact AHeap.get_alloc_new _ _, .inl ⟨rfl, rfl, rfl⟩, fun b hb => (by cases hb), rfl⟩ ?_
  · exact (AHeap.get_alloc_old _ _ (by rw [alloc_n]; omega)).trans (AHeap.get_alloc_new _ _)
  rintro Q' q fr K ⟨i, vc, e, f, hi, rfl, kK, g0, gk, ap, fv, rfl⟩ hnx hex hrt
  have hkn := AHeap.get_lt gk
  by_cases hc : i < n
  · have wm : IntKind.i64.wrap (2 * (i : Int)) = ((2 * i : Nat) : Int) := by rw [wrap_i64 (by omega) (by omega)]; push_cast; rfl
    have w27 : IntKind.i64.wrap (27 + ((2 * i : Nat) : Int)) = ((27 + 2 * i : Nat) : Int) := by rw [wrap_i64 (by omega) (by omega)]; push_cast; rfl
    have w28 : IntKind.i64.wrap (28 + ((2 * i : Nat) : Int)) = ((28 + 2 * i : Nat) : Int) := by rw [wrap_i64 (by omega) (by omega)]; push_cast; rfl
    obtain ⟨_, hr1⟩ := (hs.keeps kK).at_ (by omega) (i := 27 + 2 * i) (by rw [List.length_map]; omega)
    obtain ⟨_, hr2⟩ := (hs.keeps kK).at_ (by omega) (i := 28 + 2 * i) (by rw [List.length_map]; omega)
    rw [List.getElem_map, ← na_one (by omega)] at hr1 hr2
    have w7 : IntKind.i64.wrap (na b (28 + 2 * i) 1 : Nat) = (na b (28 + 2 * i) 1 : Nat) := by
      have := na1 b (28 + 2 * i)
      exact wrap_i64 (by omega) (by omega)
    simp (disch := first | assumption | omega | (simp only [LN] <;> omega) | (simp (disch := first | assumption | omega | (simp only [LN] <;> omega)) only [row_alloc, row_set]; assumption)) only [W_block, P3, ↓reduceIte, reduceAdd, reduceEqDiff, reduceCtorEq, initFr, reduceLT, clsA, reduceLeDiff, reduceMul, reduceSub, reduceIte, gk, cx, wm, w27, w28, hlen, fillC, fillP, w7]
    obtain ⟨e7, he7⟩ : ∃ e7 : List Value, e7 = [.int .u8 (na b (27 + 2 * i) 1 : Nat), .int .i64 (na b (28 + 2 * i) 1 : Nat)] := ⟨_, rfl⟩
    rw [← he7]
    have apn : AP (K.alloc (.cells true false 2 e7 108)) 108 2 vc i (CC (deCs (bd b) i)).flatten := ap.keeps ((Keeps.refl _).alloc _)
    refine appGD apn ⟨_, _, rfl⟩ (elems_new rfl (by rw [he7]; rfl)) (by rw [he7]; rfl) (by omega) ?_
    intro v9 H9 ap9 c9 hb9
    have n9 := c9.n
    simp only [alloc_n, set_n] at n9 hb9
    have fv9 : Fresh (H.n + 2) v9 := fun y hy => by
      rcases hb9 with e | e
      · exact fv y (by rw [← e]; exact hy)
      · rw [e] at hy; cases hy; omega
    have g9 : ∀ y, y < H.n + 2 → H9.get y = K.get y := fun y hy => by
      rw [c9.get _ (by rw [alloc_n]; omega) (fun hz => by have := fv y (mem_blkL.1 hz); omega), AHeap.get_alloc_old _ _ (by omega)]
    have gk9 := (g9 (H.n + 1) (by omega)).trans gk
    have g09 := (g9 H.n (by omega)).trans g0
    have ho9 : v9.oneCell' = true := by obtain ⟨a, e⟩ := ap9.shape; rw [e]; rfl
    simp (disch := first | assumption | omega | (simp only [LN] <;> omega) | (simp (disch := first | assumption | omega | (simp only [LN] <;> omega)) only [row_alloc, row_set]; assumption)) only [W_block, P3, ↓reduceIte, reduceAdd, reduceEqDiff, reduceCtorEq, initFr, reduceLT, clsA, reduceLeDiff, reduceMul, reduceSub, reduceIte, gk9, cx, ho9, wrap_succ (n := i) (by omega)]
    refine hnx _ _ _ ⟨i + 1, v9, _, _, by omega, rfl, ?_, by rw [AHeap.get_set_other _ (by omega) (by omega)]; exact g09, by rw [cx]; exact AHeap.get_set_same gk9 _, ?_, fv9, rfl⟩ (by omega)
    · refine ⟨by rw [set_n]; have := kK.n; omega, fun y hy => ?_⟩
      rw [AHeap.get_set_other _ (by omega) (by omega), g9 _ (by omega), kK.get y hy]
    · have e9 : (CC (deCs (bd b) (i + 1))).flatten = (CC (deCs (bd b) i)).flatten ++ e7 := by
        rw [deCs_succ, he7]
        unfold CC
        rw [List.map_append, List.flatten_append]
        simp only [List.map_cons, List.map_nil, List.flatten_cons, List.flatten_nil, List.append_nil]
        rw [← na_bd (s := 26 + 2 * i) (by omega), ← na_bd (s := 27 + 2 * i) (by omega), show 26 + 2 * i + 1 = 27 + 2 * i by omega, show 27 + 2 * i + 1 = 28 + 2 * i by omega]
      rw [e9]
      exact ap9.chg (Chg.set H9 (by omega) _) (fun y hy => by have := fv9 y (mem_blkL.1 hy); simp; omega)
  · have hin : i = n := by omega
    subst hin
    simp (disch := first | assumption | omega | (simp only [LN] <;> omega) | (simp (disch := first | assumption | omega | (simp only [LN] <;> omega)) only [row_alloc, row_set]; assumption)) only [W_block, P3, ↓reduceIte, reduceAdd, reduceEqDiff, reduceCtorEq, initFr, reduceLT, clsA, reduceLeDiff, reduceMul, reduceSub, reduceIte]
    refine hex _ _ _ ?_
    have hsl : Sl K 2 vc (CC x.cs) := by
      rw [hxc]
      refine ap.sl (fun r hr => ?_) (by simp [CC, deCs_len])
      simp only [CC, List.mem_map] at hr
      obtain ⟨_, _, rfl⟩ := hr
      rfl
    have hone := hsl.one
    have lx : (cI6 vc x).length = 6 := rfl
    have ox : (cI6 vc x).all Value.oneCell' = true := by simp only [cI6, List.all_cons, List.all_nil, hone]; rfl
    simp (disch := first | assumption | omega | (simp only [LN] <;> omega) | (simp (disch := first | assumption | omega | (simp only [LN] <;> omega)) only [row_alloc, row_set]; assumption)) only [W_block, P3, ↓reduceIte, reduceAdd, reduceEqDiff, reduceCtorEq, initFr, reduceLT, clsA, reduceLeDiff, reduceMul, reduceSub, reduceIte, gk, lx]
    refine callK (t48 x hrg hsl (by rw [hxc, deCs_len]; omega)) ?_
    rintro v2 K2 o2
    have k2 := o2.k
    have n2 := k2.n
    have hb1 := hb.bs.keeps kK
    have tk := tbk hb1 k2
    have hb2 := hb1.keeps k2
    have kb := kK.trans k2
    by_cases heq : fI6 x = b
    · have e1 : decide (fI6 x = b) = true := by simp [heq]
      have hg := geI6_of hrg (by intro e; rw [e] at h0; simp at h0) heq
      simp (disch := first | assumption | omega | (simp only [LN] <;> omega) | (simp (disch := first | assumption | omega | (simp only [LN] <;> omega)) only [row_alloc, row_set, Keeps.row k2]; assumption)) only [Keeps.get k2, Keeps.row k2, W_block, P3, ↓reduceIte, reduceAdd, reduceEqDiff, reduceCtorEq, initFr, reduceLT, clsA, reduceLeDiff, reduceMul, reduceSub, reduceIte, a_b2sB o2.bs, a_b2sB hb2, touch_b2s, ite_self, bytes_eq, e1, ox, lx, ozz, lz, gk, g0, tk.1, tk.2]
      refine hq2 _ _ ⟨_, by rw [hr]; simp (disch := first | assumption | omega | (simp only [LN] <;> omega) | (simp (disch := first | assumption | omega | (simp only [LN] <;> omega)) only [row_alloc, row_set, Keeps.row k2]; assumption)) only [Keeps.get k2, Keeps.row k2, W_block, P3, ↓reduceIte, reduceAdd, reduceEqDiff, reduceCtorEq, initFr, reduceLT, clsA, reduceLeDiff, reduceMul, reduceSub, reduceIte, lx, g0]; rfl, kb.set (Nat.le_refl _) (by omega) _, vc, fun y hy => by have := fv y hy; omega, ?_⟩
      rw [hg]
      refine ⟨rfl, ?_⟩
      rw [hxc, deCs_len]
      exact (ap.keeps k2).chg (Chg.set K2 (by omega) _) (fun y hy => by have := fv y (mem_blkL.1 hy); simp; omega)
    · have e1 : decide (fI6 x = b) = false := by simp [heq]
      have hg : geI6 b = none := by
        cases hg : geI6 b with
        | none => rfl
        | some y =>
          obtain ⟨p1, p2, p3, p4⟩ := geI6_some hg
          rw [← hd] at p3
          subst p3
          exact absurd p1 heq
      simp (disch := first | assumption | omega | (simp only [LN] <;> omega) | (simp (disch := first | assumption | omega | (simp only [LN] <;> omega)) only [row_alloc, row_set, Keeps.row k2]; assumption)) only [Keeps.get k2, Keeps.row k2, W_block, P3, ↓reduceIte, reduceAdd, reduceEqDiff, reduceCtorEq, initFr, reduceLT, clsA, reduceLeDiff, reduceMul, reduceSub, reduceIte, a_b2sB o2.bs, a_b2sB hb2, touch_b2s, ite_self, bytes_eq, e1, ox, lx, ozz, lz, gk, g0, tk.1, tk.2]
      refine hq2 _ _ ⟨_, by rw [hr]; simp (disch := first | assumption | omega | (simp only [LN] <;> omega) | (simp (disch := first | assumption | omega | (simp only [LN] <;> omega)) only [row_alloc, row_set, Keeps.row k2]; assumption)) only [Keeps.get k2, Keeps.row k2, W_block, P3, ↓reduceIte, reduceAdd, reduceEqDiff, reduceCtorEq, initFr, reduceLT, clsA, reduceLeDiff, reduceMul, reduceSub, reduceIte, ozz, lz, g0]; rfl, kb.set (Nat.le_refl _) (by omega) _, .slice none 0 0, fun b hb => (by cases hb), ?_⟩
      rw [hg]
      rfl
end Go.AM.Fd

set_option linter.unusedSimpArgs false
set_option linter.unusedVariables false
namespace Go.AM.Fd
open Nat (reduceAdd reduceEqDiff reduceLT reduceLeDiff reduceMul reduceSub)
open Go.Proofs Go.AM.F
def sI6 (x y : I6) : Bool := decide (x.ch = y.ch ∧ x.cy = y.cy ∧ x.oc = y.oc ∧ x.no = y.no ∧ x.re = y.re ∧ x.cs = y.cs)
theorem a_eqC (a b c d : Int) (H : AHeap) : asem (.eqs [1, 1] true (.agg #[.int .u8 a, .int .i64 b]) (.agg #[.int .u8 c, .int .i64 d])) H = some (.bool (!((a == c) && ((b == d) && true))), H) := rfl
theorem t14 (x y : I6) {H : AHeap} {vx vy : Value} (hX0 : Sl H 2 vx (CC x.cs)) (hY0 : Sl H 2 vy (CC y.cs)) (hl : x.cs.length ≤ 1000000) (hl2 : y.cs.length ≤ 1000000) :
    ∃ w H', ARun Go.Proofs.Try.prog 0 14 [.agg (cI6 vx x).toArray, .agg (cI6 vy y).toArray] H w H' ∧ w = .bool (sI6 x y) ∧ H' = H := by
  suffices h : ∃ w H', ARun Go.Proofs.Try.prog 0 14 [.agg (cI6 vx x).toArray, .agg (cI6 vy y).toArray] H w H' ∧ w = .bool (sI6 x y) ∧ Keeps H H' by
    obtain ⟨_, _, a, rfl, k⟩ := h
    exact ⟨_, _, a.gc0 k (.inr (.bool _)), rfl, rfl⟩
  refine walk2 f14_ok f14_n ?_
  intro Q hq1 hq2
  have hone := hX0.one
  have hone2 := hY0.one
  have ox : (cI6 vx x).all Value.oneCell' = true := by simp only [cI6, List.all_cons, List.all_nil, hone]; rfl
  have oy : (cI6 vy y).all Value.oneCell' = true := by simp only [cI6, List.all_cons, List.all_nil, hone2]; rfl
  have his := hX0.is
  have hlen := hX0.len
  have his2 := hY0.is
  have hlen2 := hY0.len
  rw [CC, List.length_map] at hlen hlen2
  have k0 := ((Keeps.refl H).alloc (.cells true false 6 (cI6 vx x) 34)).alloc (.cells true false 6 (cI6 vy y) 34)
  have no : ∀ (P : Prop), (¬ P) → (P → sI6 x y = true) → True := fun _ _ _ => trivial
  by_cases c1 : x.ch = y.ch
  rotate_left
  · simp (disch := first | assumption | omega | (simp only [LN] <;> omega) | (simp (disch := first | assumption | omega | (simp only [LN] <;> omega)) only [row_alloc, row_set]; assumption)) only [f14, W_block, P3, ↓reduceIte, reduceAdd, reduceEqDiff, reduceCtorEq, initFr, reduceLT, clsA, reduceLeDiff, reduceMul, reduceSub, reduceIte, ox, oy, cI6G vx x, cI6G vy y]
    exact hq2 _ _ ⟨_, rfl, by rw [show sI6 x y = false from by simp [sI6, c1]]; rfl, k0⟩
  by_cases c2 : x.cy = y.cy
  rotate_left
  · simp (disch := first | assumption | omega | (simp only [LN] <;> omega) | (simp (disch := first | assumption | omega | (simp only [LN] <;> omega)) only [row_alloc, row_set]; assumption)) only [f14, W_block, P3, ↓reduceIte, reduceAdd, reduceEqDiff, reduceCtorEq, initFr, reduceLT, clsA, reduceLeDiff, reduceMul, reduceSub, reduceIte, ox, oy, cI6G vx x, cI6G vy y]
    exact hq2 _ _ ⟨_, rfl, by rw [show sI6 x y = false from by simp [sI6, c2]]; rfl, k0⟩
  by_cases c3 : x.oc = y.oc
  rotate_left
  · simp (disch := first | assumption | omega | (simp only [LN] <;> omega) | (simp (disch := first | assumption | omega | (simp only [LN] <;> omega)) only [row_alloc, row_set]; assumption)) only [f14, W_block, P3, ↓reduceIte, reduceAdd, reduceEqDiff, reduceCtorEq, initFr, reduceLT, clsA, reduceLeDiff, reduceMul, reduceSub, reduceIte, ox, oy, cI6G vx x, cI6G vy y]
    exact hq2 _ _ ⟨_, rfl, by rw [show sI6 x y = false from by simp [sI6, c3]]; rfl, k0⟩
  by_cases c4 : x.no = y.no
  rotate_left
  · simp (disch := first | assumption | omega | (simp only [LN] <;> omega) | (simp (disch := first | assumption | omega | (simp only [LN] <;> omega)) only [row_alloc, row_set]; assumption)) only [f14, W_block, P3, ↓reduceIte, reduceAdd, reduceEqDiff, reduceCtorEq, initFr, reduceLT, clsA, reduceLeDiff, reduceMul, reduceSub, reduceIte, ox, oy, cI6G vx x, cI6G vy y]
    exact hq2 _ _ ⟨_, rfl, by rw [show sI6 x y = false from by simp [sI6, c4]]; rfl, k0⟩
  by_cases c5 : x.re = y.re
  rotate_left
  · simp (disch := first | assumption | omega | (simp only [LN] <;> omega) | (simp (disch := first | assumption | omega | (simp only [LN] <;> omega)) only [row_alloc, row_set]; assumption)) only [f14, W_block, P3, ↓reduceIte, reduceAdd, reduceEqDiff, reduceCtorEq, initFr, reduceLT, clsA, reduceLeDiff, reduceMul, reduceSub, reduceIte, ox, oy, cI6G vx x, cI6G vy y]
    exact hq2 _ _ ⟨_, rfl, by rw [show sI6 x y = false from by simp [sI6, c5]]; rfl, k0⟩
  by_cases c6 : x.cs.length = y.cs.length
  rotate_left
  · simp (disch := first | assumption | omega | (simp only [LN] <;> omega) | (simp (disch := first | assumption | omega | (simp only [LN] <;> omega)) only [row_alloc, row_set]; assumption)) only [f14, W_block, P3, ↓reduceIte, reduceAdd, reduceEqDiff, reduceCtorEq, initFr, reduceLT, clsA, reduceLeDiff, reduceMul, reduceSub, reduceIte, ox, oy, cI6G vx x, cI6G vy y, hlen, hlen2]
    refine hq2 _ _ ⟨_, rfl, ?_, k0⟩
    rw [show sI6 x y = false from by
      simp only [sI6, decide_eq_false_iff_not]
      intro h
      exact c6 (by rw [h.2.2.2.2.2])]
    rfl
  simp (disch := first | assumption | omega | (simp only [LN] <;> omega) | (simp (disch := first | assumption | omega | (simp only [LN] <;> omega)) only [row_alloc, row_set]; assumption)) only [f14, W_block, P3, ↓reduceIte, reduceAdd, reduceEqDiff, reduceCtorEq, initFr, reduceLT, clsA, reduceLeDiff, reduceMul, reduceSub, reduceIte, ox, oy, cI6G vx x, cI6G vy y, hlen, hlen2]
  obtain ⟨K, hK⟩ : ∃ K, K = (H.alloc (.cells true false 6 (cI6 vx x) 34)).alloc (.cells true false 6 (cI6 vy y) 34) := ⟨_, rfl⟩
  rw [← hK] at k0 ⊢
  have gx : K.get H.n = some (.cells true false 6 (cI6 vx x) 34) := by rw [hK]; exact (AHeap.get_alloc_old _ _ (by rw [alloc_n]; omega)).trans (AHeap.get_alloc_new _ _)
  have gy : K.get (H.n + 1) = some (.cells true false 6 (cI6 vy y) 34) := by rw [hK]; exact AHeap.get_alloc_new _ _
  have hX := hX0.keeps k0
  have hY := hY0.keeps k0
  refine W_loop2 (fun q fr K' => ∃ (i : Nat) (e f : Value), i ≤ x.cs.length ∧ q = x.cs.length - i ∧ K' = K ∧ (∀ j (h : j < x.cs.length), j < i → x.cs[j] = y.cs[j]) ∧
    fr = [.agg (cI6 vx x).toArray, .agg (cI6 vy y).toArray, ptr H.n 0, ptr (H.n + 1) 0, .bool false, .int .i64 (i : Nat), .bool false, e, f]) x.cs.length ⟨0, undef, undef, by omega, rfl, rfl, by intro j _ h; omega, rfl⟩ ?_
  rintro Q' q fr _ ⟨i, e, f, hi, rfl, rfl, hall, rfl⟩ hnx hex hrt
  by_cases hc : i < x.cs.length
  · obtain ⟨hn1, hr1⟩ := hX.at_ (by omega) (i := i) (by simpa [CC] using hc)
    obtain ⟨hn2, hr2⟩ := hY.at_ (by omega) (i := i) (by simp only [CC, List.length_map]; omega)
    simp only [CC, List.getElem_map] at hr1 hr2
    by_cases he : x.cs[i] = y.cs[i]
    · have e1 : (((x.cs[i].1 : Nat) : Int) == ((y.cs[i].1 : Nat) : Int)) = true := by simp [he]
      have e2 : (x.cs[i].2 == y.cs[i].2) = true := by simp [he]
      simp (disch := first | assumption | omega | (simp only [LN] <;> omega) | (simp (disch := first | assumption | omega | (simp only [LN] <;> omega)) only [row_alloc, row_set]; assumption)) only [W_block, P3, ↓reduceIte, reduceAdd, reduceEqDiff, reduceCtorEq, initFr, reduceLT, clsA, reduceLeDiff, reduceMul, reduceSub, reduceIte, gx, gy, cI6G vx x, cI6G vy y, hlen, a_eqC, e1, e2, wrap_succ (n := i) (by omega)]
      refine hnx _ _ _ ⟨i + 1, _, _, by omega, rfl, rfl, ?_, rfl⟩ (by omega)
      intro j hj hji
      by_cases hjk : j < i
      · exact hall j hj hjk
      · have : j = i := by omega
        subst this; exact he
    · have e1 : (((x.cs[i].1 : Nat) : Int) == ((y.cs[i].1 : Nat) : Int) && (x.cs[i].2 == y.cs[i].2 && true)) = false := by
        cases h : (((x.cs[i].1 : Nat) : Int) == ((y.cs[i].1 : Nat) : Int) && (x.cs[i].2 == y.cs[i].2 && true)) with
        | false => rfl
        | true =>
          exfalso
          simp only [Bool.and_true, Bool.and_eq_true, beq_iff_eq] at h
          exact he (Prod.ext (by omega) h.2)
      have e2 : ∀ X, asem (.eqs [1, 1] true (.agg #[.int .u8 (x.cs[i].1 : Nat), .int .i64 x.cs[i].2]) (.agg #[.int .u8 (y.cs[i].1 : Nat), .int .i64 y.cs[i].2])) X = some (.bool true, X) := fun X => by rw [a_eqC, e1]; rfl
      simp (disch := first | assumption | omega | (simp only [LN] <;> omega) | (simp (disch := first | assumption | omega | (simp only [LN] <;> omega)) only [row_alloc, row_set]; assumption)) only [W_block, P3, ↓reduceIte, reduceAdd, reduceEqDiff, reduceCtorEq, initFr, reduceLT, clsA, reduceLeDiff, reduceMul, reduceSub, reduceIte, gx, gy, cI6G vx x, cI6G vy y, hlen, e2]
      refine hrt _ _ ?_
      simp (disch := first | assumption | omega | (simp only [LN] <;> omega) | (simp (disch := first | assumption | omega | (simp only [LN] <;> omega)) only [row_alloc, row_set]; assumption)) only [W_block, P3, ↓reduceIte, reduceAdd, reduceEqDiff, reduceCtorEq, initFr, reduceLT, clsA, reduceLeDiff, reduceMul, reduceSub, reduceIte]
      refine hq2 _ _ ⟨_, rfl, ?_, k0⟩
      rw [show sI6 x y = false from by
        simp only [sI6, decide_eq_false_iff_not]
        intro h
        apply he
        simp only [h.2.2.2.2.2]]
      rfl
  · simp (disch := first | assumption | omega | (simp only [LN] <;> omega) | (simp (disch := first | assumption | omega | (simp only [LN] <;> omega)) only [row_alloc, row_set]; assumption)) only [W_block, P3, ↓reduceIte, reduceAdd, reduceEqDiff, reduceCtorEq, initFr, reduceLT, clsA, reduceLeDiff, reduceMul, reduceSub, reduceIte, gx, gy, cI6G vx x, cI6G vy y, hlen]
    refine hex _ _ _ ?_
    simp (disch := first | assumption | omega | (simp only [LN] <;> omega) | (simp (disch := first | assumption | omega | (simp only [LN] <;> omega)) only [row_alloc, row_set]; assumption)) only [W_block, P3, ↓reduceIte, reduceAdd, reduceEqDiff, reduceCtorEq, initFr, reduceLT, clsA, reduceLeDiff, reduceMul, reduceSub, reduceIte]
    refine hq2 _ _ ⟨_, rfl, ?_, k0⟩
    rw [show sI6 x y = true from by
      simp only [sI6, decide_eq_true_eq]
      refine ⟨c1, c2, c3, c4, c5, List.ext_getElem c6 (fun j h1 h2 => hall j h1 (by omega))⟩]
    rfl
theorem fillb5 (a b c d e : Bool) : fillA [.bool false, .bool false, .bool false, .bool false, .bool false] [(0, 1, .bool a), (1, 1, .bool b), (2, 1, .bool c), (3, 1, .bool d), (4, 1, .bool e)] = some [.bool a, .bool b, .bool c, .bool d, .bool e] := rfl
theorem tup2 (c : List Value) (ok : Bool) : GotB c ok = .tuple #[.agg c.toArray, .bool ok] := rfl
theorem t29 {H : AHeap} {v : Value} {b : List UInt8} (hb : BQ H v b) (hl : b.length ≤ 1000000) : ∃ w H', ARun Go.Proofs.Try.prog 0 29 [v] H w H' ∧ w = .int .u8 (kiB b : Nat) ∧ H' = H := by
  suffices h : ∃ w H', ARun Go.Proofs.Try.prog 0 29 [v] H w H' ∧ w = .int .u8 (kiB b : Nat) ∧ Keeps H H' by
    obtain ⟨_, _, a, rfl, k⟩ := h
    exact ⟨_, _, a.gc0 k (.inr (.int _ _)), rfl, rfl⟩
  refine walk2 f29_ok f29_n ?_
  intro Q hq1 hq2
  have lz6 : ([.int .u8 0, .int .i64 0, .int .u64 0, .int .u32 0, .int .u32 0, .slice none 0 0] : List Value).length = 6 := rfl
  simp (disch := first | assumption | omega | (simp only [LN] <;> omega) | (simp (disch := first | assumption | omega | (simp only [LN] <;> omega)) only [row_alloc, row_set]; assumption)) only [f29, W_block, P3, ↓reduceIte, reduceAdd, reduceEqDiff, reduceCtorEq, initFr, reduceLT, clsA, reduceLeDiff, reduceMul, reduceSub, reduceIte]
  refine callK (t13 hb hl) ?_
  rintro w1 K1 ⟨k1, vc, fv, hw1⟩
  obtain ⟨c1, hc1, hl1, ho1⟩ : ∃ c1 : List Value, w1 = GotB c1 (geI6 b).isSome ∧ c1.length = 6 ∧ c1.all Value.oneCell' = true := by
    cases hg : geI6 b with
    | none => rw [hg] at hw1; exact ⟨_, hw1, rfl, rfl⟩
    | some x =>
      rw [hg] at hw1
      obtain ⟨e1, e2⟩ := hw1
      refine ⟨_, e1, rfl, ?_⟩
      obtain ⟨a, ha⟩ := e2.shape
      simp only [cI6, List.all_cons, List.all_nil, ha]
      rfl
  subst hc1
  have n1 := k1.n
  simp (disch := first | assumption | omega | (simp only [LN] <;> omega) | (simp (disch := first | assumption | omega | (simp only [LN] <;> omega)) only [row_alloc, row_set]; assumption)) only [W_block, P3, ↓reduceIte, reduceAdd, reduceEqDiff, reduceCtorEq, initFr, reduceLT, clsA, reduceLeDiff, reduceMul, reduceSub, reduceIte, tup2, hl1, ho1]
  have kb1 := k1.alloc (.cells true false 6 c1 34)
  refine callK (t17 (hb.keeps kb1) (by omega)) ?_
  rintro _ _ ⟨rfl, rfl⟩
  obtain ⟨c2, hc2, hl2, ho2⟩ : ∃ c2 : List Value, tOu (geOu b) = GotB c2 (geOu b).isSome ∧ c2.length = 5 ∧ c2.all Value.oneCell' = true := by
    cases geOu b <;> exact ⟨_, rfl, rfl, rfl⟩
  rw [hc2]
  simp (disch := first | assumption | omega | (simp only [LN] <;> omega) | (simp (disch := first | assumption | omega | (simp only [LN] <;> omega)) only [row_alloc, row_set]; assumption)) only [W_block, P3, ↓reduceIte, reduceAdd, reduceEqDiff, reduceCtorEq, initFr, reduceLT, clsA, reduceLeDiff, reduceMul, reduceSub, reduceIte, tup2, hl2, ho2]
  have kb2 := kb1.alloc (.cells true false 5 c2 45)
  refine callK (t20 (hb.keeps kb2) (by omega)) ?_
  rintro _ _ ⟨rfl, rfl⟩
  obtain ⟨c3, hc3, hl3, ho3⟩ : ∃ c3 : List Value, tSt (geSt b) = GotB c3 (geSt b).isSome ∧ c3.length = 68 ∧ c3.all Value.oneCell' = true := by
    cases hg : geSt b with
    | none => exact ⟨_, rfl, rfl, rfl⟩
    | some x => exact ⟨_, rfl, cSt_len (geSt_some hg).2.1.1, cSt_one x⟩
  rw [hc3]
  have oz3 : Z68.all Value.oneCell' = true := rfl
  have lz3 : Z68.length = 68 := rfl
  simp (disch := first | assumption | omega | (simp only [LN] <;> omega) | (simp (disch := first | assumption | omega | (simp only [LN] <;> omega)) only [row_alloc, row_set]; assumption)) only [W_block, P3, ↓reduceIte, reduceAdd, reduceEqDiff, reduceCtorEq, initFr, reduceLT, clsA, reduceLeDiff, reduceMul, reduceSub, reduceIte, tup2, hl3, ho3, oz3]
  have kb3 := kb2.alloc (.cells true false 68 c3 51)
  refine callK (t22 (hb.keeps kb3) (by omega)) ?_
  rintro _ _ ⟨rfl, rfl⟩
  obtain ⟨c4, hc4, hl4, ho4⟩ : ∃ c4 : List Value, tLo (geLo b) = GotB c4 (geLo b).isSome ∧ c4.length = 70 ∧ c4.all Value.oneCell' = true := by
    cases hg : geLo b with
    | none => exact ⟨_, rfl, rfl, rfl⟩
    | some x => exact ⟨_, rfl, cLo_len (geLo_some hg).2.1.1, cLo_one x⟩
  rw [hc4]
  have oz4 : Z70.all Value.oneCell' = true := rfl
  have lz4 : Z70.length = 70 := rfl
  simp (disch := first | assumption | omega | (simp only [LN] <;> omega) | (simp (disch := first | assumption | omega | (simp only [LN] <;> omega)) only [row_alloc, row_set]; assumption)) only [W_block, P3, ↓reduceIte, reduceAdd, reduceEqDiff, reduceCtorEq, initFr, reduceLT, clsA, reduceLeDiff, reduceMul, reduceSub, reduceIte, tup2, hl4, ho4, oz4]
  have kb4 := kb3.alloc (.cells true false 70 c4 60)
  refine callK (t25 (hb.keeps kb4) (by omega)) ?_
  rintro _ _ ⟨rfl, rfl⟩
  obtain ⟨c5, hc5, hl5, ho5⟩ : ∃ c5 : List Value, tLi (geLi b) = GotB c5 (geLi b).isSome ∧ c5.length = 5 ∧ c5.all Value.oneCell' = true := by
    cases geLi b <;> exact ⟨_, rfl, rfl, rfl⟩
  rw [hc5]
  simp (disch := first | assumption | omega | (simp only [LN] <;> omega) | (simp (disch := first | assumption | omega | (simp only [LN] <;> omega)) only [row_alloc, row_set]; assumption)) only [W_block, P3, ↓reduceIte, reduceAdd, reduceEqDiff, reduceCtorEq, initFr, reduceLT, clsA, reduceLeDiff, reduceMul, reduceSub, reduceIte, tup2, hl5, ho5, fillb5]
  have kb5 := kb4.alloc (.cells true false 5 c5 69)
  have kb6 := kb5.alloc (.cells true false 1 [.bool (geI6 b).isSome, .bool (geOu b).isSome, .bool (geSt b).isSome, .bool (geLo b).isSome, .bool (geLi b).isSome] 4)
  obtain ⟨K, hK⟩ : ∃ K, K = (((((K1.alloc (.cells true false 6 c1 34)).alloc (.cells true false 5 c2 45)).alloc (.cells true false 68 c3 51)).alloc (.cells true false 70 c4 60)).alloc (.cells true false 5 c5 69)).alloc (.cells true false 1 [.bool (geI6 b).isSome, .bool (geOu b).isSome, .bool (geSt b).isSome, .bool (geLo b).isSome, .bool (geLi b).isSome] 4) := ⟨_, rfl⟩
  rw [← hK] at kb6 ⊢
  have gK : K.get (K1.n + 5) = some (.cells true false 1 [.bool (geI6 b).isSome, .bool (geOu b).isSome, .bool (geSt b).isSome, .bool (geLo b).isSome, .bool (geLi b).isSome] 4) := by rw [hK]; exact AHeap.get_alloc_new _ _
  obtain ⟨b1, h1⟩ : ∃ x, x = (geI6 b).isSome := ⟨_, rfl⟩
  obtain ⟨b2, h2⟩ : ∃ x, x = (geOu b).isSome := ⟨_, rfl⟩
  obtain ⟨b3, h3⟩ : ∃ x, x = (geSt b).isSome := ⟨_, rfl⟩
  obtain ⟨b4, h4⟩ : ∃ x, x = (geLo b).isSome := ⟨_, rfl⟩
  obtain ⟨b5, h5⟩ : ∃ x, x = (geLi b).isSome := ⟨_, rfl⟩
  have hk : kiB b = if b1 then 1 else if b2 then 2 else if b3 then 3 else if b4 then 4 else if b5 then 5 else 0 := by rw [h1, h2, h3, h4, h5]; rfl
  rw [← h1, ← h2, ← h3, ← h4, ← h5] at gK ⊢
  refine W_loop2 (fun q fr K' => ∃ (i : Nat) (e f : Value), i ≤ 5 ∧ q = 5 - i ∧ Keeps H K' ∧ K'.get (K1.n + 5) = some (.cells true false 1 [.bool b1, .bool b2, .bool b3, .bool b4, .bool b5] 4) ∧ (∀ j, j < i → [b1, b2, b3, b4, b5][j]? = some false) ∧
    fr = [v, .int .u8 0, .bool b1, .bool b2, .bool b3, .bool b4, .bool b5, slc (K1.n + 1 + 1 + 1 + 1 + 1) 0 5 5, .int .i64 (i : Nat), e, f]) 5 ⟨0, undef, undef, by omega, rfl, kb6, gK, by intro j h; omega, rfl⟩ ?_
  rintro Q' q fr K' ⟨i, e, f, hi, rfl, kk, gk, hall, rfl⟩ hnx hex hrt
  by_cases hc : i < 5
  · rcases (show i = 0 ∨ i = 1 ∨ i = 2 ∨ i = 3 ∨ i = 4 by omega) with rfl | rfl | rfl | rfl | rfl
    · cases hb : b1 with
      | true =>
        have ek : kiB b = 1 := by rw [hk, hb]; rfl
        simp (disch := first | assumption | omega | (simp only [LN] <;> omega) | (simp (disch := first | assumption | omega | (simp only [LN] <;> omega)) only [row_alloc, row_set]; assumption)) only [W_block, P3, ↓reduceIte, reduceAdd, reduceEqDiff, reduceCtorEq, initFr, reduceLT, clsA, reduceLeDiff, reduceMul, reduceSub, reduceIte, gk, hb]
        refine hrt _ _ ?_
        simp (disch := first | assumption | omega | (simp only [LN] <;> omega) | (simp (disch := first | assumption | omega | (simp only [LN] <;> omega)) only [row_alloc, row_set]; assumption)) only [W_block, P3, ↓reduceIte, reduceAdd, reduceEqDiff, reduceCtorEq, initFr, reduceLT, clsA, reduceLeDiff, reduceMul, reduceSub, reduceIte]
        exact hq2 _ _ ⟨_, rfl, by rw [ek]; rfl, kk⟩
      | false =>
        simp (disch := first | assumption | omega | (simp only [LN] <;> omega) | (simp (disch := first | assumption | omega | (simp only [LN] <;> omega)) only [row_alloc, row_set]; assumption)) only [W_block, P3, ↓reduceIte, reduceAdd, reduceEqDiff, reduceCtorEq, initFr, reduceLT, clsA, reduceLeDiff, reduceMul, reduceSub, reduceIte, gk, hb]
        refine hnx _ _ _ ⟨1, _, _, by omega, rfl, kk, gk, ?_, by rw [hb]; rfl⟩ (by omega)
        intro j hj
        by_cases hjk : j < 0
        · exact hall j hjk
        · have : j = 0 := by omega
          subst this; simp [hb]
    · have p0 : b1 = false := by simpa using hall 0 (by omega)
      cases hb : b2 with
      | true =>
        have ek : kiB b = 2 := by rw [hk, p0, hb]; rfl
        simp (disch := first | assumption | omega | (simp only [LN] <;> omega) | (simp (disch := first | assumption | omega | (simp only [LN] <;> omega)) only [row_alloc, row_set]; assumption)) only [W_block, P3, ↓reduceIte, reduceAdd, reduceEqDiff, reduceCtorEq, initFr, reduceLT, clsA, reduceLeDiff, reduceMul, reduceSub, reduceIte, gk, hb]
        refine hrt _ _ ?_
        simp (disch := first | assumption | omega | (simp only [LN] <;> omega) | (simp (disch := first | assumption | omega | (simp only [LN] <;> omega)) only [row_alloc, row_set]; assumption)) only [W_block, P3, ↓reduceIte, reduceAdd, reduceEqDiff, reduceCtorEq, initFr, reduceLT, clsA, reduceLeDiff, reduceMul, reduceSub, reduceIte]
        exact hq2 _ _ ⟨_, rfl, by rw [ek]; rfl, kk⟩
      | false =>
        simp (disch := first | assumption | omega | (simp only [LN] <;> omega) | (simp (disch := first | assumption | omega | (simp only [LN] <;> omega)) only [row_alloc, row_set]; assumption)) only [W_block, P3, ↓reduceIte, reduceAdd, reduceEqDiff, reduceCtorEq, initFr, reduceLT, clsA, reduceLeDiff, reduceMul, reduceSub, reduceIte, gk, hb]
        refine hnx _ _ _ ⟨2, _, _, by omega, rfl, kk, gk, ?_, by rw [hb]; rfl⟩ (by omega)
        intro j hj
        by_cases hjk : j < 1
        · exact hall j hjk
        · have : j = 1 := by omega
          subst this; simp [hb]
    · have p0 : b1 = false := by simpa using hall 0 (by omega)
      have p1 : b2 = false := by simpa using hall 1 (by omega)
      cases hb : b3 with
      | true =>
        have ek : kiB b = 3 := by rw [hk, p0, p1, hb]; rfl
        simp (disch := first | assumption | omega | (simp only [LN] <;> omega) | (simp (disch := first | assumption | omega | (simp only [LN] <;> omega)) only [row_alloc, row_set]; assumption)) only [W_block, P3, ↓reduceIte, reduceAdd, reduceEqDiff, reduceCtorEq, initFr, reduceLT, clsA, reduceLeDiff, reduceMul, reduceSub, reduceIte, gk, hb]
        refine hrt _ _ ?_
        simp (disch := first | assumption | omega | (simp only [LN] <;> omega) | (simp (disch := first | assumption | omega | (simp only [LN] <;> omega)) only [row_alloc, row_set]; assumption)) only [W_block, P3, ↓reduceIte, reduceAdd, reduceEqDiff, reduceCtorEq, initFr, reduceLT, clsA, reduceLeDiff, reduceMul, reduceSub, reduceIte]
        exact hq2 _ _ ⟨_, rfl, by rw [ek]; rfl, kk⟩
      | false =>
        simp (disch := first | assumption | omega | (simp only [LN] <;> omega) | (simp (disch := first | assumption | omega | (simp only [LN] <;> omega)) only [row_alloc, row_set]; assumption)) only [W_block, P3, ↓reduceIte, reduceAdd, reduceEqDiff, reduceCtorEq, initFr, reduceLT, clsA, reduceLeDiff, reduceMul, reduceSub, reduceIte, gk, hb]
        refine hnx _ _ _ ⟨3, _, _, by omega, rfl, kk, gk, ?_, by rw [hb]; rfl⟩ (by omega)
        intro j hj
        by_cases hjk : j < 2
        · exact hall j hjk
        · have : j = 2 := by omega
          subst this; simp [hb]
    · have p0 : b1 = false := by simpa using hall 0 (by omega)
      have p1 : b2 = false := by simpa using hall 1 (by omega)
      have p2 : b3 = false := by simpa using hall 2 (by omega)
      cases hb : b4 with
      | true =>
        have ek : kiB b = 4 := by rw [hk, p0, p1, p2, hb]; rfl
        simp (disch := first | assumption | omega | (simp only [LN] <;> omega) | (simp (disch := first | assumption | omega | (simp only [LN] <;> omega)) only [row_alloc, row_set]; assumption)) only [W_block, P3, ↓reduceIte, reduceAdd, reduceEqDiff, reduceCtorEq, initFr, reduceLT, clsA, reduceLeDiff, reduceMul, reduceSub, reduceIte, gk, hb]
        refine hrt _ _ ?_
        simp (disch := first | assumption | omega | (simp only [LN] <;> omega) | (simp (disch := first | assumption | omega | (simp only [LN] <;> omega)) only [row_alloc, row_set]; assumption)) only [W_block, P3, ↓reduceIte, reduceAdd, reduceEqDiff, reduceCtorEq, initFr, reduceLT, clsA, reduceLeDiff, reduceMul, reduceSub, reduceIte]
        exact hq2 _ _ ⟨_, rfl, by rw [ek]; rfl, kk⟩
      | false =>
        simp (disch := first | assumption | omega | (simp only [LN] <;> omega) | (simp (disch := first | assumption | omega | (simp only [LN] <;> omega)) only [row_alloc, row_set]; assumption)) only [W_block, P3, ↓reduceIte, reduceAdd, reduceEqDiff, reduceCtorEq, initFr, reduceLT, clsA, reduceLeDiff, reduceMul, reduceSub, reduceIte, gk, hb]
        refine hnx _ _ _ ⟨4, _, _, by omega, rfl, kk, gk, ?_, by rw [hb]; rfl⟩ (by omega)
        intro j hj
        by_cases hjk : j < 3
        · exact hall j hjk
        · have : j = 3 := by omega
          subst this; simp [hb]
    · have p0 : b1 = false := by simpa using hall 0 (by omega)
      have p1 : b2 = false := by simpa using hall 1 (by omega)
      have p2 : b3 = false := by simpa using hall 2 (by omega)
      have p3 : b4 = false := by simpa using hall 3 (by omega)
      cases hb : b5 with
      | true =>
        have ek : kiB b = 5 := by rw [hk, p0, p1, p2, p3, hb]; rfl
        simp (disch := first | assumption | omega | (simp only [LN] <;> omega) | (simp (disch := first | assumption | omega | (simp only [LN] <;> omega)) only [row_alloc, row_set]; assumption)) only [W_block, P3, ↓reduceIte, reduceAdd, reduceEqDiff, reduceCtorEq, initFr, reduceLT, clsA, reduceLeDiff, reduceMul, reduceSub, reduceIte, gk, hb]
        refine hrt _ _ ?_
        simp (disch := first | assumption | omega | (simp only [LN] <;> omega) | (simp (disch := first | assumption | omega | (simp only [LN] <;> omega)) only [row_alloc, row_set]; assumption)) only [W_block, P3, ↓reduceIte, reduceAdd, reduceEqDiff, reduceCtorEq, initFr, reduceLT, clsA, reduceLeDiff, reduceMul, reduceSub, reduceIte]
        exact hq2 _ _ ⟨_, rfl, by rw [ek]; rfl, kk⟩
      | false =>
        simp (disch := first | assumption | omega | (simp only [LN] <;> omega) | (simp (disch := first | assumption | omega | (simp only [LN] <;> omega)) only [row_alloc, row_set]; assumption)) only [W_block, P3, ↓reduceIte, reduceAdd, reduceEqDiff, reduceCtorEq, initFr, reduceLT, clsA, reduceLeDiff, reduceMul, reduceSub, reduceIte, gk, hb]
        refine hnx _ _ _ ⟨5, _, _, by omega, rfl, kk, gk, ?_, by rw [hb]; rfl⟩ (by omega)
        intro j hj
        by_cases hjk : j < 4
        · exact hall j hjk
        · have : j = 4 := by omega
          subst this; simp [hb]
  · have hi5 : i = 5 := by omega
    subst hi5
    have p0 : b1 = false := by simpa using hall 0 (by omega)
    have p1 : b2 = false := by simpa using hall 1 (by omega)
    have p2 : b3 = false := by simpa using hall 2 (by omega)
    have p3 : b4 = false := by simpa using hall 3 (by omega)
    have p4 : b5 = false := by simpa using hall 4 (by omega)
    have ek : kiB b = 0 := by rw [hk, p0, p1, p2, p3, p4]; rfl
    simp (disch := first | assumption | omega | (simp only [LN] <;> omega) | (simp (disch := first | assumption | omega | (simp only [LN] <;> omega)) only [row_alloc, row_set]; assumption)) only [W_block, P3, ↓reduceIte, reduceAdd, reduceEqDiff, reduceCtorEq, initFr, reduceLT, clsA, reduceLeDiff, reduceMul, reduceSub, reduceIte]
    refine hex _ _ _ ?_
    simp (disch := first | assumption | omega | (simp only [LN] <;> omega) | (simp (disch := first | assumption | omega | (simp only [LN] <;> omega)) only [row_alloc, row_set]; assumption)) only [W_block, P3, ↓reduceIte, reduceAdd, reduceEqDiff, reduceCtorEq, initFr, reduceLT, clsA, reduceLeDiff, reduceMul, reduceSub, reduceIte]
    exact hq2 _ _ ⟨_, rfl, by rw [ek]; rfl, kk⟩
end Go.AM.Fd

set_option maxRecDepth 100000
namespace Go.AM.F
def O68 : List Nat := [1, 1, 1, 1, 1, 1, 1, 1, 1, 1, 1, 1, 1, 1, 1, 1, 1, 1, 1, 1, 1, 1, 1, 1, 1, 1, 1, 1, 1, 1, 1, 1, 1, 1, 1, 1, 1, 1, 1, 1, 1, 1, 1, 1, 1, 1, 1, 1, 1, 1, 1, 1, 1, 1, 1, 1, 1, 1, 1, 1, 1, 1, 1, 1, 1, 1, 1, 1]
def O70 : List Nat := [1, 1, 1, 1, 1, 1, 1, 1, 1, 1, 1, 1, 1, 1, 1, 1, 1, 1, 1, 1, 1, 1, 1, 1, 1, 1, 1, 1, 1, 1, 1, 1, 1, 1, 1, 1, 1, 1, 1, 1, 1, 1, 1, 1, 1, 1, 1, 1, 1, 1, 1, 1, 1, 1, 1, 1, 1, 1, 1, 1, 1, 1, 1, 1, 1, 1, 1, 1, 1, 1]
def f3 : AFunc := ⟨[0, 2, 3, 4, 5, 6, 7, 8, 9, 10, 11, 12, 13, 14, 15, 16, 17, 18, 19, 20, 21, 22, 23, 24, 25, 26, 27, 28, 29, 32, 140],
 .seq (.reg [
 ⟨.mov (.c (.bool false)), .fr 1, none⟩]) <|
 .seq (.seq (.reg [
 ⟨.mov (.fr 0), .tm, none⟩,
 ⟨.len false (.tm 0), .tm, none⟩,
 ⟨.bin .gtr (.tm 0) (.c (.int .i64 3000)), .fr 29, none⟩]) <|
 .cond (.fr 29)
 (.seq (.reg [
 ⟨.callf 11 [], .tm, none⟩,
 ⟨.mov (.tm 0), .fr 1, none⟩]) <|
 .ret)
 (.skip)) <|
 .seq (.reg [
 ⟨.mov (.fr 0), .tm, none⟩,
 ⟨.b2s (.tm 0), .tm, none⟩,
 ⟨.s2b 5 (.tm 0), .tm, none⟩,
 ⟨.mov (.tm 0), .fr 2, none⟩]) <|
 .seq (.reg [
 ⟨.mov (.fr 2), .tm, none⟩,
 ⟨.callf 12 [(.tm 0)], .tm, none⟩,
 ⟨.mov (.tm 0), .tm, none⟩,
 ⟨.extract (.tm 0) 0, .tm, none⟩,
 ⟨.extract (.tm 1) 1, .tm, none⟩,
 ⟨.new 30 6 [(.int .u8 0), (.int .i64 0), (.int .u64 0), (.int .u32 0), (.int .u32 0), (.slice none 0 0)], .fr 3, none⟩,
 ⟨.storen 6 (.fr 3) (.tm 1), .no, none⟩,
 ⟨.mov (.tm 0), .fr 4, none⟩]) <|
 .seq (.reg [
 ⟨.mov (.fr 0), .tm, none⟩,
 ⟨.callf 13 [(.tm 0)], .tm, none⟩,
 ⟨.mov (.tm 0), .tm, none⟩,
 ⟨.extract (.tm 0) 0, .tm, none⟩,
 ⟨.extract (.tm 1) 1, .tm, none⟩,
 ⟨.new 34 6 [(.int .u8 0), (.int .i64 0), (.int .u64 0), (.int .u32 0), (.int .u32 0), (.slice none 0 0)], .fr 5, none⟩,
 ⟨.storen 6 (.fr 5) (.tm 1), .no, none⟩,
 ⟨.mov (.tm 0), .fr 6, none⟩]) <|
 .seq (.dreg [
 (⟨.loadn 6 (.fr 3), .tm, none⟩, []),
 (⟨.callf 15 [(.tm 0)], .tm, none⟩, []),
 (⟨.loadn 6 (.fr 5), .tm, none⟩, [1]),
 (⟨.callf 14 [(.tm 1), (.tm 0)], .tm, none⟩, []),
 (⟨.mov (.tm 0), .tm, none⟩, []),
 (⟨.mov (.fr 4), .tm, some ((.tm 0), true)⟩, []),
 (⟨.bin .eql (.tm 0) (.c (.int .i64 0)), .tm, some ((.tm 1), true)⟩, []),
 (⟨.mov (.fr 6), .tm, some ((.tm 2), true)⟩, []),
 (⟨.eqv 0 false (.tm 1) (.tm 0), .tm, some ((.tm 3), true)⟩, []),
 (⟨.pick (.tm 4) (.tm 0) (.c (.bool false)), .tm, none⟩, []),
 (⟨.mov (.tm 0), .fr 7, none⟩, [])]) <|
 .seq (.reg [
 ⟨.mov (.fr 2), .tm, none⟩,
 ⟨.callf 16 [(.tm 0)], .tm, none⟩,
 ⟨.mov (.tm 0), .tm, none⟩,
 ⟨.extract (.tm 0) 0, .tm, none⟩,
 ⟨.extract (.tm 1) 1, .tm, none⟩,
 ⟨.new 42 5 [(.int .u8 0), (.int .i64 0), (.int .i64 0), (.int .u64 0), (.int .u32 0)], .fr 8, none⟩,
 ⟨.storen 5 (.fr 8) (.tm 1), .no, none⟩,
 ⟨.mov (.tm 0), .fr 9, none⟩]) <|
 .seq (.reg [
 ⟨.mov (.fr 0), .tm, none⟩,
 ⟨.callf 17 [(.tm 0)], .tm, none⟩,
 ⟨.mov (.tm 0), .tm, none⟩,
 ⟨.extract (.tm 0) 0, .tm, none⟩,
 ⟨.extract (.tm 1) 1, .tm, none⟩,
 ⟨.new 45 5 [(.int .u8 0), (.int .i64 0), (.int .i64 0), (.int .u64 0), (.int .u32 0)], .fr 10, none⟩,
 ⟨.storen 5 (.fr 10) (.tm 1), .no, none⟩,
 ⟨.mov (.tm 0), .fr 11, none⟩]) <|
 .seq (.dreg [
 (⟨.loadn 5 (.fr 8), .tm, none⟩, []),
 (⟨.callf 18 [(.tm 0)], .tm, none⟩, []),
 (⟨.loadn 5 (.fr 10), .tm, none⟩, [1]),
 (⟨.eqs [1, 1, 1, 1, 1] false (.tm 1) (.tm 0), .tm, none⟩, []),
 (⟨.mov (.tm 0), .tm, none⟩, []),
 (⟨.mov (.fr 9), .tm, some ((.tm 0), true)⟩, []),
 (⟨.bin .eql (.tm 0) (.c (.int .i64 0)), .tm, some ((.tm 1), true)⟩, []),
 (⟨.mov (.fr 11), .tm, some ((.tm 2), true)⟩, []),
 (⟨.eqv 0 false (.tm 1) (.tm 0), .tm, some ((.tm 3), true)⟩, []),
 (⟨.pick (.tm 4) (.tm 0) (.c (.bool false)), .tm, none⟩, []),
 (⟨.mov (.tm 0), .fr 12, none⟩, [])]) <|
 .seq (.reg [
 ⟨.mov (.fr 2), .tm, none⟩,
 ⟨.callf 19 [(.tm 0)], .tm, none⟩,
 ⟨.mov (.tm 0), .tm, none⟩,
 ⟨.extract (.tm 0) 0, .tm, none⟩,
 ⟨.extract (.tm 1) 1, .tm, none⟩,
 ⟨.new 51 68 Z68, .fr 13, none⟩,
 ⟨.storen 68 (.fr 13) (.tm 1), .no, none⟩,
 ⟨.mov (.tm 0), .fr 14, none⟩]) <|
 .seq (.reg [
 ⟨.mov (.fr 0), .tm, none⟩,
 ⟨.callf 20 [(.tm 0)], .tm, none⟩,
 ⟨.mov (.tm 0), .tm, none⟩,
 ⟨.extract (.tm 0) 0, .tm, none⟩,
 ⟨.extract (.tm 1) 1, .tm, none⟩,
 ⟨.new 51 68 Z68, .fr 15, none⟩,
 ⟨.storen 68 (.fr 15) (.tm 1), .no, none⟩,
 ⟨.mov (.tm 0), .fr 16, none⟩]) <|
 .seq (.reg [
 ⟨.loadn 68 (.fr 13), .tm, none⟩,
 ⟨.loadn 68 (.fr 15), .tm, none⟩,
 ⟨.eqs O68 false (.tm 1) (.tm 0), .tm, none⟩,
 ⟨.mov (.tm 0), .tm, none⟩,
 ⟨.mov (.fr 14), .tm, some ((.tm 0), true)⟩,
 ⟨.bin .eql (.tm 0) (.c (.int .i64 0)), .tm, some ((.tm 1), true)⟩,
 ⟨.mov (.fr 16), .tm, some ((.tm 2), true)⟩,
 ⟨.eqv 0 false (.tm 1) (.tm 0), .tm, some ((.tm 3), true)⟩,
 ⟨.pick (.tm 4) (.tm 0) (.c (.bool false)), .tm, none⟩,
 ⟨.mov (.tm 0), .fr 17, none⟩]) <|
 .seq (.reg [
 ⟨.mov (.fr 2), .tm, none⟩,
 ⟨.callf 21 [(.tm 0)], .tm, none⟩,
 ⟨.mov (.tm 0), .tm, none⟩,
 ⟨.extract (.tm 0) 0, .tm, none⟩,
 ⟨.extract (.tm 1) 1, .tm, none⟩,
 ⟨.new 57 70 Z70, .fr 18, none⟩,
 ⟨.storen 70 (.fr 18) (.tm 1), .no, none⟩,
 ⟨.mov (.tm 0), .fr 19, none⟩]) <|
 .seq (.reg [
 ⟨.mov (.fr 0), .tm, none⟩,
 ⟨.callf 22 [(.tm 0)], .tm, none⟩,
 ⟨.mov (.tm 0), .tm, none⟩,
 ⟨.extract (.tm 0) 0, .tm, none⟩,
 ⟨.extract (.tm 1) 1, .tm, none⟩,
 ⟨.new 60 70 Z70, .fr 20, none⟩,
 ⟨.storen 70 (.fr 20) (.tm 1), .no, none⟩,
 ⟨.mov (.tm 0), .fr 21, none⟩]) <|
 .seq (.dreg [
 (⟨.loadn 70 (.fr 18), .tm, none⟩, []),
 (⟨.callf 23 [(.tm 0)], .tm, none⟩, []),
 (⟨.loadn 70 (.fr 20), .tm, none⟩, [1]),
 (⟨.eqs O70 false (.tm 1) (.tm 0), .tm, none⟩, []),
 (⟨.mov (.tm 0), .tm, none⟩, []),
 (⟨.mov (.fr 19), .tm, some ((.tm 0), true)⟩, []),
 (⟨.bin .eql (.tm 0) (.c (.int .i64 0)), .tm, some ((.tm 1), true)⟩, []),
 (⟨.mov (.fr 21), .tm, some ((.tm 2), true)⟩, []),
 (⟨.eqv 0 false (.tm 1) (.tm 0), .tm, some ((.tm 3), true)⟩, []),
 (⟨.pick (.tm 4) (.tm 0) (.c (.bool false)), .tm, none⟩, []),
 (⟨.mov (.tm 0), .fr 22, none⟩, [])]) <|
 .seq (.reg [
 ⟨.mov (.fr 2), .tm, none⟩,
 ⟨.callf 24 [(.tm 0)], .tm, none⟩,
 ⟨.mov (.tm 0), .tm, none⟩,
 ⟨.extract (.tm 0) 0, .tm, none⟩,
 ⟨.extract (.tm 1) 1, .tm, none⟩,
 ⟨.new 65 5 [(.int .u8 0), (.int .u8 0), (.int .i64 0), (.int .i64 0), (.slice none 0 0)], .fr 23, none⟩,
 ⟨.storen 5 (.fr 23) (.tm 1), .no, none⟩,
 ⟨.mov (.tm 0), .fr 24, none⟩]) <|
 .seq (.reg [
 ⟨.mov (.fr 0), .tm, none⟩,
 ⟨.callf 25 [(.tm 0)], .tm, none⟩,
 ⟨.mov (.tm 0), .tm, none⟩,
 ⟨.extract (.tm 0) 0, .tm, none⟩,
 ⟨.extract (.tm 1) 1, .tm, none⟩,
 ⟨.new 69 5 [(.int .u8 0), (.int .u8 0), (.int .i64 0), (.int .i64 0), (.string ByteArray.empty)], .fr 25, none⟩,
 ⟨.storen 5 (.fr 25) (.tm 1), .no, none⟩,
 ⟨.mov (.tm 0), .fr 26, none⟩]) <|
 .seq (.dreg [
 (⟨.loadn 5 (.fr 23), .tm, none⟩, []),
 (⟨.callf 26 [(.tm 0)], .tm, none⟩, []),
 (⟨.loadn 5 (.fr 25), .tm, none⟩, [1]),
 (⟨.eqs [1, 1, 1, 1, 2] false (.tm 1) (.tm 0), .tm, none⟩, []),
 (⟨.mov (.tm 0), .tm, none⟩, []),
 (⟨.mov (.fr 24), .tm, some ((.tm 0), true)⟩, []),
 (⟨.bin .eql (.tm 0) (.c (.int .i64 0)), .tm, some ((.tm 1), true)⟩, []),
 (⟨.mov (.fr 26), .tm, some ((.tm 2), true)⟩, []),
 (⟨.eqv 0 false (.tm 1) (.tm 0), .tm, some ((.tm 3), true)⟩, []),
 (⟨.pick (.tm 4) (.tm 0) (.c (.bool false)), .tm, none⟩, []),
 (⟨.mov (.tm 0), .fr 27, none⟩, [])]) <|
 .seq (.seq (.reg [
 ⟨.mov (.c (.int .i64 0)), .fr 28, none⟩]) <|
 .block 0 (.loop (.seq (.seq (.reg [
 ⟨.mov (.fr 28), .tm, none⟩,
 ⟨.faddr 4 (.fr 23), .tm, none⟩,
 ⟨.load1 (.tm 0), .tm, none⟩,
 ⟨.len false (.tm 0), .tm, none⟩,
 ⟨.bin .lss (.tm 3) (.tm 0), .fr 30, none⟩]) <|
 .cond (.fr 30)
 (.skip)
 (.exit 0)) <|
 .seq (.block 1 (.dreg [
 (⟨.faddr 4 (.fr 23), .tm, none⟩, []),
 (⟨.load1 (.tm 0), .tm, none⟩, []),
 (⟨.mov (.fr 28), .tm, none⟩, []),
 (⟨.faddr 4 (.fr 23), .tm, none⟩, []),
 (⟨.load1 (.tm 0), .tm, none⟩, []),
 (⟨.mov (.fr 28), .tm, none⟩, []),
 (⟨.iaddr 1 (.tm 1) (.tm 0), .tm, none⟩, []),
 (⟨.load1 (.tm 0), .tm, none⟩, []),
 (⟨.bin .add (.tm 0) (.c (.int .u8 1)), .tm, none⟩, []),
 (⟨.iaddr 1 (.tm 7) (.tm 6), .tm, none⟩, []),
 (⟨.store1 (.tm 0) (.tm 1), .no, none⟩, [])])) <|
 .reg [
 ⟨.mov (.fr 28), .tm, none⟩,
 ⟨.bin .add (.tm 0) (.c (.int .i64 1)), .tm, none⟩,
 ⟨.mov (.tm 0), .fr 28, none⟩]))) <|
 .seq (.reg [
 ⟨.mov (.fr 7), .tm, none⟩,
 ⟨.mov (.tm 0), .tm, none⟩,
 ⟨.mov (.fr 12), .tm, some ((.tm 0), true)⟩,
 ⟨.pick (.tm 1) (.tm 0) (.c (.bool false)), .tm, none⟩,
 ⟨.mov (.tm 0), .tm, none⟩,
 ⟨.mov (.fr 17), .tm, some ((.tm 0), true)⟩,
 ⟨.pick (.tm 1) (.tm 0) (.c (.bool false)), .tm, none⟩,
 ⟨.mov (.tm 0), .tm, none⟩,
 ⟨.mov (.fr 22), .tm, some ((.tm 0), true)⟩,
 ⟨.pick (.tm 1) (.tm 0) (.c (.bool false)), .tm, none⟩,
 ⟨.mov (.tm 0), .tm, none⟩,
 ⟨.mov (.fr 27), .tm, some ((.tm 0), true)⟩,
 ⟨.pick (.tm 1) (.tm 0) (.c (.bool false)), .tm, none⟩,
 ⟨.mov (.tm 0), .tm, none⟩,
 ⟨.mov (.fr 4), .tm, some ((.tm 0), true)⟩,
 ⟨.mov (.fr 9), .tm, some ((.tm 1), true)⟩,
 ⟨.mov (.fr 14), .tm, some ((.tm 2), true)⟩,
 ⟨.mov (.fr 19), .tm, some ((.tm 3), true)⟩,
 ⟨.mov (.fr 24), .tm, some ((.tm 4), true)⟩,
 ⟨.callf 27 [(.tm 4), (.tm 3), (.tm 2), (.tm 1), (.tm 0)], .tm, some ((.tm 5), true)⟩,
 ⟨.pick (.tm 6) (.tm 0) (.c (.bool false)), .tm, none⟩,
 ⟨.mov (.tm 0), .tm, none⟩,
 ⟨.mov (.fr 2), .tm, some ((.tm 0), true)⟩,
 ⟨.callf 28 [(.tm 0)], .tm, some ((.tm 1), true)⟩,
 ⟨.mov (.fr 0), .tm, some ((.tm 2), true)⟩,
 ⟨.callf 29 [(.tm 0)], .tm, some ((.tm 3), true)⟩,
 ⟨.bin .eql (.tm 2) (.tm 0), .tm, some ((.tm 4), true)⟩,
 ⟨.pick (.tm 5) (.tm 0) (.c (.bool false)), .tm, none⟩,
 ⟨.mov (.tm 0), .tm, none⟩,
 ⟨.mov (.fr 2), .tm, some ((.tm 0), true)⟩,
 ⟨.b2s (.tm 0), .tm, some ((.tm 1), true)⟩,
 ⟨.mov (.fr 0), .tm, some ((.tm 2), true)⟩,
 ⟨.b2s (.tm 0), .tm, some ((.tm 3), true)⟩,
 ⟨.bin .eql (.tm 2) (.tm 0), .tm, some ((.tm 4), true)⟩,
 ⟨.pick (.tm 5) (.tm 0) (.c (.bool false)), .tm, none⟩,
 ⟨.mov (.tm 0), .tm, none⟩,
 ⟨.callf 11 [], .tm, some ((.tm 0), true)⟩,
 ⟨.pick (.tm 1) (.tm 0) (.c (.bool false)), .tm, none⟩,
 ⟨.mov (.tm 0), .fr 1, none⟩]) <|
 .ret, [.t 1]⟩
def f5 : AFunc := ⟨[0, 1, 2, 3, 4, 5, 6, 7, 8, 9, 10, 11, 12, 13, 14, 15, 16, 20, 23, 55, 69, 73],
 .seq (.reg [
 ⟨.box 30 6 (.fr 0), .fr 5, none⟩,
 ⟨.box 42 5 (.fr 1), .fr 6, none⟩,
 ⟨.box 51 68 (.fr 2), .fr 7, none⟩,
 ⟨.box 57 70 (.fr 3), .fr 8, none⟩,
 ⟨.box 65 5 (.fr 4), .fr 9, none⟩,
 ⟨.mov (.c (.bool false)), .fr 10, none⟩]) <|
 .seq (.seq (.reg [
 ⟨.loadn 6 (.fr 5), .tm, none⟩,
 ⟨.loadn 5 (.fr 9), .tm, none⟩,
 ⟨.callf 43 [(.tm 1), (.tm 0)], .tm, none⟩,
 ⟨.un .not (.tm 0), .fr 17, none⟩]) <|
 .cond (.fr 17)
 (.seq (.reg [
 ⟨.callf 11 [], .tm, none⟩,
 ⟨.mov (.tm 0), .fr 10, none⟩]) <|
 .ret)
 (.skip)) <|
 .seq (.seq (.reg [
 ⟨.mov (.c (.int .i64 0)), .fr 11, none⟩]) <|
 .block 0 (.loop (.seq (.seq (.reg [
 ⟨.mov (.fr 11), .tm, none⟩,
 ⟨.bin .lss (.tm 0) (.c (.int .i64 2)), .fr 18, none⟩]) <|
 .cond (.fr 18)
 (.skip)
 (.exit 0)) <|
 .seq (.block 1 (.seq (.dreg [
 (⟨.loadn 6 (.fr 5), .tm, none⟩, []),
 (⟨.callf 44 [(.tm 0)], .tm, none⟩, []),
 (⟨.loadn 5 (.fr 6), .tm, none⟩, [1]),
 (⟨.callf 45 [(.tm 0)], .tm, none⟩, []),
 (⟨.loadn 68 (.fr 7), .tm, none⟩, [1, 3]),
 (⟨.callf 46 [(.tm 0)], .tm, none⟩, []),
 (⟨.loadn 70 (.fr 8), .tm, none⟩, [1, 3, 5]),
 (⟨.callf 47 [(.tm 0)], .tm, none⟩, []),
 (⟨.loadn 5 (.fr 9), .tm, none⟩, [1, 3, 5, 7]),
 (⟨.callf 36 [(.tm 0)], .tm, none⟩, []),
 (⟨.bslice 22 1 5 [(.slice none 0 0), (.slice none 0 0), (.slice none 0 0), (.slice none 0 0), (.slice none 0 0)] [(0, 1, (.tm 8)), (1, 1, (.tm 6)), (2, 1, (.tm 4)), (3, 1, (.tm 2)), (4, 1, (.tm 0))], .tm, none⟩, []),
 (⟨.mov (.tm 0), .fr 12, none⟩, [])]) <|
 .seq (.dreg [
 (⟨.loadn 6 (.fr 5), .tm, none⟩, []),
 (⟨.callf 15 [(.tm 0)], .tm, none⟩, []),
 (⟨.callf 48 [(.tm 0)], .tm, none⟩, []),
 (⟨.loadn 5 (.fr 6), .tm, none⟩, [1, 2]),
 (⟨.callf 18 [(.tm 0)], .tm, none⟩, []),
 (⟨.callf 49 [(.tm 0)], .tm, none⟩, []),
 (⟨.loadn 68 (.fr 7), .tm, none⟩, [1, 2, 4, 5]),
 (⟨.callf 50 [(.tm 0)], .tm, none⟩, []),
 (⟨.loadn 70 (.fr 8), .tm, none⟩, [1, 2, 4, 5, 7]),
 (⟨.callf 23 [(.tm 0)], .tm, none⟩, []),
 (⟨.callf 51 [(.tm 0)], .tm, none⟩, []),
 (⟨.loadn 5 (.fr 9), .tm, none⟩, [1, 2, 4, 5, 7, 9, 10]),
 (⟨.callf 26 [(.tm 0)], .tm, none⟩, []),
 (⟨.callf 52 [(.tm 0)], .tm, none⟩, []),
 (⟨.bslice 22 1 5 [(.slice none 0 0), (.slice none 0 0), (.slice none 0 0), (.slice none 0 0), (.slice none 0 0)] [(0, 1, (.tm 11)), (1, 1, (.tm 8)), (2, 1, (.tm 6)), (3, 1, (.tm 3)), (4, 1, (.tm 0))], .tm, none⟩, []),
 (⟨.mov (.tm 0), .fr 13, none⟩, [])]) <|
 .seq (.reg [
 ⟨.mov (.c (.int .i64 0)), .fr 14, none⟩]) <|
 .block 2 (.loop (.seq (.seq (.reg [
 ⟨.mov (.fr 14), .tm, none⟩,
 ⟨.mov (.fr 12), .tm, none⟩,
 ⟨.len false (.tm 0), .tm, none⟩,
 ⟨.bin .lss (.tm 2) (.tm 0), .fr 19, none⟩]) <|
 .cond (.fr 19)
 (.skip)
 (.exit 2)) <|
 .seq (.block 3 (.seq (.reg [
 ⟨.mov (.fr 12), .tm, none⟩,
 ⟨.mov (.fr 14), .tm, none⟩,
 ⟨.iaddr 1 (.tm 1) (.tm 0), .tm, none⟩,
 ⟨.load1 (.tm 0), .tm, none⟩,
 ⟨.mov (.tm 0), .fr 15, none⟩]) <|
 .seq (.seq (.dreg [
 (⟨.mov (.fr 15), .tm, none⟩, []),
 (⟨.b2s (.tm 0), .tm, none⟩, []),
 (⟨.mov (.fr 13), .tm, none⟩, []),
 (⟨.mov (.fr 14), .tm, none⟩, []),
 (⟨.iaddr 1 (.tm 1) (.tm 0), .tm, none⟩, []),
 (⟨.load1 (.tm 0), .tm, none⟩, []),
 (⟨.b2s (.tm 0), .tm, none⟩, []),
 (⟨.bin .neq (.tm 5) (.tm 0), .fr 20, none⟩, [])]) <|
 .cond (.fr 20)
 (.seq (.reg [
 ⟨.mov (.c (.bool false)), .fr 10, none⟩]) <|
 .ret)
 (.skip)) <|
 .seq (.reg [
 ⟨.mov (.c (.int .i64 0)), .fr 16, none⟩]) <|
 .block 4 (.loop (.seq (.seq (.reg [
 ⟨.mov (.fr 16), .tm, none⟩,
 ⟨.mov (.fr 15), .tm, none⟩,
 ⟨.len false (.tm 0), .tm, none⟩,
 ⟨.bin .lss (.tm 2) (.tm 0), .fr 21, none⟩]) <|
 .cond (.fr 21)
 (.skip)
 (.exit 4)) <|
 .seq (.block 5 (.reg [
 ⟨.mov (.fr 15), .tm, none⟩,
 ⟨.mov (.fr 16), .tm, none⟩,
 ⟨.mov (.fr 15), .tm, none⟩,
 ⟨.mov (.fr 16), .tm, none⟩,
 ⟨.iaddr 1 (.tm 1) (.tm 0), .tm, none⟩,
 ⟨.load1 (.tm 0), .tm, none⟩,
 ⟨.bin .add (.tm 0) (.c (.int .u8 1)), .tm, none⟩,
 ⟨.iaddr 1 (.tm 6) (.tm 5), .tm, none⟩,
 ⟨.store1 (.tm 0) (.tm 1), .no, none⟩])) <|
 .reg [
 ⟨.mov (.fr 16), .tm, none⟩,
 ⟨.bin .add (.tm 0) (.c (.int .i64 1)), .tm, none⟩,
 ⟨.mov (.tm 0), .fr 16, none⟩])))) <|
 .reg [
 ⟨.mov (.fr 14), .tm, none⟩,
 ⟨.bin .add (.tm 0) (.c (.int .i64 1)), .tm, none⟩,
 ⟨.mov (.tm 0), .fr 14, none⟩])))) <|
 .reg [
 ⟨.mov (.fr 11), .tm, none⟩,
 ⟨.bin .add (.tm 0) (.c (.int .i64 1)), .tm, none⟩,
 ⟨.mov (.tm 0), .fr 11, none⟩]))) <|
 .seq (.reg [
 ⟨.callf 11 [], .tm, none⟩,
 ⟨.mov (.tm 0), .fr 10, none⟩]) <|
 .ret, [.t 10]⟩
def f6 : AFunc := ⟨[0, 1, 2, 3, 4, 5, 6, 7, 8, 9, 10, 12, 13, 14, 15, 16, 17, 18, 19, 28, 56, 80, 99, 123, 149],
 .seq (.reg [
 ⟨.box 30 6 (.fr 0), .fr 6, none⟩,
 ⟨.box 42 5 (.fr 1), .fr 7, none⟩,
 ⟨.box 51 68 (.fr 2), .fr 8, none⟩,
 ⟨.box 57 70 (.fr 3), .fr 9, none⟩,
 ⟨.box 65 5 (.fr 4), .fr 10, none⟩,
 ⟨.mov (.c (.bool false)), .fr 11, none⟩]) <|
 .seq (.seq (.reg [
 ⟨.loadn 6 (.fr 6), .tm, none⟩,
 ⟨.loadn 5 (.fr 10), .tm, none⟩,
 ⟨.callf 43 [(.tm 1), (.tm 0)], .tm, none⟩,
 ⟨.un .not (.tm 0), .tm, none⟩,
 ⟨.mov (.tm 0), .tm, none⟩,
 ⟨.mov (.fr 5), .tm, some ((.tm 0), false)⟩,
 ⟨.len false (.tm 0), .tm, some ((.tm 1), false)⟩,
 ⟨.bin .gtr (.tm 0) (.c (.int .i64 3000)), .tm, some ((.tm 2), false)⟩,
 ⟨.pick (.tm 3) (.c (.bool true)) (.tm 0), .fr 19, none⟩]) <|
 .cond (.fr 19)
 (.seq (.reg [
 ⟨.callf 11 [], .tm, none⟩,
 ⟨.mov (.tm 0), .fr 11, none⟩]) <|
 .ret)
 (.skip)) <|
 .seq (.reg [
 ⟨.loadn 6 (.fr 6), .tm, none⟩,
 ⟨.callf 44 [(.tm 0)], .tm, none⟩,
 ⟨.mov (.tm 0), .fr 12, none⟩]) <|
 .seq (.reg [
 ⟨.mov (.fr 12), .tm, none⟩,
 ⟨.callf 12 [(.tm 0)], .tm, none⟩,
 ⟨.mov (.tm 0), .tm, none⟩,
 ⟨.extract (.tm 0) 0, .tm, none⟩,
 ⟨.extract (.tm 1) 1, .tm, none⟩,
 ⟨.new 30 6 [(.int .u8 0), (.int .i64 0), (.int .u64 0), (.int .u32 0), (.int .u32 0), (.slice none 0 0)], .fr 13, none⟩,
 ⟨.storen 6 (.fr 13) (.tm 1), .no, none⟩,
 ⟨.mov (.tm 0), .fr 14, none⟩]) <|
 .seq (.seq (.dreg [
 (⟨.mov (.fr 12), .tm, none⟩, []),
 (⟨.len false (.tm 0), .tm, none⟩, []),
 (⟨.bin .gtr (.tm 0) (.c (.int .i64 0)), .tm, none⟩, []),
 (⟨.mov (.tm 0), .tm, none⟩, []),
 (⟨.mov (.fr 14), .tm, some ((.tm 0), true)⟩, []),
 (⟨.bin .neq (.tm 0) (.c (.int .i64 0)), .tm, some ((.tm 1), true)⟩, []),
 (⟨.mov (.tm 0), .tm, some ((.tm 2), true)⟩, []),
 (⟨.loadn 6 (.fr 13), .tm, some ((.tm 0), false)⟩, []),
 (⟨.callf 15 [(.tm 0)], .tm, some ((.tm 1), false)⟩, []),
 (⟨.loadn 6 (.fr 6), .tm, some ((.tm 2), false)⟩, [8]),
 (⟨.callf 15 [(.tm 0)], .tm, some ((.tm 3), false)⟩, []),
 (⟨.callf 14 [(.tm 2), (.tm 0)], .tm, some ((.tm 4), false)⟩, []),
 (⟨.un .not (.tm 0), .tm, some ((.tm 5), false)⟩, []),
 (⟨.pick (.tm 6) (.c (.bool true)) (.tm 0), .tm, some ((.tm 9), true)⟩, []),
 (⟨.mov (.tm 0), .tm, some ((.tm 10), true)⟩, []),
 (⟨.mov (.fr 12), .tm, some ((.tm 0), false)⟩, []),
 (⟨.callf 28 [(.tm 0)], .tm, some ((.tm 1), false)⟩, []),
 (⟨.bin .neq (.tm 0) (.c (.int .u8 1)), .tm, some ((.tm 2), false)⟩, []),
 (⟨.pick (.tm 3) (.c (.bool true)) (.tm 0), .tm, some ((.tm 14), true)⟩, []),
 (⟨.pick (.tm 15) (.tm 0) (.c (.bool false)), .fr 20, none⟩, [])]) <|
 .cond (.fr 20)
 (.seq (.reg [
 ⟨.mov (.c (.bool false)), .fr 11, none⟩]) <|
 .ret)
 (.skip)) <|
 .seq (.reg [
 ⟨.loadn 5 (.fr 7), .tm, none⟩,
 ⟨.callf 45 [(.tm 0)], .tm, none⟩,
 ⟨.mov (.tm 0), .fr 12, none⟩]) <|
 .seq (.reg [
 ⟨.mov (.fr 12), .tm, none⟩,
 ⟨.callf 16 [(.tm 0)], .tm, none⟩,
 ⟨.mov (.tm 0), .tm, none⟩,
 ⟨.extract (.tm 0) 0, .tm, none⟩,
 ⟨.extract (.tm 1) 1, .tm, none⟩,
 ⟨.new 42 5 [(.int .u8 0), (.int .i64 0), (.int .i64 0), (.int .u64 0), (.int .u32 0)], .fr 15, none⟩,
 ⟨.storen 5 (.fr 15) (.tm 1), .no, none⟩,
 ⟨.mov (.tm 0), .fr 14, none⟩]) <|
 .seq (.seq (.reg [
 ⟨.mov (.fr 12), .tm, none⟩,
 ⟨.len false (.tm 0), .tm, none⟩,
 ⟨.bin .gtr (.tm 0) (.c (.int .i64 0)), .tm, none⟩,
 ⟨.mov (.tm 0), .tm, none⟩,
 ⟨.mov (.fr 14), .tm, some ((.tm 0), true)⟩,
 ⟨.bin .neq (.tm 0) (.c (.int .i64 0)), .tm, some ((.tm 1), true)⟩,
 ⟨.mov (.tm 0), .tm, some ((.tm 2), true)⟩,
 ⟨.loadn 5 (.fr 15), .tm, some ((.tm 0), false)⟩,
 ⟨.loadn 5 (.fr 7), .tm, some ((.tm 1), false)⟩,
 ⟨.eqs [1, 1, 1, 1, 1] true (.tm 1) (.tm 0), .tm, some ((.tm 2), false)⟩,
 ⟨.pick (.tm 3) (.c (.bool true)) (.tm 0), .tm, some ((.tm 6), true)⟩,
 ⟨.mov (.tm 0), .tm, some ((.tm 7), true)⟩,
 ⟨.mov (.fr 12), .tm, some ((.tm 0), false)⟩,
 ⟨.callf 28 [(.tm 0)], .tm, some ((.tm 1), false)⟩,
 ⟨.bin .neq (.tm 0) (.c (.int .u8 2)), .tm, some ((.tm 2), false)⟩,
 ⟨.pick (.tm 3) (.c (.bool true)) (.tm 0), .tm, some ((.tm 11), true)⟩,
 ⟨.pick (.tm 12) (.tm 0) (.c (.bool false)), .fr 21, none⟩]) <|
 .cond (.fr 21)
 (.seq (.reg [
 ⟨.mov (.c (.bool false)), .fr 11, none⟩]) <|
 .ret)
 (.skip)) <|
 .seq (.reg [
 ⟨.loadn 68 (.fr 8), .tm, none⟩,
 ⟨.callf 46 [(.tm 0)], .tm, none⟩,
 ⟨.mov (.tm 0), .fr 12, none⟩]) <|
 .seq (.reg [
 ⟨.mov (.fr 12), .tm, none⟩,
 ⟨.callf 19 [(.tm 0)], .tm, none⟩,
 ⟨.mov (.tm 0), .tm, none⟩,
 ⟨.extract (.tm 0) 0, .tm, none⟩,
 ⟨.extract (.tm 1) 1, .tm, none⟩,
 ⟨.new 51 68 Z68, .fr 16, none⟩,
 ⟨.storen 68 (.fr 16) (.tm 1), .no, none⟩,
 ⟨.mov (.tm 0), .fr 14, none⟩]) <|
 .seq (.seq (.reg [
 ⟨.mov (.fr 14), .tm, none⟩,
 ⟨.bin .neq (.tm 0) (.c (.int .i64 0)), .tm, none⟩,
 ⟨.mov (.tm 0), .tm, none⟩,
 ⟨.loadn 68 (.fr 16), .tm, some ((.tm 0), false)⟩,
 ⟨.loadn 68 (.fr 8), .tm, some ((.tm 1), false)⟩,
 ⟨.eqs O68 true (.tm 1) (.tm 0), .tm, some ((.tm 2), false)⟩,
 ⟨.pick (.tm 3) (.c (.bool true)) (.tm 0), .tm, none⟩,
 ⟨.mov (.tm 0), .tm, none⟩,
 ⟨.mov (.fr 12), .tm, some ((.tm 0), false)⟩,
 ⟨.callf 28 [(.tm 0)], .tm, some ((.tm 1), false)⟩,
 ⟨.bin .neq (.tm 0) (.c (.int .u8 3)), .tm, some ((.tm 2), false)⟩,
 ⟨.pick (.tm 3) (.c (.bool true)) (.tm 0), .fr 22, none⟩]) <|
 .cond (.fr 22)
 (.seq (.reg [
 ⟨.mov (.c (.bool false)), .fr 11, none⟩]) <|
 .ret)
 (.skip)) <|
 .seq (.reg [
 ⟨.loadn 70 (.fr 9), .tm, none⟩,
 ⟨.callf 47 [(.tm 0)], .tm, none⟩,
 ⟨.mov (.tm 0), .fr 12, none⟩]) <|
 .seq (.reg [
 ⟨.mov (.fr 12), .tm, none⟩,
 ⟨.callf 21 [(.tm 0)], .tm, none⟩,
 ⟨.mov (.tm 0), .tm, none⟩,
 ⟨.extract (.tm 0) 0, .tm, none⟩,
 ⟨.extract (.tm 1) 1, .tm, none⟩,
 ⟨.new 57 70 Z70, .fr 17, none⟩,
 ⟨.storen 70 (.fr 17) (.tm 1), .no, none⟩,
 ⟨.mov (.tm 0), .fr 14, none⟩]) <|
 .seq (.seq (.reg [
 ⟨.mov (.fr 12), .tm, none⟩,
 ⟨.len false (.tm 0), .tm, none⟩,
 ⟨.bin .gtr (.tm 0) (.c (.int .i64 0)), .tm, none⟩,
 ⟨.mov (.tm 0), .tm, none⟩,
 ⟨.mov (.fr 14), .tm, some ((.tm 0), true)⟩,
 ⟨.bin .neq (.tm 0) (.c (.int .i64 0)), .tm, some ((.tm 1), true)⟩,
 ⟨.mov (.tm 0), .tm, some ((.tm 2), true)⟩,
 ⟨.loadn 70 (.fr 17), .tm, some ((.tm 0), false)⟩,
 ⟨.loadn 70 (.fr 9), .tm, some ((.tm 1), false)⟩,
 ⟨.eqs O70 true (.tm 1) (.tm 0), .tm, some ((.tm 2), false)⟩,
 ⟨.pick (.tm 3) (.c (.bool true)) (.tm 0), .tm, some ((.tm 6), true)⟩,
 ⟨.mov (.tm 0), .tm, some ((.tm 7), true)⟩,
 ⟨.mov (.fr 12), .tm, some ((.tm 0), false)⟩,
 ⟨.callf 28 [(.tm 0)], .tm, some ((.tm 1), false)⟩,
 ⟨.bin .neq (.tm 0) (.c (.int .u8 4)), .tm, some ((.tm 2), false)⟩,
 ⟨.pick (.tm 3) (.c (.bool true)) (.tm 0), .tm, some ((.tm 11), true)⟩,
 ⟨.pick (.tm 12) (.tm 0) (.c (.bool false)), .fr 23, none⟩]) <|
 .cond (.fr 23)
 (.seq (.reg [
 ⟨.mov (.c (.bool false)), .fr 11, none⟩]) <|
 .ret)
 (.skip)) <|
 .seq (.reg [
 ⟨.loadn 5 (.fr 10), .tm, none⟩,
 ⟨.callf 36 [(.tm 0)], .tm, none⟩,
 ⟨.mov (.tm 0), .fr 12, none⟩]) <|
 .seq (.reg [
 ⟨.mov (.fr 12), .tm, none⟩,
 ⟨.callf 24 [(.tm 0)], .tm, none⟩,
 ⟨.mov (.tm 0), .tm, none⟩,
 ⟨.extract (.tm 0) 0, .tm, none⟩,
 ⟨.extract (.tm 1) 1, .tm, none⟩,
 ⟨.new 65 5 [(.int .u8 0), (.int .u8 0), (.int .i64 0), (.int .i64 0), (.slice none 0 0)], .fr 18, none⟩,
 ⟨.storen 5 (.fr 18) (.tm 1), .no, none⟩,
 ⟨.mov (.tm 0), .fr 14, none⟩]) <|
 .seq (.seq (.dreg [
 (⟨.mov (.fr 12), .tm, none⟩, []),
 (⟨.len false (.tm 0), .tm, none⟩, []),
 (⟨.bin .gtr (.tm 0) (.c (.int .i64 0)), .tm, none⟩, []),
 (⟨.mov (.tm 0), .tm, none⟩, []),
 (⟨.mov (.fr 14), .tm, some ((.tm 0), true)⟩, []),
 (⟨.bin .neq (.tm 0) (.c (.int .i64 0)), .tm, some ((.tm 1), true)⟩, []),
 (⟨.mov (.tm 0), .tm, some ((.tm 2), true)⟩, []),
 (⟨.loadn 5 (.fr 18), .tm, some ((.tm 0), false)⟩, []),
 (⟨.callf 26 [(.tm 0)], .tm, some ((.tm 1), false)⟩, []),
 (⟨.loadn 5 (.fr 10), .tm, some ((.tm 2), false)⟩, [8]),
 (⟨.callf 26 [(.tm 0)], .tm, some ((.tm 3), false)⟩, []),
 (⟨.eqs [1, 1, 1, 1, 2] true (.tm 2) (.tm 0), .tm, some ((.tm 4), false)⟩, []),
 (⟨.pick (.tm 5) (.c (.bool true)) (.tm 0), .tm, some ((.tm 8), true)⟩, []),
 (⟨.mov (.tm 0), .tm, some ((.tm 9), true)⟩, []),
 (⟨.mov (.fr 12), .tm, some ((.tm 0), false)⟩, []),
 (⟨.callf 28 [(.tm 0)], .tm, some ((.tm 1), false)⟩, []),
 (⟨.bin .neq (.tm 0) (.c (.int .u8 5)), .tm, some ((.tm 2), false)⟩, []),
 (⟨.pick (.tm 3) (.c (.bool true)) (.tm 0), .tm, some ((.tm 13), true)⟩, []),
 (⟨.pick (.tm 14) (.tm 0) (.c (.bool false)), .fr 24, none⟩, [])]) <|
 .cond (.fr 24)
 (.seq (.reg [
 ⟨.mov (.c (.bool false)), .fr 11, none⟩]) <|
 .ret)
 (.skip)) <|
 .seq (.reg [
 ⟨.mov (.fr 5), .tm, none⟩,
 ⟨.callf 53 [(.tm 0)], .tm, none⟩,
 ⟨.mov (.tm 0), .tm, none⟩,
 ⟨.callf 11 [], .tm, some ((.tm 0), true)⟩,
 ⟨.pick (.tm 1) (.tm 0) (.c (.bool false)), .tm, none⟩,
 ⟨.mov (.tm 0), .fr 11, none⟩]) <|
 .ret, [.t 11]⟩
def f11 : AFunc := ⟨[0, 1, 2, 3],
 .seq (.reg [
 ⟨.mov (.c (.bool false)), .fr 0, none⟩]) <|
 .seq (.reg [
 ⟨.build [(.int .u64 0), (.int .u32 0)] [(0, 1, (.c (.int .u64 4))), (1, 1, (.c (.int .u32 5)))], .tm, none⟩,
 ⟨.build [(.int .u8 0), (.int .i64 0), (.int .i64 0), (.int .u64 0), (.int .u32 0)] [(0, 1, (.c (.int .u8 1))), (1, 1, (.c (.int .i64 2))), (2, 1, (.c (.int .i64 3))), (3, 2, (.tm 0))], .tm, none⟩,
 ⟨.callf 45 [(.tm 0)], .tm, none⟩,
 ⟨.mov (.tm 0), .fr 1, none⟩]) <|
 .seq (.reg [
 ⟨.mov (.fr 1), .tm, none⟩,
 ⟨.callf 16 [(.tm 0)], .tm, none⟩,
 ⟨.mov (.tm 0), .tm, none⟩,
 ⟨.extract (.tm 0) 0, .tm, none⟩,
 ⟨.extract (.tm 1) 1, .tm, none⟩,
 ⟨.new 42 5 [(.int .u8 0), (.int .i64 0), (.int .i64 0), (.int .u64 0), (.int .u32 0)], .fr 2, none⟩,
 ⟨.storen 5 (.fr 2) (.tm 1), .no, none⟩,
 ⟨.mov (.tm 0), .fr 3, none⟩]) <|
 .seq (.reg [
 ⟨.mov (.fr 1), .tm, none⟩,
 ⟨.len false (.tm 0), .tm, none⟩,
 ⟨.bin .eql (.tm 0) (.c (.int .i64 34)), .tm, none⟩,
 ⟨.mov (.tm 0), .tm, none⟩,
 ⟨.mov (.fr 3), .tm, some ((.tm 0), true)⟩,
 ⟨.bin .eql (.tm 0) (.c (.int .i64 0)), .tm, some ((.tm 1), true)⟩,
 ⟨.pick (.tm 2) (.tm 0) (.c (.bool false)), .tm, none⟩,
 ⟨.mov (.tm 0), .tm, none⟩,
 ⟨.faddr 2 (.fr 2), .tm, some ((.tm 0), true)⟩,
 ⟨.load1 (.tm 0), .tm, some ((.tm 1), true)⟩,
 ⟨.bin .eql (.tm 0) (.c (.int .i64 3)), .tm, some ((.tm 2), true)⟩,
 ⟨.pick (.tm 3) (.tm 0) (.c (.bool false)), .tm, none⟩,
 ⟨.mov (.tm 0), .tm, none⟩,
 ⟨.faddr 3 (.fr 2), .tm, some ((.tm 0), true)⟩,
 ⟨.faddr 0 (.tm 0), .tm, some ((.tm 1), true)⟩,
 ⟨.load1 (.tm 0), .tm, some ((.tm 2), true)⟩,
 ⟨.bin .eql (.tm 0) (.c (.int .u64 4)), .tm, some ((.tm 3), true)⟩,
 ⟨.pick (.tm 4) (.tm 0) (.c (.bool false)), .tm, none⟩,
 ⟨.mov (.tm 0), .tm, none⟩,
 ⟨.mov (.fr 1), .tm, some ((.tm 0), true)⟩,
 ⟨.callf 28 [(.tm 0)], .tm, some ((.tm 1), true)⟩,
 ⟨.bin .eql (.tm 0) (.c (.int .u8 2)), .tm, some ((.tm 2), true)⟩,
 ⟨.pick (.tm 3) (.tm 0) (.c (.bool false)), .tm, none⟩,
 ⟨.mov (.tm 0), .fr 0, none⟩]) <|
 .ret, [.t 0]⟩
def f15 : AFunc := ⟨[0, 1, 2],
 .seq (.reg [
 ⟨.box 30 6 (.fr 0), .fr 1, none⟩,
 ⟨.new 34 6 [(.int .u8 0), (.int .i64 0), (.int .u64 0), (.int .u32 0), (.int .u32 0), (.slice none 0 0)], .fr 2, none⟩]) <|
 .seq (.reg [
 ⟨.faddr 0 (.fr 1), .tm, none⟩,
 ⟨.load1 (.tm 0), .tm, none⟩,
 ⟨.faddr 1 (.fr 1), .tm, none⟩,
 ⟨.load1 (.tm 0), .tm, none⟩,
 ⟨.faddr 2 (.fr 1), .tm, none⟩,
 ⟨.loadn 4 (.tm 0), .tm, none⟩,
 ⟨.build [(.int .u8 0), (.int .i64 0), (.int .u64 0), (.int .u32 0), (.int .u32 0), (.slice none 0 0)] [(0, 1, (.tm 4)), (1, 1, (.tm 2)), (2, 4, (.tm 0))], .tm, none⟩,
 ⟨.storen 6 (.fr 2) (.tm 0), .no, none⟩]) <|
 .ret, [.cn 6 2]⟩
def f18 : AFunc := ⟨[0, 1, 2],
 .seq (.reg [
 ⟨.box 42 5 (.fr 0), .fr 1, none⟩,
 ⟨.new 45 5 [(.int .u8 0), (.int .i64 0), (.int .i64 0), (.int .u64 0), (.int .u32 0)], .fr 2, none⟩]) <|
 .seq (.reg [
 ⟨.faddr 0 (.fr 1), .tm, none⟩,
 ⟨.load1 (.tm 0), .tm, none⟩,
 ⟨.faddr 1 (.fr 1), .tm, none⟩,
 ⟨.load1 (.tm 0), .tm, none⟩,
 ⟨.faddr 2 (.fr 1), .tm, none⟩,
 ⟨.load1 (.tm 0), .tm, none⟩,
 ⟨.faddr 3 (.fr 1), .tm, none⟩,
 ⟨.loadn 2 (.tm 0), .tm, none⟩,
 ⟨.build [(.int .u8 0), (.int .i64 0), (.int .i64 0), (.int .u64 0), (.int .u32 0)] [(0, 1, (.tm 6)), (1, 1, (.tm 4)), (2, 1, (.tm 2)), (3, 2, (.tm 0))], .tm, none⟩,
 ⟨.storen 5 (.fr 2) (.tm 0), .no, none⟩]) <|
 .ret, [.cn 5 2]⟩
def f23 : AFunc := ⟨[0, 1, 2],
 .seq (.reg [
 ⟨.box 57 70 (.fr 0), .fr 1, none⟩,
 ⟨.new 60 70 Z70, .fr 2, none⟩]) <|
 .seq (.reg [
 ⟨.faddr 0 (.fr 1), .tm, none⟩,
 ⟨.load1 (.tm 0), .tm, none⟩,
 ⟨.faddr 1 (.fr 1), .tm, none⟩,
 ⟨.load1 (.tm 0), .tm, none⟩,
 ⟨.faddr 2 (.fr 1), .tm, none⟩,
 ⟨.loadn 68 (.tm 0), .tm, none⟩,
 ⟨.build Z70 [(0, 1, (.tm 4)), (1, 1, (.tm 2)), (2, 68, (.tm 0))], .tm, none⟩,
 ⟨.storen 70 (.fr 2) (.tm 0), .no, none⟩]) <|
 .ret, [.cn 70 2]⟩
def f26 : AFunc := ⟨[0, 1, 2],
 .seq (.reg [
 ⟨.box 65 5 (.fr 0), .fr 1, none⟩,
 ⟨.new 69 5 [(.int .u8 0), (.int .u8 0), (.int .i64 0), (.int .i64 0), (.string ByteArray.empty)], .fr 2, none⟩]) <|
 .seq (.reg [
 ⟨.faddr 0 (.fr 1), .tm, none⟩,
 ⟨.load1 (.tm 0), .tm, none⟩,
 ⟨.faddr 1 (.fr 1), .tm, none⟩,
 ⟨.load1 (.tm 0), .tm, none⟩,
 ⟨.faddr 2 (.fr 1), .tm, none⟩,
 ⟨.load1 (.tm 0), .tm, none⟩,
 ⟨.faddr 3 (.fr 1), .tm, none⟩,
 ⟨.load1 (.tm 0), .tm, none⟩,
 ⟨.faddr 4 (.fr 1), .tm, none⟩,
 ⟨.load1 (.tm 0), .tm, none⟩,
 ⟨.b2s (.tm 0), .tm, none⟩,
 ⟨.build [(.int .u8 0), (.int .u8 0), (.int .i64 0), (.int .i64 0), (.string ByteArray.empty)] [(0, 1, (.tm 9)), (1, 1, (.tm 7)), (2, 1, (.tm 5)), (3, 1, (.tm 3)), (4, 1, (.tm 0))], .tm, none⟩,
 ⟨.storen 5 (.fr 2) (.tm 0), .no, none⟩]) <|
 .ret, [.cn 5 2]⟩
def f27 : AFunc := ⟨[0, 1, 2, 3, 4, 10, 11, 12, 22, 36],
 .seq (.reg [
 ⟨.mov (.c (.bool false)), .fr 5, none⟩]) <|
 .seq (.reg [
 ⟨.mov (.fr 0), .tm, none⟩,
 ⟨.mov (.fr 1), .tm, none⟩,
 ⟨.mov (.fr 2), .tm, none⟩,
 ⟨.mov (.fr 3), .tm, none⟩,
 ⟨.mov (.fr 4), .tm, none⟩,
 ⟨.bslice 31 1 5 [(.int .i64 0), (.int .i64 0), (.int .i64 0), (.int .i64 0), (.int .i64 0)] [(0, 1, (.tm 4)), (1, 1, (.tm 3)), (2, 1, (.tm 2)), (3, 1, (.tm 1)), (4, 1, (.tm 0))], .tm, none⟩,
 ⟨.mov (.tm 0), .fr 6, none⟩]) <|
 .seq (.seq (.reg [
 ⟨.mov (.c (.int .i64 0)), .fr 7, none⟩]) <|
 .block 0 (.loop (.seq (.seq (.reg [
 ⟨.mov (.fr 7), .tm, none⟩,
 ⟨.mov (.fr 6), .tm, none⟩,
 ⟨.len false (.tm 0), .tm, none⟩,
 ⟨.bin .lss (.tm 2) (.tm 0), .fr 8, none⟩]) <|
 .cond (.fr 8)
 (.skip)
 (.exit 0)) <|
 .seq (.block 1 (.seq (.reg [
 ⟨.mov (.fr 6), .tm, none⟩,
 ⟨.mov (.fr 7), .tm, none⟩,
 ⟨.iaddr 1 (.tm 1) (.tm 0), .tm, none⟩,
 ⟨.load1 (.tm 0), .tm, none⟩,
 ⟨.bin .neq (.tm 0) (.c (.int .i64 0)), .tm, none⟩,
 ⟨.mov (.tm 0), .tm, none⟩,
 ⟨.mov (.fr 6), .tm, some ((.tm 0), true)⟩,
 ⟨.mov (.fr 7), .tm, some ((.tm 1), true)⟩,
 ⟨.iaddr 1 (.tm 1) (.tm 0), .tm, some ((.tm 2), true)⟩,
 ⟨.load1 (.tm 0), .tm, some ((.tm 3), true)⟩,
 ⟨.bin .neq (.tm 0) (.c (.int .i64 130)), .tm, some ((.tm 4), true)⟩,
 ⟨.pick (.tm 5) (.tm 0) (.c (.bool false)), .fr 9, none⟩]) <|
 .cond (.fr 9)
 (.seq (.reg [
 ⟨.mov (.c (.bool false)), .fr 5, none⟩]) <|
 .ret)
 (.skip))) <|
 .reg [
 ⟨.mov (.fr 7), .tm, none⟩,
 ⟨.bin .add (.tm 0) (.c (.int .i64 1)), .tm, none⟩,
 ⟨.mov (.tm 0), .fr 7, none⟩]))) <|
 .seq (.reg [
 ⟨.mov (.c (.bool true)), .fr 5, none⟩]) <|
 .ret, [.t 5]⟩
def f43 : AFunc := ⟨[0, 1, 2, 3, 4],
 .seq (.reg [
 ⟨.box 30 6 (.fr 0), .fr 2, none⟩,
 ⟨.box 65 5 (.fr 1), .fr 3, none⟩,
 ⟨.mov (.c (.bool false)), .fr 4, none⟩]) <|
 .seq (.reg [
 ⟨.faddr 2 (.fr 2), .tm, none⟩,
 ⟨.faddr 3 (.tm 0), .tm, none⟩,
 ⟨.load1 (.tm 0), .tm, none⟩,
 ⟨.len false (.tm 0), .tm, none⟩,
 ⟨.bin .leq (.tm 0) (.c (.int .i64 1000)), .tm, none⟩,
 ⟨.mov (.tm 0), .tm, none⟩,
 ⟨.faddr 4 (.fr 3), .tm, some ((.tm 0), true)⟩,
 ⟨.load1 (.tm 0), .tm, some ((.tm 1), true)⟩,
 ⟨.len false (.tm 0), .tm, some ((.tm 2), true)⟩,
 ⟨.bin .leq (.tm 0) (.c (.int .i64 5000)), .tm, some ((.tm 3), true)⟩,
 ⟨.pick (.tm 4) (.tm 0) (.c (.bool false)), .tm, none⟩,
 ⟨.mov (.tm 0), .fr 4, none⟩]) <|
 .ret, [.t 4]⟩
def f53 : AFunc := ⟨[0, 2, 3, 5, 7, 9, 11, 13, 40, 43, 45, 49, 53, 57],
 .seq (.reg [
 ⟨.mov (.c (.bool false)), .fr 1, none⟩]) <|
 .seq (.reg [
 ⟨.mov (.fr 0), .tm, none⟩,
 ⟨.callf 12 [(.tm 0)], .tm, none⟩,
 ⟨.mov (.tm 0), .tm, none⟩,
 ⟨.extract (.tm 0) 0, .tm, none⟩,
 ⟨.extract (.tm 1) 1, .tm, none⟩,
 ⟨.new 30 6 [(.int .u8 0), (.int .i64 0), (.int .u64 0), (.int .u32 0), (.int .u32 0), (.slice none 0 0)], .fr 2, none⟩,
 ⟨.storen 6 (.fr 2) (.tm 1), .no, none⟩,
 ⟨.mov (.tm 0), .tm, none⟩]) <|
 .seq (.reg [
 ⟨.mov (.fr 0), .tm, none⟩,
 ⟨.callf 16 [(.tm 0)], .tm, none⟩,
 ⟨.mov (.tm 0), .tm, none⟩,
 ⟨.extract (.tm 0) 0, .tm, none⟩,
 ⟨.extract (.tm 1) 1, .tm, none⟩,
 ⟨.new 42 5 [(.int .u8 0), (.int .i64 0), (.int .i64 0), (.int .u64 0), (.int .u32 0)], .fr 3, none⟩,
 ⟨.storen 5 (.fr 3) (.tm 1), .no, none⟩,
 ⟨.mov (.tm 0), .tm, none⟩]) <|
 .seq (.reg [
 ⟨.mov (.fr 0), .tm, none⟩,
 ⟨.callf 19 [(.tm 0)], .tm, none⟩,
 ⟨.mov (.tm 0), .tm, none⟩,
 ⟨.extract (.tm 0) 0, .tm, none⟩,
 ⟨.extract (.tm 1) 1, .tm, none⟩,
 ⟨.new 51 68 Z68, .fr 4, none⟩,
 ⟨.storen 68 (.fr 4) (.tm 1), .no, none⟩,
 ⟨.mov (.tm 0), .tm, none⟩]) <|
 .seq (.reg [
 ⟨.mov (.fr 0), .tm, none⟩,
 ⟨.callf 21 [(.tm 0)], .tm, none⟩,
 ⟨.mov (.tm 0), .tm, none⟩,
 ⟨.extract (.tm 0) 0, .tm, none⟩,
 ⟨.extract (.tm 1) 1, .tm, none⟩,
 ⟨.new 57 70 Z70, .fr 5, none⟩,
 ⟨.storen 70 (.fr 5) (.tm 1), .no, none⟩,
 ⟨.mov (.tm 0), .tm, none⟩]) <|
 .seq (.reg [
 ⟨.mov (.fr 0), .tm, none⟩,
 ⟨.callf 24 [(.tm 0)], .tm, none⟩,
 ⟨.mov (.tm 0), .tm, none⟩,
 ⟨.extract (.tm 0) 0, .tm, none⟩,
 ⟨.extract (.tm 1) 1, .tm, none⟩,
 ⟨.new 65 5 [(.int .u8 0), (.int .u8 0), (.int .i64 0), (.int .i64 0), (.slice none 0 0)], .fr 6, none⟩,
 ⟨.storen 5 (.fr 6) (.tm 1), .no, none⟩,
 ⟨.mov (.tm 0), .tm, none⟩]) <|
 .seq (.reg [
 ⟨.mov (.c (.slice none 0 0)), .fr 7, none⟩]) <|
 .seq (.seq (.reg [
 ⟨.mov (.fr 0), .tm, none⟩,
 ⟨.callf 28 [(.tm 0)], .fr 8, none⟩]) <|
 .block 0 (.seq (.reg [
 ⟨.bin .eql (.fr 8) (.c (.int .u8 0)), .tm, none⟩,
 ⟨.mov (.tm 0), .fr 9, none⟩]) <|
 .cond (.fr 9)
 (.seq (.reg [
 ⟨.mov (.c (.bool true)), .fr 1, none⟩]) <|
 .ret)
 (.seq (.reg [
 ⟨.bin .eql (.fr 8) (.c (.int .u8 1)), .tm, none⟩,
 ⟨.mov (.tm 0), .fr 10, none⟩]) <|
 .cond (.fr 10)
 (.reg [
 ⟨.loadn 6 (.fr 2), .tm, none⟩,
 ⟨.callf 44 [(.tm 0)], .tm, none⟩,
 ⟨.mov (.tm 0), .fr 7, none⟩])
 (.seq (.reg [
 ⟨.bin .eql (.fr 8) (.c (.int .u8 2)), .tm, none⟩,
 ⟨.mov (.tm 0), .fr 11, none⟩]) <|
 .cond (.fr 11)
 (.reg [
 ⟨.loadn 5 (.fr 3), .tm, none⟩,
 ⟨.callf 45 [(.tm 0)], .tm, none⟩,
 ⟨.mov (.tm 0), .fr 7, none⟩])
 (.seq (.reg [
 ⟨.bin .eql (.fr 8) (.c (.int .u8 3)), .tm, none⟩,
 ⟨.mov (.tm 0), .fr 12, none⟩]) <|
 .cond (.fr 12)
 (.reg [
 ⟨.loadn 68 (.fr 4), .tm, none⟩,
 ⟨.callf 46 [(.tm 0)], .tm, none⟩,
 ⟨.mov (.tm 0), .fr 7, none⟩])
 (.seq (.reg [
 ⟨.bin .eql (.fr 8) (.c (.int .u8 4)), .tm, none⟩,
 ⟨.mov (.tm 0), .fr 13, none⟩]) <|
 .cond (.fr 13)
 (.reg [
 ⟨.loadn 70 (.fr 5), .tm, none⟩,
 ⟨.callf 47 [(.tm 0)], .tm, none⟩,
 ⟨.mov (.tm 0), .fr 7, none⟩])
 (.reg [
 ⟨.loadn 5 (.fr 6), .tm, none⟩,
 ⟨.callf 36 [(.tm 0)], .tm, none⟩,
 ⟨.mov (.tm 0), .fr 7, none⟩]))))))) <|
 .seq (.reg [
 ⟨.mov (.fr 7), .tm, none⟩,
 ⟨.b2s (.tm 0), .tm, none⟩,
 ⟨.mov (.fr 0), .tm, none⟩,
 ⟨.b2s (.tm 0), .tm, none⟩,
 ⟨.bin .eql (.tm 2) (.tm 0), .tm, none⟩,
 ⟨.mov (.tm 0), .fr 1, none⟩]) <|
 .ret, [.t 1]⟩
theorem f3_ok : compF Go.Proofs.Try.prog 0 [0, 2, 3, 4, 5, 6, 7, 8, 9, 10, 11, 12, 13, 14, 15, 16, 17, 18, 19, 20, 21, 22, 23, 24, 25, 26, 27, 28, 29, 32, 140] 3 = some f3 := by kernel_rfl
theorem f3_n : argsOK Go.Proofs.Try.prog 3 1 = true := by kernel_rfl
theorem f5_ok : compF Go.Proofs.Try.prog 0 [0, 1, 2, 3, 4, 5, 6, 7, 8, 9, 10, 11, 12, 13, 14, 15, 16, 20, 23, 55, 69, 73] 5 = some f5 := by kernel_rfl
theorem f5_n : argsOK Go.Proofs.Try.prog 5 5 = true := by kernel_rfl
theorem f6_ok : compF Go.Proofs.Try.prog 0 [0, 1, 2, 3, 4, 5, 6, 7, 8, 9, 10, 12, 13, 14, 15, 16, 17, 18, 19, 28, 56, 80, 99, 123, 149] 6 = some f6 := by kernel_rfl
theorem f6_n : argsOK Go.Proofs.Try.prog 6 6 = true := by kernel_rfl
theorem f11_ok : compF Go.Proofs.Try.prog 0 [0, 1, 2, 3] 11 = some f11 := by kernel_rfl
theorem f11_n : argsOK Go.Proofs.Try.prog 11 0 = true := by kernel_rfl
theorem f15_ok : compF Go.Proofs.Try.prog 0 [0, 1, 2] 15 = some f15 := by kernel_rfl
theorem f15_n : argsOK Go.Proofs.Try.prog 15 1 = true := by kernel_rfl
theorem f18_ok : compF Go.Proofs.Try.prog 0 [0, 1, 2] 18 = some f18 := by kernel_rfl
theorem f18_n : argsOK Go.Proofs.Try.prog 18 1 = true := by kernel_rfl
theorem f23_ok : compF Go.Proofs.Try.prog 0 [0, 1, 2] 23 = some f23 := by kernel_rfl
theorem f23_n : argsOK Go.Proofs.Try.prog 23 1 = true := by kernel_rfl
theorem f26_ok : compF Go.Proofs.Try.prog 0 [0, 1, 2] 26 = some f26 := by kernel_rfl
theorem f26_n : argsOK Go.Proofs.Try.prog 26 1 = true := by kernel_rfl
theorem f27_ok : compF Go.Proofs.Try.prog 0 [0, 1, 2, 3, 4, 10, 11, 12, 22, 36] 27 = some f27 := by kernel_rfl
theorem f27_n : argsOK Go.Proofs.Try.prog 27 5 = true := by kernel_rfl
theorem f43_ok : compF Go.Proofs.Try.prog 0 [0, 1, 2, 3, 4] 43 = some f43 := by kernel_rfl
theorem f43_n : argsOK Go.Proofs.Try.prog 43 2 = true := by kernel_rfl
theorem f53_ok : compF Go.Proofs.Try.prog 0 [0, 2, 3, 5, 7, 9, 11, 13, 40, 43, 45, 49, 53, 57] 53 = some f53 := by kernel_rfl
theorem f53_n : argsOK Go.Proofs.Try.prog 53 1 = true := by kernel_rfl
end Go.AM.F
