/- Part of the proof. -/
import Derived.Test.YtfneppahknoaoaaDoorGParses03
set_option linter.unusedSimpArgs false
set_option linter.unusedVariables false
set_option linter.unusedSimpArgs false
set_option linter.unusedVariables false
namespace Go.AM.Fd
open Nat (reduceAdd reduceEqDiff reduceLT reduceLeDiff reduceMul reduceSub)
open Go.Proofs Go.AM.F
abbrev MB := List (List UInt8 × (Nat × Int))
def mval (x : Nat × Int) : Value := .iface x.1 (.int .i64 x.2)
def mbs (M : MB) : List (List UInt8 × Value) := M.map fun p => (p.1, mval p.2)
def bfind (n : List UInt8) : MB → Option (Nat × Int)
  | [] => none
  | (a, v) :: l => if n = a then some v else bfind n l
theorem mfind_mbs (n : List UInt8) : ∀ M : MB, mfind n (mbs M) = (bfind n M).map mval
  | [] => rfl
  | (a, v) :: l => by
    have ih := mfind_mbs n l
    simp only [mbs] at ih
    simp only [mbs, List.map_cons, mfind, bfind]
    split
    · rfl
    · exact ih
def kOf (t : Nat) (M : MB) (n : List UInt8) : Option Int := match bfind n M with
  | some (u, i) => if u = t then some i else none
  | none => none
def kAll (t : Nat) (M : MB) : List (List UInt8) → Option (List Int)
  | [] => some []
  | n :: l => match kOf t M n with
    | some i => (kAll t M l).map (i :: ·)
    | none => none
theorem kAll_snoc (t : Nat) (M : MB) (n : List UInt8) : ∀ (a : List (List UInt8)), kAll t M (a ++ [n]) = match kAll t M a, kOf t M n with
    | some l, some i => some (l ++ [i])
    | _, _ => none
  | [] => by simp only [List.nil_append, kAll]; cases kOf t M n <;> rfl
  | x :: a => by
    simp only [List.cons_append, kAll, kAll_snoc t M n a]
    cases kOf t M x with
    | none => cases kOf t M n <;> rfl
    | some i => cases kAll t M a <;> cases kOf t M n <;> rfl
theorem kAll_stop {t : Nat} {M : MB} {n : List UInt8} (h : kOf t M n = none) : ∀ {l : List (List UInt8)}, n ∈ l → kAll t M l = none
  | x :: l, hm => by
    simp only [kAll]
    rcases List.mem_cons.1 hm with rfl | hm
    · rw [h]
    · rw [kAll_stop h hm]; cases kOf t M x <;> rfl
theorem a_mgetN {K : AHeap} {mb : Nat} {M : MB} (hm : MP sEnc K mb (mbs M)) (n : List UInt8) : asem (.mget .string .nilIface false (.map (some mb)) (.string ⟨n.toArray⟩)) K = some (((bfind n M).map mval).getD .nilIface, K) := by
  have := a_mget sEnc_e hm n .nilIface false
  rw [mfind_mbs] at this
  simp only [sEnc] at this
  rw [this]
  cases bfind n M <;> rfl
theorem a_assertN {K : AHeap} (t : Nat) (n : List UInt8) (M : MB) : asem (.assert t (.int .i64 0) true (((bfind n M).map mval).getD .nilIface)) K = some (.tuple #[.int .i64 ((kOf t M n).getD 0), .bool (kOf t M n).isSome], K) := by
  unfold kOf
  cases bfind n M with
  | none => rfl
  | some x =>
    obtain ⟨u, i⟩ := x
    simp only [Option.map_some, Option.getD_some, mval, asem]
    by_cases h : u = t <;> simp [h]
def sufB (s l : List UInt8) : Bool := decide (s.length ≤ l.length) && decide (l.drop (l.length - s.length) = s)
theorem t91 (H : AHeap) (l s : List UInt8) (hl : l.length ≤ 1000000000) (hs : s.length ≤ 1000000000) : ∃ w H', ARun Go.Proofs.Tryd.prog 4 91 [.string ⟨l.toArray⟩, .string ⟨s.toArray⟩] H w H' ∧ w = .bool (sufB s l) ∧ H' = H := by
  refine walk2 f91_ok f91_n ?_
  intro Q hq1 hq2
  by_cases h : s.length ≤ l.length
  · have h1 : ((s.length : Nat) : Int) ≤ ((l.length : Nat) : Int) := by omega
    have hw : IntKind.i64.wrap (((l.length : Nat) : Int) - ((s.length : Nat) : Int)) = ((l.length - s.length : Nat) : Int) := by rw [wrap_i64 (by omega) (by omega)]; omega
    have hc : asem (.slstr (.string ⟨l.toArray⟩) (some (.int .i64 ((l.length - s.length : Nat) : Int))) none) H = some (.string ⟨(l.drop (l.length - s.length)).toArray⟩, H) := a_slsT (by omega)
    simp (disch := first | assumption | omega | (simp only [LN] <;> omega) | (simp (disch := first | assumption | omega | (simp only [LN] <;> omega)) only [row_alloc, row_set]; assumption)) only [f91, W_block, P3, ↓reduceIte, reduceAdd, reduceEqDiff, reduceCtorEq, initFr, reduceLT, clsA, reduceLeDiff, reduceMul, reduceSub, reduceIte, a_lens, hw, hc, b_eqS]
    exact hq2 _ _ ⟨_, rfl, by simp [tupV, sufB, h], rfl⟩
  · have h1 : ¬ ((s.length : Nat) : Int) ≤ ((l.length : Nat) : Int) := by omega
    simp (disch := first | assumption | omega | (simp only [LN] <;> omega) | (simp (disch := first | assumption | omega | (simp only [LN] <;> omega)) only [row_alloc, row_set]; assumption)) only [f91, W_block, P3, ↓reduceIte, reduceAdd, reduceEqDiff, reduceCtorEq, initFr, reduceLT, clsA, reduceLeDiff, reduceMul, reduceSub, reduceIte, a_lens]
    exact hq2 _ _ ⟨_, rfl, by simp [tupV, sufB, h], rfl⟩
theorem t82 (H : AHeap) (l s : List UInt8) (hl : l.length ≤ 1000000000) (hs : s.length ≤ 1000000000) : ∃ w H', ARun Go.Proofs.Tryd.prog 4 82 [.string ⟨l.toArray⟩, .string ⟨s.toArray⟩] H w H' ∧ w = .bool (sufB s l) ∧ H' = H := by
  refine walk2 f82_ok f82_n ?_
  intro Q hq1 hq2
  simp (disch := first | assumption | omega | (simp only [LN] <;> omega) | (simp (disch := first | assumption | omega | (simp only [LN] <;> omega)) only [row_alloc, row_set]; assumption)) only [f82, W_block, P3, ↓reduceIte, reduceAdd, reduceEqDiff, reduceCtorEq, initFr, reduceLT, clsA, reduceLeDiff, reduceMul, reduceSub, reduceIte]
  refine callK (t91 H l s hl hs) ?_
  rintro _ _ ⟨rfl, rfl⟩
  simp (disch := first | assumption | omega | (simp only [LN] <;> omega) | (simp (disch := first | assumption | omega | (simp only [LN] <;> omega)) only [row_alloc, row_set]; assumption)) only [W_block, P3, ↓reduceIte, reduceAdd, reduceEqDiff, reduceCtorEq, initFr, reduceLT, clsA, reduceLeDiff, reduceMul, reduceSub, reduceIte]
  exact hq2 _ _ ⟨_, rfl, rfl, rfl⟩
theorem t64 {H : AHeap} {b mb T : Nat} {own room : Bool} {c : List Value} {M : MB} {v : Value} {ws : List (List UInt8)} (hb : H.get b = some (.cells own room 5 c T)) (hc : c[4]? = some (.map (some mb))) (hm : MP sEnc H mb (mbs M)) (h : TL H v ws) (hl : ws.length ≤ 1000000000) :
    ∃ w H', ARun Go.Proofs.Tryd.prog 4 64 [ptr b 0, v] H w H' ∧ Keeps H H' ∧ ∃ x, w = .tuple #[x, .bool (kAll 62 M ws).isSome] ∧ OW 3 1 H H' x (((kAll 62 M ws).getD []).map iRow) := by
  refine walk2 f64_ok f64_n ?_
  intro Q hq1 hq2
  have ia := Sl.is h
  have la := h.len
  simp (disch := first | assumption | omega | (simp only [LN] <;> omega) | (simp (disch := first | assumption | omega | (simp only [LN] <;> omega)) only [row_alloc, row_set]; assumption)) only [ f64, P3, ↓reduceIte, reduceAdd, reduceEqDiff, reduceCtorEq, initFr, reduceLT, clsA, reduceLeDiff, reduceMul, reduceSub, reduceIte, la]
  rw [W_block]
  refine W_loop2 (fun k fr K => ∃ i s l x5 x6 x7 x11 x12, fr = [ptr b 0, v, .slice none 0 0, .bool false, s, x5, x6, x7, v, .int .i64 ((ws.length : Nat) : Int), .int .i64 ((i : Nat) : Int), x11, x12] ∧ OW 3 1 H K s (l.map iRow) ∧ kAll 62 M (ws.take i) = some l ∧ l.length = i ∧ i ≤ ws.length ∧ k = ws.length - i) ws.length
    ⟨0, _, [], _, _, _, _, _, rfl, OW.nil _ _ (Keeps.refl H), by simp [kAll], rfl, by omega, rfl⟩ ?_
  rintro Q' k fr K ⟨i, s, l, x5, x6, x7, x11, x12, rfl, ho, hp, hll, hi, rfl⟩ hn hx hret
  by_cases hlt : i < ws.length
  · obtain ⟨na, ra⟩ := (h.keeps ho.k).at_ hlt
    have h0 : (0 : Int) ≤ (i : Int) := by omega
    have h1 : (i : Int) < ((lenS v : Nat) : Int) := by omega
    have h3 : (i : Int) < ((ws.length : Nat) : Int) := by omega
    have hw : IntKind.i64.wrap ((i : Int) + 1) = ((i + 1 : Nat) : Int) := by rw [wrap_i64 (by omega) (by omega)]; simp
    have gb := ho.k.at_ hb
    have gm := a_mgetN (hm.get (ho.k.get _ hm.lt)) (ws.getD i [])
    have ga := a_assertN (K := K) 62 (ws.getD i []) M
    have ts := kAll_snoc 62 M (ws.getD i []) (ws.take i)
    rw [← take_snoc [] hlt, hp] at ts
    have stop := fun e => kAll_stop (t := 62) (M := M) (n := ws.getD i []) e (l := ws) (getD_mem hlt)
    unfold tRow at ra
    generalize ws.getD i [] = n at *
    cases hk : kOf 62 M n with
    | none =>
      rw [hk] at ga
      simp only [Option.getD_none, Option.isSome_none] at ga
      simp (disch := first | assumption | omega | (simp only [LN] <;> omega) | (simp (disch := first | assumption | omega | (simp only [LN] <;> omega)) only [row_alloc, row_set]; assumption)) only [W_block, P3, ↓reduceIte, reduceAdd, reduceEqDiff, reduceCtorEq, initFr, reduceLT, clsA, reduceLeDiff, reduceMul, reduceSub, reduceIte, la, ra, na, a_load1v, gb, hc, st_mget, gm, ga]
      refine hret _ _ (hq2 _ _ ⟨_, rfl, ho.k, .slice none 0 0, ?_, ?_⟩)
      · rw [stop hk]; rfl
      · rw [stop hk]; exact OW.nil _ _ ho.k
    | some j =>
      rw [hk] at ga ts
      simp only [Option.getD_some, Option.isSome_some] at ga
      simp (disch := first | assumption | omega | (simp only [LN] <;> omega) | (simp (disch := first | assumption | omega | (simp only [LN] <;> omega)) only [row_alloc, row_set]; assumption)) only [W_block, P3, ↓reduceIte, reduceAdd, reduceEqDiff, reduceCtorEq, initFr, reduceLT, clsA, reduceLeDiff, reduceMul, reduceSub, reduceIte, la, ra, na, a_load1v, gb, hc, st_mget, gm, ga]
      have ho2 := ho.keeps ((Keeps.refl K).alloc (.cells true false 1 [.int .i64 j] 3))
      refine ho2.appR (b := 8) (Sl.one1 rfl rfl) (by simp only [List.length_map, List.length_cons, List.length_nil]; omega) ?_
      intro v' K' ho3 _
      simp (disch := first | assumption | omega | (simp only [LN] <;> omega) | (simp (disch := first | assumption | omega | (simp only [LN] <;> omega)) only [row_alloc, row_set]; assumption)) only [W_block, P3, ↓reduceIte, reduceAdd, reduceEqDiff, reduceCtorEq, initFr, reduceLT, clsA, reduceLeDiff, reduceMul, reduceSub, reduceIte, hw]
      refine hn _ _ _ ⟨i + 1, _, l ++ [j], _, _, _, _, _, rfl, ?_, ts, by simp [hll], by omega, rfl⟩ (by omega)
      simpa [iRow] using ho3
  · have h3 : ¬ (i : Int) < ((ws.length : Nat) : Int) := by omega
    simp (disch := first | assumption | omega | (simp only [LN] <;> omega) | (simp (disch := first | assumption | omega | (simp only [LN] <;> omega)) only [row_alloc, row_set]; assumption)) only [W_block, P3, ↓reduceIte, reduceAdd, reduceEqDiff, reduceCtorEq, initFr, reduceLT, clsA, reduceLeDiff, reduceMul, reduceSub, reduceIte, la]
    refine hx 0 _ _ ?_
    simp (disch := first | assumption | omega | (simp only [LN] <;> omega) | (simp (disch := first | assumption | omega | (simp only [LN] <;> omega)) only [row_alloc, row_set]; assumption)) only [W_block, P3, ↓reduceIte, reduceAdd, reduceEqDiff, reduceCtorEq, initFr, reduceLT, clsA, reduceLeDiff, reduceMul, reduceSub, reduceIte]
    rw [List.take_of_length_le (by omega)] at hp
    refine hq2 _ _ ⟨_, rfl, ho.k, s, ?_, ?_⟩
    · rw [hp]; rfl
    · rw [hp]; exact ho
end Go.AM.Fd

set_option linter.unusedSimpArgs false
set_option linter.unusedVariables false
namespace Go.AM.Fd
open Nat (reduceAdd reduceEqDiff reduceLT reduceLeDiff reduceMul reduceSub)
open Go.Proofs Go.AM.F
def shpB (w : List UInt8) : Bool := decide (2 ≤ w.length) && (sufB [43] w || sufB [45] w)
theorem t63 {H : AHeap} {v : Value} {ws : List (List UInt8)} (h : TL H v ws) (hl : ws.length ≤ 1000000000) (hw : ∀ w ∈ ws, w.length ≤ 1000000000) : ∃ w H', ARun Go.Proofs.Tryd.prog 4 63 [v] H w H' ∧ w = .bool (ws.all shpB) ∧ H' = H := by
  refine walk2 f63_ok f63_n ?_
  intro Q hq1 hq2
  have ia := Sl.is h
  have la := h.len
  simp (disch := first | assumption | omega | (simp only [LN] <;> omega) | (simp (disch := first | assumption | omega | (simp only [LN] <;> omega)) only [row_alloc, row_set]; assumption)) only [ f63, P3, ↓reduceIte, reduceAdd, reduceEqDiff, reduceCtorEq, initFr, reduceLT, clsA, reduceLeDiff, reduceMul, reduceSub, reduceIte, la]
  rw [W_block]
  refine W_loop2 (fun k fr K => ∃ i x2 x6 x7, fr = [v, .bool false, x2, v, .int .i64 ((ws.length : Nat) : Int), .int .i64 ((i : Nat) : Int), x6, x7] ∧ K = H ∧ i ≤ ws.length ∧ (ws.take i).all shpB = true ∧ k = ws.length - i) ws.length
    ⟨0, _, _, _, rfl, rfl, by omega, by simp, rfl⟩ ?_
  rintro Q' k fr _ ⟨i, x2, x6, x7, rfl, rfl, hi, hp, rfl⟩ hn hx hret
  by_cases hlt : i < ws.length
  · obtain ⟨na, ra⟩ := h.at_ hlt
    have h0 : (0 : Int) ≤ (i : Int) := by omega
    have h1 : (i : Int) < ((lenS v : Nat) : Int) := by omega
    have h3 : (i : Int) < ((ws.length : Nat) : Int) := by omega
    have hwr : IntKind.i64.wrap ((i : Int) + 1) = ((i + 1 : Nat) : Int) := by rw [wrap_i64 (by omega) (by omega)]; simp
    have hlen := hw _ (getD_mem (d := []) hlt)
    have stop := fun e => all_not (p := shpB) (d := []) hlt e
    have go := fun e => all_take (p := shpB) (d := []) hlt hp e
    unfold tRow at ra
    generalize ws.getD i [] = n at *
    by_cases h2 : n.length < 2
    · have h2' : ((n.length : Nat) : Int) < (2 : Int) := by omega
      simp (disch := first | assumption | omega | (simp only [LN] <;> omega) | (simp (disch := first | assumption | omega | (simp only [LN] <;> omega)) only [row_alloc, row_set]; assumption)) only [W_block, P3, ↓reduceIte, reduceAdd, reduceEqDiff, reduceCtorEq, initFr, reduceLT, clsA, reduceLeDiff, reduceMul, reduceSub, reduceIte, la, ra, na, a_load1v, a_lens]
      refine hret _ _ (hq2 _ _ ⟨_, rfl, ?_, rfl⟩)
      have : ¬ 2 ≤ n.length := by omega
      rw [stop (by simp [shpB, this])]; rfl
    · have h2' : ¬ ((n.length : Nat) : Int) < (2 : Int) := by omega
      have h2n : 2 ≤ n.length := by omega
      simp (disch := first | assumption | omega | (simp only [LN] <;> omega) | (simp (disch := first | assumption | omega | (simp only [LN] <;> omega)) only [row_alloc, row_set]; assumption)) only [W_block, P3, ↓reduceIte, reduceAdd, reduceEqDiff, reduceCtorEq, initFr, reduceLT, clsA, reduceLeDiff, reduceMul, reduceSub, reduceIte, la, ra, na, a_load1v, a_lens]
      refine callK (t82 _ n [43] hlen (by simp)) ?_
      rintro _ _ ⟨rfl, rfl⟩
      cases hs : sufB [43] n with
      | true =>
        simp (disch := first | assumption | omega | (simp only [LN] <;> omega) | (simp (disch := first | assumption | omega | (simp only [LN] <;> omega)) only [row_alloc, row_set]; assumption)) only [W_block, P3, ↓reduceIte, reduceAdd, reduceEqDiff, reduceCtorEq, initFr, reduceLT, clsA, reduceLeDiff, reduceMul, reduceSub, reduceIte, hwr]
        exact hn _ _ _ ⟨i + 1, _, _, _, rfl, rfl, by omega, go (by simp [shpB, h2n, hs]), rfl⟩ (by omega)
      | false =>
        simp (disch := first | assumption | omega | (simp only [LN] <;> omega) | (simp (disch := first | assumption | omega | (simp only [LN] <;> omega)) only [row_alloc, row_set]; assumption)) only [W_block, P3, ↓reduceIte, reduceAdd, reduceEqDiff, reduceCtorEq, initFr, reduceLT, clsA, reduceLeDiff, reduceMul, reduceSub, reduceIte]
        refine callK (t82 _ n [45] hlen (by simp)) ?_
        rintro _ _ ⟨rfl, rfl⟩
        cases hs2 : sufB [45] n with
        | true =>
          simp (disch := first | assumption | omega | (simp only [LN] <;> omega) | (simp (disch := first | assumption | omega | (simp only [LN] <;> omega)) only [row_alloc, row_set]; assumption)) only [W_block, P3, ↓reduceIte, reduceAdd, reduceEqDiff, reduceCtorEq, initFr, reduceLT, clsA, reduceLeDiff, reduceMul, reduceSub, reduceIte, hwr]
          exact hn _ _ _ ⟨i + 1, _, _, _, rfl, rfl, by omega, go (by simp [shpB, h2n, hs2]), rfl⟩ (by omega)
        | false =>
          simp (disch := first | assumption | omega | (simp only [LN] <;> omega) | (simp (disch := first | assumption | omega | (simp only [LN] <;> omega)) only [row_alloc, row_set]; assumption)) only [W_block, P3, ↓reduceIte, reduceAdd, reduceEqDiff, reduceCtorEq, initFr, reduceLT, clsA, reduceLeDiff, reduceMul, reduceSub, reduceIte]
          refine hret _ _ (hq2 _ _ ⟨_, rfl, ?_, rfl⟩)
          rw [stop (by simp [shpB, hs, hs2])]; rfl
  · have h3 : ¬ (i : Int) < ((ws.length : Nat) : Int) := by omega
    simp (disch := first | assumption | omega | (simp only [LN] <;> omega) | (simp (disch := first | assumption | omega | (simp only [LN] <;> omega)) only [row_alloc, row_set]; assumption)) only [W_block, P3, ↓reduceIte, reduceAdd, reduceEqDiff, reduceCtorEq, initFr, reduceLT, clsA, reduceLeDiff, reduceMul, reduceSub, reduceIte, la]
    refine hx 0 _ _ ?_
    simp (disch := first | assumption | omega | (simp only [LN] <;> omega) | (simp (disch := first | assumption | omega | (simp only [LN] <;> omega)) only [row_alloc, row_set]; assumption)) only [W_block, P3, ↓reduceIte, reduceAdd, reduceEqDiff, reduceCtorEq, initFr, reduceLT, clsA, reduceLeDiff, reduceMul, reduceSub, reduceIte]
    refine hq2 _ _ ⟨_, rfl, ?_, rfl⟩
    rw [List.take_of_length_le (by omega)] at hp
    rw [hp]; rfl
def nOf (t : Nat) (M : MB) (w : List UInt8) : Option (Int × Bool) := (kOf t M (w.take (w.length - 1))).map fun i => (i, sufB [45] w)
def nAll (t : Nat) (M : MB) : List (List UInt8) → Option (List (Int × Bool))
  | [] => some []
  | n :: l => match nOf t M n with
    | some i => (nAll t M l).map (i :: ·)
    | none => none
theorem nAll_snoc (t : Nat) (M : MB) (n : List UInt8) : ∀ (a : List (List UInt8)), nAll t M (a ++ [n]) = match nAll t M a, nOf t M n with
    | some l, some i => some (l ++ [i])
    | _, _ => none
  | [] => by simp only [List.nil_append, nAll]; cases nOf t M n <;> rfl
  | x :: a => by
    simp only [List.cons_append, nAll, nAll_snoc t M n a]
    cases nOf t M x with
    | none => cases nOf t M n <;> rfl
    | some i => cases nAll t M a <;> cases nOf t M n <;> rfl
theorem nAll_stop {t : Nat} {M : MB} {n : List UInt8} (h : nOf t M n = none) : ∀ {l : List (List UInt8)}, n ∈ l → nAll t M l = none
  | x :: l, hm => by
    simp only [nAll]
    rcases List.mem_cons.1 hm with rfl | hm
    · rw [h]
    · rw [nAll_stop h hm]; cases nOf t M x <;> rfl
set_option maxHeartbeats 1000000 in
theorem t65 {H : AHeap} {b mb T : Nat} {own room : Bool} {c : List Value} {M : MB} {v : Value} {ws : List (List UInt8)} (hb : H.get b = some (.cells own room 5 c T)) (hc : c[4]? = some (.map (some mb))) (hm : MP sEnc H mb (mbs M)) (h : TL H v ws) (hl : ws.length ≤ 1000000000) (hws : ∀ w ∈ ws, 1 ≤ w.length ∧ w.length ≤ 1000000000) :
    ∃ w H', ARun Go.Proofs.Tryd.prog 4 65 [ptr b 0, v] H w H' ∧ Keeps H H' ∧ ∃ x, w = .tuple #[x, .bool (nAll 63 M ws).isSome] ∧ OW 45 2 H H' x (((nAll 63 M ws).getD []).map nRow) := by
  refine walk2 f65_ok f65_n ?_
  intro Q hq1 hq2
  have ia := Sl.is h
  have la := h.len
  simp (disch := first | assumption | omega | (simp only [LN] <;> omega) | (simp (disch := first | assumption | omega | (simp only [LN] <;> omega)) only [row_alloc, row_set]; assumption)) only [ f65, P3, ↓reduceIte, reduceAdd, reduceEqDiff, reduceCtorEq, initFr, reduceLT, clsA, reduceLeDiff, reduceMul, reduceSub, reduceIte, la]
  rw [W_block]
  refine W_loop2 (fun k fr K => ∃ i s l x5 x6 x7 x11 x12, fr = [ptr b 0, v, .slice none 0 0, .bool false, s, x5, x6, x7, v, .int .i64 ((ws.length : Nat) : Int), .int .i64 ((i : Nat) : Int), x11, x12] ∧ OW 45 2 H K s (l.map nRow) ∧ nAll 63 M (ws.take i) = some l ∧ l.length = i ∧ i ≤ ws.length ∧ k = ws.length - i) ws.length
    ⟨0, _, [], _, _, _, _, _, rfl, OW.nil _ _ (Keeps.refl H), by simp [nAll], rfl, by omega, rfl⟩ ?_
  rintro Q' k fr K ⟨i, s, l, x5, x6, x7, x11, x12, rfl, ho, hp, hll, hi, rfl⟩ hn hx hret
  by_cases hlt : i < ws.length
  · obtain ⟨na, ra⟩ := (h.keeps ho.k).at_ hlt
    have h0 : (0 : Int) ≤ (i : Int) := by omega
    have h1 : (i : Int) < ((lenS v : Nat) : Int) := by omega
    have h3 : (i : Int) < ((ws.length : Nat) : Int) := by omega
    have hw : IntKind.i64.wrap ((i : Int) + 1) = ((i + 1 : Nat) : Int) := by rw [wrap_i64 (by omega) (by omega)]; simp
    have hlen := hws _ (getD_mem (d := []) hlt)
    have gb := ho.k.at_ hb
    have ts := nAll_snoc 63 M (ws.getD i []) (ws.take i)
    rw [← take_snoc [] hlt, hp] at ts
    have stop := fun e => nAll_stop (t := 63) (M := M) (n := ws.getD i []) e (l := ws) (getD_mem hlt)
    unfold tRow at ra
    generalize ws.getD i [] = n at *
    have gm := a_mgetN (hm.get (ho.k.get _ hm.lt)) (n.take (n.length - 1))
    have ga := a_assertN (K := K) 63 (n.take (n.length - 1)) M
    have hw1 : IntKind.i64.wrap (((n.length : Nat) : Int) - 1) = ((n.length - 1 : Nat) : Int) := by rw [wrap_i64 (by omega) (by omega)]; omega
    have hc1 : asem (.slstr (.string ⟨n.toArray⟩) none (some (.int .i64 ((n.length - 1 : Nat) : Int)))) K = some (.string ⟨(n.take (n.length - 1)).toArray⟩, K) := a_slsP (by omega)
    cases hk : kOf 63 M (n.take (n.length - 1)) with
    | none =>
      have hk' : nOf 63 M n = none := by simp [nOf, hk]
      rw [hk] at ga
      simp only [Option.getD_none, Option.isSome_none] at ga
      simp (disch := first | assumption | omega | (simp only [LN] <;> omega) | (simp (disch := first | assumption | omega | (simp only [LN] <;> omega)) only [row_alloc, row_set]; assumption)) only [W_block, P3, ↓reduceIte, reduceAdd, reduceEqDiff, reduceCtorEq, initFr, reduceLT, clsA, reduceLeDiff, reduceMul, reduceSub, reduceIte, la, ra, na, a_load1v, gb, hc, sd_mget, gm, ga, a_lens, hw1, hc1]
      refine hret _ _ (hq2 _ _ ⟨_, rfl, ho.k, .slice none 0 0, ?_, ?_⟩)
      · rw [stop hk']; rfl
      · rw [stop hk']; exact OW.nil _ _ ho.k
    | some j =>
      have hk' : nOf 63 M n = some (j, sufB [45] n) := by simp [nOf, hk]
      rw [hk'] at ts
      rw [hk] at ga
      simp only [Option.getD_some, Option.isSome_some] at ga
      simp (disch := first | assumption | omega | (simp only [LN] <;> omega) | (simp (disch := first | assumption | omega | (simp only [LN] <;> omega)) only [row_alloc, row_set]; assumption)) only [W_block, P3, ↓reduceIte, reduceAdd, reduceEqDiff, reduceCtorEq, initFr, reduceLT, clsA, reduceLeDiff, reduceMul, reduceSub, reduceIte, la, ra, na, a_load1v, gb, hc, sd_mget, gm, ga, a_lens, hw1, hc1]
      refine callK (t82 _ n [45] hlen.2 (by simp)) ?_
      rintro _ X ⟨rfl, hX⟩
      rw [hX]
      have hf2 : fillA [.int .i64 0, .bool false] [(0, 1, .int .i64 j), (1, 1, .bool (sufB [45] n))] = some [.int .i64 j, .bool (sufB [45] n)] := rfl
      have hf3 : fillA [.int .i64 0, .bool false] [(0, 2, .agg #[.int .i64 j, .bool (sufB [45] n)])] = some [.int .i64 j, .bool (sufB [45] n)] := rfl
      simp (disch := first | assumption | omega | (simp only [LN] <;> omega) | (simp (disch := first | assumption | omega | (simp only [LN] <;> omega)) only [row_alloc, row_set]; assumption)) only [W_block, P3, ↓reduceIte, reduceAdd, reduceEqDiff, reduceCtorEq, initFr, reduceLT, clsA, reduceLeDiff, reduceMul, reduceSub, reduceIte, hf2, hf3]
      have ho2 := ho.keeps ((Keeps.refl K).alloc (.cells true false 2 [.int .i64 j, .bool (sufB [45] n)] 45))
      refine ho2.appR (b := 16) (Sl.one1 rfl rfl) (by simp only [List.length_map, List.length_cons, List.length_nil]; omega) ?_
      intro v' K' ho3 _
      simp (disch := first | assumption | omega | (simp only [LN] <;> omega) | (simp (disch := first | assumption | omega | (simp only [LN] <;> omega)) only [row_alloc, row_set]; assumption)) only [W_block, P3, ↓reduceIte, reduceAdd, reduceEqDiff, reduceCtorEq, initFr, reduceLT, clsA, reduceLeDiff, reduceMul, reduceSub, reduceIte, hw]
      refine hn _ _ _ ⟨i + 1, _, l ++ [(j, sufB [45] n)], _, _, _, _, _, rfl, ?_, ts, by simp [hll], by omega, rfl⟩ (by omega)
      simpa [nRow] using ho3
  · have h3 : ¬ (i : Int) < ((ws.length : Nat) : Int) := by omega
    simp (disch := first | assumption | omega | (simp only [LN] <;> omega) | (simp (disch := first | assumption | omega | (simp only [LN] <;> omega)) only [row_alloc, row_set]; assumption)) only [W_block, P3, ↓reduceIte, reduceAdd, reduceEqDiff, reduceCtorEq, initFr, reduceLT, clsA, reduceLeDiff, reduceMul, reduceSub, reduceIte, la]
    refine hx 0 _ _ ?_
    simp (disch := first | assumption | omega | (simp only [LN] <;> omega) | (simp (disch := first | assumption | omega | (simp only [LN] <;> omega)) only [row_alloc, row_set]; assumption)) only [W_block, P3, ↓reduceIte, reduceAdd, reduceEqDiff, reduceCtorEq, initFr, reduceLT, clsA, reduceLeDiff, reduceMul, reduceSub, reduceIte]
    rw [List.take_of_length_le (by omega)] at hp
    refine hq2 _ _ ⟨_, rfl, ho.k, s, ?_, ?_⟩
    · rw [hp]; rfl
    · rw [hp]; exact ho
end Go.AM.Fd

set_option linter.unusedSimpArgs false
set_option linter.unusedVariables false
namespace Go.AM.Fd
open Go.Proofs Go.AM.F
def bkO (u : V4) (mb : Nat) : AO := .cells true false 5 [u.s, u.p, u.g, u.r, .map (some mb)] 49
def thM (mb : Nat) (M : MB) : Th where
  P K := MP sEnc K mb (mbs M)
  F := [mb]
  lt K h y hy := by simp at hy; subst hy; exact h.lt
  st K K' h _ k := h.get (k mb (by simp))
def RV.bl (x : RV) : List Nat := tb x.vp ++ tb x.vq ++ tb x.vo ++ tb x.vf
theorem Sl.st {K K' : AHeap} {esz : Nat} {v : Value} {rows : List (List Value)} (h : Sl K esz v rows) (hn : K.n ≤ K'.n) (k : ∀ b ∈ tb v, K'.get b = K.get b) : Sl K' esz v rows :=
  h.chgT (S := (List.range K.n).filter fun b => !(tb v).contains b) ⟨hn, fun b hb hS => by
    by_cases hm : b ∈ tb v
    · exact k b hm
    · exact absurd (List.mem_filter.2 ⟨List.mem_range.2 hb, by simpa using hm⟩) hS⟩ (fun b hb hS => by
    have := (List.mem_filter.1 hS).2
    simp [hb] at this)
theorem RV.ok.lt {K : AHeap} {x : RV} (h : x.ok K) : ∀ b ∈ x.bl, b < K.n := by
  intro b hb
  simp only [RV.bl, List.mem_append] at hb
  rcases hb with ((hb | hb) | hb) | hb
  · exact Sl.tbl h.p b hb
  · exact Sl.tbl h.q b hb
  · exact Sl.tbl h.o b hb
  · exact Sl.tbl h.f b hb
theorem RV.ok.st {K K' : AHeap} {x : RV} (h : x.ok K) (hn : K.n ≤ K'.n) (k : ∀ b ∈ x.bl, K'.get b = K.get b) : x.ok K' := by
  simp only [RV.bl, List.mem_append] at k
  exact ⟨Sl.st h.p hn fun b hb => k b (.inl (.inl (.inl hb))), Sl.st h.q hn fun b hb => k b (.inl (.inl (.inr hb))), Sl.st h.o hn fun b hb => k b (.inl (.inr hb)), Sl.st h.f hn fun b hb => k b (.inr hb)⟩
def thI (xs : List RV) : Th where
  P K := ∀ x ∈ xs, x.ok K
  F := xs.flatMap RV.bl
  lt K h y hy := by
    obtain ⟨x, hx, hy⟩ := List.mem_flatMap.1 hy
    exact (h x hx).lt y hy
  st K K' h hn k := fun x hx => (h x hx).st hn fun b hb => k b (List.mem_flatMap.2 ⟨x, hx, hb⟩)
def bkT (b mb : Nat) (u : V4) (xs : List RV) (L : Ly) (M : MB) (ex : List Th) : List Th :=
  thB b (bkO u mb) :: thM mb M :: thA 9 1 u.s L.s.length (L.s.map tRow).flatten :: thA 58 2 u.p L.p.length (L.p.map pRow).flatten :: thA 59 2 u.g L.g.length (L.g.map pRow).flatten :: thA 43 6 u.r xs.length (xs.map RV.row).flatten :: thI xs :: ex
def nameOf (L : Ly) (n : List UInt8) : Option (Nat × Int) := match ixT n L.s with
  | some i => some (62, i)
  | none => match ixT n (L.p.map (·.1)) with
    | some i => some (63, i)
    | none => match ixT n (L.g.map (·.1)) with
      | some i => some (65, i)
      | none => (ixT n (L.r.map (·.n))).map fun i => (66, (i : Int))
structure BkR (B K : AHeap) (b mb : Nat) (u : V4) (xs : List RV) (L : Ly) (M : MB) (ex : List Th) : Prop where
  sep : SepH B K (bkT b mb u xs L M ex)
  e : xs.map (·.r) = L.r
  n : ∀ n, bfind n M = nameOf L n
section
variable {B K : AHeap} {b mb : Nat} {u : V4} {xs : List RV} {L : Ly} {M : MB} {ex : List Th}
theorem BkR.gb (h : BkR B K b mb u xs L M ex) : K.get b = some (bkO u mb) := h.sep.at_ 0 rfl
theorem BkR.gm (h : BkR B K b mb u xs L M ex) : MP sEnc K mb (mbs M) := h.sep.at_ 1 rfl
theorem BkR.as (h : BkR B K b mb u xs L M ex) : AP K 9 1 u.s L.s.length (L.s.map tRow).flatten := h.sep.at_ 2 rfl
theorem BkR.ap (h : BkR B K b mb u xs L M ex) : AP K 58 2 u.p L.p.length (L.p.map pRow).flatten := h.sep.at_ 3 rfl
theorem BkR.ag (h : BkR B K b mb u xs L M ex) : AP K 59 2 u.g L.g.length (L.g.map pRow).flatten := h.sep.at_ 4 rfl
theorem BkR.ar (h : BkR B K b mb u xs L M ex) : AP K 43 6 u.r xs.length (xs.map RV.row).flatten := h.sep.at_ 5 rfl
theorem BkR.ly (h : BkR B K b mb u xs L M ex) : LyR K u xs L where
  s := h.as.sl (by intro r hr; obtain ⟨x, _, rfl⟩ := List.mem_map.1 hr; rfl) (by simp)
  p := h.ap.sl (by intro r hr; obtain ⟨x, _, rfl⟩ := List.mem_map.1 hr; rfl) (by simp)
  g := h.ag.sl (by intro r hr; obtain ⟨x, _, rfl⟩ := List.mem_map.1 hr; rfl) (by simp)
  r := h.ar.sl (by intro r hr; obtain ⟨x, _, rfl⟩ := List.mem_map.1 hr; rfl) (by simp)
  e := h.e
  ok := h.sep.at_ 6 rfl
theorem BkR.keeps {K' : AHeap} (h : BkR B K b mb u xs L M ex) (k : Keeps K K') : BkR B K' b mb u xs L M ex := ⟨h.sep.keeps k, h.e, h.n⟩
end
theorem bfind_app (n m : List UInt8) (x : Nat × Int) : ∀ M : MB, bfind n (M ++ [(m, x)]) = match bfind n M with
    | some y => some y
    | none => if n = m then some x else none
  | [] => rfl
  | (a, v) :: l => by
    simp only [List.cons_append, bfind]
    split
    · rfl
    · exact bfind_app n m x l
theorem ixT_app (n m : List UInt8) : ∀ l : List (List UInt8), ixT n (l ++ [m]) = match ixT n l with
    | some i => some i
    | none => if m = n then some l.length else none
  | [] => by simp [ixT]
  | x :: l => by
    simp only [List.cons_append, ixT, ixT_app n m l]
    split
    · rfl
    · cases ixT n l with
      | some i => rfl
      | none => by_cases h : m = n <;> simp [h]
end Go.AM.Fd

set_option linter.unusedSimpArgs false
set_option linter.unusedVariables false
namespace Go.AM.Fd
open Nat (reduceAdd reduceEqDiff reduceLT reduceLeDiff reduceMul reduceSub)
open Go.Proofs Go.AM.F
theorem nameOf_s {L : Ly} {n : List UInt8} (h : nameOf L n = none) (m : List UInt8) : (match nameOf L m with
    | some y => some y
    | none => if m = n then some (62, ((L.s.length : Nat) : Int)) else none) = nameOf { L with s := L.s ++ [n] } m := by
  by_cases e : m = n
  · subst e
    rw [h]
    unfold nameOf at h ⊢
    simp only [ixT_app, if_true]
    cases hs : ixT m L.s with
    | some i => rw [hs] at h; cases h
    | none => rfl
  · have e' : ¬ n = m := fun x => e x.symm
    unfold nameOf
    simp only [ixT_app, if_neg e']
    cases hs : ixT m L.s with
    | some i => rfl
    | none =>
      simp only [if_neg e]
      cases hp : ixT m (L.p.map (·.1)) with
      | some i => rfl
      | none =>
        simp only
        cases hg : ixT m (L.g.map (·.1)) with
        | some i => rfl
        | none =>
          simp only
          cases hr : ixT m (L.r.map (·.n)) <;> rfl
def secP (L : Ly) (ws : List (List UInt8)) : Int × Ly :=
  if ws.length ≠ 2 ∨ rightB (ws.getD 1 []) = false then (40, L)
  else if (nameOf L (ws.getD 1 [])).isSome then (41, L)
  else if L.s.length = 64 then (3, L)
  else (0, { L with s := L.s ++ [ws.getD 1 []] })
def Aw (v : Value) (ts : List Th) : Prop := ∀ y ∈ tb v, ∀ t ∈ ts, y ∉ t.F
theorem BkR.fresh {B K : AHeap} {b mb : Nat} {u : V4} {xs : List RV} {L : Ly} {M : MB} {ex : List Th} (h : BkR B K b mb u xs L M ex) (n : List UInt8) (x : Nat × Int) :
    ∃ w K', ARun Go.Proofs.Tryd.prog 4 27 [ptr b 0, .string ⟨n.toArray⟩, mval x] K w K' ∧ w = .bool (!(nameOf L n).isSome) ∧ Chg [mb] K K' ∧ (nameOf L n = none → SepH B K' (bkT b mb u xs L (M ++ [(n, x)]) ex)) := by
  obtain ⟨w, K', r, rfl, c, m⟩ := t27 (hc := rfl) h.gb h.gm n (x := mval x) rfl
  have e : (mfind n (mbs M)).isNone = !(nameOf L n).isSome := by
    rw [mfind_mbs, h.n]; cases nameOf L n <;> rfl
  rw [e] at r m
  refine ⟨_, _, r, rfl, c, fun hn => ?_⟩
  rw [hn] at m
  simp only [Option.isSome_none, Bool.not_false, if_true] at m
  refine h.sep.u1 (t := thM mb M) (t' := thM mb (M ++ [(n, x)])) c ?_ (fun y hy => .inl hy)
  show MP sEnc K' mb (mbs (M ++ [(n, x)]))
  simpa [mbs] using m
set_option maxHeartbeats 1000000 in
theorem t44 {B K : AHeap} {b mb : Nat} {u : V4} {xs : List RV} {L : Ly} {M : MB} {ex : List Th} {v : Value} {ws : List (List UInt8)} (h : BkR B K b mb u xs L M ex) (hv : TL K v ws) (ha : Aw v (bkT b mb u xs L M ex)) (hl : ws.length ≤ 1000000000) (hw : ∀ w ∈ ws, w.length ≤ 1000000000) (hsl : L.s.length ≤ 64) :
    ∃ w K', ARun Go.Proofs.Tryd.prog 4 44 [ptr b 0, v] K w K' ∧ Keeps B K' ∧ w = .int .i64 (secP L ws).1 ∧ ((secP L ws).1 = 0 → ∃ u' M', BkR B K' b mb u' xs (secP L ws).2 M' ex) := by
  refine walk2 f44_ok f44_n ?_
  intro Q hq1 hq2
  have ia := Sl.is hv
  have la := hv.len
  have gb := h.gb
  simp only [bkO] at gb
  by_cases h2 : ws.length = 2
  rotate_left
  · have e2 : (((ws.length : Nat) : Int) != 2) = true := by simp; omega
    have ep : secP L ws = (40, L) := by simp [secP, h2]
    simp (disch := first | assumption | omega | (simp only [LN] <;> omega) | (simp (disch := first | assumption | omega | (simp only [LN] <;> omega)) only [row_alloc, row_set]; assumption)) only [f44, W_block, P3, ↓reduceIte, reduceAdd, reduceEqDiff, reduceCtorEq, initFr, reduceLT, clsA, reduceLeDiff, reduceMul, reduceSub, reduceIte, la, e2]
    refine hq2 _ _ ⟨_, rfl, h.sep.k, by rw [ep]; rfl, by rw [ep]; intro e; cases e⟩
  have e2 : (((ws.length : Nat) : Int) != 2) = false := by simp; omega
  obtain ⟨na, ra⟩ := hv.at_ (i := 1) (by omega)
  have hlen := hw _ (getD_mem (d := []) (show 1 < ws.length by omega))
  have h1 : (0 : Int) ≤ 1 := by omega
  have h3 : (1 : Int) < ((lenS v : Nat) : Int) := by omega
  unfold tRow at ra
  have t1 : Int.toNat 1 = 1 := rfl
  have hsp : ∀ r, rightB (ws.getD 1 []) = r → secP L ws = if r = false then (40, L) else if (nameOf L (ws.getD 1 [])).isSome then (41, L) else if L.s.length = 64 then (3, L) else (0, { L with s := L.s ++ [ws.getD 1 []] }) := by
    intro r hr
    unfold secP
    rw [hr]
    cases r
    · rw [if_pos (.inr rfl), if_pos rfl]
    · have e : ¬ (ws.length ≠ 2 ∨ False) := by intro e; rcases e with e | e; exact e h2; exact e
      simp only [Bool.true_eq_false, if_false, if_neg e]
  simp (disch := first | assumption | omega | (simp only [LN] <;> omega) | (simp (disch := first | assumption | omega | (simp only [LN] <;> omega)) only [row_alloc, row_set]; assumption)) only [f44, W_block, P3, ↓reduceIte, reduceAdd, reduceEqDiff, reduceCtorEq, initFr, reduceLT, clsA, reduceLeDiff, reduceMul, reduceSub, reduceIte, la, e2, ra, na, a_load1v, t1]
  refine callK (t26 _ _ (Nat.le_trans hlen (by decide))) ?_
  rintro _ X ⟨rfl, hX⟩
  rw [hX]
  cases hr : rightB (ws.getD 1 []) with
  | false =>
    have ep : secP L ws = (40, L) := by rw [hsp _ hr]; rfl
    simp (disch := first | assumption | omega | (simp only [LN] <;> omega) | (simp (disch := first | assumption | omega | (simp only [LN] <;> omega)) only [row_alloc, row_set]; assumption)) only [W_block, P3, ↓reduceIte, reduceAdd, reduceEqDiff, reduceCtorEq, initFr, reduceLT, clsA, reduceLeDiff, reduceMul, reduceSub, reduceIte]
    refine hq2 _ _ ⟨_, rfl, h.sep.k, by rw [ep]; rfl, by rw [ep]; intro e; cases e⟩
  | true =>
  have hsp2 := hsp _ hr
  simp only [Bool.true_eq_false, if_false] at hsp2
  have ls : lenS u.s = L.s.length := h.ly.s.len
  have is := Sl.is h.ly.s
  simp (disch := first | assumption | omega | (simp only [LN] <;> omega) | (simp (disch := first | assumption | omega | (simp only [LN] <;> omega)) only [row_alloc, row_set]; assumption)) only [W_block, P3, ↓reduceIte, reduceAdd, reduceEqDiff, reduceCtorEq, initFr, reduceLT, clsA, reduceLeDiff, reduceMul, reduceSub, reduceIte, la, ra, na, a_load1v, t1, gb, ls]
  refine callK (h.fresh (ws.getD 1 []) (62, ((L.s.length : Nat) : Int))) ?_
  rintro _ K1 ⟨rfl, c1, hs1⟩
  have kk1 := h.sep.k.chg_trans c1 (fun y hy => h.sep.gei 1 rfl (by simpa [thM] using hy))
  cases hn : nameOf L (ws.getD 1 []) with
  | some y =>
    have ep : secP L ws = (41, L) := by rw [hsp2, hn]; rfl
    simp (disch := first | assumption | omega | (simp only [LN] <;> omega) | (simp (disch := first | assumption | omega | (simp only [LN] <;> omega)) only [row_alloc, row_set]; assumption)) only [W_block, P3, ↓reduceIte, reduceAdd, reduceEqDiff, reduceCtorEq, initFr, reduceLT, clsA, reduceLeDiff, reduceMul, reduceSub, reduceIte, Option.isSome_some, Bool.not_true]
    refine hq2 _ _ ⟨_, rfl, kk1, by rw [ep]; rfl, by rw [ep]; intro e; cases e⟩
  | none =>
  have sep1 := hs1 hn
  have gb1 : K1.get b = some (bkO u mb) := sep1.at_ 0 rfl
  have as1 : AP K1 9 1 u.s L.s.length (L.s.map tRow).flatten := sep1.at_ 2 rfl
  simp only [bkO] at gb1
  have hv1 : TL K1 v ws := Sl.chgT hv c1 (fun y hy hm => ha y hy (thM mb M) (by simp [bkT]) (by simpa [thM] using hm))
  obtain ⟨na1, ra1⟩ := hv1.at_ (i := 1) (by omega)
  unfold tRow at ra1
  by_cases h64 : L.s.length = 64
  · have e3 : (((L.s.length : Nat) : Int) == 64) = true := by simp; omega
    have ep : secP L ws = (3, L) := by rw [hsp2, hn]; simp [h64]
    simp (disch := first | assumption | omega | (simp only [LN] <;> omega) | (simp (disch := first | assumption | omega | (simp only [LN] <;> omega)) only [row_alloc, row_set]; assumption)) only [W_block, P3, ↓reduceIte, reduceAdd, reduceEqDiff, reduceCtorEq, initFr, reduceLT, clsA, reduceLeDiff, reduceMul, reduceSub, reduceIte, Option.isSome_none, Bool.not_false, gb1, ls, e3]
    refine hq2 _ _ ⟨_, rfl, kk1, by rw [ep]; rfl, by rw [ep]; intro e; cases e⟩
  · have e3 : (((L.s.length : Nat) : Int) == 64) = false := by simp; omega
    have ep : secP L ws = (0, { L with s := L.s ++ [ws.getD 1 []] }) := by rw [hsp2, hn]; simp [h64]
    simp (disch := first | assumption | omega | (simp only [LN] <;> omega) | (simp (disch := first | assumption | omega | (simp only [LN] <;> omega)) only [row_alloc, row_set]; assumption)) only [W_block, P3, ↓reduceIte, reduceAdd, reduceEqDiff, reduceCtorEq, initFr, reduceLT, clsA, reduceLeDiff, reduceMul, reduceSub, reduceIte, Option.isSome_none, Bool.not_false, gb1, ls, e3, ra1, na1, a_load1v, t1, fill1s]
    have sep2 := sep1.keeps ((Keeps.refl K1).alloc (.cells true false 1 [.string ⟨(ws.getD 1 []).toArray⟩] 9))
    have as2 : AP _ 9 1 u.s L.s.length (L.s.map tRow).flatten := sep2.at_ 2 rfl
    refine appGD as2 ⟨_, _, rfl⟩ (elems_new rfl rfl) rfl ⟨by omega, by omega⟩ ?_
    intro v' K3 a3 c3 hb3
    have ov : v'.oneCell' = true := by obtain ⟨a, rfl⟩ := a3.shape; rfl
    have o1 : one1 v' = True := by simp [one1, ov]
    have sep3 := sep2.u2 (t' := thA 9 1 v' (L.s.length + 1) ((L.s.map tRow).flatten ++ [Value.string ⟨(ws.getD 1 []).toArray⟩])) c3 a3 (fun y hy => by
      rcases hb3 with e | e
      · left; have := mem_blkL.1 hy; rw [e] at this; exact mem_blkL.2 this
      · right; have := mem_blkL.1 hy; rw [e] at this; cases this; exact Nat.le_refl _)
    have gb3 : K3.get b = some (bkO u mb) := sep3.at_ 0 rfl
    simp only [bkO] at gb3
    simp (disch := first | assumption | omega | (simp only [LN] <;> omega) | (simp (disch := first | assumption | omega | (simp only [LN] <;> omega)) only [row_alloc, row_set]; assumption)) only [W_block, P3, ↓reduceIte, reduceAdd, reduceEqDiff, reduceCtorEq, initFr, reduceLT, clsA, reduceLeDiff, reduceMul, reduceSub, reduceIte, gb3, o1, ov]
    have sep4 := sep3.u0 (t' := thB b (bkO ⟨v', u.p, u.g, u.r⟩ mb)) (Chg.set K3 (AHeap.get_lt gb3) (bkO ⟨v', u.p, u.g, u.r⟩ mb)) (AHeap.get_set_same gb3 _) (fun y hy => .inl hy)
    refine hq2 _ _ ⟨_, rfl, sep4.k, by rw [ep]; rfl, fun _ => ⟨⟨v', u.p, u.g, u.r⟩, M ++ [(ws.getD 1 [], (62, ((L.s.length : Nat) : Int)))], ?_⟩⟩
    rw [ep]
    have ef : (L.s.map tRow).flatten ++ [Value.string ⟨(ws.getD 1 []).toArray⟩] = ((L.s ++ [ws.getD 1 []]).map tRow).flatten := by simp [tRow]
    rw [ef] at sep4
    refine ⟨?_, h.e, fun m => ?_⟩
    · have : L.s.length + 1 = (L.s ++ [ws.getD 1 []]).length := by simp
      rw [this] at sep4
      exact sep4
    · rw [bfind_app, h.n]; exact nameOf_s hn m
end Go.AM.Fd

set_option linter.unusedSimpArgs false
set_option linter.unusedVariables false
namespace Go.AM.Fd
open Go.Proofs Go.AM.F
theorem nameOf_p {L : Ly} {n : List UInt8} (i : Int) (h : nameOf L n = none) (m : List UInt8) : (match nameOf L m with
    | some y => some y
    | none => if m = n then some (63, ((L.p.length : Nat) : Int)) else none) = nameOf { L with p := L.p ++ [(n, i)] } m := by
  have e0 : (L.p ++ [(n, i)]).map (·.1) = L.p.map (·.1) ++ [n] := by simp
  have el : (L.p.map (·.1)).length = L.p.length := by simp
  unfold nameOf at h ⊢
  simp only [e0, ixT_app, el]
  by_cases e : m = n
  · subst e
    cases hs : ixT m L.s with
    | some j => simp [hs] at h
    | none =>
      rw [hs] at h
      simp only at h ⊢
      cases hp : ixT m (L.p.map (·.1)) with
      | some j => simp [hp] at h
      | none =>
        rw [hp] at h
        simp only at h ⊢
        rw [h]; simp
  · have e' : ¬ n = m := fun x => e x.symm
    simp only [if_neg e']
    cases hs : ixT m L.s with
    | some j => rfl
    | none =>
      simp only [if_neg e]
      cases hp : ixT m (L.p.map (·.1)) with
      | some j => rfl
      | none =>
        simp only
        cases hg : ixT m (L.g.map (·.1)) with
        | some j => rfl
        | none =>
          simp only
          cases hr : ixT m (L.r.map (·.n)) <;> rfl
theorem nameOf_g {L : Ly} {n : List UInt8} (i : Int) (h : nameOf L n = none) (m : List UInt8) : (match nameOf L m with
    | some y => some y
    | none => if m = n then some (65, ((L.g.length : Nat) : Int)) else none) = nameOf { L with g := L.g ++ [(n, i)] } m := by
  have e0 : (L.g ++ [(n, i)]).map (·.1) = L.g.map (·.1) ++ [n] := by simp
  have el : (L.g.map (·.1)).length = L.g.length := by simp
  unfold nameOf at h ⊢
  simp only [e0, ixT_app, el]
  by_cases e : m = n
  · subst e
    cases hs : ixT m L.s with
    | some j => simp [hs] at h
    | none =>
      rw [hs] at h
      simp only at h ⊢
      cases hp : ixT m (L.p.map (·.1)) with
      | some j => simp [hp] at h
      | none =>
        rw [hp] at h
        simp only at h ⊢
        cases hg : ixT m (L.g.map (·.1)) with
        | some j => simp [hg] at h
        | none =>
          rw [hg] at h
          simp only at h ⊢
          rw [h]; simp
  · have e' : ¬ n = m := fun x => e x.symm
    simp only [if_neg e']
    cases hs : ixT m L.s with
    | some j => rfl
    | none =>
      simp only [if_neg e]
      cases hp : ixT m (L.p.map (·.1)) with
      | some j => rfl
      | none =>
        simp only
        cases hg : ixT m (L.g.map (·.1)) with
        | some j => rfl
        | none =>
          simp only
          cases hr : ixT m (L.r.map (·.n)) <;> rfl
def kN (t : Nat) (L : Ly) (n : List UInt8) : Option Int := match nameOf L n with
  | some (u, i) => if u = t then some i else none
  | none => none
theorem BkR.kN {B K : AHeap} {b mb : Nat} {u : V4} {xs : List RV} {L : Ly} {M : MB} {ex : List Th} (h : BkR B K b mb u xs L M ex) (t : Nat) (n : List UInt8) : kOf t M n = kN t L n := by
  unfold kOf Fd.kN; rw [h.n]; try (cases nameOf L n <;> rfl)
theorem a_mgetT {K : AHeap} {mb : Nat} {M : MB} (hm : MP sEnc K mb (mbs M)) (n : List UInt8) : asem (.mget .string .nilIface true (.map (some mb)) (.string ⟨n.toArray⟩)) K = some (.tuple #[((bfind n M).map mval).getD .nilIface, .bool (bfind n M).isSome], K) := by
  have := a_mget sEnc_e hm n .nilIface true
  rw [mfind_mbs] at this
  simp only [sEnc] at this
  rw [this]
  cases bfind n M <;> rfl
end Go.AM.Fd

set_option linter.unusedSimpArgs false
set_option linter.unusedVariables false
namespace Go.AM.Fd
open Nat (reduceAdd reduceEqDiff reduceLT reduceLeDiff reduceMul reduceSub)
open Go.Proofs Go.AM.F
def wPoint : List UInt8 := [112, 111, 105, 110, 116]
def partP (L : Ly) (ws : List (List UInt8)) : Int × Ly :=
  if ws.length ≠ 3 ∨ rightB (ws.getD 1 []) = false then (40, L)
  else if (nameOf L (ws.getD 1 [])).isSome then (41, L)
  else match kN 62 L (ws.getD 2 []) with
    | none => (42, L)
    | some i =>
      if ws.getD 0 [] = wPoint then (if L.p.length = 32 then (3, L) else (0, { L with p := L.p ++ [(ws.getD 1 [], i)] }))
      else if L.g.length = 32 then (3, L) else (0, { L with g := L.g ++ [(ws.getD 1 [], i)] })
set_option maxHeartbeats 4000000 in
theorem t45 {B K : AHeap} {b mb : Nat} {u : V4} {xs : List RV} {L : Ly} {M : MB} {ex : List Th} {v : Value} {ws : List (List UInt8)} (h : BkR B K b mb u xs L M ex) (hv : TL K v ws) (ha : Aw v (bkT b mb u xs L M ex)) (hl : ws.length ≤ 1000000000) (hw : ∀ w ∈ ws, w.length ≤ 1000000000) (hpl : L.p.length ≤ 32) (hgl : L.g.length ≤ 32) :
    ∃ w K', ARun Go.Proofs.Tryd.prog 4 45 [ptr b 0, v] K w K' ∧ Keeps B K' ∧ w = .int .i64 (partP L ws).1 ∧ ((partP L ws).1 = 0 → ∃ u' M', BkR B K' b mb u' xs (partP L ws).2 M' ex) := by
  refine walk2 f45_ok f45_n ?_
  intro Q hq1 hq2
  have ia := Sl.is hv
  have la := hv.len
  have gb := h.gb
  simp only [bkO] at gb
  by_cases h2 : ws.length = 3
  rotate_left
  · have e2 : (((ws.length : Nat) : Int) != 3) = true := by simp; omega
    have ep : partP L ws = (40, L) := by simp [partP, h2]
    simp (disch := first | assumption | omega | (simp only [LN] <;> omega) | (simp (disch := first | assumption | omega | (simp only [LN] <;> omega)) only [row_alloc, row_set]; assumption)) only [f45, W_block, P3, ↓reduceIte, reduceAdd, reduceEqDiff, reduceCtorEq, initFr, reduceLT, clsA, reduceLeDiff, reduceMul, reduceSub, reduceIte, la, e2]
    refine hq2 _ _ ⟨_, rfl, h.sep.k, by rw [ep]; rfl, by rw [ep]; intro e; cases e⟩
  have e2 : (((ws.length : Nat) : Int) != 3) = false := by simp; omega
  obtain ⟨na, ra⟩ := hv.at_ (i := 1) (by omega)
  obtain ⟨_, rb⟩ := hv.at_ (i := 2) (by omega)
  obtain ⟨_, rc⟩ := hv.at_ (i := 0) (by omega)
  have hlen := hw _ (getD_mem (d := []) (show 1 < ws.length by omega))
  have h0 : (0 : Int) ≤ 0 := by omega
  have h1 : (0 : Int) ≤ 1 := by omega
  have h12 : (0 : Int) ≤ 2 := by omega
  have h3 : (1 : Int) < ((lenS v : Nat) : Int) := by omega
  have h32 : (2 : Int) < ((lenS v : Nat) : Int) := by omega
  have h30 : (0 : Int) < ((lenS v : Nat) : Int) := by omega
  unfold tRow at ra rb rc
  have t1 : Int.toNat 1 = 1 := rfl
  have t2 : Int.toNat 2 = 2 := rfl
  have ed : partP L ws = if rightB (ws.getD 1 []) = false then ((40 : Int), L) else if (nameOf L (ws.getD 1 [])).isSome then (41, L) else match kN 62 L (ws.getD 2 []) with
    | none => (42, L)
    | some i => if ws.getD 0 [] = wPoint then (if L.p.length = 32 then (3, L) else (0, { L with p := L.p ++ [(ws.getD 1 [], i)] })) else if L.g.length = 32 then (3, L) else (0, { L with g := L.g ++ [(ws.getD 1 [], i)] }) := by
    unfold partP
    cases rightB (ws.getD 1 []) with
    | false => rw [if_pos (.inr rfl), if_pos rfl]
    | true =>
      have e : ¬ (ws.length ≠ 3 ∨ False) := by intro e; rcases e with e | e; exact e h2; exact e
      simp only [Bool.true_eq_false, if_false, if_neg e]
  simp (disch := first | assumption | omega | (simp only [LN] <;> omega) | (simp (disch := first | assumption | omega | (simp only [LN] <;> omega)) only [row_alloc, row_set]; assumption)) only [f45, W_block, P3, ↓reduceIte, reduceAdd, reduceEqDiff, reduceCtorEq, initFr, reduceLT, clsA, reduceLeDiff, reduceMul, reduceSub, reduceIte, la, e2, ra, na, a_load1v, t1]
  refine callK (t26 _ _ (Nat.le_trans hlen (by decide))) ?_
  rintro _ X ⟨rfl, hX⟩
  rw [hX]
  cases hr : rightB (ws.getD 1 []) with
  | false =>
    have ep : partP L ws = (40, L) := by rw [ed, hr]; rfl
    simp (disch := first | assumption | omega | (simp only [LN] <;> omega) | (simp (disch := first | assumption | omega | (simp only [LN] <;> omega)) only [row_alloc, row_set]; assumption)) only [W_block, P3, ↓reduceIte, reduceAdd, reduceEqDiff, reduceCtorEq, initFr, reduceLT, clsA, reduceLeDiff, reduceMul, reduceSub, reduceIte]
    refine hq2 _ _ ⟨_, rfl, h.sep.k, by rw [ep]; rfl, by rw [ep]; intro e; cases e⟩
  | true =>
  simp only [hr, Bool.true_eq_false, if_false] at ed
  have gm := a_mgetT h.gm (ws.getD 1 [])
  have gn := a_mgetN h.gm (ws.getD 2 [])
  have ga := a_assertN (K := K) 62 (ws.getD 2 []) M
  rw [h.n] at gm
  rw [h.kN] at ga
  cases hn : nameOf L (ws.getD 1 []) with
  | some y =>
    have ep : partP L ws = (41, L) := by rw [ed, hn]; rfl
    rw [hn] at gm
    simp only [Option.isSome_some] at gm
    simp (disch := first | assumption | omega | (simp only [LN] <;> omega) | (simp (disch := first | assumption | omega | (simp only [LN] <;> omega)) only [row_alloc, row_set]; assumption)) only [W_block, P3, ↓reduceIte, reduceAdd, reduceEqDiff, reduceCtorEq, initFr, reduceLT, clsA, reduceLeDiff, reduceMul, reduceSub, reduceIte, la, ra, na, a_load1v, t1, gb, sd_mget, gm]
    refine hq2 _ _ ⟨_, rfl, h.sep.k, by rw [ep]; rfl, by rw [ep]; intro e; cases e⟩
  | none =>
  rw [hn] at gm
  simp only [hn, Option.isSome_none, Bool.false_eq_true, if_false] at ed gm
  cases hk : kN 62 L (ws.getD 2 []) with
  | none =>
    have ep : partP L ws = (42, L) := by rw [ed, hk]
    rw [hk] at ga
    simp only [Option.getD_none, Option.isSome_none] at ga
    simp (disch := first | assumption | omega | (simp only [LN] <;> omega) | (simp (disch := first | assumption | omega | (simp only [LN] <;> omega)) only [row_alloc, row_set]; assumption)) only [W_block, P3, ↓reduceIte, reduceAdd, reduceEqDiff, reduceCtorEq, initFr, reduceLT, clsA, reduceLeDiff, reduceMul, reduceSub, reduceIte, la, ra, rb, na, a_load1v, t1, t2, gb, sd_mget, gm, gn, ga]
    refine hq2 _ _ ⟨_, rfl, h.sep.k, by rw [ep]; rfl, by rw [ep]; intro e; cases e⟩
  | some i =>
  simp only [hk] at ed
  rw [hk] at ga
  simp only [Option.getD_some, Option.isSome_some] at ga
  have t0 : Int.toNat 0 = 0 := rfl
  have hq : binA .eql (.string ⟨(ws.getD 0 []).toArray⟩) (.string ⟨⟨[112, 111, 105, 110, 116]⟩⟩) = some (.bool (decide (ws.getD 0 [] = wPoint))) := b_eqS _ wPoint
  have lp : lenS u.p = L.p.length := h.ly.p.len
  have lg : lenS u.g = L.g.length := h.ly.g.len
  have ip := Sl.is h.ly.p
  have ig := Sl.is h.ly.g
  by_cases hq0 : ws.getD 0 [] = wPoint
  · simp only [hq0, decide_true, if_true] at hq ed
    rw [hq0] at rc
    by_cases h64 : L.p.length = 32
    · have e3 : (((L.p.length : Nat) : Int) == 32) = true := by simp; omega
      have ep : partP L ws = (3, L) := by rw [ed, if_pos h64]
      simp (disch := first | assumption | omega | (simp only [LN] <;> omega) | (simp (disch := first | assumption | omega | (simp only [LN] <;> omega)) only [row_alloc, row_set]; assumption)) only [W_block, P3, ↓reduceIte, reduceAdd, reduceEqDiff, reduceCtorEq, initFr, reduceLT, clsA, reduceLeDiff, reduceMul, reduceSub, reduceIte, la, ra, rb, rc, na, a_load1v, t1, t2, t0, gb, sd_mget, gm, gn, ga, hq, lp, e3]
      refine hq2 _ _ ⟨_, rfl, h.sep.k, by rw [ep]; rfl, by rw [ep]; intro e; cases e⟩
    have e3 : (((L.p.length : Nat) : Int) == 32) = false := by simp; omega
    have ep : partP L ws = (0, { L with p := L.p ++ [(ws.getD 1 [], i)] }) := by rw [ed, if_neg h64]
    simp (disch := first | assumption | omega | (simp only [LN] <;> omega) | (simp (disch := first | assumption | omega | (simp only [LN] <;> omega)) only [row_alloc, row_set]; assumption)) only [W_block, P3, ↓reduceIte, reduceAdd, reduceEqDiff, reduceCtorEq, initFr, reduceLT, clsA, reduceLeDiff, reduceMul, reduceSub, reduceIte, la, ra, rb, rc, na, a_load1v, t1, t2, t0, gb, sd_mget, gm, gn, ga, hq, lp, e3]
    refine callK (h.fresh (ws.getD 1 []) (63, ((L.p.length : Nat) : Int))) ?_
    rintro _ K1 ⟨rfl, c1, hs1⟩
    have sep1 := hs1 hn
    have gb1 : K1.get b = some (bkO u mb) := sep1.at_ 0 rfl
    simp only [bkO] at gb1
    have hv1 : TL K1 v ws := Sl.chgT hv c1 (fun y hy hm => ha y hy (thM mb M) (by simp [bkT]) (by simpa [thM] using hm))
    obtain ⟨na1, ra1⟩ := hv1.at_ (i := 1) (by omega)
    unfold tRow at ra1
    have hf2 : fillA [.string ByteArray.empty, .int .i64 0] [(0, 1, .string ⟨(ws.getD 1 []).toArray⟩), (1, 1, .int .i64 i)] = some [.string ⟨(ws.getD 1 []).toArray⟩, .int .i64 i] := rfl
    have hf3 : fillA [.string ByteArray.empty, .int .i64 0] [(0, 2, .agg #[.string ⟨(ws.getD 1 []).toArray⟩, .int .i64 i])] = some [.string ⟨(ws.getD 1 []).toArray⟩, .int .i64 i] := rfl
    simp (disch := first | assumption | omega | (simp only [LN] <;> omega) | (simp (disch := first | assumption | omega | (simp only [LN] <;> omega)) only [row_alloc, row_set]; assumption)) only [W_block, P3, ↓reduceIte, reduceAdd, reduceEqDiff, reduceCtorEq, initFr, reduceLT, clsA, reduceLeDiff, reduceMul, reduceSub, reduceIte, gb1, ra1, na1, a_load1v, t1, hf2, hf3]
    have sep2 := sep1.keeps ((Keeps.refl K1).alloc (.cells true false 2 [.string ⟨(ws.getD 1 []).toArray⟩, .int .i64 i] 58))
    have as2 : AP _ 58 2 u.p L.p.length (L.p.map pRow).flatten := sep2.at_ 3 rfl
    refine appGD as2 ⟨_, _, rfl⟩ (elems_new rfl rfl) rfl ⟨by omega, by omega⟩ ?_
    intro v' K3 a3 c3 hb3
    have ov : v'.oneCell' = true := by obtain ⟨a, rfl⟩ := a3.shape; rfl
    have o1 : one1 v' = True := by simp [one1, ov]
    have sep3 := sep2.u3 (t' := thA 58 2 v' (L.p.length + 1) ((L.p.map pRow).flatten ++ [Value.string ⟨(ws.getD 1 []).toArray⟩, Value.int .i64 i])) c3 a3 (fun y hy => by
      rcases hb3 with e | e
      · left; have := mem_blkL.1 hy; rw [e] at this; exact mem_blkL.2 this
      · right; have := mem_blkL.1 hy; rw [e] at this; cases this; exact Nat.le_refl _)
    have gb3 : K3.get b = some (bkO u mb) := sep3.at_ 0 rfl
    simp only [bkO] at gb3
    simp (disch := first | assumption | omega | (simp only [LN] <;> omega) | (simp (disch := first | assumption | omega | (simp only [LN] <;> omega)) only [row_alloc, row_set]; assumption)) only [W_block, P3, ↓reduceIte, reduceAdd, reduceEqDiff, reduceCtorEq, initFr, reduceLT, clsA, reduceLeDiff, reduceMul, reduceSub, reduceIte, gb3, o1, ov]
    have sep4 := sep3.u0 (t' := thB b (bkO ⟨u.s, v', u.g, u.r⟩ mb)) (Chg.set K3 (AHeap.get_lt gb3) (bkO ⟨u.s, v', u.g, u.r⟩ mb)) (AHeap.get_set_same gb3 _) (fun y hy => .inl hy)
    refine hq2 _ _ ⟨_, rfl, sep4.k, by rw [ep]; rfl, fun _ => ⟨⟨u.s, v', u.g, u.r⟩, M ++ [(ws.getD 1 [], (63, ((L.p.length : Nat) : Int)))], ?_⟩⟩
    rw [ep]
    have ef : (L.p.map pRow).flatten ++ [Value.string ⟨(ws.getD 1 []).toArray⟩, Value.int .i64 i] = ((L.p ++ [(ws.getD 1 [], i)]).map pRow).flatten := by simp [pRow]
    rw [ef] at sep4
    refine ⟨?_, h.e, fun m => ?_⟩
    · have : L.p.length + 1 = (L.p ++ [(ws.getD 1 [], i)]).length := by simp
      rw [this] at sep4
      exact sep4
    · rw [bfind_app, h.n]; exact nameOf_p i hn m
  · have hd : decide (ws.getD 0 [] = wPoint) = false := by simpa using hq0
    rw [hd] at hq
    simp only [if_neg hq0] at ed
    by_cases h64 : L.g.length = 32
    · have e3 : (((L.g.length : Nat) : Int) == 32) = true := by simp; omega
      have ep : partP L ws = (3, L) := by rw [ed, if_pos h64]
      simp (disch := first | assumption | omega | (simp only [LN] <;> omega) | (simp (disch := first | assumption | omega | (simp only [LN] <;> omega)) only [row_alloc, row_set]; assumption)) only [W_block, P3, ↓reduceIte, reduceAdd, reduceEqDiff, reduceCtorEq, initFr, reduceLT, clsA, reduceLeDiff, reduceMul, reduceSub, reduceIte, la, ra, rb, rc, na, a_load1v, t1, t2, t0, gb, sd_mget, gm, gn, ga, hq, lg, e3]
      refine hq2 _ _ ⟨_, rfl, h.sep.k, by rw [ep]; rfl, by rw [ep]; intro e; cases e⟩
    have e3 : (((L.g.length : Nat) : Int) == 32) = false := by simp; omega
    have ep : partP L ws = (0, { L with g := L.g ++ [(ws.getD 1 [], i)] }) := by rw [ed, if_neg h64]
    simp (disch := first | assumption | omega | (simp only [LN] <;> omega) | (simp (disch := first | assumption | omega | (simp only [LN] <;> omega)) only [row_alloc, row_set]; assumption)) only [W_block, P3, ↓reduceIte, reduceAdd, reduceEqDiff, reduceCtorEq, initFr, reduceLT, clsA, reduceLeDiff, reduceMul, reduceSub, reduceIte, la, ra, rb, rc, na, a_load1v, t1, t2, t0, gb, sd_mget, gm, gn, ga, hq, lg, e3]
    refine callK (h.fresh (ws.getD 1 []) (65, ((L.g.length : Nat) : Int))) ?_
    rintro _ K1 ⟨rfl, c1, hs1⟩
    have sep1 := hs1 hn
    have gb1 : K1.get b = some (bkO u mb) := sep1.at_ 0 rfl
    simp only [bkO] at gb1
    have hv1 : TL K1 v ws := Sl.chgT hv c1 (fun y hy hm => ha y hy (thM mb M) (by simp [bkT]) (by simpa [thM] using hm))
    obtain ⟨na1, ra1⟩ := hv1.at_ (i := 1) (by omega)
    unfold tRow at ra1
    have hf2 : fillA [.string ByteArray.empty, .int .i64 0] [(0, 1, .string ⟨(ws.getD 1 []).toArray⟩), (1, 1, .int .i64 i)] = some [.string ⟨(ws.getD 1 []).toArray⟩, .int .i64 i] := rfl
    have hf3 : fillA [.string ByteArray.empty, .int .i64 0] [(0, 2, .agg #[.string ⟨(ws.getD 1 []).toArray⟩, .int .i64 i])] = some [.string ⟨(ws.getD 1 []).toArray⟩, .int .i64 i] := rfl
    simp (disch := first | assumption | omega | (simp only [LN] <;> omega) | (simp (disch := first | assumption | omega | (simp only [LN] <;> omega)) only [row_alloc, row_set]; assumption)) only [W_block, P3, ↓reduceIte, reduceAdd, reduceEqDiff, reduceCtorEq, initFr, reduceLT, clsA, reduceLeDiff, reduceMul, reduceSub, reduceIte, gb1, ra1, na1, a_load1v, t1, hf2, hf3]
    have sep2 := sep1.keeps ((Keeps.refl K1).alloc (.cells true false 2 [.string ⟨(ws.getD 1 []).toArray⟩, .int .i64 i] 59))
    have as2 : AP _ 59 2 u.g L.g.length (L.g.map pRow).flatten := sep2.at_ 4 rfl
    refine appGD as2 ⟨_, _, rfl⟩ (elems_new rfl rfl) rfl ⟨by omega, by omega⟩ ?_
    intro v' K3 a3 c3 hb3
    have ov : v'.oneCell' = true := by obtain ⟨a, rfl⟩ := a3.shape; rfl
    have o1 : one1 v' = True := by simp [one1, ov]
    have sep3 := sep2.u4 (t' := thA 59 2 v' (L.g.length + 1) ((L.g.map pRow).flatten ++ [Value.string ⟨(ws.getD 1 []).toArray⟩, Value.int .i64 i])) c3 a3 (fun y hy => by
      rcases hb3 with e | e
      · left; have := mem_blkL.1 hy; rw [e] at this; exact mem_blkL.2 this
      · right; have := mem_blkL.1 hy; rw [e] at this; cases this; exact Nat.le_refl _)
    have gb3 : K3.get b = some (bkO u mb) := sep3.at_ 0 rfl
    simp only [bkO] at gb3
    simp (disch := first | assumption | omega | (simp only [LN] <;> omega) | (simp (disch := first | assumption | omega | (simp only [LN] <;> omega)) only [row_alloc, row_set]; assumption)) only [W_block, P3, ↓reduceIte, reduceAdd, reduceEqDiff, reduceCtorEq, initFr, reduceLT, clsA, reduceLeDiff, reduceMul, reduceSub, reduceIte, gb3, o1, ov]
    have sep4 := sep3.u0 (t' := thB b (bkO ⟨u.s, u.p, v', u.r⟩ mb)) (Chg.set K3 (AHeap.get_lt gb3) (bkO ⟨u.s, u.p, v', u.r⟩ mb)) (AHeap.get_set_same gb3 _) (fun y hy => .inl hy)
    refine hq2 _ _ ⟨_, rfl, sep4.k, by rw [ep]; rfl, fun _ => ⟨⟨u.s, u.p, v', u.r⟩, M ++ [(ws.getD 1 [], (65, ((L.g.length : Nat) : Int)))], ?_⟩⟩
    rw [ep]
    have ef : (L.g.map pRow).flatten ++ [Value.string ⟨(ws.getD 1 []).toArray⟩, Value.int .i64 i] = ((L.g ++ [(ws.getD 1 [], i)]).map pRow).flatten := by simp [pRow]
    rw [ef] at sep4
    refine ⟨?_, h.e, fun m => ?_⟩
    · have : L.g.length + 1 = (L.g ++ [(ws.getD 1 [], i)]).length := by simp
      rw [this] at sep4
      exact sep4
    · rw [bfind_app, h.n]; exact nameOf_g i hn m
end Go.AM.Fd

set_option linter.unusedSimpArgs false
set_option linter.unusedVariables false
namespace Go.AM.Fd
open Nat (reduceAdd reduceEqDiff reduceLT reduceLeDiff reduceMul reduceSub)
open Go.Proofs Go.AM.F
def oAll {α : Type} (f : List UInt8 → Option α) : List (List UInt8) → Option (List α)
  | [] => some []
  | n :: l => match f n with
    | some i => (oAll f l).map (i :: ·)
    | none => none
theorem oAll_snoc {α : Type} (f : List UInt8 → Option α) (n : List UInt8) : ∀ (a : List (List UInt8)), oAll f (a ++ [n]) = match oAll f a, f n with
    | some l, some i => some (l ++ [i])
    | _, _ => none
  | [] => by simp only [List.nil_append, oAll]; cases f n <;> rfl
  | x :: a => by
    simp only [List.cons_append, oAll, oAll_snoc f n a]
    cases f x with
    | none => cases f n <;> rfl
    | some i => cases oAll f a <;> cases f n <;> rfl
theorem oAll_stop {α : Type} {f : List UInt8 → Option α} {n : List UInt8} (h : f n = none) : ∀ {l : List (List UInt8)}, n ∈ l → oAll f l = none
  | x :: l, hm => by
    simp only [oAll]
    rcases List.mem_cons.1 hm with rfl | hm
    · rw [h]
    · rw [oAll_stop h hm]; cases f x <;> rfl
theorem kAll_o (t : Nat) (M : MB) : ∀ l : List (List UInt8), kAll t M l = oAll (kOf t M) l
  | [] => rfl
  | n :: l => by simp only [kAll, oAll, kAll_o t M l]; cases kOf t M n <;> rfl
theorem nAll_o (t : Nat) (M : MB) : ∀ l : List (List UInt8), nAll t M l = oAll (nOf t M) l
  | [] => rfl
  | n :: l => by simp only [nAll, oAll, nAll_o t M l]; cases nOf t M n <;> rfl
def sIx (L : Ly) (n : List UInt8) : Option Int := (ixT n L.s).map fun i => (i : Int)
theorem kN_s (L : Ly) (n : List UInt8) : kN 62 L n = sIx L n := by
  unfold kN nameOf sIx
  cases ixT n L.s with
  | some i => rfl
  | none =>
    cases ixT n (L.p.map (·.1)) with
    | some i => rfl
    | none =>
      cases ixT n (L.g.map (·.1)) with
      | some i => rfl
      | none => cases ixT n (L.r.map (·.n)) <;> rfl
theorem ixV_s (L : Ly) (n : List UInt8) : (sIx L n = none ∧ ixV n L.s = -1) ∨ ∃ i : Nat, sIx L n = some (i : Int) ∧ ixV n L.s = (i : Int) := by
  unfold sIx ixV
  cases ixT n L.s with
  | none => exact .inl ⟨rfl, rfl⟩
  | some i => exact .inr ⟨i, rfl, rfl⟩
set_option maxHeartbeats 1000000 in
theorem t68 {H : AHeap} {u : V4} {xs : List RV} {L : Ly} {v : Value} {ws : List (List UInt8)} (h : LyR H u xs L) (hs : L.s.length ≤ 1000000000) (hv : TL H v ws) (hl : ws.length ≤ 1000000000) :
    ∃ w H', ARun Go.Proofs.Tryd.prog 4 68 [.agg u.l.toArray, v] H w H' ∧ Keeps H H' ∧ ∃ x, w = .tuple #[x, .int .i64 (if (oAll (sIx L) ws).isSome then 0 else 42)] ∧ OW 3 1 H H' x (((oAll (sIx L) ws).getD []).map iRow) := by
  refine walk2 f68_ok f68_n ?_
  intro Q hq1 hq2
  have os := Sl.one h.s
  have op := Sl.one h.p
  have og := Sl.one h.g
  have or := Sl.one h.r
  have ia := Sl.is hv
  have la := hv.len
  have kv := vB_k H u
  have gv := vB_g H u
  unfold vB at kv gv
  obtain ⟨us, up, ug, ur⟩ := u
  simp only [V4.l] at *
  simp (disch := first | assumption | omega | (simp only [LN] <;> omega) | (simp (disch := first | assumption | omega | (simp only [LN] <;> omega)) only [row_alloc, row_set]; assumption)) only [ f68, P3, ↓reduceIte, reduceAdd, reduceEqDiff, reduceCtorEq, initFr, reduceLT, clsA, reduceLeDiff, reduceMul, reduceSub, reduceIte, os, op, og, or]
  generalize H.alloc (.cells true false 4 [us, up, ug, ur] 28) = K0 at *
  rw [W_block]
  refine W_loop2 (fun k fr K => ∃ i s l x7 x8 x9, fr = [.agg #[us, up, ug, ur], v, ptr H.n 0, .slice none 0 0, .int .i64 0, s, .int .i64 ((i : Nat) : Int), x7, x8, x9] ∧ OW 3 1 K0 K s (l.map iRow) ∧ oAll (sIx L) (ws.take i) = some l ∧ l.length = i ∧ i ≤ ws.length ∧ k = ws.length - i) ws.length
    ⟨0, _, [], _, _, _, rfl, OW.nil _ _ (Keeps.refl K0), by simp [oAll], rfl, by omega, rfl⟩ ?_
  rintro Q' k fr K ⟨i, s, l, x7, x8, x9, rfl, ho, hp, hll, hi, rfl⟩ hn hx hret
  have hb := ho.base kv
  by_cases hlt : i < ws.length
  · obtain ⟨na, ra⟩ := (hv.keeps hb.k).at_ hlt
    have h0 : (0 : Int) ≤ (i : Int) := by omega
    have h1 : (i : Int) < ((lenS v : Nat) : Int) := by omega
    have h3 : (i : Int) < ((ws.length : Nat) : Int) := by omega
    have hw : IntKind.i64.wrap ((i : Int) + 1) = ((i + 1 : Nat) : Int) := by rw [wrap_i64 (by omega) (by omega)]; simp
    have gl := ho.k.at_ gv
    have ts := oAll_snoc (sIx L) (ws.getD i []) (ws.take i)
    rw [← take_snoc [] hlt, hp] at ts
    have stop := fun e => oAll_stop (f := sIx L) (n := ws.getD i []) e (l := ws) (getD_mem hlt)
    unfold tRow at ra
    generalize ws.getD i [] = n at *
    simp (disch := first | assumption | omega | (simp only [LN] <;> omega) | (simp (disch := first | assumption | omega | (simp only [LN] <;> omega)) only [row_alloc, row_set]; assumption)) only [W_block, P3, ↓reduceIte, reduceAdd, reduceEqDiff, reduceCtorEq, initFr, reduceLT, clsA, reduceLeDiff, reduceMul, reduceSub, reduceIte, la, ra, na, a_load1v, gl]
    refine callK (t32 (h.s.keeps hb.k) hs n) ?_
    rintro _ X ⟨rfl, hX⟩
    rw [hX]
    rcases ixV_s L n with ⟨e1, e2⟩ | ⟨j, e1, e2⟩
    · rw [e2]
      have c1 : (-1 : Int) < 0 := by omega
      simp (disch := first | assumption | omega | (simp only [LN] <;> omega) | (simp (disch := first | assumption | omega | (simp only [LN] <;> omega)) only [row_alloc, row_set]; assumption)) only [W_block, P3, ↓reduceIte, reduceAdd, reduceEqDiff, reduceCtorEq, initFr, reduceLT, clsA, reduceLeDiff, reduceMul, reduceSub, reduceIte]
      refine hret _ _ (hq2 _ _ ⟨_, rfl, hb.k, .slice none 0 0, ?_, ?_⟩)
      · rw [stop e1]; rfl
      · rw [stop e1]; exact OW.nil _ _ hb.k
    · rw [e2]
      rw [e1] at ts
      have c1 : ¬ ((j : Nat) : Int) < 0 := by omega
      simp (disch := first | assumption | omega | (simp only [LN] <;> omega) | (simp (disch := first | assumption | omega | (simp only [LN] <;> omega)) only [row_alloc, row_set]; assumption)) only [W_block, P3, ↓reduceIte, reduceAdd, reduceEqDiff, reduceCtorEq, initFr, reduceLT, clsA, reduceLeDiff, reduceMul, reduceSub, reduceIte]
      have ho2 := ho.keeps ((Keeps.refl K).alloc (.cells true false 1 [.int .i64 ((j : Nat) : Int)] 3))
      refine ho2.appR (b := 8) (Sl.one1 rfl rfl) (by simp only [List.length_map, List.length_cons, List.length_nil]; omega) ?_
      intro v' K' ho3 _
      simp (disch := first | assumption | omega | (simp only [LN] <;> omega) | (simp (disch := first | assumption | omega | (simp only [LN] <;> omega)) only [row_alloc, row_set]; assumption)) only [W_block, P3, ↓reduceIte, reduceAdd, reduceEqDiff, reduceCtorEq, initFr, reduceLT, clsA, reduceLeDiff, reduceMul, reduceSub, reduceIte, hw]
      refine hn _ _ _ ⟨i + 1, _, l ++ [((j : Nat) : Int)], _, _, _, rfl, ?_, ts, by simp [hll], by omega, rfl⟩ (by omega)
      simpa [iRow] using ho3
  · have h3 : ¬ (i : Int) < ((ws.length : Nat) : Int) := by omega
    simp (disch := first | assumption | omega | (simp only [LN] <;> omega) | (simp (disch := first | assumption | omega | (simp only [LN] <;> omega)) only [row_alloc, row_set]; assumption)) only [W_block, P3, ↓reduceIte, reduceAdd, reduceEqDiff, reduceCtorEq, initFr, reduceLT, clsA, reduceLeDiff, reduceMul, reduceSub, reduceIte, la]
    refine hx 0 _ _ ?_
    simp (disch := first | assumption | omega | (simp only [LN] <;> omega) | (simp (disch := first | assumption | omega | (simp only [LN] <;> omega)) only [row_alloc, row_set]; assumption)) only [W_block, P3, ↓reduceIte, reduceAdd, reduceEqDiff, reduceCtorEq, initFr, reduceLT, clsA, reduceLeDiff, reduceMul, reduceSub, reduceIte]
    rw [List.take_of_length_le (by omega)] at hp
    refine hq2 _ _ ⟨_, rfl, hb.k, s, ?_, ?_⟩
    · rw [hp]; rfl
    · rw [hp]; exact hb
end Go.AM.Fd

set_option linter.unusedSimpArgs false
set_option linter.unusedVariables false
namespace Go.AM.Fd
open Nat (reduceAdd reduceEqDiff reduceLT reduceLeDiff reduceMul reduceSub)
open Go.Proofs Go.AM.F
theorem suf1 {n : List UInt8} (c : UInt8) (h : 1 ≤ n.length) : sufB [c] n = decide (n.getD (n.length - 1) 0 = c) := by
  have e : n.drop (n.length - 1) = [n.getD (n.length - 1) 0] := by
    rw [drop_at (by omega), List.drop_of_length_le (by omega)]
  have e1 : decide ([c].length ≤ n.length) = true := by simpa using h
  unfold sufB
  rw [e1, Bool.true_and, List.length_singleton, e]
  simp
theorem u8_nei (b : UInt8) (c : Nat) (hc : c < 256) : (((b.toNat : Nat) : Int) != (c : Int)) = !decide (b = UInt8.ofNat c) := by
  have h := u8_eqi b c hc
  show (!(((b.toNat : Nat) : Int) == (c : Int))) = _
  rw [h]
  by_cases e : b = UInt8.ofNat c <;> simp [e]
set_option maxHeartbeats 1000000 in
theorem t67 {H : AHeap} {v : Value} {ws : List (List UInt8)} (h : TL H v ws) (hl : ws.length ≤ 1000000000) (hw : ∀ w ∈ ws, w.length ≤ 1000000000) : ∃ w H', ARun Go.Proofs.Tryd.prog 4 67 [v] H w H' ∧ w = .bool (ws.all shpB) ∧ H' = H := by
  refine walk2 f67_ok f67_n ?_
  intro Q hq1 hq2
  have ia := Sl.is h
  have la := h.len
  simp (disch := first | assumption | omega | (simp only [LN] <;> omega) | (simp (disch := first | assumption | omega | (simp only [LN] <;> omega)) only [row_alloc, row_set]; assumption)) only [ f67, P3, ↓reduceIte, reduceAdd, reduceEqDiff, reduceCtorEq, initFr, reduceLT, clsA, reduceLeDiff, reduceMul, reduceSub, reduceIte]
  rw [W_block]
  refine W_loop2 (fun k fr K => ∃ i x3 x4 x5, fr = [v, .bool false, .int .i64 ((i : Nat) : Int), x3, x4, x5] ∧ K = H ∧ i ≤ ws.length ∧ (ws.take i).all shpB = true ∧ k = ws.length - i) ws.length
    ⟨0, _, _, _, rfl, rfl, by omega, by simp, rfl⟩ ?_
  rintro Q' k fr _ ⟨i, x3, x4, x5, rfl, rfl, hi, hp, rfl⟩ hn hx hret
  by_cases hlt : i < ws.length
  · obtain ⟨na, ra⟩ := h.at_ hlt
    have h0 : (0 : Int) ≤ (i : Int) := by omega
    have h1 : (i : Int) < ((lenS v : Nat) : Int) := by omega
    have h3 : (i : Int) < ((ws.length : Nat) : Int) := by omega
    have hwr : IntKind.i64.wrap ((i : Int) + 1) = ((i + 1 : Nat) : Int) := by rw [wrap_i64 (by omega) (by omega)]; simp
    have hlen := hw _ (getD_mem (d := []) hlt)
    have stop := fun e => all_not (p := shpB) (d := []) hlt e
    have go := fun e => all_take (p := shpB) (d := []) hlt hp e
    unfold tRow at ra
    generalize ws.getD i [] = n at *
    by_cases h2 : n.length < 2
    · have h2' : ((n.length : Nat) : Int) < (2 : Int) := by omega
      simp (disch := first | assumption | omega | (simp only [LN] <;> omega) | (simp (disch := first | assumption | omega | (simp only [LN] <;> omega)) only [row_alloc, row_set]; assumption)) only [W_block, P3, ↓reduceIte, reduceAdd, reduceEqDiff, reduceCtorEq, initFr, reduceLT, clsA, reduceLeDiff, reduceMul, reduceSub, reduceIte, la, ra, na, a_load1v, a_lens]
      refine hret _ _ (hq2 _ _ ⟨_, rfl, ?_, rfl⟩)
      have : ¬ 2 ≤ n.length := by omega
      rw [stop (by simp [shpB, this])]; rfl
    · have h2' : ¬ ((n.length : Nat) : Int) < (2 : Int) := by omega
      have h2n : 2 ≤ n.length := by omega
      have hw1 : IntKind.i64.wrap (((n.length : Nat) : Int) - 1) = ((n.length - 1 : Nat) : Int) := by rw [wrap_i64 (by omega) (by omega)]; omega
      have hix : ∀ X, asem (.idxs (.string ⟨n.toArray⟩) (.int .i64 ((n.length - 1 : Nat) : Int))) X = some (.int .u8 ((n.getD (n.length - 1) 0).toNat : Nat), X) := fun X => a_idxS (by omega)
      have es : shpB n = (decide (n.getD (n.length - 1) 0 = 43) || decide (n.getD (n.length - 1) 0 = 45)) := by
        simp only [shpB, h2n, decide_true, Bool.true_and, suf1 43 (show 1 ≤ n.length by omega), suf1 45 (show 1 ≤ n.length by omega)]
      rw [es] at stop go
      have q1 := u8_nei (n.getD (n.length - 1) 0) 43 (by omega)
      have q2 := u8_nei (n.getD (n.length - 1) 0) 45 (by omega)
      have c43 : UInt8.ofNat 43 = 43 := rfl
      have c45 : UInt8.ofNat 45 = 45 := rfl
      rw [c43] at q1
      rw [c45] at q2
      have q1' : ((((n.getD (n.length - 1) 0).toNat : Nat) : Int) != 43) = !decide (n.getD (n.length - 1) 0 = 43) := q1
      have q2' : ((((n.getD (n.length - 1) 0).toNat : Nat) : Int) != 45) = !decide (n.getD (n.length - 1) 0 = 45) := q2
      generalize n.getD (n.length - 1) 0 = c at *
      cases e1 : decide (c = 43) with
      | true =>
        rw [e1] at q1'
        simp only [Bool.not_true] at q1'
        simp (disch := first | assumption | omega | (simp only [LN] <;> omega) | (simp (disch := first | assumption | omega | (simp only [LN] <;> omega)) only [row_alloc, row_set]; assumption)) only [W_block, P3, ↓reduceIte, reduceAdd, reduceEqDiff, reduceCtorEq, initFr, reduceLT, clsA, reduceLeDiff, reduceMul, reduceSub, reduceIte, la, ra, na, a_load1v, a_lens, hw1, hix, q1', hwr]
        exact hn _ _ _ ⟨i + 1, _, _, _, rfl, rfl, by omega, go (by rw [e1]; rfl), rfl⟩ (by omega)
      | false =>
        rw [e1] at q1'
        simp only [Bool.not_false] at q1'
        cases e2 : decide (c = 45) with
        | true =>
          rw [e2] at q2'
          simp only [Bool.not_true] at q2'
          simp (disch := first | assumption | omega | (simp only [LN] <;> omega) | (simp (disch := first | assumption | omega | (simp only [LN] <;> omega)) only [row_alloc, row_set]; assumption)) only [W_block, P3, ↓reduceIte, reduceAdd, reduceEqDiff, reduceCtorEq, initFr, reduceLT, clsA, reduceLeDiff, reduceMul, reduceSub, reduceIte, la, ra, na, a_load1v, a_lens, hw1, hix, q1', q2', hwr]
          exact hn _ _ _ ⟨i + 1, _, _, _, rfl, rfl, by omega, go (by rw [e1, e2]; rfl), rfl⟩ (by omega)
        | false =>
          rw [e2] at q2'
          simp only [Bool.not_false] at q2'
          simp (disch := first | assumption | omega | (simp only [LN] <;> omega) | (simp (disch := first | assumption | omega | (simp only [LN] <;> omega)) only [row_alloc, row_set]; assumption)) only [W_block, P3, ↓reduceIte, reduceAdd, reduceEqDiff, reduceCtorEq, initFr, reduceLT, clsA, reduceLeDiff, reduceMul, reduceSub, reduceIte, la, ra, na, a_load1v, a_lens, hw1, hix, q1', q2']
          refine hret _ _ (hq2 _ _ ⟨_, rfl, ?_, rfl⟩)
          rw [stop (by rw [e1, e2]; rfl)]; rfl
  · have h3 : ¬ (i : Int) < ((ws.length : Nat) : Int) := by omega
    simp (disch := first | assumption | omega | (simp only [LN] <;> omega) | (simp (disch := first | assumption | omega | (simp only [LN] <;> omega)) only [row_alloc, row_set]; assumption)) only [W_block, P3, ↓reduceIte, reduceAdd, reduceEqDiff, reduceCtorEq, initFr, reduceLT, clsA, reduceLeDiff, reduceMul, reduceSub, reduceIte, la]
    refine hx 0 _ _ ?_
    simp (disch := first | assumption | omega | (simp only [LN] <;> omega) | (simp (disch := first | assumption | omega | (simp only [LN] <;> omega)) only [row_alloc, row_set]; assumption)) only [W_block, P3, ↓reduceIte, reduceAdd, reduceEqDiff, reduceCtorEq, initFr, reduceLT, clsA, reduceLeDiff, reduceMul, reduceSub, reduceIte]
    refine hq2 _ _ ⟨_, rfl, ?_, rfl⟩
    rw [List.take_of_length_le (by omega)] at hp
    rw [hp]; rfl
end Go.AM.Fd

set_option linter.unusedSimpArgs false
set_option linter.unusedVariables false
namespace Go.AM.Fd
open Nat (reduceAdd reduceEqDiff reduceLT reduceLeDiff reduceMul reduceSub)
open Go.Proofs Go.AM.F
def pIx (L : Ly) (n : List UInt8) : Option Int := (ixT n (L.p.map (·.1))).map fun i => (i : Int)
def nIx (L : Ly) (w : List UInt8) : Option (Int × Bool) := (pIx L (w.take (w.length - 1))).map fun i => (i, sufB [45] w)
theorem ixV_p (L : Ly) (n : List UInt8) : (pIx L n = none ∧ ixV n (L.p.map (·.1)) = -1) ∨ ∃ i : Nat, pIx L n = some (i : Int) ∧ ixV n (L.p.map (·.1)) = (i : Int) := by
  unfold pIx ixV
  cases ixT n (L.p.map (·.1)) with
  | none => exact .inl ⟨rfl, rfl⟩
  | some i => exact .inr ⟨i, rfl, rfl⟩
set_option maxHeartbeats 2000000 in
theorem t69 {H : AHeap} {u : V4} {xs : List RV} {L : Ly} {v : Value} {ws : List (List UInt8)} (h : LyR H u xs L) (hs : L.p.length ≤ 1000000000) (hv : TL H v ws) (hl : ws.length ≤ 1000000000) (hws : ∀ w ∈ ws, 1 ≤ w.length ∧ w.length ≤ 1000000000) :
    ∃ w H', ARun Go.Proofs.Tryd.prog 4 69 [.agg u.l.toArray, v] H w H' ∧ Keeps H H' ∧ ∃ x, w = .tuple #[x, .int .i64 (if (oAll (nIx L) ws).isSome then 0 else 42)] ∧ OW 45 2 H H' x (((oAll (nIx L) ws).getD []).map nRow) := by
  refine walk2 f69_ok f69_n ?_
  intro Q hq1 hq2
  have os := Sl.one h.s
  have op := Sl.one h.p
  have og := Sl.one h.g
  have or := Sl.one h.r
  have ia := Sl.is hv
  have la := hv.len
  have ip := Sl.is h.p
  have lp := h.p.len
  have kv := vB_k H u
  have gv := vB_g H u
  unfold vB at kv gv
  obtain ⟨us, up, ug, ur⟩ := u
  simp only [V4.l] at *
  simp (disch := first | assumption | omega | (simp only [LN] <;> omega) | (simp (disch := first | assumption | omega | (simp only [LN] <;> omega)) only [row_alloc, row_set]; assumption)) only [ f69, P3, ↓reduceIte, reduceAdd, reduceEqDiff, reduceCtorEq, initFr, reduceLT, clsA, reduceLeDiff, reduceMul, reduceSub, reduceIte, os, op, og, or]
  generalize H.alloc (.cells true false 4 [us, up, ug, ur] 28) = K0 at *
  rw [W_block]
  refine W_loop2 (fun k fr K => ∃ i s x11, fr = [.agg #[us, up, ug, ur], v, ptr H.n 0, .slice none 0 0, .int .i64 0, s, .int .i64 ((i : Nat) : Int), undef, undef, undef, undef, x11, undef, undef] ∧ OW 9 1 K0 K s (((L.p.take i).map (·.1)).map tRow) ∧ i ≤ L.p.length ∧ k = L.p.length - i) L.p.length
    ⟨0, _, _, rfl, OW.nil _ _ (Keeps.refl K0), by omega, rfl⟩ ?_
  rintro Q' k fr K ⟨i, s, x11, rfl, ho, hi, rfl⟩ hn hx hret
  have gl := ho.k.at_ gv
  by_cases hlt : i < L.p.length
  · obtain ⟨na, ra⟩ := (h.p.keeps (kv.trans ho.k)).at_ hlt
    have h0 : (0 : Int) ≤ (i : Int) := by omega
    have h1 : (i : Int) < ((lenS up : Nat) : Int) := by omega
    have h3 : (i : Int) < ((L.p.length : Nat) : Int) := by omega
    have hw : IntKind.i64.wrap ((i : Int) + 1) = ((i + 1 : Nat) : Int) := by rw [wrap_i64 (by omega) (by omega)]; simp
    have ts := take_snoc ([], (0 : Int)) hlt
    simp (disch := first | assumption | omega | (simp only [LN] <;> omega) | (simp (disch := first | assumption | omega | (simp only [LN] <;> omega)) only [row_alloc, row_set]; assumption)) only [W_block, P3, ↓reduceIte, reduceAdd, reduceEqDiff, reduceCtorEq, initFr, reduceLT, clsA, reduceLeDiff, reduceMul, reduceSub, reduceIte, gl, lp, ra, na, a_load1v, fill1s]
    have ho2 := ho.keeps ((Keeps.refl K).alloc (.cells true false 1 [.string ⟨(L.p.getD i ([], 0)).1.toArray⟩] 9))
    refine ho2.appR (b := 16) (Sl.one1 rfl rfl) (by simp only [List.length_map, List.length_take, List.length_cons, List.length_nil]; omega) ?_
    intro v' K' ho3 _
    simp (disch := first | assumption | omega | (simp only [LN] <;> omega) | (simp (disch := first | assumption | omega | (simp only [LN] <;> omega)) only [row_alloc, row_set]; assumption)) only [W_block, P3, ↓reduceIte, reduceAdd, reduceEqDiff, reduceCtorEq, initFr, reduceLT, clsA, reduceLeDiff, reduceMul, reduceSub, reduceIte, hw]
    refine hn _ _ _ ⟨i + 1, _, _, rfl, ?_, by omega, rfl⟩ (by omega)
    rw [tRows_app] at ho3
    rw [ts]; simpa using ho3
  · have h3 : ¬ (i : Int) < ((L.p.length : Nat) : Int) := by omega
    simp (disch := first | assumption | omega | (simp only [LN] <;> omega) | (simp (disch := first | assumption | omega | (simp only [LN] <;> omega)) only [row_alloc, row_set]; assumption)) only [W_block, P3, ↓reduceIte, reduceAdd, reduceEqDiff, reduceCtorEq, initFr, reduceLT, clsA, reduceLeDiff, reduceMul, reduceSub, reduceIte, gl, lp]
    refine hx 0 _ _ ?_
    rw [List.take_of_length_le (by omega)] at ho
    have hns : TL K s (L.p.map (·.1)) := ho.sl
    clear hn hx hret
    have kk := kv.trans ho.k
    obtain rfl : i = L.p.length := by omega
    clear ho gl
    simp (disch := first | assumption | omega | (simp only [LN] <;> omega) | (simp (disch := first | assumption | omega | (simp only [LN] <;> omega)) only [row_alloc, row_set]; assumption)) only [ P3, ↓reduceIte, reduceAdd, reduceEqDiff, reduceCtorEq, initFr, reduceLT, clsA, reduceLeDiff, reduceMul, reduceSub, reduceIte]
    rw [W_block]
    refine W_loop2 (fun k fr X => ∃ i o l x9 x10 x12 x13, fr = [.agg #[us, up, ug, ur], v, ptr H.n 0, .slice none 0 0, .int .i64 0, s, .int .i64 ((L.p.length : Nat) : Int), o, .int .i64 ((i : Nat) : Int), x9, x10, .bool false, x12, x13] ∧ OW 45 2 K X o (l.map nRow) ∧ oAll (nIx L) (ws.take i) = some l ∧ l.length = i ∧ i ≤ ws.length ∧ k = ws.length - i) ws.length
      ⟨0, _, [], _, _, _, _, rfl, OW.nil _ _ (Keeps.refl K), by simp [oAll], rfl, by omega, rfl⟩ ?_
    rintro Q2 k fr X ⟨i2, o, l, x9, x10, x12, x13, rfl, ho, hp, hll, hi2, rfl⟩ hn hx hret
    have hb := ho.base kk
    by_cases hlt : i2 < ws.length
    · obtain ⟨na, ra⟩ := (hv.keeps hb.k).at_ hlt
      have h0 : (0 : Int) ≤ (i2 : Int) := by omega
      have h1 : (i2 : Int) < ((lenS v : Nat) : Int) := by omega
      have h3 : (i2 : Int) < ((ws.length : Nat) : Int) := by omega
      have hw : IntKind.i64.wrap ((i2 : Int) + 1) = ((i2 + 1 : Nat) : Int) := by rw [wrap_i64 (by omega) (by omega)]; simp
      have hlen := hws _ (getD_mem (d := []) hlt)
      have ts := oAll_snoc (nIx L) (ws.getD i2 []) (ws.take i2)
      rw [← take_snoc [] hlt, hp] at ts
      have stop := fun e => oAll_stop (f := nIx L) (n := ws.getD i2 []) e (l := ws) (getD_mem hlt)
      unfold tRow at ra
      generalize ws.getD i2 [] = n at *
      have hw1 : IntKind.i64.wrap (((n.length : Nat) : Int) - 1) = ((n.length - 1 : Nat) : Int) := by rw [wrap_i64 (by omega) (by omega)]; omega
      have hc1 : ∀ X, asem (.slstr (.string ⟨n.toArray⟩) none (some (.int .i64 ((n.length - 1 : Nat) : Int)))) X = some (.string ⟨(n.take (n.length - 1)).toArray⟩, X) := fun X => a_slsP (by omega)
      have hix : ∀ X, asem (.idxs (.string ⟨n.toArray⟩) (.int .i64 ((n.length - 1 : Nat) : Int))) X = some (.int .u8 ((n.getD (n.length - 1) 0).toNat : Nat), X) := fun X => a_idxS (by omega)
      have q1 : ((((n.getD (n.length - 1) 0).toNat : Nat) : Int) == 45) = sufB [45] n := by
        have := u8_eqi (n.getD (n.length - 1) 0) 45 (by omega)
        rw [suf1 45 hlen.1]
        exact Eq.trans this rfl
      simp (disch := first | assumption | omega | (simp only [LN] <;> omega) | (simp (disch := first | assumption | omega | (simp only [LN] <;> omega)) only [row_alloc, row_set]; assumption)) only [W_block, P3, ↓reduceIte, reduceAdd, reduceEqDiff, reduceCtorEq, initFr, reduceLT, clsA, reduceLeDiff, reduceMul, reduceSub, reduceIte, la, ra, na, a_load1v, a_lens, hw1, hc1]
      refine callK (t32 (hns.keeps ho.k) (by rw [List.length_map]; omega) (n.take (n.length - 1))) ?_
      rintro _ Y ⟨rfl, hY⟩
      rw [hY]
      rcases ixV_p L (n.take (n.length - 1)) with ⟨e1, e2⟩ | ⟨j, e1, e2⟩
      · have en : nIx L n = none := by simp [nIx, e1]
        rw [e2]
        have c1 : (-1 : Int) < 0 := by omega
        simp (disch := first | assumption | omega | (simp only [LN] <;> omega) | (simp (disch := first | assumption | omega | (simp only [LN] <;> omega)) only [row_alloc, row_set]; assumption)) only [W_block, P3, ↓reduceIte, reduceAdd, reduceEqDiff, reduceCtorEq, initFr, reduceLT, clsA, reduceLeDiff, reduceMul, reduceSub, reduceIte]
        refine hret _ _ (hq2 _ _ ⟨_, rfl, hb.k, .slice none 0 0, ?_, ?_⟩)
        · rw [stop en]; rfl
        · rw [stop en]; exact OW.nil _ _ hb.k
      · have en : nIx L n = some ((j : Int), sufB [45] n) := by simp [nIx, e1]
        rw [e2]
        rw [en] at ts
        have c1 : ¬ ((j : Nat) : Int) < 0 := by omega
        have hf2 : fillA [.int .i64 0, .bool false] [(0, 1, .int .i64 ((j : Nat) : Int)), (1, 1, .bool (sufB [45] n))] = some [.int .i64 ((j : Nat) : Int), .bool (sufB [45] n)] := rfl
        have hf3 : fillA [.int .i64 0, .bool false] [(0, 2, .agg #[.int .i64 ((j : Nat) : Int), .bool (sufB [45] n)])] = some [.int .i64 ((j : Nat) : Int), .bool (sufB [45] n)] := rfl
        simp (disch := first | assumption | omega | (simp only [LN] <;> omega) | (simp (disch := first | assumption | omega | (simp only [LN] <;> omega)) only [row_alloc, row_set]; assumption)) only [W_block, P3, ↓reduceIte, reduceAdd, reduceEqDiff, reduceCtorEq, initFr, reduceLT, clsA, reduceLeDiff, reduceMul, reduceSub, reduceIte, la, ra, na, a_load1v, hix, q1, hf2, hf3]
        have ho2 := ho.keeps ((Keeps.refl X).alloc (.cells true false 2 [.int .i64 ((j : Nat) : Int), .bool (sufB [45] n)] 45))
        refine ho2.appR (b := 16) (Sl.one1 rfl rfl) (by simp only [List.length_map, List.length_cons, List.length_nil]; omega) ?_
        intro v' K' ho3 _
        simp (disch := first | assumption | omega | (simp only [LN] <;> omega) | (simp (disch := first | assumption | omega | (simp only [LN] <;> omega)) only [row_alloc, row_set]; assumption)) only [W_block, P3, ↓reduceIte, reduceAdd, reduceEqDiff, reduceCtorEq, initFr, reduceLT, clsA, reduceLeDiff, reduceMul, reduceSub, reduceIte, hw]
        refine hn _ _ _ ⟨i2 + 1, _, l ++ [(((j : Nat) : Int), sufB [45] n)], _, _, _, _, rfl, ?_, ts, by simp [hll], by omega, rfl⟩ (by omega)
        simpa [nRow] using ho3
    · have h3 : ¬ (i2 : Int) < ((ws.length : Nat) : Int) := by omega
      simp (disch := first | assumption | omega | (simp only [LN] <;> omega) | (simp (disch := first | assumption | omega | (simp only [LN] <;> omega)) only [row_alloc, row_set]; assumption)) only [W_block, P3, ↓reduceIte, reduceAdd, reduceEqDiff, reduceCtorEq, initFr, reduceLT, clsA, reduceLeDiff, reduceMul, reduceSub, reduceIte, la]
      refine hx 2 _ _ ?_
      simp (disch := first | assumption | omega | (simp only [LN] <;> omega) | (simp (disch := first | assumption | omega | (simp only [LN] <;> omega)) only [row_alloc, row_set]; assumption)) only [W_block, P3, ↓reduceIte, reduceAdd, reduceEqDiff, reduceCtorEq, initFr, reduceLT, clsA, reduceLeDiff, reduceMul, reduceSub, reduceIte]
      rw [List.take_of_length_le (by omega)] at hp
      refine hq2 _ _ ⟨_, rfl, hb.k, o, ?_, ?_⟩
      · rw [hp]; rfl
      · rw [hp]; exact hb
end Go.AM.Fd

set_option linter.unusedSimpArgs false
set_option linter.unusedVariables false
namespace Go.AM.Fd
open Nat (reduceAdd reduceEqDiff reduceLT reduceLeDiff reduceMul reduceSub)
open Go.Proofs Go.AM.F
def okC (l : List UInt8) (x : Nat × Int) : Bool := !decide (x.2 < 32) && !(x.2 == 65533 && !wholeB l x.1)
def okW (l : List UInt8) : Bool := (runF l 0).all (okC l)
def wordsB (l : List UInt8) : List (List UInt8) := (splitB 32 l).filter fun t => !t.isEmpty
def txs (ts : List (List UInt8)) : List Value := ts.map fun t => .string ⟨t.toArray⟩
theorem txs_len (ts : List (List UInt8)) : (txs ts).length = ts.length := by simp [txs]
theorem txs_app (a : List (List UInt8)) (t : List UInt8) : txs a ++ [.string ⟨t.toArray⟩] = txs (a ++ [t]) := by simp [txs]
theorem AP.tl {H : AHeap} {v : Value} {ts : List (List UInt8)} (h : AP H 9 1 v ts.length (txs ts)) : TL H v ts := by
  refine AP.sl (rows := ts.map tRow) (e := 9) (n := ts.length) ?_ (by simp [tRow]) (by simp)
  have : (ts.map tRow).flatten = txs ts := by
    clear h
    unfold txs
    induction ts with
    | nil => rfl
    | cons t ts ih => simp only [List.map_cons, List.flatten_cons, ih]; rfl
  rw [this]
  simpa using h
theorem splitB_len (c : UInt8) : ∀ l : List UInt8, (splitB c l).length ≤ l.length + 1
  | [] => by simp [splitB]
  | x :: l => by
    have ih := splitB_len c l
    simp only [splitB]
    split
    · simp; omega
    · split
      · rename_i p r h; rw [h] at ih; simp at ih ⊢; omega
      · simp
theorem wordsB_len (l : List UInt8) : (wordsB l).length ≤ l.length + 1 := Nat.le_trans (List.length_filter_le ..) (splitB_len ..)
theorem ixB_drop {c : UInt8} {l : List UInt8} {f i : Nat} (hf : f ≤ i) (hi : i < l.length) (hc : l.getD i 0 = c) (hn : ∀ j, f ≤ j → j < i → l.getD j 0 ≠ c) : ixB c (l.drop f) = some (i - f) := by
  refine ixB_at (by rw [List.length_drop]; omega) ?_ (fun j hj => ?_)
  · simp only [List.getD, List.getElem?_drop] at hc ⊢
    rw [show f + (i - f) = i by omega]; exact hc
  · have := hn (f + j) (by omega) (by omega)
    simp only [List.getD, List.getElem?_drop] at this ⊢
    exact this
theorem ixB_drop_no {c : UInt8} {l : List UInt8} {f : Nat} (hn : ∀ j, f ≤ j → j < l.length → l.getD j 0 ≠ c) : ixB c (l.drop f) = none := by
  refine ixB_no (fun j hj => ?_)
  rw [List.length_drop] at hj
  have := hn (f + j) (by omega) (by omega)
  simp only [List.getD, List.getElem?_drop] at this ⊢
  exact this
def WRes (H : AHeap) (w : Value) (K : AHeap) (l : List UInt8) : Prop :=
  Keeps H K ∧ if okW (aheadB l) then ∃ v, w = .tuple #[v, .int .i64 0] ∧ AP K 9 1 v (wordsB (aheadB l)).length (txs (wordsB (aheadB l))) ∧ Fresh H.n v else w = .tuple #[.slice none 0 0, .int .i64 30]
theorem ahead_len (l : List UInt8) : (aheadB l).length ≤ l.length := by
  unfold aheadB
  split <;> simp; omega
theorem t21 (H : AHeap) (l : List UInt8) (hl : l.length ≤ 1000000) : ∃ w K, ARun Go.Proofs.Tryd.prog 4 21 [.string ⟨l.toArray⟩] H w K ∧ WRes H w K l := by
  refine walk2 f21_ok f21_n ?_
  intro Q hq1 hq2
  have hal := ahead_len l
  simp (disch := first | assumption | omega | (simp only [LN] <;> omega) | (simp (disch := first | assumption | omega | (simp only [LN] <;> omega)) only [row_alloc, row_set]; assumption)) only [ f21, P3, ↓reduceIte, reduceAdd, reduceEqDiff, reduceCtorEq, initFr, reduceLT, clsA, reduceLeDiff, reduceMul, reduceSub, reduceIte]
  refine callK (t47 H l (by omega)) ?_
  rintro _ K ⟨rfl, rfl⟩
  obtain ⟨s, hs⟩ : ∃ s, aheadB l = s := ⟨_, rfl⟩
  unfold WRes at hq1 hq2
  rw [hs] at hal hq1 hq2 ⊢
  simp (disch := first | assumption | omega | (simp only [LN] <;> omega) | (simp (disch := first | assumption | omega | (simp only [LN] <;> omega)) only [row_alloc, row_set]; assumption)) only [ P3, ↓reduceIte, reduceAdd, reduceEqDiff, reduceCtorEq, initFr, reduceLT, clsA, reduceLeDiff, reduceMul, reduceSub, reduceIte, a_rngS]
  rw [W_block]
  refine W_loop2 (fun k fr L => ∃ p x3 x4 x9 x10 x11, fr = [.string ⟨s.toArray⟩, .slice none 0 0, .int .i64 0, x3, x4, undef, undef, undef, ptr K.n 0, x9, x10, x11, undef, undef, undef] ∧ L.get K.n = some (.obj true (.stringIter ⟨s.toArray⟩ p)) ∧ Keeps K L ∧
      okW s = (runF s p).all (okC s) ∧ k = s.length - p) s.length
    ⟨0, _, _, _, _, _, rfl, AHeap.get_alloc_new _ _, (Keeps.refl K).alloc _, rfl, rfl⟩ ?_
  rintro Q' k fr L ⟨p, x3, x4, x9, x10, x11, rfl, hg, hk, hr, rfl⟩ hn hx hret
  by_cases hp : p < s.length
  · have hstep := runF_step hp
    have hpos := decB_pos (l := s) (p := p)
    have hset := hk.set (Nat.le_refl _) (AHeap.get_lt hg) (.obj true (.stringIter ⟨s.toArray⟩ (p + (decB s p).2)))
    have hnext : okC s (p, ((decB s p).1 : Int)) = true → okW s = (runF s (p + (decB s p).2)).all (okC s) := fun h => by rw [hr, hstep]; simp [h]
    have hbad : okC s (p, ((decB s p).1 : Int)) = false → okW s = false := fun h => by rw [hr, hstep]; simp [h]
    have hgs := AHeap.get_set_same hg (.obj true (.stringIter ⟨s.toArray⟩ (p + (decB s p).2)))
    obtain ⟨d, hd⟩ : ∃ d, (decB s p).1 = d := ⟨_, rfl⟩
    rw [hd] at hnext hbad
    have hnx := a_nextY hg hp
    rw [hd] at hnx
    by_cases c1 : (d : Int) < 32
    · simp (disch := first | assumption | omega | (simp only [LN] <;> omega) | (simp (disch := first | assumption | omega | (simp only [LN] <;> omega)) only [row_alloc, row_set]; assumption)) only [W_block, P3, ↓reduceIte, reduceAdd, reduceEqDiff, reduceCtorEq, initFr, reduceLT, clsA, reduceLeDiff, reduceMul, reduceSub, reduceIte, hnx]
      refine hret _ _ (hq2 _ _ ⟨_, rfl, hset, ?_⟩)
      rw [hbad (by simp [okC, c1])]
      rfl
    · by_cases c2 : (d : Int) = 65533
      · have e2 : ((d : Int) == 65533) = true := by simpa using c2
        simp (disch := first | assumption | omega | (simp only [LN] <;> omega) | (simp (disch := first | assumption | omega | (simp only [LN] <;> omega)) only [row_alloc, row_set]; assumption)) only [W_block, P3, ↓reduceIte, reduceAdd, reduceEqDiff, reduceCtorEq, initFr, reduceLT, clsA, reduceLeDiff, reduceMul, reduceSub, reduceIte, hnx, e2]
        refine callK (t48 _ s p (by omega) (by omega)) ?_
        rintro _ K2 ⟨rfl, rfl⟩
        cases c3 : wholeB s p with
        | true =>
          simp (disch := first | assumption | omega | (simp only [LN] <;> omega) | (simp (disch := first | assumption | omega | (simp only [LN] <;> omega)) only [row_alloc, row_set]; assumption)) only [W_block, P3, ↓reduceIte, reduceAdd, reduceEqDiff, reduceCtorEq, initFr, reduceLT, clsA, reduceLeDiff, reduceMul, reduceSub, reduceIte]
          exact hn _ _ _ ⟨p + (decB s p).2, _, _, _, _, _, rfl, hgs, hset, hnext (by simp [okC, c1, c2, c3]), rfl⟩ (by omega)
        | false =>
          simp (disch := first | assumption | omega | (simp only [LN] <;> omega) | (simp (disch := first | assumption | omega | (simp only [LN] <;> omega)) only [row_alloc, row_set]; assumption)) only [W_block, P3, ↓reduceIte, reduceAdd, reduceEqDiff, reduceCtorEq, initFr, reduceLT, clsA, reduceLeDiff, reduceMul, reduceSub, reduceIte]
          refine hret _ _ (hq2 _ _ ⟨_, rfl, hset, ?_⟩)
          rw [hbad (by simp [okC, c1, c2, c3])]
          rfl
      · have e2 : ((d : Int) == 65533) = false := by simpa using c2
        simp (disch := first | assumption | omega | (simp only [LN] <;> omega) | (simp (disch := first | assumption | omega | (simp only [LN] <;> omega)) only [row_alloc, row_set]; assumption)) only [W_block, P3, ↓reduceIte, reduceAdd, reduceEqDiff, reduceCtorEq, initFr, reduceLT, clsA, reduceLeDiff, reduceMul, reduceSub, reduceIte, hnx, e2]
        exact hn _ _ _ ⟨p + (decB s p).2, _, _, _, _, _, rfl, hgs, hset, hnext (by simp [okC, c1, c2]), rfl⟩ (by omega)
  · have hend := runF_end hp
    rw [hend] at hr
    simp only [List.all_nil] at hr
    rw [hr] at hq1 hq2
    simp only [if_true] at hq1 hq2
    simp (disch := first | assumption | omega | (simp only [LN] <;> omega) | (simp (disch := first | assumption | omega | (simp only [LN] <;> omega)) only [row_alloc, row_set]; assumption)) only [W_block, P3, ↓reduceIte, reduceAdd, reduceEqDiff, reduceCtorEq, initFr, reduceLT, clsA, reduceLeDiff, reduceMul, reduceSub, reduceIte, a_nextN hg hp]
    refine hx 0 _ _ ?_
    simp (disch := first | assumption | omega | (simp only [LN] <;> omega) | (simp (disch := first | assumption | omega | (simp only [LN] <;> omega)) only [row_alloc, row_set]; assumption)) only [ P3, ↓reduceIte, reduceAdd, reduceEqDiff, reduceCtorEq, initFr, reduceLT, clsA, reduceLeDiff, reduceMul, reduceSub, reduceIte]
    rw [W_block]
    refine W_loop2 (fun k fr M => ∃ i f ts v x12 x13 x14, fr = [.string ⟨s.toArray⟩, .slice none 0 0, .int .i64 0, x3, x4, v, .int .i64 ((f : Nat) : Int), .int .i64 ((i : Nat) : Int), ptr K.n 0, .tuple #[.bool false], .bool false, x11, x12, x13, x14] ∧
        Keeps K M ∧ AP M 9 1 v ts.length (txs ts) ∧ Fresh K.n v ∧ f ≤ i ∧ i ≤ s.length + 1 ∧ k = s.length + 1 - i ∧ ts.length ≤ i ∧
        ((i ≤ s.length ∧ (∀ j, f ≤ j → j < i → s.getD j 0 ≠ 32) ∧ wordsB s = ts ++ wordsB (s.drop f)) ∨ (i = s.length + 1 ∧ wordsB s = ts))) (s.length + 1)
      ⟨0, 0, [], _, _, _, _, rfl, hk, .inl ⟨rfl, rfl, rfl⟩, (fun b hb => by cases hb), Nat.le_refl _, by omega, rfl, by simp, .inl ⟨by omega, fun j h1 h2 => absurd h2 (by omega), by simp⟩⟩ ?_
    rintro Q2 k fr M ⟨i, f, ts, v, x12, x13, x14, rfl, km, ha, hfr, hfi, hi, rfl, htl, hcase⟩ hn2 hx2 hret2
    have hw : IntKind.i64.wrap ((i : Int) + 1) = ((i + 1 : Nat) : Int) := by rw [wrap_i64 (by omega) (by omega)]; simp
    rcases hcase with ⟨hi1, hns, hws⟩ | ⟨rfl, hws⟩
    · have hle : (i : Int) ≤ ((s.length : Nat) : Int) := by omega
      have hfs : f ≤ s.length := by omega
      by_cases hlt : i < s.length
      · have h3 : (i : Int) < ((s.length : Nat) : Int) := by omega
        have e0 : ((((s.getD i 0).toNat : Nat) : Int) != 32) = !(s.getD i 0 == 32) := by
          have h32 : ((((s.getD i 0).toNat : Nat) : Int) == 32) = (s.getD i 0 == 32) := u8_eqi (s.getD i 0) 32 (by omega)
          simp only [bne]
          rw [h32]
        by_cases he : s.getD i 0 = 32
        · have e1 : (s.getD i 0 == 32) = true := by simpa using he
          rw [e1] at e0
          simp only [Bool.not_true] at e0
          have hix := ixB_drop hfi hlt he hns
          have hsp : splitB 32 (s.drop f) = (s.take i).drop f :: splitB 32 (s.drop (i + 1)) := by
            rw [splitB_ix, hix]
            simp only
            rw [List.drop_drop, show f + (i - f + 1) = i + 1 by omega, List.drop_take]
          by_cases hlf : f < i
          · have hlf' : (f : Int) < (i : Int) := by omega
            have hne : ((s.take i).drop f).isEmpty = false := by
              rw [List.isEmpty_eq_false_iff, ← List.length_pos_iff, List.length_drop, List.length_take]; omega
            have hfl : fillA [.string ByteArray.empty] [(0, 1, .string ⟨((s.take i).drop f).toArray⟩)] = some [.string ⟨((s.take i).drop f).toArray⟩] := rfl
            have k4 := (Keeps.refl M).alloc (.cells true false 1 [.string ⟨((s.take i).drop f).toArray⟩] 9)
            simp (disch := first | assumption | omega | (simp only [LN] <;> omega) | (simp (disch := first | assumption | omega | (simp only [LN] <;> omega)) only [row_alloc, row_set]; assumption)) only [W_block, P3, ↓reduceIte, reduceAdd, reduceEqDiff, reduceCtorEq, initFr, reduceLT, clsA, reduceLeDiff, reduceMul, reduceSub, reduceIte, a_idxS, e0, a_slsM, hfl]
            refine appG (ha.keeps k4) ⟨_, _, rfl⟩ (elems_new rfl rfl) rfl (by omega) ?_
            intro v' M2 a2 c2 b2
            simp (disch := first | assumption | omega | (simp only [LN] <;> omega) | (simp (disch := first | assumption | omega | (simp only [LN] <;> omega)) only [row_alloc, row_set]; assumption)) only [W_block, P3, ↓reduceIte, reduceAdd, reduceEqDiff, reduceCtorEq, initFr, reduceLT, clsA, reduceLeDiff, reduceMul, reduceSub, reduceIte, hw]
            have hk2 : Keeps K M2 := (km.trans k4).chg_trans c2 (hfr.L)
            refine hn2 _ _ _ ⟨i + 1, i + 1, ts ++ [(s.take i).drop f], v', _, _, _, rfl, hk2, ?_, hfr.app (by have := km.n; simp [AHeap.alloc]; omega) b2, Nat.le_refl _, by omega, rfl, by simp; omega, .inl ⟨by omega, fun j h1 h2 => absurd h2 (by omega), ?_⟩⟩ (by omega)
            · simpa [txs_app] using a2
            · rw [hws]
              unfold wordsB
              rw [hsp, List.filter_cons, hne]
              simp
          · have hfe : f = i := by omega
            subst hfe
            have hlf' : ¬ (f : Int) < (f : Int) := by omega
            simp (disch := first | assumption | omega | (simp only [LN] <;> omega) | (simp (disch := first | assumption | omega | (simp only [LN] <;> omega)) only [row_alloc, row_set]; assumption)) only [W_block, P3, ↓reduceIte, reduceAdd, reduceEqDiff, reduceCtorEq, initFr, reduceLT, clsA, reduceLeDiff, reduceMul, reduceSub, reduceIte, a_idxS, e0, hw]
            refine hn2 _ _ _ ⟨f + 1, f + 1, ts, v, _, _, _, rfl, km, ha, hfr, Nat.le_refl _, by omega, rfl, by omega, .inl ⟨by omega, fun j h1 h2 => absurd h2 (by omega), ?_⟩⟩ (by omega)
            rw [hws]
            unfold wordsB
            rw [hsp, List.filter_cons]
            simp
        · have e1 : (s.getD i 0 == 32) = false := by simpa using he
          rw [e1] at e0
          simp only [Bool.not_false] at e0
          simp (disch := first | assumption | omega | (simp only [LN] <;> omega) | (simp (disch := first | assumption | omega | (simp only [LN] <;> omega)) only [row_alloc, row_set]; assumption)) only [W_block, P3, ↓reduceIte, reduceAdd, reduceEqDiff, reduceCtorEq, initFr, reduceLT, clsA, reduceLeDiff, reduceMul, reduceSub, reduceIte, a_idxS, e0, hw]
          refine hn2 _ _ _ ⟨i + 1, f, ts, v, _, _, _, rfl, km, ha, hfr, by omega, by omega, rfl, by omega, .inl ⟨by omega, fun j h1 h2 => ?_, hws⟩⟩ (by omega)
          rcases Nat.lt_or_ge j i with h | h
          · exact hns j h1 h
          · rw [show j = i by omega]; exact he
      · have hie : i = s.length := by omega
        have h3 : ¬ (i : Int) < ((s.length : Nat) : Int) := by omega
        have hsp : splitB 32 (s.drop f) = [s.drop f] := by
          rw [splitB_ix, ixB_drop_no (fun j h1 h2 => hns j h1 (by omega))]
        by_cases hlf : f < i
        · have hlf' : (f : Int) < (i : Int) := by omega
          have hse : (s.take i).drop f = s.drop f := by rw [List.take_of_length_le (by omega)]
          have hne : (s.drop f).isEmpty = false := by
            rw [List.isEmpty_eq_false_iff, ← List.length_pos_iff, List.length_drop]; omega
          have hfl : fillA [.string ByteArray.empty] [(0, 1, .string ⟨((s.take i).drop f).toArray⟩)] = some [.string ⟨((s.take i).drop f).toArray⟩] := rfl
          have k4 := (Keeps.refl M).alloc (.cells true false 1 [.string ⟨((s.take i).drop f).toArray⟩] 9)
          simp (disch := first | assumption | omega | (simp only [LN] <;> omega) | (simp (disch := first | assumption | omega | (simp only [LN] <;> omega)) only [row_alloc, row_set]; assumption)) only [W_block, P3, ↓reduceIte, reduceAdd, reduceEqDiff, reduceCtorEq, initFr, reduceLT, clsA, reduceLeDiff, reduceMul, reduceSub, reduceIte, a_slsM, hfl]
          refine appG (ha.keeps k4) ⟨_, _, rfl⟩ (elems_new rfl rfl) rfl (by omega) ?_
          intro v' M2 a2 c2 b2
          simp (disch := first | assumption | omega | (simp only [LN] <;> omega) | (simp (disch := first | assumption | omega | (simp only [LN] <;> omega)) only [row_alloc, row_set]; assumption)) only [W_block, P3, ↓reduceIte, reduceAdd, reduceEqDiff, reduceCtorEq, initFr, reduceLT, clsA, reduceLeDiff, reduceMul, reduceSub, reduceIte, hw]
          have hk2 : Keeps K M2 := (km.trans k4).chg_trans c2 (hfr.L)
          refine hn2 _ _ _ ⟨i + 1, i + 1, ts ++ [(s.take i).drop f], v', _, _, _, rfl, hk2, ?_, hfr.app (by have := km.n; simp [AHeap.alloc]; omega) b2, Nat.le_refl _, by omega, rfl, by simp; omega, .inr ⟨by omega, ?_⟩⟩ (by omega)
          · simpa [txs_app] using a2
          · rw [hws, hse]
            unfold wordsB
            rw [hsp, List.filter_cons, hne]
            simp
        · have hfe : f = i := by omega
          subst hfe
          have hlf' : ¬ (f : Int) < (f : Int) := by omega
          simp (disch := first | assumption | omega | (simp only [LN] <;> omega) | (simp (disch := first | assumption | omega | (simp only [LN] <;> omega)) only [row_alloc, row_set]; assumption)) only [W_block, P3, ↓reduceIte, reduceAdd, reduceEqDiff, reduceCtorEq, initFr, reduceLT, clsA, reduceLeDiff, reduceMul, reduceSub, reduceIte, hw]
          refine hn2 _ _ _ ⟨f + 1, f + 1, ts, v, _, _, _, rfl, km, ha, hfr, Nat.le_refl _, by omega, rfl, by omega, .inr ⟨by omega, ?_⟩⟩ (by omega)
          rw [hws]
          unfold wordsB
          rw [hsp, List.filter_cons]
          simp [hie]
    · have hle : ¬ ((s.length + 1 : Nat) : Int) ≤ ((s.length : Nat) : Int) := by omega
      simp (disch := first | assumption | omega | (simp only [LN] <;> omega) | (simp (disch := first | assumption | omega | (simp only [LN] <;> omega)) only [row_alloc, row_set]; assumption)) only [W_block, P3, ↓reduceIte, reduceAdd, reduceEqDiff, reduceCtorEq, initFr, reduceLT, clsA, reduceLeDiff, reduceMul, reduceSub, reduceIte]
      refine hx2 2 _ _ ?_
      simp (disch := first | assumption | omega | (simp only [LN] <;> omega) | (simp (disch := first | assumption | omega | (simp only [LN] <;> omega)) only [row_alloc, row_set]; assumption)) only [W_block, P3, ↓reduceIte, reduceAdd, reduceEqDiff, reduceCtorEq, initFr, reduceLT, clsA, reduceLeDiff, reduceMul, reduceSub, reduceIte]
      exact hq2 _ _ ⟨_, rfl, km, v, rfl, by rw [hws]; exact ha, hfr⟩
end Go.AM.Fd

set_option linter.unusedSimpArgs false
set_option linter.unusedVariables false
set_option maxRecDepth 4000
namespace Go.AM.Fd
open Nat (reduceAdd reduceEqDiff reduceLT reduceLeDiff reduceMul reduceSub)
open Go.Proofs Go.AM.F
def flW (ts : List (List UInt8)) : List (List UInt8) := ts.filter fun t => !t.isEmpty
theorem flW_app (a : List (List UInt8)) (x : List UInt8) : flW (a ++ [x]) = flW a ++ (if x = [] then [] else [x]) := by
  unfold flW
  rw [List.filter_append]
  cases x <;> simp
structure WJ (K : AHeap) (L : LRec) (pre : List (List UInt8)) (sc : List UInt8) (H : AHeap) (v : Value) : Prop where
  keep : Keeps K H
  row : H.get K.n = some (.cells true false 1 [v] 23)
  txt : H.get (K.n + 1) = some (boxS sc)
  sep : H.get (K.n + 2) = some (boxS [32])
  sav : H.get (K.n + 3) = some (.cells true false 1 [.int .i64 0] 3)
  rec_ : H.get (K.n + 4) = some (.loop true .ready none L)
  ap : AP H 9 1 v (flW pre).length (txs (flW pre))
  fresh : Fresh (K.n + 5) v
theorem WJ.n {K : AHeap} {L : LRec} {pre : List (List UInt8)} {sc : List UInt8} {H : AHeap} {v : Value} (h : WJ K L pre sc H v) : K.n + 5 ≤ H.n := AHeap.get_lt h.rec_
theorem WJ.put {K : AHeap} {L : LRec} {pre : List (List UInt8)} {sc : List UInt8} {H : AHeap} {v : Value} (h : WJ K L pre sc H v) (sc' : List UInt8) : WJ K L pre sc' (H.set (K.n + 1) (boxS sc')) v := by
  have hn := h.n
  have hlt : K.n + 1 < H.n := by omega
  have o : ∀ {b : Nat} {x : AO}, b ≠ K.n + 1 → H.get b = some x → (H.set (K.n + 1) (boxS sc')).get b = some x := fun hb hx => by rw [AHeap.get_set_other H hb hlt]; exact hx
  exact ⟨h.keep.set (by omega) hlt _, o (by omega) h.row, AHeap.get_set_same h.txt _, o (by omega) h.sep, o (by omega) h.sav, o (by omega) h.rec_,
    h.ap.chg (Chg.set H hlt _) (fun x hx => by have := h.fresh x (mem_blkL.1 hx); simp; omega), h.fresh⟩
theorem WJ.round {K : AHeap} {pre : List (List UInt8)} {sc x : List UInt8} {H : AHeap} {v : Value} {x0 x1 x2 x3 x4 x6 x7 x8 x9 x10 x11 x12 x13 : Value}
    (h : WJ K ⟨43, [0, 2, 3, 4, 5, 6, 7, 15, 16, 17, 32, 34, 35, 37], [x0, x1, x2, x3, x4, ptr K.n 0, x6, x7, x8, x9, x10, x11, x12, x13], #[35], rfA Go.Proofs.Tryd.prog 43 0, rfB Go.Proofs.Tryd.prog 43 0⟩ pre sc H v) (hl : pre.length ≤ 10000000) :
    ∃ w H', AYield Go.Proofs.Tryd.prog 4 (K.n + 4) [.string ⟨x.toArray⟩] H w H' ∧ w = .bool true ∧ ∃ v', WJ K ⟨43, [0, 2, 3, 4, 5, 6, 7, 15, 16, 17, 32, 34, 35, 37], [x0, x1, x2, x3, x4, ptr K.n 0, x6, x7, x8, x9, x10, x11, x12, x13], #[35], rfA Go.Proofs.Tryd.prog 43 0, rfB Go.Proofs.Tryd.prog 43 0⟩ (pre ++ [x]) sc H' v' := by
  obtain ⟨L, hL⟩ : ∃ L : LRec, (⟨43, [0, 2, 3, 4, 5, 6, 7, 15, 16, 17, 32, 34, 35, 37], [x0, x1, x2, x3, x4, ptr K.n 0, x6, x7, x8, x9, x10, x11, x12, x13], #[35], rfA Go.Proofs.Tryd.prog 43 0, rfB Go.Proofs.Tryd.prog 43 0⟩ : LRec) = L := ⟨_, rfl⟩
  have hn := h.n
  have hlen : (flW pre).length ≤ pre.length := List.length_filter_le ..
  refine yield_of (R := fun w H' => w = .bool true ∧ ∃ v', WJ K _ (pre ++ [x]) sc H' v') h.rec_ f43r0a_ok f43r0b_ok f43r0_n rfl rfl ?_
  show W Go.Proofs.Tryd.prog 4 f43r0a _ [x0, x1, x2, x3, x4, ptr K.n 0, x6, x7, x8, x9, x10, x11, .string ⟨x.toArray⟩, x13] H
  rw [hL] at h ⊢
  simp (disch := first | assumption | omega | (simp only [LN] <;> omega) | (simp (disch := first | assumption | omega | (simp only [LN] <;> omega)) only [row_alloc, row_set]; assumption)) only [f43r0a, W_block, P3, ↓reduceIte, reduceAdd, reduceEqDiff, reduceCtorEq, initFr, reduceLT, clsA, reduceLeDiff, reduceMul, reduceSub, reduceIte]
  refine ⟨none, L, h.rec_, ?_⟩
  have hlt : K.n + 4 < H.n := by omega
  obtain ⟨H1, hH1⟩ : ∃ H1, H.set (K.n + 4) (.loop true .busy none L) = H1 := ⟨_, rfl⟩
  have o : ∀ {b : Nat} {y : AO}, b ≠ K.n + 4 → H.get b = some y → H1.get b = some y := fun hb hy => by rw [← hH1, AHeap.get_set_other H hb hlt]; exact hy
  have n1 : H1.n = H.n := by rw [← hH1]; rfl
  have r1 := o (by omega) h.row
  have g1 : H1.get (K.n + 4) = some (.loop true .busy none L) := by rw [← hH1]; exact AHeap.get_set_same h.rec_ _
  have k1 : Keeps K H1 := by rw [← hH1]; exact h.keep.set (by omega) hlt _
  have a1 : AP H1 9 1 v (flW pre).length (txs (flW pre)) := by rw [← hH1]; exact h.ap.chg (Chg.set H hlt _) (fun x hx => by have := h.fresh x (mem_blkL.1 hx); simp; omega)
  rw [hH1]
  have fin : ∀ (H2 : AHeap) (fr : List Value), H2.get (K.n + 4) = some (.loop true .busy none L) → (∃ v', WJ K L (pre ++ [x]) sc (H2.set (K.n + 4) (.loop true .ready none L)) v') → roundQ (K.n + 4) (fun w H' => w = .bool true ∧ ∃ v', WJ K L (pre ++ [x]) sc H' v') .normal fr H2 := by
    intro H2 fr hg hw
    unfold roundQ
    rw [hg]
    exact ⟨rfl, hw⟩
  have back : ∀ (H2 : AHeap) (v' : Value), Keeps K H2 → H2.get K.n = some (.cells true false 1 [v'] 23) → H2.get (K.n + 1) = some (boxS sc) → H2.get (K.n + 2) = some (boxS [32]) → H2.get (K.n + 3) = some (.cells true false 1 [.int .i64 0] 3) →
      H2.get (K.n + 4) = some (.loop true .busy none L) → AP H2 9 1 v' (flW (pre ++ [x])).length (txs (flW (pre ++ [x]))) → Fresh (K.n + 5) v' → WJ K L (pre ++ [x]) sc (H2.set (K.n + 4) (.loop true .ready none L)) v' := by
    intro H2 v' c1 c2 c3 c4 c5 c6 c7 c8
    have hl2 := AHeap.get_lt c6
    have o2 : ∀ {b : Nat} {y : AO}, b ≠ K.n + 4 → H2.get b = some y → (H2.set (K.n + 4) (.loop true .ready none L)).get b = some y := fun hb hy => by rw [AHeap.get_set_other H2 hb hl2]; exact hy
    exact ⟨c1.set (by omega) hl2 _, o2 (by omega) c2, o2 (by omega) c3, o2 (by omega) c4, o2 (by omega) c5, AHeap.get_set_same c6 _, c7.chg (Chg.set H2 hl2 _) (fun x hx => by have := c8 x (mem_blkL.1 hx); simp; omega), c8⟩
  by_cases hx : x = []
  · have e : decide (x = []) = true := by simpa using hx
    simp (disch := first | assumption | omega | (simp only [LN] <;> omega) | (simp (disch := first | assumption | omega | (simp only [LN] <;> omega)) only [row_alloc, row_set]; assumption)) only [f43r0b, W_block, P3, ↓reduceIte, reduceAdd, reduceEqDiff, reduceCtorEq, initFr, reduceLT, clsA, reduceLeDiff, reduceMul, reduceSub, reduceIte, str_emp, bytes_eq, e]
    refine fin _ _ g1 ⟨v, back _ _ k1 r1 (o (by omega) h.txt) (o (by omega) h.sep) (o (by omega) h.sav) g1 ?_ h.fresh⟩
    rw [flW_app, if_pos hx, List.append_nil]
    exact a1
  · have e : decide (x = []) = false := by simpa using hx
    have hfl : fillA [.string ⟨([] : List UInt8).toArray⟩] [(0, 1, .string ⟨x.toArray⟩)] = some [.string ⟨x.toArray⟩] := rfl
    have k4 := (Keeps.refl H1).alloc (.cells true false 1 [.string ⟨x.toArray⟩] 9)
    simp (disch := first | assumption | omega | (simp only [LN] <;> omega) | (simp (disch := first | assumption | omega | (simp only [LN] <;> omega)) only [row_alloc, row_set]; assumption)) only [f43r0b, W_block, P3, ↓reduceIte, reduceAdd, reduceEqDiff, reduceCtorEq, initFr, reduceLT, clsA, reduceLeDiff, reduceMul, reduceSub, reduceIte, str_emp, bytes_eq, e, r1, hfl]
    refine appG (a1.keeps k4) ⟨_, _, rfl⟩ (elems_new rfl rfl) rfl (by omega) ?_
    intro v' M2 a2 c2 b2
    have q : ∀ {b : Nat} {y : AO}, b < K.n + 5 → H1.get b = some y → M2.get b = some y := fun hb hy => by
      refine c2.at_ (k4.at_ hy) (fun hm => ?_)
      have := h.fresh _ (mem_blkL.1 hm)
      omega
    have r2 := q (by omega) r1
    have ov' : one1 v' = True := by
      obtain ⟨a, ha⟩ := a2.shape
      rw [ha]; exact o_sl ..
    have ov2 : v'.oneCell' = true := by
      obtain ⟨a, ha⟩ := a2.shape
      rw [ha]; rfl
    have f2 : Fresh (K.n + 5) v' := h.fresh.app (by simp [AHeap.alloc]; omega) b2
    have l2 := AHeap.get_lt r2
    simp (disch := first | assumption | omega | (simp only [LN] <;> omega) | (simp (disch := first | assumption | omega | (simp only [LN] <;> omega)) only [row_alloc, row_set]; assumption)) only [W_block, P3, ↓reduceIte, reduceAdd, reduceEqDiff, reduceCtorEq, initFr, reduceLT, clsA, reduceLeDiff, reduceMul, reduceSub, reduceIte, r2, ov2]
    have o3 : ∀ {b : Nat} {y : AO}, b ≠ K.n → M2.get b = some y → (M2.set K.n (.cells true false 1 [v'] 23)).get b = some y := fun hb hy => by rw [AHeap.get_set_other M2 hb l2]; exact hy
    have k2 : Keeps K M2 := (k1.trans k4).chg_trans c2 (fun y hy => by have := h.fresh y (mem_blkL.1 hy); omega)
    refine fin _ _ (o3 (by omega) (q (by omega) g1)) ⟨v', back _ _ (k2.set (Nat.le_refl _) l2 _) (AHeap.get_set_same r2 _) (o3 (by omega) (q (by omega) (o (by omega) h.txt))) (o3 (by omega) (q (by omega) (o (by omega) h.sep))) (o3 (by omega) (q (by omega) (o (by omega) h.sav))) (o3 (by omega) (q (by omega) g1)) ?_ f2⟩
    rw [flW_app, if_neg hx]
    refine AP.chg ?_ (Chg.set M2 l2 _) (fun y hy => by have := f2 y (mem_blkL.1 hy); simp; omega)
    simpa [txs_app] using a2
end Go.AM.Fd

set_option linter.unusedSimpArgs false
set_option linter.unusedVariables false
namespace Go.AM.Fd
open Nat (reduceAdd reduceEqDiff reduceLT reduceLeDiff reduceMul reduceSub)
open Go.Proofs Go.AM.F
theorem get5 (L : AHeap) (a b c d e : AO) : let S := ((((L.alloc a).alloc b).alloc c).alloc d).alloc e
    S.get L.n = some a ∧ S.get (L.n + 1) = some b ∧ S.get (L.n + 2) = some c ∧ S.get (L.n + 3) = some d ∧ S.get (L.n + 4) = some e := by
  have o : ∀ (X : AHeap) (x : AO) (i : Nat), i < X.n → (X.alloc x).get i = X.get i := fun X x i h => AHeap.get_alloc_old X x h
  refine ⟨?_, ?_, ?_, ?_, ?_⟩
  · rw [o _ _ _ (by simp only [alloc_n]; omega), o _ _ _ (by simp only [alloc_n]; omega), o _ _ _ (by simp only [alloc_n]; omega), o _ _ _ (by simp only [alloc_n]; omega)]; exact AHeap.get_alloc_new _ _
  · rw [o _ _ _ (by simp only [alloc_n]; omega), o _ _ _ (by simp only [alloc_n]; omega), o _ _ _ (by simp only [alloc_n]; omega)]; exact AHeap.get_alloc_new _ _
  · rw [o _ _ _ (by simp only [alloc_n]; omega), o _ _ _ (by simp only [alloc_n]; omega)]; exact AHeap.get_alloc_new _ _
  · rw [o _ _ _ (by simp only [alloc_n]; omega)]; exact AHeap.get_alloc_new _ _
  · exact AHeap.get_alloc_new _ _
theorem cut_ahead (l : List UInt8) : ∃ y z, cutB 35 l = .tuple #[.string ⟨(aheadB l).toArray⟩, y, z] := by
  unfold cutB aheadB
  cases ixB 35 l <;> exact ⟨_, _, rfl⟩
theorem t43 (H : AHeap) (l : List UInt8) (hl : l.length ≤ 1000000) : ∃ w K, ARun Go.Proofs.Tryd.prog 4 43 [.string ⟨l.toArray⟩] H w K ∧ WRes H w K l := by
  refine walk2 f43_ok f43_n ?_
  intro Q hq1 hq2
  have hal := ahead_len l
  simp (disch := first | assumption | omega | (simp only [LN] <;> omega) | (simp (disch := first | assumption | omega | (simp only [LN] <;> omega)) only [row_alloc, row_set]; assumption)) only [ f43, P3, ↓reduceIte, reduceAdd, reduceEqDiff, reduceCtorEq, initFr, reduceLT, clsA, reduceLeDiff, reduceMul, reduceSub, reduceIte]
  refine callK (t59 H l 35 (by omega)) ?_
  rintro _ K ⟨hw, rfl⟩
  obtain ⟨y, z, hcut⟩ := cut_ahead l
  rw [hcut] at hw
  subst hw
  obtain ⟨s, hs⟩ : ∃ s, aheadB l = s := ⟨_, rfl⟩
  unfold WRes at hq1 hq2
  rw [hs] at hal hq1 hq2 ⊢
  simp (disch := first | assumption | omega | (simp only [LN] <;> omega) | (simp (disch := first | assumption | omega | (simp only [LN] <;> omega)) only [row_alloc, row_set]; assumption)) only [ P3, ↓reduceIte, reduceAdd, reduceEqDiff, reduceCtorEq, initFr, reduceLT, clsA, reduceLeDiff, reduceMul, reduceSub, reduceIte, a_rngS]
  rw [W_block]
  refine W_loop2 (fun k fr L => ∃ p x3 x4 x8 x9 x10, fr = [.string ⟨s.toArray⟩, .slice none 0 0, .int .i64 0, x3, x4, undef, undef, ptr K.n 0, x8, x9, x10, undef, undef, undef] ∧ L.get K.n = some (.obj true (.stringIter ⟨s.toArray⟩ p)) ∧ Keeps K L ∧
      okW s = (runF s p).all (okC s) ∧ k = s.length - p) s.length
    ⟨0, _, _, _, _, _, rfl, AHeap.get_alloc_new _ _, (Keeps.refl K).alloc _, rfl, rfl⟩ ?_
  rintro Q' k fr L ⟨p, x3, x4, x8, x9, x10, rfl, hg, hk, hr, rfl⟩ hn hx hret
  by_cases hp : p < s.length
  · have hstep := runF_step hp
    have hpos := decB_pos (l := s) (p := p)
    have hset := hk.set (Nat.le_refl _) (AHeap.get_lt hg) (.obj true (.stringIter ⟨s.toArray⟩ (p + (decB s p).2)))
    have hnext : okC s (p, ((decB s p).1 : Int)) = true → okW s = (runF s (p + (decB s p).2)).all (okC s) := fun h => by rw [hr, hstep]; simp [h]
    have hbad : okC s (p, ((decB s p).1 : Int)) = false → okW s = false := fun h => by rw [hr, hstep]; simp [h]
    have hgs := AHeap.get_set_same hg (.obj true (.stringIter ⟨s.toArray⟩ (p + (decB s p).2)))
    obtain ⟨d, hd⟩ : ∃ d, (decB s p).1 = d := ⟨_, rfl⟩
    rw [hd] at hnext hbad
    have hnx := a_nextY hg hp
    rw [hd] at hnx
    by_cases c1 : (d : Int) < 32
    · simp (disch := first | assumption | omega | (simp only [LN] <;> omega) | (simp (disch := first | assumption | omega | (simp only [LN] <;> omega)) only [row_alloc, row_set]; assumption)) only [W_block, P3, ↓reduceIte, reduceAdd, reduceEqDiff, reduceCtorEq, initFr, reduceLT, clsA, reduceLeDiff, reduceMul, reduceSub, reduceIte, hnx]
      refine hret _ _ (hq2 _ _ ⟨_, rfl, hset, ?_⟩)
      rw [hbad (by simp [okC, c1])]
      rfl
    · by_cases c2 : (d : Int) = 65533
      · have e2 : ((d : Int) == 65533) = true := by simpa using c2
        have hp1 : p ≤ s.length := by omega
        simp (disch := first | assumption | omega | (simp only [LN] <;> omega) | (simp (disch := first | assumption | omega | (simp only [LN] <;> omega)) only [row_alloc, row_set]; assumption)) only [W_block, P3, ↓reduceIte, reduceAdd, reduceEqDiff, reduceCtorEq, initFr, reduceLT, clsA, reduceLeDiff, reduceMul, reduceSub, reduceIte, hnx, e2, a_slsT]
        refine callK (t60 _ (s.drop p) [239, 191, 189]) ?_
        rintro _ K2 ⟨rfl, rfl⟩
        cases c3 : wholeB s p with
        | true =>
          have c3' : ([239, 191, 189] : List UInt8).isPrefixOf (s.drop p) = true := c3
          simp (disch := first | assumption | omega | (simp only [LN] <;> omega) | (simp (disch := first | assumption | omega | (simp only [LN] <;> omega)) only [row_alloc, row_set]; assumption)) only [W_block, P3, ↓reduceIte, reduceAdd, reduceEqDiff, reduceCtorEq, initFr, reduceLT, clsA, reduceLeDiff, reduceMul, reduceSub, reduceIte, c3']
          exact hn _ _ _ ⟨p + (decB s p).2, _, _, _, _, _, rfl, hgs, hset, hnext (by simp [okC, c1, c2, c3]), rfl⟩ (by omega)
        | false =>
          have c3' : ([239, 191, 189] : List UInt8).isPrefixOf (s.drop p) = false := c3
          simp (disch := first | assumption | omega | (simp only [LN] <;> omega) | (simp (disch := first | assumption | omega | (simp only [LN] <;> omega)) only [row_alloc, row_set]; assumption)) only [W_block, P3, ↓reduceIte, reduceAdd, reduceEqDiff, reduceCtorEq, initFr, reduceLT, clsA, reduceLeDiff, reduceMul, reduceSub, reduceIte, c3']
          refine hret _ _ (hq2 _ _ ⟨_, rfl, hset, ?_⟩)
          rw [hbad (by simp [okC, c1, c2, c3])]
          rfl
      · have e2 : ((d : Int) == 65533) = false := by simpa using c2
        simp (disch := first | assumption | omega | (simp only [LN] <;> omega) | (simp (disch := first | assumption | omega | (simp only [LN] <;> omega)) only [row_alloc, row_set]; assumption)) only [W_block, P3, ↓reduceIte, reduceAdd, reduceEqDiff, reduceCtorEq, initFr, reduceLT, clsA, reduceLeDiff, reduceMul, reduceSub, reduceIte, hnx, e2]
        exact hn _ _ _ ⟨p + (decB s p).2, _, _, _, _, _, rfl, hgs, hset, hnext (by simp [okC, c1, c2]), rfl⟩ (by omega)
  · have hend := runF_end hp
    rw [hend] at hr
    simp only [List.all_nil] at hr
    rw [hr] at hq1 hq2
    simp only [if_true] at hq1 hq2
    simp (disch := first | assumption | omega | (simp only [LN] <;> omega) | (simp (disch := first | assumption | omega | (simp only [LN] <;> omega)) only [row_alloc, row_set]; assumption)) only [W_block, P3, ↓reduceIte, reduceAdd, reduceEqDiff, reduceCtorEq, initFr, reduceLT, clsA, reduceLeDiff, reduceMul, reduceSub, reduceIte, a_nextN hg hp]
    refine hx 0 _ _ ?_
    simp (disch := first | assumption | omega | (simp only [LN] <;> omega) | (simp (disch := first | assumption | omega | (simp only [LN] <;> omega)) only [row_alloc, row_set]; assumption)) only [ P3, ↓reduceIte, reduceAdd, reduceEqDiff, reduceCtorEq, initFr, reduceLT, clsA, reduceLeDiff, reduceMul, reduceSub, reduceIte]
    refine callK (t61 _ s 32) ?_
    rintro _ K2 ⟨rfl, rfl⟩
    simp (disch := first | assumption | omega | (simp only [LN] <;> omega) | (simp (disch := first | assumption | omega | (simp only [LN] <;> omega)) only [row_alloc, row_set]; assumption)) only [ P3, ↓reduceIte, reduceAdd, reduceEqDiff, reduceCtorEq, initFr, reduceLT, clsA, reduceLeDiff, reduceMul, reduceSub, reduceIte]
    rw [W_block]
    refine W_rangeF rfl (bodied_of (by kernel_rfl)) ?_
    obtain ⟨R, hR⟩ : ∃ R : LRec, (⟨43, [0, 2, 3, 4, 5, 6, 7, 15, 16, 17, 32, 34, 35, 37], [.string ⟨s.toArray⟩, .slice none 0 0, .int .i64 0, x3, x4, ptr L.n 0, undef, ptr K.n 0, .tuple #[.bool false], .bool false, x10,
      .func (.func 90) #[] #[ptr (L.n + 1 + 1) 0, ptr (L.n + 1) 0, ptr (L.n + 1 + 2) 0], undef, undef], #[35], rfA Go.Proofs.Tryd.prog 43 0, rfB Go.Proofs.Tryd.prog 43 0⟩ : LRec) = R := ⟨_, rfl⟩
    rw [hR]
    obtain ⟨S0, hS0⟩ : ∃ S0 : AHeap, (((((L.alloc (.cells true false 1 [.slice none 0 0] 23)).alloc (boxS s)).alloc (boxS [32])).alloc (.cells true false 1 [.int .i64 0] 3)).alloc (.loop true .ready none R)) = S0 := ⟨_, rfl⟩
    have hJ0 : WJ L R [] s S0 (.slice none 0 0) := by
      rw [← hS0]
      obtain ⟨q1, q2, q3, q4, q5⟩ := get5 L (.cells true false 1 [.slice none 0 0] 23) (boxS s) (boxS [32]) (.cells true false 1 [.int .i64 0] 3) (.loop true .ready none R)
      exact ⟨(((((Keeps.refl L).alloc _).alloc _).alloc _).alloc _).alloc _, q1, q2, q3, q4, q5, .inl ⟨rfl, rfl, rfl⟩, fun b hb => by cases hb⟩
    obtain ⟨w, H1, r, hfin⟩ := t90 (fun pre sc H => ∃ v, WJ L R pre sc H v) (fun _ => False) (c := 32) (b := L.n + 4) (p1 := L.n + 2) (p2 := L.n + 1) (p3 := L.n + 3) (s := s) (by omega)
      (fun pre sc H ⟨v, h⟩ => ⟨h.sep, h.txt, h.sav⟩) (fun pre sc sc' H ⟨v, h⟩ => ⟨v, h.put sc'⟩)
      (fun pre x sc H ⟨v, h⟩ ⟨rest, hsp⟩ => by
        have h1 := splitB_len 32 s
        rw [hsp, List.length_append, List.length_cons] at h1
        rw [← hR] at h
        obtain ⟨w, H', a, e, v', h'⟩ := WJ.round (x := x) h (by omega)
        rw [hR] at h'
        exact ⟨w, H', a, .inl ⟨e, v', h'⟩⟩) ⟨_, hJ0⟩
    refine ⟨w, H1, ?_, ?_⟩
    · rw [hS0]; exact r
    · rcases hfin with ⟨sc, v, hJ⟩ | hf
      · refine afterR_ready hJ.rec_ ?_
        have hn1 := hJ.n
        have hl4 : L.n + 4 < H1.n := by omega
        have hrow : (H1.set (L.n + 4) .dead).get L.n = some (.cells true false 1 [v] 23) := by rw [AHeap.get_set_other H1 (by omega) hl4]; exact hJ.row
        simp (disch := first | assumption | omega | (simp only [LN] <;> omega) | (simp (disch := first | assumption | omega | (simp only [LN] <;> omega)) only [row_alloc, row_set]; assumption)) only [W_block, P3, ↓reduceIte, reduceAdd, reduceEqDiff, reduceCtorEq, initFr, reduceLT, clsA, reduceLeDiff, reduceMul, reduceSub, reduceIte, hrow]
        refine hq2 _ _ ⟨_, rfl, (hk.trans hJ.keep).set (by have := hk.n; omega) hl4 _, v, rfl, ?_, ?_⟩
        · exact hJ.ap.chg (Chg.set H1 hl4 _) (fun y hy => by have := hJ.fresh y (mem_blkL.1 hy); simp; omega)
        · intro b hb
          have := hJ.fresh b hb
          have := hk.n
          omega
      · exact hf.elim
end Go.AM.Fd

set_option linter.unusedSimpArgs false
set_option linter.unusedVariables false
namespace Go.AM.Fd
open Nat (reduceAdd reduceEqDiff reduceLT reduceLeDiff reduceMul reduceSub)
open Go.Proofs Go.AM.F
abbrev Row := Value × List (List UInt8)
def thG (w : Row) : Th := thA 9 1 w.1 w.2.length (txs w.2)
def outC (ws : List Row) : List Value := (ws.map (·.1)).reverse
def GS (N : Nat) (H : AHeap) (v : Value) (ws : List Row) (rs : List Row) : Prop :=
  Sep H (thA 23 1 v ws.length (outC ws) :: rs.map thG) ∧ Fresh N v ∧ ∀ w ∈ rs, Fresh N w.1
def grp (acc : List (List (List UInt8))) (t : List UInt8) : List (List (List UInt8)) := if t = [58] then [] :: acc else match acc with
  | g :: r => (g ++ [t]) :: r
  | [] => [[t]]
def groupsB (ts : List (List UInt8)) : List (List (List UInt8)) := (ts.foldl grp [[]]).reverse
theorem grp_take {ts : List (List UInt8)} {i : Nat} (h : i < ts.length) (a : List (List (List UInt8))) : (ts.take (i + 1)).foldl grp a = grp ((ts.take i).foldl grp a) (ts.getD i []) := by
  rw [List.take_add_one, List.getElem?_eq_getElem h, List.foldl_append]
  simp [List.getD, List.getElem?_eq_getElem h]
theorem GS.keeps {N : Nat} {H K : AHeap} {v : Value} {ws rs : List Row} (h : GS N H v ws rs) (k : Keeps H K) : GS N K v ws rs := ⟨h.1.keeps k, h.2⟩
theorem GS.addNil {N : Nat} {H : AHeap} {v : Value} {ws rs : List Row} (h : GS N H v ws rs) : GS N H v ws ((.slice none 0 0, []) :: rs) := by
  obtain ⟨h1, h2, h3⟩ := h
  refine ⟨⟨?_, ?_⟩, h2, ?_⟩
  · intro t ht
    simp only [List.map_cons, List.mem_cons] at ht
    rcases ht with rfl | rfl | ht
    · exact h1.all _ (by simp)
    · exact .inl ⟨rfl, rfl, rfl⟩
    · exact h1.all t (by simp [ht])
  · have hp := List.pairwise_cons.1 h1.ap
    refine List.pairwise_cons.2 ⟨?_, List.pairwise_cons.2 ⟨fun a ha b hb => by simp [thG, thA, blkL, blk] at hb, hp.2⟩⟩
    intro a ha
    simp only [List.map_cons, List.mem_cons] at ha
    rcases ha with rfl | ha
    · intro b hb hb2; simp [thG, thA, blkL, blk] at hb2
    · exact hp.1 a ha
  · intro w hw
    rcases List.mem_cons.1 hw with rfl | hw
    · intro b hb; cases hb
    · exact h3 w hw
theorem GS.outer {N : Nat} {H K : AHeap} {v v' : Value} {ws ws' rs : List Row} (h : GS N H v ws rs) (hN : N ≤ H.n) (c : Chg (blkL v) H K) (ha : AP K 23 1 v' ws'.length (outC ws')) (hb : blk v' = blk v ∨ (∃ b, blk v' = some b ∧ H.n ≤ b)) : GS N K v' ws' rs := by
  have hf : ∀ y ∈ blkL v', y ∈ blkL v ∨ H.n ≤ y := fun y hy => by
    have hy := mem_blkL.1 hy
    rcases hb with e | ⟨b, e, hb⟩
    · exact .inl (mem_blkL.2 (by rw [← e]; exact hy))
    · rw [e] at hy; cases hy; exact .inr hb
  refine ⟨Sep.upd (l := []) h.1 c ha hf, ?_, h.2.2⟩
  intro y hy
  rcases hf y (mem_blkL.2 hy) with e | e
  · exact h.2.1 y (mem_blkL.1 e)
  · omega
theorem GS.row {N : Nat} {H K : AHeap} {v u' : Value} {g' : List (List UInt8)} {w : Row} {ws rs : List Row} (h : GS N H v ws (w :: rs)) (hN : N ≤ H.n) (c : Chg (blkL w.1) H K) (ha : AP K 9 1 u' g'.length (txs g')) (hb : blk u' = blk w.1 ∨ (∃ b, blk u' = some b ∧ H.n ≤ b)) : GS N K v ws ((u', g') :: rs) := by
  have hf : ∀ y ∈ blkL u', y ∈ blkL w.1 ∨ H.n ≤ y := fun y hy => by
    have hy := mem_blkL.1 hy
    rcases hb with e | ⟨b, e, hb⟩
    · exact .inl (mem_blkL.2 (by rw [← e]; exact hy))
    · rw [e] at hy; cases hy; exact .inr hb
  refine ⟨Sep.upd (l := [_]) (t := thG w) (t' := thG (u', g')) (r := rs.map thG) h.1 c ha hf, h.2.1, ?_⟩
  intro x hx
  rcases List.mem_cons.1 hx with rfl | hx
  · intro y hy
    rcases hf y (mem_blkL.2 hy) with e | e
    · exact h.2.2 w (by simp) y (mem_blkL.1 e)
    · omega
  · exact h.2.2 x (by simp [hx])
theorem GS.out {N : Nat} {H : AHeap} {v : Value} {ws rs : List Row} (h : GS N H v ws rs) : AP H 23 1 v ws.length (outC ws) := h.1.all (thA 23 1 v ws.length (outC ws)) (by simp)
theorem GS.top {N : Nat} {H : AHeap} {v : Value} {w : Row} {ws rs : List Row} (h : GS N H v ws (w :: rs)) : AP H 9 1 w.1 w.2.length (txs w.2) := h.1.all (thG w) (by simp)
theorem GS.apart {N : Nat} {H : AHeap} {v : Value} {w : Row} {ws rs : List Row} (h : GS N H v ws (w :: rs)) {b : Nat} (hb : blk v = some b) : blk w.1 ≠ some b := fun e =>
  (List.pairwise_cons.1 h.1.ap).1 (thG w) (by simp) b (mem_blkL.2 hb) (mem_blkL.2 e)
theorem GS.chg {N : Nat} {H K : AHeap} {v : Value} {ws rs : List Row} (h : GS N H v ws rs) (c : Keeps H K) : GS N K v ws rs := h.keeps c
theorem sl_fresh {v v' : Value} {H : AHeap} {n : Nat} {o : AO} (h : blk v' = blk v ∨ blk v' = some (H.alloc o).n) (hn : n = H.n) : blk v' = blk v ∨ (∃ b, blk v' = some b ∧ n ≤ b) := by
  rcases h with h | h
  · exact .inl h
  · exact .inr ⟨_, h, by simp [AHeap.alloc]; omega⟩
theorem outC_len (ws : List Row) : (outC ws).length = ws.length := by simp [outC]
theorem outC_cons (w : Row) (ws : List Row) : outC (w :: ws) = outC ws ++ [w.1] := by simp [outC]
theorem outC_top (w : Row) (ws : List Row) : (outC (w :: ws))[ws.length]? = some w.1 := by
  rw [outC_cons, List.getElem?_append_right (by rw [outC_len]; omega), outC_len]; simp
theorem outC_set (w : Row) (u : Value) (g : List (List UInt8)) (ws : List Row) : (outC (w :: ws)).set ws.length u = outC ((u, g) :: ws) := by
  rw [outC_cons, outC_cons, List.set_append_right _ _ (by rw [outC_len]; omega), outC_len]; simp
theorem t62 {H : AHeap} {vl : Value} {ts : List (List UInt8)} (ht : TL H vl ts) (hl : ts.length ≤ 1000000) : ∃ w K, ARun Go.Proofs.Tryd.prog 4 62 [vl] H w K ∧ Keeps H K ∧ ∃ ws, GS H.n K w ws ws ∧ (ws.map (·.2)).reverse = groupsB ts := by
  refine walk2 f62_ok f62_n ?_
  intro Q hq1 hq2
  have hfl0 : fillA [.slice none 0 0] [(0, 1, .slice none 0 0)] = some [.slice none 0 0] := rfl
  have ll := ht.len
  have il := Sl.is ht
  simp (disch := first | assumption | omega | (simp only [LN] <;> omega) | (simp (disch := first | assumption | omega | (simp only [LN] <;> omega)) only [row_alloc, row_set]; assumption)) only [ f62, P3, ↓reduceIte, reduceAdd, reduceEqDiff, reduceCtorEq, initFr, reduceLT, clsA, reduceLeDiff, reduceMul, reduceSub, reduceIte, hfl0, ll]
  rw [W_block]
  have hG0 : GS H.n (H.alloc (.cells true false 1 [.slice none 0 0] 23)) (slc H.n 0 1 1) [(.slice none 0 0, [])] [(.slice none 0 0, [])] := by
    refine GS.addNil ⟨⟨fun t ht => ?_, by simp⟩, fun b hb => by cases hb; exact Nat.le_refl _, by simp⟩
    simp only [List.map_nil, List.mem_singleton] at ht
    subst ht
    exact .inr ⟨H.n, false, rfl, rfl, AHeap.get_alloc_new _ _⟩
  refine W_loop2 (fun k fr K => ∃ i v ws x3 x4 x8 x9, fr = [vl, .slice none 0 0, v, x3, x4, vl, .int .i64 ((ts.length : Nat) : Int), .int .i64 ((i : Nat) : Int), x8, x9] ∧ Keeps H K ∧ GS H.n K v ws ws ∧ ws.map (·.2) = (ts.take i).foldl grp [[]] ∧
      1 ≤ ws.length ∧ ws.length ≤ i + 1 ∧ (∀ w ∈ ws, w.2.length ≤ i) ∧ i ≤ ts.length ∧ k = ts.length - i) ts.length
    ⟨0, _, [(.slice none 0 0, [])], _, _, _, _, rfl, (Keeps.refl H).alloc _, hG0, rfl, by simp, by simp, by simp, by omega, rfl⟩ ?_
  rintro Q' k fr K ⟨i, v, ws, x3, x4, x8, x9, rfl, hk, hG, hws, h1, h2, h3, hi, rfl⟩ hn hx hret
  have hkn := hk.n
  by_cases hlt : i < ts.length
  · have ht2 := ht.keeps hk
    obtain ⟨na, ra⟩ := ht2.at_ hlt
    unfold tRow at ra
    have c1 : (i : Int) < ((ts.length : Nat) : Int) := by omega
    have c2 : (i : Int) < ((lenS vl : Nat) : Int) := by omega
    have c0 : (0 : Int) ≤ (i : Int) := by omega
    have hw : IntKind.i64.wrap ((i : Int) + 1) = ((i + 1 : Nat) : Int) := by rw [wrap_i64 (by omega) (by omega)]; simp
    have hgr := grp_take hlt [[]]
    rw [← hws] at hgr
    obtain ⟨t, htt⟩ : ∃ t, ts.getD i [] = t := ⟨_, rfl⟩
    rw [htt] at ra hgr
    by_cases hc : t = [58]
    · have e : decide (t = [58]) = true := by simpa using hc
      have k4 := (Keeps.refl K).alloc (.cells true false 1 [.slice none 0 0] 23)
      simp (disch := first | assumption | omega | (simp only [LN] <;> omega) | (simp (disch := first | assumption | omega | (simp only [LN] <;> omega)) only [row_alloc, row_set]; assumption)) only [W_block, P3, ↓reduceIte, reduceAdd, reduceEqDiff, reduceCtorEq, initFr, reduceLT, clsA, reduceLeDiff, reduceMul, reduceSub, reduceIte, ra, na, a_load1v, bytes_eq, e, hfl0]
      refine appG (hG.out.keeps k4) ⟨_, _, rfl⟩ (elems_new rfl rfl) rfl (by omega) ?_
      intro v' K2 a2 ch b2
      simp (disch := first | assumption | omega | (simp only [LN] <;> omega) | (simp (disch := first | assumption | omega | (simp only [LN] <;> omega)) only [row_alloc, row_set]; assumption)) only [W_block, P3, ↓reduceIte, reduceAdd, reduceEqDiff, reduceCtorEq, initFr, reduceLT, clsA, reduceLeDiff, reduceMul, reduceSub, reduceIte, hw]
      have c24 : Chg (blkL v) K K2 := (k4.chg _).trans ch (fun y hy => .inl hy)
      have hG2 := (hG.outer (ws' := (.slice none 0 0, []) :: ws) hkn c24 (by rw [outC_cons]; simpa using a2) (sl_fresh b2 rfl)).addNil
      refine hn _ _ _ ⟨i + 1, v', (.slice none 0 0, []) :: ws, _, _, _, _, rfl, hk.chg_trans c24 hG.2.1.L, hG2, ?_, by simp, by simp; omega, ?_, by omega, rfl⟩ (by omega)
      · rw [hgr]; simp [grp, hc]
      · intro w hw; rcases List.mem_cons.1 hw with rfl | hw
        · simp
        · have := h3 w hw; omega
    · have e : decide (t = [58]) = false := by simpa using hc
      obtain ⟨w, rs, rfl⟩ : ∃ w rs, ws = w :: rs := by
        cases ws with
        | nil => simp at h1
        | cons w rs => exact ⟨w, rs, rfl⟩
      rcases hG.out with ⟨_, hz, _⟩ | ⟨b, room, rfl, hlen, hget⟩
      · simp at hz
      · have hwl := h3 w (by simp)
        have hrl : rs.length ≤ i := by simpa using h2
        have hs1 : IntKind.i64.wrap (((rs.length + 1 : Nat) : Int) - 1) = ((rs.length : Nat) : Int) := by rw [wrap_i64 (by omega) (by omega)]; simp
        have d0 : (0 : Int) ≤ ((rs.length : Nat) : Int) := by omega
        have d1 : ((rs.length : Nat) : Int) < ((rs.length + 1 : Nat) : Int) := by omega
        have hcell : cellO (K.get b) rs.length = some w.1 := by rw [hget, cellO_c]; exact outC_top w rs
        have hfl : fillA [.string ByteArray.empty] [(0, 1, .string ⟨t.toArray⟩)] = some [.string ⟨t.toArray⟩] := rfl
        have k4 := (Keeps.refl K).alloc (.cells true false 1 [.string ⟨t.toArray⟩] 9)
        simp (disch := first | assumption | omega | (simp only [LN] <;> omega) | (simp (disch := first | assumption | omega | (simp only [LN] <;> omega)) only [row_alloc, row_set]; assumption)) only [W_block, P3, ↓reduceIte, reduceAdd, reduceEqDiff, reduceCtorEq, initFr, reduceLT, clsA, reduceLeDiff, reduceMul, reduceSub, reduceIte, ra, na, a_load1v, bytes_eq, e, hs1, hfl, Int.toNat_natCast, Nat.mul_one, Nat.zero_add, hcell]
        refine appG (hG.top.keeps k4) ⟨_, _, rfl⟩ (elems_new rfl rfl) rfl (by omega) ?_
        intro u' K2 a2 ch b2
        have c24 : Chg (blkL w.1) K K2 := (k4.chg _).trans ch (fun y hy => .inl hy)
        have hget2 : K2.get b = some (.cells true room 1 (outC (w :: rs)) 23) := c24.at_ hget (fun hm => hG.apart rfl (mem_blkL.1 hm))
        have hr := hG.row (g' := w.2 ++ [t]) hkn c24 (by simpa [txs_app] using a2) (sl_fresh b2 rfl)
        have ou : u'.oneCell' = true := by
          obtain ⟨a, ha⟩ := a2.shape
          rw [ha]; rfl
        have hlt2 : rs.length < (outC (w :: rs)).length := by rw [outC_len]; simp
        have hb2 := AHeap.get_lt hget2
        simp (disch := first | assumption | omega | (simp only [LN] <;> omega) | (simp (disch := first | assumption | omega | (simp only [LN] <;> omega)) only [row_alloc, row_set]; assumption)) only [W_block, P3, ↓reduceIte, reduceAdd, reduceEqDiff, reduceCtorEq, initFr, reduceLT, clsA, reduceLeDiff, reduceMul, reduceSub, reduceIte, hget2, ou, hw]
        have hk2 : Keeps H K2 := hk.chg_trans c24 (fun y hy => hG.2.2 w (by simp) y (mem_blkL.1 hy))
        have hbn : H.n ≤ b := hG.2.1 b rfl
        have hr2 := hr.outer (ws' := (u', w.2 ++ [t]) :: rs) (v' := slc b 0 (rs.length + 1) (rs.length + 1)) hk2.n (Chg.set K2 hb2 (.cells true room 1 ((outC (w :: rs)).set rs.length u') 23) |>.mono (by intro y hy; simp at hy; subst hy; exact mem_blkL.2 rfl))
          (.inr ⟨b, room, rfl, by rw [outC_len]; simp, by rw [AHeap.get_set_same hget2]; rw [outC_set w u' (w.2 ++ [t]) rs]⟩) (.inl rfl)
        refine hn _ _ _ ⟨i + 1, _, (u', w.2 ++ [t]) :: rs, _, _, _, _, rfl, hk2.set hbn hb2 _, hr2, ?_, by simp, by simp; omega, ?_, by omega, rfl⟩ (by omega)
        · rw [hgr]; simp [grp, hc]
        · intro x hx; rcases List.mem_cons.1 hx with rfl | hx
          · simp; omega
          · have := h3 x (by simp [hx]); omega
  · have c1 : ¬ (i : Int) < ((ts.length : Nat) : Int) := by omega
    simp (disch := first | assumption | omega | (simp only [LN] <;> omega) | (simp (disch := first | assumption | omega | (simp only [LN] <;> omega)) only [row_alloc, row_set]; assumption)) only [W_block, P3, ↓reduceIte, reduceAdd, reduceEqDiff, reduceCtorEq, initFr, reduceLT, clsA, reduceLeDiff, reduceMul, reduceSub, reduceIte]
    refine hx 0 _ _ ?_
    simp (disch := first | assumption | omega | (simp only [LN] <;> omega) | (simp (disch := first | assumption | omega | (simp only [LN] <;> omega)) only [row_alloc, row_set]; assumption)) only [W_block, P3, ↓reduceIte, reduceAdd, reduceEqDiff, reduceCtorEq, initFr, reduceLT, clsA, reduceLeDiff, reduceMul, reduceSub, reduceIte]
    refine hq2 _ _ ⟨_, rfl, hk, ws, hG, ?_⟩
    rw [hws, List.take_of_length_le (by omega)]
    rfl
end Go.AM.Fd

set_option linter.unusedSimpArgs false
set_option linter.unusedVariables false
namespace Go.AM.Fd
open Nat (reduceAdd reduceEqDiff reduceLT reduceLeDiff reduceMul reduceSub)
open Go.Proofs Go.AM.F
theorem AP.fill {H : AHeap} {e esz : Nat} {v : Value} {n : Nat} {c : List Value} (h : AP H e esz v n c) : fillA [.slice none 0 0] [(0, 1, v)] = some [v] ∧ v.oneCell' = true := by
  obtain ⟨a, rfl⟩ := h.shape
  exact ⟨rfl, rfl⟩
theorem t66 {H : AHeap} {vl : Value} {ts : List (List UInt8)} (ht : TL H vl ts) (hl : ts.length ≤ 1000000) : ∃ w K, ARun Go.Proofs.Tryd.prog 4 66 [vl] H w K ∧ Keeps H K ∧ ∃ ws, GS H.n K w ws ws ∧ (ws.map (·.2)).reverse = groupsB ts := by
  refine walk2 f66_ok f66_n ?_
  intro Q hq1 hq2
  have ll := ht.len
  have il := Sl.is ht
  simp (disch := first | assumption | omega | (simp only [LN] <;> omega) | (simp (disch := first | assumption | omega | (simp only [LN] <;> omega)) only [row_alloc, row_set]; assumption)) only [ f66, P3, ↓reduceIte, reduceAdd, reduceEqDiff, reduceCtorEq, initFr, reduceLT, clsA, reduceLeDiff, reduceMul, reduceSub, reduceIte]
  rw [W_block]
  have hG0 : GS H.n H (.slice none 0 0) [] [(.slice none 0 0, [])] := by
    refine GS.addNil ⟨⟨fun t ht => ?_, by simp⟩, (fun b hb => by cases hb), by simp⟩
    simp only [List.map_nil, List.mem_singleton] at ht
    subst ht
    exact .inl ⟨rfl, rfl, rfl⟩
  refine W_loop2 (fun k fr K => ∃ i v gv g rs x5 x6, fr = [vl, .slice none 0 0, v, gv, .int .i64 ((i : Nat) : Int), x5, x6] ∧ Keeps H K ∧ GS H.n K v rs ((gv, g) :: rs) ∧ g :: rs.map (·.2) = (ts.take i).foldl grp [[]] ∧
      rs.length ≤ i ∧ g.length ≤ i ∧ i ≤ ts.length ∧ k = ts.length - i) ts.length
    ⟨0, _, _, [], [], _, _, rfl, Keeps.refl H, hG0, rfl, by simp, by simp, by omega, rfl⟩ ?_
  rintro Q' k fr K ⟨i, v, gv, g, rs, x5, x6, rfl, hk, hG, hws, h2, h3, hi, rfl⟩ hn hx hret
  have hkn := hk.n
  obtain ⟨hfg, og⟩ := AP.fill hG.top
  by_cases hlt : i < ts.length
  · have ht2 := ht.keeps hk
    obtain ⟨na, ra⟩ := ht2.at_ hlt
    unfold tRow at ra
    have c1 : (i : Int) < ((ts.length : Nat) : Int) := by omega
    have c2 : (i : Int) < ((lenS vl : Nat) : Int) := by omega
    have c0 : (0 : Int) ≤ (i : Int) := by omega
    have hw : IntKind.i64.wrap ((i : Int) + 1) = ((i + 1 : Nat) : Int) := by rw [wrap_i64 (by omega) (by omega)]; simp
    have hgr := grp_take hlt [[]]
    rw [← hws] at hgr
    obtain ⟨t, htt⟩ : ∃ t, ts.getD i [] = t := ⟨_, rfl⟩
    rw [htt] at ra hgr
    by_cases hc : t = [58]
    · have e : decide (t = [58]) = true := by simpa using hc
      have k4 := (Keeps.refl K).alloc (.cells true false 1 [gv] 23)
      simp (disch := first | assumption | omega | (simp only [LN] <;> omega) | (simp (disch := first | assumption | omega | (simp only [LN] <;> omega)) only [row_alloc, row_set]; assumption)) only [W_block, P3, ↓reduceIte, reduceAdd, reduceEqDiff, reduceCtorEq, initFr, reduceLT, clsA, reduceLeDiff, reduceMul, reduceSub, reduceIte, ll, ra, na, a_load1v, bytes_eq, e, hfg, og]
      refine appG (hG.out.keeps k4) ⟨_, _, rfl⟩ (elems_new rfl rfl) rfl (by omega) ?_
      intro v' K2 a2 ch b2
      simp (disch := first | assumption | omega | (simp only [LN] <;> omega) | (simp (disch := first | assumption | omega | (simp only [LN] <;> omega)) only [row_alloc, row_set]; assumption)) only [W_block, P3, ↓reduceIte, reduceAdd, reduceEqDiff, reduceCtorEq, initFr, reduceLT, clsA, reduceLeDiff, reduceMul, reduceSub, reduceIte, hw]
      have c24 : Chg (blkL v) K K2 := (k4.chg _).trans ch (fun y hy => .inl hy)
      have hG2 := (hG.outer (ws' := (gv, g) :: rs) hkn c24 (by rw [outC_cons]; simpa using a2) (sl_fresh b2 rfl)).addNil
      refine hn _ _ _ ⟨i + 1, v', _, [], (gv, g) :: rs, _, _, rfl, hk.chg_trans c24 hG.2.1.L, hG2, ?_, by simp; omega, by simp, by omega, rfl⟩ (by omega)
      rw [hgr]; simp [grp, hc]
    · have e : decide (t = [58]) = false := by simpa using hc
      have hfl : fillA [.string ByteArray.empty] [(0, 1, .string ⟨t.toArray⟩)] = some [.string ⟨t.toArray⟩] := rfl
      have k4 := (Keeps.refl K).alloc (.cells true false 1 [.string ⟨t.toArray⟩] 9)
      simp (disch := first | assumption | omega | (simp only [LN] <;> omega) | (simp (disch := first | assumption | omega | (simp only [LN] <;> omega)) only [row_alloc, row_set]; assumption)) only [W_block, P3, ↓reduceIte, reduceAdd, reduceEqDiff, reduceCtorEq, initFr, reduceLT, clsA, reduceLeDiff, reduceMul, reduceSub, reduceIte, ll, ra, na, a_load1v, bytes_eq, e, hfl]
      refine appG (hG.top.keeps k4) ⟨_, _, rfl⟩ (elems_new rfl rfl) rfl (by dsimp only; omega) ?_
      intro u' K2 a2 ch b2
      have c24 : Chg (blkL gv) K K2 := (k4.chg _).trans ch (fun y hy => .inl hy)
      have hr := hG.row (g' := g ++ [t]) hkn c24 (by simpa [txs_app] using a2) (sl_fresh b2 rfl)
      simp (disch := first | assumption | omega | (simp only [LN] <;> omega) | (simp (disch := first | assumption | omega | (simp only [LN] <;> omega)) only [row_alloc, row_set]; assumption)) only [W_block, P3, ↓reduceIte, reduceAdd, reduceEqDiff, reduceCtorEq, initFr, reduceLT, clsA, reduceLeDiff, reduceMul, reduceSub, reduceIte, hw]
      refine hn _ _ _ ⟨i + 1, v, u', g ++ [t], rs, _, _, rfl, hk.chg_trans c24 (fun y hy => hG.2.2 (gv, g) (by simp) y (mem_blkL.1 hy)), hr, ?_, by omega, by simp; omega, by omega, rfl⟩ (by omega)
      rw [hgr]; simp [grp, hc]
  · have c1 : ¬ (i : Int) < ((ts.length : Nat) : Int) := by omega
    have k4 := (Keeps.refl K).alloc (.cells true false 1 [gv] 23)
    simp (disch := first | assumption | omega | (simp only [LN] <;> omega) | (simp (disch := first | assumption | omega | (simp only [LN] <;> omega)) only [row_alloc, row_set]; assumption)) only [W_block, P3, ↓reduceIte, reduceAdd, reduceEqDiff, reduceCtorEq, initFr, reduceLT, clsA, reduceLeDiff, reduceMul, reduceSub, reduceIte, ll]
    refine hx 0 _ _ ?_
    simp (disch := first | assumption | omega | (simp only [LN] <;> omega) | (simp (disch := first | assumption | omega | (simp only [LN] <;> omega)) only [row_alloc, row_set]; assumption)) only [W_block, P3, ↓reduceIte, reduceAdd, reduceEqDiff, reduceCtorEq, initFr, reduceLT, clsA, reduceLeDiff, reduceMul, reduceSub, reduceIte, hfg, og]
    refine appG (hG.out.keeps k4) ⟨_, _, rfl⟩ (elems_new rfl rfl) rfl (by omega) ?_
    intro v' K2 a2 ch b2
    simp (disch := first | assumption | omega | (simp only [LN] <;> omega) | (simp (disch := first | assumption | omega | (simp only [LN] <;> omega)) only [row_alloc, row_set]; assumption)) only [W_block, P3, ↓reduceIte, reduceAdd, reduceEqDiff, reduceCtorEq, initFr, reduceLT, clsA, reduceLeDiff, reduceMul, reduceSub, reduceIte]
    have c24 : Chg (blkL v) K K2 := (k4.chg _).trans ch (fun y hy => .inl hy)
    have hG2 := hG.outer (ws' := (gv, g) :: rs) hkn c24 (by rw [outC_cons]; simpa using a2) (sl_fresh b2 rfl)
    refine hq2 _ _ ⟨_, rfl, hk.chg_trans c24 hG.2.1.L, (gv, g) :: rs, hG2, ?_⟩
    rw [List.map_cons, hws, List.take_of_length_le (by omega)]
    rfl
end Go.AM.Fd

set_option linter.unusedSimpArgs false
set_option linter.unusedVariables false
namespace Go.AM.Fd
open Go.Proofs Go.AM.F
theorem GS.rd {N : Nat} {K : AHeap} {v : Value} {ws : List Row} (h : GS N K v ws ws) : Sl K 1 v (ws.reverse.map fun x => [x.1]) ∧ ∀ x ∈ ws.reverse, TL K x.1 x.2 := by
  refine ⟨?_, fun x hx => ?_⟩
  · have ho := h.out
    have e : (ws.reverse.map fun x => [x.1]).flatten = outC ws := by
      unfold outC
      rw [← List.map_reverse]
      induction ws.reverse with
      | nil => rfl
      | cons a l ih => simp [ih]
    rw [← e] at ho
    exact ho.sl (by intro r hr; obtain ⟨x, _, rfl⟩ := List.mem_map.1 hr; rfl) (by simp)
  · have hx' : x ∈ ws := List.mem_reverse.1 hx
    have ha : AP K 9 1 x.1 x.2.length (txs x.2) := h.1.all (thG x) (List.mem_cons_of_mem _ (List.mem_map_of_mem hx'))
    have e : txs x.2 = (x.2.map tRow).flatten := by
      unfold txs
      induction x.2 with
      | nil => rfl
      | cons a l ih => simp [ih, tRow]
    rw [e] at ha
    exact ha.sl (by intro r hr; obtain ⟨x, _, rfl⟩ := List.mem_map.1 hr; rfl) (by simp)
theorem grp_mem : ∀ (ts : List (List UInt8)) (acc : List (List (List UInt8))) (k : Nat) (A : List (List UInt8)), (∀ g ∈ acc, g.length ≤ k ∧ ∀ x ∈ g, x ∈ A) → (∀ x ∈ ts, x ∈ A) → ∀ g ∈ ts.foldl grp acc, g.length ≤ k + ts.length ∧ ∀ x ∈ g, x ∈ A
  | [], acc, k, A, h, _, g, hg => ⟨by have := (h g hg).1; simpa using this, (h g hg).2⟩
  | t :: ts, acc, k, A, h, ha, g, hg => by
    have := grp_mem ts (grp acc t) (k + 1) A (fun g hg => by
      unfold grp at hg
      split at hg
      · rcases List.mem_cons.1 hg with rfl | hg
        · simp
        · have := h g hg; exact ⟨by omega, this.2⟩
      · split at hg
        · rcases List.mem_cons.1 hg with rfl | hg
          · have := h _ (List.mem_cons_self ..)
            refine ⟨by simp; omega, fun x hx => ?_⟩
            rcases List.mem_append.1 hx with hx | hx
            · exact this.2 x hx
            · simp at hx; subst hx; exact ha x (by simp)
          · have := h g (by simp [hg]); exact ⟨by omega, this.2⟩
        · simp at hg; subst hg
          exact ⟨by simp, fun x hx => by simp at hx; subst hx; exact ha x (by simp)⟩) (fun x hx => ha x (by simp [hx])) g hg
    exact ⟨by simp; omega, this.2⟩
theorem groups_mem {ts : List (List UInt8)} {g : List (List UInt8)} (h : g ∈ groupsB ts) : g.length ≤ ts.length ∧ ∀ x ∈ g, x ∈ ts := by
  have := grp_mem ts [[]] 0 ts (fun g hg => by simp at hg; subst hg; simp) (fun x hx => hx) g (List.mem_reverse.1 h)
  exact ⟨by omega, this.2⟩
theorem _root_.Go.AM.SepH.merges {H K : AHeap} {t : Th} {us r : List Th} (h : SepH H K (us ++ r)) (hp : t.P K) (hf : ∀ y ∈ t.F, ∃ a ∈ us, y ∈ a.F) : SepH H K (t :: r) := by
  have h1 := List.pairwise_append.1 h.sep.ap
  refine ⟨⟨fun x hx => ?_, List.pairwise_cons.2 ⟨fun x hx y hy hyx => ?_, h1.2.1⟩⟩, h.k, fun x hx y hy => ?_⟩
  · rcases List.mem_cons.1 hx with rfl | hx
    · exact hp
    · exact h.sep.all x (by simp [hx])
  · obtain ⟨a, ha, hya⟩ := hf y hy
    exact h1.2.2 a ha x hx y hya hyx
  · rcases List.mem_cons.1 hx with rfl | hx
    · obtain ⟨a, ha, hya⟩ := hf y hy
      exact h.ge a (by simp [ha]) y hya
    · exact h.ge x (by simp [hx]) y hy
theorem _root_.Go.AM.SepH.join {B H K : AHeap} {ts us : List Th} (h : SepH B H ts) (s : SepH H K us) : SepH B K (us ++ ts) := by
  refine ⟨⟨fun x hx => ?_, List.pairwise_append.2 ⟨s.sep.ap, h.sep.ap, fun x hx y hy b hb hb2 => ?_⟩⟩, h.k.trans s.k, fun x hx y hy => ?_⟩
  · rcases List.mem_append.1 hx with hx | hx
    · exact s.sep.all x hx
    · exact (h.sep.keeps s.k).all x hx
  · have := s.ge x hx b hb
    have := y.lt H (h.sep.all y hy) b hb2
    omega
  · rcases List.mem_append.1 hx with hx | hx
    · have := s.ge x hx y hy; have := h.k.n; omega
    · exact h.ge x hx y hy
theorem tb_blk {v : Value} {e esz n : Nat} {K : AHeap} {c : List Value} (h : AP K e esz v n c) : ∀ y ∈ tb v, y ∈ blkL v := by
  intro y hy
  rcases h with ⟨rfl, _, _⟩ | ⟨b, room, rfl, _, _⟩
  · simp [tb] at hy
  · simpa [tb, slc, blkL, blk] using hy
end Go.AM.Fd

set_option linter.unusedSimpArgs false
set_option linter.unusedVariables false
namespace Go.AM.Fd
open Nat (reduceAdd reduceEqDiff reduceLT reduceLeDiff reduceMul reduceSub)
open Go.Proofs Go.AM.F
def ne2 (L : Ly) (w : List UInt8) : Option (Int × Bool) := (kN 63 L (w.take (w.length - 1))).map fun i => (i, sufB [45] w)
def routeQ (L : Ly) (ws g0 g1 g2 g3 g4 : List (List UInt8)) : Int × Ly :=
  if g0.length ≠ 3 ∨ rightB (ws.getD 1 []) = false ∨ g2.all shpB = false ∨ g4.all shpB = false then (40, L)
  else if (nameOf L (ws.getD 1 [])).isSome then (41, L)
  else match kN 65 L (ws.getD 2 []), oAll (kN 62 L) g1, oAll (ne2 L) g2, oAll (kN 62 L) g3, oAll (ne2 L) g4 with
    | some s, some p, some q, some o, some f => if 16 < p.length ∨ 16 < q.length ∨ 16 < o.length ∨ 16 < f.length ∨ L.r.length = 64 then (3, L) else (0, { L with r := L.r ++ [⟨ws.getD 1 [], s, p, q, o, f⟩] })
    | _, _, _, _, _ => (42, L)
def routeP (L : Ly) (ws : List (List UInt8)) : Int × Ly := match groupsB ws with
  | [g0, g1, g2, g3, g4] => routeQ L ws g0 g1 g2 g3 g4
  | _ => (40, L)
theorem routeQ_t {L : Ly} {ws g0 g1 g2 g3 g4 : List (List UInt8)} (h1 : g0.length = 3) (h2 : rightB (ws.getD 1 []) = true) (h3 : g2.all shpB = true) (h4 : g4.all shpB = true) :
    routeQ L ws g0 g1 g2 g3 g4 = if (nameOf L (ws.getD 1 [])).isSome then ((41 : Int), L)
  else match kN 65 L (ws.getD 2 []), oAll (kN 62 L) g1, oAll (ne2 L) g2, oAll (kN 62 L) g3, oAll (ne2 L) g4 with
    | some s, some p, some q, some o, some f => if 16 < p.length ∨ 16 < q.length ∨ 16 < o.length ∨ 16 < f.length ∨ L.r.length = 64 then (3, L) else (0, { L with r := L.r ++ [⟨ws.getD 1 [], s, p, q, o, f⟩] })
    | _, _, _, _, _ => (42, L) := by
  unfold routeQ
  rw [if_neg]
  rintro (e | e | e | e)
  · exact e h1
  · rw [h2] at e; cases e
  · rw [h3] at e; cases e
  · rw [h4] at e; cases e
theorem oAll_congr {α : Type} {f g : List UInt8 → Option α} : ∀ {l : List (List UInt8)}, (∀ x ∈ l, f x = g x) → oAll f l = oAll g l
  | [], _ => rfl
  | x :: l, h => by simp only [oAll, h x (by simp), oAll_congr (l := l) (fun y hy => h y (by simp [hy]))]
theorem BkR.kA {B K : AHeap} {b mb : Nat} {u : V4} {xs : List RV} {L : Ly} {M : MB} {ex : List Th} (h : BkR B K b mb u xs L M ex) (t : Nat) (l : List (List UInt8)) : kAll t M l = oAll (Fd.kN t L) l := by
  rw [kAll_o]; exact oAll_congr fun x _ => h.kN t x
theorem BkR.nA {B K : AHeap} {b mb : Nat} {u : V4} {xs : List RV} {L : Ly} {M : MB} {ex : List Th} (h : BkR B K b mb u xs L M ex) (l : List (List UInt8)) : nAll 63 M l = oAll (ne2 L) l := by
  rw [nAll_o]; exact oAll_congr fun x _ => by unfold nOf ne2; rw [h.kN]
theorem all_shp {ws : List (List UInt8)} (h : ws.all shpB = true) (hw : ∀ w ∈ ws, w.length ≤ 1000000000) : ∀ w ∈ ws, 1 ≤ w.length ∧ w.length ≤ 1000000000 := fun w hm => by
  have := List.all_eq_true.1 h w hm
  simp only [shpB, Bool.and_eq_true, decide_eq_true_eq] at this
  exact ⟨by omega, hw w hm⟩
theorem _root_.Go.AM.OW.th {e esz : Nat} {H K : AHeap} {v : Value} {rows : List (List Value)} (h : OW e esz H K v rows) : (thA e esz v rows.length rows.flatten).P K := h.ap
theorem _root_.Go.AM.OW.thf {e esz : Nat} {H K : AHeap} {v : Value} {rows : List (List Value)} (h : OW e esz H K v rows) : ∀ y ∈ (thA e esz v rows.length rows.flatten).F, H.n ≤ y := fun y hy => h.f y (mem_blkL.1 hy)
def rO (c : List Value) : AO := .cells true false 6 c 43
def kO (a b c d : Bool) : AO := .cells true false 4 [.bool a, .bool b, .bool c, .bool d] 116
theorem _root_.Go.AM.SepH.box {H K : AHeap} {ts : List Th} (h : SepH H K ts) (o : AO) : SepH H (K.alloc o) (thB K.n o :: ts) :=
  h.add ((Keeps.refl K).alloc o) (AHeap.get_alloc_new K o) (by simp [thB])
theorem perm_bca {α : Type} (a b c : α) (l : List α) : (a :: b :: c :: l).Perm (b :: c :: a :: l) := (List.Perm.swap b a _).trans ((List.Perm.swap c a _).cons b)
theorem _root_.Go.AM.SepH.note {H K : AHeap} {t : Th} {ts : List Th} {ob rb : Nat} {o r : AO} (S : SepH H K (t :: thB ob o :: thB rb r :: ts)) (r' o' : AO) : SepH H ((K.set rb r').set ob o') (thB ob o' :: thB rb r' :: t :: ts) := by
  have g1 : K.get rb = some r := S.at_ 2 rfl
  have S1 := S.u2 (t' := thB rb r') (Chg.set K (AHeap.get_lt g1) r') (AHeap.get_set_same g1 _) (fun y hy => .inl hy)
  have g2 : (K.set rb r').get ob = some o := S1.at_ 1 rfl
  have S2 := S1.u1 (t' := thB ob o') (Chg.set _ (AHeap.get_lt g2) o') (AHeap.get_set_same g2 _) (fun y hy => .inl hy)
  exact S2.perm (perm_bca _ _ _ _)
theorem list5 {α : Type} {l : List α} (h : l.length = 5) : ∃ a b c d e, l = [a, b, c, d, e] := by
  rcases l with _ | ⟨a, _ | ⟨b, _ | ⟨c, _ | ⟨d, _ | ⟨e, _ | ⟨f, l⟩⟩⟩⟩⟩⟩ <;> simp at h
  exact ⟨a, b, c, d, e, rfl⟩
theorem fresh_sep {B K : AHeap} {b mb : Nat} {u : V4} {L : Ly} {M : MB} {l r : List Th} (J : SepH B K (l ++ thB b (bkO u mb) :: thM mb M :: r)) (hb : ∀ n, bfind n M = nameOf L n) (n : List UInt8) (x : Nat × Int) :
    ∃ w K', ARun Go.Proofs.Tryd.prog 4 27 [ptr b 0, .string ⟨n.toArray⟩, mval x] K w K' ∧ w = .bool (!(nameOf L n).isSome) ∧ Chg [mb] K K' ∧ (nameOf L n = none → SepH B K' (l ++ thB b (bkO u mb) :: thM mb (M ++ [(n, x)]) :: r)) := by
  have gb : K.get b = some (bkO u mb) := J.sep.all (thB b (bkO u mb)) (by simp)
  have gm : MP sEnc K mb (mbs M) := J.sep.all (thM mb M) (by simp)
  obtain ⟨w, K', r1, rfl, c, m⟩ := t27 (hc := rfl) gb gm n (x := mval x) rfl
  have e : (mfind n (mbs M)).isNone = !(nameOf L n).isSome := by
    rw [mfind_mbs, hb]; cases nameOf L n <;> rfl
  rw [e] at r1 m
  refine ⟨_, _, r1, rfl, c, fun hn => ?_⟩
  rw [hn] at m
  simp only [Option.isSome_none, Bool.not_false, if_true] at m
  have J2 : SepH B K ((l ++ [thB b (bkO u mb)]) ++ thM mb M :: r) := by simpa using J
  have := J2.upd (t' := thM mb (M ++ [(n, x)])) c (by
    show MP sEnc K' mb (mbs (M ++ [(n, x)]))
    simpa [mbs] using m) (fun y hy => .inl hy)
  simpa using this
theorem _root_.Go.AM.SepH.tail {H K : AHeap} {t : Th} {ts : List Th} (h : SepH H K (t :: ts)) : SepH H K ts := ⟨h.sep.tail, h.k, fun x hx => h.ge x (by simp [hx])⟩
theorem nameOf_r {L : Ly} (x : Ro) (h : nameOf L x.n = none) (m : List UInt8) : (match nameOf L m with
    | some y => some y
    | none => if m = x.n then some (66, ((L.r.length : Nat) : Int)) else none) = nameOf { L with r := L.r ++ [x] } m := by
  have e0 : (L.r ++ [x]).map (·.n) = L.r.map (·.n) ++ [x.n] := by simp
  have el : (L.r.map (·.n)).length = L.r.length := by simp
  unfold nameOf at h ⊢
  simp only [e0, ixT_app, el]
  cases hs : ixT m L.s with
  | some j => rfl
  | none =>
    cases hp : ixT m (L.p.map (·.1)) with
    | some j => rfl
    | none =>
      cases hg : ixT m (L.g.map (·.1)) with
      | some j => rfl
      | none =>
        cases hr : ixT m (L.r.map (·.n)) with
        | some j => rfl
        | none =>
          by_cases e : m = x.n
          · subst e; simp
          · have e' : ¬ x.n = m := fun y => e y.symm
            simp [e, e']
theorem mmI_max (a b : Int) : mmI true a b = max a b := by unfold mmI; simp only [if_true]; split <;> omega
set_option maxHeartbeats 8000000 in
theorem t46 {B K : AHeap} {b mb : Nat} {u : V4} {xs : List RV} {L : Ly} {M : MB} {ex : List Th} {v : Value} {ws : List (List UInt8)} (h : BkR B K b mb u xs L M ex) (hv : TL K v ws) (ha : Aw v (bkT b mb u xs L M ex)) (hl : ws.length ≤ 1000000) (hw : ∀ w ∈ ws, w.length ≤ 1000000000) (hrl : L.r.length ≤ 64) :
    ∃ w K', ARun Go.Proofs.Tryd.prog 4 46 [ptr b 0, v] K w K' ∧ Keeps B K' ∧ w = .int .i64 (routeP L ws).1 ∧ ((routeP L ws).1 = 0 → ∃ u' xs' M', BkR B K' b mb u' xs' (routeP L ws).2 M' ex) := by
  refine walk2 f46_ok f46_n ?_
  intro Q hq1 hq2
  have ia := Sl.is hv
  have la := hv.len
  simp (disch := first | assumption | omega | (simp only [LN] <;> omega) | (simp (disch := first | assumption | omega | (simp only [LN] <;> omega)) only [row_alloc, row_set]; assumption)) only [f46, W_block, P3, ↓reduceIte, reduceAdd, reduceEqDiff, reduceCtorEq, initFr, reduceLT, clsA, reduceLeDiff, reduceMul, reduceSub, reduceIte]
  refine callK (t62 hv hl) ?_
  rintro w K1 ⟨k1, ws', gs, eg⟩
  obtain ⟨sg, tg⟩ := gs.rd
  rw [← List.map_reverse] at eg
  have h1 := h.keeps k1
  have hv1 : TL K1 v ws := Sl.keeps hv k1
  generalize ws'.reverse = R at *
  have lw : lenS w = R.length := by have := Sl.len sg; simpa using this
  have iw := Sl.is sg
  have c0 : (0 : Int) ≤ 0 := by omega
  have c1 : (0 : Int) ≤ 1 := by omega
  have c2 : (0 : Int) ≤ 2 := by omega
  have c3 : (0 : Int) ≤ 3 := by omega
  have c4 : (0 : Int) ≤ 4 := by omega
  have t0 : Int.toNat 0 = 0 := rfl
  have t1 : Int.toNat 1 = 1 := rfl
  have t2 : Int.toNat 2 = 2 := rfl
  have t3 : Int.toNat 3 = 3 := rfl
  have t4 : Int.toNat 4 = 4 := rfl
  by_cases h5 : R.length = 5
  rotate_left
  · have e2 : (((R.length : Nat) : Int) != 5) = true := by simp; omega
    have ep : routeP L ws = (40, L) := by
      unfold routeP
      rw [← eg]
      split
      · rename_i e
        have := congrArg List.length e
        simp at this; omega
      · rfl
    simp (disch := first | assumption | omega | (simp only [LN] <;> omega) | (simp (disch := first | assumption | omega | (simp only [LN] <;> omega)) only [row_alloc, row_set]; assumption)) only [W_block, P3, ↓reduceIte, reduceAdd, reduceEqDiff, reduceCtorEq, initFr, reduceLT, clsA, reduceLeDiff, reduceMul, reduceSub, reduceIte, lw, e2]
    refine hq2 _ _ ⟨_, rfl, h1.sep.k, by rw [ep]; rfl, by rw [ep]; intro e; cases e⟩
  have e2 : (((R.length : Nat) : Int) != 5) = false := by simp; omega
  obtain ⟨⟨v0, g0⟩, ⟨v1, g1⟩, ⟨v2, g2⟩, ⟨v3, g3⟩, ⟨v4, g4⟩, rfl⟩ := list5 h5
  simp only [List.map_cons, List.map_nil] at sg eg
  have ep0 : routeP L ws = routeQ L ws g0 g1 g2 g3 g4 := by unfold routeP; rw [← eg]
  have m0 : g0 ∈ groupsB ws := by rw [← eg]; simp
  have m1 : g1 ∈ groupsB ws := by rw [← eg]; simp
  have m2 : g2 ∈ groupsB ws := by rw [← eg]; simp
  have m3 : g3 ∈ groupsB ws := by rw [← eg]; simp
  have m4 : g4 ∈ groupsB ws := by rw [← eg]; simp
  obtain ⟨nw, r0⟩ := Sl.at_ sg (by omega) (i := 0) (by simp)
  obtain ⟨_, r1⟩ := Sl.at_ sg (by omega) (i := 1) (by simp)
  obtain ⟨_, r2⟩ := Sl.at_ sg (by omega) (i := 2) (by simp)
  obtain ⟨_, r3⟩ := Sl.at_ sg (by omega) (i := 3) (by simp)
  obtain ⟨_, r4⟩ := Sl.at_ sg (by omega) (i := 4) (by simp)
  simp only [List.getElem_cons_zero, List.getElem_cons_succ] at r0 r1 r2 r3 r4
  have T0 : TL K1 v0 g0 := tg (v0, g0) (by simp)
  have T1 : TL K1 v1 g1 := tg (v1, g1) (by simp)
  have T2 : TL K1 v2 g2 := tg (v2, g2) (by simp)
  have T3 : TL K1 v3 g3 := tg (v3, g3) (by simp)
  have T4 : TL K1 v4 g4 := tg (v4, g4) (by simp)
  have i0 := Sl.is T0
  have l0 := T0.len
  have d0 : (0 : Int) < ((lenS w : Nat) : Int) := by rw [lw]; simp
  have d1 : (1 : Int) < ((lenS w : Nat) : Int) := by rw [lw]; simp
  have d2 : (2 : Int) < ((lenS w : Nat) : Int) := by rw [lw]; simp
  have d3 : (3 : Int) < ((lenS w : Nat) : Int) := by rw [lw]; simp
  have d4 : (4 : Int) < ((lenS w : Nat) : Int) := by rw [lw]; simp
  by_cases h3 : g0.length = 3
  rotate_left
  · have e3 : (((g0.length : Nat) : Int) != 3) = true := by simp; omega
    have ep : routeP L ws = (40, L) := by rw [ep0]; unfold routeQ; rw [if_pos (.inl h3)]
    simp (disch := first | assumption | omega | (simp only [LN] <;> omega) | (simp (disch := first | assumption | omega | (simp only [LN] <;> omega)) only [row_alloc, row_set]; assumption)) only [W_block, P3, ↓reduceIte, reduceAdd, reduceEqDiff, reduceCtorEq, initFr, reduceLT, clsA, reduceLeDiff, reduceMul, reduceSub, reduceIte, lw, e2, r0, nw, a_load1v, t0, l0, e3]
    refine hq2 _ _ ⟨_, rfl, h1.sep.k, by rw [ep]; rfl, by rw [ep]; intro e; cases e⟩
  have e3 : (((g0.length : Nat) : Int) != 3) = false := by simp; omega
  have hwl : 3 ≤ ws.length := by have := (groups_mem m0).1; omega
  obtain ⟨na, ra⟩ := hv1.at_ (i := 1) (by omega)
  obtain ⟨_, rb⟩ := hv1.at_ (i := 2) (by omega)
  have hlen := hw _ (getD_mem (d := []) (show 1 < ws.length by omega))
  have q1 : (1 : Int) < ((lenS v : Nat) : Int) := by omega
  have q2 : (2 : Int) < ((lenS v : Nat) : Int) := by omega
  unfold tRow at ra rb
  have hg : ∀ {g : List (List UInt8)}, g ∈ groupsB ws → g.length ≤ 1000000000 ∧ ∀ x ∈ g, x.length ≤ 1000000000 := fun hm => ⟨by have := (groups_mem hm).1; omega, fun x hx => hw x ((groups_mem hm).2 x hx)⟩
  simp (disch := first | assumption | omega | (simp only [LN] <;> omega) | (simp (disch := first | assumption | omega | (simp only [LN] <;> omega)) only [row_alloc, row_set]; assumption)) only [W_block, P3, ↓reduceIte, reduceAdd, reduceEqDiff, reduceCtorEq, initFr, reduceLT, clsA, reduceLeDiff, reduceMul, reduceSub, reduceIte, lw, e2, r0, nw, a_load1v, t0, l0, e3, ra, na, t1]
  refine callK (t26 _ _ (Nat.le_trans hlen (by decide))) ?_
  rintro _ X ⟨rfl, hX⟩
  rw [hX]
  cases hr : rightB (ws.getD 1 []) with
  | false =>
    have ep : routeP L ws = (40, L) := by rw [ep0]; unfold routeQ; rw [if_pos (.inr (.inl hr))]
    simp (disch := first | assumption | omega | (simp only [LN] <;> omega) | (simp (disch := first | assumption | omega | (simp only [LN] <;> omega)) only [row_alloc, row_set]; assumption)) only [W_block, P3, ↓reduceIte, reduceAdd, reduceEqDiff, reduceCtorEq, initFr, reduceLT, clsA, reduceLeDiff, reduceMul, reduceSub, reduceIte]
    refine hq2 _ _ ⟨_, rfl, h1.sep.k, by rw [ep]; rfl, by rw [ep]; intro e; cases e⟩
  | true =>
  simp (disch := first | assumption | omega | (simp only [LN] <;> omega) | (simp (disch := first | assumption | omega | (simp only [LN] <;> omega)) only [row_alloc, row_set]; assumption)) only [W_block, P3, ↓reduceIte, reduceAdd, reduceEqDiff, reduceCtorEq, initFr, reduceLT, clsA, reduceLeDiff, reduceMul, reduceSub, reduceIte, r2, nw, a_load1v, t2]
  refine callK (t63 T2 (hg m2).1 (hg m2).2) ?_
  rintro _ X ⟨rfl, hX⟩
  rw [hX]
  cases hs2 : g2.all shpB with
  | false =>
    have ep : routeP L ws = (40, L) := by rw [ep0]; unfold routeQ; rw [if_pos (.inr (.inr (.inl hs2)))]
    simp (disch := first | assumption | omega | (simp only [LN] <;> omega) | (simp (disch := first | assumption | omega | (simp only [LN] <;> omega)) only [row_alloc, row_set]; assumption)) only [W_block, P3, ↓reduceIte, reduceAdd, reduceEqDiff, reduceCtorEq, initFr, reduceLT, clsA, reduceLeDiff, reduceMul, reduceSub, reduceIte]
    refine hq2 _ _ ⟨_, rfl, h1.sep.k, by rw [ep]; rfl, by rw [ep]; intro e; cases e⟩
  | true =>
  simp (disch := first | assumption | omega | (simp only [LN] <;> omega) | (simp (disch := first | assumption | omega | (simp only [LN] <;> omega)) only [row_alloc, row_set]; assumption)) only [W_block, P3, ↓reduceIte, reduceAdd, reduceEqDiff, reduceCtorEq, initFr, reduceLT, clsA, reduceLeDiff, reduceMul, reduceSub, reduceIte, r4, nw, a_load1v, t4]
  refine callK (t63 T4 (hg m4).1 (hg m4).2) ?_
  rintro _ X ⟨rfl, hX⟩
  rw [hX]
  cases hs4 : g4.all shpB with
  | false =>
    have ep : routeP L ws = (40, L) := by rw [ep0]; unfold routeQ; rw [if_pos (.inr (.inr (.inr hs4)))]
    simp (disch := first | assumption | omega | (simp only [LN] <;> omega) | (simp (disch := first | assumption | omega | (simp only [LN] <;> omega)) only [row_alloc, row_set]; assumption)) only [W_block, P3, ↓reduceIte, reduceAdd, reduceEqDiff, reduceCtorEq, initFr, reduceLT, clsA, reduceLeDiff, reduceMul, reduceSub, reduceIte]
    refine hq2 _ _ ⟨_, rfl, h1.sep.k, by rw [ep]; rfl, by rw [ep]; intro e; cases e⟩
  | true =>
  rw [routeQ_t h3 hr hs2 hs4] at ep0
  have gb := h1.gb
  simp only [bkO] at gb
  have gm := a_mgetT h1.gm (ws.getD 1 [])
  have gn := a_mgetN h1.gm (ws.getD 2 [])
  have ga := a_assertN (K := K1) 65 (ws.getD 2 []) M
  rw [h1.n] at gm
  rw [h1.kN] at ga
  cases hn : nameOf L (ws.getD 1 []) with
  | some y =>
    have ep : routeP L ws = (41, L) := by rw [ep0, hn]; rfl
    rw [hn] at gm
    simp only [Option.isSome_some] at gm
    simp (disch := first | assumption | omega | (simp only [LN] <;> omega) | (simp (disch := first | assumption | omega | (simp only [LN] <;> omega)) only [row_alloc, row_set]; assumption)) only [W_block, P3, ↓reduceIte, reduceAdd, reduceEqDiff, reduceCtorEq, initFr, reduceLT, clsA, reduceLeDiff, reduceMul, reduceSub, reduceIte, la, ra, na, a_load1v, t1, gb, sd_mget, gm]
    refine hq2 _ _ ⟨_, rfl, h1.sep.k, by rw [ep]; rfl, by rw [ep]; intro e; cases e⟩
  | none =>
  rw [hn] at gm
  simp only [hn, Option.isSome_none, Bool.false_eq_true, if_false] at ep0 gm
  have hf : ∀ i : Int, fillA [.string ByteArray.empty, .int .i64 0, .slice none 0 0, .slice none 0 0, .slice none 0 0, .slice none 0 0] [(0, 1, .string ⟨(ws.getD 1 []).toArray⟩), (1, 1, .int .i64 i)] = some [.string ⟨(ws.getD 1 []).toArray⟩, .int .i64 i, .slice none 0 0, .slice none 0 0, .slice none 0 0, .slice none 0 0] := fun i => rfl
  have bw : bn w ≤ K1.n := Sl.bn_le sg (by simp) (by omega)
  simp (disch := first | assumption | omega | (simp only [LN] <;> omega) | (simp (disch := first | assumption | omega | (simp only [LN] <;> omega)) only [row_alloc, row_set]; assumption)) only [W_block, P3, ↓reduceIte, reduceAdd, reduceEqDiff, reduceCtorEq, initFr, reduceLT, clsA, reduceLeDiff, reduceMul, reduceSub, reduceIte, la, ra, rb, na, a_load1v, t1, t2, gb, sd_mget, gm, gn, ga, hf, r1, nw]
  generalize hsg : kN 65 L (ws.getD 2 []) = sg' at *
  generalize hnm : Value.string ⟨(ws.getD 1 []).toArray⟩ = nm at *
  have S0 : SepH K1 _ [thB (K1.n + 1) (kO false false false false), thB K1.n (rO [nm, .int .i64 (sg'.getD 0), .slice none 0 0, .slice none 0 0, .slice none 0 0, .slice none 0 0])] := ((SepH.nil K1).box _).box _
  have B0 := h1.keeps S0.k
  have S0' := S0
  refine callK (t64 B0.gb rfl B0.gm (Sl.keeps T1 S0'.k) (hg m1).1) ?_
  rintro _ K2 ⟨k2, x1, rfl, o1⟩
  have S1 := S0'.add k2 o1.th o1.thf
  rw [h1.kA] at o1 S1 ⊢
  generalize hPa : oAll (kN 62 L) g1 = Pa at *
  have gr1 := S1.at_ 2 rfl
  have go1 := S1.at_ 1 rfl
  have gl1 := S1.lt 1 rfl (y := K1.n + 1) (by simp [thB])
  have v1' : x1.oneCell' = true := o1.one
  have w1' : one1 x1 = True := by simp [one1, v1']
  simp only [thB, rO, kO] at gr1 go1
  have S1' := S1.note (rO [nm, .int .i64 (sg'.getD 0), x1, .slice none 0 0, .slice none 0 0, .slice none 0 0]) (kO Pa.isSome false false false)
  have r2' := (Keeps.row S1.k bw (v := w) (j := 2) (esz := 1)).trans r2
  simp (disch := first | assumption | omega | (simp only [LN] <;> omega) | (simp (disch := first | assumption | omega | (simp only [LN] <;> omega)) only [row_alloc, row_set]; assumption)) only [W_block, P3, ↓reduceIte, reduceAdd, reduceEqDiff, reduceCtorEq, initFr, reduceLT, clsA, reduceLeDiff, reduceMul, reduceSub, reduceIte, gr1, go1, v1', w1', r2', nw, t2]
  have B1 := h1.keeps S1'.k
  refine callK (t65 B1.gb rfl B1.gm (Sl.keeps T2 S1'.k) (hg m2).1 (all_shp hs2 (hg m2).2)) ?_
  rintro _ K3 ⟨k3, x2, rfl, o2⟩
  have S2 := S1'.add k3 o2.th o2.thf
  rw [h1.nA] at o2 S2 ⊢
  generalize hPb : oAll (ne2 L) g2 = Pb at *
  have gr2 := S2.at_ 2 rfl
  have go2 := S2.at_ 1 rfl
  have gl2 := S2.lt 1 rfl (y := K1.n + 1) (by simp [thB])
  have v2' : x2.oneCell' = true := o2.one
  have w2' : one1 x2 = True := by simp [one1, v2']
  simp only [thB, rO, kO] at gr2 go2
  have S2' := S2.note (rO [nm, .int .i64 (sg'.getD 0), x1, x2, .slice none 0 0, .slice none 0 0]) (kO Pa.isSome Pb.isSome false false)
  have r3' := (Keeps.row S2.k bw (v := w) (j := 3) (esz := 1)).trans r3
  simp (disch := first | assumption | omega | (simp only [LN] <;> omega) | (simp (disch := first | assumption | omega | (simp only [LN] <;> omega)) only [row_alloc, row_set]; assumption)) only [W_block, P3, ↓reduceIte, reduceAdd, reduceEqDiff, reduceCtorEq, initFr, reduceLT, clsA, reduceLeDiff, reduceMul, reduceSub, reduceIte, gr2, go2, v2', w2', r3', nw, t3]
  have B2 := h1.keeps S2'.k
  refine callK (t64 B2.gb rfl B2.gm (Sl.keeps T3 S2'.k) (hg m3).1) ?_
  rintro _ K4 ⟨k4, x3, rfl, o3⟩
  have S3 := S2'.add k4 o3.th o3.thf
  rw [h1.kA] at o3 S3 ⊢
  generalize hPc : oAll (kN 62 L) g3 = Pc at *
  have gr3 := S3.at_ 2 rfl
  have go3 := S3.at_ 1 rfl
  have gl3 := S3.lt 1 rfl (y := K1.n + 1) (by simp [thB])
  have v3' : x3.oneCell' = true := o3.one
  have w3' : one1 x3 = True := by simp [one1, v3']
  simp only [thB, rO, kO] at gr3 go3
  have S3' := S3.note (rO [nm, .int .i64 (sg'.getD 0), x1, x2, x3, .slice none 0 0]) (kO Pa.isSome Pb.isSome Pc.isSome false)
  have r4' := (Keeps.row S3.k bw (v := w) (j := 4) (esz := 1)).trans r4
  simp (disch := first | assumption | omega | (simp only [LN] <;> omega) | (simp (disch := first | assumption | omega | (simp only [LN] <;> omega)) only [row_alloc, row_set]; assumption)) only [W_block, P3, ↓reduceIte, reduceAdd, reduceEqDiff, reduceCtorEq, initFr, reduceLT, clsA, reduceLeDiff, reduceMul, reduceSub, reduceIte, gr3, go3, v3', w3', r4', nw, t4]
  have B3 := h1.keeps S3'.k
  refine callK (t65 B3.gb rfl B3.gm (Sl.keeps T4 S3'.k) (hg m4).1 (all_shp hs4 (hg m4).2)) ?_
  rintro _ K5 ⟨k5, x4, rfl, o4⟩
  have S4 := S3'.add k5 o4.th o4.thf
  rw [h1.nA] at o4 S4 ⊢
  generalize hPd : oAll (ne2 L) g4 = Pd at *
  have gr4 := S4.at_ 2 rfl
  have go4 := S4.at_ 1 rfl
  have gl4 := S4.lt 1 rfl (y := K1.n + 1) (by simp [thB])
  have v4' : x4.oneCell' = true := o4.one
  have w4' : one1 x4 = True := by simp [one1, v4']
  simp only [thB, rO, kO] at gr4 go4
  have S4' := S4.note (rO [nm, .int .i64 (sg'.getD 0), x1, x2, x3, x4]) (kO Pa.isSome Pb.isSome Pc.isSome Pd.isSome)
  have hq4 : ∀ X, asem (.eqs [0, 0, 0, 0] true (.agg #[.bool Pa.isSome, .bool Pb.isSome, .bool Pc.isSome, .bool Pd.isSome]) (.agg #[.bool true, .bool true, .bool true, .bool true])) X = some (.bool (!(Pa.isSome && Pb.isSome && Pc.isSome && Pd.isSome)), X) := by
    intro X; cases Pa <;> cases Pb <;> cases Pc <;> cases Pd <;> rfl
  have hf4 : fillA [.bool false, .bool false, .bool false, .bool false] [(0, 1, .bool true), (1, 1, .bool true), (2, 1, .bool true), (3, 1, .bool true)] = some [.bool true, .bool true, .bool true, .bool true] := rfl
  cases sg' with
  | none =>
    have ep : routeP L ws = (42, L) := by rw [ep0]
    simp (disch := first | assumption | omega | (simp only [LN] <;> omega) | (simp (disch := first | assumption | omega | (simp only [LN] <;> omega)) only [row_alloc, row_set]; assumption)) only [W_block, P3, ↓reduceIte, reduceAdd, reduceEqDiff, reduceCtorEq, initFr, reduceLT, clsA, reduceLeDiff, reduceMul, reduceSub, reduceIte, t3, Option.getD_some, gr4, go4, v4', w4', Option.isSome_none]
    refine hq2 _ _ ⟨_, rfl, (h1.keeps S4'.k).sep.k, by rw [ep]; rfl, by rw [ep]; intro e; cases e⟩
  | some s =>
  by_cases hall : (Pa.isSome && Pb.isSome && Pc.isSome && Pd.isSome) = true
  rotate_left
  · have ep : routeP L ws = (42, L) := by
      rw [ep0]; cases Pa <;> cases Pb <;> cases Pc <;> cases Pd <;> first | rfl | exact absurd rfl hall
    have hall' : (Pa.isSome && Pb.isSome && Pc.isSome && Pd.isSome) = false := by simpa using hall
    simp (disch := first | assumption | omega | (simp only [LN] <;> omega) | (simp (disch := first | assumption | omega | (simp only [LN] <;> omega)) only [row_alloc, row_set]; assumption)) only [W_block, P3, ↓reduceIte, reduceAdd, reduceEqDiff, reduceCtorEq, initFr, reduceLT, clsA, reduceLeDiff, reduceMul, reduceSub, reduceIte, t3, Option.getD_some, gr4, go4, v4', w4', Option.isSome_some, hf4, hq4, hall']
    refine hq2 _ _ ⟨_, rfl, (h1.keeps S4'.k).sep.k, by rw [ep]; rfl, by rw [ep]; intro e; cases e⟩
  cases Pa with
  | none => cases hall
  | some p =>
  cases Pb with
  | none => cases hall
  | some q =>
  cases Pc with
  | none => cases hall
  | some o =>
  cases Pd with
  | none => cases hall
  | some f =>
  simp only [Option.isSome_some, Option.getD_some] at gr4 go4 S4' o1 o2 o3 o4 hq4 hall ep0
  have L1 : lenS x1 = p.length := by rw [o1.len]; simp
  have L2 : lenS x2 = q.length := by rw [o2.len]; simp
  have L3 : lenS x3 = o.length := by rw [o3.len]; simp
  have L4 : lenS x4 = f.length := by rw [o4.len]; simp
  have I1 := o1.is
  have I2 := o2.is
  have I3 := o3.is
  have I4 := o4.is
  by_cases hlim : 16 < p.length ∨ 16 < q.length ∨ 16 < o.length ∨ 16 < f.length
  · have ep : routeP L ws = (3, L) := by rw [ep0]; exact if_pos (by omega)
    have hgt : (16 : Int) < mmI true (mmI true (mmI true ((p.length : Nat) : Int) ((q.length : Nat) : Int)) ((o.length : Nat) : Int)) ((f.length : Nat) : Int) := by
      simp only [mmI_max]; omega
    simp (disch := first | assumption | omega | (simp only [LN] <;> omega) | (simp (disch := first | assumption | omega | (simp only [LN] <;> omega)) only [row_alloc, row_set]; assumption)) only [W_block, P3, ↓reduceIte, reduceAdd, reduceEqDiff, reduceCtorEq, initFr, reduceLT, clsA, reduceLeDiff, reduceMul, reduceSub, reduceIte, t3, Option.getD_some, gr4, go4, v4', w4', Option.isSome_some, hf4, hq4, hall, L1, L2, L3, L4, st_mm4, a_mm4]
    refine hq2 _ _ ⟨_, rfl, (h1.keeps S4'.k).sep.k, by rw [ep]; rfl, by rw [ep]; intro e; cases e⟩
  have hgt : ¬ (16 : Int) < mmI true (mmI true (mmI true ((p.length : Nat) : Int) ((q.length : Nat) : Int)) ((o.length : Nat) : Int)) ((f.length : Nat) : Int) := by
    simp only [mmI_max]; omega
  have B4 := h1.keeps S4'.k
  have gb4 := (h1.keeps S4.k).gb
  simp only [bkO] at gb4
  have lb4 : b < K1.n := AHeap.get_lt gb
  have lr : lenS u.r = L.r.length := by rw [h1.ly.r.len, h1.ly.rlen]
  have ir := Sl.is h1.ly.r
  by_cases h64 : L.r.length = 64
  · have e64 : (((L.r.length : Nat) : Int) == 64) = true := by simp; omega
    have ep : routeP L ws = (3, L) := by rw [ep0]; exact if_pos (by omega)
    simp (disch := first | assumption | omega | (simp only [LN] <;> omega) | (simp (disch := first | assumption | omega | (simp only [LN] <;> omega)) only [row_alloc, row_set]; assumption)) only [W_block, P3, ↓reduceIte, reduceAdd, reduceEqDiff, reduceCtorEq, initFr, reduceLT, clsA, reduceLeDiff, reduceMul, reduceSub, reduceIte, t3, Option.getD_some, gr4, go4, v4', w4', Option.isSome_some, hf4, hq4, hall, L1, L2, L3, L4, st_mm4, a_mm4, gb4, lr, e64]
    refine hq2 _ _ ⟨_, rfl, (h1.keeps S4'.k).sep.k, by rw [ep]; rfl, by rw [ep]; intro e; cases e⟩
  have e64 : (((L.r.length : Nat) : Int) == 64) = false := by simp; omega
  have ep : routeP L ws = (0, { L with r := L.r ++ [⟨ws.getD 1 [], s, p, q, o, f⟩] }) := by rw [ep0]; exact if_neg (by omega)
  simp (disch := first | assumption | omega | (simp only [LN] <;> omega) | (simp (disch := first | assumption | omega | (simp only [LN] <;> omega)) only [row_alloc, row_set]; assumption)) only [W_block, P3, ↓reduceIte, reduceAdd, reduceEqDiff, reduceCtorEq, initFr, reduceLT, clsA, reduceLeDiff, reduceMul, reduceSub, reduceIte, t3, Option.getD_some, gr4, go4, v4', w4', Option.isSome_some, hf4, hq4, hall, L1, L2, L3, L4, st_mm4, a_mm4, gb4, lr, e64]
  subst hnm
  have hx : (thI [⟨⟨ws.getD 1 [], s, p, q, o, f⟩, x1, x2, x3, x4⟩]).P _ := fun y hy => by
    rw [List.mem_singleton] at hy
    subst hy
    have a1 := S4'.at_ 5 rfl
    have a2 := S4'.at_ 4 rfl
    have a3 := S4'.at_ 3 rfl
    have a4 := S4'.at_ 2 rfl
    exact ⟨AP.sl (rows := p.map iRow) a1 o1.r rfl, AP.sl (rows := q.map nRow) a2 o2.r rfl, AP.sl (rows := o.map iRow) a3 o3.r rfl, AP.sl (rows := f.map nRow) a4 o4.r rfl⟩
  have S5 := (S4'.perm (List.perm_append_comm (l₁ := [_, _]) (l₂ := [_, _, _, _]))).merges (us := [_, _, _, _]) (r := [_, _]) hx (fun y hy => by
    have hy' : y ∈ (⟨⟨ws.getD 1 [], s, p, q, o, f⟩, x1, x2, x3, x4⟩ : RV).bl := by simpa [thI] using hy
    simp only [RV.bl, List.mem_append] at hy'
    rcases hy' with ((e | e) | e) | e
    · exact ⟨_, List.mem_cons_of_mem _ (List.mem_cons_of_mem _ (List.mem_cons_of_mem _ (List.mem_cons_self ..))), tb_blk o1.ap y e⟩
    · exact ⟨_, List.mem_cons_of_mem _ (List.mem_cons_of_mem _ (List.mem_cons_self ..)), tb_blk o2.ap y e⟩
    · exact ⟨_, List.mem_cons_of_mem _ (List.mem_cons_self ..), tb_blk o3.ap y e⟩
    · exact ⟨_, List.mem_cons_self .., tb_blk o4.ap y e⟩)
  have J := h1.sep.join S5
  have J1 := J.perm (List.Perm.cons _ ((List.perm_append_comm (l₁ := [_, _, _, _, _, _, _, _]) (l₂ := [_])).append_right ex))
  have J2 := J1.merges (us := [_, _]) (r := _ :: _ :: _ :: _ :: _ :: _ :: _ :: _ :: ex) (t := thI (xs ++ [⟨⟨ws.getD 1 [], s, p, q, o, f⟩, x1, x2, x3, x4⟩])) (fun y hy => by
    rcases List.mem_append.1 hy with hy | hy
    · exact J1.at_ 1 rfl y hy
    · exact J1.at_ 0 rfl y hy) (fun y hy => by
    simp only [thI, List.flatMap_append, List.mem_append] at hy
    rcases hy with e | e
    · exact ⟨_, List.mem_cons_of_mem _ (List.mem_cons_self ..), e⟩
    · exact ⟨_, List.mem_cons_self .., e⟩)
  refine callK (fresh_sep (l := [_, _, _]) (r := _ :: _ :: _ :: _ :: ex) J2 h1.n (ws.getD 1 []) (66, ((L.r.length : Nat) : Int))) ?_
  rintro _ K7 ⟨rfl, c7, J7⟩
  have J7 := J7 hn
  have gb7 := J7.at_ 3 rfl
  have gr7 := J7.at_ 2 rfl
  simp only [thB, bkO, rO] at gb7 gr7
  have hf6 : fillA [.string ByteArray.empty, .int .i64 0, .slice none 0 0, .slice none 0 0, .slice none 0 0, .slice none 0 0] [(0, 6, .agg #[.string ⟨(ws.getD 1 []).toArray⟩, .int .i64 s, x1, x2, x3, x4])] = some [.string ⟨(ws.getD 1 []).toArray⟩, .int .i64 s, x1, x2, x3, x4] := rfl
  have ha6 : [.string ⟨(ws.getD 1 []).toArray⟩, .int .i64 s, x1, x2, x3, x4].all Value.oneCell' = true := by
    simp only [List.all_cons, List.all_nil, v1', v2', v3', v4', Bool.and_true]; rfl
  simp (disch := first | assumption | omega | (simp only [LN] <;> omega) | (simp (disch := first | assumption | omega | (simp only [LN] <;> omega)) only [row_alloc, row_set]; assumption)) only [W_block, P3, ↓reduceIte, reduceAdd, reduceEqDiff, reduceCtorEq, initFr, reduceLT, clsA, reduceLeDiff, reduceMul, reduceSub, reduceIte, gb7, gr7, hf6, ha6]
  have J8 := J7.keeps ((Keeps.refl K7).alloc (.cells true false 6 [.string ⟨(ws.getD 1 []).toArray⟩, .int .i64 s, x1, x2, x3, x4] 43))
  have a8 : AP _ 43 6 u.r xs.length (xs.map RV.row).flatten := J8.at_ 8 rfl
  have lx : xs.length = L.r.length := h1.ly.rlen
  refine appGD a8 ⟨_, _, rfl⟩ (elems_new rfl rfl) rfl ⟨by omega, by omega⟩ ?_
  intro v' K9 a9 c9 hb9
  have ov : v'.oneCell' = true := by obtain ⟨a, rfl⟩ := a9.shape; rfl
  have ow : one1 v' = True := by simp [one1, ov]
  have J9 := J8.upd (l := [_, _, _, _, _, _, _, _]) (r := ex) (t' := thA 43 6 v' (xs.length + 1) ((xs.map RV.row).flatten ++ [.string ⟨(ws.getD 1 []).toArray⟩, .int .i64 s, x1, x2, x3, x4])) c9 a9 (fun y hy => by
    rcases hb9 with e | e
    · left; have := mem_blkL.1 hy; rw [e] at this; exact mem_blkL.2 this
    · right; have := mem_blkL.1 hy; rw [e] at this; cases this; exact Nat.le_refl _)
  have gb9 := J9.at_ 3 rfl
  simp only [thB, bkO] at gb9
  simp (disch := first | assumption | omega | (simp only [LN] <;> omega) | (simp (disch := first | assumption | omega | (simp only [LN] <;> omega)) only [row_alloc, row_set]; assumption)) only [W_block, P3, ↓reduceIte, reduceAdd, reduceEqDiff, reduceCtorEq, initFr, reduceLT, clsA, reduceLeDiff, reduceMul, reduceSub, reduceIte, gb9, ow, ov]
  have JA := J9.u3 (t' := thB b (bkO ⟨u.s, u.p, u.g, v'⟩ mb)) (Chg.set K9 (AHeap.get_lt gb9) (bkO ⟨u.s, u.p, u.g, v'⟩ mb)) (AHeap.get_set_same gb9 _) (fun y hy => .inl hy)
  refine hq2 _ _ ⟨_, rfl, JA.k, by rw [ep]; rfl, fun _ => ⟨⟨u.s, u.p, u.g, v'⟩, xs ++ [⟨⟨ws.getD 1 [], s, p, q, o, f⟩, x1, x2, x3, x4⟩], M ++ [(ws.getD 1 [], (66, ((L.r.length : Nat) : Int)))], ?_⟩⟩
  rw [ep]
  refine ⟨?_, by simp [h.e], fun m => ?_⟩
  · have JB := (JA.perm ((List.perm_append_comm (l₁ := [_]) (l₂ := [_, _, _, _, _, _, _, _])).append_right ex)).tail.tail
    have ef : (xs.map RV.row).flatten ++ [.string ⟨(ws.getD 1 []).toArray⟩, .int .i64 s, x1, x2, x3, x4] = ((xs ++ [(⟨⟨ws.getD 1 [], s, p, q, o, f⟩, x1, x2, x3, x4⟩ : RV)]).map RV.row).flatten := by simp [RV.row]
    rw [ef] at JB
    have : xs.length + 1 = (xs ++ [(⟨⟨ws.getD 1 [], s, p, q, o, f⟩, x1, x2, x3, x4⟩ : RV)]).length := by simp
    rw [this] at JB
    exact JB
  · rw [bfind_app, h.n]; exact nameOf_r ⟨ws.getD 1 [], s, p, q, o, f⟩ hn m
end Go.AM.Fd

set_option linter.unusedSimpArgs false
set_option linter.unusedVariables false
namespace Go.AM.Fd
open Nat (reduceAdd reduceEqDiff reduceLT reduceLeDiff reduceMul reduceSub)
open Go.Proofs Go.AM.F
theorem fresh_aw {B K : AHeap} {ts : List Th} {v : Value} (h : SepH B K ts) (hv : Fresh K.n v) : Aw v ts := by
  intro y hy t ht hm
  have h1 := t.lt K (h.sep.all t ht) y hm
  have h2 : blk v = some y := by
    revert hy
    unfold tb
    split
    · intro hy; simp at hy; subst hy; rfl
    · intro hy; simp at hy
  have := hv y h2
  omega
theorem splitB_mem (c : UInt8) : ∀ (l : List UInt8) (t : List UInt8), t ∈ splitB c l → t.length ≤ l.length
  | [], t, h => by simp [splitB] at h; subst h; simp
  | x :: l, t, h => by
    have ih := splitB_mem c l
    simp only [splitB] at h
    split at h
    · rcases List.mem_cons.1 h with rfl | h
      · simp
      · have := ih t h; simp; omega
    · split at h
      · rename_i p r e
        rcases List.mem_cons.1 h with rfl | h
        · have := ih p (by rw [e]; simp); simp; omega
        · have := ih t (by rw [e]; simp [h]); simp; omega
      · simp at h; subst h; simp
theorem wordsB_mem {l t : List UInt8} (h : t ∈ wordsB l) : t.length ≤ l.length := splitB_mem 32 l t (List.mem_filter.1 h).1
def wSection : List UInt8 := [115, 101, 99, 116, 105, 111, 110]
def wSignal : List UInt8 := [115, 105, 103, 110, 97, 108]
def wRoute : List UInt8 := [114, 111, 117, 116, 101]
def lineW (L : Ly) (ws : List (List UInt8)) : Int × Ly :=
  if ws.length = 0 then (0, L)
  else if ws.getD 0 [] = wSection then secP L ws
  else if ws.getD 0 [] = wPoint then partP L ws
  else if ws.getD 0 [] = wSignal then partP L ws
  else if ws.getD 0 [] = wRoute then routeP L ws
  else (40, L)
def lineP (L : Ly) (l : List UInt8) : Int × Ly := if okW (aheadB l) then lineW L (wordsB (aheadB l)) else (30, L)
structure LyLim (L : Ly) : Prop where
  s : L.s.length ≤ 64
  p : L.p.length ≤ 32
  g : L.g.length ≤ 32
  r : L.r.length ≤ 64
set_option maxHeartbeats 1000000 in
theorem t19 {B K : AHeap} {b mb : Nat} {u : V4} {xs : List RV} {L : Ly} {M : MB} {ex : List Th} (h : BkR B K b mb u xs L M ex) (l : List UInt8) (hl : l.length ≤ 100000) (hL : LyLim L) :
    ∃ w K', ARun Go.Proofs.Tryd.prog 4 19 [ptr b 0, .string ⟨l.toArray⟩] K w K' ∧ w = .int .i64 (lineP L l).1 ∧ ((lineP L l).1 = 0 → ∃ u' xs' M', BkR B K' b mb u' xs' (lineP L l).2 M' ex) ∧ Keeps B K' := by
  refine walk2 f19_ok f19_n ?_
  intro Q hq1 hq2
  simp (disch := first | assumption | omega | (simp only [LN] <;> omega) | (simp (disch := first | assumption | omega | (simp only [LN] <;> omega)) only [row_alloc, row_set]; assumption)) only [f19, W_block, P3, ↓reduceIte, reduceAdd, reduceEqDiff, reduceCtorEq, initFr, reduceLT, clsA, reduceLeDiff, reduceMul, reduceSub, reduceIte]
  refine callK (t43 K l (by omega)) ?_
  rintro _ K1 ⟨k1, hw⟩
  have h1 := h.keeps k1
  unfold lineP at hq1 hq2
  cases hok : okW (aheadB l) with
  | false =>
    simp only [hok, Bool.false_eq_true, if_false] at hw hq2
    subst hw
    simp (disch := first | assumption | omega | (simp only [LN] <;> omega) | (simp (disch := first | assumption | omega | (simp only [LN] <;> omega)) only [row_alloc, row_set]; assumption)) only [W_block, P3, ↓reduceIte, reduceAdd, reduceEqDiff, reduceCtorEq, initFr, reduceLT, clsA, reduceLeDiff, reduceMul, reduceSub, reduceIte]
    refine hq2 _ _ ⟨_, rfl, rfl, (fun e => by cases e), h1.sep.k⟩
  | true =>
  simp only [hok, if_true] at hw hq2
  obtain ⟨v, rfl, av, fv⟩ := hw
  have hv : TL K1 v _ := AP.tl av
  have hwl := wordsB_len (aheadB l)
  have hal := ahead_len l
  have hwm : ∀ w ∈ wordsB (aheadB l), w.length ≤ 1000000000 := fun w hm => by have := wordsB_mem hm; omega
  have aw : Aw v (bkT b mb u xs L M ex) := fresh_aw h.sep fv
  generalize wordsB (aheadB l) = ws at *
  have ia := Sl.is hv
  have la := hv.len
  unfold lineW at hq2
  by_cases h0 : ws.length = 0
  · have e0 : (((ws.length : Nat) : Int) == 0) = true := beqi_yes (by omega)
    simp only [h0, if_true] at hq2
    simp (disch := first | assumption | omega | (simp only [LN] <;> omega) | (simp (disch := first | assumption | omega | (simp only [LN] <;> omega)) only [row_alloc, row_set]; assumption)) only [W_block, P3, ↓reduceIte, reduceAdd, reduceEqDiff, reduceCtorEq, initFr, reduceLT, clsA, reduceLeDiff, reduceMul, reduceSub, reduceIte, la, e0]
    refine hq2 _ _ ⟨_, rfl, rfl, fun e => ⟨_, _, _, h1⟩, h1.sep.k⟩
  have e0 : (((ws.length : Nat) : Int) == 0) = false := beqi_no (by omega)
  simp only [h0, if_false] at hq2
  obtain ⟨na, ra⟩ := hv.at_ (i := 0) (by omega)
  have c0 : (0 : Int) ≤ 0 := by omega
  have c1 : (0 : Int) < ((lenS v : Nat) : Int) := by omega
  have t0 : Int.toNat 0 = 0 := rfl
  unfold tRow at ra
  have q1 : binA .eql (.string ⟨(ws.getD 0 []).toArray⟩) (.string ⟨⟨[115, 101, 99, 116, 105, 111, 110]⟩⟩) = some (.bool (decide (ws.getD 0 [] = wSection))) := b_eqS _ wSection
  have q2 : binA .eql (.string ⟨(ws.getD 0 []).toArray⟩) (.string ⟨⟨[112, 111, 105, 110, 116]⟩⟩) = some (.bool (decide (ws.getD 0 [] = wPoint))) := b_eqS _ wPoint
  have q3 : binA .eql (.string ⟨(ws.getD 0 []).toArray⟩) (.string ⟨⟨[115, 105, 103, 110, 97, 108]⟩⟩) = some (.bool (decide (ws.getD 0 [] = wSignal))) := b_eqS _ wSignal
  have q4 : binA .eql (.string ⟨(ws.getD 0 []).toArray⟩) (.string ⟨⟨[114, 111, 117, 116, 101]⟩⟩) = some (.bool (decide (ws.getD 0 [] = wRoute))) := b_eqS _ wRoute
  generalize ws.getD 0 [] = x at ra q1 q2 q3 q4 hq2
  by_cases h1' : x = wSection
  · simp only [if_pos h1'] at hq2
    rw [decide_eq_true h1'] at q1
    simp (disch := first | assumption | omega | (simp only [LN] <;> omega) | (simp (disch := first | assumption | omega | (simp only [LN] <;> omega)) only [row_alloc, row_set]; assumption)) only [W_block, P3, ↓reduceIte, reduceAdd, reduceEqDiff, reduceCtorEq, initFr, reduceLT, clsA, reduceLeDiff, reduceMul, reduceSub, reduceIte, la, e0, ra, na, a_load1v, t0, q1]
    refine callK (t44 h1 hv aw (by omega) hwm hL.s) ?_
    rintro _ K2 ⟨k2, rfl, r2⟩
    simp (disch := first | assumption | omega | (simp only [LN] <;> omega) | (simp (disch := first | assumption | omega | (simp only [LN] <;> omega)) only [row_alloc, row_set]; assumption)) only [W_block, P3, ↓reduceIte, reduceAdd, reduceEqDiff, reduceCtorEq, initFr, reduceLT, clsA, reduceLeDiff, reduceMul, reduceSub, reduceIte]
    exact hq2 _ _ ⟨_, rfl, rfl, (fun e => by obtain ⟨u', M', r⟩ := r2 e; exact ⟨_, _, _, r⟩), k2⟩
  by_cases h2' : x = wPoint
  · simp only [if_neg h1', if_pos h2'] at hq2
    rw [decide_eq_false h1'] at q1
    rw [decide_eq_true h2'] at q2
    simp (disch := first | assumption | omega | (simp only [LN] <;> omega) | (simp (disch := first | assumption | omega | (simp only [LN] <;> omega)) only [row_alloc, row_set]; assumption)) only [W_block, P3, ↓reduceIte, reduceAdd, reduceEqDiff, reduceCtorEq, initFr, reduceLT, clsA, reduceLeDiff, reduceMul, reduceSub, reduceIte, la, e0, ra, na, a_load1v, t0, q1, q2]
    refine callK (t45 h1 hv aw (by omega) hwm hL.p hL.g) ?_
    rintro _ K2 ⟨k2, rfl, r2⟩
    simp (disch := first | assumption | omega | (simp only [LN] <;> omega) | (simp (disch := first | assumption | omega | (simp only [LN] <;> omega)) only [row_alloc, row_set]; assumption)) only [W_block, P3, ↓reduceIte, reduceAdd, reduceEqDiff, reduceCtorEq, initFr, reduceLT, clsA, reduceLeDiff, reduceMul, reduceSub, reduceIte]
    exact hq2 _ _ ⟨_, rfl, rfl, (fun e => by obtain ⟨u', M', r⟩ := r2 e; exact ⟨_, _, _, r⟩), k2⟩
  by_cases h3' : x = wSignal
  · simp only [if_neg h1', if_neg h2', if_pos h3'] at hq2
    rw [decide_eq_false h1'] at q1
    rw [decide_eq_false h2'] at q2
    rw [decide_eq_true h3'] at q3
    simp (disch := first | assumption | omega | (simp only [LN] <;> omega) | (simp (disch := first | assumption | omega | (simp only [LN] <;> omega)) only [row_alloc, row_set]; assumption)) only [W_block, P3, ↓reduceIte, reduceAdd, reduceEqDiff, reduceCtorEq, initFr, reduceLT, clsA, reduceLeDiff, reduceMul, reduceSub, reduceIte, la, e0, ra, na, a_load1v, t0, q1, q2, q3]
    refine callK (t45 h1 hv aw (by omega) hwm hL.p hL.g) ?_
    rintro _ K2 ⟨k2, rfl, r2⟩
    simp (disch := first | assumption | omega | (simp only [LN] <;> omega) | (simp (disch := first | assumption | omega | (simp only [LN] <;> omega)) only [row_alloc, row_set]; assumption)) only [W_block, P3, ↓reduceIte, reduceAdd, reduceEqDiff, reduceCtorEq, initFr, reduceLT, clsA, reduceLeDiff, reduceMul, reduceSub, reduceIte]
    exact hq2 _ _ ⟨_, rfl, rfl, (fun e => by obtain ⟨u', M', r⟩ := r2 e; exact ⟨_, _, _, r⟩), k2⟩
  by_cases h4' : x = wRoute
  · simp only [if_neg h1', if_neg h2', if_neg h3', if_pos h4'] at hq2
    rw [decide_eq_false h1'] at q1
    rw [decide_eq_false h2'] at q2
    rw [decide_eq_false h3'] at q3
    rw [decide_eq_true h4'] at q4
    simp (disch := first | assumption | omega | (simp only [LN] <;> omega) | (simp (disch := first | assumption | omega | (simp only [LN] <;> omega)) only [row_alloc, row_set]; assumption)) only [W_block, P3, ↓reduceIte, reduceAdd, reduceEqDiff, reduceCtorEq, initFr, reduceLT, clsA, reduceLeDiff, reduceMul, reduceSub, reduceIte, la, e0, ra, na, a_load1v, t0, q1, q2, q3, q4]
    refine callK (t46 h1 hv aw (by omega) hwm hL.r) ?_
    rintro _ K2 ⟨k2, rfl, r2⟩
    simp (disch := first | assumption | omega | (simp only [LN] <;> omega) | (simp (disch := first | assumption | omega | (simp only [LN] <;> omega)) only [row_alloc, row_set]; assumption)) only [W_block, P3, ↓reduceIte, reduceAdd, reduceEqDiff, reduceCtorEq, initFr, reduceLT, clsA, reduceLeDiff, reduceMul, reduceSub, reduceIte]
    exact hq2 _ _ ⟨_, rfl, rfl, r2, k2⟩
  simp only [if_neg h1', if_neg h2', if_neg h3', if_neg h4'] at hq2
  rw [decide_eq_false h1'] at q1
  rw [decide_eq_false h2'] at q2
  rw [decide_eq_false h3'] at q3
  rw [decide_eq_false h4'] at q4
  simp (disch := first | assumption | omega | (simp only [LN] <;> omega) | (simp (disch := first | assumption | omega | (simp only [LN] <;> omega)) only [row_alloc, row_set]; assumption)) only [W_block, P3, ↓reduceIte, reduceAdd, reduceEqDiff, reduceCtorEq, initFr, reduceLT, clsA, reduceLeDiff, reduceMul, reduceSub, reduceIte, la, e0, ra, na, a_load1v, t0, q1, q2, q3, q4]
  refine hq2 _ _ ⟨_, rfl, rfl, (fun e => by cases e), h1.sep.k⟩
end Go.AM.Fd

set_option linter.unusedSimpArgs false
set_option linter.unusedVariables false
namespace Go.AM.Fd
open Nat (reduceAdd reduceEqDiff reduceLT reduceLeDiff reduceMul reduceSub)
open Go.Proofs Go.AM.F
noncomputable def cntF : Func := (Go.Proofs.Tryd.prog.funcs[88]?).getD default
theorem cnt_f : Go.Proofs.Tryd.prog.funcs[88]? = some cntF := by kernel_rfl
theorem cnt_n : (cntF.name == "runtime.NumGoroutine") = false := by kernel_rfl
theorem cnt_b : cntF.body.isNone = true := by kernel_rfl
theorem cnt_x : Extern.findNext cntF = none := by kernel_rfl
theorem cnt_e : Extern.find cntF = some Extern.BytealgCount.count := by kernel_rfl
theorem t88 (H : AHeap) (l : List UInt8) (c : Nat) : ∃ w H', ARun Go.Proofs.Tryd.prog 4 88 [.string ⟨l.toArray⟩, .int .u8 (c : Int)] H w H' ∧ w = .int .i64 ((cB (UInt8.ofNat c) l : Nat) : Int) ∧ H' = H := by
  refine ⟨_, _, arun_ext cnt_f cnt_n cnt_b cnt_x cnt_e (fun σ => .int .i64 ((cB (UInt8.ofNat c) l : Nat) : Int)) ?_, rfl, rfl⟩
  intro σ w args' hv
  cases hv with
  | cons a hv =>
    cases hv with
    | cons b hv =>
      cases hv
      cases a
      cases b
      exact run_count_string (P := Go.Proofs.Tryd.prog) l (c : Int) w
theorem t77 (H : AHeap) (l : List UInt8) (c : UInt8) : ∃ w H', ARun Go.Proofs.Tryd.prog 4 77 [.string ⟨l.toArray⟩, .string ⟨[c].toArray⟩] H w H' ∧ w = .int .i64 ((cB c l : Nat) : Int) ∧ H' = H := by
  refine walk2 f77_ok f77_n ?_
  intro Q hq1 hq2
  have e0 : (((1 : Nat) : Int) == 0) = false := by simp
  have e1 : (((1 : Nat) : Int) == 1) = true := by simp
  have e2 : [c].getD 0 0 = c := rfl
  have hl : 0 < [c].length := by simp
  simp (disch := first | assumption | omega | (simp only [LN] <;> omega) | (simp (disch := first | assumption | omega | (simp only [LN] <;> omega)) only [row_alloc, row_set]; assumption)) only [f77, W_block, P3, ↓reduceIte, reduceAdd, reduceEqDiff, reduceCtorEq, initFr, reduceLT, clsA, reduceLeDiff, reduceMul, reduceSub, reduceIte, a_idxS0, e0, e1, e2]
  refine callK (t88 H l c.toNat) ?_
  rintro _ K ⟨rfl, rfl⟩
  simp (disch := first | assumption | omega | (simp only [LN] <;> omega) | (simp (disch := first | assumption | omega | (simp only [LN] <;> omega)) only [row_alloc, row_set]; assumption)) only [W_block, P3, ↓reduceIte, reduceAdd, reduceEqDiff, reduceCtorEq, initFr, reduceLT, clsA, reduceLeDiff, reduceMul, reduceSub, reduceIte, UInt8.ofNat_toNat]
  exact hq2 _ _ ⟨_, rfl, rfl, rfl⟩
theorem splitB_two {c : UInt8} {l : List UInt8} (h : 2 ≤ (splitB c l).length) : ∃ i, ixB c l = some i := by
  cases hi : ixB c l with
  | some i => exact ⟨i, rfl⟩
  | none => rw [splitB_ix, hi] at h; simp at h
theorem splitB_one {c : UInt8} {l : List UInt8} (h : (splitB c l).length = 1) : splitB c l = [l] := by
  cases hi : ixB c l with
  | none => rw [splitB_ix, hi]
  | some i => rw [splitB_ix, hi] at h; simp at h; exact absurd h (splitB_ne _ _)
theorem rep_flat (n : Nat) (v : Value) : (List.replicate n [v]).flatten = List.replicate n v := by
  induction n with
  | zero => rfl
  | succ n ih => simp [List.replicate_succ, ih]
theorem txs_set {pre : List (List UInt8)} {x : List UInt8} {m : Nat} {v : Value} : (txs pre ++ List.replicate (m + 1) v).set pre.length (.string ⟨x.toArray⟩) = txs (pre ++ [x]) ++ List.replicate m v := by
  rw [List.set_append_right _ _ (by rw [txs_len]; omega), txs_len, Nat.sub_self, List.replicate_succ, List.set_cons_zero]
  simp [txs]
theorem t58 (H : AHeap) (l : List UInt8) (c : UInt8) (hl : l.length ≤ 1000000) : ∃ w K, ARun Go.Proofs.Tryd.prog 4 58 [.string ⟨l.toArray⟩, .string ⟨[c].toArray⟩, .int .i64 0, .int .i64 (-1)] H w K ∧
    Keeps H K ∧ AP K 9 1 w (splitB c l).length (txs (splitB c l)) ∧ Fresh H.n w := by
  refine walk2 f58_ok f58_n ?_
  intro Q hq1 hq2
  have hcn := splitB_cB c l
  have hcl := cB_le c l
  have e9 : decide ([c] = ([] : List UInt8)) = false := by simp
  simp (disch := first | assumption | omega | (simp only [LN] <;> omega) | (simp (disch := first | assumption | omega | (simp only [LN] <;> omega)) only [row_alloc, row_set]; assumption)) only [ f58, P3, ↓reduceIte, reduceAdd, reduceEqDiff, reduceCtorEq, initFr, reduceLT, clsA, reduceLeDiff, reduceMul, reduceSub, reduceIte, str_emp, bytes_eq, e9]
  refine callK (t77 H l c) ?_
  rintro _ K ⟨rfl, rfl⟩
  obtain ⟨n, hn⟩ : ∃ n, (splitB c l).length = n := ⟨_, rfl⟩
  rw [hn] at hcn
  have w1 : IntKind.i64.wrap (((cB c l : Nat) : Int) + 1) = ((n : Nat) : Int) := by rw [wrap_i64 (by omega) (by omega)]; omega
  have w2 : IntKind.i64.wrap (((l.length : Nat) : Int) + 1) = ((l.length + 1 : Nat) : Int) := by rw [wrap_i64 (by omega) (by omega)]; omega
  have w3 : min ((n : Nat) : Int) ((l.length + 1 : Nat) : Int) = ((n : Nat) : Int) := by omega
  have w4 : IntKind.i64.wrap (((n : Nat) : Int) - 1) = ((n - 1 : Nat) : Int) := by rw [wrap_i64 (by omega) (by omega)]; omega
  have hmk : asem (.mksl 9 1 16 [.string ⟨([] : List UInt8).toArray⟩] (.int .i64 ((n : Nat) : Int)) (.int .i64 ((n : Nat) : Int))) K = some (slc K.n 0 n n, K.alloc (.cells true false 1 (List.replicate n (.string ⟨([] : List UInt8).toArray⟩)) 9)) := by
    simp only [asem]
    rw [if_pos ⟨by omega, by omega, by omega, by omega, rfl, rfl⟩, Int.toNat_natCast, rep_flat]
  simp (disch := first | assumption | omega | (simp only [LN] <;> omega) | (simp (disch := first | assumption | omega | (simp only [LN] <;> omega)) only [row_alloc, row_set]; assumption)) only [ P3, ↓reduceIte, reduceAdd, reduceEqDiff, reduceCtorEq, initFr, reduceLT, clsA, reduceLeDiff, reduceMul, reduceSub, reduceIte, str_emp, w1, w2, w3, w4, hmk]
  rw [W_block]
  refine W_loop2 (fun k fr M => ∃ i sc pre x7 x11 x12, fr = [.string ⟨sc.toArray⟩, .string ⟨[c].toArray⟩, .int .i64 0, .int .i64 ((n - 1 : Nat) : Int), .slice none 0 0, slc K.n 0 n n, .int .i64 ((i : Nat) : Int), x7, .bool false, .bool false, .bool true, x11, x12] ∧ Keeps K M ∧
      M.get K.n = some (.cells true false 1 (txs pre ++ List.replicate (n - i) (.string ⟨([] : List UInt8).toArray⟩)) 9) ∧ splitB c l = pre ++ splitB c sc ∧ pre.length = i ∧ i + 1 ≤ n ∧ sc.length ≤ l.length ∧ k = n - i) n
    ⟨0, l, [], _, _, _, rfl, (Keeps.refl K).alloc _, AHeap.get_alloc_new _ _, rfl, rfl, by omega, Nat.le_refl _, rfl⟩ ?_
  rintro Q' k fr M ⟨i, sc, pre, x7, x11, x12, rfl, hk, hget, hsp, hpl, hi, hsl, rfl⟩ hn' hx hret
  have hlen : (splitB c sc).length = n - i := by
    have := congrArg List.length hsp
    rw [hn, List.length_append, hpl] at this
    omega
  have hb := AHeap.get_lt hget
  have w5 : IntKind.i64.wrap (((i : Nat) : Int) + 1) = ((i + 1 : Nat) : Int) := by rw [wrap_i64 (by omega) (by omega)]; omega
  obtain ⟨d, hd⟩ : ∃ d, n - i = d + 1 := ⟨n - i - 1, by omega⟩
  have hll : i < (txs pre ++ List.replicate (n - i) (Value.string ⟨([] : List UInt8).toArray⟩)).length := by rw [List.length_append, txs_len, List.length_replicate]; omega
  have c2 : (0 : Int) ≤ ((i : Nat) : Int) := by omega
  have c3 : ((i : Nat) : Int) < ((n : Nat) : Int) := by omega
  by_cases hlt : i + 1 < n
  · have c1 : ((i : Nat) : Int) < ((n - 1 : Nat) : Int) := by omega
    obtain ⟨m, hm⟩ := splitB_two (c := c) (l := sc) (by omega)
    have hml := ixB_le hm
    have e : ixI c sc = (m : Int) := by unfold ixI; rw [hm]
    have c4 : ¬ ((m : Nat) : Int) < 0 := by omega
    have w6 : IntKind.i64.wrap (((m : Nat) : Int) + 0) = ((m : Nat) : Int) := by rw [wrap_i64 (by omega) (by omega)]; simp
    have w7 : IntKind.i64.wrap (((m : Nat) : Int) + ((1 : Nat) : Int)) = ((m + 1 : Nat) : Int) := by rw [wrap_i64 (by omega) (by omega)]; omega
    have hm1 : m ≤ sc.length := by omega
    have hm2 : m + 1 ≤ sc.length := by omega
    have hsp1 : splitB c sc = sc.take m :: splitB c (sc.drop (m + 1)) := by rw [splitB_ix, hm]
    rw [hsp1] at hsp
    simp (disch := first | assumption | omega | (simp only [LN] <;> omega) | (simp (disch := first | assumption | omega | (simp only [LN] <;> omega)) only [row_alloc, row_set]; assumption)) only [W_block, P3, ↓reduceIte, reduceAdd, reduceEqDiff, reduceCtorEq, initFr, reduceLT, clsA, reduceLeDiff, reduceMul, reduceSub, reduceIte]
    refine callK (t78 M sc c) ?_
    rintro _ K2 ⟨rfl, rfl⟩
    simp (disch := first | assumption | omega | (simp only [LN] <;> omega) | (simp (disch := first | assumption | omega | (simp only [LN] <;> omega)) only [row_alloc, row_set]; assumption)) only [W_block, P3, ↓reduceIte, reduceAdd, reduceEqDiff, reduceCtorEq, initFr, reduceLT, clsA, reduceLeDiff, reduceMul, reduceSub, reduceIte, e, w6, w7, a_slsP, a_slsT, hget, Int.toNat_natCast, Nat.mul_one, Nat.zero_add, w5]
    refine hn' _ _ _ ⟨i + 1, sc.drop (m + 1), pre ++ [sc.take m], _, _, _, rfl, hk.set (Nat.le_refl _) hb _, ?_, by rw [hsp]; simp, by simp [hpl], by omega, by simp; omega, rfl⟩ (by omega)
    rw [AHeap.get_set_same hget, hd, show n - (i + 1) = d by omega]
    subst hpl
    rw [txs_set]
  · have c1 : ¬ ((i : Nat) : Int) < ((n - 1 : Nat) : Int) := by omega
    have hin : i + 1 = n := by omega
    have hd0 : d = 0 := by omega
    subst hd0
    have hsp1 := splitB_one (c := c) (l := sc) (by omega)
    rw [hsp1] at hsp
    have hnew : (txs pre ++ List.replicate (n - i) (Value.string ⟨([] : List UInt8).toArray⟩)).set i (.string ⟨sc.toArray⟩) = txs (splitB c l) := by
      rw [hd, ← hpl, txs_set, hsp]; simp
    have hsl2 : asem (.slsl 1 (slc K.n 0 n n) none (some (.int .i64 ((i + 1 : Nat) : Int))) none) (M.set K.n (.cells true false 1 (txs (splitB c l)) 9)) = some (slc K.n 0 n n, M.set K.n (.cells true false 1 (txs (splitB c l)) 9)) := by
      rw [hin]
      exact a_slsl (AHeap.get_set_same hget _) (m := n) (hh := n) (l := 0) rfl (by simp [bndA]) rfl |>.trans (by simp)
    simp (disch := first | assumption | omega | (simp only [LN] <;> omega) | (simp (disch := first | assumption | omega | (simp only [LN] <;> omega)) only [row_alloc, row_set]; assumption)) only [W_block, P3, ↓reduceIte, reduceAdd, reduceEqDiff, reduceCtorEq, initFr, reduceLT, clsA, reduceLeDiff, reduceMul, reduceSub, reduceIte]
    refine hx 0 _ _ ?_
    simp (disch := first | assumption | omega | (simp only [LN] <;> omega) | (simp (disch := first | assumption | omega | (simp only [LN] <;> omega)) only [row_alloc, row_set]; assumption)) only [W_block, P3, ↓reduceIte, reduceAdd, reduceEqDiff, reduceCtorEq, initFr, reduceLT, clsA, reduceLeDiff, reduceMul, reduceSub, reduceIte, hget, Int.toNat_natCast, Nat.mul_one, Nat.zero_add, hnew, w5, hsl2]
    refine hq2 _ _ ⟨_, rfl, hk.set (Nat.le_refl _) hb _, .inr ⟨K.n, false, ?_, by rw [txs_len, hn]; omega, AHeap.get_set_same hget _⟩, (fun b hb => by have h2 : some K.n = some b := hb; cases h2; exact Nat.le_refl _)⟩
    rw [hn]; rfl
theorem t42 (H : AHeap) (l : List UInt8) (c : UInt8) (hl : l.length ≤ 1000000) : ∃ w K, ARun Go.Proofs.Tryd.prog 4 42 [.string ⟨l.toArray⟩, .string ⟨[c].toArray⟩] H w K ∧ Keeps H K ∧ AP K 9 1 w (splitB c l).length (txs (splitB c l)) ∧ Fresh H.n w := by
  refine walk2 f42_ok f42_n ?_
  intro Q hq1 hq2
  simp (disch := first | assumption | omega | (simp only [LN] <;> omega) | (simp (disch := first | assumption | omega | (simp only [LN] <;> omega)) only [row_alloc, row_set]; assumption)) only [f42, W_block, P3, ↓reduceIte, reduceAdd, reduceEqDiff, reduceCtorEq, initFr, reduceLT, clsA, reduceLeDiff, reduceMul, reduceSub, reduceIte]
  refine callK (t58 H l c hl) ?_
  rintro w K h
  simp (disch := first | assumption | omega | (simp only [LN] <;> omega) | (simp (disch := first | assumption | omega | (simp only [LN] <;> omega)) only [row_alloc, row_set]; assumption)) only [W_block, P3, ↓reduceIte, reduceAdd, reduceEqDiff, reduceCtorEq, initFr, reduceLT, clsA, reduceLeDiff, reduceMul, reduceSub, reduceIte]
  exact hq2 _ _ ⟨_, rfl, h⟩
theorem t18 (H : AHeap) (l : List UInt8) (hl : l.length ≤ 1000000) : ∃ w K, ARun Go.Proofs.Tryd.prog 4 18 [.string ⟨l.toArray⟩] H w K ∧ Keeps H K ∧ AP K 9 1 w (splitB 10 l).length (txs (splitB 10 l)) ∧ Fresh H.n w := by
  refine walk2 f18_ok f18_n ?_
  intro Q hq1 hq2
  simp (disch := first | assumption | omega | (simp only [LN] <;> omega) | (simp (disch := first | assumption | omega | (simp only [LN] <;> omega)) only [row_alloc, row_set]; assumption)) only [f18, W_block, P3, ↓reduceIte, reduceAdd, reduceEqDiff, reduceCtorEq, initFr, reduceLT, clsA, reduceLeDiff, reduceMul, reduceSub, reduceIte]
  refine callK (t42 H l 10 hl) ?_
  rintro w K h
  simp (disch := first | assumption | omega | (simp only [LN] <;> omega) | (simp (disch := first | assumption | omega | (simp only [LN] <;> omega)) only [row_alloc, row_set]; assumption)) only [W_block, P3, ↓reduceIte, reduceAdd, reduceEqDiff, reduceCtorEq, initFr, reduceLT, clsA, reduceLeDiff, reduceMul, reduceSub, reduceIte]
  exact hq2 _ _ ⟨_, rfl, h⟩
end Go.AM.Fd
