/- Part of the proof. -/
import Derived.Test.YtkhnmniiopodoaaGIR02
set_option linter.unusedSimpArgs false
set_option linter.unusedVariables false
set_option linter.unusedSimpArgs false
set_option linter.unusedVariables false
namespace Go.AM.Fd
open Nat (reduceAdd reduceEqDiff reduceLT reduceLeDiff reduceMul reduceSub)
open Go.Proofs Go.AM.F
def decB (l : List UInt8) (p : Nat) : Nat × Nat := Utf8.decode ⟨l.toArray⟩ p
theorem decB_pos {l : List UInt8} {p : Nat} : 1 ≤ (decB l p).2 := by
  unfold decB Utf8.decode
  repeat' split
  all_goals (first | omega | (simp only []; repeat' split) )
  all_goals first | omega | (dsimp only []; repeat' split)
  all_goals omega
def runs (l : List UInt8) : Nat → Nat → List (Nat × Int)
  | 0, _ => []
  | k + 1, p => if p < l.length then (p, ((decB l p).1 : Int)) :: runs l k (p + (decB l p).2) else []
theorem runs_more {l : List UInt8} : ∀ {k p : Nat}, l.length - p ≤ k → runs l k p = runs l (l.length - p) p
  | 0, p, h => by rw [show l.length - p = 0 by omega]
  | k + 1, p, h => by
    by_cases hp : p < l.length
    · obtain ⟨m, hm⟩ : ∃ m, l.length - p = m + 1 := ⟨l.length - p - 1, by omega⟩
      have h1 := decB_pos (l := l) (p := p)
      rw [hm]
      simp only [runs, if_pos hp]
      rw [runs_more (k := k) (by omega), runs_more (k := m) (by omega)]
    · rw [show l.length - p = 0 by omega]
      simp [runs, hp]
def runF (l : List UInt8) (p : Nat) : List (Nat × Int) := runs l (l.length - p) p
theorem runF_step {l : List UInt8} {p : Nat} (h : p < l.length) : runF l p = (p, ((decB l p).1 : Int)) :: runF l (p + (decB l p).2) := by
  obtain ⟨m, hm⟩ : ∃ m, l.length - p = m + 1 := ⟨l.length - p - 1, by omega⟩
  have h1 := decB_pos (l := l) (p := p)
  unfold runF
  rw [hm]
  simp only [runs, if_pos h]
  rw [runs_more (k := m) (by omega)]
theorem runF_end {l : List UInt8} {p : Nat} (h : ¬ p < l.length) : runF l p = [] := by
  unfold runF
  rw [show l.length - p = 0 by omega]
  rfl
theorem a_rngS {H : AHeap} (l : List UInt8) : asem (.rng (.string ⟨l.toArray⟩)) H = some (ptr H.n 0, H.alloc (.obj true (.stringIter ⟨l.toArray⟩ 0))) := rfl
theorem a_nextY {H : AHeap} {b p : Nat} {l : List UInt8} (hg : H.get b = some (.obj true (.stringIter ⟨l.toArray⟩ p))) (h : p < l.length) :
    asem (.next (ptr b 0)) H = some (.tuple #[.bool true, .int .i64 (p : Int), .int .i32 ((decB l p).1 : Int)], H.set b (.obj true (.stringIter ⟨l.toArray⟩ (p + (decB l p).2)))) := by
  simp only [asem, ptr, hg, str_size]
  rw [if_pos h]
  rfl
theorem a_nextN {H : AHeap} {b p : Nat} {l : List UInt8} (hg : H.get b = some (.obj true (.stringIter ⟨l.toArray⟩ p))) (h : ¬ p < l.length) : asem (.next (ptr b 0)) H = some (.tuple #[.bool false], H) := by
  simp only [asem, ptr, hg, str_size]
  rw [if_neg h]
def sgn (r : Int) : Bool := decide (33 ≤ r) && (decide (r < 127) || decide (160 < r)) && r != 58 && r != 35 && r != 43 && r != 45 && r != 65533
theorem t114 (H : AHeap) (r : Int) : ∃ w H', ARun Go.Proofs.Try.prog 0 114 [.int .i32 r] H w H' ∧ w = .bool (sgn r) ∧ H' = H := by
  refine walk2 f114_ok f114_n ?_
  intro Q hq1 hq2
  by_cases h1 : r < 33
  · simp (disch := first | assumption | omega | (simp only [LN] <;> omega) | (simp (disch := first | assumption | omega | (simp only [LN] <;> omega)) only [row_alloc, row_set]; assumption)) only [f114, W_block, P3, ↓reduceIte, reduceAdd, reduceEqDiff, reduceCtorEq, initFr, reduceLT, clsA, reduceLeDiff, reduceMul, reduceSub, reduceIte]
    exact hq2 _ _ ⟨_, rfl, by simp [sgn, tupV, show ¬ 33 ≤ r by omega], rfl⟩
  have h1' : 33 ≤ r := by omega
  by_cases h2 : r = 58
  · subst h2; simp (disch := first | assumption | omega | (simp only [LN] <;> omega) | (simp (disch := first | assumption | omega | (simp only [LN] <;> omega)) only [row_alloc, row_set]; assumption)) only [f114, W_block, P3, ↓reduceIte, reduceAdd, reduceEqDiff, reduceCtorEq, initFr, reduceLT, clsA, reduceLeDiff, reduceMul, reduceSub, reduceIte]; exact hq2 _ _ ⟨_, rfl, rfl, rfl⟩
  by_cases h3 : r = 35
  · subst h3; simp (disch := first | assumption | omega | (simp only [LN] <;> omega) | (simp (disch := first | assumption | omega | (simp only [LN] <;> omega)) only [row_alloc, row_set]; assumption)) only [f114, W_block, P3, ↓reduceIte, reduceAdd, reduceEqDiff, reduceCtorEq, initFr, reduceLT, clsA, reduceLeDiff, reduceMul, reduceSub, reduceIte]; exact hq2 _ _ ⟨_, rfl, rfl, rfl⟩
  by_cases h4 : r = 43
  · subst h4; simp (disch := first | assumption | omega | (simp only [LN] <;> omega) | (simp (disch := first | assumption | omega | (simp only [LN] <;> omega)) only [row_alloc, row_set]; assumption)) only [f114, W_block, P3, ↓reduceIte, reduceAdd, reduceEqDiff, reduceCtorEq, initFr, reduceLT, clsA, reduceLeDiff, reduceMul, reduceSub, reduceIte]; exact hq2 _ _ ⟨_, rfl, rfl, rfl⟩
  by_cases h5 : r = 45
  · subst h5; simp (disch := first | assumption | omega | (simp only [LN] <;> omega) | (simp (disch := first | assumption | omega | (simp only [LN] <;> omega)) only [row_alloc, row_set]; assumption)) only [f114, W_block, P3, ↓reduceIte, reduceAdd, reduceEqDiff, reduceCtorEq, initFr, reduceLT, clsA, reduceLeDiff, reduceMul, reduceSub, reduceIte]; exact hq2 _ _ ⟨_, rfl, rfl, rfl⟩
  by_cases h6 : r = 65533
  · subst h6; simp (disch := first | assumption | omega | (simp only [LN] <;> omega) | (simp (disch := first | assumption | omega | (simp only [LN] <;> omega)) only [row_alloc, row_set]; assumption)) only [f114, W_block, P3, ↓reduceIte, reduceAdd, reduceEqDiff, reduceCtorEq, initFr, reduceLT, clsA, reduceLeDiff, reduceMul, reduceSub, reduceIte]; exact hq2 _ _ ⟨_, rfl, rfl, rfl⟩
  by_cases h7 : 127 ≤ r
  · by_cases h8 : r ≤ 160
    · simp (disch := first | assumption | omega | (simp only [LN] <;> omega) | (simp (disch := first | assumption | omega | (simp only [LN] <;> omega)) only [row_alloc, row_set]; assumption)) only [f114, W_block, P3, ↓reduceIte, reduceAdd, reduceEqDiff, reduceCtorEq, initFr, reduceLT, clsA, reduceLeDiff, reduceMul, reduceSub, reduceIte]
      exact hq2 _ _ ⟨_, rfl, by simp [sgn, tupV, h1', h2, h3, h4, h5, h6, show ¬ r < 127 by omega, show ¬ 160 < r by omega], rfl⟩
    · simp (disch := first | assumption | omega | (simp only [LN] <;> omega) | (simp (disch := first | assumption | omega | (simp only [LN] <;> omega)) only [row_alloc, row_set]; assumption)) only [f114, W_block, P3, ↓reduceIte, reduceAdd, reduceEqDiff, reduceCtorEq, initFr, reduceLT, clsA, reduceLeDiff, reduceMul, reduceSub, reduceIte]
      exact hq2 _ _ ⟨_, rfl, by simp [sgn, tupV, h1', h2, h3, h4, h5, h6, show ¬ r < 127 by omega, show 160 < r by omega], rfl⟩
  · simp (disch := first | assumption | omega | (simp only [LN] <;> omega) | (simp (disch := first | assumption | omega | (simp only [LN] <;> omega)) only [row_alloc, row_set]; assumption)) only [f114, W_block, P3, ↓reduceIte, reduceAdd, reduceEqDiff, reduceCtorEq, initFr, reduceLT, clsA, reduceLeDiff, reduceMul, reduceSub, reduceIte]
    exact hq2 _ _ ⟨_, rfl, by simp [sgn, tupV, h1', h2, h3, h4, h5, h6, show r < 127 by omega], rfl⟩
def rightB (l : List UInt8) : Bool := (runF l 0).all (fun x => sgn x.2) && decide (1 ≤ (runF l 0).length) && decide ((runF l 0).length ≤ 16)
theorem t99 (H : AHeap) (l : List UInt8) (hl : l.length ≤ 9223372036854775807) : ∃ w H', ARun Go.Proofs.Try.prog 0 99 [.string ⟨l.toArray⟩] H w H' ∧ w = .bool (rightB l) ∧ H' = H := by
  suffices h : ∃ w H', ARun Go.Proofs.Try.prog 0 99 [.string ⟨l.toArray⟩] H w H' ∧ w = .bool (rightB l) ∧ Keeps H H' by
    obtain ⟨_, _, a, rfl, k⟩ := h
    exact ⟨_, _, a.gc0 k (.inr (.bool _)), rfl, rfl⟩
  refine walk2 f99_ok f99_n ?_
  intro Q hq1 hq2
  simp (disch := first | assumption | omega | (simp only [LN] <;> omega) | (simp (disch := first | assumption | omega | (simp only [LN] <;> omega)) only [row_alloc, row_set]; assumption)) only [ f99, P3, ↓reduceIte, reduceAdd, reduceEqDiff, reduceCtorEq, initFr, reduceLT, clsA, reduceLeDiff, reduceMul, reduceSub, reduceIte, a_rngS]
  rw [W_block]
  refine W_loop2 (fun k fr K => ∃ p n x1 x3 x5 x6 x7, fr = [.string ⟨l.toArray⟩, x1, .int .i64 ((n : Nat) : Int), x3, ptr H.n 0, x5, x6, x7] ∧ K.get H.n = some (.obj true (.stringIter ⟨l.toArray⟩ p)) ∧ Keeps H K ∧
      rightB l = ((runF l p).all (fun x => sgn x.2) && decide (1 ≤ n + (runF l p).length) && decide (n + (runF l p).length ≤ 16)) ∧ n ≤ p ∧ k = l.length - p) l.length
    ⟨0, 0, _, _, _, _, _, rfl, AHeap.get_alloc_new _ _, (Keeps.refl H).alloc _, by simp [rightB], Nat.le_refl _, rfl⟩ ?_
  rintro Q' k fr K ⟨p, n, x1, x3, x5, x6, x7, rfl, hg, hk, hr, hnp, rfl⟩ hn hx hret
  by_cases hp : p < l.length
  · have hstep := runF_step hp
    have hpos := decB_pos (l := l) (p := p)
    simp (disch := first | assumption | omega | (simp only [LN] <;> omega) | (simp (disch := first | assumption | omega | (simp only [LN] <;> omega)) only [row_alloc, row_set]; assumption)) only [W_block, P3, ↓reduceIte, reduceAdd, reduceEqDiff, reduceCtorEq, initFr, reduceLT, clsA, reduceLeDiff, reduceMul, reduceSub, reduceIte, a_nextY hg hp]
    refine callK (t114 _ _) ?_
    rintro _ K2 ⟨rfl, rfl⟩
    cases hs : sgn ((decB l p).1 : Int) with
    | false =>
      simp (disch := first | assumption | omega | (simp only [LN] <;> omega) | (simp (disch := first | assumption | omega | (simp only [LN] <;> omega)) only [row_alloc, row_set]; assumption)) only [W_block, P3, ↓reduceIte, reduceAdd, reduceEqDiff, reduceCtorEq, initFr, reduceLT, clsA, reduceLeDiff, reduceMul, reduceSub, reduceIte]
      refine hret _ _ (hq2 _ _ ⟨_, rfl, ?_, ?_⟩)
      · rw [hr, hstep]; simp [hs]; rfl
      · exact hk.set (Nat.le_refl _) (AHeap.get_lt hg) _
    | true =>
      have hw : IntKind.i64.wrap ((n : Int) + 1) = ((n + 1 : Nat) : Int) := by rw [wrap_i64 (by omega) (by omega)]; simp
      simp (disch := first | assumption | omega | (simp only [LN] <;> omega) | (simp (disch := first | assumption | omega | (simp only [LN] <;> omega)) only [row_alloc, row_set]; assumption)) only [W_block, P3, ↓reduceIte, reduceAdd, reduceEqDiff, reduceCtorEq, initFr, reduceLT, clsA, reduceLeDiff, reduceMul, reduceSub, reduceIte, hw]
      refine hn _ _ _ ⟨p + (decB l p).2, n + 1, _, _, _, _, _, rfl, AHeap.get_set_same hg _, hk.set (Nat.le_refl _) (AHeap.get_lt hg) _, ?_, by omega, rfl⟩ (by omega)
      rw [hr, hstep]
      simp only [List.all_cons, hs, Bool.true_and, List.length_cons, show n + ((runF l (p + (decB l p).2)).length + 1) = n + 1 + (runF l (p + (decB l p).2)).length by omega]
  · have hend := runF_end hp
    simp (disch := first | assumption | omega | (simp only [LN] <;> omega) | (simp (disch := first | assumption | omega | (simp only [LN] <;> omega)) only [row_alloc, row_set]; assumption)) only [W_block, P3, ↓reduceIte, reduceAdd, reduceEqDiff, reduceCtorEq, initFr, reduceLT, clsA, reduceLeDiff, reduceMul, reduceSub, reduceIte, a_nextN hg hp]
    refine hx 0 _ _ ?_
    rw [hend] at hr
    simp only [List.all_nil, Bool.true_and, List.length_nil, Nat.add_zero] at hr
    by_cases h1 : 1 ≤ n
    · have h1' : (1 : Int) ≤ (n : Int) := by omega
      simp (disch := first | assumption | omega | (simp only [LN] <;> omega) | (simp (disch := first | assumption | omega | (simp only [LN] <;> omega)) only [row_alloc, row_set]; assumption)) only [W_block, P3, ↓reduceIte, reduceAdd, reduceEqDiff, reduceCtorEq, initFr, reduceLT, clsA, reduceLeDiff, reduceMul, reduceSub, reduceIte]
      refine hq2 _ _ ⟨_, rfl, ?_, hk⟩
      rw [hr]
      simp only [tupV, List.getD_cons_succ, List.getD_cons_zero, h1, decide_true, Bool.true_and]
      congr 1
      rw [decide_eq_decide]; omega
    · have h1' : ¬ (1 : Int) ≤ (n : Int) := by omega
      simp (disch := first | assumption | omega | (simp only [LN] <;> omega) | (simp (disch := first | assumption | omega | (simp only [LN] <;> omega)) only [row_alloc, row_set]; assumption)) only [W_block, P3, ↓reduceIte, reduceAdd, reduceEqDiff, reduceCtorEq, initFr, reduceLT, clsA, reduceLeDiff, reduceMul, reduceSub, reduceIte]
      refine hq2 _ _ ⟨_, rfl, ?_, hk⟩
      rw [hr]
      simp only [tupV, List.getD_cons_succ, List.getD_cons_zero, h1, decide_false, Bool.false_and]
end Go.AM.Fd

set_option linter.unusedSimpArgs false
set_option linter.unusedVariables false
namespace Go.AM.Fd
open Go.Proofs Go.AM.F
def tRow (t : List UInt8) : List Value := [.string ⟨t.toArray⟩]
def TL (H : AHeap) (v : Value) (ts : List (List UInt8)) : Prop := Sl H 1 v (ts.map tRow)
theorem TL.len {H : AHeap} {v : Value} {ts : List (List UInt8)} (h : TL H v ts) : lenS v = ts.length := by
  have := Sl.len h; simpa using this
theorem TL.at_ {H : AHeap} {v : Value} {ts : List (List UInt8)} (h : TL H v ts) {i : Nat} (hi : i < ts.length) : nnS v = true ∧ rowA H 1 v i = some (tRow (ts.getD i [])) := by
  have := Sl.at_ h (by omega) (i := i) (by simpa using hi)
  refine ⟨this.1, ?_⟩
  rw [this.2]
  simp [List.getD, List.getElem?_eq_getElem hi]
theorem TL.keeps {H K : AHeap} {v : Value} {ts : List (List UInt8)} (h : TL H v ts) (k : Keeps H K) : TL K v ts := Sl.keeps h k
end Go.AM.Fd

set_option linter.unusedSimpArgs false
set_option linter.unusedVariables false
namespace Go.AM
section
variable {P : Program} {ng : Nat} {H : AHeap} {Q : AQ} {fr tm : List Value} {KF : List Value → AHeap → Prop} {tr : List TE}
variable (d : D) (r : List AOper) (un : List Nat) (rd : List (AOper × List Nat))
theorem st_mkmap : stR P ng (.mkmap) d r fr tm H KF = goR P ng (asem .mkmap H) d r fr tm KF := st_of d r (by simp) (by simp) (by simp)
theorem st_mget (k : TypeDesc) (z : Value) (ok : Bool) (x y : Value) : stR P ng (.mget k z ok x y) d r fr tm H KF = goR P ng (asem (.mget k z ok x y) H) d r fr tm KF := st_of d r (by simp) (by simp) (by simp)
theorem st_mset (k : TypeDesc) (x y v : Value) : stR P ng (.mset k x y v) d r fr tm H KF = goR P ng (asem (.mset k x y v) H) d r fr tm KF := st_of d r (by simp) (by simp) (by simp)
theorem st_appz (e esz b : Nat) (z : List Value) (s x : Value) : stR P ng (.appz e esz b z s x) d r fr tm H KF = goR P ng (asem (.appz e esz b z s x) H) d r fr tm KF := st_of d r (by simp) (by simp) (by simp)
theorem st_cap (x : Value) : stR P ng (.cap x) d r fr tm H KF = goR P ng (asem (.cap x) H) d r fr tm KF := st_of d r (by simp) (by simp) (by simp)
end
section
variable {H : AHeap}
theorem a_mkmap : asem .mkmap H = some (.map (some H.n), H.alloc (.obj true (.map #[] 0))) := _root_.id rfl
theorem a_cap0 : asem (.cap (.slice none 0 0)) H = some (.int .i64 0, H) := _root_.id rfl
end
theorem cells_map (a : Option Nat) : (Value.map a).cells.toList = [.map a] := _root_.id rfl
structure Enc (d : TypeDesc) {κ : Type} [DecidableEq κ] (enc : κ → Value) : Prop where
  same : ∀ a b, Instr.sameNow d (enc a) (enc b) = some (decide (a = b))
  key : ∀ a, keyB d (enc a) = true
theorem encInt : Enc (.int .i64) (fun n : Int => .int .i64 n) := ⟨fun a b => by
  show (if IntKind.i64 = IntKind.i64 then some (a == b) else none) = _
  rw [if_pos rfl]
  by_cases h : a = b <;> simp [h], fun a => rfl⟩
theorem encStr : Enc .string (fun l : List UInt8 => .string ⟨l.toArray⟩) := ⟨fun a b => by
  show some ((⟨a.toArray⟩ : ByteArray) == ⟨b.toArray⟩) = _
  have h : ((⟨a.toArray⟩ : ByteArray) == ⟨b.toArray⟩) = true ↔ a = b := by
    rw [MapKept.bytes_beq]
    constructor
    · intro h; cases h; rfl
    · rintro rfl; rfl
  by_cases e : a = b
  · rw [h.2 e]; simp [e]
  · have : ((⟨a.toArray⟩ : ByteArray) == ⟨b.toArray⟩) = false := by
      cases hb : ((⟨a.toArray⟩ : ByteArray) == ⟨b.toArray⟩)
      · rfl
      · exact absurd (h.1 hb) e
    rw [this]; simp [e], fun a => rfl⟩
section
variable {κ : Type} [DecidableEq κ] {enc : κ → Value} {d : TypeDesc} {H : AHeap}
def mfind (k : κ) : List (κ × Value) → Option Value
  | [] => none
  | (a, v) :: l => if k = a then some v else mfind k l
def mput (k : κ) (x : Value) : List (κ × Value) → List (κ × Value)
  | [] => [(k, x)]
  | (a, v) :: l => if k = a then (k, x) :: l else (a, v) :: mput k x l
theorem mfind_mput (a k : κ) (x : Value) : ∀ l : List (κ × Value), mfind a (mput k x l) = if a = k then some x else mfind a l
  | [] => by simp [mput, mfind]
  | (b, v) :: l => by
    simp only [mput]
    split
    · rename_i h
      subst h
      simp only [mfind]
      split <;> rfl
    · rename_i h
      simp only [mfind, mfind_mput a k x l]
      split
      · rename_i h2
        subst h2
        rw [if_neg (fun e => h e.symm)]
      · rfl
theorem mput_new {k : κ} {x : Value} : ∀ {l : List (κ × Value)}, mfind k l = none → mput k x l = l ++ [(k, x)]
  | [], _ => rfl
  | (a, v) :: l, h => by
    simp only [mfind] at h
    split at h
    · cases h
    · rename_i hk
      simp only [mput, if_neg hk, mput_new h, List.cons_append]
theorem mem_mput {k : κ} {x : Value} {p : κ × Value} : ∀ {l : List (κ × Value)}, p ∈ mput k x l → p ∈ l ∨ p = (k, x)
  | [], h => by simp [mput] at h; exact .inr h
  | (a, v) :: l, h => by
    simp only [mput] at h
    split at h
    · simp only [List.mem_cons] at h ⊢
      rcases h with rfl | h
      · exact .inr rfl
      · exact .inl (.inr h)
    · simp only [List.mem_cons] at h ⊢
      rcases h with rfl | h
      · exact .inl (.inl rfl)
      · rcases mem_mput h with h | h
        · exact .inl (.inr h)
        · exact .inr h
def MP (enc : κ → Value) (H : AHeap) (b : Nat) (l : List (κ × Value)) : Prop :=
  (∃ es clock, H.get b = some (.obj true (.map es clock)) ∧ es.toList.map (fun e => (e.key, e.val)) = l.map (fun p => (enc p.1, p.2))) ∧ ∀ p ∈ l, gndB p.2 = true
omit [DecidableEq κ] in
theorem MP.lt {b : Nat} {l : List (κ × Value)} (h : MP enc H b l) : b < H.n := by
  obtain ⟨⟨es, c, h1, _⟩, _⟩ := h; exact AHeap.get_lt h1
omit [DecidableEq κ] in
theorem MP.get {H' : AHeap} {b : Nat} {l : List (κ × Value)} (h : MP enc H b l) (e : H'.get b = H.get b) : MP enc H' b l := by
  obtain ⟨⟨es, c, h1, h2⟩, h3⟩ := h; exact ⟨⟨es, c, by rw [e]; exact h1, h2⟩, h3⟩
omit [DecidableEq κ] in
theorem MP.new (H : AHeap) : MP enc (H.alloc (.obj true (.map #[] 0))) H.n [] := ⟨⟨#[], 0, AHeap.get_alloc_new _ _, rfl⟩, by simp⟩
theorem findNow_l (E : Enc d enc) (k : κ) : ∀ (es : List MapEntry) (l : List (κ × Value)) (i : Nat), es.map (fun e => (e.key, e.val)) = l.map (fun p => (enc p.1, p.2)) →
    ∃ r, Instr.findNow d (enc k) es i = some r ∧ r.map (·.2) = mfind k l ∧ ∀ j v, r = some (j, v) → i ≤ j ∧ ∀ x, ((es.modify (j - i) fun e => { e with key := enc k, val := x }).map (fun e => (e.key, e.val))) = (mput k x l).map (fun p => (enc p.1, p.2))
  | [], l, i, h => by
    have : l = [] := by cases l <;> simp_all
    subst this
    exact ⟨none, rfl, rfl, fun j v h => by cases h⟩
  | e :: es, l, i, h => by
    cases l with
    | nil => simp at h
    | cons p l =>
      obtain ⟨a, v⟩ := p
      simp only [List.map_cons, List.cons.injEq, Prod.mk.injEq] at h
      obtain ⟨⟨h1, h2⟩, h3⟩ := h
      by_cases hk : k = a
      · subst hk
        refine ⟨some (i, e.val), ?_, by simp [mfind, h2], ?_⟩
        · unfold Instr.findNow
          rw [h1, E.same]
          simp
        · intro j w hj
          cases hj
          refine ⟨Nat.le_refl _, fun x => ?_⟩
          simp [mput, h3]
      · obtain ⟨r, r1, r2, r3⟩ := findNow_l E k es l (i + 1) h3
        refine ⟨r, ?_, by simp [mfind, hk, r2], ?_⟩
        · unfold Instr.findNow
          rw [h1, E.same]
          simp [hk, r1]
        · intro j w hj
          obtain ⟨q1, q2⟩ := r3 j w hj
          refine ⟨by omega, fun x => ?_⟩
          rw [show j - i = (j - (i + 1)) + 1 by omega]
          simp only [List.modify_succ_cons, List.map_cons, mput, if_neg hk, q2 x, h1, h2]
def mres (z : Value) (ok : Bool) : Option Value → Value
  | some v => if ok then .tuple #[v, .bool true] else v
  | none => if ok then .tuple #[z, .bool false] else z
theorem mfind_mem {k : κ} {v : Value} : ∀ {l : List (κ × Value)}, mfind k l = some v → (k, v) ∈ l
  | (a, w) :: l, h => by
    simp only [mfind] at h
    split at h
    · rename_i e; cases h; subst e; simp
    · simp [mfind_mem h]
theorem a_mget (E : Enc d enc) {b : Nat} {l : List (κ × Value)} (h : MP enc H b l) (k : κ) (z : Value) (ok : Bool) : asem (.mget d z ok (.map (some b)) (enc k)) H = some (mres z ok (mfind k l), H) := by
  obtain ⟨⟨es, c, h1, h2⟩, h3⟩ := h
  obtain ⟨r, r1, r2, _⟩ := findNow_l E k es.toList l 0 h2
  simp only [asem, E.key, if_true, h1, r1, ← r2]
  cases r with
  | none => rfl
  | some p =>
    obtain ⟨j, v⟩ := p
    have : gndB v = true := h3 _ (mfind_mem (k := k) (by rw [← r2]; rfl))
    simp [mgetA, this, mres]
theorem a_mset (E : Enc d enc) {b : Nat} {l : List (κ × Value)} (h : MP enc H b l) (k : κ) {x : Value} (hx : gndB x = true) : ∃ o, asem (.mset d (.map (some b)) (enc k) x) H = some (undef, H.set b o) ∧ MP enc (H.set b o) b (mput k x l) := by
  obtain ⟨⟨es, c, h1, h2⟩, h3⟩ := h
  obtain ⟨r, r1, r2, r3⟩ := findNow_l E k es.toList l 0 h2
  have hg : ∀ p ∈ mput k x l, gndB p.2 = true := fun p hp => by
    rcases mem_mput hp with hp | rfl
    · exact h3 p hp
    · exact hx
  simp only [asem, E.key, hx, and_self, if_true, h1, r1]
  cases r with
  | none =>
    refine ⟨_, rfl, ⟨⟨_, _, AHeap.get_set_same h1 _, ?_⟩, hg⟩⟩
    rw [mput_new (by rw [← r2]; rfl)]
    simp [h2]
  | some p =>
    obtain ⟨j, v⟩ := p
    refine ⟨_, rfl, ⟨⟨_, _, AHeap.get_set_same h1 _, ?_⟩, hg⟩⟩
    obtain ⟨_, q⟩ := r3 j v rfl
    have := q x
    simpa using this
end
end Go.AM

set_option linter.unusedSimpArgs false
set_option linter.unusedVariables false
namespace Go.AM.Fd
open Go.Proofs Go.AM.F
structure Ro where
  n : List UInt8
  g : Int
  path : List Int
  pts : List (Int × Bool)
  ov : List Int
  fl : List (Int × Bool)
structure Ly where
  s : List (List UInt8)
  p : List (List UInt8 × Int)
  g : List (List UInt8 × Int)
  r : List Ro
def iRow (n : Int) : List Value := [.int .i64 n]
def nRow (x : Int × Bool) : List Value := [.int .i64 x.1, .bool x.2]
def pRow (x : List UInt8 × Int) : List Value := [.string ⟨x.1.toArray⟩, .int .i64 x.2]
def IL (H : AHeap) (v : Value) (l : List Int) : Prop := Sl H 1 v (l.map iRow)
def NL (H : AHeap) (v : Value) (l : List (Int × Bool)) : Prop := Sl H 2 v (l.map nRow)
def PL (H : AHeap) (v : Value) (l : List (List UInt8 × Int)) : Prop := Sl H 2 v (l.map pRow)
structure RV where
  r : Ro
  vp : Value
  vq : Value
  vo : Value
  vf : Value
def RV.row (x : RV) : List Value := [.string ⟨x.r.n.toArray⟩, .int .i64 x.r.g, x.vp, x.vq, x.vo, x.vf]
structure RV.ok (H : AHeap) (x : RV) : Prop where
  p : IL H x.vp x.r.path
  q : NL H x.vq x.r.pts
  o : IL H x.vo x.r.ov
  f : NL H x.vf x.r.fl
def RL (H : AHeap) (v : Value) (xs : List RV) : Prop := Sl H 6 v (xs.map RV.row)
structure V4 where
  s : Value
  p : Value
  g : Value
  r : Value
def V4.l (u : V4) : List Value := [u.s, u.p, u.g, u.r]
structure LyR (H : AHeap) (u : V4) (xs : List RV) (L : Ly) : Prop where
  s : TL H u.s L.s
  p : PL H u.p L.p
  g : PL H u.g L.g
  r : RL H u.r xs
  e : xs.map (·.r) = L.r
  ok : ∀ x ∈ xs, x.ok H
section
variable {H K : AHeap} {v : Value}
theorem IL.len {l : List Int} (h : IL H v l) : lenS v = l.length := by have := Sl.len h; simpa using this
theorem NL.len {l : List (Int × Bool)} (h : NL H v l) : lenS v = l.length := by have := Sl.len h; simpa using this
theorem PL.len {l : List (List UInt8 × Int)} (h : PL H v l) : lenS v = l.length := by have := Sl.len h; simpa using this
theorem RL.len {l : List RV} (h : RL H v l) : lenS v = l.length := by have := Sl.len h; simpa using this
theorem IL.keeps {l : List Int} (h : IL H v l) (k : Keeps H K) : IL K v l := Sl.keeps h k
theorem NL.keeps {l : List (Int × Bool)} (h : NL H v l) (k : Keeps H K) : NL K v l := Sl.keeps h k
theorem PL.keeps {l : List (List UInt8 × Int)} (h : PL H v l) (k : Keeps H K) : PL K v l := Sl.keeps h k
theorem RL.keeps {l : List RV} (h : RL H v l) (k : Keeps H K) : RL K v l := Sl.keeps h k
theorem IL.at_ {l : List Int} (h : IL H v l) {i : Nat} (hi : i < l.length) : nnS v = true ∧ rowA H 1 v i = some [.int .i64 (l.getD i 0)] := by
  have := Sl.at_ h (by omega) (i := i) (by simpa using hi)
  refine ⟨this.1, ?_⟩
  rw [this.2]; simp [List.getD, List.getElem?_eq_getElem hi, iRow]
theorem NL.at_ {l : List (Int × Bool)} (h : NL H v l) {i : Nat} (hi : i < l.length) : nnS v = true ∧ rowA H 2 v i = some [.int .i64 (l.getD i (0, false)).1, .bool (l.getD i (0, false)).2] := by
  have := Sl.at_ h (by omega) (i := i) (by simpa using hi)
  refine ⟨this.1, ?_⟩
  rw [this.2]; simp [List.getD, List.getElem?_eq_getElem hi, nRow]
theorem PL.at_ {l : List (List UInt8 × Int)} (h : PL H v l) {i : Nat} (hi : i < l.length) : nnS v = true ∧ rowA H 2 v i = some [.string ⟨(l.getD i ([], 0)).1.toArray⟩, .int .i64 (l.getD i ([], 0)).2] := by
  have := Sl.at_ h (by omega) (i := i) (by simpa using hi)
  refine ⟨this.1, ?_⟩
  rw [this.2]; simp [List.getD, List.getElem?_eq_getElem hi, pRow]
def rv0 : RV := ⟨⟨[], 0, [], [], [], []⟩, .slice none 0 0, .slice none 0 0, .slice none 0 0, .slice none 0 0⟩
theorem RL.at_ {l : List RV} (h : RL H v l) {i : Nat} (hi : i < l.length) : nnS v = true ∧ rowA H 6 v i = some (l.getD i rv0).row := by
  have := Sl.at_ h (by omega) (i := i) (by simpa using hi)
  refine ⟨this.1, ?_⟩
  rw [this.2]; simp [List.getD, List.getElem?_eq_getElem hi]
theorem RV.ok.keeps {x : RV} (h : x.ok H) (k : Keeps H K) : x.ok K := ⟨h.p.keeps k, h.q.keeps k, h.o.keeps k, h.f.keeps k⟩
theorem LyR.keeps {u : V4} {xs : List RV} {L : Ly} (h : LyR H u xs L) (k : Keeps H K) : LyR K u xs L :=
  ⟨h.s.keeps k, h.p.keeps k, h.g.keeps k, h.r.keeps k, h.e, fun x hx => (h.ok x hx).keeps k⟩
theorem LyR.rlen {u : V4} {xs : List RV} {L : Ly} (h : LyR H u xs L) : xs.length = L.r.length := by rw [← h.e]; simp
theorem LyR.rat {u : V4} {xs : List RV} {L : Ly} (h : LyR H u xs L) {i : Nat} (hi : i < L.r.length) : (xs.getD i rv0).ok H ∧ (xs.getD i rv0).r = L.r.getD i rv0.r := by
  have hi' : i < xs.length := by rw [h.rlen]; exact hi
  have e : xs.getD i rv0 = xs[i] := by simp [List.getD, List.getElem?_eq_getElem hi']
  refine ⟨by rw [e]; exact h.ok _ (List.getElem_mem _), ?_⟩
  rw [e]
  have : (xs.map (·.r))[i]'(by simpa using hi') = L.r[i] := by
    have := h.e
    simp only [← this]
  simp only [List.getElem_map] at this
  rw [this]; simp [List.getD, List.getElem?_eq_getElem hi]
end
end Go.AM.Fd

set_option maxRecDepth 100000
set_option maxHeartbeats 0
namespace Go.AM.F
def zclD : TypeId → List Value
 | 50 => [(.string ByteArray.empty), (.int .i64 0), (.slice none 0 0), (.slice none 0 0), (.slice none 0 0), (.slice none 0 0)]
 | 154 => [(.slice none 0 0), (.slice none 0 0), (.slice none 0 0), (.slice none 0 0), (.map none)]
 | 46 => [(.string ByteArray.empty), (.int .i64 0)]
 | 66 => [(.string ByteArray.empty), (.int .i64 0)]
 | 68 => [(.int .i64 0), (.bool false)]
 | _ => []
def zvlD : TypeId → Value
 | _ => undef
def zklD : TypeId → List Nat
 | _ => []
def zrlD : Nat → TypeId → List Value
 | 1, 3 => [(.int .i64 0)]
 | _, _ => []
noncomputable def f20 : AFunc := by
 refine (fun (_ : Cz zclD zvlD zklD zrlD Go.Proofs.Try.prog 0 [0, 1, 2, 4, 5, 6, 7, 8, 9, 10, 20, 41, 63, 85, 109] 20 ?a) => ?a) ?h
 case h =>
 intro zc zv zk zr hc hv hk hr
 conv => lhs; cbv; try simp only [hc, hv, hk, hr, zclD, zvlD, zklD, zrlD]
theorem f20_ok : compF Go.Proofs.Try.prog 0 [0, 1, 2, 4, 5, 6, 7, 8, 9, 10, 20, 41, 63, 85, 109] 20 = some f20 := by kernel_rfl
theorem f20_n : argsOK Go.Proofs.Try.prog 20 2 = true := by kernel_rfl
noncomputable def f77 : AFunc := by
 refine (fun (_ : Cz zclD zvlD zklD zrlD Go.Proofs.Try.prog 0 [0, 1, 2, 3, 4, 5, 6, 7, 8, 9, 10, 11, 12, 13, 14, 15, 16, 42, 47, 48, 49, 50, 68, 69, 70, 71, 98, 99, 100, 101, 128, 129, 130, 131] 77 ?a) => ?a) ?h
 case h =>
 intro zc zv zk zr hc hv hk hr
 conv => lhs; cbv; try simp only [hc, hv, hk, hr, zclD, zvlD, zklD, zrlD]
theorem f77_ok : compF Go.Proofs.Try.prog 0 [0, 1, 2, 3, 4, 5, 6, 7, 8, 9, 10, 11, 12, 13, 14, 15, 16, 42, 47, 48, 49, 50, 68, 69, 70, 71, 98, 99, 100, 101, 128, 129, 130, 131] 77 = some f77 := by kernel_rfl
theorem f77_n : argsOK Go.Proofs.Try.prog 77 1 = true := by kernel_rfl
noncomputable def f100 : AFunc := by
 refine (fun (_ : Cz zclD zvlD zklD zrlD Go.Proofs.Try.prog 0 [0, 1, 2, 6, 8, 18] 100 ?a) => ?a) ?h
 case h =>
 intro zc zv zk zr hc hv hk hr
 conv => lhs; cbv; try simp only [hc, hv, hk, hr, zclD, zvlD, zklD, zrlD]
theorem f100_ok : compF Go.Proofs.Try.prog 0 [0, 1, 2, 6, 8, 18] 100 = some f100 := by kernel_rfl
theorem f100_n : argsOK Go.Proofs.Try.prog 100 3 = true := by kernel_rfl
noncomputable def f101 : AFunc := by
 refine (fun (_ : Cz zclD zvlD zklD zrlD Go.Proofs.Try.prog 0 [0, 1, 4, 6, 7, 8, 9, 10, 19] 101 ?a) => ?a) ?h
 case h =>
 intro zc zv zk zr hc hv hk hr
 conv => lhs; cbv; try simp only [hc, hv, hk, hr, zclD, zvlD, zklD, zrlD]
theorem f101_ok : compF Go.Proofs.Try.prog 0 [0, 1, 4, 6, 7, 8, 9, 10, 19] 101 = some f101 := by kernel_rfl
theorem f101_n : argsOK Go.Proofs.Try.prog 101 2 = true := by kernel_rfl
noncomputable def f102 : AFunc := by
 refine (fun (_ : Cz zclD zvlD zklD zrlD Go.Proofs.Try.prog 0 [0, 1, 4, 5, 6, 7, 8, 9, 10, 23] 102 ?a) => ?a) ?h
 case h =>
 intro zc zv zk zr hc hv hk hr
 conv => lhs; cbv; try simp only [hc, hv, hk, hr, zclD, zvlD, zklD, zrlD]
theorem f102_ok : compF Go.Proofs.Try.prog 0 [0, 1, 4, 5, 6, 7, 8, 9, 10, 23] 102 = some f102 := by kernel_rfl
theorem f102_n : argsOK Go.Proofs.Try.prog 102 2 = true := by kernel_rfl
end Go.AM.F

set_option linter.unusedSimpArgs false
set_option linter.unusedVariables false
namespace Go.AM.Fd
open Nat (reduceAdd reduceEqDiff reduceLT reduceLeDiff reduceMul reduceSub)
open Go.Proofs Go.AM.F
def inB (n x : Int) : Bool := decide (0 ≤ x) && decide (x < n)
theorem all_take {α : Type} {p : α → Bool} {l : List α} {i : Nat} {d : α} (h : i < l.length) (hp : (l.take i).all p = true) (hx : p (l.getD i d) = true) : (l.take (i + 1)).all p = true := by
  rw [List.take_add_one, List.all_append, hp, List.getElem?_eq_getElem h]
  simpa [List.getD, List.getElem?_eq_getElem h] using hx
theorem all_not {α : Type} {p : α → Bool} {l : List α} {i : Nat} {d : α} (h : i < l.length) (hx : p (l.getD i d) = false) : l.all p = false := by
  rw [List.all_eq_false]
  exact ⟨l[i], List.getElem_mem _, by simpa [List.getD, List.getElem?_eq_getElem h] using hx⟩
theorem t101 {H : AHeap} {v : Value} {l : List Int} (n : Int) (h : IL H v l) (hl : l.length ≤ 9223372036854775807) : ∃ w H', ARun Go.Proofs.Try.prog 0 101 [.int .i64 n, v] H w H' ∧ w = .bool (l.all (inB n)) ∧ H' = H := by
  refine walk2 f101_ok f101_n ?_
  intro Q hq1 hq2
  have ia := Sl.is h
  have la := h.len
  simp (disch := first | assumption | omega | (simp only [LN] <;> omega) | (simp (disch := first | assumption | omega | (simp only [LN] <;> omega)) only [row_alloc, row_set]; assumption)) only [ f101, P3, ↓reduceIte, reduceAdd, reduceEqDiff, reduceCtorEq, initFr, reduceLT, clsA, reduceLeDiff, reduceMul, reduceSub, reduceIte, la]
  rw [W_block]
  refine W_loop2 (fun k fr K => ∃ i x3 x7 x8, fr = [.int .i64 n, v, .bool false, x3, v, .int .i64 ((l.length : Nat) : Int), .int .i64 ((i : Nat) : Int), x7, x8] ∧ K = H ∧ i ≤ l.length ∧ (l.take i).all (inB n) = true ∧ k = l.length - i) l.length
    ⟨0, _, _, _, rfl, rfl, by omega, by simp, rfl⟩ ?_
  rintro Q' k fr K ⟨i, x3, x7, x8, rfl, rfl, hi, hp, rfl⟩ hn hx hret
  by_cases hlt : i < l.length
  · obtain ⟨na, ra⟩ := h.at_ hlt
    have h0 : (0 : Int) ≤ (i : Int) := by omega
    have h1 : (i : Int) < ((lenS v : Nat) : Int) := by omega
    have h3 : (i : Int) < ((l.length : Nat) : Int) := by omega
    have hw : IntKind.i64.wrap ((i : Int) + 1) = ((i + 1 : Nat) : Int) := by rw [wrap_i64 (by omega) (by omega)]; simp
    have stop : inB n (l.getD i 0) = false → l.all (inB n) = false := fun e => all_not hlt e
    have go : inB n (l.getD i 0) = true → (l.take (i + 1)).all (inB n) = true := fun e => all_take hlt hp e
    generalize l.getD i 0 = x at *
    by_cases hx0 : x < 0
    · simp (disch := first | assumption | omega | (simp only [LN] <;> omega) | (simp (disch := first | assumption | omega | (simp only [LN] <;> omega)) only [row_alloc, row_set]; assumption)) only [W_block, P3, ↓reduceIte, reduceAdd, reduceEqDiff, reduceCtorEq, initFr, reduceLT, clsA, reduceLeDiff, reduceMul, reduceSub, reduceIte, la, ra, na, a_load1v]
      refine hret _ _ (hq2 _ _ ⟨_, rfl, ?_, rfl⟩)
      rw [stop (by simp [inB]; omega)]; rfl
    · by_cases hxn : n ≤ x
      · simp (disch := first | assumption | omega | (simp only [LN] <;> omega) | (simp (disch := first | assumption | omega | (simp only [LN] <;> omega)) only [row_alloc, row_set]; assumption)) only [W_block, P3, ↓reduceIte, reduceAdd, reduceEqDiff, reduceCtorEq, initFr, reduceLT, clsA, reduceLeDiff, reduceMul, reduceSub, reduceIte, la, ra, na, a_load1v]
        refine hret _ _ (hq2 _ _ ⟨_, rfl, ?_, rfl⟩)
        rw [stop (by simp [inB]; omega)]; rfl
      · simp (disch := first | assumption | omega | (simp only [LN] <;> omega) | (simp (disch := first | assumption | omega | (simp only [LN] <;> omega)) only [row_alloc, row_set]; assumption)) only [W_block, P3, ↓reduceIte, reduceAdd, reduceEqDiff, reduceCtorEq, initFr, reduceLT, clsA, reduceLeDiff, reduceMul, reduceSub, reduceIte, la, ra, na, a_load1v, hw]
        exact hn _ _ _ ⟨i + 1, _, _, _, rfl, rfl, by omega, go (by simp [inB]; omega), rfl⟩ (by omega)
  · have h3 : ¬ (i : Int) < ((l.length : Nat) : Int) := by omega
    simp (disch := first | assumption | omega | (simp only [LN] <;> omega) | (simp (disch := first | assumption | omega | (simp only [LN] <;> omega)) only [row_alloc, row_set]; assumption)) only [W_block, P3, ↓reduceIte, reduceAdd, reduceEqDiff, reduceCtorEq, initFr, reduceLT, clsA, reduceLeDiff, reduceMul, reduceSub, reduceIte, la]
    refine hx 0 _ _ ?_
    simp (disch := first | assumption | omega | (simp only [LN] <;> omega) | (simp (disch := first | assumption | omega | (simp only [LN] <;> omega)) only [row_alloc, row_set]; assumption)) only [W_block, P3, ↓reduceIte, reduceAdd, reduceEqDiff, reduceCtorEq, initFr, reduceLT, clsA, reduceLeDiff, reduceMul, reduceSub, reduceIte]
    refine hq2 _ _ ⟨_, rfl, ?_, rfl⟩
    rw [List.take_of_length_le (by omega)] at hp
    rw [hp]; rfl
end Go.AM.Fd

set_option linter.unusedSimpArgs false
set_option linter.unusedVariables false
namespace Go.AM.Fd
open Nat (reduceAdd reduceEqDiff reduceLT reduceLeDiff reduceMul reduceSub)
open Go.Proofs Go.AM.F
theorem t102 {H : AHeap} {v : Value} {l : List (Int × Bool)} (n : Int) (h : NL H v l) (hl : l.length ≤ 9223372036854775807) : ∃ w H', ARun Go.Proofs.Try.prog 0 102 [v, .int .i64 n] H w H' ∧ w = .bool (decide (l.length ≤ 16) && l.all (fun x => inB n x.1)) ∧ H' = H := by
  suffices h' : ∃ w H', ARun Go.Proofs.Try.prog 0 102 [v, .int .i64 n] H w H' ∧ w = .bool (decide (l.length ≤ 16) && l.all (fun x => inB n x.1)) ∧ Keeps H H' by
    obtain ⟨_, _, a, rfl, k⟩ := h'
    exact ⟨_, _, a.gc0 k (.inr (.bool _)), rfl, rfl⟩
  refine walk2 f102_ok f102_n ?_
  intro Q hq1 hq2
  have ia := Sl.is h
  have la := h.len
  simp (disch := first | assumption | omega | (simp only [LN] <;> omega) | (simp (disch := first | assumption | omega | (simp only [LN] <;> omega)) only [row_alloc, row_set]; assumption)) only [ f102, P3, ↓reduceIte, reduceAdd, reduceEqDiff, reduceCtorEq, initFr, reduceLT, clsA, reduceLeDiff, reduceMul, reduceSub, reduceIte, la]
  rw [W_block]
  refine W_loop2 (fun k fr K => ∃ i x3 x4 x8 x9, fr = [v, .int .i64 n, .bool false, x3, x4, v, .int .i64 ((l.length : Nat) : Int), .int .i64 ((i : Nat) : Int), x8, x9] ∧ Keeps H K ∧ i ≤ l.length ∧ i ≤ 16 ∧ (l.take i).all (fun x => inB n x.1) = true ∧ k = l.length - i) l.length
    ⟨0, _, _, _, _, rfl, Keeps.refl H, by omega, by omega, by simp, rfl⟩ ?_
  rintro Q' k fr K ⟨i, x3, x4, x8, x9, rfl, hk, hi, hi6, hp, rfl⟩ hn hx hret
  by_cases hlt : i < l.length
  · obtain ⟨na, ra⟩ := (h.keeps hk).at_ hlt
    have hbl := Sl.bn_le (h.keeps hk) (by intro e; simp at e; subst e; simp at hlt) (by omega)
    have h0 : (0 : Int) ≤ (i : Int) := by omega
    have h1 : (i : Int) < ((lenS v : Nat) : Int) := by omega
    have h3 : (i : Int) < ((l.length : Nat) : Int) := by omega
    have hw : IntKind.i64.wrap ((i : Int) + 1) = ((i + 1 : Nat) : Int) := by rw [wrap_i64 (by omega) (by omega)]; simp
    have stop : inB n (l.getD i (0, false)).1 = false → l.all (fun x => inB n x.1) = false := fun e => all_not (d := (0, false)) hlt e
    have go : inB n (l.getD i (0, false)).1 = true → (l.take (i + 1)).all (fun x => inB n x.1) = true := fun e => all_take (d := (0, false)) hlt hp e
    generalize l.getD i (0, false) = x at *
    have o1 : one1 (Value.int .i64 x.1) = True := by simp [one1, one_int]
    by_cases h6 : (16 : Int) ≤ (i : Int)
    · simp (disch := first | assumption | omega | (simp only [LN] <;> omega) | (simp (disch := first | assumption | omega | (simp only [LN] <;> omega)) only [row_alloc, row_set]; assumption)) only [W_block, P3, ↓reduceIte, reduceAdd, reduceEqDiff, reduceCtorEq, initFr, reduceLT, clsA, reduceLeDiff, reduceMul, reduceSub, reduceIte, la, ra, na, a_loadnvf, h6]
      refine hret _ _ (hq2 _ _ ⟨_, rfl, ?_, ?_⟩)
      · have : ¬ l.length ≤ 16 := by omega
        simp [tupV, this]
      · exact (hk.alloc _)
    · simp (disch := first | assumption | omega | (simp only [LN] <;> omega) | (simp (disch := first | assumption | omega | (simp only [LN] <;> omega)) only [row_alloc, row_set]; assumption)) only [W_block, P3, ↓reduceIte, reduceAdd, reduceEqDiff, reduceCtorEq, initFr, reduceLT, clsA, reduceLeDiff, reduceMul, reduceSub, reduceIte, la, ra, na, a_loadnvf, h6]
      have hk2 := (hk.alloc (.cells true false 2 [.int .i64 x.1, .bool x.2] 68)).alloc (.cells true false 1 [.int .i64 x.1] 3)
      have hil : IL ((K.alloc (.cells true false 2 [.int .i64 x.1, .bool x.2] 68)).alloc (.cells true false 1 [.int .i64 x.1] 3)) (slc (K.n + 1) 0 1 1) [x.1] :=
        ⟨⟨_, _, rfl⟩, by simp [iRow], by rw [elems_new (by simp [alloc_n]) rfl]; rfl⟩
      refine callK (t101 n hil (by simp)) ?_
      rintro _ _ ⟨rfl, rfl⟩
      cases hb : inB n x.1 with
      | false =>
        have e : [x.1].all (inB n) = false := by simp [hb]
        simp (disch := first | assumption | omega | (simp only [LN] <;> omega) | (simp (disch := first | assumption | omega | (simp only [LN] <;> omega)) only [row_alloc, row_set]; assumption)) only [W_block, P3, ↓reduceIte, reduceAdd, reduceEqDiff, reduceCtorEq, initFr, reduceLT, clsA, reduceLeDiff, reduceMul, reduceSub, reduceIte, e]
        refine hret _ _ (hq2 _ _ ⟨_, rfl, ?_, hk2⟩)
        rw [stop hb]; simp [tupV]
      | true =>
        have e : [x.1].all (inB n) = true := by simp [hb]
        simp (disch := first | assumption | omega | (simp only [LN] <;> omega) | (simp (disch := first | assumption | omega | (simp only [LN] <;> omega)) only [row_alloc, row_set]; assumption)) only [W_block, P3, ↓reduceIte, reduceAdd, reduceEqDiff, reduceCtorEq, initFr, reduceLT, clsA, reduceLeDiff, reduceMul, reduceSub, reduceIte, e, hw]
        exact hn _ _ _ ⟨i + 1, _, _, _, _, rfl, hk2, by omega, by omega, go hb, rfl⟩ (by omega)
  · have h3 : ¬ (i : Int) < ((l.length : Nat) : Int) := by omega
    simp (disch := first | assumption | omega | (simp only [LN] <;> omega) | (simp (disch := first | assumption | omega | (simp only [LN] <;> omega)) only [row_alloc, row_set]; assumption)) only [W_block, P3, ↓reduceIte, reduceAdd, reduceEqDiff, reduceCtorEq, initFr, reduceLT, clsA, reduceLeDiff, reduceMul, reduceSub, reduceIte, la]
    refine hx 0 _ _ ?_
    simp (disch := first | assumption | omega | (simp only [LN] <;> omega) | (simp (disch := first | assumption | omega | (simp only [LN] <;> omega)) only [row_alloc, row_set]; assumption)) only [W_block, P3, ↓reduceIte, reduceAdd, reduceEqDiff, reduceCtorEq, initFr, reduceLT, clsA, reduceLeDiff, reduceMul, reduceSub, reduceIte]
    refine hq2 _ _ ⟨_, rfl, ?_, hk⟩
    rw [List.take_of_length_le (by omega)] at hp
    have : l.length ≤ 16 := by omega
    simp [tupV, hp, this]
def sEnc (l : List UInt8) : Value := .string ⟨l.toArray⟩
theorem sEnc_e : Enc .string sEnc := encStr
theorem mfind_none {k : List UInt8} : ∀ {M : List (List UInt8 × Value)}, mfind k M = none ↔ k ∉ M.map (·.1)
  | [] => by simp [mfind]
  | (a, v) :: M => by
    simp only [mfind, List.map_cons, List.mem_cons, not_or]
    split
    · rename_i e; simp [e]
    · rename_i e; rw [mfind_none (M := M)]; simp [e]
theorem t100 {H : AHeap} {b mb T : Nat} {own room : Bool} {c : List Value} {M : List (List UInt8 × Value)} (hb : H.get b = some (.cells own room 5 c T)) (hc : c[4]? = some (.map (some mb))) (hm : MP sEnc H mb M) (n : List UInt8) {x : Value} (hx : gndB x = true) :
    ∃ w H', ARun Go.Proofs.Try.prog 0 100 [ptr b 0, .string ⟨n.toArray⟩, x] H w H' ∧ w = .bool (mfind n M).isNone ∧ Chg [mb] H H' ∧ MP sEnc H' mb (if (mfind n M).isNone then M ++ [(n, x)] else M) := by
  refine walk2 f100_ok f100_n ?_
  intro Q hq1 hq2
  have g := a_mget sEnc_e hm n .nilIface true
  obtain ⟨o, s1, s2⟩ := a_mset sEnc_e hm n hx
  simp only [sEnc] at g s1
  cases hf : mfind n M with
  | some y =>
    rw [hf] at g
    simp only [mres, if_true] at g
    simp (disch := first | assumption | omega | (simp only [LN] <;> omega) | (simp (disch := first | assumption | omega | (simp only [LN] <;> omega)) only [row_alloc, row_set]; assumption)) only [f100, W_block, P3, ↓reduceIte, reduceAdd, reduceEqDiff, reduceCtorEq, initFr, reduceLT, clsA, reduceLeDiff, reduceMul, reduceSub, reduceIte, hb, hc, st_mget, g]
    refine hq2 _ _ ⟨_, rfl, by simp [tupV, hf], Chg.refl _ _, by simpa [hf] using hm⟩
  | none =>
    rw [hf] at g
    simp only [mres, if_true] at g
    simp (disch := first | assumption | omega | (simp only [LN] <;> omega) | (simp (disch := first | assumption | omega | (simp only [LN] <;> omega)) only [row_alloc, row_set]; assumption)) only [f100, W_block, P3, ↓reduceIte, reduceAdd, reduceEqDiff, reduceCtorEq, initFr, reduceLT, clsA, reduceLeDiff, reduceMul, reduceSub, reduceIte, hb, hc, st_mget, st_mset, g, s1]
    refine hq2 _ _ ⟨_, rfl, by simp [tupV, hf], Chg.set H hm.lt o, ?_⟩
    rw [mput_new hf] at s2
    simpa [hf] using s2
end Go.AM.Fd

set_option linter.unusedSimpArgs false
set_option linter.unusedVariables false
namespace Go.AM.Fd
open Nat (reduceAdd reduceEqDiff reduceLT reduceLeDiff reduceMul reduceSub)
open Go.Proofs Go.AM.F
def okN (l : List (List UInt8)) : Bool := l.all rightB && decide l.Nodup
theorem okN_snoc (ns : List (List UInt8)) (n : List UInt8) : okN (ns ++ [n]) = (okN ns && (rightB n && !ns.contains n)) := by
  simp only [okN, List.all_append, List.all_cons, List.all_nil, Bool.and_true]
  have : decide (ns ++ [n]).Nodup = (decide ns.Nodup && !ns.contains n) := by
    by_cases h1 : ns.Nodup
    · by_cases h2 : n ∈ ns
      · have : ¬ (ns ++ [n]).Nodup := by
          intro h; rw [List.nodup_append] at h
          exact h.2.2 n h2 n (by simp) rfl
        simp [this, h2]
      · have : (ns ++ [n]).Nodup := by
          rw [List.nodup_append]
          exact ⟨h1, by simp, fun a ha b hb => by simp at hb; subst hb; intro e; subst e; exact h2 ha⟩
        simp [this, h1, h2]
    · have : ¬ (ns ++ [n]).Nodup := fun h => h1 (List.nodup_append.1 h).1
      simp [this, h1]
  rw [this]
  cases ns.all rightB <;> cases rightB n <;> simp
def needB (n : Nat) (l : List (Int × Bool)) : Bool := decide (l.length ≤ 16) && l.all (fun x => inB n x.1)
def roB (L : Ly) (r : Ro) : Bool := inB L.g.length r.g && (decide (r.path.length ≤ 16) && decide (r.ov.length ≤ 16) && r.path.all (inB L.s.length) && r.ov.all (inB L.s.length)) && (needB L.p.length r.pts && needB L.p.length r.fl)
def fullB (L : Ly) : Bool := decide (64 < L.s.length) || decide (32 < L.p.length) || decide (32 < L.g.length) || decide (64 < L.r.length)
def nm2 (L : Ly) (i : Nat) : List (List UInt8) := L.s ++ (L.p.take i).map (·.1)
def nm3 (L : Ly) (i : Nat) : List (List UInt8) := L.s ++ L.p.map (·.1) ++ (L.g.take i).map (·.1)
def nm4 (L : Ly) (i : Nat) : List (List UInt8) := L.s ++ L.p.map (·.1) ++ L.g.map (·.1) ++ (L.r.take i).map (·.n)
def namesL (L : Ly) : List (List UInt8) := L.s ++ L.p.map (·.1) ++ L.g.map (·.1) ++ L.r.map (·.n)
def al2 (L : Ly) (i : Nat) : Bool := (L.p.take i).all fun x => inB L.s.length x.2
def al3 (L : Ly) (i : Nat) : Bool := L.p.all (fun x => inB L.s.length x.2) && (L.g.take i).all fun x => inB L.s.length x.2
def al4 (L : Ly) (i : Nat) : Bool := L.p.all (fun x => inB L.s.length x.2) && L.g.all (fun x => inB L.s.length x.2) && (L.r.take i).all (roB L)
def mayB (L : Ly) : Bool := !fullB L && (okN (namesL L) && (L.p.all (fun x => inB L.s.length x.2) && L.g.all (fun x => inB L.s.length x.2) && L.r.all (roB L)))
theorem take_snoc {α : Type} {l : List α} {i : Nat} (d : α) (h : i < l.length) : l.take (i + 1) = l.take i ++ [l.getD i d] := by
  rw [List.take_add_one, List.getElem?_eq_getElem h]; simp [List.getD, List.getElem?_eq_getElem h]
structure LyFit (L : Ly) : Prop where
  s : L.s.length ≤ 1000000000 ∧ ∀ x ∈ L.s, x.length ≤ 9223372036854775807
  p : L.p.length ≤ 1000000000 ∧ ∀ x ∈ L.p, x.1.length ≤ 9223372036854775807
  g : L.g.length ≤ 1000000000 ∧ ∀ x ∈ L.g, x.1.length ≤ 9223372036854775807
  r : L.r.length ≤ 1000000000 ∧ ∀ x ∈ L.r, x.n.length ≤ 9223372036854775807 ∧ x.path.length ≤ 9223372036854775807 ∧ x.pts.length ≤ 9223372036854775807 ∧ x.ov.length ≤ 9223372036854775807 ∧ x.fl.length ≤ 9223372036854775807
theorem getD_mem {α : Type} {l : List α} {i : Nat} {d : α} (h : i < l.length) : l.getD i d ∈ l := by
  simp [List.getD, List.getElem?_eq_getElem h]
structure MSt (H K : AHeap) (u : V4) (ok : Bool) (ns : List (List UInt8)) : Prop where
  k : Keeps H K
  l : K.get H.n = some (.cells true false 4 u.l 27)
  b : K.get (H.n + 2) = some (.cells true false 5 [.slice none 0 0, .slice none 0 0, .slice none 0 0, .slice none 0 0, .map (some (H.n + 1))] 154)
  m : ok = true → ∃ M, MP sEnc K (H.n + 1) M ∧ M.map (·.1) = ns
theorem MSt.keeps {H K K' : AHeap} {u : V4} {ok : Bool} {ns : List (List UInt8)} (h : MSt H K u ok ns) (k : Keeps K K') : MSt H K' u ok ns :=
  ⟨h.k.trans k, k.at_ h.l, k.at_ h.b, fun e => by obtain ⟨M, h1, h2⟩ := h.m e; exact ⟨M, h1.get (k.get _ h1.lt), h2⟩⟩
theorem MSt.no {H K : AHeap} {u : V4} {ok : Bool} {ns ns' : List (List UInt8)} (h : MSt H K u ok ns) : MSt H K u false ns' := ⟨h.k, h.l, h.b, fun e => by cases e⟩
theorem MSt.fresh {H K : AHeap} {u : V4} {ns : List (List UInt8)} (h : MSt H K u true ns) (n : List UInt8) {x : Value} (hx : gndB x = true) :
    ∃ w K', ARun Go.Proofs.Try.prog 0 100 [ptr (H.n + 2) 0, .string ⟨n.toArray⟩, x] K w K' ∧ w = .bool (!ns.contains n) ∧ MSt H K' u (!ns.contains n) (ns ++ [n]) ∧ K.n ≤ K'.n ∧ (∀ b, H.n + 2 < b → b < K.n → K'.get b = K.get b) := by
  obtain ⟨M, h1, h2⟩ := h.m rfl
  obtain ⟨w, K', r, rfl, c, m⟩ := t100 (hc := rfl) h.b h1 n hx
  have e : (mfind n M).isNone = !ns.contains n := by
    cases hf : mfind n M with
    | none => have := mfind_none.1 hf; rw [h2] at this; simp [this]
    | some y =>
      have : n ∈ M.map (·.1) := by
        rcases Classical.em (n ∈ M.map (·.1)) with h | h
        · exact h
        · rw [mfind_none.2 h] at hf; cases hf
      rw [h2] at this; simp [this]
  rw [e] at r m
  refine ⟨_, _, r, rfl, ⟨h.k.chg_trans c (by simp), c.at_ h.l (by simp), c.at_ h.b (by simp), fun hn => ?_⟩, c.n, fun b hb hlt => c.get b hlt (by simp; omega)⟩
  rw [hn] at m
  exact ⟨_, m, by simp [h2]⟩
def mF (A : Value) (h : Nat) (L : Ly) (ok : Bool) : List Value := [A, ptr h 0, .bool false, .int .i64 ((L.s.length : Nat) : Int), .int .i64 ((L.p.length : Nat) : Int), .int .i64 ((L.g.length : Nat) : Int), .int .i64 ((L.r.length : Nat) : Int), ptr (h + 2) 0, .bool ok]
def M1 (A : Value) (H : AHeap) (u : V4) (L : Ly) (fr : List Value) (K : AHeap) : Prop :=
  ∃ ok x9 x10 x11 x12 x13 x14 x15 x16 x17 x18 x19 x20 x21 x22 x23 x24 x25 x26 x27 x28 x29 x30 x31 x32 x33, fr = mF A H.n L ok ++ [x9, x10, x11, x12, x13, x14, x15, x16, x17, x18, x19, x20, x21, x22, x23, x24, x25, x26, x27, x28, x29, x30, x31, x32, x33] ∧ ok = okN L.s ∧ MSt H K u ok L.s
set_option maxHeartbeats 1000000 in
theorem may1 {H : AHeap} {u : V4} {xs : List RV} {L : Ly} {Q : AQ} (h : LyR H u xs L) (hf : LyFit L) (hfu : fullB L = false)
    (hk : ∀ fr K, M1 (.agg u.l.toArray) H u L fr K → Q .normal fr K) : W Go.Proofs.Try.prog 0 (cpre 6 f77.body) Q (initFr f77.sl [.agg u.l.toArray]) H := by
  have ls := h.s.len
  have lp := h.p.len
  have lg := h.g.len
  have lr := h.r.len
  have er := h.rlen
  have is := Sl.is h.s
  have ip := Sl.is h.p
  have ig := Sl.is h.g
  have ir := Sl.is h.r
  have os := Sl.one h.s
  have op := Sl.one h.p
  have og := Sl.one h.g
  have or := Sl.one h.r
  simp only [fullB, Bool.or_eq_false_iff, decide_eq_false_iff_not] at hfu
  obtain ⟨⟨⟨f1, f2⟩, f3⟩, f4⟩ := hfu
  have h0 := h
  obtain ⟨us, up, ug, ur⟩ := u
  simp only [V4.l] at *
  have c1 : ¬ (64 : Int) < ((L.s.length : Nat) : Int) := by omega
  have c2 : ¬ (32 : Int) < ((L.p.length : Nat) : Int) := by omega
  have c3 : ¬ (32 : Int) < ((L.g.length : Nat) : Int) := by omega
  have c4 : ¬ (64 : Int) < ((L.r.length : Nat) : Int) := by omega
  simp (disch := first | assumption | omega | (simp only [LN] <;> omega) | (simp (disch := first | assumption | omega | (simp only [LN] <;> omega)) only [row_alloc, row_set]; assumption)) only [ f77, cpre, P3, ↓reduceIte, reduceAdd, reduceEqDiff, reduceCtorEq, initFr, reduceLT, clsA, reduceLeDiff, reduceMul, reduceSub, reduceIte, ls, lp, lg, lr, er, os, op, og, or, st_mkmap, a_mkmap, fill_cons, cells_map, one_map, o_map]
  have k0 := (((Keeps.refl H).alloc (.cells true false 4 [us, up, ug, ur] 27)).alloc (.obj true (.map #[] 0))).alloc (.cells true false 5 [.slice none 0 0, .slice none 0 0, .slice none 0 0, .slice none 0 0, .map (some (H.n + 1))] 154)
  have st0 : MSt H (((H.alloc (.cells true false 4 [us, up, ug, ur] 27)).alloc (.obj true (.map #[] 0))).alloc (.cells true false 5 [.slice none 0 0, .slice none 0 0, .slice none 0 0, .slice none 0 0, .map (some (H.n + 1))] 154)) ⟨us, up, ug, ur⟩ true [] := by
    refine ⟨k0, ?_, AHeap.get_alloc_new _ _, fun _ => ⟨[], MP.get (MP.new (H.alloc (.cells true false 4 [us, up, ug, ur] 27))) (g_old _ (by simp [alloc_n])), rfl⟩⟩
    rw [g_old _ (by simp [alloc_n]; omega), g_old _ (by simp [alloc_n])]; exact AHeap.get_alloc_new _ _
  generalize ((H.alloc (.cells true false 4 [us, up, ug, ur] 27)).alloc (.obj true (.map #[] 0))).alloc (.cells true false 5 [.slice none 0 0, .slice none 0 0, .slice none 0 0, .slice none 0 0, .map (some (H.n + 1))] 154) = K0 at st0 k0 ⊢
  rw [W_block]
  refine W_loop2 (fun k fr K => ∃ ok i x9 x10 x21, fr = [.agg #[us, up, ug, ur], ptr H.n 0, .bool false, .int .i64 ((L.s.length : Nat) : Int), .int .i64 ((L.p.length : Nat) : Int), .int .i64 ((L.g.length : Nat) : Int), .int .i64 ((L.r.length : Nat) : Int), ptr (H.n + 2) 0, .bool ok, x9, x10, undef, undef, undef, undef, undef, undef, .bool false, us, .int .i64 ((L.s.length : Nat) : Int), .int .i64 ((i : Nat) : Int), x21, undef, undef, undef, undef, undef, undef, undef, undef, undef, undef, undef, undef] ∧
      ok = okN (L.s.take i) ∧ MSt H K ⟨us, up, ug, ur⟩ ok (L.s.take i) ∧ i ≤ L.s.length ∧ k = L.s.length - i) L.s.length
    ⟨true, 0, _, _, _, rfl, by simp [okN], st0, by omega, rfl⟩ ?_
  rintro Q' k fr K ⟨ok, i, x9, x10, x21, rfl, hok, hst, hi, rfl⟩ hn hx hret
  by_cases hlt : i < L.s.length
  · obtain ⟨na, ra⟩ := (h0.s.keeps hst.k).at_ hlt
    have h1 : (0 : Int) ≤ (i : Int) := by omega
    have h2 : (i : Int) < ((lenS us : Nat) : Int) := by omega
    have h3 : (i : Int) < ((L.s.length : Nat) : Int) := by omega
    have hw : IntKind.i64.wrap ((i : Int) + 1) = ((i + 1 : Nat) : Int) := by rw [wrap_i64 (by omega) (by omega)]; simp
    have hlen := hf.s.2 _ (getD_mem (d := []) hlt)
    have ts := take_snoc [] hlt
    unfold tRow at ra
    have hs := okN_snoc (L.s.take i) (L.s.getD i [])
    rw [← ts] at hs
    cases ok with
    | false =>
      simp (disch := first | assumption | omega | (simp only [LN] <;> omega) | (simp (disch := first | assumption | omega | (simp only [LN] <;> omega)) only [row_alloc, row_set]; assumption)) only [W_block, P3, ↓reduceIte, reduceAdd, reduceEqDiff, reduceCtorEq, initFr, reduceLT, clsA, reduceLeDiff, reduceMul, reduceSub, reduceIte, ls, ra, na, a_load1v, hw]
      refine hn _ _ _ ⟨false, i + 1, _, _, _, rfl, ?_, hst.no, by omega, rfl⟩ (by omega)
      rw [hs, ← hok]; rfl
    | true =>
      simp (disch := first | assumption | omega | (simp only [LN] <;> omega) | (simp (disch := first | assumption | omega | (simp only [LN] <;> omega)) only [row_alloc, row_set]; assumption)) only [W_block, P3, ↓reduceIte, reduceAdd, reduceEqDiff, reduceCtorEq, initFr, reduceLT, clsA, reduceLeDiff, reduceMul, reduceSub, reduceIte, ls, ra, na, a_load1v, hw]
      refine callK (t99 _ _ hlen) ?_
      rintro _ _ ⟨rfl, rfl⟩
      cases hr : rightB (L.s.getD i []) with
      | false =>
        simp (disch := first | assumption | omega | (simp only [LN] <;> omega) | (simp (disch := first | assumption | omega | (simp only [LN] <;> omega)) only [row_alloc, row_set]; assumption)) only [W_block, P3, ↓reduceIte, reduceAdd, reduceEqDiff, reduceCtorEq, initFr, reduceLT, clsA, reduceLeDiff, reduceMul, reduceSub, reduceIte, hw]
        refine hn _ _ _ ⟨false, i + 1, _, _, _, rfl, ?_, hst.no, by omega, rfl⟩ (by omega)
        rw [hs, hr]; simp
      | true =>
        simp (disch := first | assumption | omega | (simp only [LN] <;> omega) | (simp (disch := first | assumption | omega | (simp only [LN] <;> omega)) only [row_alloc, row_set]; assumption)) only [W_block, P3, ↓reduceIte, reduceAdd, reduceEqDiff, reduceCtorEq, initFr, reduceLT, clsA, reduceLeDiff, reduceMul, reduceSub, reduceIte, hw]
        refine callK (R := fun w K' => w = .bool (!(L.s.take i).contains (L.s.getD i [])) ∧ MSt H K' ⟨us, up, ug, ur⟩ (!(L.s.take i).contains (L.s.getD i [])) (L.s.take i ++ [L.s.getD i []])) (by obtain ⟨w, K', a, b, c, _⟩ := hst.fresh (L.s.getD i []) (x := .iface 157 (.int .i64 (i : Int))) rfl; exact ⟨w, K', a, b, c⟩) ?_
        rintro _ K' ⟨rfl, st'⟩
        rw [← ts] at st'
        cases hc : (L.s.take i).contains (L.s.getD i []) with
        | false =>
          rw [hc] at st'
          simp (disch := first | assumption | omega | (simp only [LN] <;> omega) | (simp (disch := first | assumption | omega | (simp only [LN] <;> omega)) only [row_alloc, row_set]; assumption)) only [W_block, P3, ↓reduceIte, reduceAdd, reduceEqDiff, reduceCtorEq, initFr, reduceLT, clsA, reduceLeDiff, reduceMul, reduceSub, reduceIte, hw]
          refine hn _ _ _ ⟨true, i + 1, _, _, _, rfl, ?_, st', by omega, rfl⟩ (by omega)
          rw [hs, ← hok, hr, hc]; rfl
        | true =>
          rw [hc] at st'
          simp (disch := first | assumption | omega | (simp only [LN] <;> omega) | (simp (disch := first | assumption | omega | (simp only [LN] <;> omega)) only [row_alloc, row_set]; assumption)) only [W_block, P3, ↓reduceIte, reduceAdd, reduceEqDiff, reduceCtorEq, initFr, reduceLT, clsA, reduceLeDiff, reduceMul, reduceSub, reduceIte, hw]
          refine hn _ _ _ ⟨false, i + 1, _, _, _, rfl, ?_, st', by omega, rfl⟩ (by omega)
          rw [hs, ← hok, hr, hc]; rfl
  · have h3 : ¬ (i : Int) < ((L.s.length : Nat) : Int) := by omega
    simp (disch := first | assumption | omega | (simp only [LN] <;> omega) | (simp (disch := first | assumption | omega | (simp only [LN] <;> omega)) only [row_alloc, row_set]; assumption)) only [W_block, P3, ↓reduceIte, reduceAdd, reduceEqDiff, reduceCtorEq, initFr, reduceLT, clsA, reduceLeDiff, reduceMul, reduceSub, reduceIte, ls]
    refine hx 0 _ _ ?_
    have e : L.s.take i = L.s := List.take_of_length_le (by omega)
    rw [e] at hok hst
    exact hk _ _ ⟨ok, _, _, _, _, _, _, _, _, _, _, _, _, _, _, _, _, _, _, _, _, _, _, _, _, _, rfl, hok, hst⟩
end Go.AM.Fd

set_option linter.unusedSimpArgs false
set_option linter.unusedVariables false
namespace Go.AM.Fd
open Nat (reduceAdd reduceEqDiff reduceLT reduceLeDiff reduceMul reduceSub)
open Go.Proofs Go.AM.F
theorem b4 (a b c d : Bool) : ((a && b) && (c && d)) = ((a && c) && (b && d)) := by cases a <;> cases b <;> cases c <;> cases d <;> rfl
def M2 (A : Value) (H : AHeap) (u : V4) (L : Ly) (fr : List Value) (K : AHeap) : Prop :=
  ∃ ok x9 x10 x11 x12 x13 x14 x15 x16 x17 x18 x19 x20 x21 x22 x23 x24 x25 x26 x27 x28 x29 x30 x31 x32 x33, fr = mF A H.n L ok ++ [x9, x10, x11, x12, x13, x14, x15, x16, x17, x18, x19, x20, x21, x22, x23, x24, x25, x26, x27, x28, x29, x30, x31, x32, x33] ∧ ok = (okN (L.s ++ L.p.map (·.1)) && L.p.all fun x => inB L.s.length x.2) ∧ MSt H K u ok (L.s ++ L.p.map (·.1))
def M3 (A : Value) (H : AHeap) (u : V4) (L : Ly) (fr : List Value) (K : AHeap) : Prop :=
  ∃ ok x9 x10 x11 x12 x13 x14 x15 x16 x17 x18 x19 x20 x21 x22 x23 x24 x25 x26 x27 x28 x29 x30 x31 x32 x33, fr = mF A H.n L ok ++ [x9, x10, x11, x12, x13, x14, x15, x16, x17, x18, x19, x20, x21, x22, x23, x24, x25, x26, x27, x28, x29, x30, x31, x32, x33] ∧ ok = (okN (L.s ++ L.p.map (·.1) ++ L.g.map (·.1)) && (L.p.all (fun x => inB L.s.length x.2) && L.g.all fun x => inB L.s.length x.2)) ∧ MSt H K u ok (L.s ++ L.p.map (·.1) ++ L.g.map (·.1))
set_option maxHeartbeats 2000000 in
theorem may2 {H : AHeap} {u : V4} {xs : List RV} {L : Ly} {Q : AQ} {A : Value} {fr : List Value} {K : AHeap} (h : LyR H u xs L) (hf : LyFit L) (hm : M1 A H u L fr K)
    (hk : ∀ fr K, M2 A H u L fr K → Q .normal fr K) : W Go.Proofs.Try.prog 0 (cpre 1 (cpost 6 f77.body)) Q fr K := by
  obtain ⟨ok, x9, x10, x11, x12, x13, x14, x15, x16, x17, x18, x19, x20, x21, x22, x23, x24, x25, x26, x27, x28, x29, x30, x31, x32, x33, rfl, hok, hst⟩ := hm
  have lp := h.p.len
  have ip := Sl.is h.p
  have gl := hst.l
  simp only [V4.l] at gl
  simp (disch := first | assumption | omega | (simp only [LN] <;> omega) | (simp (disch := first | assumption | omega | (simp only [LN] <;> omega)) only [row_alloc, row_set]; assumption)) only [ f77, cpre, cpost, mF, List.cons_append, List.nil_append, P3, ↓reduceIte, reduceAdd, reduceEqDiff, reduceCtorEq, initFr, reduceLT, clsA, reduceLeDiff, reduceMul, reduceSub, reduceIte, gl, lp]
  rw [W_block]
  refine W_loop2 (fun k fr K => ∃ ok i x11 x12 xc, fr = mF A H.n L ok ++ [x9, x10, x11, x12, x13, x14, x15, x16, x17, x18, x19, x20, x21, u.p, .int .i64 ((L.p.length : Nat) : Int), .int .i64 ((i : Nat) : Int), xc, x26, x27, x28, x29, x30, x31, x32, x33] ∧
      ok = (okN (nm2 L i) && al2 L i) ∧ MSt H K u ok (nm2 L i) ∧ i ≤ L.p.length ∧ k = L.p.length - i) L.p.length
    ⟨ok, 0, _, _, _, rfl, by simp [nm2, al2, hok], by simpa [nm2] using hst, by omega, rfl⟩ ?_
  clear hst hok gl
  rintro Q' k fr K ⟨ok, i, x11, x12, xc, rfl, hok, hst, hi, rfl⟩ hn hx hret
  by_cases hlt : i < L.p.length
  · obtain ⟨na, ra⟩ := (h.p.keeps hst.k).at_ hlt
    have hbl := Sl.bn_le (h.p.keeps hst.k) (by intro e; simp at e; rw [e] at hlt; simp at hlt) (by omega)
    have h1 : (0 : Int) ≤ (i : Int) := by omega
    have h2 : (i : Int) < ((lenS u.p : Nat) : Int) := by omega
    have h3 : (i : Int) < ((L.p.length : Nat) : Int) := by omega
    have hw : IntKind.i64.wrap ((i : Int) + 1) = ((i + 1 : Nat) : Int) := by rw [wrap_i64 (by omega) (by have := hf.p.1; omega)]; simp
    have hlen := hf.p.2 _ (getD_mem (d := ([], 0)) hlt)
    have ts := take_snoc ([], (0 : Int)) hlt
    have hs : okN (nm2 L (i + 1)) = (okN (nm2 L i) && (rightB (L.p.getD i ([], 0)).1 && !(nm2 L i).contains (L.p.getD i ([], 0)).1)) := by
      rw [← okN_snoc]; simp only [nm2, ts, List.map_append, List.map_cons, List.map_nil, List.append_assoc]
    have hn1 : nm2 L i ++ [(L.p.getD i ([], 0)).1] = nm2 L (i + 1) := by simp only [nm2, ts, List.map_append, List.map_cons, List.map_nil, List.append_assoc]
    have ha : al2 L (i + 1) = (al2 L i && inB L.s.length (L.p.getD i ([], 0)).2) := by
      simp only [al2, ts, List.all_append, List.all_cons, List.all_nil, Bool.and_true, Bool.and_assoc]
    generalize L.p.getD i ([], 0) = y at *
    have hk1 := hst.k.n
    have o1 : one1 (Value.int .i64 y.2) = True := by simp [one1, one_int]
    have o2 : one1 (Value.string ⟨y.1.toArray⟩) = True := by simp [one1, one_str]
    have st1 := hst.keeps ((Keeps.refl K).alloc (.cells true false 2 [.string ⟨y.1.toArray⟩, .int .i64 y.2] 46))
    have gv := AHeap.get_alloc_new K (.cells true false 2 [.string ⟨y.1.toArray⟩, .int .i64 y.2] 46)
    cases ok with
    | false =>
      simp (disch := first | assumption | omega | (simp only [LN] <;> omega) | (simp (disch := first | assumption | omega | (simp only [LN] <;> omega)) only [row_alloc, row_set]; assumption)) only [W_block, P3, ↓reduceIte, reduceAdd, reduceEqDiff, reduceCtorEq, initFr, reduceLT, clsA, reduceLeDiff, reduceMul, reduceSub, reduceIte, mF, List.cons_append, List.nil_append, lp, ra, na, a_loadnvf, hw, o1, o2]
      refine hn _ _ _ ⟨false, i + 1, _, _, _, rfl, ?_, st1.no, by omega, rfl⟩ (by omega)
      rw [hs, ha, b4, ← hok]; rfl
    | true =>
      simp (disch := first | assumption | omega | (simp only [LN] <;> omega) | (simp (disch := first | assumption | omega | (simp only [LN] <;> omega)) only [row_alloc, row_set]; assumption)) only [W_block, P3, ↓reduceIte, reduceAdd, reduceEqDiff, reduceCtorEq, initFr, reduceLT, clsA, reduceLeDiff, reduceMul, reduceSub, reduceIte, mF, List.cons_append, List.nil_append, lp, ra, na, a_loadnvf, hw, o1, o2]
      obtain ⟨K1, hK1⟩ : ∃ X, X = K.alloc (.cells true false 2 [.string ⟨y.1.toArray⟩, .int .i64 y.2] 46) := ⟨_, rfl⟩
      have n1 : K1.n = K.n + 1 := by rw [hK1]; rfl
      rw [← hK1] at st1 gv ⊢
      refine callK (t99 _ _ hlen) ?_
      rintro _ X ⟨rfl, hX⟩
      rw [hX]
      cases hr : rightB y.1 with
      | false =>
        simp (disch := first | assumption | omega | (simp only [LN] <;> omega) | (simp (disch := first | assumption | omega | (simp only [LN] <;> omega)) only [row_alloc, row_set]; assumption)) only [W_block, P3, ↓reduceIte, reduceAdd, reduceEqDiff, reduceCtorEq, initFr, reduceLT, clsA, reduceLeDiff, reduceMul, reduceSub, reduceIte, hw]
        refine hn _ _ _ ⟨false, i + 1, _, _, _, rfl, ?_, st1.no, by omega, rfl⟩ (by omega)
        rw [hs, ha, hr]; simp
      | true =>
        simp (disch := first | assumption | omega | (simp only [LN] <;> omega) | (simp (disch := first | assumption | omega | (simp only [LN] <;> omega)) only [row_alloc, row_set]; assumption)) only [W_block, P3, ↓reduceIte, reduceAdd, reduceEqDiff, reduceCtorEq, initFr, reduceLT, clsA, reduceLeDiff, reduceMul, reduceSub, reduceIte, gv, hw]
        refine callK (R := fun w K' => w = .bool (!(nm2 L i).contains y.1) ∧ MSt H K' u (!(nm2 L i).contains y.1) (nm2 L i ++ [y.1]) ∧ K1.n ≤ K'.n ∧ K'.get K.n = K1.get K.n) (by
          obtain ⟨w, K', a, b, c, d, e⟩ := st1.fresh y.1 (x := .iface 158 (.int .i64 (i : Int))) rfl
          exact ⟨w, K', a, b, c, d, e _ (by have := AHeap.get_lt hst.b; omega) (by omega)⟩) ?_
        rintro _ K' ⟨rfl, st', n2, g2⟩
        rw [gv] at g2
        rw [hn1] at st'
        cases hc : (nm2 L i).contains y.1 with
        | true =>
          rw [hc] at st'
          simp (disch := first | assumption | omega | (simp only [LN] <;> omega) | (simp (disch := first | assumption | omega | (simp only [LN] <;> omega)) only [row_alloc, row_set]; assumption)) only [W_block, P3, ↓reduceIte, reduceAdd, reduceEqDiff, reduceCtorEq, initFr, reduceLT, clsA, reduceLeDiff, reduceMul, reduceSub, reduceIte, hw]
          refine hn _ _ _ ⟨false, i + 1, _, _, _, rfl, ?_, st', by omega, rfl⟩ (by omega)
          rw [hs, ha, hr, hc]; simp
        | false =>
          rw [hc] at st'
          simp (disch := first | assumption | omega | (simp only [LN] <;> omega) | (simp (disch := first | assumption | omega | (simp only [LN] <;> omega)) only [row_alloc, row_set]; assumption)) only [W_block, P3, ↓reduceIte, reduceAdd, reduceEqDiff, reduceCtorEq, initFr, reduceLT, clsA, reduceLeDiff, reduceMul, reduceSub, reduceIte, g2, hw]
          have hil : IL (K'.alloc (.cells true false 1 [.int .i64 y.2] 3)) (slc K'.n 0 1 1) [y.2] :=
            ⟨⟨_, _, rfl⟩, by simp [iRow], by rw [elems_new rfl rfl]; rfl⟩
          refine callK (t101 _ hil (by simp)) ?_
          rintro _ _ ⟨rfl, rfl⟩
          have st2 := st'.keeps ((Keeps.refl K').alloc (.cells true false 1 [.int .i64 y.2] 3))
          cases hb : inB L.s.length y.2 with
          | false =>
            have e : [y.2].all (inB (L.s.length : Nat)) = false := by simp [hb]
            simp (disch := first | assumption | omega | (simp only [LN] <;> omega) | (simp (disch := first | assumption | omega | (simp only [LN] <;> omega)) only [row_alloc, row_set]; assumption)) only [W_block, P3, ↓reduceIte, reduceAdd, reduceEqDiff, reduceCtorEq, initFr, reduceLT, clsA, reduceLeDiff, reduceMul, reduceSub, reduceIte, e, hw]
            refine hn _ _ _ ⟨false, i + 1, _, _, _, rfl, ?_, st2.no, by omega, rfl⟩ (by omega)
            rw [ha, hb]; simp
          | true =>
            have e : [y.2].all (inB (L.s.length : Nat)) = true := by simp [hb]
            simp (disch := first | assumption | omega | (simp only [LN] <;> omega) | (simp (disch := first | assumption | omega | (simp only [LN] <;> omega)) only [row_alloc, row_set]; assumption)) only [W_block, P3, ↓reduceIte, reduceAdd, reduceEqDiff, reduceCtorEq, initFr, reduceLT, clsA, reduceLeDiff, reduceMul, reduceSub, reduceIte, e, hw]
            refine hn _ _ _ ⟨true, i + 1, _, _, _, rfl, ?_, st2, by omega, rfl⟩ (by omega)
            rw [hs, ha, b4, ← hok, hr, hc, hb]; rfl
  · have h3 : ¬ (i : Int) < ((L.p.length : Nat) : Int) := by omega
    simp (disch := first | assumption | omega | (simp only [LN] <;> omega) | (simp (disch := first | assumption | omega | (simp only [LN] <;> omega)) only [row_alloc, row_set]; assumption)) only [W_block, P3, ↓reduceIte, reduceAdd, reduceEqDiff, reduceCtorEq, initFr, reduceLT, clsA, reduceLeDiff, reduceMul, reduceSub, reduceIte, mF, List.cons_append, List.nil_append, lp]
    refine hx 2 _ _ ?_
    have e : L.p.take i = L.p := List.take_of_length_le (by omega)
    simp only [nm2, al2, e] at hok hst
    exact hk _ _ ⟨ok, _, _, _, _, _, _, _, _, _, _, _, _, _, _, _, _, _, _, _, _, _, _, _, _, _, rfl, hok, hst⟩
set_option maxHeartbeats 2000000 in
theorem may3 {H : AHeap} {u : V4} {xs : List RV} {L : Ly} {Q : AQ} {A : Value} {fr : List Value} {K : AHeap} (h : LyR H u xs L) (hf : LyFit L) (hm : M2 A H u L fr K)
    (hk : ∀ fr K, M3 A H u L fr K → Q .normal fr K) : W Go.Proofs.Try.prog 0 (cpre 1 (cpost 7 f77.body)) Q fr K := by
  obtain ⟨ok, x9, x10, x11, x12, x13, x14, x15, x16, x17, x18, x19, x20, x21, x22, x23, x24, x25, x26, x27, x28, x29, x30, x31, x32, x33, rfl, hok, hst⟩ := hm
  have lp := h.g.len
  have ip := Sl.is h.g
  have gl := hst.l
  simp only [V4.l] at gl
  simp (disch := first | assumption | omega | (simp only [LN] <;> omega) | (simp (disch := first | assumption | omega | (simp only [LN] <;> omega)) only [row_alloc, row_set]; assumption)) only [ f77, cpre, cpost, mF, List.cons_append, List.nil_append, P3, ↓reduceIte, reduceAdd, reduceEqDiff, reduceCtorEq, initFr, reduceLT, clsA, reduceLeDiff, reduceMul, reduceSub, reduceIte, gl, lp]
  rw [W_block]
  refine W_loop2 (fun k fr K => ∃ ok i x13 x14 xc, fr = mF A H.n L ok ++ [x9, x10, x11, x12, x13, x14, x15, x16, x17, x18, x19, x20, x21, x22, x23, x24, x25, u.g, .int .i64 ((L.g.length : Nat) : Int), .int .i64 ((i : Nat) : Int), xc, x30, x31, x32, x33] ∧
      ok = (okN (nm3 L i) && al3 L i) ∧ MSt H K u ok (nm3 L i) ∧ i ≤ L.g.length ∧ k = L.g.length - i) L.g.length
    ⟨ok, 0, _, _, _, rfl, by simp [nm3, al3, hok], by simpa [nm3] using hst, by omega, rfl⟩ ?_
  clear hst hok gl
  rintro Q' k fr K ⟨ok, i, x13, x14, xc, rfl, hok, hst, hi, rfl⟩ hn hx hret
  by_cases hlt : i < L.g.length
  · obtain ⟨na, ra⟩ := (h.g.keeps hst.k).at_ hlt
    have hbl := Sl.bn_le (h.g.keeps hst.k) (by intro e; simp at e; rw [e] at hlt; simp at hlt) (by omega)
    have h1 : (0 : Int) ≤ (i : Int) := by omega
    have h2 : (i : Int) < ((lenS u.g : Nat) : Int) := by omega
    have h3 : (i : Int) < ((L.g.length : Nat) : Int) := by omega
    have hw : IntKind.i64.wrap ((i : Int) + 1) = ((i + 1 : Nat) : Int) := by rw [wrap_i64 (by omega) (by have := hf.g.1; omega)]; simp
    have hlen := hf.g.2 _ (getD_mem (d := ([], 0)) hlt)
    have ts := take_snoc ([], (0 : Int)) hlt
    have hs : okN (nm3 L (i + 1)) = (okN (nm3 L i) && (rightB (L.g.getD i ([], 0)).1 && !(nm3 L i).contains (L.g.getD i ([], 0)).1)) := by
      rw [← okN_snoc]; simp only [nm3, ts, List.map_append, List.map_cons, List.map_nil, List.append_assoc]
    have hn1 : nm3 L i ++ [(L.g.getD i ([], 0)).1] = nm3 L (i + 1) := by simp only [nm3, ts, List.map_append, List.map_cons, List.map_nil, List.append_assoc]
    have ha : al3 L (i + 1) = (al3 L i && inB L.s.length (L.g.getD i ([], 0)).2) := by
      simp only [al3, ts, List.all_append, List.all_cons, List.all_nil, Bool.and_true, Bool.and_assoc]
    generalize L.g.getD i ([], 0) = y at *
    have hk1 := hst.k.n
    have o1 : one1 (Value.int .i64 y.2) = True := by simp [one1, one_int]
    have o2 : one1 (Value.string ⟨y.1.toArray⟩) = True := by simp [one1, one_str]
    have st1 := hst.keeps ((Keeps.refl K).alloc (.cells true false 2 [.string ⟨y.1.toArray⟩, .int .i64 y.2] 66))
    have gv := AHeap.get_alloc_new K (.cells true false 2 [.string ⟨y.1.toArray⟩, .int .i64 y.2] 66)
    cases ok with
    | false =>
      simp (disch := first | assumption | omega | (simp only [LN] <;> omega) | (simp (disch := first | assumption | omega | (simp only [LN] <;> omega)) only [row_alloc, row_set]; assumption)) only [W_block, P3, ↓reduceIte, reduceAdd, reduceEqDiff, reduceCtorEq, initFr, reduceLT, clsA, reduceLeDiff, reduceMul, reduceSub, reduceIte, mF, List.cons_append, List.nil_append, lp, ra, na, a_loadnvf, hw, o1, o2]
      refine hn _ _ _ ⟨false, i + 1, _, _, _, rfl, ?_, st1.no, by omega, rfl⟩ (by omega)
      rw [hs, ha, b4, ← hok]; rfl
    | true =>
      simp (disch := first | assumption | omega | (simp only [LN] <;> omega) | (simp (disch := first | assumption | omega | (simp only [LN] <;> omega)) only [row_alloc, row_set]; assumption)) only [W_block, P3, ↓reduceIte, reduceAdd, reduceEqDiff, reduceCtorEq, initFr, reduceLT, clsA, reduceLeDiff, reduceMul, reduceSub, reduceIte, mF, List.cons_append, List.nil_append, lp, ra, na, a_loadnvf, hw, o1, o2]
      obtain ⟨K1, hK1⟩ : ∃ X, X = K.alloc (.cells true false 2 [.string ⟨y.1.toArray⟩, .int .i64 y.2] 66) := ⟨_, rfl⟩
      have n1 : K1.n = K.n + 1 := by rw [hK1]; rfl
      rw [← hK1] at st1 gv ⊢
      refine callK (t99 _ _ hlen) ?_
      rintro _ X ⟨rfl, hX⟩
      rw [hX]
      cases hr : rightB y.1 with
      | false =>
        simp (disch := first | assumption | omega | (simp only [LN] <;> omega) | (simp (disch := first | assumption | omega | (simp only [LN] <;> omega)) only [row_alloc, row_set]; assumption)) only [W_block, P3, ↓reduceIte, reduceAdd, reduceEqDiff, reduceCtorEq, initFr, reduceLT, clsA, reduceLeDiff, reduceMul, reduceSub, reduceIte, hw]
        refine hn _ _ _ ⟨false, i + 1, _, _, _, rfl, ?_, st1.no, by omega, rfl⟩ (by omega)
        rw [hs, ha, hr]; simp
      | true =>
        simp (disch := first | assumption | omega | (simp only [LN] <;> omega) | (simp (disch := first | assumption | omega | (simp only [LN] <;> omega)) only [row_alloc, row_set]; assumption)) only [W_block, P3, ↓reduceIte, reduceAdd, reduceEqDiff, reduceCtorEq, initFr, reduceLT, clsA, reduceLeDiff, reduceMul, reduceSub, reduceIte, gv, hw]
        refine callK (R := fun w K' => w = .bool (!(nm3 L i).contains y.1) ∧ MSt H K' u (!(nm3 L i).contains y.1) (nm3 L i ++ [y.1]) ∧ K1.n ≤ K'.n ∧ K'.get K.n = K1.get K.n) (by
          obtain ⟨w, K', a, b, c, d, e⟩ := st1.fresh y.1 (x := .iface 160 (.int .i64 (i : Int))) rfl
          exact ⟨w, K', a, b, c, d, e _ (by have := AHeap.get_lt hst.b; omega) (by omega)⟩) ?_
        rintro _ K' ⟨rfl, st', n2, g2⟩
        rw [gv] at g2
        rw [hn1] at st'
        cases hc : (nm3 L i).contains y.1 with
        | true =>
          rw [hc] at st'
          simp (disch := first | assumption | omega | (simp only [LN] <;> omega) | (simp (disch := first | assumption | omega | (simp only [LN] <;> omega)) only [row_alloc, row_set]; assumption)) only [W_block, P3, ↓reduceIte, reduceAdd, reduceEqDiff, reduceCtorEq, initFr, reduceLT, clsA, reduceLeDiff, reduceMul, reduceSub, reduceIte, hw]
          refine hn _ _ _ ⟨false, i + 1, _, _, _, rfl, ?_, st', by omega, rfl⟩ (by omega)
          rw [hs, ha, hr, hc]; simp
        | false =>
          rw [hc] at st'
          simp (disch := first | assumption | omega | (simp only [LN] <;> omega) | (simp (disch := first | assumption | omega | (simp only [LN] <;> omega)) only [row_alloc, row_set]; assumption)) only [W_block, P3, ↓reduceIte, reduceAdd, reduceEqDiff, reduceCtorEq, initFr, reduceLT, clsA, reduceLeDiff, reduceMul, reduceSub, reduceIte, g2, hw]
          have hil : IL (K'.alloc (.cells true false 1 [.int .i64 y.2] 3)) (slc K'.n 0 1 1) [y.2] :=
            ⟨⟨_, _, rfl⟩, by simp [iRow], by rw [elems_new rfl rfl]; rfl⟩
          refine callK (t101 _ hil (by simp)) ?_
          rintro _ _ ⟨rfl, rfl⟩
          have st2 := st'.keeps ((Keeps.refl K').alloc (.cells true false 1 [.int .i64 y.2] 3))
          cases hb : inB L.s.length y.2 with
          | false =>
            have e : [y.2].all (inB (L.s.length : Nat)) = false := by simp [hb]
            simp (disch := first | assumption | omega | (simp only [LN] <;> omega) | (simp (disch := first | assumption | omega | (simp only [LN] <;> omega)) only [row_alloc, row_set]; assumption)) only [W_block, P3, ↓reduceIte, reduceAdd, reduceEqDiff, reduceCtorEq, initFr, reduceLT, clsA, reduceLeDiff, reduceMul, reduceSub, reduceIte, e, hw]
            refine hn _ _ _ ⟨false, i + 1, _, _, _, rfl, ?_, st2.no, by omega, rfl⟩ (by omega)
            rw [ha, hb]; simp
          | true =>
            have e : [y.2].all (inB (L.s.length : Nat)) = true := by simp [hb]
            simp (disch := first | assumption | omega | (simp only [LN] <;> omega) | (simp (disch := first | assumption | omega | (simp only [LN] <;> omega)) only [row_alloc, row_set]; assumption)) only [W_block, P3, ↓reduceIte, reduceAdd, reduceEqDiff, reduceCtorEq, initFr, reduceLT, clsA, reduceLeDiff, reduceMul, reduceSub, reduceIte, e, hw]
            refine hn _ _ _ ⟨true, i + 1, _, _, _, rfl, ?_, st2, by omega, rfl⟩ (by omega)
            rw [hs, ha, b4, ← hok, hr, hc, hb]; rfl
  · have h3 : ¬ (i : Int) < ((L.g.length : Nat) : Int) := by omega
    simp (disch := first | assumption | omega | (simp only [LN] <;> omega) | (simp (disch := first | assumption | omega | (simp only [LN] <;> omega)) only [row_alloc, row_set]; assumption)) only [W_block, P3, ↓reduceIte, reduceAdd, reduceEqDiff, reduceCtorEq, initFr, reduceLT, clsA, reduceLeDiff, reduceMul, reduceSub, reduceIte, mF, List.cons_append, List.nil_append, lp]
    refine hx 4 _ _ ?_
    have e : L.g.take i = L.g := List.take_of_length_le (by omega)
    simp only [nm3, al3, e] at hok hst
    exact hk _ _ ⟨ok, _, _, _, _, _, _, _, _, _, _, _, _, _, _, _, _, _, _, _, _, _, _, _, _, _, rfl, hok, hst⟩
end Go.AM.Fd

set_option linter.unusedSimpArgs false
set_option linter.unusedVariables false
namespace Go.AM.Fd
open Nat (reduceAdd reduceEqDiff reduceLT reduceLeDiff reduceMul reduceSub)
open Go.Proofs Go.AM.F
def M4 (A : Value) (H : AHeap) (u : V4) (L : Ly) (fr : List Value) (K : AHeap) : Prop :=
  ∃ ok x9 x10 x11 x12 x13 x14 x15 x16 x17 x18 x19 x20 x21 x22 x23 x24 x25 x26 x27 x28 x29 x30 x31 x32 x33, fr = mF A H.n L ok ++ [x9, x10, x11, x12, x13, x14, x15, x16, x17, x18, x19, x20, x21, x22, x23, x24, x25, x26, x27, x28, x29, x30, x31, x32, x33] ∧ ok = (okN (namesL L) && (L.p.all (fun x => inB L.s.length x.2) && L.g.all (fun x => inB L.s.length x.2) && L.r.all (roB L))) ∧ Keeps H K
set_option maxHeartbeats 4000000 in
theorem may4 {H : AHeap} {u : V4} {xs : List RV} {L : Ly} {Q : AQ} {A : Value} {fr : List Value} {K : AHeap} (h : LyR H u xs L) (hf : LyFit L) (hm : M3 A H u L fr K)
    (hk : ∀ fr K, M4 A H u L fr K → Q .normal fr K) : W Go.Proofs.Try.prog 0 (cpre 1 (cpost 8 f77.body)) Q fr K := by
  obtain ⟨ok, x9, x10, x11, x12, x13, x14, x15, x16, x17, x18, x19, x20, x21, x22, x23, x24, x25, x26, x27, x28, x29, x30, x31, x32, x33, rfl, hok, hst⟩ := hm
  have lp := h.r.len
  have el := h.rlen
  rw [el] at lp
  have ip := Sl.is h.r
  have gl := hst.l
  simp only [V4.l] at gl
  simp (disch := first | assumption | omega | (simp only [LN] <;> omega) | (simp (disch := first | assumption | omega | (simp only [LN] <;> omega)) only [row_alloc, row_set]; assumption)) only [ f77, cpre, cpost, mF, List.cons_append, List.nil_append, P3, ↓reduceIte, reduceAdd, reduceEqDiff, reduceCtorEq, initFr, reduceLT, clsA, reduceLeDiff, reduceMul, reduceSub, reduceIte, gl, lp]
  rw [W_block]
  refine W_loop2 (fun k fr K => ∃ ok i x15 x16 xc, fr = mF A H.n L ok ++ [x9, x10, x11, x12, x13, x14, x15, x16, x17, x18, x19, x20, x21, x22, x23, x24, x25, x26, x27, x28, x29, u.r, .int .i64 ((L.r.length : Nat) : Int), .int .i64 ((i : Nat) : Int), xc] ∧
      ok = (okN (nm4 L i) && al4 L i) ∧ MSt H K u ok (nm4 L i) ∧ i ≤ L.r.length ∧ k = L.r.length - i) L.r.length
    ⟨ok, 0, _, _, _, rfl, by simp [nm4, al4, hok], by simpa [nm4] using hst, by omega, rfl⟩ ?_
  clear hst hok gl
  rintro Q' k fr K ⟨ok, i, x15, x16, xc, rfl, hok, hst, hi, rfl⟩ hn hx hret
  by_cases hlt : i < L.r.length
  · have hlt' : i < xs.length := by omega
    obtain ⟨na, ra⟩ := RL.at_ (h.r.keeps hst.k) hlt'
    obtain ⟨xok, xr⟩ := h.rat hlt
    have hbl := Sl.bn_le (h.r.keeps hst.k) (by intro e; simp at e; rw [e] at hlt'; simp at hlt') (by omega)
    have h1 : (0 : Int) ≤ (i : Int) := by omega
    have h2 : (i : Int) < ((lenS u.r : Nat) : Int) := by omega
    have h3 : (i : Int) < ((L.r.length : Nat) : Int) := by omega
    have hw : IntKind.i64.wrap ((i : Int) + 1) = ((i + 1 : Nat) : Int) := by rw [wrap_i64 (by omega) (by have := hf.r.1; omega)]; simp
    have hlen := hf.r.2 _ (getD_mem (d := rv0.r) hlt)
    have ts := take_snoc rv0.r hlt
    rw [← xr] at ts hlen
    have hs : okN (nm4 L (i + 1)) = (okN (nm4 L i) && (rightB (xs.getD i rv0).r.n && !(nm4 L i).contains (xs.getD i rv0).r.n)) := by
      rw [← okN_snoc]; simp only [nm4, ts, List.map_append, List.map_cons, List.map_nil, List.append_assoc]
    have hn1 : nm4 L i ++ [(xs.getD i rv0).r.n] = nm4 L (i + 1) := by simp only [nm4, ts, List.map_append, List.map_cons, List.map_nil, List.append_assoc]
    have ha : al4 L (i + 1) = (al4 L i && roB L (xs.getD i rv0).r) := by
      simp only [al4, ts, List.all_append, List.all_cons, List.all_nil, Bool.and_true, Bool.and_assoc]
    clear ts xr
    generalize xs.getD i rv0 = y at *
    have hk1 := hst.k.n
    simp only [RV.row] at ra
    have iP := Sl.is xok.p
    have iQ := Sl.is xok.q
    have iO := Sl.is xok.o
    have iF := Sl.is xok.f
    have lP := xok.p.len
    have lO := xok.o.len
    have o1 : one1 (Value.int .i64 y.r.g) = True := by simp [one1, one_int]
    have o2 : one1 (Value.string ⟨y.r.n.toArray⟩) = True := by simp [one1, one_str]
    have o3 := one_isS iP
    have o4 := one_isS iQ
    have o5 := one_isS iO
    have o6 := one_isS iF
    obtain ⟨row, hrow⟩ : ∃ row, row = [.string ⟨y.r.n.toArray⟩, .int .i64 y.r.g, y.vp, y.vq, y.vo, y.vf] := ⟨_, rfl⟩
    have st1 := hst.keeps ((Keeps.refl K).alloc (.cells true false 6 row 50))
    have gv := AHeap.get_alloc_new K (.cells true false 6 row 50)
    subst hrow
    have fin : ∀ {X : AHeap} {x15 x16 xc : Value}, MSt H X u false (nm4 L (i + 1)) → (okN (nm4 L (i + 1)) && al4 L (i + 1)) = false → Q' .normal (mF A H.n L false ++ [x9, x10, x11, x12, x13, x14, x15, x16, x17, x18, x19, x20, x21, x22, x23, x24, x25, x26, x27, x28, x29, u.r, .int .i64 ((L.r.length : Nat) : Int), .int .i64 ((i + 1 : Nat) : Int), xc]) X :=
      fun hX he => hn _ _ _ ⟨false, i + 1, _, _, _, rfl, he.symm, hX, by omega, rfl⟩ (by omega)
    simp only [mF, List.cons_append, List.nil_append] at fin
    cases ok with
    | false =>
      simp (disch := first | assumption | omega | (simp only [LN] <;> omega) | (simp (disch := first | assumption | omega | (simp only [LN] <;> omega)) only [row_alloc, row_set]; assumption)) only [W_block, P3, ↓reduceIte, reduceAdd, reduceEqDiff, reduceCtorEq, initFr, reduceLT, clsA, reduceLeDiff, reduceMul, reduceSub, reduceIte, mF, List.cons_append, List.nil_append, lp, ra, na, a_loadnvf, hw, o1, o2, o3, o4, o5, o6]
      refine fin st1.no ?_
      rw [hs, ha, b4, ← hok]; rfl
    | true =>
      simp (disch := first | assumption | omega | (simp only [LN] <;> omega) | (simp (disch := first | assumption | omega | (simp only [LN] <;> omega)) only [row_alloc, row_set]; assumption)) only [W_block, P3, ↓reduceIte, reduceAdd, reduceEqDiff, reduceCtorEq, initFr, reduceLT, clsA, reduceLeDiff, reduceMul, reduceSub, reduceIte, mF, List.cons_append, List.nil_append, lp, ra, na, a_loadnvf, hw, o1, o2, o3, o4, o5, o6]
      obtain ⟨K1, hK1⟩ : ∃ X, X = K.alloc (.cells true false 6 [.string ⟨y.r.n.toArray⟩, .int .i64 y.r.g, y.vp, y.vq, y.vo, y.vf] 50) := ⟨_, rfl⟩
      have n1 : K1.n = K.n + 1 := by rw [hK1]; rfl
      rw [← hK1] at st1 gv ⊢
      refine callK (t99 _ _ hlen.1) ?_
      rintro _ X ⟨rfl, hX⟩
      rw [hX]
      cases hr : rightB y.r.n with
      | false =>
        simp (disch := first | assumption | omega | (simp only [LN] <;> omega) | (simp (disch := first | assumption | omega | (simp only [LN] <;> omega)) only [row_alloc, row_set]; assumption)) only [W_block, P3, ↓reduceIte, reduceAdd, reduceEqDiff, reduceCtorEq, initFr, reduceLT, clsA, reduceLeDiff, reduceMul, reduceSub, reduceIte, hw]
        refine fin st1.no ?_
        rw [hs, ha, hr]; simp
      | true =>
      simp (disch := first | assumption | omega | (simp only [LN] <;> omega) | (simp (disch := first | assumption | omega | (simp only [LN] <;> omega)) only [row_alloc, row_set]; assumption)) only [W_block, P3, ↓reduceIte, reduceAdd, reduceEqDiff, reduceCtorEq, initFr, reduceLT, clsA, reduceLeDiff, reduceMul, reduceSub, reduceIte, gv, hw]
      refine callK (R := fun w K' => w = .bool (!(nm4 L i).contains y.r.n) ∧ MSt H K' u (!(nm4 L i).contains y.r.n) (nm4 L i ++ [y.r.n]) ∧ K1.n ≤ K'.n ∧ K'.get K.n = K1.get K.n) (by
        obtain ⟨w, K', a, b, c, d, e⟩ := st1.fresh y.r.n (x := .iface 161 (.int .i64 (i : Int))) rfl
        exact ⟨w, K', a, b, c, d, e _ (by have := AHeap.get_lt hst.b; omega) (by omega)⟩) ?_
      rintro _ K' ⟨rfl, st', n2, g2⟩
      rw [gv] at g2
      rw [hn1] at st'
      cases hc : (nm4 L i).contains y.r.n with
      | true =>
        rw [hc] at st'
        simp (disch := first | assumption | omega | (simp only [LN] <;> omega) | (simp (disch := first | assumption | omega | (simp only [LN] <;> omega)) only [row_alloc, row_set]; assumption)) only [W_block, P3, ↓reduceIte, reduceAdd, reduceEqDiff, reduceCtorEq, initFr, reduceLT, clsA, reduceLeDiff, reduceMul, reduceSub, reduceIte, hw]
        refine fin st' ?_
        rw [hs, ha, hr, hc]; simp
      | false =>
      rw [hc] at st'
      simp (disch := first | assumption | omega | (simp only [LN] <;> omega) | (simp (disch := first | assumption | omega | (simp only [LN] <;> omega)) only [row_alloc, row_set]; assumption)) only [W_block, P3, ↓reduceIte, reduceAdd, reduceEqDiff, reduceCtorEq, initFr, reduceLT, clsA, reduceLeDiff, reduceMul, reduceSub, reduceIte, g2, hw]
      have hil : IL (K'.alloc (.cells true false 1 [.int .i64 y.r.g] 3)) (slc K'.n 0 1 1) [y.r.g] :=
        ⟨⟨_, _, rfl⟩, by simp [iRow], by rw [elems_new rfl rfl]; rfl⟩
      refine callK (t101 _ hil (by simp)) ?_
      have st2 := st'.keeps ((Keeps.refl K').alloc (.cells true false 1 [.int .i64 y.r.g] 3))
      have g3 := ((Keeps.refl K').alloc (.cells true false 1 [.int .i64 y.r.g] 3)).at_ g2
      obtain ⟨K2, hK2⟩ : ∃ X, X = K'.alloc (.cells true false 1 [.int .i64 y.r.g] 3) := ⟨_, rfl⟩
      rw [← hK2] at st2 g3 ⊢
      rintro _ X ⟨rfl, hX⟩
      rw [hX]
      have xk := xok.keeps st2.k
      cases hb : inB L.g.length y.r.g with
      | false =>
        have e : [y.r.g].all (inB (L.g.length : Nat)) = false := by simp [hb]
        simp (disch := first | assumption | omega | (simp only [LN] <;> omega) | (simp (disch := first | assumption | omega | (simp only [LN] <;> omega)) only [row_alloc, row_set]; assumption)) only [W_block, P3, ↓reduceIte, reduceAdd, reduceEqDiff, reduceCtorEq, initFr, reduceLT, clsA, reduceLeDiff, reduceMul, reduceSub, reduceIte, e, hw]
        refine fin st2.no ?_
        rw [ha]; simp [roB, hb]
      | true =>
      have e : [y.r.g].all (inB (L.g.length : Nat)) = true := by simp [hb]
      by_cases hp : y.r.path.length ≤ 16
      rotate_left
      · have hp' : ¬ ((y.r.path.length : Nat) : Int) ≤ (16 : Int) := by omega
        simp (disch := first | assumption | omega | (simp only [LN] <;> omega) | (simp (disch := first | assumption | omega | (simp only [LN] <;> omega)) only [row_alloc, row_set]; assumption)) only [W_block, P3, ↓reduceIte, reduceAdd, reduceEqDiff, reduceCtorEq, initFr, reduceLT, clsA, reduceLeDiff, reduceMul, reduceSub, reduceIte, e, g3, lP, hw]
        refine fin st2.no ?_
        rw [ha]; simp [roB, hp]
      have hp' : ((y.r.path.length : Nat) : Int) ≤ (16 : Int) := by omega
      by_cases ho : y.r.ov.length ≤ 16
      rotate_left
      · have ho' : ¬ ((y.r.ov.length : Nat) : Int) ≤ (16 : Int) := by omega
        simp (disch := first | assumption | omega | (simp only [LN] <;> omega) | (simp (disch := first | assumption | omega | (simp only [LN] <;> omega)) only [row_alloc, row_set]; assumption)) only [W_block, P3, ↓reduceIte, reduceAdd, reduceEqDiff, reduceCtorEq, initFr, reduceLT, clsA, reduceLeDiff, reduceMul, reduceSub, reduceIte, e, g3, lP, lO, hw]
        refine fin st2.no ?_
        rw [ha]; simp [roB, ho]
      have ho' : ((y.r.ov.length : Nat) : Int) ≤ (16 : Int) := by omega
      simp (disch := first | assumption | omega | (simp only [LN] <;> omega) | (simp (disch := first | assumption | omega | (simp only [LN] <;> omega)) only [row_alloc, row_set]; assumption)) only [W_block, P3, ↓reduceIte, reduceAdd, reduceEqDiff, reduceCtorEq, initFr, reduceLT, clsA, reduceLeDiff, reduceMul, reduceSub, reduceIte, e, g3, lP, lO, hw]
      refine callK (t101 _ xk.p (by omega)) ?_
      rintro _ X ⟨rfl, hX⟩
      rw [hX]
      cases hbp : y.r.path.all (inB (L.s.length : Nat)) with
      | false =>
        simp (disch := first | assumption | omega | (simp only [LN] <;> omega) | (simp (disch := first | assumption | omega | (simp only [LN] <;> omega)) only [row_alloc, row_set]; assumption)) only [W_block, P3, ↓reduceIte, reduceAdd, reduceEqDiff, reduceCtorEq, initFr, reduceLT, clsA, reduceLeDiff, reduceMul, reduceSub, reduceIte, hw]
        refine fin st2.no ?_
        rw [ha]; simp only [roB, hbp]; simp
      | true =>
      simp (disch := first | assumption | omega | (simp only [LN] <;> omega) | (simp (disch := first | assumption | omega | (simp only [LN] <;> omega)) only [row_alloc, row_set]; assumption)) only [W_block, P3, ↓reduceIte, reduceAdd, reduceEqDiff, reduceCtorEq, initFr, reduceLT, clsA, reduceLeDiff, reduceMul, reduceSub, reduceIte, g3, hw]
      refine callK (t101 _ xk.o (by omega)) ?_
      rintro _ X ⟨rfl, hX⟩
      rw [hX]
      cases hbo : y.r.ov.all (inB (L.s.length : Nat)) with
      | false =>
        simp (disch := first | assumption | omega | (simp only [LN] <;> omega) | (simp (disch := first | assumption | omega | (simp only [LN] <;> omega)) only [row_alloc, row_set]; assumption)) only [W_block, P3, ↓reduceIte, reduceAdd, reduceEqDiff, reduceCtorEq, initFr, reduceLT, clsA, reduceLeDiff, reduceMul, reduceSub, reduceIte, hw]
        refine fin st2.no ?_
        rw [ha]; simp only [roB, hbo]; simp
      | true =>
      simp (disch := first | assumption | omega | (simp only [LN] <;> omega) | (simp (disch := first | assumption | omega | (simp only [LN] <;> omega)) only [row_alloc, row_set]; assumption)) only [W_block, P3, ↓reduceIte, reduceAdd, reduceEqDiff, reduceCtorEq, initFr, reduceLT, clsA, reduceLeDiff, reduceMul, reduceSub, reduceIte, g3, hw]
      refine callK (t102 _ xk.q hlen.2.2.1) ?_
      rintro _ X ⟨rfl, hX⟩
      rw [hX]
      cases hbq : (decide (y.r.pts.length ≤ 16) && y.r.pts.all fun x => inB (L.p.length : Nat) x.1) with
      | false =>
        simp (disch := first | assumption | omega | (simp only [LN] <;> omega) | (simp (disch := first | assumption | omega | (simp only [LN] <;> omega)) only [row_alloc, row_set]; assumption)) only [W_block, P3, ↓reduceIte, reduceAdd, reduceEqDiff, reduceCtorEq, initFr, reduceLT, clsA, reduceLeDiff, reduceMul, reduceSub, reduceIte, hw]
        refine fin st2.no ?_
        rw [ha]; simp only [roB, needB, hbq]; simp
      | true =>
      simp (disch := first | assumption | omega | (simp only [LN] <;> omega) | (simp (disch := first | assumption | omega | (simp only [LN] <;> omega)) only [row_alloc, row_set]; assumption)) only [W_block, P3, ↓reduceIte, reduceAdd, reduceEqDiff, reduceCtorEq, initFr, reduceLT, clsA, reduceLeDiff, reduceMul, reduceSub, reduceIte, g3, hw]
      refine callK (t102 _ xk.f hlen.2.2.2.2) ?_
      rintro _ X ⟨rfl, hX⟩
      rw [hX]
      cases hbf : (decide (y.r.fl.length ≤ 16) && y.r.fl.all fun x => inB (L.p.length : Nat) x.1) with
      | false =>
        simp (disch := first | assumption | omega | (simp only [LN] <;> omega) | (simp (disch := first | assumption | omega | (simp only [LN] <;> omega)) only [row_alloc, row_set]; assumption)) only [W_block, P3, ↓reduceIte, reduceAdd, reduceEqDiff, reduceCtorEq, initFr, reduceLT, clsA, reduceLeDiff, reduceMul, reduceSub, reduceIte, hw]
        refine fin st2.no ?_
        rw [ha]; simp only [roB, needB, hbf]; simp
      | true =>
        simp (disch := first | assumption | omega | (simp only [LN] <;> omega) | (simp (disch := first | assumption | omega | (simp only [LN] <;> omega)) only [row_alloc, row_set]; assumption)) only [W_block, P3, ↓reduceIte, reduceAdd, reduceEqDiff, reduceCtorEq, initFr, reduceLT, clsA, reduceLeDiff, reduceMul, reduceSub, reduceIte, hw]
        refine hn _ _ _ ⟨true, i + 1, _, _, _, rfl, ?_, st2, by omega, rfl⟩ (by omega)
        have er : roB L y.r = true := by simp only [roB, needB, hb, hp, ho, hbp, hbo, hbq, hbf]; rfl
        rw [hs, ha, b4, ← hok, hr, hc, er]; rfl
  · have h3 : ¬ (i : Int) < ((L.r.length : Nat) : Int) := by omega
    simp (disch := first | assumption | omega | (simp only [LN] <;> omega) | (simp (disch := first | assumption | omega | (simp only [LN] <;> omega)) only [row_alloc, row_set]; assumption)) only [W_block, P3, ↓reduceIte, reduceAdd, reduceEqDiff, reduceCtorEq, initFr, reduceLT, clsA, reduceLeDiff, reduceMul, reduceSub, reduceIte, mF, List.cons_append, List.nil_append, lp]
    refine hx 6 _ _ ?_
    have e : L.r.take i = L.r := List.take_of_length_le (by omega)
    simp only [nm4, al4, e] at hok hst
    exact hk _ _ ⟨ok, _, _, _, _, _, _, _, _, _, _, _, _, _, _, _, _, _, _, _, _, _, _, _, _, _, rfl, hok, hst.k⟩
set_option maxHeartbeats 1000000 in
theorem t77 {H : AHeap} {u : V4} {xs : List RV} {L : Ly} (h : LyR H u xs L) (hf : LyFit L) : ∃ w H', ARun Go.Proofs.Try.prog 0 77 [.agg u.l.toArray] H w H' ∧ w = .bool (mayB L) ∧ H' = H := by
  suffices h' : ∃ w H', ARun Go.Proofs.Try.prog 0 77 [.agg u.l.toArray] H w H' ∧ w = .bool (mayB L) ∧ Keeps H H' by
    obtain ⟨_, _, a, rfl, k⟩ := h'
    exact ⟨_, _, a.gc0 k (.inr (.bool _)), rfl, rfl⟩
  refine walk2 f77_ok f77_n ?_
  intro Q hq1 hq2
  cases hfu : fullB L with
  | true =>
    have ls := h.s.len
    have lp := h.p.len
    have lg := h.g.len
    have lr := h.r.len
    have er := h.rlen
    have is := Sl.is h.s
    have ip := Sl.is h.p
    have ig := Sl.is h.g
    have ir := Sl.is h.r
    have os := Sl.one h.s
    have op := Sl.one h.p
    have og := Sl.one h.g
    have or := Sl.one h.r
    have hm : mayB L = false := by simp [mayB, hfu]
    rw [hm] at hq2
    simp only [fullB, Bool.or_eq_true, decide_eq_true_eq] at hfu
    obtain ⟨us, up, ug, ur⟩ := u
    simp only [V4.l] at *
    have k1 := (Keeps.refl H).alloc (.cells true false 4 [us, up, ug, ur] 27)
    by_cases c1 : (64 : Int) < ((L.s.length : Nat) : Int)
    · simp (disch := first | assumption | omega | (simp only [LN] <;> omega) | (simp (disch := first | assumption | omega | (simp only [LN] <;> omega)) only [row_alloc, row_set]; assumption)) only [f77, W_block, P3, ↓reduceIte, reduceAdd, reduceEqDiff, reduceCtorEq, initFr, reduceLT, clsA, reduceLeDiff, reduceMul, reduceSub, reduceIte, ls, lp, lg, lr, er, os, op, og, or]
      exact hq2 _ _ ⟨_, rfl, rfl, k1⟩
    by_cases c2 : (32 : Int) < ((L.p.length : Nat) : Int)
    · simp (disch := first | assumption | omega | (simp only [LN] <;> omega) | (simp (disch := first | assumption | omega | (simp only [LN] <;> omega)) only [row_alloc, row_set]; assumption)) only [f77, W_block, P3, ↓reduceIte, reduceAdd, reduceEqDiff, reduceCtorEq, initFr, reduceLT, clsA, reduceLeDiff, reduceMul, reduceSub, reduceIte, ls, lp, lg, lr, er, os, op, og, or]
      exact hq2 _ _ ⟨_, rfl, rfl, k1⟩
    by_cases c3 : (32 : Int) < ((L.g.length : Nat) : Int)
    · simp (disch := first | assumption | omega | (simp only [LN] <;> omega) | (simp (disch := first | assumption | omega | (simp only [LN] <;> omega)) only [row_alloc, row_set]; assumption)) only [f77, W_block, P3, ↓reduceIte, reduceAdd, reduceEqDiff, reduceCtorEq, initFr, reduceLT, clsA, reduceLeDiff, reduceMul, reduceSub, reduceIte, ls, lp, lg, lr, er, os, op, og, or]
      exact hq2 _ _ ⟨_, rfl, rfl, k1⟩
    have c4 : (64 : Int) < ((L.r.length : Nat) : Int) := by omega
    simp (disch := first | assumption | omega | (simp only [LN] <;> omega) | (simp (disch := first | assumption | omega | (simp only [LN] <;> omega)) only [row_alloc, row_set]; assumption)) only [f77, W_block, P3, ↓reduceIte, reduceAdd, reduceEqDiff, reduceCtorEq, initFr, reduceLT, clsA, reduceLeDiff, reduceMul, reduceSub, reduceIte, ls, lp, lg, lr, er, os, op, og, or]
    exact hq2 _ _ ⟨_, rfl, rfl, k1⟩
  | false =>
    refine W_part 6 (M1 (.agg u.l.toArray) H u L) (by kernel_rfl) (fun Q' a _ _ => may1 h hf hfu a) (fun fr K m => ?_)
    refine W_part 1 (M2 (.agg u.l.toArray) H u L) (by kernel_rfl) (fun Q' a _ _ => may2 h hf m a) (fun fr K m => ?_)
    refine W_part 1 (M3 (.agg u.l.toArray) H u L) (by kernel_rfl) (fun Q' a _ _ => may3 h hf m a) (fun fr K m => ?_)
    refine W_part 1 (M4 (.agg u.l.toArray) H u L) (by kernel_rfl) (fun Q' a _ _ => may4 h hf m a) (fun fr K m => ?_)
    obtain ⟨ok, x9, x10, x11, x12, x13, x14, x15, x16, x17, x18, x19, x20, x21, x22, x23, x24, x25, x26, x27, x28, x29, x30, x31, x32, x33, rfl, hok, hst⟩ := m
    simp (disch := first | assumption | omega | (simp only [LN] <;> omega) | (simp (disch := first | assumption | omega | (simp only [LN] <;> omega)) only [row_alloc, row_set]; assumption)) only [f77, cpost, mF, List.cons_append, List.nil_append, W_block, P3, ↓reduceIte, reduceAdd, reduceEqDiff, reduceCtorEq, initFr, reduceLT, clsA, reduceLeDiff, reduceMul, reduceSub, reduceIte]
    refine hq2 _ _ ⟨_, rfl, ?_, hst⟩
    rw [mayB, hfu, ← hok]; rfl
end Go.AM.Fd

set_option linter.unusedSimpArgs false
set_option linter.unusedVariables false
namespace Go.AM
structure OW (e esz : Nat) (H K : AHeap) (v : Value) (rows : List (List Value)) : Prop where
  ap : AP K e esz v rows.length rows.flatten
  r : ∀ r ∈ rows, r.length = esz
  k : Keeps H K
  f : Fresh H.n v
section
variable {e esz : Nat} {H K K' : AHeap} {v v' : Value} {rows rows2 : List (List Value)}
theorem OW.sl (h : OW e esz H K v rows) : Sl K esz v rows := h.ap.sl h.r rfl
theorem OW.keeps (h : OW e esz H K v rows) (k : Keeps K K') : OW e esz H K' v rows := ⟨h.ap.keeps k, h.r, h.k.trans k, h.f⟩
theorem OW.base {H0 : AHeap} (h : OW e esz H K v rows) (k : Keeps H0 H) : OW e esz H0 K v rows := ⟨h.ap, h.r, k.trans h.k, fun b hb => Nat.le_trans k.n (h.f b hb)⟩
theorem OW.nil (e esz : Nat) (k : Keeps H K) : OW e esz H K (.slice none 0 0) [] := ⟨.inl ⟨rfl, rfl, rfl⟩, by simp, k, fun b hb => by cases hb⟩
theorem OW.is (h : OW e esz H K v rows) : isS v = true := by obtain ⟨a, rfl⟩ := h.ap.shape; rfl
theorem OW.one (h : OW e esz H K v rows) : v.oneCell' = true := by obtain ⟨a, rfl⟩ := h.ap.shape; rfl
theorem OW.len (h : OW e esz H K v rows) : lenS v = rows.length := by obtain ⟨a, rfl⟩ := h.ap.shape; rfl
theorem OW.grow (h : OW e esz H K v rows) (a : AP K' e esz v' (rows.length + rows2.length) (rows.flatten ++ rows2.flatten)) (hr : ∀ r ∈ rows2, r.length = esz) (c : Chg (blkL v) K K') (hb : blk v' = blk v ∨ blk v' = some K.n) : OW e esz H K' v' (rows ++ rows2) := by
  refine ⟨by rw [List.length_append, List.flatten_append]; exact a, fun r hm => ?_, h.k.chg_trans c (fun x hx => h.f x (mem_blkL.1 hx)), fun b hb' => ?_⟩
  · rcases List.mem_append.1 hm with hm | hm
    · exact h.r r hm
    · exact hr r hm
  · rcases hb with e1 | e1
    · exact h.f b (by rw [← e1]; exact hb')
    · rw [e1] at hb'; cases hb'; exact h.k.n
theorem Sl.one1 {row : List Value} {b : Nat} {own room : Bool} (hb : b = K.n) (hl : row.length = esz) : Sl (K.alloc (.cells own room esz row e)) esz (slc b 0 1 1) [row] :=
  ⟨⟨_, _, rfl⟩, by simp [hl], by rw [elems_new hb (by simpa using hl)]; simp⟩
end
section
variable {P : Program} {ng : Nat} {KF : List Value → AHeap → Prop} {fr tm : List Value} {tr : List TE} {e esz b : Nat} {H K : AHeap} {s x : Value} {rows rows2 : List (List Value)}
theorem OW.appR {d : D} {r : List AOper} (h : OW e esz H K s rows) (hx : Sl K esz x rows2) (hs : (rows.length + rows2.length) * b ≤ 140737488355328 ∧ rows.length + rows2.length ≤ 140737488355328)
    (hk : ∀ v' K', OW e esz H K' v' (rows ++ rows2) → Chg (blkL s) K K' → RW P ng r (d.frame v' fr) (d.temps v' tm) K' KF) : goR P ng (asem (.app e esz b s x) K) d r fr tm KF :=
  appG h.ap hx.sh hx.el (flat_len hx.row) hs (fun v' K' a c hb => hk v' K' (h.grow a hx.row c hb) c)
theorem OW.appD {d : D} {r : List (AOper × List Nat)} (h : OW e esz H K s rows) (hx : Sl K esz x rows2) (hs : (rows.length + rows2.length) * b ≤ 140737488355328 ∧ rows.length + rows2.length ≤ 140737488355328)
    (hk : ∀ v' K', OW e esz H K' v' (rows ++ rows2) → Chg (blkL s) K K' → RD P ng r (d.frame v' fr) (d.temps v' tm) K' (tr ++ [⟨3, [], K, K'⟩]) KF) : goD P ng (.app e esz b s x) (asem (.app e esz b s x) K) d [] r fr tm K tr KF :=
  appGD h.ap hx.sh hx.el (flat_len hx.row) hs (fun v' K' a c hb => hk v' K' (h.grow a hx.row c hb) c)
end
end Go.AM

set_option linter.unusedSimpArgs false
set_option linter.unusedVariables false
namespace Go.AM.Fd
open Go.Proofs Go.AM.F
def vB (H : AHeap) (u : V4) : AHeap := H.alloc (.cells true false 4 u.l 27)
theorem vB_k (H : AHeap) (u : V4) : Keeps H (vB H u) := (Keeps.refl H).alloc _
theorem vB_g (H : AHeap) (u : V4) : (vB H u).get H.n = some (.cells true false 4 u.l 27) := AHeap.get_alloc_new H _
end Go.AM.Fd

set_option linter.unusedSimpArgs false
set_option linter.unusedVariables false
namespace Go.AM.Fd
open Go.Proofs Go.AM.F
theorem nodup_take {α : Type} [BEq α] [LawfulBEq α] {l : List α} {i : Nat} {d : α} (h : i < l.length) (hc : (l.take i).contains (l.getD i d) = true) : ¬ l.Nodup := by
  intro hn
  have e : l = l.take i ++ l.drop i := (List.take_append_drop i l).symm
  rw [e] at hn
  have h2 := (List.nodup_append.1 hn).2.2
  have h3 : l.getD i d ∈ l.drop i := by
    rw [List.mem_iff_getElem?]
    exact ⟨0, by simp [List.getD, List.getElem?_eq_getElem h]⟩
  exact h2 _ (by simpa using hc) _ h3 rfl
end Go.AM.Fd

set_option linter.unusedSimpArgs false
set_option linter.unusedVariables false
namespace Go.AM.Fd
open Nat (reduceAdd reduceEqDiff reduceLT reduceLeDiff reduceMul reduceSub)
open Go.Proofs Go.AM.F
structure LyIn (T : Nat) (L : Ly) : Prop where
  s : L.s.length ≤ T ∧ ∀ x ∈ L.s, x.length ≤ T
  p : L.p.length ≤ T ∧ ∀ x ∈ L.p, x.1.length ≤ T
  g : L.g.length ≤ T ∧ ∀ x ∈ L.g, x.1.length ≤ T
  r : L.r.length ≤ T ∧ ∀ x ∈ L.r, x.n.length ≤ T ∧ x.path.length ≤ T ∧ x.pts.length ≤ T ∧ x.ov.length ≤ T ∧ x.fl.length ≤ T
def WG (A : Value) (H : AHeap) (u : V4) (top : Nat) (fr : List Value) (K : AHeap) : Prop :=
  ∃ (n : Int) (x5 x6 x7 x8 x9 x10 x11 x12 x13 x14 : Value), fr = [A, .int .i64 ((top : Nat) : Int), ptr H.n 0, .int .i64 0, .int .i64 n, x5, x6, x7, x8, x9, x10, x11, x12, x13, x14] ∧ Keeps (vB H u) K
set_option maxHeartbeats 1000000 in
theorem wgt1 {H : AHeap} {u : V4} {xs : List RV} {L : Ly} {Q : AQ} {A : Value} {fr : List Value} {K : AHeap} {top : Nat} (ht : top ≤ 1000000) (h : LyR H u xs L) (hf : LyIn 9223372036854775807 L) (hm : WG A H u top fr K)
    (hk : ∀ fr K, WG A H u top fr K → Q .normal fr K) : W Go.Proofs.Try.prog 0 (cpre 1 (cpost 2 f20.body)) Q fr K := by
  obtain ⟨n0, x5, x6, x7, x8, x9, x10, x11, x12, x13, x14, rfl, hkK⟩ := hm
  have lp := h.s.len
  have ip := Sl.is h.s
  simp (disch := first | assumption | omega | (simp only [LN] <;> omega) | (simp (disch := first | assumption | omega | (simp only [LN] <;> omega)) only [row_alloc, row_set]; assumption)) only [ f20, cpre, cpost, P3, ↓reduceIte, reduceAdd, reduceEqDiff, reduceCtorEq, initFr, reduceLT, clsA, reduceLeDiff, reduceMul, reduceSub, reduceIte]
  rw [W_block]
  refine W_loop2 (fun k fr K => ∃ i n xc, fr = [A, .int .i64 ((top : Nat) : Int), ptr H.n 0, .int .i64 0, .int .i64 n, .int .i64 ((i : Nat) : Int), x6, x7, x8, x9, xc, x11, x12, x13, x14] ∧ Keeps (vB H u) K ∧ i ≤ L.s.length ∧ k = L.s.length - i) L.s.length
    ⟨0, n0, _, rfl, hkK, by omega, rfl⟩ ?_
  clear hkK
  rintro Q' k fr K ⟨i, n, xc, rfl, hkK, hi, rfl⟩ hn hx hret
  have gl := hkK.at_ (vB_g H u)
  simp only [V4.l] at gl
  by_cases hlt : i < L.s.length
  · have h3 : (i : Int) < ((L.s.length : Nat) : Int) := by omega
    by_cases htn : n ≤ ((top : Nat) : Int)
    · obtain ⟨na, ra⟩ := (h.s.keeps ((vB_k H u).trans hkK)).at_ hlt
      have h1 : (0 : Int) ≤ (i : Int) := by omega
      have h2 : (i : Int) < ((lenS u.s : Nat) : Int) := by omega
      have h4 := htn
      have hlf := hf.s.1
      have hw : IntKind.i64.wrap ((i : Int) + 1) = ((i + 1 : Nat) : Int) := by rw [wrap_i64 (by omega) (by omega)]; simp
      unfold tRow at ra
      simp (disch := first | assumption | omega | (simp only [LN] <;> omega) | (simp (disch := first | assumption | omega | (simp only [LN] <;> omega)) only [row_alloc, row_set]; assumption)) only [W_block, P3, ↓reduceIte, reduceAdd, reduceEqDiff, reduceCtorEq, initFr, reduceLT, clsA, reduceLeDiff, reduceMul, reduceSub, reduceIte, gl, lp, ra, na, a_load1v, a_lens, hw]
      refine hn _ _ _ ⟨i + 1, _, _, rfl, hkK, by omega, rfl⟩ (by omega)
    · have h4 := htn
      simp (disch := first | assumption | omega | (simp only [LN] <;> omega) | (simp (disch := first | assumption | omega | (simp only [LN] <;> omega)) only [row_alloc, row_set]; assumption)) only [W_block, P3, ↓reduceIte, reduceAdd, reduceEqDiff, reduceCtorEq, initFr, reduceLT, clsA, reduceLeDiff, reduceMul, reduceSub, reduceIte, gl, lp]
      refine hx 0 _ _ ?_
      exact hk _ _ ⟨n, _, _, _, _, _, _, _, _, _, _, rfl, hkK⟩
  · have h3 : ¬ (i : Int) < ((L.s.length : Nat) : Int) := by omega
    simp (disch := first | assumption | omega | (simp only [LN] <;> omega) | (simp (disch := first | assumption | omega | (simp only [LN] <;> omega)) only [row_alloc, row_set]; assumption)) only [W_block, P3, ↓reduceIte, reduceAdd, reduceEqDiff, reduceCtorEq, initFr, reduceLT, clsA, reduceLeDiff, reduceMul, reduceSub, reduceIte, gl, lp]
    refine hx 0 _ _ ?_
    exact hk _ _ ⟨n, _, _, _, _, _, _, _, _, _, _, rfl, hkK⟩
set_option maxHeartbeats 1000000 in
theorem wgt2 {H : AHeap} {u : V4} {xs : List RV} {L : Ly} {Q : AQ} {A : Value} {fr : List Value} {K : AHeap} {top : Nat} (ht : top ≤ 1000000) (h : LyR H u xs L) (hf : LyIn 9223372036854775807 L) (hm : WG A H u top fr K)
    (hk : ∀ fr K, WG A H u top fr K → Q .normal fr K) : W Go.Proofs.Try.prog 0 (cpre 1 (cpost 3 f20.body)) Q fr K := by
  obtain ⟨n0, x5, x6, x7, x8, x9, x10, x11, x12, x13, x14, rfl, hkK⟩ := hm
  have lp := h.p.len
  have ip := Sl.is h.p
  simp (disch := first | assumption | omega | (simp only [LN] <;> omega) | (simp (disch := first | assumption | omega | (simp only [LN] <;> omega)) only [row_alloc, row_set]; assumption)) only [ f20, cpre, cpost, P3, ↓reduceIte, reduceAdd, reduceEqDiff, reduceCtorEq, initFr, reduceLT, clsA, reduceLeDiff, reduceMul, reduceSub, reduceIte]
  rw [W_block]
  refine W_loop2 (fun k fr K => ∃ i n xc, fr = [A, .int .i64 ((top : Nat) : Int), ptr H.n 0, .int .i64 0, .int .i64 n, x5, .int .i64 ((i : Nat) : Int), x7, x8, x9, x10, xc, x12, x13, x14] ∧ Keeps (vB H u) K ∧ i ≤ L.p.length ∧ k = L.p.length - i) L.p.length
    ⟨0, n0, _, rfl, hkK, by omega, rfl⟩ ?_
  clear hkK
  rintro Q' k fr K ⟨i, n, xc, rfl, hkK, hi, rfl⟩ hn hx hret
  have gl := hkK.at_ (vB_g H u)
  simp only [V4.l] at gl
  by_cases hlt : i < L.p.length
  · have h3 : (i : Int) < ((L.p.length : Nat) : Int) := by omega
    by_cases htn : n ≤ ((top : Nat) : Int)
    · obtain ⟨na, ra⟩ := (h.p.keeps ((vB_k H u).trans hkK)).at_ hlt
      have h1 : (0 : Int) ≤ (i : Int) := by omega
      have h2 : (i : Int) < ((lenS u.p : Nat) : Int) := by omega
      have h4 := htn
      have hlf := hf.p.1
      have hw : IntKind.i64.wrap ((i : Int) + 1) = ((i + 1 : Nat) : Int) := by rw [wrap_i64 (by omega) (by omega)]; simp
      simp (disch := first | assumption | omega | (simp only [LN] <;> omega) | (simp (disch := first | assumption | omega | (simp only [LN] <;> omega)) only [row_alloc, row_set]; assumption)) only [W_block, P3, ↓reduceIte, reduceAdd, reduceEqDiff, reduceCtorEq, initFr, reduceLT, clsA, reduceLeDiff, reduceMul, reduceSub, reduceIte, gl, lp, ra, na, a_load1v, a_lens, hw]
      refine hn _ _ _ ⟨i + 1, _, _, rfl, hkK, by omega, rfl⟩ (by omega)
    · have h4 := htn
      simp (disch := first | assumption | omega | (simp only [LN] <;> omega) | (simp (disch := first | assumption | omega | (simp only [LN] <;> omega)) only [row_alloc, row_set]; assumption)) only [W_block, P3, ↓reduceIte, reduceAdd, reduceEqDiff, reduceCtorEq, initFr, reduceLT, clsA, reduceLeDiff, reduceMul, reduceSub, reduceIte, gl, lp]
      refine hx 2 _ _ ?_
      exact hk _ _ ⟨n, _, _, _, _, _, _, _, _, _, _, rfl, hkK⟩
  · have h3 : ¬ (i : Int) < ((L.p.length : Nat) : Int) := by omega
    simp (disch := first | assumption | omega | (simp only [LN] <;> omega) | (simp (disch := first | assumption | omega | (simp only [LN] <;> omega)) only [row_alloc, row_set]; assumption)) only [W_block, P3, ↓reduceIte, reduceAdd, reduceEqDiff, reduceCtorEq, initFr, reduceLT, clsA, reduceLeDiff, reduceMul, reduceSub, reduceIte, gl, lp]
    refine hx 2 _ _ ?_
    exact hk _ _ ⟨n, _, _, _, _, _, _, _, _, _, _, rfl, hkK⟩
set_option maxHeartbeats 1000000 in
theorem wgt3 {H : AHeap} {u : V4} {xs : List RV} {L : Ly} {Q : AQ} {A : Value} {fr : List Value} {K : AHeap} {top : Nat} (ht : top ≤ 1000000) (h : LyR H u xs L) (hf : LyIn 9223372036854775807 L) (hm : WG A H u top fr K)
    (hk : ∀ fr K, WG A H u top fr K → Q .normal fr K) : W Go.Proofs.Try.prog 0 (cpre 1 (cpost 4 f20.body)) Q fr K := by
  obtain ⟨n0, x5, x6, x7, x8, x9, x10, x11, x12, x13, x14, rfl, hkK⟩ := hm
  have lp := h.g.len
  have ip := Sl.is h.g
  simp (disch := first | assumption | omega | (simp only [LN] <;> omega) | (simp (disch := first | assumption | omega | (simp only [LN] <;> omega)) only [row_alloc, row_set]; assumption)) only [ f20, cpre, cpost, P3, ↓reduceIte, reduceAdd, reduceEqDiff, reduceCtorEq, initFr, reduceLT, clsA, reduceLeDiff, reduceMul, reduceSub, reduceIte]
  rw [W_block]
  refine W_loop2 (fun k fr K => ∃ i n xc, fr = [A, .int .i64 ((top : Nat) : Int), ptr H.n 0, .int .i64 0, .int .i64 n, x5, x6, .int .i64 ((i : Nat) : Int), x8, x9, x10, x11, xc, x13, x14] ∧ Keeps (vB H u) K ∧ i ≤ L.g.length ∧ k = L.g.length - i) L.g.length
    ⟨0, n0, _, rfl, hkK, by omega, rfl⟩ ?_
  clear hkK
  rintro Q' k fr K ⟨i, n, xc, rfl, hkK, hi, rfl⟩ hn hx hret
  have gl := hkK.at_ (vB_g H u)
  simp only [V4.l] at gl
  by_cases hlt : i < L.g.length
  · have h3 : (i : Int) < ((L.g.length : Nat) : Int) := by omega
    by_cases htn : n ≤ ((top : Nat) : Int)
    · obtain ⟨na, ra⟩ := (h.g.keeps ((vB_k H u).trans hkK)).at_ hlt
      have h1 : (0 : Int) ≤ (i : Int) := by omega
      have h2 : (i : Int) < ((lenS u.g : Nat) : Int) := by omega
      have h4 := htn
      have hlf := hf.g.1
      have hw : IntKind.i64.wrap ((i : Int) + 1) = ((i + 1 : Nat) : Int) := by rw [wrap_i64 (by omega) (by omega)]; simp
      simp (disch := first | assumption | omega | (simp only [LN] <;> omega) | (simp (disch := first | assumption | omega | (simp only [LN] <;> omega)) only [row_alloc, row_set]; assumption)) only [W_block, P3, ↓reduceIte, reduceAdd, reduceEqDiff, reduceCtorEq, initFr, reduceLT, clsA, reduceLeDiff, reduceMul, reduceSub, reduceIte, gl, lp, ra, na, a_load1v, a_lens, hw]
      refine hn _ _ _ ⟨i + 1, _, _, rfl, hkK, by omega, rfl⟩ (by omega)
    · have h4 := htn
      simp (disch := first | assumption | omega | (simp only [LN] <;> omega) | (simp (disch := first | assumption | omega | (simp only [LN] <;> omega)) only [row_alloc, row_set]; assumption)) only [W_block, P3, ↓reduceIte, reduceAdd, reduceEqDiff, reduceCtorEq, initFr, reduceLT, clsA, reduceLeDiff, reduceMul, reduceSub, reduceIte, gl, lp]
      refine hx 4 _ _ ?_
      exact hk _ _ ⟨n, _, _, _, _, _, _, _, _, _, _, rfl, hkK⟩
  · have h3 : ¬ (i : Int) < ((L.g.length : Nat) : Int) := by omega
    simp (disch := first | assumption | omega | (simp only [LN] <;> omega) | (simp (disch := first | assumption | omega | (simp only [LN] <;> omega)) only [row_alloc, row_set]; assumption)) only [W_block, P3, ↓reduceIte, reduceAdd, reduceEqDiff, reduceCtorEq, initFr, reduceLT, clsA, reduceLeDiff, reduceMul, reduceSub, reduceIte, gl, lp]
    refine hx 4 _ _ ?_
    exact hk _ _ ⟨n, _, _, _, _, _, _, _, _, _, _, rfl, hkK⟩
set_option maxHeartbeats 2000000 in
theorem wgt4 {H : AHeap} {u : V4} {xs : List RV} {L : Ly} {Q : AQ} {A : Value} {fr : List Value} {K : AHeap} {top : Nat} (ht : top ≤ 1000000) (h : LyR H u xs L) (hf : LyIn 9223372036854775807 L) (hm : WG A H u top fr K)
    (hk : ∀ fr K, WG A H u top fr K → Q .normal fr K) : W Go.Proofs.Try.prog 0 (cpre 1 (cpost 5 f20.body)) Q fr K := by
  obtain ⟨n0, x5, x6, x7, x8, x9, x10, x11, x12, x13, x14, rfl, hkK⟩ := hm
  have lp := h.r.len
  rw [h.rlen] at lp
  have ip := Sl.is h.r
  simp (disch := first | assumption | omega | (simp only [LN] <;> omega) | (simp (disch := first | assumption | omega | (simp only [LN] <;> omega)) only [row_alloc, row_set]; assumption)) only [ f20, cpre, cpost, P3, ↓reduceIte, reduceAdd, reduceEqDiff, reduceCtorEq, initFr, reduceLT, clsA, reduceLeDiff, reduceMul, reduceSub, reduceIte]
  rw [W_block]
  refine W_loop2 (fun k fr K => ∃ i n x9 xc xd, fr = [A, .int .i64 ((top : Nat) : Int), ptr H.n 0, .int .i64 0, .int .i64 n, x5, x6, x7, .int .i64 ((i : Nat) : Int), x9, x10, x11, x12, xc, xd] ∧ Keeps (vB H u) K ∧ i ≤ L.r.length ∧ k = L.r.length - i) L.r.length
    ⟨0, n0, _, _, _, rfl, hkK, by omega, rfl⟩ ?_
  clear hkK
  rintro Q' k fr K ⟨i, n, x9, xc, xd, rfl, hkK, hi, rfl⟩ hn hx hret
  have gl := hkK.at_ (vB_g H u)
  simp only [V4.l] at gl
  by_cases hlt : i < L.r.length
  · have h3 : (i : Int) < ((L.r.length : Nat) : Int) := by omega
    by_cases htn : n ≤ ((top : Nat) : Int)
    · have hlt' : i < xs.length := by rw [h.rlen]; exact hlt
      obtain ⟨na, ra⟩ := RL.at_ (h.r.keeps ((vB_k H u).trans hkK)) hlt'
      obtain ⟨xok, xr⟩ := h.rat hlt
      have hbl := Sl.bn_le (h.r.keeps ((vB_k H u).trans hkK)) (by intro e; simp at e; rw [e] at hlt'; simp at hlt') (by omega)
      have h1 : (0 : Int) ≤ (i : Int) := by omega
      have h2 : (i : Int) < ((lenS u.r : Nat) : Int) := by omega
      have h4 := htn
      have hl := hf.r.2 _ (getD_mem (d := rv0.r) hlt)
      have hlf := hf.r.1
      have hw : IntKind.i64.wrap ((i : Int) + 1) = ((i + 1 : Nat) : Int) := by rw [wrap_i64 (by omega) (by omega)]; simp
      generalize xs.getD i rv0 = y at *
      simp only [RV.row] at ra
      have iP := Sl.is xok.p
      have iQ := Sl.is xok.q
      have iO := Sl.is xok.o
      have iF := Sl.is xok.f
      have lP := xok.p.len
      have lQ := xok.q.len
      have lO := xok.o.len
      have lF := xok.f.len
      have o3 := one_isS iP
      have o4 := one_isS iQ
      have o5 := one_isS iO
      have o6 := one_isS iF
      obtain ⟨m, hm⟩ : ∃ m : Int, m = IntKind.i64.wrap (IntKind.i64.wrap (IntKind.i64.wrap (IntKind.i64.wrap (n + 1) + ((y.r.n.length : Nat) : Int)) + ((y.r.path.length : Nat) : Int)) + ((y.r.pts.length : Nat) : Int)) := ⟨_, rfl⟩
      have k1 := hkK.trans ((Keeps.refl K).alloc (.cells true false 6 [.string ⟨y.r.n.toArray⟩, .int .i64 y.r.g, y.vp, y.vq, y.vo, y.vf] 50))
      by_cases hmt : m ≤ ((top : Nat) : Int)
      · have h5 := hmt
        simp (disch := first | assumption | omega | (simp only [LN] <;> omega) | (simp (disch := first | assumption | omega | (simp only [LN] <;> omega)) only [row_alloc, row_set]; assumption)) only [W_block, P3, ↓reduceIte, reduceAdd, reduceEqDiff, reduceCtorEq, initFr, reduceLT, clsA, reduceLeDiff, reduceMul, reduceSub, reduceIte, gl, lp, ra, na, a_loadnvf, a_lens, lP, lQ, lO, lF, o3, o4, o5, o6, hw, ← hm]
        refine hn _ _ _ ⟨i + 1, _, _, _, _, rfl, k1, by omega, rfl⟩ (by omega)
      · have h5 := hmt
        simp (disch := first | assumption | omega | (simp only [LN] <;> omega) | (simp (disch := first | assumption | omega | (simp only [LN] <;> omega)) only [row_alloc, row_set]; assumption)) only [W_block, P3, ↓reduceIte, reduceAdd, reduceEqDiff, reduceCtorEq, initFr, reduceLT, clsA, reduceLeDiff, reduceMul, reduceSub, reduceIte, gl, lp, ra, na, a_loadnvf, a_lens, lP, lQ, lO, lF, o3, o4, o5, o6, hw, ← hm]
        refine hn _ _ _ ⟨i + 1, m, _, _, _, rfl, k1, by omega, rfl⟩ (by omega)
    · have h4 := htn
      simp (disch := first | assumption | omega | (simp only [LN] <;> omega) | (simp (disch := first | assumption | omega | (simp only [LN] <;> omega)) only [row_alloc, row_set]; assumption)) only [W_block, P3, ↓reduceIte, reduceAdd, reduceEqDiff, reduceCtorEq, initFr, reduceLT, clsA, reduceLeDiff, reduceMul, reduceSub, reduceIte, gl, lp]
      refine hx 6 _ _ ?_
      exact hk _ _ ⟨n, _, _, _, _, _, _, _, _, _, _, rfl, hkK⟩
  · have h3 : ¬ (i : Int) < ((L.r.length : Nat) : Int) := by omega
    simp (disch := first | assumption | omega | (simp only [LN] <;> omega) | (simp (disch := first | assumption | omega | (simp only [LN] <;> omega)) only [row_alloc, row_set]; assumption)) only [W_block, P3, ↓reduceIte, reduceAdd, reduceEqDiff, reduceCtorEq, initFr, reduceLT, clsA, reduceLeDiff, reduceMul, reduceSub, reduceIte, gl, lp]
    refine hx 6 _ _ ?_
    exact hk _ _ ⟨n, _, _, _, _, _, _, _, _, _, _, rfl, hkK⟩
theorem t20 {H : AHeap} {u : V4} {xs : List RV} {L : Ly} {top : Nat} (ht : top ≤ 1000000) (h : LyR H u xs L) (hf : LyIn 9223372036854775807 L) : ∃ w H', ARun Go.Proofs.Try.prog 0 20 [.agg u.l.toArray, .int .i64 ((top : Nat) : Int)] H w H' ∧ (∃ n : Int, w = .int .i64 n) ∧ H' = H := by
  suffices h' : ∃ w H', ARun Go.Proofs.Try.prog 0 20 [.agg u.l.toArray, .int .i64 ((top : Nat) : Int)] H w H' ∧ (∃ n : Int, w = .int .i64 n) ∧ Keeps H H' by
    obtain ⟨_, _, a, ⟨n, rfl⟩, k⟩ := h'
    exact ⟨_, _, a.gc0 k (.inr (.int _ _)), ⟨n, rfl⟩, rfl⟩
  refine walk2 f20_ok f20_n ?_
  intro Q hq1 hq2
  refine W_part 2 (WG (.agg u.l.toArray) H u top) (by kernel_rfl) ?_ (fun fr K m => ?_)
  · intro Q' a _ _
    have os := Sl.one h.s
    have op := Sl.one h.p
    have og := Sl.one h.g
    have or := Sl.one h.r
    unfold WG vB at *
    obtain ⟨us, up, ug, ur⟩ := u
    simp only [V4.l] at *
    simp (disch := first | assumption | omega | (simp only [LN] <;> omega) | (simp (disch := first | assumption | omega | (simp only [LN] <;> omega)) only [row_alloc, row_set]; assumption)) only [f20, cpre, W_block, P3, ↓reduceIte, reduceAdd, reduceEqDiff, reduceCtorEq, initFr, reduceLT, clsA, reduceLeDiff, reduceMul, reduceSub, reduceIte, os, op, og, or]
    exact a _ _ ⟨0, _, _, _, _, _, _, _, _, _, _, rfl, Keeps.refl _⟩
  refine W_part 1 (WG (.agg u.l.toArray) H u top) (by kernel_rfl) (fun Q' a _ _ => wgt1 ht h hf m a) (fun fr K m => ?_)
  refine W_part 1 (WG (.agg u.l.toArray) H u top) (by kernel_rfl) (fun Q' a _ _ => wgt2 ht h hf m a) (fun fr K m => ?_)
  refine W_part 1 (WG (.agg u.l.toArray) H u top) (by kernel_rfl) (fun Q' a _ _ => wgt3 ht h hf m a) (fun fr K m => ?_)
  refine W_part 1 (WG (.agg u.l.toArray) H u top) (by kernel_rfl) (fun Q' a _ _ => wgt4 ht h hf m a) (fun fr K m => ?_)
  obtain ⟨n, x5, x6, x7, x8, x9, x10, x11, x12, x13, x14, rfl, hkK⟩ := m
  simp (disch := first | assumption | omega | (simp only [LN] <;> omega) | (simp (disch := first | assumption | omega | (simp only [LN] <;> omega)) only [row_alloc, row_set]; assumption)) only [f20, cpost, W_block, P3, ↓reduceIte, reduceAdd, reduceEqDiff, reduceCtorEq, initFr, reduceLT, clsA, reduceLeDiff, reduceMul, reduceSub, reduceIte]
  exact hq2 _ _ ⟨_, rfl, ⟨n, rfl⟩, (vB_k H u).trans hkK⟩
end Go.AM.Fd

set_option linter.unusedSimpArgs false
set_option linter.unusedVariables false
namespace Go.AM
inductive CKd
  | int (k : IntKind)
  | bool
  | str
  | sl (t : TypeId)
def ckFs (P : Program) (f : TypeId → Option (List CKd)) : List Field → Nat → Option (List CKd)
  | [], _ => some []
  | fd :: r, off => if fd.offset = off then match f fd.type with
    | some l => if P.cellsOf fd.type = l.length then (ckFs P f r (off + l.length)).map (l ++ ·) else none
    | none => none
    else none
def ckT (P : Program) : Nat → TypeId → Option (List CKd)
  | 0, _ => none
  | d + 1, t => match P.underlying t with
    | some .bool => some [.bool]
    | some (.int k) => some [.int k]
    | some .string => some [.str]
    | some (.slice _) => some [.sl t]
    | some (.struct fs) => match ckFs P (ckT P d) fs.toList 0 with
      | some l => if P.cellsOf t = l.length then some l else none
      | none => none
    | some (.array n e) => match ckT P d e with
      | some l => if P.cellsOf e = l.length ∧ P.cellsOf t = n * l.length then some (List.replicate n l).flatten else none
      | none => none
    | _ => none
def fits (P : Program) (G : Gf) : CKd → Value → Prop
  | .int k, v => ∃ n, v = .int k n ∧ (Lit.int k n).wf = true
  | .bool, v => ∃ b, v = .bool b
  | .str, v => ∃ s, v = .string s ∧ s.size ≤ maxLen ∧ s.size ≤ reachBytes
  | .sl t, v => AR P G t [v]
def fitsL (P : Program) (G : Gf) : List CKd → List Value → Prop
  | [], [] => True
  | k :: ks, v :: vs => fits P G k v ∧ fitsL P G ks vs
  | _, _ => False
section
variable {P : Program} {G : Gf}
theorem fitsL.inv {k : CKd} {ks : List CKd} {cs : List Value} (h : fitsL P G (k :: ks) cs) : ∃ v vs, cs = v :: vs ∧ fits P G k v ∧ fitsL P G ks vs := by
  cases cs with
  | nil => exact h.elim
  | cons v vs => exact ⟨v, vs, rfl, h.1, h.2⟩
theorem fitsL.end_ {cs : List Value} (h : fitsL P G [] cs) : cs = [] := by
  cases cs with
  | nil => rfl
  | cons v vs => exact h.elim
theorem fitsL.app : ∀ {a b : List CKd} {c d : List Value}, fitsL P G a c → fitsL P G b d → fitsL P G (a ++ b) (c ++ d)
  | [], _, [], _, _, h => h
  | _ :: _, _, _ :: _, _, h, k => ⟨h.1, fitsL.app h.2 k⟩
theorem fits_u {k : IntKind} (hk : k.signed = false) {v : Value} (h : fits P G (.int k) v) : ∃ n : Nat, v = .int k n ∧ n < 2 ^ k.bits := by
  obtain ⟨n, rfl, hw⟩ := h
  simp only [Lit.wf, Bool.and_eq_true, decide_eq_true_eq, IntKind.min, IntKind.max, hk, Bool.false_eq_true, if_false] at hw
  refine ⟨n.toNat, by rw [Int.toNat_of_nonneg hw.1], ?_⟩
  have h1 := hw.1
  have h2 := hw.2
  have : (n.toNat : Int) < ((2 ^ k.bits : Nat) : Int) := by
    rw [Int.toNat_of_nonneg h1]
    push_cast
    omega
  exact Int.ofNat_lt.1 this
theorem fits_u8 {v : Value} (h : fits P G (.int .u8) v) : ∃ n : Nat, v = .int .u8 n ∧ n < 256 := fits_u rfl h
theorem fits_u32 {v : Value} (h : fits P G (.int .u32) v) : ∃ n : Nat, v = .int .u32 n ∧ n < 4294967296 := fits_u rfl h
theorem fits_u64 {v : Value} (h : fits P G (.int .u64) v) : ∃ n : Nat, v = .int .u64 n ∧ n < 18446744073709551616 := fits_u rfl h
theorem fitsL_fields {f : TypeId → Option (List CKd)} {cs : List Value} : ∀ (fs : List Field) (off : Nat) (ks : List CKd), ckFs P f fs off = some ks → cs.length = off + ks.length →
    (∀ fd ∈ fs, ∀ l, f fd.type = some l → P.cellsOf fd.type = l.length → fitsL P G l ((cs.drop fd.offset).take (P.cellsOf fd.type))) → fitsL P G ks (cs.drop off)
  | [], off, ks, h, hl, _ => by
    simp only [ckFs, Option.some.injEq] at h; subst h
    rw [List.drop_of_length_le (by simp at hl; omega)]; trivial
  | fd :: fs, off, ks, h, hl, hf => by
    simp only [ckFs] at h
    split at h
    · rename_i h1
      split at h
      · rename_i l h2
        split at h
        · rename_i h3
          simp only [Option.map_eq_some_iff] at h
          obtain ⟨r, h4, rfl⟩ := h
          have h5 := hf fd (by simp) l h2 h3
          have h6 := fitsL_fields fs (off + l.length) r h4 (by rw [hl, List.length_append]; omega) (fun x hx => hf x (by simp [hx]))
          rw [h1, h3] at h5
          have := h5.app h6
          rwa [← List.drop_drop, List.take_append_drop] at this
        · cases h
      · cases h
    · cases h
theorem fitsL_rep {l : List CKd} {cs : List Value} : ∀ (n : Nat), (∀ i, i < n → fitsL P G l ((cs.drop (i * l.length)).take l.length)) → fitsL P G (List.replicate n l).flatten (cs.take (n * l.length))
  | 0, _ => by simp [fitsL]
  | n + 1, h => by
    have h1 := fitsL_rep n (fun i hi => h i (by omega))
    rw [List.replicate_succ', List.flatten_append, Nat.add_mul, Nat.one_mul, List.take_add]
    simpa using h1.app (h n (by omega))
theorem AR.flat : ∀ {d : Nat} {t : TypeId} {ks : List CKd} {cs : List Value}, ckT P d t = some ks → AR P G t cs → fitsL P G ks cs
  | 0, t, ks, cs, h, _ => by simp [ckT] at h
  | d + 1, t, ks, cs, h, ha => by
    have ha0 := ha
    cases ha with
    | bool hu => simp only [ckT, hu, Option.some.injEq] at h; subst h; exact ⟨⟨_, rfl⟩, trivial⟩
    | int hu hw => simp only [ckT, hu, Option.some.injEq] at h; subst h; exact ⟨⟨_, rfl, hw⟩, trivial⟩
    | str hu hs => simp only [ckT, hu, Option.some.injEq] at h; subst h; exact ⟨⟨_, rfl, hs⟩, trivial⟩
    | nil hu => simp only [ckT, hu, Option.some.injEq] at h; subst h; exact ⟨ha0, trivial⟩
    | zero hu _ => simp only [ckT, hu, Option.some.injEq] at h; subst h; exact ⟨ha0, trivial⟩
    | sl hu => simp only [ckT, hu, Option.some.injEq] at h; subst h; exact ⟨ha0, trivial⟩
    | struct hu hl hf =>
      rename_i fs
      simp only [ckT, hu] at h
      split at h
      · rename_i l h1
        split at h
        · rename_i h2
          simp only [Option.some.injEq] at h; subst h
          have := fitsL_fields (cs := cs) (G := G) fs.toList 0 _ h1 (by rw [hl, h2]; omega) (fun fd hfd l hl' hz => by
            obtain ⟨i, hi, hfi⟩ := List.mem_iff_getElem.1 hfd
            have hi' : i < fs.size := by simpa using hi
            exact (hf i fd (by rw [Array.getElem?_eq_getElem hi', ← hfi]; simp)).flat hl')
          simpa using this
        · cases h
      · cases h
    | array hu hl hi =>
      rename_i e n
      simp only [ckT, hu] at h
      split at h
      · rename_i l h1
        split at h
        · rename_i h2
          simp only [Option.some.injEq] at h; subst h
          have := fitsL_rep (P := P) (G := G) (l := l) (cs := cs) n (fun i hin => by
            have := hi i hin
            rw [h2.1] at this
            exact this.flat h1)
          rwa [List.take_of_length_le (by rw [hl, h2.2]; omega)] at this
        · cases h
      · cases h
end
end Go.AM

set_option linter.unusedSimpArgs false
set_option linter.unusedVariables false
namespace Go.AM.Fd
open Go.Proofs Go.AM.F
theorem str_exL (s : ByteArray) : ∃ l : List UInt8, s = ⟨l.toArray⟩ := ⟨s.data.toList, by cases s; simp⟩
theorem ar_rows {P : Program} {H : AHeap} {v : Value} {t e esz : Nat} (hu : P.underlying t = some (.slice e)) (hz : P.cellsOf e = esz) (h : AR P H.get t [v]) : ∃ rows, (Sl H esz v rows ∧ rows.length ≤ 9223372036854775807) ∧ ∀ r ∈ rows, AR P H.get e r := by
  obtain ⟨rows, hs, hr⟩ := h.rows hu hz
  refine ⟨rows, ⟨hs, ?_⟩, hr⟩
  have hl := hs.len
  rcases h.slice_inv hu with h2 | ⟨x, hx, h2⟩ | ⟨b, n, k, c, u, h2, h3, h4, h5, _⟩
  · cases h2; simp only [lenS] at hl; omega
  · cases h2; simp only [lenS] at hl; omega
  · cases h2
    simp only [slc, lenS] at hl
    have : maxLen = 9223372036854775807 := by unfold maxLen; rfl
    omega
theorem ar_ints {H : AHeap} {v : Value} (h : AR Go.Proofs.Try.prog H.get 47 [v]) : ∃ l, IL H v l ∧ l.length ≤ 9223372036854775807 := by
  obtain ⟨rows, ⟨hs, hl⟩, hr⟩ := ar_rows (e := 3) (esz := 1) (by kernel_rfl) (by kernel_rfl) h
  obtain ⟨l, rfl, _⟩ := list_choose (f := iRow) (Q := fun _ => True) (l := rows) (fun r hm => by
    obtain ⟨n, hb, _⟩ := (hr r hm).int_inv (by kernel_rfl)
    exact ⟨n, hb, trivial⟩)
  exact ⟨l, hs, by simpa using hl⟩
theorem ar_needs {H : AHeap} {v : Value} (h : AR Go.Proofs.Try.prog H.get 48 [v]) : ∃ l, NL H v l ∧ l.length ≤ 9223372036854775807 := by
  obtain ⟨rows, ⟨hs, hl⟩, hr⟩ := ar_rows (e := 68) (esz := 2) (by kernel_rfl) (by kernel_rfl) h
  obtain ⟨l, rfl, _⟩ := list_choose (f := nRow) (Q := fun _ => True) (l := rows) (fun r hm => by
    have h1 := (hr r hm).flat (d := 5) (ks := [.int .i64, .bool]) (by kernel_rfl)
    obtain ⟨a, as1, rfl, ha, h2⟩ := h1.inv
    obtain ⟨b, bs, rfl, hb, h3⟩ := h2.inv
    have := h3.end_; subst this
    obtain ⟨n, rfl, _⟩ := ha
    obtain ⟨m, rfl⟩ := hb
    exact ⟨(n, m), rfl, trivial⟩)
  exact ⟨l, hs, by simpa using hl⟩
theorem ar_txs {H : AHeap} {v : Value} (h : AR Go.Proofs.Try.prog H.get 22 [v]) : ∃ l, TL H v l ∧ l.length ≤ 9223372036854775807 ∧ ∀ x ∈ l, x.length ≤ 9223372036854775807 := by
  obtain ⟨rows, ⟨hs, hl⟩, hr⟩ := ar_rows (e := 9) (esz := 1) (by kernel_rfl) (by kernel_rfl) h
  obtain ⟨l, rfl, hq⟩ := list_choose (f := tRow) (Q := fun x => x.length ≤ 9223372036854775807) (l := rows) (fun r hm => by
    obtain ⟨b, hb, hz⟩ := (hr r hm).str_inv (by kernel_rfl)
    obtain ⟨l, rfl⟩ := str_exL b
    have : maxLen = 9223372036854775807 := by unfold maxLen; rfl
    exact ⟨l, hb, by have : (⟨l.toArray⟩ : ByteArray).size = l.length := by simp [ByteArray.size]
                     omega⟩)
  exact ⟨l, hs, by simpa using hl, hq⟩
theorem ar_named {H : AHeap} {t e : Nat} {v : Value} (h1 : Program.underlying Go.Proofs.Try.prog t = some (.slice e)) (h2 : Program.cellsOf Go.Proofs.Try.prog e = 2) (h3 : ckT Go.Proofs.Try.prog 6 e = some [.str, .int .i64]) (h : AR Go.Proofs.Try.prog H.get t [v]) : ∃ l, PL H v l ∧ l.length ≤ 9223372036854775807 ∧ ∀ x ∈ l, x.1.length ≤ 9223372036854775807 := by
  obtain ⟨rows, ⟨hs, hl⟩, hr⟩ := ar_rows (e := e) (esz := 2) h1 h2 h
  obtain ⟨l, rfl, hq⟩ := list_choose (f := pRow) (Q := fun x => x.1.length ≤ 9223372036854775807) (l := rows) (fun r hm => by
    have h1 := (hr r hm).flat h3
    obtain ⟨a, as1, rfl, ha, h2⟩ := h1.inv
    obtain ⟨b, bs, rfl, hb, h3⟩ := h2.inv
    have := h3.end_; subst this
    obtain ⟨s, rfl, hz⟩ := ha
    obtain ⟨m, rfl, _⟩ := hb
    obtain ⟨l, rfl⟩ := str_exL s
    have : maxLen = 9223372036854775807 := by unfold maxLen; rfl
    exact ⟨(l, m), rfl, by have : (⟨l.toArray⟩ : ByteArray).size = l.length := by simp [ByteArray.size]
                           simp only; omega⟩)
  exact ⟨l, hs, by simpa using hl, hq⟩
theorem ar_route {H : AHeap} {r : List Value} (h : AR Go.Proofs.Try.prog H.get 50 r) : ∃ x : RV, r = x.row ∧ x.ok H ∧ x.r.n.length ≤ 9223372036854775807 ∧ x.r.path.length ≤ 9223372036854775807 ∧ x.r.pts.length ≤ 9223372036854775807 ∧ x.r.ov.length ≤ 9223372036854775807 ∧ x.r.fl.length ≤ 9223372036854775807 := by
  have h1 := h.flat (d := 6) (ks := [.str, .int .i64, .sl 47, .sl 48, .sl 47, .sl 48]) (by kernel_rfl)
  obtain ⟨a, as1, rfl, ha, h2⟩ := h1.inv
  obtain ⟨b, bs, rfl, hb, h3⟩ := h2.inv
  obtain ⟨c, cs, rfl, hc, h4⟩ := h3.inv
  obtain ⟨d, ds, rfl, hd, h5⟩ := h4.inv
  obtain ⟨e, es, rfl, he, h6⟩ := h5.inv
  obtain ⟨f, fs, rfl, hf, h7⟩ := h6.inv
  have := h7.end_; subst this
  obtain ⟨s, rfl, hz⟩ := ha
  obtain ⟨m, rfl, _⟩ := hb
  obtain ⟨l, rfl⟩ := str_exL s
  obtain ⟨p, hp, lp⟩ := ar_ints hc
  obtain ⟨q, hq, lq⟩ := ar_needs hd
  obtain ⟨o, ho, lo⟩ := ar_ints he
  obtain ⟨g, hg, lg⟩ := ar_needs hf
  have : maxLen = 9223372036854775807 := by unfold maxLen; rfl
  have : (⟨l.toArray⟩ : ByteArray).size = l.length := by simp [ByteArray.size]
  exact ⟨⟨⟨l, m, p, q, o, g⟩, c, d, e, f⟩, rfl, ⟨hp, hq, ho, hg⟩, by simp only; omega, lp, lq, lo, lg⟩
theorem ar_ly {H : AHeap} {cs : List Value} (h : AR Go.Proofs.Try.prog H.get 27 cs) : ∃ u xs L, cs = V4.l u ∧ LyR H u xs L ∧ LyIn 9223372036854775807 L := by
  have h1 := h.flat (d := 6) (ks := [.sl 22, .sl 23, .sl 24, .sl 25]) (by kernel_rfl)
  obtain ⟨a, as1, rfl, ha, h2⟩ := h1.inv
  obtain ⟨b, bs, rfl, hb, h3⟩ := h2.inv
  obtain ⟨c, cs, rfl, hc, h4⟩ := h3.inv
  obtain ⟨d, ds, rfl, hd, h5⟩ := h4.inv
  have := h5.end_; subst this
  obtain ⟨s, hs, ls, bs⟩ := ar_txs ha
  obtain ⟨p, hp, lp, bp⟩ := ar_named (e := 46) (by kernel_rfl) (by kernel_rfl) (by kernel_rfl) hb
  obtain ⟨g, hg, lg, bg⟩ := ar_named (e := 66) (by kernel_rfl) (by kernel_rfl) (by kernel_rfl) hc
  obtain ⟨rows, ⟨hr, lr⟩, hrow⟩ := ar_rows (e := 50) (esz := 6) (by kernel_rfl) (by kernel_rfl) hd
  obtain ⟨xs, rfl, hx⟩ := list_choose (f := RV.row) (Q := fun x : RV => x.ok H ∧ x.r.n.length ≤ 9223372036854775807 ∧ x.r.path.length ≤ 9223372036854775807 ∧ x.r.pts.length ≤ 9223372036854775807 ∧ x.r.ov.length ≤ 9223372036854775807 ∧ x.r.fl.length ≤ 9223372036854775807) (l := rows) (fun r hm => ar_route (hrow r hm))
  refine ⟨⟨a, b, c, d⟩, xs, ⟨s, p, g, xs.map (·.r)⟩, rfl, ⟨hs, hp, hg, hr, rfl, fun x hm => (hx x hm).1⟩, ⟨⟨ls, bs⟩, ⟨lp, bp⟩, ⟨lg, bg⟩, ⟨by simpa using lr, fun x hm => ?_⟩⟩⟩
  obtain ⟨y, hy, rfl⟩ := List.mem_map.1 hm
  exact (hx y hy).2
theorem av_ly {H : AHeap} {v : Value} (h : AV Go.Proofs.Try.prog H.get 27 v) : ∃ u xs L, v = .agg (V4.l u).toArray ∧ LyR H u xs L ∧ LyIn 9223372036854775807 L := by
  obtain ⟨cs, rfl⟩ := h.2.1 (by kernel_rfl)
  obtain ⟨u, xs, L, h1, h2⟩ := ar_ly h.1
  have e : cs.toList = V4.l u := by simpa [Value.cells] using h1
  exact ⟨u, xs, L, by rw [← e], h2⟩
end Go.AM.Fd

set_option maxRecDepth 100000
set_option maxHeartbeats 0
namespace Go.AM.F
def zclE : TypeId → List Value
 | 46 => [(.string ByteArray.empty), (.int .i64 0)]
 | 4 => [(.bool false)]
 | 28 => [(.int .u64 0)]
 | 50 => [(.string ByteArray.empty), (.int .i64 0), (.slice none 0 0), (.slice none 0 0), (.slice none 0 0), (.slice none 0 0)]
 | 3 => [(.int .i64 0)]
 | 68 => [(.int .i64 0), (.bool false)]
 | 178 => [(.map none)]
 | _ => []
def zvlE : TypeId → Value
 | _ => undef
def zklE : TypeId → List Nat
 | _ => []
def zrlE : Nat → TypeId → List Value
 | 2, 47 => [(.slice none 0 0), (.slice none 0 0)]
 | 2, 48 => [(.slice none 0 0), (.slice none 0 0)]
 | _, _ => []
noncomputable def f42 : AFunc := by
 refine (fun (_ : Cz zclE zvlE zklE zrlE Go.Proofs.Try.prog 0 [0, 1, 2, 3, 4, 7, 13] 42 ?a) => ?a) ?h
 case h =>
 intro zc zv zk zr hc hv hk hr
 conv => lhs; cbv; try simp only [hc, hv, hk, hr, zclE, zvlE, zklE, zrlE]
theorem f42_ok : compF Go.Proofs.Try.prog 0 [0, 1, 2, 3, 4, 7, 13] 42 = some f42 := by kernel_rfl
theorem f42_n : argsOK Go.Proofs.Try.prog 42 1 = true := by kernel_rfl
noncomputable def f43 : AFunc := by
 refine (fun (_ : Cz zclE zvlE zklE zrlE Go.Proofs.Try.prog 0 [0, 1, 2] 43 ?a) => ?a) ?h
 case h =>
 intro zc zv zk zr hc hv hk hr
 conv => lhs; cbv; try simp only [hc, hv, hk, hr, zclE, zvlE, zklE, zrlE]
theorem f43_ok : compF Go.Proofs.Try.prog 0 [0, 1, 2] 43 = some f43 := by kernel_rfl
theorem f43_n : argsOK Go.Proofs.Try.prog 43 1 = true := by kernel_rfl
noncomputable def f44 : AFunc := by
 refine (fun (_ : Cz zclE zvlE zklE zrlE Go.Proofs.Try.prog 0 [0, 1, 2] 44 ?a) => ?a) ?h
 case h =>
 intro zc zv zk zr hc hv hk hr
 conv => lhs; cbv; try simp only [hc, hv, hk, hr, zclE, zvlE, zklE, zrlE]
theorem f44_ok : compF Go.Proofs.Try.prog 0 [0, 1, 2] 44 = some f44 := by kernel_rfl
theorem f44_n : argsOK Go.Proofs.Try.prog 44 1 = true := by kernel_rfl
noncomputable def f51 : AFunc := by
 refine (fun (_ : Cz zclE zvlE zklE zrlE Go.Proofs.Try.prog 0 [0, 1, 4] 51 ?a) => ?a) ?h
 case h =>
 intro zc zv zk zr hc hv hk hr
 conv => lhs; cbv; try simp only [hc, hv, hk, hr, zclE, zvlE, zklE, zrlE]
theorem f51_ok : compF Go.Proofs.Try.prog 0 [0, 1, 4] 51 = some f51 := by kernel_rfl
theorem f51_n : argsOK Go.Proofs.Try.prog 51 2 = true := by kernel_rfl
noncomputable def f53 : AFunc := by
 refine (fun (_ : Cz zclE zvlE zklE zrlE Go.Proofs.Try.prog 0 [0, 1, 4] 53 ?a) => ?a) ?h
 case h =>
 intro zc zv zk zr hc hv hk hr
 conv => lhs; cbv; try simp only [hc, hv, hk, hr, zclE, zvlE, zklE, zrlE]
theorem f53_ok : compF Go.Proofs.Try.prog 0 [0, 1, 4] 53 = some f53 := by kernel_rfl
theorem f53_n : argsOK Go.Proofs.Try.prog 53 2 = true := by kernel_rfl
noncomputable def f78 : AFunc := by
 refine (fun (_ : Cz zclE zvlE zklE zrlE Go.Proofs.Try.prog 0 [0, 1, 4, 5, 7, 8, 9, 16] 78 ?a) => ?a) ?h
 case h =>
 intro zc zv zk zr hc hv hk hr
 conv => lhs; cbv; try simp only [hc, hv, hk, hr, zclE, zvlE, zklE, zrlE]
theorem f78_ok : compF Go.Proofs.Try.prog 0 [0, 1, 4, 5, 7, 8, 9, 16] 78 = some f78 := by kernel_rfl
theorem f78_n : argsOK Go.Proofs.Try.prog 78 2 = true := by kernel_rfl
noncomputable def f79 : AFunc := by
 refine (fun (_ : Cz zclE zvlE zklE zrlE Go.Proofs.Try.prog 0 [0, 1, 2, 3] 79 ?a) => ?a) ?h
 case h =>
 intro zc zv zk zr hc hv hk hr
 conv => lhs; cbv; try simp only [hc, hv, hk, hr, zclE, zvlE, zklE, zrlE]
theorem f79_ok : compF Go.Proofs.Try.prog 0 [0, 1, 2, 3] 79 = some f79 := by kernel_rfl
theorem f79_n : argsOK Go.Proofs.Try.prog 79 2 = true := by kernel_rfl
noncomputable def f80 : AFunc := by
 refine (fun (_ : Cz zclE zvlE zklE zrlE Go.Proofs.Try.prog 0 [0, 1, 2, 3, 4, 5, 6, 7, 8, 11, 31, 32, 33, 34, 56] 80 ?a) => ?a) ?h
 case h =>
 intro zc zv zk zr hc hv hk hr
 conv => lhs; cbv; try simp only [hc, hv, hk, hr, zclE, zvlE, zklE, zrlE]
theorem f80_ok : compF Go.Proofs.Try.prog 0 [0, 1, 2, 3, 4, 5, 6, 7, 8, 11, 31, 32, 33, 34, 56] 80 = some f80 := by kernel_rfl
theorem f80_n : argsOK Go.Proofs.Try.prog 80 2 = true := by kernel_rfl
noncomputable def f81 : AFunc := by
 refine (fun (_ : Cz zclE zvlE zklE zrlE Go.Proofs.Try.prog 0 [0, 2, 3, 5, 6, 8, 9, 10, 11, 12, 20, 25, 26, 27, 28] 81 ?a) => ?a) ?h
 case h =>
 intro zc zv zk zr hc hv hk hr
 conv => lhs; cbv; try simp only [hc, hv, hk, hr, zclE, zvlE, zklE, zrlE]
theorem f81_ok : compF Go.Proofs.Try.prog 0 [0, 2, 3, 5, 6, 8, 9, 10, 11, 12, 20, 25, 26, 27, 28] 81 = some f81 := by kernel_rfl
theorem f81_n : argsOK Go.Proofs.Try.prog 81 1 = true := by kernel_rfl
noncomputable def f82 : AFunc := by
 refine (fun (_ : Cz zclE zvlE zklE zrlE Go.Proofs.Try.prog 0 [0, 2, 3, 5, 6, 8, 9, 10, 11, 12, 20, 25, 26, 27, 28] 82 ?a) => ?a) ?h
 case h =>
 intro zc zv zk zr hc hv hk hr
 conv => lhs; cbv; try simp only [hc, hv, hk, hr, zclE, zvlE, zklE, zrlE]
theorem f82_ok : compF Go.Proofs.Try.prog 0 [0, 2, 3, 5, 6, 8, 9, 10, 11, 12, 20, 25, 26, 27, 28] 82 = some f82 := by kernel_rfl
theorem f82_n : argsOK Go.Proofs.Try.prog 82 1 = true := by kernel_rfl
noncomputable def f83 : AFunc := by
 refine (fun (_ : Cz zclE zvlE zklE zrlE Go.Proofs.Try.prog 0 [0, 1, 2, 3, 4, 5, 6, 7, 11, 12, 13] 83 ?a) => ?a) ?h
 case h =>
 intro zc zv zk zr hc hv hk hr
 have e0A := (rfl : rfA Go.Proofs.Try.prog 83 0 = rfA Go.Proofs.Try.prog 83 0); conv at e0A => rhs; cbv
 have e0B := (rfl : rfB Go.Proofs.Try.prog 83 0 = rfB Go.Proofs.Try.prog 83 0); conv at e0B => rhs; cbv
 conv => lhs; cbv; try simp only [hc, hv, hk, hr, zclE, zvlE, zklE, zrlE]; simp only [← e0A, ← e0B]
theorem f83_ok : compF Go.Proofs.Try.prog 0 [0, 1, 2, 3, 4, 5, 6, 7, 11, 12, 13] 83 = some f83 := by kernel_rfl
theorem f83_n : argsOK Go.Proofs.Try.prog 83 3 = true := by kernel_rfl
noncomputable def f83r0a : ACode := by
 refine (fun (_ : CzC zclE zvlE zklE zrlE Go.Proofs.Try.prog 0 14 [0, 1, 2, 3, 4, 5, 6, 7, 11, 12, 13] (rfA Go.Proofs.Try.prog 83 0) ?a) => ?a) ?h
 case h => intro zc zv zk zr hc hv hk hr; conv => lhs; cbv; try simp only [hc, hv, hk, hr, zclE, zvlE, zklE, zrlE]
theorem f83r0a_ok : compC Go.Proofs.Try.prog 0 14 [0, 1, 2, 3, 4, 5, 6, 7, 11, 12, 13] (rfA Go.Proofs.Try.prog 83 0) = some f83r0a := by kernel_rfl
noncomputable def f83r0b : ACode := by
 refine (fun (_ : CzC zclE zvlE zklE zrlE Go.Proofs.Try.prog 0 14 [0, 1, 2, 3, 4, 5, 6, 7, 11, 12, 13] (rfB Go.Proofs.Try.prog 83 0) ?a) => ?a) ?h
 case h => intro zc zv zk zr hc hv hk hr; conv => lhs; cbv; try simp only [hc, hv, hk, hr, zclE, zvlE, zklE, zrlE]
theorem f83r0b_ok : compC Go.Proofs.Try.prog 0 14 [0, 1, 2, 3, 4, 5, 6, 7, 11, 12, 13] (rfB Go.Proofs.Try.prog 83 0) = some f83r0b := by kernel_rfl
theorem f83r0_n : (noRF (rfA Go.Proofs.Try.prog 83 0) && noRF (rfB Go.Proofs.Try.prog 83 0)) = true := by kernel_rfl
noncomputable def f90 : AFunc := by
 refine (fun (_ : Cz zclE zvlE zklE zrlE Go.Proofs.Try.prog 0 [0, 1, 4, 5, 7, 8, 9, 16] 90 ?a) => ?a) ?h
 case h =>
 intro zc zv zk zr hc hv hk hr
 conv => lhs; cbv; try simp only [hc, hv, hk, hr, zclE, zvlE, zklE, zrlE]
theorem f90_ok : compF Go.Proofs.Try.prog 0 [0, 1, 4, 5, 7, 8, 9, 16] 90 = some f90 := by kernel_rfl
theorem f90_n : argsOK Go.Proofs.Try.prog 90 2 = true := by kernel_rfl
noncomputable def f91 : AFunc := by
 refine (fun (_ : Cz zclE zvlE zklE zrlE Go.Proofs.Try.prog 0 [0, 1, 4, 5, 7, 8, 9, 16] 91 ?a) => ?a) ?h
 case h =>
 intro zc zv zk zr hc hv hk hr
 conv => lhs; cbv; try simp only [hc, hv, hk, hr, zclE, zvlE, zklE, zrlE]
theorem f91_ok : compF Go.Proofs.Try.prog 0 [0, 1, 4, 5, 7, 8, 9, 16] 91 = some f91 := by kernel_rfl
theorem f91_n : argsOK Go.Proofs.Try.prog 91 2 = true := by kernel_rfl
noncomputable def f92 : AFunc := by
 refine (fun (_ : Cz zclE zvlE zklE zrlE Go.Proofs.Try.prog 0 [0, 1, 2, 3, 4, 6, 7, 8, 9, 16, 23, 24, 25, 26, 30, 31, 32, 41] 92 ?a) => ?a) ?h
 case h =>
 intro zc zv zk zr hc hv hk hr
 conv => lhs; cbv; try simp only [hc, hv, hk, hr, zclE, zvlE, zklE, zrlE]
theorem f92_ok : compF Go.Proofs.Try.prog 0 [0, 1, 2, 3, 4, 6, 7, 8, 9, 16, 23, 24, 25, 26, 30, 31, 32, 41] 92 = some f92 := by kernel_rfl
theorem f92_n : argsOK Go.Proofs.Try.prog 92 1 = true := by kernel_rfl
noncomputable def f103 : AFunc := by
 refine (fun (_ : Cz zclE zvlE zklE zrlE Go.Proofs.Try.prog 0 [0, 1, 3, 4, 5, 6, 7, 8, 9, 10, 18] 103 ?a) => ?a) ?h
 case h =>
 intro zc zv zk zr hc hv hk hr
 conv => lhs; cbv; try simp only [hc, hv, hk, hr, zclE, zvlE, zklE, zrlE]
theorem f103_ok : compF Go.Proofs.Try.prog 0 [0, 1, 3, 4, 5, 6, 7, 8, 9, 10, 18] 103 = some f103 := by kernel_rfl
theorem f103_n : argsOK Go.Proofs.Try.prog 103 2 = true := by kernel_rfl
noncomputable def f104 : AFunc := by
 refine (fun (_ : Cz zclE zvlE zklE zrlE Go.Proofs.Try.prog 0 [0, 2] 104 ?a) => ?a) ?h
 case h =>
 intro zc zv zk zr hc hv hk hr
 conv => lhs; cbv; try simp only [hc, hv, hk, hr, zclE, zvlE, zklE, zrlE]
theorem f104_ok : compF Go.Proofs.Try.prog 0 [0, 2] 104 = some f104 := by kernel_rfl
theorem f104_n : argsOK Go.Proofs.Try.prog 104 1 = true := by kernel_rfl
noncomputable def f105 : AFunc := by
 refine (fun (_ : Cz zclE zvlE zklE zrlE Go.Proofs.Try.prog 0 [0, 1, 4] 105 ?a) => ?a) ?h
 case h =>
 intro zc zv zk zr hc hv hk hr
 conv => lhs; cbv; try simp only [hc, hv, hk, hr, zclE, zvlE, zklE, zrlE]
theorem f105_ok : compF Go.Proofs.Try.prog 0 [0, 1, 4] 105 = some f105 := by kernel_rfl
theorem f105_n : argsOK Go.Proofs.Try.prog 105 2 = true := by kernel_rfl
noncomputable def f106 : AFunc := by
 refine (fun (_ : Cz zclE zvlE zklE zrlE Go.Proofs.Try.prog 0 [0, 1, 3, 4, 5, 6, 7, 8, 9, 10, 18] 106 ?a) => ?a) ?h
 case h =>
 intro zc zv zk zr hc hv hk hr
 conv => lhs; cbv; try simp only [hc, hv, hk, hr, zclE, zvlE, zklE, zrlE]
theorem f106_ok : compF Go.Proofs.Try.prog 0 [0, 1, 3, 4, 5, 6, 7, 8, 9, 10, 18] 106 = some f106 := by kernel_rfl
theorem f106_n : argsOK Go.Proofs.Try.prog 106 2 = true := by kernel_rfl
noncomputable def f107 : AFunc := by
 refine (fun (_ : Cz zclE zvlE zklE zrlE Go.Proofs.Try.prog 0 [0, 1, 2] 107 ?a) => ?a) ?h
 case h =>
 intro zc zv zk zr hc hv hk hr
 conv => lhs; cbv; try simp only [hc, hv, hk, hr, zclE, zvlE, zklE, zrlE]
theorem f107_ok : compF Go.Proofs.Try.prog 0 [0, 1, 2] 107 = some f107 := by kernel_rfl
theorem f107_n : argsOK Go.Proofs.Try.prog 107 1 = true := by kernel_rfl
noncomputable def f108 : AFunc := by
 refine (fun (_ : Cz zclE zvlE zklE zrlE Go.Proofs.Try.prog 0 [0, 1, 3, 4] 108 ?a) => ?a) ?h
 case h =>
 intro zc zv zk zr hc hv hk hr
 conv => lhs; cbv; try simp only [hc, hv, hk, hr, zclE, zvlE, zklE, zrlE]
theorem f108_ok : compF Go.Proofs.Try.prog 0 [0, 1, 3, 4] 108 = some f108 := by kernel_rfl
theorem f108_n : argsOK Go.Proofs.Try.prog 108 2 = true := by kernel_rfl
noncomputable def f109 : AFunc := by
 refine (fun (_ : Cz zclE zvlE zklE zrlE Go.Proofs.Try.prog 0 [0, 1, 4, 6, 16] 109 ?a) => ?a) ?h
 case h =>
 intro zc zv zk zr hc hv hk hr
 conv => lhs; cbv; try simp only [hc, hv, hk, hr, zclE, zvlE, zklE, zrlE]
theorem f109_ok : compF Go.Proofs.Try.prog 0 [0, 1, 4, 6, 16] 109 = some f109 := by kernel_rfl
theorem f109_n : argsOK Go.Proofs.Try.prog 109 2 = true := by kernel_rfl
noncomputable def f110 : AFunc := by
 refine (fun (_ : Cz zclE zvlE zklE zrlE Go.Proofs.Try.prog 0 [0, 1, 4, 6, 16] 110 ?a) => ?a) ?h
 case h =>
 intro zc zv zk zr hc hv hk hr
 conv => lhs; cbv; try simp only [hc, hv, hk, hr, zclE, zvlE, zklE, zrlE]
theorem f110_ok : compF Go.Proofs.Try.prog 0 [0, 1, 4, 6, 16] 110 = some f110 := by kernel_rfl
theorem f110_n : argsOK Go.Proofs.Try.prog 110 2 = true := by kernel_rfl
noncomputable def f111 : AFunc := by
 refine (fun (_ : Cz zclE zvlE zklE zrlE Go.Proofs.Try.prog 0 [0, 1, 2, 3, 4, 5, 6] 111 ?a) => ?a) ?h
 case h =>
 intro zc zv zk zr hc hv hk hr
 conv => lhs; cbv; try simp only [hc, hv, hk, hr, zclE, zvlE, zklE, zrlE]
theorem f111_ok : compF Go.Proofs.Try.prog 0 [0, 1, 2, 3, 4, 5, 6] 111 = some f111 := by kernel_rfl
theorem f111_n : argsOK Go.Proofs.Try.prog 111 3 = true := by kernel_rfl
noncomputable def f115 : AFunc := by
 refine (fun (_ : Cz zclE zvlE zklE zrlE Go.Proofs.Try.prog 0 [0, 1, 2, 4] 115 ?a) => ?a) ?h
 case h =>
 intro zc zv zk zr hc hv hk hr
 conv => lhs; cbv; try simp only [hc, hv, hk, hr, zclE, zvlE, zklE, zrlE]
theorem f115_ok : compF Go.Proofs.Try.prog 0 [0, 1, 2, 4] 115 = some f115 := by kernel_rfl
theorem f115_n : argsOK Go.Proofs.Try.prog 115 3 = true := by kernel_rfl
noncomputable def f116 : AFunc := by
 refine (fun (_ : Cz zclE zvlE zklE zrlE Go.Proofs.Try.prog 0 [0, 1, 4, 5, 7, 8, 9, 16] 116 ?a) => ?a) ?h
 case h =>
 intro zc zv zk zr hc hv hk hr
 conv => lhs; cbv; try simp only [hc, hv, hk, hr, zclE, zvlE, zklE, zrlE]
theorem f116_ok : compF Go.Proofs.Try.prog 0 [0, 1, 4, 5, 7, 8, 9, 16] 116 = some f116 := by kernel_rfl
theorem f116_n : argsOK Go.Proofs.Try.prog 116 2 = true := by kernel_rfl
noncomputable def f117 : AFunc := by
 refine (fun (_ : Cz zclE zvlE zklE zrlE Go.Proofs.Try.prog 0 [0, 1, 2, 3, 4] 117 ?a) => ?a) ?h
 case h =>
 intro zc zv zk zr hc hv hk hr
 conv => lhs; cbv; try simp only [hc, hv, hk, hr, zclE, zvlE, zklE, zrlE]
theorem f117_ok : compF Go.Proofs.Try.prog 0 [0, 1, 2, 3, 4] 117 = some f117 := by kernel_rfl
theorem f117_n : argsOK Go.Proofs.Try.prog 117 3 = true := by kernel_rfl
noncomputable def f118 : AFunc := by
 refine (fun (_ : Cz zclE zvlE zklE zrlE Go.Proofs.Try.prog 0 [0, 1, 2, 3] 118 ?a) => ?a) ?h
 case h =>
 intro zc zv zk zr hc hv hk hr
 conv => lhs; cbv; try simp only [hc, hv, hk, hr, zclE, zvlE, zklE, zrlE]
theorem f118_ok : compF Go.Proofs.Try.prog 0 [0, 1, 2, 3] 118 = some f118 := by kernel_rfl
theorem f118_n : argsOK Go.Proofs.Try.prog 118 2 = true := by kernel_rfl
noncomputable def f119 : AFunc := by
 refine (fun (_ : Cz zclE zvlE zklE zrlE Go.Proofs.Try.prog 0 [0, 1, 2, 3, 5, 6, 8, 9, 10, 11, 12, 13, 14, 15, 16, 17, 18, 26, 31, 32, 33, 34, 42, 49, 50, 51, 52, 105] 119 ?a) => ?a) ?h
 case h =>
 intro zc zv zk zr hc hv hk hr
 conv => lhs; cbv; try simp only [hc, hv, hk, hr, zclE, zvlE, zklE, zrlE]
theorem f119_ok : compF Go.Proofs.Try.prog 0 [0, 1, 2, 3, 5, 6, 8, 9, 10, 11, 12, 13, 14, 15, 16, 17, 18, 26, 31, 32, 33, 34, 42, 49, 50, 51, 52, 105] 119 = some f119 := by kernel_rfl
theorem f119_n : argsOK Go.Proofs.Try.prog 119 4 = true := by kernel_rfl
noncomputable def f120 : AFunc := by
 refine (fun (_ : Cz zclE zvlE zklE zrlE Go.Proofs.Try.prog 0 [0, 1, 2, 3, 5, 9, 10, 11] 120 ?a) => ?a) ?h
 case h =>
 intro zc zv zk zr hc hv hk hr
 have e0A := (rfl : rfA Go.Proofs.Try.prog 120 0 = rfA Go.Proofs.Try.prog 120 0); conv at e0A => rhs; cbv
 have e0B := (rfl : rfB Go.Proofs.Try.prog 120 0 = rfB Go.Proofs.Try.prog 120 0); conv at e0B => rhs; cbv
 conv => lhs; cbv; try simp only [hc, hv, hk, hr, zclE, zvlE, zklE, zrlE]; simp only [← e0A, ← e0B]
theorem f120_ok : compF Go.Proofs.Try.prog 0 [0, 1, 2, 3, 5, 9, 10, 11] 120 = some f120 := by kernel_rfl
theorem f120_n : argsOK Go.Proofs.Try.prog 120 1 = true := by kernel_rfl
noncomputable def f120r0a : ACode := by
 refine (fun (_ : CzC zclE zvlE zklE zrlE Go.Proofs.Try.prog 0 18 [0, 1, 2, 3, 5, 9, 10, 11] (rfA Go.Proofs.Try.prog 120 0) ?a) => ?a) ?h
 case h => intro zc zv zk zr hc hv hk hr; conv => lhs; cbv; try simp only [hc, hv, hk, hr, zclE, zvlE, zklE, zrlE]
theorem f120r0a_ok : compC Go.Proofs.Try.prog 0 18 [0, 1, 2, 3, 5, 9, 10, 11] (rfA Go.Proofs.Try.prog 120 0) = some f120r0a := by kernel_rfl
noncomputable def f120r0b : ACode := by
 refine (fun (_ : CzC zclE zvlE zklE zrlE Go.Proofs.Try.prog 0 18 [0, 1, 2, 3, 5, 9, 10, 11] (rfB Go.Proofs.Try.prog 120 0) ?a) => ?a) ?h
 case h => intro zc zv zk zr hc hv hk hr; conv => lhs; cbv; try simp only [hc, hv, hk, hr, zclE, zvlE, zklE, zrlE]
theorem f120r0b_ok : compC Go.Proofs.Try.prog 0 18 [0, 1, 2, 3, 5, 9, 10, 11] (rfB Go.Proofs.Try.prog 120 0) = some f120r0b := by kernel_rfl
theorem f120r0_n : (noRF (rfA Go.Proofs.Try.prog 120 0) && noRF (rfB Go.Proofs.Try.prog 120 0)) = true := by kernel_rfl
noncomputable def f121 : AFunc := by
 refine (fun (_ : Cz zclE zvlE zklE zrlE Go.Proofs.Try.prog 0 [0, 1, 2] 121 ?a) => ?a) ?h
 case h =>
 intro zc zv zk zr hc hv hk hr
 conv => lhs; cbv; try simp only [hc, hv, hk, hr, zclE, zvlE, zklE, zrlE]
theorem f121_ok : compF Go.Proofs.Try.prog 0 [0, 1, 2] 121 = some f121 := by kernel_rfl
theorem f121_n : argsOK Go.Proofs.Try.prog 121 1 = true := by kernel_rfl
noncomputable def f122 : AFunc := by
 refine (fun (_ : Cz zclE zvlE zklE zrlE Go.Proofs.Try.prog 0 [0, 1, 3, 8, 18] 122 ?a) => ?a) ?h
 case h =>
 intro zc zv zk zr hc hv hk hr
 conv => lhs; cbv; try simp only [hc, hv, hk, hr, zclE, zvlE, zklE, zrlE]
theorem f122_ok : compF Go.Proofs.Try.prog 0 [0, 1, 3, 8, 18] 122 = some f122 := by kernel_rfl
theorem f122_n : argsOK Go.Proofs.Try.prog 122 2 = true := by kernel_rfl
end Go.AM.F

set_option linter.unusedSimpArgs false
set_option linter.unusedVariables false
namespace Go.AM.Fd
open Nat (reduceAdd reduceEqDiff reduceLT reduceLeDiff reduceMul reduceSub)
open Go.Proofs Go.AM.F
def WRr (H : AHeap) (e esz : Nat) (v : Value) (rows : List (List Value)) : Prop := WR H e esz v rows.length rows.flatten ∧ ∀ r ∈ rows, r.length = esz
theorem WRr.sl {H : AHeap} {e esz : Nat} {v : Value} {rows : List (List Value)} (h : WRr H e esz v rows) : Sl H esz v rows := h.1.sl h.2 rfl
theorem WRr.keeps {H K : AHeap} {e esz : Nat} {v : Value} {rows : List (List Value)} (h : WRr H e esz v rows) (k : Keeps H K) : WRr K e esz v rows := ⟨h.1.keeps k, h.2⟩
theorem WRr.pre {H : AHeap} {e esz : Nat} {v : Value} {rows : List (List Value)} (h : WRr H e esz v rows) {kd : IntKind} {i : Nat} (hi : i ≤ rows.length) : ∃ w, asem (.slsl esz v none (some (.int kd (i : Nat))) none) H = some (w, H) ∧ Sl H esz w (rows.take i) := by
  have hr : ∀ r ∈ rows.take i, r.length = esz := fun r hm => h.2 r (List.mem_of_mem_take hm)
  rcases h.1 with ⟨rfl, h1, h2⟩ | ⟨b, k, room, d, rfl, h1, h2, h3, h4⟩
  · have : rows = [] := List.eq_nil_of_length_eq_zero h1
    subst this
    have : i = 0 := by simpa using hi
    subst this
    exact ⟨_, a_slsl_nil ⟨0, 0, 0, bnd_none 0 0, bnd_some kd 0 0 0 (Nat.le_refl _), bnd_none 0 0⟩, Sl.nil _ _⟩
  · refine ⟨_, a_slsl h4 (bnd_none _ _) (bnd_some kd i rows.length k (by omega)) (bnd_none 0 i), ⟨⟨_, _, by rw [List.length_take, Nat.min_eq_left hi, Nat.sub_zero]; rfl⟩, hr, ?_⟩⟩
    have hle : i * esz ≤ k * esz := Nat.mul_le_mul_right _ (by omega)
    have hle2 : i * esz ≤ rows.length * esz := Nat.mul_le_mul_right _ hi
    simp only [elemsA, slc, h4, Nat.zero_mul, Nat.add_zero, Nat.zero_add, Nat.sub_zero]
    rw [if_pos (by omega), List.drop_zero]
    congr 1
    have e : rows.flatten = (rows.take i).flatten ++ (rows.drop i).flatten := by rw [← List.flatten_append, List.take_append_drop]
    have hl : (rows.take i).flatten.length = i * esz := by rw [flat_len hr, List.length_take, Nat.min_eq_left hi]
    have e2 : d.take (i * esz) = (d.take (rows.length * esz)).take (i * esz) := by rw [List.take_take, Nat.min_eq_left hle2]
    rw [e2, h3, e, ← hl, List.take_left]
theorem t109 (H : AHeap) (n : Nat) (hn : n ≤ 1000000) : ∃ w H', ARun Go.Proofs.Try.prog 0 109 [.slice none 0 0, .int .i64 (n : Nat)] H w H' ∧ WR H' 3 1 w 0 [] ∧ Keeps H H' ∧ Fresh H.n w := by
  refine walk2 f109_ok f109_n ?_
  intro Q hq1 hq2
  have h0 : ¬ ((n : Nat) : Int) < 0 := by omega
  have hw0 : IntKind.i64.wrap (0 - ((0 : Nat) : Int)) = 0 := rfl
  have hw : IntKind.i64.wrap ((n : Int) - 0) = (n : Nat) := by rw [wrap_i64 (by omega) (by omega)]; omega
  have hs := a_slsl_nil (H := H) (esz := 1) (lo := none) (hi := some (.int .i64 0)) (mx := none) ⟨0, 0, 0, bnd_none 0 0, bnd_some .i64 0 0 0 (Nat.le_refl _), bnd_none 0 0⟩
  by_cases hz : n = 0
  · subst hz
    have h1 : ¬ (0 : Int) < ((0 : Nat) : Int) := by omega
    simp (disch := first | assumption | omega | (simp only [LN] <;> omega) | (simp (disch := first | assumption | omega | (simp only [LN] <;> omega)) only [row_alloc, row_set]; assumption)) only [f109, W_block, P3, ↓reduceIte, reduceAdd, reduceEqDiff, reduceCtorEq, initFr, reduceLT, clsA, reduceLeDiff, reduceMul, reduceSub, reduceIte, st_cap, st_appz, hw0, hw, a_cap0, lenS]
    exact hq2 _ _ ⟨.slice none 0 0, rfl, .inl ⟨rfl, rfl, rfl⟩, Keeps.refl _, fun b hb => by cases hb⟩
  · have h1 : (0 : Int) < ((n : Nat) : Int) := by omega
    have hlen : (List.replicate n [Value.int .i64 0]).flatten.length = n * 1 := by simp
    have ha : asem (.appz 3 1 8 [Value.int .i64 0] (.slice none 0 0) (.int .i64 (n : Nat))) H = some (slc H.n 0 n n, H.alloc (.cells true true 1 (List.replicate n [Value.int .i64 0]).flatten 3)) := by
      simp only [asem, Int.toNat_natCast, appA, if_neg hz]
      rw [if_pos (by omega)]
      simp only [and_self, if_true]
      rw [if_pos (by omega)]
    have hs2 := a_slsl (AHeap.get_alloc_new H (.cells true true 1 (List.replicate n [Value.int .i64 0]).flatten 3)) (o := 0) (n := n) (k := n) (lo := none) (hi := some (.int .i64 (0 : Nat))) (mx := none) (bnd_none _ _) (bnd_some .i64 0 n n (by omega)) (bnd_none 0 0)
    simp only [slc] at ha hs2
    simp (disch := first | assumption | omega | (simp only [LN] <;> omega) | (simp (disch := first | assumption | omega | (simp only [LN] <;> omega)) only [row_alloc, row_set]; assumption)) only [f109, W_block, P3, ↓reduceIte, reduceAdd, reduceEqDiff, reduceCtorEq, initFr, reduceLT, clsA, reduceLeDiff, reduceMul, reduceSub, reduceIte, st_cap, st_appz, hw0, hw, a_cap0, lenS, hs, ha, hs2]
    exact hq2 _ _ ⟨slc H.n 0 0 n, rfl, .inr ⟨H.n, n, true, _, rfl, Nat.zero_le _, hlen, by simp, AHeap.get_alloc_new H _⟩, (Keeps.refl H).alloc _, fun b hb => by cases hb; exact Nat.le_refl _⟩
theorem t81 {H : AHeap} {V : Value} {vs : List (Value × List (List Value))} (hV : Sl H 1 V (vs.map fun x => [x.1])) (hx : ∀ x ∈ vs, Sl H 1 x.1 x.2) (hl : vs.length ≤ 1000) (hT : (vs.map (·.2.length)).sum ≤ 1000000) :
    ∃ w H', ARun Go.Proofs.Try.prog 0 81 [V] H w H' ∧ WRr H' 3 1 w (vs.map (·.2)).flatten ∧ Keeps H H' ∧ Fresh H.n w := by
  refine walk2 f81_ok f81_n ?_
  intro Q hq1 hq2
  have iV := Sl.is hV
  have lV : lenS V = vs.length := by have := Sl.len hV; simpa using this
  have el : ∀ {i : Nat} (hi : i < vs.length) {K : AHeap}, Keeps H K → nnS V = true ∧ rowA K 1 V i = some [vs[i].1] := fun {i} hi {K} k => by
    have := Sl.at_ (hV.keeps k) (by omega) (i := i) (by simpa using hi)
    simpa using this
  have tk : ∀ {i : Nat} (hi : i < vs.length), ((vs.take (i + 1)).map (·.2.length)).sum = ((vs.take i).map (·.2.length)).sum + vs[i].2.length := fun {i} hi => by
    rw [List.take_succ_eq_append_getElem hi, List.map_append, List.sum_append]; simp
  have tle : ∀ i, ((vs.take i).map (·.2.length)).sum ≤ 1000000 := fun i => by
    have : vs = vs.take i ++ vs.drop i := (List.take_append_drop i vs).symm
    rw [this, List.map_append, List.sum_append] at hT; omega
  simp (disch := first | assumption | omega | (simp only [LN] <;> omega) | (simp (disch := first | assumption | omega | (simp only [LN] <;> omega)) only [row_alloc, row_set]; assumption)) only [ f81, P3, ↓reduceIte, reduceAdd, reduceEqDiff, reduceCtorEq, initFr, reduceLT, clsA, reduceLeDiff, reduceMul, reduceSub, reduceIte, lV]
  rw [W_block]
  refine W_loop2 (fun k fr K => ∃ i x3 x9 x10, fr = [V, .slice none 0 0, .int .i64 (((vs.take i).map (·.2.length)).sum : Nat), x3, undef, undef, V, .int .i64 ((vs.length : Nat) : Int), .int .i64 ((i : Nat) : Int), x9, x10, undef, undef, undef, undef] ∧ K = H ∧ i ≤ vs.length ∧ k = vs.length - i) vs.length
    ⟨0, _, _, _, rfl, rfl, by omega, rfl⟩ ?_
  rintro Q' k fr K0 ⟨i, x3, x9, x10, rfl, rfl, hi, rfl⟩ hn hx1 hret
  by_cases hlt : i < vs.length
  · obtain ⟨na, ra⟩ := el hlt (Keeps.refl _)
    have h0 : (0 : Int) ≤ (i : Int) := by omega
    have h1 : (i : Int) < ((vs.length : Nat) : Int) := by omega
    have hw : IntKind.i64.wrap ((i : Int) + 1) = ((i + 1 : Nat) : Int) := by rw [wrap_i64 (by omega) (by omega)]; simp
    have lx : lenS vs[i].1 = vs[i].2.length := Sl.len (hx _ (List.getElem_mem _))
    have ix := Sl.is (hx _ (List.getElem_mem hlt))
    have hs : IntKind.i64.wrap ((((vs.take i).map (·.2.length)).sum : Nat) + (vs[i].2.length : Nat) : Int) = ((((vs.take (i + 1)).map (·.2.length)).sum : Nat) : Int) := by
      have := tle (i + 1); have := tk hlt
      rw [wrap_i64 (by omega) (by omega)]; omega
    have hneg : ¬ ((((vs.take (i + 1)).map (·.2.length)).sum : Nat) : Int) < 0 := by omega
    simp (disch := first | assumption | omega | (simp only [LN] <;> omega) | (simp (disch := first | assumption | omega | (simp only [LN] <;> omega)) only [row_alloc, row_set]; assumption)) only [W_block, P3, ↓reduceIte, reduceAdd, reduceEqDiff, reduceCtorEq, initFr, reduceLT, clsA, reduceLeDiff, reduceMul, reduceSub, reduceIte, lV, ra, na, a_load1v, hw, lx, hs]
    exact hn _ _ _ ⟨i + 1, _, _, _, rfl, rfl, by omega, rfl⟩ (by omega)
  · have h1 : ¬ (i : Int) < ((vs.length : Nat) : Int) := by omega
    have : i = vs.length := by omega
    subst this
    simp (disch := first | assumption | omega | (simp only [LN] <;> omega) | (simp (disch := first | assumption | omega | (simp only [LN] <;> omega)) only [row_alloc, row_set]; assumption)) only [W_block, P3, ↓reduceIte, reduceAdd, reduceEqDiff, reduceCtorEq, initFr, reduceLT, clsA, reduceLeDiff, reduceMul, reduceSub, reduceIte, lV]
    refine hx1 0 _ _ ?_
    simp (disch := first | assumption | omega | (simp only [LN] <;> omega) | (simp (disch := first | assumption | omega | (simp only [LN] <;> omega)) only [row_alloc, row_set]; assumption)) only [ P3, ↓reduceIte, reduceAdd, reduceEqDiff, reduceCtorEq, initFr, reduceLT, clsA, reduceLeDiff, reduceMul, reduceSub, reduceIte]
    refine callK (t109 _ _ (tle _)) ?_
    rintro w K ⟨wr, kk, fw⟩
    simp (disch := first | assumption | omega | (simp only [LN] <;> omega) | (simp (disch := first | assumption | omega | (simp only [LN] <;> omega)) only [row_alloc, row_set]; assumption)) only [ P3, ↓reduceIte, reduceAdd, reduceEqDiff, reduceCtorEq, initFr, reduceLT, clsA, reduceLeDiff, reduceMul, reduceSub, reduceIte, lV]
    rw [W_block]
    refine W_loop2 (fun k fr M => ∃ i w x3 x5 x9 x10 x14, fr = [V, .slice none 0 0, .int .i64 (((vs.take vs.length).map (·.2.length)).sum : Nat), x3, w, x5, V, .int .i64 ((vs.length : Nat) : Int), .int .i64 ((vs.length : Nat) : Int), x9, x10, V, .int .i64 ((vs.length : Nat) : Int), .int .i64 ((i : Nat) : Int), x14] ∧
        WR M 3 1 w ((vs.take i).map (·.2.length)).sum ((vs.take i).map (·.2)).flatten.flatten ∧ Keeps K0 M ∧ Fresh K0.n w ∧ i ≤ vs.length ∧ k = vs.length - i) vs.length
      ⟨0, w, _, _, _, _, _, rfl, wr, kk, fw, by omega, rfl⟩ ?_
    clear wr kk fw w K
    rintro Q2 k fr M ⟨i, w, x3, x5, x9, x10, x14, rfl, wr, kk, fw, hi, rfl⟩ hn2 hx2 hret2
    by_cases hlt : i < vs.length
    · obtain ⟨na, ra⟩ := el hlt kk
      have h0 : (0 : Int) ≤ (i : Int) := by omega
      have h1 : (i : Int) < ((vs.length : Nat) : Int) := by omega
      have hw : IntKind.i64.wrap ((i : Int) + 1) = ((i + 1 : Nat) : Int) := by rw [wrap_i64 (by omega) (by omega)]; simp
      have sx := (hx _ (List.getElem_mem hlt)).keeps kk
      have iw := wr.is
      have t1 := tk hlt
      have t2 := tle (i + 1)
      simp (disch := first | assumption | omega | (simp only [LN] <;> omega) | (simp (disch := first | assumption | omega | (simp only [LN] <;> omega)) only [row_alloc, row_set]; assumption)) only [W_block, P3, ↓reduceIte, reduceAdd, reduceEqDiff, reduceCtorEq, initFr, reduceLT, clsA, reduceLeDiff, reduceMul, reduceSub, reduceIte, lV, ra, na, a_load1v]
      refine wr.appR (bytes := 8) sx.sh sx.el (flat_len sx.row) (by omega) ?_
      intro w' M' wr' c' hb'
      simp (disch := first | assumption | omega | (simp only [LN] <;> omega) | (simp (disch := first | assumption | omega | (simp only [LN] <;> omega)) only [row_alloc, row_set]; assumption)) only [W_block, P3, ↓reduceIte, reduceAdd, reduceEqDiff, reduceCtorEq, initFr, reduceLT, clsA, reduceLeDiff, reduceMul, reduceSub, reduceIte, hw]
      refine hn2 _ _ _ ⟨i + 1, w', _, _, _, _, _, rfl, ?_, kk.chg_trans c' (fun x hx => fw x (mem_blkL.1 hx)), fun b hb => ?_, by omega, rfl⟩ (by omega)
      · rw [t1]
        have e : ((vs.take (i + 1)).map (·.2)).flatten.flatten = ((vs.take i).map (·.2)).flatten.flatten ++ vs[i].2.flatten := by
          rw [List.take_succ_eq_append_getElem hlt, List.map_append, List.flatten_append, List.flatten_append]; simp
        rw [e]; exact wr'
      · rcases hb' with e | e
        · exact fw b (by rw [← e]; exact hb)
        · rw [e] at hb; cases hb; exact kk.n
    · have h1 : ¬ (i : Int) < ((vs.length : Nat) : Int) := by omega
      have : i = vs.length := by omega
      subst this
      simp (disch := first | assumption | omega | (simp only [LN] <;> omega) | (simp (disch := first | assumption | omega | (simp only [LN] <;> omega)) only [row_alloc, row_set]; assumption)) only [W_block, P3, ↓reduceIte, reduceAdd, reduceEqDiff, reduceCtorEq, initFr, reduceLT, clsA, reduceLeDiff, reduceMul, reduceSub, reduceIte, lV]
      refine hx2 2 _ _ ?_
      simp (disch := first | assumption | omega | (simp only [LN] <;> omega) | (simp (disch := first | assumption | omega | (simp only [LN] <;> omega)) only [row_alloc, row_set]; assumption)) only [W_block, P3, ↓reduceIte, reduceAdd, reduceEqDiff, reduceCtorEq, initFr, reduceLT, clsA, reduceLeDiff, reduceMul, reduceSub, reduceIte]
      refine hq2 _ _ ⟨_, rfl, ?_, kk, fw⟩
      rw [List.take_length] at wr
      refine ⟨?_, fun r hr => ?_⟩
      · have e : (vs.map (·.2)).flatten.length = (vs.map (·.2.length)).sum := by simp [List.length_flatten, List.map_map, Function.comp_def]
        rw [e]; exact wr
      · obtain ⟨l, hl, hm⟩ := List.mem_flatten.1 hr
        obtain ⟨x, hxm, rfl⟩ := List.mem_map.1 hl
        exact (hx x hxm).row r hm
theorem t110 (H : AHeap) (n : Nat) (hn : n ≤ 1000000) : ∃ w H', ARun Go.Proofs.Try.prog 0 110 [.slice none 0 0, .int .i64 (n : Nat)] H w H' ∧ WR H' 68 2 w 0 [] ∧ Keeps H H' ∧ Fresh H.n w := by
  refine walk2 f110_ok f110_n ?_
  intro Q hq1 hq2
  have h0 : ¬ ((n : Nat) : Int) < 0 := by omega
  have hw0 : IntKind.i64.wrap (0 - ((0 : Nat) : Int)) = 0 := rfl
  have hw : IntKind.i64.wrap ((n : Int) - 0) = (n : Nat) := by rw [wrap_i64 (by omega) (by omega)]; omega
  have hs := a_slsl_nil (H := H) (esz := 2) (lo := none) (hi := some (.int .i64 0)) (mx := none) ⟨0, 0, 0, bnd_none 0 0, bnd_some .i64 0 0 0 (Nat.le_refl _), bnd_none 0 0⟩
  by_cases hz : n = 0
  · subst hz
    have h1 : ¬ (0 : Int) < ((0 : Nat) : Int) := by omega
    simp (disch := first | assumption | omega | (simp only [LN] <;> omega) | (simp (disch := first | assumption | omega | (simp only [LN] <;> omega)) only [row_alloc, row_set]; assumption)) only [f110, W_block, P3, ↓reduceIte, reduceAdd, reduceEqDiff, reduceCtorEq, initFr, reduceLT, clsA, reduceLeDiff, reduceMul, reduceSub, reduceIte, st_cap, st_appz, hw0, hw, a_cap0, lenS]
    exact hq2 _ _ ⟨.slice none 0 0, rfl, .inl ⟨rfl, rfl, rfl⟩, Keeps.refl _, fun b hb => by cases hb⟩
  · have h1 : (0 : Int) < ((n : Nat) : Int) := by omega
    have hlen : (List.replicate n [Value.int .i64 0, Value.bool false]).flatten.length = n * 2 := by simp
    have ha : asem (.appz 68 2 16 [Value.int .i64 0, Value.bool false] (.slice none 0 0) (.int .i64 (n : Nat))) H = some (slc H.n 0 n n, H.alloc (.cells true true 2 (List.replicate n [Value.int .i64 0, Value.bool false]).flatten 68)) := by
      simp only [asem, Int.toNat_natCast, appA, if_neg hz]
      rw [if_pos (by omega)]
      simp only [and_self, if_true]
      rw [if_pos (by omega)]
    have hs2 := a_slsl (AHeap.get_alloc_new H (.cells true true 2 (List.replicate n [Value.int .i64 0, Value.bool false]).flatten 68)) (o := 0) (n := n) (k := n) (lo := none) (hi := some (.int .i64 (0 : Nat))) (mx := none) (bnd_none _ _) (bnd_some .i64 0 n n (by omega)) (bnd_none 0 0)
    simp only [slc] at ha hs2
    simp (disch := first | assumption | omega | (simp only [LN] <;> omega) | (simp (disch := first | assumption | omega | (simp only [LN] <;> omega)) only [row_alloc, row_set]; assumption)) only [f110, W_block, P3, ↓reduceIte, reduceAdd, reduceEqDiff, reduceCtorEq, initFr, reduceLT, clsA, reduceLeDiff, reduceMul, reduceSub, reduceIte, st_cap, st_appz, hw0, hw, a_cap0, lenS, hs, ha, hs2]
    exact hq2 _ _ ⟨slc H.n 0 0 n, rfl, .inr ⟨H.n, n, true, _, rfl, Nat.zero_le _, hlen, by simp, AHeap.get_alloc_new H _⟩, (Keeps.refl H).alloc _, fun b hb => by cases hb; exact Nat.le_refl _⟩
theorem t82 {H : AHeap} {V : Value} {vs : List (Value × List (List Value))} (hV : Sl H 1 V (vs.map fun x => [x.1])) (hx : ∀ x ∈ vs, Sl H 2 x.1 x.2) (hl : vs.length ≤ 1000) (hT : (vs.map (·.2.length)).sum ≤ 1000000) :
    ∃ w H', ARun Go.Proofs.Try.prog 0 82 [V] H w H' ∧ WRr H' 68 2 w (vs.map (·.2)).flatten ∧ Keeps H H' ∧ Fresh H.n w := by
  refine walk2 f82_ok f82_n ?_
  intro Q hq1 hq2
  have iV := Sl.is hV
  have lV : lenS V = vs.length := by have := Sl.len hV; simpa using this
  have el : ∀ {i : Nat} (hi : i < vs.length) {K : AHeap}, Keeps H K → nnS V = true ∧ rowA K 1 V i = some [vs[i].1] := fun {i} hi {K} k => by
    have := Sl.at_ (hV.keeps k) (by omega) (i := i) (by simpa using hi)
    simpa using this
  have tk : ∀ {i : Nat} (hi : i < vs.length), ((vs.take (i + 1)).map (·.2.length)).sum = ((vs.take i).map (·.2.length)).sum + vs[i].2.length := fun {i} hi => by
    rw [List.take_succ_eq_append_getElem hi, List.map_append, List.sum_append]; simp
  have tle : ∀ i, ((vs.take i).map (·.2.length)).sum ≤ 1000000 := fun i => by
    have : vs = vs.take i ++ vs.drop i := (List.take_append_drop i vs).symm
    rw [this, List.map_append, List.sum_append] at hT; omega
  simp (disch := first | assumption | omega | (simp only [LN] <;> omega) | (simp (disch := first | assumption | omega | (simp only [LN] <;> omega)) only [row_alloc, row_set]; assumption)) only [ f82, P3, ↓reduceIte, reduceAdd, reduceEqDiff, reduceCtorEq, initFr, reduceLT, clsA, reduceLeDiff, reduceMul, reduceSub, reduceIte, lV]
  rw [W_block]
  refine W_loop2 (fun k fr K => ∃ i x3 x9 x10, fr = [V, .slice none 0 0, .int .i64 (((vs.take i).map (·.2.length)).sum : Nat), x3, undef, undef, V, .int .i64 ((vs.length : Nat) : Int), .int .i64 ((i : Nat) : Int), x9, x10, undef, undef, undef, undef] ∧ K = H ∧ i ≤ vs.length ∧ k = vs.length - i) vs.length
    ⟨0, _, _, _, rfl, rfl, by omega, rfl⟩ ?_
  rintro Q' k fr K0 ⟨i, x3, x9, x10, rfl, rfl, hi, rfl⟩ hn hx1 hret
  by_cases hlt : i < vs.length
  · obtain ⟨na, ra⟩ := el hlt (Keeps.refl _)
    have h0 : (0 : Int) ≤ (i : Int) := by omega
    have h1 : (i : Int) < ((vs.length : Nat) : Int) := by omega
    have hw : IntKind.i64.wrap ((i : Int) + 1) = ((i + 1 : Nat) : Int) := by rw [wrap_i64 (by omega) (by omega)]; simp
    have lx : lenS vs[i].1 = vs[i].2.length := Sl.len (hx _ (List.getElem_mem _))
    have ix := Sl.is (hx _ (List.getElem_mem hlt))
    have hs : IntKind.i64.wrap ((((vs.take i).map (·.2.length)).sum : Nat) + (vs[i].2.length : Nat) : Int) = ((((vs.take (i + 1)).map (·.2.length)).sum : Nat) : Int) := by
      have := tle (i + 1); have := tk hlt
      rw [wrap_i64 (by omega) (by omega)]; omega
    have hneg : ¬ ((((vs.take (i + 1)).map (·.2.length)).sum : Nat) : Int) < 0 := by omega
    simp (disch := first | assumption | omega | (simp only [LN] <;> omega) | (simp (disch := first | assumption | omega | (simp only [LN] <;> omega)) only [row_alloc, row_set]; assumption)) only [W_block, P3, ↓reduceIte, reduceAdd, reduceEqDiff, reduceCtorEq, initFr, reduceLT, clsA, reduceLeDiff, reduceMul, reduceSub, reduceIte, lV, ra, na, a_load1v, hw, lx, hs]
    exact hn _ _ _ ⟨i + 1, _, _, _, rfl, rfl, by omega, rfl⟩ (by omega)
  · have h1 : ¬ (i : Int) < ((vs.length : Nat) : Int) := by omega
    have : i = vs.length := by omega
    subst this
    simp (disch := first | assumption | omega | (simp only [LN] <;> omega) | (simp (disch := first | assumption | omega | (simp only [LN] <;> omega)) only [row_alloc, row_set]; assumption)) only [W_block, P3, ↓reduceIte, reduceAdd, reduceEqDiff, reduceCtorEq, initFr, reduceLT, clsA, reduceLeDiff, reduceMul, reduceSub, reduceIte, lV]
    refine hx1 0 _ _ ?_
    simp (disch := first | assumption | omega | (simp only [LN] <;> omega) | (simp (disch := first | assumption | omega | (simp only [LN] <;> omega)) only [row_alloc, row_set]; assumption)) only [ P3, ↓reduceIte, reduceAdd, reduceEqDiff, reduceCtorEq, initFr, reduceLT, clsA, reduceLeDiff, reduceMul, reduceSub, reduceIte]
    refine callK (t110 _ _ (tle _)) ?_
    rintro w K ⟨wr, kk, fw⟩
    simp (disch := first | assumption | omega | (simp only [LN] <;> omega) | (simp (disch := first | assumption | omega | (simp only [LN] <;> omega)) only [row_alloc, row_set]; assumption)) only [ P3, ↓reduceIte, reduceAdd, reduceEqDiff, reduceCtorEq, initFr, reduceLT, clsA, reduceLeDiff, reduceMul, reduceSub, reduceIte, lV]
    rw [W_block]
    refine W_loop2 (fun k fr M => ∃ i w x3 x5 x9 x10 x14, fr = [V, .slice none 0 0, .int .i64 (((vs.take vs.length).map (·.2.length)).sum : Nat), x3, w, x5, V, .int .i64 ((vs.length : Nat) : Int), .int .i64 ((vs.length : Nat) : Int), x9, x10, V, .int .i64 ((vs.length : Nat) : Int), .int .i64 ((i : Nat) : Int), x14] ∧
        WR M 68 2 w ((vs.take i).map (·.2.length)).sum ((vs.take i).map (·.2)).flatten.flatten ∧ Keeps K0 M ∧ Fresh K0.n w ∧ i ≤ vs.length ∧ k = vs.length - i) vs.length
      ⟨0, w, _, _, _, _, _, rfl, wr, kk, fw, by omega, rfl⟩ ?_
    clear wr kk fw w K
    rintro Q2 k fr M ⟨i, w, x3, x5, x9, x10, x14, rfl, wr, kk, fw, hi, rfl⟩ hn2 hx2 hret2
    by_cases hlt : i < vs.length
    · obtain ⟨na, ra⟩ := el hlt kk
      have h0 : (0 : Int) ≤ (i : Int) := by omega
      have h1 : (i : Int) < ((vs.length : Nat) : Int) := by omega
      have hw : IntKind.i64.wrap ((i : Int) + 1) = ((i + 1 : Nat) : Int) := by rw [wrap_i64 (by omega) (by omega)]; simp
      have sx := (hx _ (List.getElem_mem hlt)).keeps kk
      have iw := wr.is
      have t1 := tk hlt
      have t2 := tle (i + 1)
      simp (disch := first | assumption | omega | (simp only [LN] <;> omega) | (simp (disch := first | assumption | omega | (simp only [LN] <;> omega)) only [row_alloc, row_set]; assumption)) only [W_block, P3, ↓reduceIte, reduceAdd, reduceEqDiff, reduceCtorEq, initFr, reduceLT, clsA, reduceLeDiff, reduceMul, reduceSub, reduceIte, lV, ra, na, a_load1v]
      refine wr.appR (bytes := 16) sx.sh sx.el (flat_len sx.row) (by omega) ?_
      intro w' M' wr' c' hb'
      simp (disch := first | assumption | omega | (simp only [LN] <;> omega) | (simp (disch := first | assumption | omega | (simp only [LN] <;> omega)) only [row_alloc, row_set]; assumption)) only [W_block, P3, ↓reduceIte, reduceAdd, reduceEqDiff, reduceCtorEq, initFr, reduceLT, clsA, reduceLeDiff, reduceMul, reduceSub, reduceIte, hw]
      refine hn2 _ _ _ ⟨i + 1, w', _, _, _, _, _, rfl, ?_, kk.chg_trans c' (fun x hx => fw x (mem_blkL.1 hx)), fun b hb => ?_, by omega, rfl⟩ (by omega)
      · rw [t1]
        have e : ((vs.take (i + 1)).map (·.2)).flatten.flatten = ((vs.take i).map (·.2)).flatten.flatten ++ vs[i].2.flatten := by
          rw [List.take_succ_eq_append_getElem hlt, List.map_append, List.flatten_append, List.flatten_append]; simp
        rw [e]; exact wr'
      · rcases hb' with e | e
        · exact fw b (by rw [← e]; exact hb)
        · rw [e] at hb; cases hb; exact kk.n
    · have h1 : ¬ (i : Int) < ((vs.length : Nat) : Int) := by omega
      have : i = vs.length := by omega
      subst this
      simp (disch := first | assumption | omega | (simp only [LN] <;> omega) | (simp (disch := first | assumption | omega | (simp only [LN] <;> omega)) only [row_alloc, row_set]; assumption)) only [W_block, P3, ↓reduceIte, reduceAdd, reduceEqDiff, reduceCtorEq, initFr, reduceLT, clsA, reduceLeDiff, reduceMul, reduceSub, reduceIte, lV]
      refine hx2 2 _ _ ?_
      simp (disch := first | assumption | omega | (simp only [LN] <;> omega) | (simp (disch := first | assumption | omega | (simp only [LN] <;> omega)) only [row_alloc, row_set]; assumption)) only [W_block, P3, ↓reduceIte, reduceAdd, reduceEqDiff, reduceCtorEq, initFr, reduceLT, clsA, reduceLeDiff, reduceMul, reduceSub, reduceIte]
      refine hq2 _ _ ⟨_, rfl, ?_, kk, fw⟩
      rw [List.take_length] at wr
      refine ⟨?_, fun r hr => ?_⟩
      · have e : (vs.map (·.2)).flatten.length = (vs.map (·.2.length)).sum := by simp [List.length_flatten, List.map_map, Function.comp_def]
        rw [e]; exact wr
      · obtain ⟨l, hl, hm⟩ := List.mem_flatten.1 hr
        obtain ⟨x, hxm, rfl⟩ := List.mem_map.1 hl
        exact (hx x hxm).row r hm
end Go.AM.Fd

set_option linter.unusedSimpArgs false
set_option linter.unusedVariables false
namespace Go.AM.Fd
open Nat (reduceAdd reduceEqDiff reduceLT reduceLeDiff reduceMul reduceSub)
open Go.Proofs Go.AM.F
theorem t116 {H : AHeap} {v : Value} {l : List Int} (h : IL H v l) (hl : l.length ≤ 1000000) (x : Int) :
    ∃ w H', ARun Go.Proofs.Try.prog 0 116 [v, .int .i64 x] H w H' ∧ H' = H ∧ ∃ i : Int, w = .int .i64 i ∧ decide (0 ≤ i) = l.contains x := by
  refine walk2 f116_ok f116_n ?_
  intro Q hq1 hq2
  have ia := Sl.is h
  have la := h.len
  simp (disch := first | assumption | omega | (simp only [LN] <;> omega) | (simp (disch := first | assumption | omega | (simp only [LN] <;> omega)) only [row_alloc, row_set]; assumption)) only [ f116, P3, ↓reduceIte, reduceAdd, reduceEqDiff, reduceCtorEq, initFr, reduceLT, clsA, reduceLeDiff, reduceMul, reduceSub, reduceIte, la]
  rw [W_block]
  refine W_loop2 (fun k fr K => ∃ i x3 x6 x7, fr = [v, .int .i64 x, .int .i64 0, x3, .int .i64 ((l.length : Nat) : Int), .int .i64 ((i : Nat) : Int), x6, x7] ∧ K = H ∧ i ≤ l.length ∧ (l.take i).contains x = false ∧ k = l.length - i) l.length
    ⟨0, _, _, _, rfl, rfl, by omega, by simp, rfl⟩ ?_
  rintro Q' k fr K ⟨i, x3, x6, x7, rfl, rfl, hi, hp, rfl⟩ hn hx hret
  by_cases hlt : i < l.length
  · obtain ⟨na, ra⟩ := h.at_ hlt
    have h0 : (0 : Int) ≤ (i : Int) := by omega
    have h1 : (i : Int) < ((lenS v : Nat) : Int) := by omega
    have h3 : (i : Int) < ((l.length : Nat) : Int) := by omega
    have hw : IntKind.i64.wrap ((i : Int) + 1) = ((i + 1 : Nat) : Int) := by rw [wrap_i64 (by omega) (by omega)]; simp
    have e1 : l.getD i 0 = l[i] := by simp [List.getD, List.getElem?_eq_getElem hlt]
    have tk : x ≠ l[i] → (l.take (i + 1)).contains x = false := fun e => by
      rw [List.take_succ_eq_append_getElem hlt]
      simp only [List.contains_eq_any_beq, List.any_append] at hp ⊢
      rw [hp]; simpa using e
    have an : x = l[i] → l.contains x = true := fun e => by rw [e]; simp
    rw [e1] at ra
    generalize l[i] = y at *
    by_cases hxy : x = y
    · have e2 : (x == y) = true := by simpa using hxy
      simp (disch := first | assumption | omega | (simp only [LN] <;> omega) | (simp (disch := first | assumption | omega | (simp only [LN] <;> omega)) only [row_alloc, row_set]; assumption)) only [W_block, P3, ↓reduceIte, reduceAdd, reduceEqDiff, reduceCtorEq, initFr, reduceLT, clsA, reduceLeDiff, reduceMul, reduceSub, reduceIte, la, ra, na, a_load1v, e2]
      exact hret _ _ (hq2 _ _ ⟨_, rfl, rfl, (i : Int), rfl, by rw [an hxy]; simp⟩)
    · have e2 : (x == y) = false := by simpa using hxy
      simp (disch := first | assumption | omega | (simp only [LN] <;> omega) | (simp (disch := first | assumption | omega | (simp only [LN] <;> omega)) only [row_alloc, row_set]; assumption)) only [W_block, P3, ↓reduceIte, reduceAdd, reduceEqDiff, reduceCtorEq, initFr, reduceLT, clsA, reduceLeDiff, reduceMul, reduceSub, reduceIte, la, ra, na, a_load1v, e2, hw]
      exact hn _ _ _ ⟨i + 1, _, _, _, rfl, rfl, by omega, tk hxy, rfl⟩ (by omega)
  · have h3 : ¬ (i : Int) < ((l.length : Nat) : Int) := by omega
    simp (disch := first | assumption | omega | (simp only [LN] <;> omega) | (simp (disch := first | assumption | omega | (simp only [LN] <;> omega)) only [row_alloc, row_set]; assumption)) only [W_block, P3, ↓reduceIte, reduceAdd, reduceEqDiff, reduceCtorEq, initFr, reduceLT, clsA, reduceLeDiff, reduceMul, reduceSub, reduceIte, la]
    refine hx 0 _ _ ?_
    simp (disch := first | assumption | omega | (simp only [LN] <;> omega) | (simp (disch := first | assumption | omega | (simp only [LN] <;> omega)) only [row_alloc, row_set]; assumption)) only [W_block, P3, ↓reduceIte, reduceAdd, reduceEqDiff, reduceCtorEq, initFr, reduceLT, clsA, reduceLeDiff, reduceMul, reduceSub, reduceIte]
    refine hq2 _ _ ⟨_, rfl, rfl, -1, rfl, ?_⟩
    rw [List.take_of_length_le (by omega)] at hp
    rw [hp]; rfl
theorem t105 {H : AHeap} {v : Value} {l : List Int} (h : IL H v l) (hl : l.length ≤ 1000000) (x : Int) :
    ∃ w H', ARun Go.Proofs.Try.prog 0 105 [v, .int .i64 x] H w H' ∧ w = .bool (l.contains x) ∧ H' = H := by
  refine walk2 f105_ok f105_n ?_
  intro Q hq1 hq2
  simp (disch := first | assumption | omega | (simp only [LN] <;> omega) | (simp (disch := first | assumption | omega | (simp only [LN] <;> omega)) only [row_alloc, row_set]; assumption)) only [ f105, P3, ↓reduceIte, reduceAdd, reduceEqDiff, reduceCtorEq, initFr, reduceLT, clsA, reduceLeDiff, reduceMul, reduceSub, reduceIte]
  refine callK (t116 h hl x) ?_
  rintro _ _ ⟨rfl, i, rfl, hi⟩
  simp (disch := first | assumption | omega | (simp only [LN] <;> omega) | (simp (disch := first | assumption | omega | (simp only [LN] <;> omega)) only [row_alloc, row_set]; assumption)) only [W_block, P3, ↓reduceIte, reduceAdd, reduceEqDiff, reduceCtorEq, initFr, reduceLT, clsA, reduceLeDiff, reduceMul, reduceSub, reduceIte]
  exact hq2 _ _ ⟨_, rfl, by rw [← hi]; rfl, rfl⟩
theorem t90 {H : AHeap} {v : Value} {l : List Int} (h : IL H v l) (hl : l.length ≤ 1000000) {g : FuncId} {fi ca : Array Value} {p : Int → Bool}
    (hF : ∀ x ∈ l, ∃ w K', ARun Go.Proofs.Try.prog 0 g (fi.toList ++ [Value.int .i64 x] ++ ca.toList) H w K' ∧ w = .bool (p x) ∧ K' = H) :
    ∃ w H', ARun Go.Proofs.Try.prog 0 90 [v, .func (.func g) fi ca] H w H' ∧ H' = H ∧ ∃ i : Int, w = .int .i64 i ∧ decide (0 ≤ i) = l.any p := by
  refine walk2 f90_ok f90_n ?_
  intro Q hq1 hq2
  have ia := Sl.is h
  have la := h.len
  simp (disch := first | assumption | omega | (simp only [LN] <;> omega) | (simp (disch := first | assumption | omega | (simp only [LN] <;> omega)) only [row_alloc, row_set]; assumption)) only [ f90, P3, ↓reduceIte, reduceAdd, reduceEqDiff, reduceCtorEq, initFr, reduceLT, clsA, reduceLeDiff, reduceMul, reduceSub, reduceIte, la]
  rw [W_block]
  refine W_loop2 (fun k fr K => ∃ i x3 x6 x7, fr = [v, .func (.func g) fi ca, .int .i64 0, x3, .int .i64 ((l.length : Nat) : Int), .int .i64 ((i : Nat) : Int), x6, x7] ∧ K = H ∧ i ≤ l.length ∧ (l.take i).any p = false ∧ k = l.length - i) l.length
    ⟨0, _, _, _, rfl, rfl, by omega, by simp, rfl⟩ ?_
  rintro Q' k fr K ⟨i, x3, x6, x7, rfl, rfl, hi, hp, rfl⟩ hn hx hret
  by_cases hlt : i < l.length
  · obtain ⟨na, ra⟩ := h.at_ hlt
    have h0 : (0 : Int) ≤ (i : Int) := by omega
    have h1 : (i : Int) < ((lenS v : Nat) : Int) := by omega
    have h3 : (i : Int) < ((l.length : Nat) : Int) := by omega
    have hw : IntKind.i64.wrap ((i : Int) + 1) = ((i + 1 : Nat) : Int) := by rw [wrap_i64 (by omega) (by omega)]; simp
    have e1 : l.getD i 0 = l[i] := by simp [List.getD, List.getElem?_eq_getElem hlt]
    have hf := hF _ (List.getElem_mem hlt)
    have tk : (l.take (i + 1)).any p = p l[i] := by rw [List.take_succ_eq_append_getElem hlt, List.any_append, hp]; simp
    have an : p l[i] = true → l.any p = true := fun e => List.any_eq_true.2 ⟨_, List.getElem_mem hlt, e⟩
    rw [e1] at ra
    generalize l[i] = x at *
    simp (disch := first | assumption | omega | (simp only [LN] <;> omega) | (simp (disch := first | assumption | omega | (simp only [LN] <;> omega)) only [row_alloc, row_set]; assumption)) only [W_block, P3, ↓reduceIte, reduceAdd, reduceEqDiff, reduceCtorEq, initFr, reduceLT, clsA, reduceLeDiff, reduceMul, reduceSub, reduceIte, la, ra, na, a_load1v, a_loadnv, st_callv, ia]
    refine callK hf ?_
    rintro _ _ ⟨rfl, rfl⟩
    cases hpx : p x with
    | true =>
      simp (disch := first | assumption | omega | (simp only [LN] <;> omega) | (simp (disch := first | assumption | omega | (simp only [LN] <;> omega)) only [row_alloc, row_set]; assumption)) only [W_block, P3, ↓reduceIte, reduceAdd, reduceEqDiff, reduceCtorEq, initFr, reduceLT, clsA, reduceLeDiff, reduceMul, reduceSub, reduceIte]
      exact hret _ _ (hq2 _ _ ⟨_, rfl, rfl, (i : Int), rfl, by rw [an hpx]; simp⟩)
    | false =>
      simp (disch := first | assumption | omega | (simp only [LN] <;> omega) | (simp (disch := first | assumption | omega | (simp only [LN] <;> omega)) only [row_alloc, row_set]; assumption)) only [W_block, P3, ↓reduceIte, reduceAdd, reduceEqDiff, reduceCtorEq, initFr, reduceLT, clsA, reduceLeDiff, reduceMul, reduceSub, reduceIte, hw]
      exact hn _ _ _ ⟨i + 1, _, _, _, rfl, rfl, by omega, by rw [tk, hpx], rfl⟩ (by omega)
  · have h3 : ¬ (i : Int) < ((l.length : Nat) : Int) := by omega
    simp (disch := first | assumption | omega | (simp only [LN] <;> omega) | (simp (disch := first | assumption | omega | (simp only [LN] <;> omega)) only [row_alloc, row_set]; assumption)) only [W_block, P3, ↓reduceIte, reduceAdd, reduceEqDiff, reduceCtorEq, initFr, reduceLT, clsA, reduceLeDiff, reduceMul, reduceSub, reduceIte, la]
    refine hx 0 _ _ ?_
    simp (disch := first | assumption | omega | (simp only [LN] <;> omega) | (simp (disch := first | assumption | omega | (simp only [LN] <;> omega)) only [row_alloc, row_set]; assumption)) only [W_block, P3, ↓reduceIte, reduceAdd, reduceEqDiff, reduceCtorEq, initFr, reduceLT, clsA, reduceLeDiff, reduceMul, reduceSub, reduceIte]
    refine hq2 _ _ ⟨_, rfl, rfl, -1, rfl, ?_⟩
    rw [List.take_of_length_le (by omega)] at hp
    rw [hp]; rfl
theorem t51 {H : AHeap} {v : Value} {l : List Int} (h : IL H v l) (hl : l.length ≤ 1000000) {g : FuncId} {fi ca : Array Value} {p : Int → Bool}
    (hF : ∀ x ∈ l, ∃ w K', ARun Go.Proofs.Try.prog 0 g (fi.toList ++ [Value.int .i64 x] ++ ca.toList) H w K' ∧ w = .bool (p x) ∧ K' = H) :
    ∃ w H', ARun Go.Proofs.Try.prog 0 51 [v, .func (.func g) fi ca] H w H' ∧ w = .bool (l.any p) ∧ H' = H := by
  refine walk2 f51_ok f51_n ?_
  intro Q hq1 hq2
  simp (disch := first | assumption | omega | (simp only [LN] <;> omega) | (simp (disch := first | assumption | omega | (simp only [LN] <;> omega)) only [row_alloc, row_set]; assumption)) only [ f51, P3, ↓reduceIte, reduceAdd, reduceEqDiff, reduceCtorEq, initFr, reduceLT, clsA, reduceLeDiff, reduceMul, reduceSub, reduceIte]
  refine callK (t90 h hl hF) ?_
  rintro _ _ ⟨rfl, i, rfl, hi⟩
  simp (disch := first | assumption | omega | (simp only [LN] <;> omega) | (simp (disch := first | assumption | omega | (simp only [LN] <;> omega)) only [row_alloc, row_set]; assumption)) only [W_block, P3, ↓reduceIte, reduceAdd, reduceEqDiff, reduceCtorEq, initFr, reduceLT, clsA, reduceLeDiff, reduceMul, reduceSub, reduceIte]
  exact hq2 _ _ ⟨_, rfl, by rw [← hi]; rfl, rfl⟩
theorem t91 {H : AHeap} {v : Value} {l : List (Int × Bool)} (h : NL H v l) (hl : l.length ≤ 1000000) {g : FuncId} {fi ca : Array Value} {p : (Int × Bool) → Bool}
    (hF : ∀ x ∈ l, ∃ w K', ARun Go.Proofs.Try.prog 0 g (fi.toList ++ [Value.agg (nRow x).toArray] ++ ca.toList) H w K' ∧ w = .bool (p x) ∧ K' = H) :
    ∃ w H', ARun Go.Proofs.Try.prog 0 91 [v, .func (.func g) fi ca] H w H' ∧ H' = H ∧ ∃ i : Int, w = .int .i64 i ∧ decide (0 ≤ i) = l.any p := by
  refine walk2 f91_ok f91_n ?_
  intro Q hq1 hq2
  have ia := Sl.is h
  have la := h.len
  simp (disch := first | assumption | omega | (simp only [LN] <;> omega) | (simp (disch := first | assumption | omega | (simp only [LN] <;> omega)) only [row_alloc, row_set]; assumption)) only [ f91, P3, ↓reduceIte, reduceAdd, reduceEqDiff, reduceCtorEq, initFr, reduceLT, clsA, reduceLeDiff, reduceMul, reduceSub, reduceIte, la]
  rw [W_block]
  refine W_loop2 (fun k fr K => ∃ i x3 x6 x7, fr = [v, .func (.func g) fi ca, .int .i64 0, x3, .int .i64 ((l.length : Nat) : Int), .int .i64 ((i : Nat) : Int), x6, x7] ∧ K = H ∧ i ≤ l.length ∧ (l.take i).any p = false ∧ k = l.length - i) l.length
    ⟨0, _, _, _, rfl, rfl, by omega, by simp, rfl⟩ ?_
  rintro Q' k fr K ⟨i, x3, x6, x7, rfl, rfl, hi, hp, rfl⟩ hn hx hret
  by_cases hlt : i < l.length
  · obtain ⟨na, ra⟩ := h.at_ hlt
    have h0 : (0 : Int) ≤ (i : Int) := by omega
    have h1 : (i : Int) < ((lenS v : Nat) : Int) := by omega
    have h3 : (i : Int) < ((l.length : Nat) : Int) := by omega
    have hw : IntKind.i64.wrap ((i : Int) + 1) = ((i + 1 : Nat) : Int) := by rw [wrap_i64 (by omega) (by omega)]; simp
    have e1 : l.getD i (0, false) = l[i] := by simp [List.getD, List.getElem?_eq_getElem hlt]
    have hf := hF _ (List.getElem_mem hlt)
    have tk : (l.take (i + 1)).any p = p l[i] := by rw [List.take_succ_eq_append_getElem hlt, List.any_append, hp]; simp
    have an : p l[i] = true → l.any p = true := fun e => List.any_eq_true.2 ⟨_, List.getElem_mem hlt, e⟩
    rw [e1] at ra
    generalize l[i] = x at *
    simp (disch := first | assumption | omega | (simp only [LN] <;> omega) | (simp (disch := first | assumption | omega | (simp only [LN] <;> omega)) only [row_alloc, row_set]; assumption)) only [W_block, P3, ↓reduceIte, reduceAdd, reduceEqDiff, reduceCtorEq, initFr, reduceLT, clsA, reduceLeDiff, reduceMul, reduceSub, reduceIte, la, ra, na, a_load1v, a_loadnv, st_callv, nRow]
    refine callK hf ?_
    rintro _ _ ⟨rfl, rfl⟩
    cases hpx : p x with
    | true =>
      simp (disch := first | assumption | omega | (simp only [LN] <;> omega) | (simp (disch := first | assumption | omega | (simp only [LN] <;> omega)) only [row_alloc, row_set]; assumption)) only [W_block, P3, ↓reduceIte, reduceAdd, reduceEqDiff, reduceCtorEq, initFr, reduceLT, clsA, reduceLeDiff, reduceMul, reduceSub, reduceIte]
      exact hret _ _ (hq2 _ _ ⟨_, rfl, rfl, (i : Int), rfl, by rw [an hpx]; simp⟩)
    | false =>
      simp (disch := first | assumption | omega | (simp only [LN] <;> omega) | (simp (disch := first | assumption | omega | (simp only [LN] <;> omega)) only [row_alloc, row_set]; assumption)) only [W_block, P3, ↓reduceIte, reduceAdd, reduceEqDiff, reduceCtorEq, initFr, reduceLT, clsA, reduceLeDiff, reduceMul, reduceSub, reduceIte, hw]
      exact hn _ _ _ ⟨i + 1, _, _, _, rfl, rfl, by omega, by rw [tk, hpx], rfl⟩ (by omega)
  · have h3 : ¬ (i : Int) < ((l.length : Nat) : Int) := by omega
    simp (disch := first | assumption | omega | (simp only [LN] <;> omega) | (simp (disch := first | assumption | omega | (simp only [LN] <;> omega)) only [row_alloc, row_set]; assumption)) only [W_block, P3, ↓reduceIte, reduceAdd, reduceEqDiff, reduceCtorEq, initFr, reduceLT, clsA, reduceLeDiff, reduceMul, reduceSub, reduceIte, la]
    refine hx 0 _ _ ?_
    simp (disch := first | assumption | omega | (simp only [LN] <;> omega) | (simp (disch := first | assumption | omega | (simp only [LN] <;> omega)) only [row_alloc, row_set]; assumption)) only [W_block, P3, ↓reduceIte, reduceAdd, reduceEqDiff, reduceCtorEq, initFr, reduceLT, clsA, reduceLeDiff, reduceMul, reduceSub, reduceIte]
    refine hq2 _ _ ⟨_, rfl, rfl, -1, rfl, ?_⟩
    rw [List.take_of_length_le (by omega)] at hp
    rw [hp]; rfl
theorem t53 {H : AHeap} {v : Value} {l : List (Int × Bool)} (h : NL H v l) (hl : l.length ≤ 1000000) {g : FuncId} {fi ca : Array Value} {p : (Int × Bool) → Bool}
    (hF : ∀ x ∈ l, ∃ w K', ARun Go.Proofs.Try.prog 0 g (fi.toList ++ [Value.agg (nRow x).toArray] ++ ca.toList) H w K' ∧ w = .bool (p x) ∧ K' = H) :
    ∃ w H', ARun Go.Proofs.Try.prog 0 53 [v, .func (.func g) fi ca] H w H' ∧ w = .bool (l.any p) ∧ H' = H := by
  refine walk2 f53_ok f53_n ?_
  intro Q hq1 hq2
  simp (disch := first | assumption | omega | (simp only [LN] <;> omega) | (simp (disch := first | assumption | omega | (simp only [LN] <;> omega)) only [row_alloc, row_set]; assumption)) only [ f53, P3, ↓reduceIte, reduceAdd, reduceEqDiff, reduceCtorEq, initFr, reduceLT, clsA, reduceLeDiff, reduceMul, reduceSub, reduceIte]
  refine callK (t91 h hl hF) ?_
  rintro _ _ ⟨rfl, i, rfl, hi⟩
  simp (disch := first | assumption | omega | (simp only [LN] <;> omega) | (simp (disch := first | assumption | omega | (simp only [LN] <;> omega)) only [row_alloc, row_set]; assumption)) only [W_block, P3, ↓reduceIte, reduceAdd, reduceEqDiff, reduceCtorEq, initFr, reduceLT, clsA, reduceLeDiff, reduceMul, reduceSub, reduceIte]
  exact hq2 _ _ ⟨_, rfl, by rw [← hi]; rfl, rfl⟩
theorem t78 {H : AHeap} {v : Value} {l : List RV} (h : RL H v l) (hl : l.length ≤ 1000000) {g : FuncId} {fi ca : Array Value} {p : RV → Bool}
    (hF : ∀ x ∈ l, ∃ w K', ARun Go.Proofs.Try.prog 0 g (fi.toList ++ [Value.agg x.row.toArray] ++ ca.toList) H w K' ∧ w = .bool (p x) ∧ K' = H) :
    ∃ w H', ARun Go.Proofs.Try.prog 0 78 [v, .func (.func g) fi ca] H w H' ∧ H' = H ∧ ∃ i : Int, w = .int .i64 i ∧ decide (0 ≤ i) = l.any p := by
  refine walk2 f78_ok f78_n ?_
  intro Q hq1 hq2
  have ia := Sl.is h
  have la := h.len
  simp (disch := first | assumption | omega | (simp only [LN] <;> omega) | (simp (disch := first | assumption | omega | (simp only [LN] <;> omega)) only [row_alloc, row_set]; assumption)) only [ f78, P3, ↓reduceIte, reduceAdd, reduceEqDiff, reduceCtorEq, initFr, reduceLT, clsA, reduceLeDiff, reduceMul, reduceSub, reduceIte, la]
  rw [W_block]
  refine W_loop2 (fun k fr K => ∃ i x3 x6 x7, fr = [v, .func (.func g) fi ca, .int .i64 0, x3, .int .i64 ((l.length : Nat) : Int), .int .i64 ((i : Nat) : Int), x6, x7] ∧ K = H ∧ i ≤ l.length ∧ (l.take i).any p = false ∧ k = l.length - i) l.length
    ⟨0, _, _, _, rfl, rfl, by omega, by simp, rfl⟩ ?_
  rintro Q' k fr K ⟨i, x3, x6, x7, rfl, rfl, hi, hp, rfl⟩ hn hx hret
  by_cases hlt : i < l.length
  · obtain ⟨na, ra⟩ := h.at_ hlt
    have h0 : (0 : Int) ≤ (i : Int) := by omega
    have h1 : (i : Int) < ((lenS v : Nat) : Int) := by omega
    have h3 : (i : Int) < ((l.length : Nat) : Int) := by omega
    have hw : IntKind.i64.wrap ((i : Int) + 1) = ((i + 1 : Nat) : Int) := by rw [wrap_i64 (by omega) (by omega)]; simp
    have e1 : l.getD i rv0 = l[i] := by simp [List.getD, List.getElem?_eq_getElem hlt]
    have hf := hF _ (List.getElem_mem hlt)
    have tk : (l.take (i + 1)).any p = p l[i] := by rw [List.take_succ_eq_append_getElem hlt, List.any_append, hp]; simp
    have an : p l[i] = true → l.any p = true := fun e => List.any_eq_true.2 ⟨_, List.getElem_mem hlt, e⟩
    rw [e1] at ra
    generalize l[i] = x at *
    simp (disch := first | assumption | omega | (simp only [LN] <;> omega) | (simp (disch := first | assumption | omega | (simp only [LN] <;> omega)) only [row_alloc, row_set]; assumption)) only [W_block, P3, ↓reduceIte, reduceAdd, reduceEqDiff, reduceCtorEq, initFr, reduceLT, clsA, reduceLeDiff, reduceMul, reduceSub, reduceIte, la, ra, na, a_load1v, a_loadnv, st_callv, RV.row]
    refine callK hf ?_
    rintro _ _ ⟨rfl, rfl⟩
    cases hpx : p x with
    | true =>
      simp (disch := first | assumption | omega | (simp only [LN] <;> omega) | (simp (disch := first | assumption | omega | (simp only [LN] <;> omega)) only [row_alloc, row_set]; assumption)) only [W_block, P3, ↓reduceIte, reduceAdd, reduceEqDiff, reduceCtorEq, initFr, reduceLT, clsA, reduceLeDiff, reduceMul, reduceSub, reduceIte]
      exact hret _ _ (hq2 _ _ ⟨_, rfl, rfl, (i : Int), rfl, by rw [an hpx]; simp⟩)
    | false =>
      simp (disch := first | assumption | omega | (simp only [LN] <;> omega) | (simp (disch := first | assumption | omega | (simp only [LN] <;> omega)) only [row_alloc, row_set]; assumption)) only [W_block, P3, ↓reduceIte, reduceAdd, reduceEqDiff, reduceCtorEq, initFr, reduceLT, clsA, reduceLeDiff, reduceMul, reduceSub, reduceIte, hw]
      exact hn _ _ _ ⟨i + 1, _, _, _, rfl, rfl, by omega, by rw [tk, hpx], rfl⟩ (by omega)
  · have h3 : ¬ (i : Int) < ((l.length : Nat) : Int) := by omega
    simp (disch := first | assumption | omega | (simp only [LN] <;> omega) | (simp (disch := first | assumption | omega | (simp only [LN] <;> omega)) only [row_alloc, row_set]; assumption)) only [W_block, P3, ↓reduceIte, reduceAdd, reduceEqDiff, reduceCtorEq, initFr, reduceLT, clsA, reduceLeDiff, reduceMul, reduceSub, reduceIte, la]
    refine hx 0 _ _ ?_
    simp (disch := first | assumption | omega | (simp only [LN] <;> omega) | (simp (disch := first | assumption | omega | (simp only [LN] <;> omega)) only [row_alloc, row_set]; assumption)) only [W_block, P3, ↓reduceIte, reduceAdd, reduceEqDiff, reduceCtorEq, initFr, reduceLT, clsA, reduceLeDiff, reduceMul, reduceSub, reduceIte]
    refine hq2 _ _ ⟨_, rfl, rfl, -1, rfl, ?_⟩
    rw [List.take_of_length_le (by omega)] at hp
    rw [hp]; rfl
end Go.AM.Fd
