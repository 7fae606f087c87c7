/- Part of the proof. -/
import Derived.Test.YtfneppahknoaoaaDoorGNotes04
set_option linter.unusedSimpArgs false
set_option linter.unusedVariables false
set_option linter.unusedSimpArgs false
set_option linter.unusedVariables false
namespace Go.AM.Fd
open Go.Proofs Go.AM.F
def dbl : List UInt8 → List UInt8
  | [] => []
  | x :: l => if x = 32 then 32 :: 32 :: dbl l else x :: dbl l
theorem dbl_app : ∀ a b : List UInt8, dbl (a ++ b) = dbl a ++ dbl b
  | [], b => rfl
  | x :: a, b => by
    simp only [List.cons_append, dbl, dbl_app a b]
    split <;> simp
theorem dbl_no : ∀ {c : List UInt8}, 32 ∉ c → dbl c = c
  | [], _ => rfl
  | x :: c, h => by
    simp only [List.mem_cons, not_or] at h
    have hx : ¬ x = 32 := fun e => h.1 e.symm
    simp only [dbl, if_neg hx, dbl_no h.2]
theorem gc_cases {c : List UInt8} (h : GC c) : c = [32] ∨ 32 ∉ c := by
  rcases h.asc with ⟨b, rfl⟩ | h2
  · by_cases e : b = 32
    · subst e; exact .inl rfl
    · exact .inr (by simpa using fun e2 => e e2.symm)
  · exact .inr fun hm => by have := h2 32 hm; revert this; decide
theorem dbl_okl {a : List UInt8} (h : OkL a) : OkL (dbl a) := by
  induction h with
  | nil => exact .nil
  | cons hc _ ih =>
    rw [dbl_app]
    rcases gc_cases hc with rfl | hn
    · exact (show OkL ([32] ++ ([32] ++ dbl _)) from OkL.cons gc_blank (OkL.cons gc_blank ih))
    · rw [dbl_no hn]; exact .cons hc ih
theorem okl_inv {m : List UInt8} {x : UInt8} (h : OkL (x :: m)) : ∃ c l, x :: m = c ++ l ∧ GC c ∧ OkL l := by
  generalize hxm : x :: m = y at h
  cases h with
  | nil => cases hxm
  | cons hc hl => exact ⟨_, _, rfl, hc, hl⟩
theorem okl_blank {m : List UInt8} (h : OkL (32 :: m)) : OkL m := by
  obtain ⟨c, l, e, hc, hl⟩ := okl_inv h
  cases c with
  | nil => exact absurd rfl hc.ne
  | cons y c =>
    simp only [List.cons_append, List.cons.injEq] at e
    obtain ⟨rfl, rfl⟩ := e
    rcases gc_cases hc with e2 | e2
    · simp only [List.cons.injEq, true_and] at e2; subst e2; exact hl
    · simp at e2
theorem dbl_pre : ∀ {c a l : List UInt8}, 32 ∉ c → dbl a = c ++ l → ∃ a', a = c ++ a' ∧ l = dbl a'
  | [], a, l, _, h => ⟨a, rfl, h.symm⟩
  | x :: c, [], l, _, h => by simp [dbl] at h
  | x :: c, y :: a, l, hn, h => by
    simp only [List.mem_cons, not_or] at hn
    simp only [dbl] at h
    split at h
    · simp only [List.cons_append, List.cons.injEq] at h; exact absurd h.1 hn.1
    · simp only [List.cons_append, List.cons.injEq] at h
      obtain ⟨rfl, h2⟩ := h
      obtain ⟨a', rfl, h3⟩ := dbl_pre hn.2 h2
      exact ⟨a', rfl, h3⟩
theorem okl_dbl : ∀ (n : Nat) (a : List UInt8), a.length ≤ n → OkL (dbl a) → OkL a
  | _, [], _, _ => .nil
  | 0, x :: a, h, _ => by simp at h
  | n + 1, x :: a, hn, h => by
    by_cases e : x = 32
    · subst e
      simp only [dbl, if_true] at h
      exact OkL.cons gc_blank (okl_dbl n a (by simpa using hn) (okl_blank (okl_blank h)))
    · have hd : dbl (x :: a) = x :: dbl a := by simp [dbl, e]
      rw [hd] at h
      obtain ⟨c, l, e2, hc, hl⟩ := okl_inv h
      have hn32 : 32 ∉ c := by
        rcases gc_cases hc with rfl | h3
        · simp only [List.singleton_append, List.cons.injEq] at e2; exact absurd e2.1 e
        · exact h3
      rw [← hd] at e2
      obtain ⟨a', e3, rfl⟩ := dbl_pre hn32 e2
      rw [e3]
      refine .cons hc (okl_dbl n a' ?_ hl)
      have h4 := congrArg List.length e3
      have h5 : 0 < c.length := List.length_pos_iff.2 hc.ne
      simp only [List.length_append] at h4
      omega
theorem okl_end {m : List UInt8} (h : OkL (m ++ [32])) : OkL m := by
  generalize hm : m ++ [32] = y at h
  induction h generalizing m with
  | nil => simp at hm
  | @cons c l hc hl ih =>
    cases hl' : l with
    | nil =>
      rw [hl', List.append_nil] at hm
      rcases gc_cases hc with e | e
      · rw [e] at hm
        have : m = [] := by
          cases m with
          | nil => rfl
          | cons a m => simp at hm
        rw [this]; exact .nil
      · exact absurd (by rw [← hm]; simp) e
    | cons z l2 =>
      have hne : l ≠ [] := by rw [hl']; simp
      obtain ⟨l3, hl3⟩ : ∃ l3, l = l3 ++ [32] := by
        rcases List.eq_nil_or_concat l with h1 | ⟨l3, b, h1⟩
        · exact absurd h1 hne
        · rw [List.concat_eq_append] at h1
          rw [h1, ← List.append_assoc] at hm
          have h2 := congrArg List.getLast? hm
          simp only [List.getLast?_append, List.getLast?_singleton, Option.some_or, Option.some.injEq] at h2
          exact ⟨l3, by rw [h1, ← h2]⟩
      rw [hl3, ← List.append_assoc] at hm
      have hm2 : m = c ++ l3 := List.append_cancel_right hm
      rw [hm2]
      exact .cons hc (ih hl3.symm)
theorem bool_iff {a b : Bool} (h : a = true ↔ b = true) : a = b := by cases a <;> cases b <;> simp_all
theorem dbl_okW (a : List UInt8) : okW (dbl a) = okW a := bool_iff ⟨fun h => l_okW (okl_dbl _ a (Nat.le_refl _) (okW_l h)), fun h => l_okW (dbl_okl (okW_l h))⟩
theorem dbl_okW1 (a : List UInt8) : okW (dbl a ++ [32]) = okW a := bool_iff ⟨fun h => l_okW (okl_dbl _ a (Nat.le_refl _) (okl_end (okW_l h))), fun h => l_okW ((dbl_okl (okW_l h)).app .blank)⟩
def flt (l : List (List UInt8)) : List (List UInt8) := l.filter fun t => !t.isEmpty
theorem split_dbl : ∀ a : List UInt8, ∃ p r r', splitB 32 (dbl a) = p :: r ∧ splitB 32 a = p :: r' ∧ flt r = flt r'
  | [] => ⟨[], [], [], rfl, rfl, rfl⟩
  | x :: a => by
    obtain ⟨p, r, r', h1, h2, h3⟩ := split_dbl a
    by_cases e : x = 32
    · subst e
      refine ⟨[], [] :: splitB 32 (dbl a), splitB 32 a, by simp [dbl, splitB], by simp [splitB], ?_⟩
      rw [h1, h2]
      simp only [flt, List.filter_cons, List.isEmpty_nil, Bool.not_true, Bool.false_eq_true, if_false]
      simp only [flt] at h3
      rw [h3]
    · refine ⟨x :: p, r, r', by simp [dbl, splitB, e, h1], by simp [splitB, e, h2], h3⟩
theorem dbl_words (a : List UInt8) : wordsB (dbl a) = wordsB a := by
  obtain ⟨p, r, r', h1, h2, h3⟩ := split_dbl a
  unfold wordsB
  rw [h1, h2]
  simp only [List.filter_cons]
  simp only [flt] at h3
  rw [h3]
theorem splitB_end (c : UInt8) : ∀ l : List UInt8, splitB c (l ++ [c]) = splitB c l ++ [[]]
  | [] => by simp [splitB]
  | x :: l => by
    have ih := splitB_end c l
    simp only [List.cons_append, splitB, ih]
    split
    · rfl
    · cases h : splitB c l with
      | nil =>
        have : splitB c l ≠ [] := by
          cases l with
          | nil => simp [splitB]
          | cons y l => simp only [splitB]; split <;> (try simp); split <;> simp
        exact absurd h this
      | cons p r => rfl
theorem dbl_words1 (a : List UInt8) : wordsB (dbl a ++ [32]) = wordsB a := by
  rw [← dbl_words a]
  unfold wordsB
  rw [splitB_end]
  simp
theorem ahead_cons (x : UInt8) (l : List UInt8) : aheadB (x :: l) = if x = 35 then [] else x :: aheadB l := by
  unfold aheadB
  simp only [ixB]
  by_cases h : x = 35
  · simp [h]
  · simp only [h, if_false]
    cases ixB 35 l with
    | none => rfl
    | some i => rfl
def nSuf : List UInt8 := [32, 35, 32, 120]
theorem ahead_dbl : ∀ l : List UInt8, aheadB (dbl l) = dbl (aheadB l)
  | [] => rfl
  | x :: l => by
    by_cases h : x = 32
    · subst h
      simp only [dbl, if_true, ahead_cons, ahead_dbl l]
      simp [dbl]
    · simp only [dbl, h, if_false, ahead_cons, ahead_dbl l]
      split
      · rfl
      · simp [dbl, h]
theorem ahead_dblS : ∀ l : List UInt8, aheadB (dbl l ++ nSuf) = dbl (aheadB l) ∨ aheadB (dbl l ++ nSuf) = dbl (aheadB l) ++ [32]
  | [] => .inr rfl
  | x :: l => by
    by_cases h : x = 32
    · subst h
      simp only [dbl, if_true, List.cons_append, ahead_cons]
      rcases ahead_dblS l with e | e
      · left; rw [e]; simp [dbl]
      · right; rw [e]; simp [dbl]
    · simp only [dbl, h, if_false, List.cons_append, ahead_cons]
      by_cases h35 : x = 35
      · left; simp [h35, dbl]
      · rcases ahead_dblS l with e | e
        · left; rw [e]; simp [dbl, h, h35]
        · right; rw [e]; simp [dbl, h, h35]
theorem line_dbl (L : Ly) (l : List UInt8) : lineP L (dbl l) = lineP L l := by
  unfold lineP
  rw [ahead_dbl, dbl_okW, dbl_words]
theorem line_dblS (L : Ly) (l : List UInt8) : lineP L (dbl l ++ nSuf) = lineP L l := by
  unfold lineP
  rcases ahead_dblS l with e | e
  · rw [e, dbl_okW, dbl_words]
  · rw [e, dbl_okW1, dbl_words1]
def expL : List (List UInt8) → List (List UInt8)
  | [] => []
  | [l] => [dbl l]
  | l :: r => (dbl l ++ nSuf) :: [32, 32] :: expL r
def nF (b : UInt8) : List UInt8 := if b = 10 then [32, 35, 32, 120, 10, 32, 32, 10] else if b = 32 then [32, 32] else [b]
def nPre : List UInt8 := [35, 32, 97, 32, 110, 111, 116, 101]
def noted (s : List UInt8) : List UInt8 := nPre ++ [10] ++ s.flatMap nF
theorem splitB_ne (c : UInt8) (l : List UInt8) : ∃ p r, splitB c l = p :: r := by
  cases l with
  | nil => exact ⟨[], [], rfl⟩
  | cons y l =>
    simp only [splitB]
    split
    · exact ⟨_, _, rfl⟩
    · split
      · exact ⟨_, _, rfl⟩
      · exact ⟨_, _, rfl⟩
theorem expL_cons (x : UInt8) (p : List UInt8) (r : List (List UInt8)) : ∃ q t, expL (p :: r) = q :: t ∧ expL ((x :: p) :: r) = (dbl [x] ++ q) :: t := by
  cases r with
  | nil => exact ⟨dbl p, [], rfl, by simp only [expL]; rw [show x :: p = [x] ++ p from rfl, dbl_app]⟩
  | cons y r => exact ⟨dbl p ++ nSuf, [32, 32] :: expL (y :: r), rfl, by simp only [expL]; rw [show x :: p = [x] ++ p from rfl, dbl_app, List.append_assoc]⟩
theorem split_noted : ∀ s : List UInt8, splitB 10 (s.flatMap nF) = expL (splitB 10 s)
  | [] => rfl
  | x :: s => by
    have ih := split_noted s
    obtain ⟨p, r, h⟩ := splitB_ne 10 s
    by_cases h10 : x = 10
    · subst h10
      have e1 : splitB 10 (10 :: s) = [] :: splitB 10 s := by simp [splitB]
      have e2 : (10 :: s).flatMap nF = [32, 35, 32, 120] ++ 10 :: ([32, 32] ++ 10 :: s.flatMap nF) := rfl
      rw [e1, e2, splitB_sep _ (by decide), splitB_sep _ (by decide), ih, h]
      rfl
    · have e1 : splitB 10 (x :: s) = (x :: p) :: r := by simp [splitB, h10, h]
      obtain ⟨q, t, h1, h2⟩ := expL_cons x p r
      rw [e1, h2]
      have ih' : splitB 10 (s.flatMap nF) = q :: t := by rw [ih, h, h1]
      by_cases h32 : x = 32
      · subst h32
        have e2 : (32 :: s).flatMap nF = 32 :: 32 :: s.flatMap nF := rfl
        rw [e2]
        simp [splitB, ih', dbl]
      · have e2 : (x :: s).flatMap nF = x :: s.flatMap nF := by simp [nF, h10, h32]
        rw [e2]
        simp [splitB, ih', dbl, h32, h10]
def twN (r : Ly × Int × Nat) : Ly × Int × Nat := (r.1, r.2.1, if r.2.1 = 0 then 0 else 2 * r.2.2)
theorem twN_err {e : Int} (h : e ≠ 0) (i : Nat) : (ly0, e, 2 * i + 1 + 1) = twN (ly0, e, i + 1) := by
  unfold twN
  simp only [h, if_false]
  rw [show 2 * i + 1 + 1 = 2 * (i + 1) by omega]
theorem parse_exp : ∀ (ls : List (List UInt8)) (L : Ly) (i : Nat), ls ≠ [] → parseG lineP L (expL ls) (2 * i + 1) = twN (parseG lineP L ls i)
  | [], _, _, h => absurd rfl h
  | [l], L, i, _ => by
    simp only [expL, parseG, line_dbl]
    split
    · rfl
    · rename_i h; exact twN_err h i
  | l :: m :: r, L, i, _ => by
    have hb : ∀ L : Ly, lineP L [32, 32] = (0, L) := fun L => rfl
    have ih := parse_exp (m :: r) (lineP L l).2 (i + 1) (by simp)
    have e1 : ∀ j, parseG lineP L (expL (l :: m :: r)) j = if (lineP L l).1 = 0 then parseG lineP (lineP L l).2 (expL (m :: r)) (j + 1 + 1) else (ly0, (lineP L l).1, j + 1) := fun j => by
      simp only [expL, parseG, line_dblS, hb, if_true]
    have e2 : parseG lineP L (l :: m :: r) i = if (lineP L l).1 = 0 then parseG lineP (lineP L l).2 (m :: r) (i + 1) else (ly0, (lineP L l).1, i + 1) := by
      rw [parseG]
    rw [e1, e2]
    by_cases e : (lineP L l).1 = 0
    · rw [if_pos e, if_pos e, show 2 * i + 1 + 1 + 1 = 2 * (i + 1) + 1 by omega]
      exact ih
    · rw [if_neg e, if_neg e]
      exact twN_err e i
theorem parse_noted {s : List UInt8} (h1 : s.length ≤ 16384) (h2 : (noted s).length ≤ 16384) : parseP (noted s) = twN (parseP s) := by
  unfold parseP
  rw [if_neg (by omega), if_neg (by omega)]
  have e : splitB 10 (noted s) = nPre :: expL (splitB 10 s) := by
    unfold noted
    rw [List.append_assoc, List.singleton_append, splitB_sep _ (by decide), split_noted]
  have hp : ∀ L : Ly, lineP L nPre = (0, L) := fun L => rfl
  rw [e]
  simp only [parseG, hp, if_true]
  have hne : splitB 10 s ≠ [] := by obtain ⟨p, r, h⟩ := splitB_ne 10 s; rw [h]; simp
  exact parse_exp (splitB 10 s) ly0 0 hne
end Go.AM.Fd

set_option linter.unusedSimpArgs false
set_option linter.unusedVariables false
namespace Go.AM.Fd
open Nat (reduceAdd reduceEqDiff reduceLT reduceLeDiff reduceMul reduceSub)
open Go.Proofs Go.AM.F
theorem flat_take {s : List UInt8} {i : Nat} (h : i < s.length) : (s.take (i + 1)).flatMap nF = (s.take i).flatMap nF ++ nF (s.getD i 0) := by
  rw [List.take_add_one, List.getElem?_eq_getElem h, List.flatMap_append]
  simp [List.getD, List.getElem?_eq_getElem h]
theorem flat_len : ∀ s : List UInt8, (s.flatMap nF).length ≤ 8 * s.length
  | [] => by simp
  | x :: s => by
    have := flat_len s
    simp only [List.flatMap_cons, List.length_append, List.length_cons]
    have : (nF x).length ≤ 8 := by unfold nF; split <;> (try split) <;> simp
    omega
theorem parseG_num (f : Ly → List UInt8 → Int × Ly) : ∀ (ls : List (List UInt8)) (L : Ly) (i : Nat), (parseG f L ls i).2.2 ≤ i + ls.length
  | [], L, i => by simp [parseG]
  | l :: ls, L, i => by
    simp only [parseG]
    split
    · have := parseG_num f ls (f L l).2 (i + 1); simp; omega
    · simp
set_option maxHeartbeats 2000000 in
theorem lawNotes : ∀ H args, NoOwn H → AVs Go.Proofs.Tryd.prog H.get [9] args → ∃ H', ARun Go.Proofs.Tryd.prog 4 4 args H (.bool true) H' := by
  intro H args _ h
  match args, h with
  | [v], ⟨h0, _⟩ =>
    obtain ⟨s, rfl, hs⟩ := av_str h0
    suffices h' : ∃ w H', ARun Go.Proofs.Tryd.prog 4 4 [.string ⟨s.toArray⟩] H w H' ∧ w = .bool true by
      obtain ⟨_, K, a, rfl⟩ := h'
      exact ⟨K, a⟩
    refine walk2 f4_ok f4_n ?_
    intro Q hq1 hq2
    by_cases hm : 1500 < s.length
    · have e1 : (1500 : Int) < ((s.length : Nat) : Int) := by omega
      simp (disch := first | assumption | omega | (simp only [LN] <;> omega) | (simp (disch := first | assumption | omega | (simp only [LN] <;> omega)) only [row_alloc, row_set]; assumption)) only [f4, W_block, P3, ↓reduceIte, reduceAdd, reduceEqDiff, reduceCtorEq, initFr, reduceLT, clsA, reduceLeDiff, reduceMul, reduceSub, reduceIte, a_lens]
      refine callK (t8 _) ?_
      rintro _ K ⟨rfl, k⟩
      simp (disch := first | assumption | omega | (simp only [LN] <;> omega) | (simp (disch := first | assumption | omega | (simp only [LN] <;> omega)) only [row_alloc, row_set]; assumption)) only [W_block, P3, ↓reduceIte, reduceAdd, reduceEqDiff, reduceCtorEq, initFr, reduceLT, clsA, reduceLeDiff, reduceMul, reduceSub, reduceIte]
      exact hq2 _ _ ⟨_, rfl, rfl⟩
    have e1 : ¬ (1500 : Int) < ((s.length : Nat) : Int) := by omega
    simp (disch := first | assumption | omega | (simp only [LN] <;> omega) | (simp (disch := first | assumption | omega | (simp only [LN] <;> omega)) only [row_alloc, row_set]; assumption)) only [ f4, P3, ↓reduceIte, reduceAdd, reduceEqDiff, reduceCtorEq, initFr, reduceLT, clsA, reduceLeDiff, reduceMul, reduceSub, reduceIte, a_lens]
    rw [W_block]
    refine W_loop2 (fun k fr K => ∃ i x4 x5 x6 x7 x8 x9 x11 x12 x13, fr = [.string ⟨s.toArray⟩, .bool false, .string ⟨(nPre ++ [10] ++ (s.take i).flatMap nF).toArray⟩, .int .i64 ((i : Nat) : Int), x4, x5, x6, x7, x8, x9, .bool false, x11, x12, x13] ∧ K = H ∧ i ≤ s.length ∧ k = s.length - i) s.length
      ⟨0, _, _, _, _, _, _, _, _, _, rfl, rfl, by omega, rfl⟩ ?_
    rintro Q' k fr K ⟨i, x4, x5, x6, x7, x8, x9, x11, x12, x13, rfl, rfl, hi, rfl⟩ hn hx hret
    by_cases hlt : i < s.length
    · have h0 : (0 : Int) ≤ (i : Int) := by omega
      have h3 : (i : Int) < ((s.length : Nat) : Int) := by omega
      have hw : IntKind.i64.wrap ((i : Int) + 1) = ((i + 1 : Nat) : Int) := by rw [wrap_i64 (by omega) (by omega)]; simp
      have hix : ∀ X, asem (.idxs (.string ⟨s.toArray⟩) (.int .i64 ((i : Nat) : Int))) X = some (.int .u8 ((s.getD i 0).toNat : Nat), X) := fun X => a_idxS hlt
      have hfl := flat_len (s.take i)
      have hft := flat_take hlt
      rw [List.length_take] at hfl
      have q1 := u8_eqi (s.getD i 0) 10 (by omega)
      have q2 := u8_eqi (s.getD i 0) 32 (by omega)
      have c10 : UInt8.ofNat 10 = 10 := rfl
      have c32 : UInt8.ofNat 32 = 32 := rfl
      rw [c10] at q1
      rw [c32] at q2
      have q1' : ((((s.getD i 0).toNat : Nat) : Int) == 10) = decide (s.getD i 0 = 10) := q1
      have q2' : ((((s.getD i 0).toNat : Nat) : Int) == 32) = decide (s.getD i 0 = 32) := q2
      have hone : s.getD i 0 = (s.getD i 0) := rfl
      have hsl : ∀ X, asem (.slstr (.string ⟨s.toArray⟩) (some (.int .i64 ((i : Nat) : Int))) (some (.int .i64 ((i + 1 : Nat) : Int)))) X = some (.string ⟨[s.getD i 0].toArray⟩, X) := fun X => by
        rw [a_slsM (by omega) (by omega)]
        congr 4
        rw [List.take_add_one, List.getElem?_eq_getElem hlt]
        rw [List.drop_append_of_le_length (by simp; omega), List.drop_of_length_le (by rw [List.length_take]; omega)]
        simp [List.getD, List.getElem?_eq_getElem hlt]
      generalize hb : s.getD i 0 = b at *
      have ht : (nPre ++ [10] ++ (s.take i).flatMap nF).length ≤ 20000 := by simp only [List.length_append, nPre, List.length_cons, List.length_nil]; omega
      generalize htt : nPre ++ [10] ++ (s.take i).flatMap nF = t at *
      have hnx : nPre ++ [10] ++ (s.take (i + 1)).flatMap nF = t ++ nF b := by rw [hft, ← htt, List.append_assoc, List.append_assoc, List.append_assoc]
      by_cases e10 : b = 10
      · rw [decide_eq_true e10] at q1'
        have ha := b_addS (a := t) (b := [32, 35, 32, 120, 10, 32, 32, 10]) (by simp; omega)
        simp (disch := first | assumption | omega | (simp only [LN] <;> omega) | (simp (disch := first | assumption | omega | (simp only [LN] <;> omega)) only [row_alloc, row_set]; assumption)) only [W_block, P3, ↓reduceIte, reduceAdd, reduceEqDiff, reduceCtorEq, initFr, reduceLT, clsA, reduceLeDiff, reduceMul, reduceSub, reduceIte, a_lens, hix, q1', ha, hw]
        refine hn _ _ _ ⟨i + 1, x4, x5, x6, x7, x8, x9, .bool true, .bool true, x13, by rw [hnx, e10]; rfl, rfl, by omega, rfl⟩ (by omega)
      rw [decide_eq_false e10] at q1'
      by_cases e32 : b = 32
      · rw [decide_eq_true e32] at q2'
        have ha := b_addS (a := t) (b := [32]) (by simp; omega)
        have ha2 := b_addS (a := t ++ [32]) (b := [b]) (by simp; omega)
        simp (disch := first | assumption | omega | (simp only [LN] <;> omega) | (simp (disch := first | assumption | omega | (simp only [LN] <;> omega)) only [row_alloc, row_set]; assumption)) only [W_block, P3, ↓reduceIte, reduceAdd, reduceEqDiff, reduceCtorEq, initFr, reduceLT, clsA, reduceLeDiff, reduceMul, reduceSub, reduceIte, a_lens, hix, q1', q2', ha, hw, hsl, ha2]
        refine hn _ _ _ ⟨i + 1, x4, x5, x6, x7, x8, x9, .bool true, .bool false, .bool true, by rw [hnx, e32, List.append_assoc]; rfl, rfl, by omega, rfl⟩ (by omega)
      rw [decide_eq_false e32] at q2'
      have ha2 := b_addS (a := t) (b := [b]) (by simp; omega)
      simp (disch := first | assumption | omega | (simp only [LN] <;> omega) | (simp (disch := first | assumption | omega | (simp only [LN] <;> omega)) only [row_alloc, row_set]; assumption)) only [W_block, P3, ↓reduceIte, reduceAdd, reduceEqDiff, reduceCtorEq, initFr, reduceLT, clsA, reduceLeDiff, reduceMul, reduceSub, reduceIte, a_lens, hix, q1', q2', hw, hsl, ha2]
      have hnf : nF b = [b] := by simp [nF, e10, e32]
      refine hn _ _ _ ⟨i + 1, x4, x5, x6, x7, x8, x9, .bool true, .bool false, .bool false, by rw [hnx, hnf], rfl, by omega, rfl⟩ (by omega)
    have h3 : ¬ (i : Int) < ((s.length : Nat) : Int) := by omega
    simp (disch := first | assumption | omega | (simp only [LN] <;> omega) | (simp (disch := first | assumption | omega | (simp only [LN] <;> omega)) only [row_alloc, row_set]; assumption)) only [W_block, P3, ↓reduceIte, reduceAdd, reduceEqDiff, reduceCtorEq, initFr, reduceLT, clsA, reduceLeDiff, reduceMul, reduceSub, reduceIte, a_lens]
    refine hx 0 _ _ ?_
    rw [List.take_of_length_le (by omega)]
    have hpn := parse_noted (s := s) (by omega) (by have := flat_len s; simp only [noted, List.length_append, nPre, List.length_cons, List.length_nil]; omega)
    rw [show nPre ++ [10] ++ s.flatMap nF = noted s from rfl]
    clear hn hx hret
    simp (disch := first | assumption | omega | (simp only [LN] <;> omega) | (simp (disch := first | assumption | omega | (simp only [LN] <;> omega)) only [row_alloc, row_set]; assumption)) only [W_block, P3, ↓reduceIte, reduceAdd, reduceEqDiff, reduceCtorEq, initFr, reduceLT, clsA, reduceLeDiff, reduceMul, reduceSub, reduceIte]
    have hnum : (parseP s).2.2 ≤ 10000 := by
      unfold parseP
      split
      · simp
      · have h1 := parseG_num lineP (splitB 10 s) ly0 0
        have h2 := splitB_len 10 s
        omega
    have hfit := (parseD_fit s).in_
    refine callK (t9 _ s) ?_
    rintro _ K1 ⟨k1, u, xs, rfl, y1⟩
    have o1 := ly_ones y1
    have ll : u.l.length = 4 := rfl
    simp (disch := first | assumption | omega | (simp only [LN] <;> omega) | (simp (disch := first | assumption | omega | (simp only [LN] <;> omega)) only [row_alloc, row_set]; assumption)) only [W_block, P3, ↓reduceIte, reduceAdd, reduceEqDiff, reduceCtorEq, initFr, reduceLT, clsA, reduceLeDiff, reduceMul, reduceSub, reduceIte, o1, ll]
    refine callK (t9 _ (noted s)) ?_
    rintro _ K2 ⟨k2, u2, xs2, rfl, y2⟩
    have o2 := ly_ones y2
    have ll2 : u2.l.length = 4 := rfl
    rw [hpn] at y2 ⊢
    rw [← eq_parse] at hfit
    generalize parseP s = r at *
    obtain ⟨M, e, n⟩ := r
    simp only [twN] at y2 hnum hfit y1 ⊢
    have eq1 : ∀ n : Int, (n == n) = true := fun n => beqi_yes rfl
    have g1 : K2.get K1.n = some (.cells true false 4 u.l 28) := k2.at_ (AHeap.get_alloc_new _ _)
    have kk : Keeps K1 K2 := ((Keeps.refl K1).alloc _).trans k2
    have n1 := AHeap.get_lt g1
    have ka : Keeps K2 (K2.alloc (.cells true false 4 u2.l 28)) := (Keeps.refl K2).alloc _
    have g2 : (K2.alloc (.cells true false 4 u2.l 28)).get K1.n = some (.cells true false 4 u.l 28) := ka.at_ g1
    have g3 : (K2.alloc (.cells true false 4 u2.l 28)).get K2.n = some (.cells true false 4 u2.l 28) := AHeap.get_alloc_new _ _
    simp (disch := first | assumption | omega | (simp only [LN] <;> omega) | (simp (disch := first | assumption | omega | (simp only [LN] <;> omega)) only [row_alloc, row_set]; assumption)) only [W_block, P3, ↓reduceIte, reduceAdd, reduceEqDiff, reduceCtorEq, initFr, reduceLT, clsA, reduceLeDiff, reduceMul, reduceSub, reduceIte, o2, ll, ll2, eq1, g2, g3]
    refine callK (t11 (y1.keeps (kk.trans ka)) (y2.keeps ka) hfit) ?_
    rintro _ K3 ⟨rfl, k3⟩
    by_cases he : e = 0
    · subst he
      have e0 : ((0 : Int) == 0) = true := rfl
      have z0 : (((0 : Nat) : Int) == 0) = true := rfl
      simp (disch := first | assumption | omega | (simp only [LN] <;> omega) | (simp (disch := first | assumption | omega | (simp only [LN] <;> omega)) only [row_alloc, row_set]; assumption)) only [W_block, P3, ↓reduceIte, reduceAdd, reduceEqDiff, reduceCtorEq, initFr, reduceLT, clsA, reduceLeDiff, reduceMul, reduceSub, reduceIte, e0, z0]
      refine callK (t8 _) ?_
      rintro _ K4 ⟨rfl, k4⟩
      simp (disch := first | assumption | omega | (simp only [LN] <;> omega) | (simp (disch := first | assumption | omega | (simp only [LN] <;> omega)) only [row_alloc, row_set]; assumption)) only [W_block, P3, ↓reduceIte, reduceAdd, reduceEqDiff, reduceCtorEq, initFr, reduceLT, clsA, reduceLeDiff, reduceMul, reduceSub, reduceIte]
      exact hq2 _ _ ⟨_, rfl, rfl⟩
    · have e0 : (e == 0) = false := beqi_no he
      have e1 : (e != 0) = true := bnei_yes he
      have hw : IntKind.i64.wrap (2 * ((n : Nat) : Int)) = ((2 * n : Nat) : Int) := by rw [wrap_i64 (by omega) (by omega)]; push_cast; rfl
      simp (disch := first | assumption | omega | (simp only [LN] <;> omega) | (simp (disch := first | assumption | omega | (simp only [LN] <;> omega)) only [row_alloc, row_set]; assumption)) only [W_block, P3, ↓reduceIte, reduceAdd, reduceEqDiff, reduceCtorEq, initFr, reduceLT, clsA, reduceLeDiff, reduceMul, reduceSub, reduceIte, e0, e1, hw, eq1, he]
      refine callK (t8 _) ?_
      rintro _ K4 ⟨rfl, k4⟩
      simp (disch := first | assumption | omega | (simp only [LN] <;> omega) | (simp (disch := first | assumption | omega | (simp only [LN] <;> omega)) only [row_alloc, row_set]; assumption)) only [W_block, P3, ↓reduceIte, reduceAdd, reduceEqDiff, reduceCtorEq, initFr, reduceLT, clsA, reduceLeDiff, reduceMul, reduceSub, reduceIte]
      exact hq2 _ _ ⟨_, rfl, rfl⟩
end Go.AM.Fd
