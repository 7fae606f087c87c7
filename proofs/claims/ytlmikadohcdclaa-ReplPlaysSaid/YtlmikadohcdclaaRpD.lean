/- Part of the proof: RpD. -/
import Derived.Test.YtlmikadohcdclaaRpC
import Derived.Test.YtlmikadohcdclaaAmY2
import Derived.Test.YtlmikadohcdclaaAmU3
set_option linter.unusedSimpArgs false
set_option linter.unusedVariables false
namespace Go.AM.Rp
open Go.Proofs

theorem bi_u (b : Bool) : boolIs undef b = false := by cases b <;> rfl

/-! ### Timers -/
def TC (l : List (Int × Int)) : List Value := l.flatMap fun x => [.int .i64 x.1, .int .u8 x.2]
theorem TC_len : ∀ l, (TC l).length = 2 * l.length
  | [] => rfl
  | x :: l => by have := TC_len l; simp only [TC, List.flatMap_cons, List.length_append, List.length_cons, List.length_nil] at this ⊢; omega
theorem TC_app (l m : List (Int × Int)) : TC (l ++ m) = TC l ++ TC m := by simp [TC]
theorem TC_at : ∀ (l : List (Int × Int)) (i : Nat) (h : i < l.length), ((TC l).drop (i * 2)).take 2 = [.int .i64 l[i].1, .int .u8 l[i].2]
  | x :: l, 0, _ => rfl
  | x :: l, i + 1, h => by
    have := TC_at l i (by simpa using h)
    rw [show (i + 1) * 2 = i * 2 + 2 by omega]
    show ((.int .i64 x.1 :: .int .u8 x.2 :: TC l).drop (i * 2 + 2)).take 2 = _
    rw [List.drop_succ_cons, List.drop_succ_cons, this]
    rfl

/-- A slice of timers. -/
def TB (H : AHeap) (v : Value) (l : List (Int × Int)) : Prop := ∃ a k, v = .slice a l.length k ∧ (l ≠ [] → ∃ b own room c e, a = some ⟨b, 0, none⟩ ∧ H.get b = some (.cells own room 2 c e) ∧ c.take (2 * l.length) = TC l)
theorem TB.at_ {H : AHeap} {v : Value} {l : List (Int × Int)} (h : TB H v l) {i : Nat} (hi : i < l.length) : ∃ b k, v = slc b 0 l.length k ∧ rangeA H b (i * 2) 2 = some [.int .i64 l[i].1, .int .u8 l[i].2] ∧ cellA H b (i * 2) = some (.int .i64 l[i].1) ∧ cellA H b (i * 2 + 1) = some (.int .u8 l[i].2) := by
  obtain ⟨a, k, rfl, h⟩ := h
  obtain ⟨b, own, room, c, e, rfl, h1, h2⟩ := h (fun e => by subst e; simp at hi)
  have hl := congrArg List.length h2
  rw [TC_len, List.length_take] at hl
  have h3 := TC_at l i hi
  have h4 : (c.drop (i * 2)).take 2 = [.int .i64 l[i].1, .int .u8 l[i].2] := by
    rw [← h3, ← h2, List.drop_take, List.take_take]; congr 1; omega
  have g : ∀ j, j < 2 → c[i * 2 + j]? = ([.int .i64 l[i].1, .int .u8 l[i].2] : List Value)[j]? := fun j hj => by rw [← h4, List.getElem?_take_of_lt hj, List.getElem?_drop]
  exact ⟨b, k, rfl, by rw [rangeA_of h1, if_pos (by omega), h4], by rw [cellA_of h1]; simpa using g 0 (by omega), by rw [cellA_of h1]; simpa using g 1 (by omega)⟩
theorem TB.chg {H H' : AHeap} {v : Value} {l : List (Int × Int)} {S : List Nat} (h : TB H v l) (k : Chg S H H') (hS : ∀ x ∈ blkL v, x ∉ S) : TB H' v l := by
  obtain ⟨a, c, rfl, h⟩ := h
  refine ⟨a, c, rfl, fun hne => ?_⟩
  obtain ⟨b, own, room, cs, e, rfl, h1, h2⟩ := h hne
  exact ⟨b, own, room, cs, e, rfl, k.at_ h1 (hS b (mem_blkL.2 rfl)), h2⟩
theorem TB.keeps {H H' : AHeap} {v : Value} {l : List (Int × Int)} (h : TB H v l) (k : Keeps H H') : TB H' v l := h.chg (k.chg []) (by simp)
theorem TB.one {H : AHeap} {v : Value} {l : List (Int × Int)} (h : TB H v l) : v.oneCell' = true := by obtain ⟨a, k, rfl, _⟩ := h; rfl
theorem TB.of_ap {H : AHeap} {e : Nat} {v : Value} {l : List (Int × Int)} (h : AP H e 2 v l.length (TC l)) : TB H v l := by
  rcases h with ⟨rfl, h1, h2⟩ | ⟨b, room, rfl, h1, h2⟩
  · exact ⟨none, 0, by rw [h1], fun hne => absurd (List.length_eq_zero_iff.1 h1) hne⟩
  · exact ⟨_, _, rfl, fun _ => ⟨b, true, room, _, e, rfl, h2, by rw [List.take_of_length_le (by rw [TC_len]; omega)]⟩⟩

def riseF (p : Int) : List (Int × Int) → Bool
  | [] => true
  | x :: l => if x.1 ≤ p ∨ 64 ≤ x.1 then false else riseF x.1 l

theorem var2 (H : AHeap) (e : Nat) (a b : Int) : asem (.storen 2 (ptr H.n 0) (.agg [.int .i64 a, .int .u8 b].toArray)) (H.alloc (.cells true false 2 [.int .i64 0, .int .u8 0] e)) = some (undef, H.alloc (.cells true false 2 [.int .i64 a, .int .u8 b] e)) := by
  have := a_var (H := H) (n := 2) (room := false) (esz := 2) (e := e) (c := [.int .i64 0, .int .u8 0]) (xs := [.int .i64 a, .int .u8 b].toArray) rfl rfl (by simp [one_int])
  simpa using this

/-- right. -/
theorem t31 {H : AHeap} {v : Value} {l : List (Int × Int)} (h : TB H v l) (x y z w : Int) (hl : l.length ≤ 100000) : ∃ r H', ARun Try.prog 0 31 [.agg [.int .u64 x, .int .u64 y, .int .u64 z, .int .u32 w, v].toArray] H r H' ∧ r = .bool (riseF (-1) l) ∧ Keeps H H' := by
  refine walk2 f31_ok f31_n ?_
  intro Q hq1 hq2
  have hcl : (Value.agg [.int .u64 x, .int .u64 y, .int .u64 z, .int .u32 w, v].toArray).cells.toList = [.int .u64 x, .int .u64 y, .int .u64 z, .int .u32 w, v] := rfl
  have k1 := (Keeps.refl H).alloc (.cells true false 5 [.int .u64 x, .int .u64 y, .int .u64 z, .int .u32 w, v] 29)
  have g1 := AHeap.get_alloc_new H (.cells true false 5 [.int .u64 x, .int .u64 y, .int .u64 z, .int .u32 w, v] 29)
  obtain ⟨H1, hH1⟩ : ∃ X, X = H.alloc (.cells true false 5 [.int .u64 x, .int .u64 y, .int .u64 z, .int .u32 w, v] 29) := ⟨_, rfl⟩
  rw [← hH1] at k1 g1
  obtain ⟨a, kk, hv, _⟩ := id h
  have hlen : asem (.len false v) H1 = some (.int .i64 l.length, H1) := by rw [hv]; rfl
  simp only [f31, W_block, ANs, AOp.map, ↓reduceIte, Nat.reduceAdd, Nat.reduceEqDiff, reduceCtorEq, initFr, Nat.reduceLT, ANc, hcl, h.one, ← hH1, cellA_of g1, hlen]
  refine W_loop2 (fun q fr H2 => ∃ (i : Nat) (p : Int) (y4 y8 y9 : Value), fr = [.agg [.int .u64 x, .int .u64 y, .int .u64 z, .int .u32 w, v].toArray, ptr H.n 0, .bool false, .int .i64 p, y4, v, .int .i64 l.length, .int .i64 i, y8, y9] ∧ i ≤ l.length ∧ q = l.length - i ∧ Keeps H H2 ∧ riseF (-1) l = riseF p (l.drop i)) l.length ?_ ?_
  · exact ⟨0, -1, _, _, _, rfl, by omega, by omega, k1, by simp⟩
  · rintro Q' q fr H2 ⟨i, p, y4, y8, y9, rfl, h1, rfl, k2, hr⟩ hnext hexit hret
    by_cases hi : i < l.length
    · obtain ⟨b, k', e1, e2, e3, e4⟩ := (h.keeps k2).at_ hi
      rw [List.drop_eq_getElem_cons hi] at hr
      generalize l[i] = t at *
      have v2 := var2 H2 90 t.1 t.2
      have g2 := AHeap.get_alloc_new H2 (.cells true false 2 [.int .i64 t.1, .int .u8 t.2] 90)
      have kk := (Keeps.refl H2).alloc (.cells true false 2 [.int .i64 t.1, .int .u8 t.2] 90)
      obtain ⟨H3, hH3⟩ : ∃ X, X = H2.alloc (.cells true false 2 [.int .i64 t.1, .int .u8 t.2] 90) := ⟨_, rfl⟩
      rw [← hH3] at v2 g2 kk
      rw [e1]
      simp only [W_block, ANs, AOp.map, ↓reduceIte, Nat.reduceAdd, Nat.reduceEqDiff, reduceCtorEq, initFr, Nat.reduceLT, ANc, show (i : Int) < (l.length : Int) by omega, decide_true, show (0 : Int) ≤ (i : Int) by omega, e2, v2, cellA_of g2]
      simp only [riseF] at hr
      by_cases c1 : t.1 ≤ p
      · simp only [W_block, ANs, AOp.map, ↓reduceIte, Nat.reduceAdd, Nat.reduceEqDiff, reduceCtorEq, initFr, Nat.reduceLT, ANc, bi_u, c1, decide_true]
        refine hret _ _ ?_
        refine hq2 _ _ ⟨_, rfl, ?_, k2.trans kk⟩
        rw [hr]; simp [c1]; rfl
      by_cases c2 : 64 ≤ t.1
      · simp only [W_block, ANs, AOp.map, ↓reduceIte, Nat.reduceAdd, Nat.reduceEqDiff, reduceCtorEq, initFr, Nat.reduceLT, ANc, bi_u, c1, c2, cellA_of g2, decide_true, decide_false]
        refine hret _ _ ?_
        refine hq2 _ _ ⟨_, rfl, ?_, k2.trans kk⟩
        rw [hr]; simp [c2]; rfl
      simp only [W_block, ANs, AOp.map, ↓reduceIte, Nat.reduceAdd, Nat.reduceEqDiff, reduceCtorEq, initFr, Nat.reduceLT, ANc, bi_u, c1, c2, cellA_of g2, decide_false, wrap_succ (n := i) (by omega)]
      rw [if_neg (by omega)] at hr
      exact hnext _ _ _ ⟨i + 1, t.1, _, _, _, by rw [← e1], by omega, rfl, k2.trans kk, hr⟩ (by omega)
    · simp only [W_block, ANs, AOp.map, ↓reduceIte, Nat.reduceAdd, Nat.reduceEqDiff, reduceCtorEq, initFr, Nat.reduceLT, ANc, show ¬ (i : Int) < (l.length : Int) by omega, decide_false]
      refine hexit _ _ _ ?_
      simp only [W_block, ANs, AOp.map, ↓reduceIte, Nat.reduceAdd, Nat.reduceEqDiff, reduceCtorEq, initFr, Nat.reduceLT, ANc]
      refine hq2 _ _ ⟨_, rfl, ?_, k2⟩
      rw [hr, List.drop_of_length_le (by omega)]; rfl

/-- rise. -/
theorem t32 {H : AHeap} {v : Value} {l : List (Int × Int)} (h : TB H v l) (hl : l.length ≤ 100000) : ∃ r H', ARun Try.prog 0 32 [v] H r H' ∧ r = .bool (riseF (-1) l) ∧ H' = H := by
  refine walk2 f32_ok f32_n ?_
  intro Q hq1 hq2
  obtain ⟨a, kk, hv, _⟩ := id h
  simp only [f32, W_block, ANs, AOp.map, ↓reduceIte, Nat.reduceAdd, Nat.reduceEqDiff, reduceCtorEq, initFr, Nat.reduceLT, ANc]
  refine W_loop2 (fun q fr H2 => ∃ (i : Nat) (p : Int) (y3 y4 : Value), fr = [v, .bool false, .int .i64 i, y3, y4] ∧ i ≤ l.length ∧ q = l.length - i ∧ H2 = H ∧ riseF (-1) l = riseF p (l.drop i) ∧ (i = 0 ∧ p = -1 ∨ 0 < i ∧ 0 ≤ p ∧ ∃ h : i - 1 < l.length, p = l[i - 1].1)) l.length ?_ ?_
  · exact ⟨0, -1, _, _, rfl, by omega, by omega, rfl, by simp, .inl ⟨rfl, rfl⟩⟩
  · rintro Q' q fr H2 ⟨i, p, y3, y4, rfl, h1, rfl, rfl, hr, hp⟩ hnext hexit hret
    by_cases hi : i < l.length
    · obtain ⟨b, k', e1, e2, e3, e4⟩ := h.at_ hi
      rw [List.drop_eq_getElem_cons hi] at hr
      simp only [riseF] at hr
      rw [e1]
      have done : ∀ fr, fr.getD 1 undef = .bool false → riseF (-1) l = false → Q .ret fr H2 := fun fr h1 h2 => hq2 _ _ ⟨_, rfl, by rw [h2]; exact h1, rfl⟩
      simp only [W_block, ANs, AOp.map, ↓reduceIte, Nat.reduceAdd, Nat.reduceEqDiff, reduceCtorEq, initFr, Nat.reduceLT, ANc, show (i : Int) < (l.length : Int) by omega, decide_true, show (0 : Int) ≤ (i : Int) by omega, e3]
      by_cases c1 : l[i].1 < 0
      · simp only [W_block, ANs, AOp.map, ↓reduceIte, Nat.reduceAdd, Nat.reduceEqDiff, reduceCtorEq, initFr, Nat.reduceLT, ANc, bi_u, c1, decide_true]
        refine hret _ _ (done _ rfl ?_)
        rw [hr, if_pos]; left; rcases hp with ⟨_, rfl⟩ | ⟨_, h, _⟩ <;> omega
      by_cases c2 : 64 ≤ l[i].1
      · simp only [W_block, ANs, AOp.map, ↓reduceIte, Nat.reduceAdd, Nat.reduceEqDiff, reduceCtorEq, initFr, Nat.reduceLT, ANc, bi_u, c1, c2, decide_true, decide_false, show (i : Int) < (l.length : Int) by omega, show (0 : Int) ≤ (i : Int) by omega, e3]
        refine hret _ _ (done _ rfl ?_)
        rw [hr, if_pos]; right; exact c2
      simp only [W_block, ANs, AOp.map, ↓reduceIte, Nat.reduceAdd, Nat.reduceEqDiff, reduceCtorEq, initFr, Nat.reduceLT, ANc, bi_u, c1, c2, decide_true, decide_false, show (i : Int) < (l.length : Int) by omega, show (0 : Int) ≤ (i : Int) by omega, e3]
      rcases hp with ⟨rfl, rfl⟩ | ⟨hi0, hp0, hi1, hpe⟩
      · simp only [W_block, ANs, AOp.map, ↓reduceIte, Nat.reduceAdd, Nat.reduceEqDiff, reduceCtorEq, initFr, Nat.reduceLT, ANc, bi_u, show ¬ (0 : Int) < ((0 : Nat) : Int) by omega, decide_false, wrap_succ (n := 0) (by omega)]
        rw [if_neg (by omega)] at hr
        exact hnext _ _ _ ⟨1, l[0].1, _, _, by rw [← e1], by omega, rfl, rfl, hr, .inr ⟨by omega, by omega, hi, rfl⟩⟩ (by omega)
      · obtain ⟨b', k'', f1, f2, f3, f4⟩ := h.at_ hi1
        have hb : b' = b := by
          rw [e1] at f1
          simp only [slc, Value.slice.injEq, Option.some.injEq, Addr.mk.injEq] at f1
          exact f1.1.1.symm
        rw [hb] at f3
        have hsub : IntKind.i64.wrap ((i : Int) - 1) = ((i - 1 : Nat) : Int) := by rw [wrap_i64 (by omega) (by omega)]; omega
        simp only [W_block, ANs, AOp.map, ↓reduceIte, Nat.reduceAdd, Nat.reduceEqDiff, reduceCtorEq, initFr, Nat.reduceLT, ANc, bi_u, show (0 : Int) < (i : Int) by omega, decide_true, decide_false, show (i : Int) < (l.length : Int) by omega, show (0 : Int) ≤ (i : Int) by omega, e3, hsub, show ((i - 1 : Nat) : Int) < (l.length : Int) by omega, show (0 : Int) ≤ ((i - 1 : Nat) : Int) by omega, f3, ← hpe]
        by_cases c3 : l[i].1 ≤ p
        · simp only [W_block, ANs, AOp.map, ↓reduceIte, Nat.reduceAdd, Nat.reduceEqDiff, reduceCtorEq, initFr, Nat.reduceLT, ANc, bi_u, c3, decide_true]
          refine hret _ _ (done _ rfl ?_)
          rw [hr, if_pos]; left; exact c3
        · simp only [W_block, ANs, AOp.map, ↓reduceIte, Nat.reduceAdd, Nat.reduceEqDiff, reduceCtorEq, initFr, Nat.reduceLT, ANc, bi_u, c3, decide_false, wrap_succ (n := i) (by omega)]
          rw [if_neg (by omega)] at hr
          exact hnext _ _ _ ⟨i + 1, l[i].1, _, _, by rw [← e1], by omega, rfl, rfl, hr, .inr ⟨by omega, by omega, hi, rfl⟩⟩ (by omega)
    · rw [hv]
      simp only [W_block, ANs, AOp.map, ↓reduceIte, Nat.reduceAdd, Nat.reduceEqDiff, reduceCtorEq, initFr, Nat.reduceLT, ANc, show ¬ (i : Int) < (l.length : Int) by omega, decide_false]
      refine hexit _ _ _ ?_
      simp only [W_block, ANs, AOp.map, ↓reduceIte, Nat.reduceAdd, Nat.reduceEqDiff, reduceCtorEq, initFr, Nat.reduceLT, ANc]
      refine hq2 _ _ ⟨_, rfl, ?_, rfl⟩
      rw [hr, List.drop_of_length_le (by omega)]; rfl
end Go.AM.Rp
