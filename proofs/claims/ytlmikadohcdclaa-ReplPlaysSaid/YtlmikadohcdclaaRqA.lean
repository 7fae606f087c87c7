/- Part of the proof. -/
import Derived.Test.YtlmikadohcdclaaRpS
import Derived.Test.YtlmikadohcdclaaAmY3
import Derived.Test.YtlmikadohcdclaaAmS
set_option linter.unusedSimpArgs false
set_option linter.unusedVariables false
namespace Go.AM.Rp
open Go.Proofs

theorem LC_0 (x : Lg) : (LC x)[0]? = some (.int .i64 x.e) := rfl
theorem LC_1 (x : Lg) : (LC x)[1]? = some (.int .i64 x.c) := rfl
theorem SL.sl {H : AHeap} {v : Value} {l : List Lg} (h : SL H v l) (hk : Ok64 l) : Sl H 70 v (l.map LC) := by
  have hfl : (l.map LC).flatten = FL l := by simp [FL, List.flatMap_def]
  have hr : ∀ r ∈ l.map LC, r.length = 70 := by
    intro r hr; simp at hr; obtain ⟨y, hy, rfl⟩ := hr; exact LC_len (hk y hy)
  rcases h with ⟨rfl, rfl⟩ | ⟨b, o, room, c, rfl, h1, h2, h3⟩
  · exact Sl.nil H 70
  · refine ⟨⟨_, l.length, by rw [List.length_map]; rfl⟩, hr, ?_⟩
    have hl := congrArg List.length h2
    rw [List.length_drop, FL_len l hk] at hl
    simp only [elemsA, slc, h1, hfl]
    rw [if_pos (by omega), h2, List.take_of_length_le (by rw [FL_len l hk]; omega)]

/-- Records that rise. -/
def Rise (l : List Lg) : Prop := ∀ (i j : Nat) (hi : i < l.length) (hj : j < l.length), i < j → cmpL l[i] l[j] < 0
theorem cmpI_lt {a b : Int} : cmpI a b < 0 ↔ a < b := by unfold cmpI; split <;> first | omega | (split <;> omega)
theorem cmpI_eq {a b : Int} : cmpI a b = 0 ↔ a = b := by unfold cmpI; split <;> first | omega | (split <;> omega)
theorem cmpI_gt {a b : Int} : 0 < cmpI a b ↔ b < a := by unfold cmpI; split <;> first | omega | (split <;> omega)
theorem cmpL_lt {x y : Lg} : cmpL x y < 0 ↔ x.e < y.e ∨ x.e = y.e ∧ x.c < y.c := by
  have h1 := @cmpI_lt x.e y.e
  have h2 := @cmpI_eq x.e y.e
  have h3 := @cmpI_lt x.c y.c
  unfold cmpL
  by_cases h : cmpI x.e y.e = 0
  · simp only [h, ne_eq, not_true_eq_false, if_false]; omega
  · rw [if_pos h]; omega
theorem cmpL_eq {x y : Lg} : cmpL x y = 0 ↔ x.e = y.e ∧ x.c = y.c := by
  have h2 := @cmpI_eq x.e y.e
  have h3 := @cmpI_eq x.c y.c
  unfold cmpL
  by_cases h : cmpI x.e y.e = 0
  · simp only [h, ne_eq, not_true_eq_false, if_false]; omega
  · rw [if_pos h]; omega
def foundR (l : List Lg) (x : Lg) : Option Nat := l.findIdx? fun y => cmpL y x == 0

/-- BinarySearchFunc. -/
theorem t36 {H : AHeap} {v : Value} {l : List Lg} {x : Lg} (h : SL H v l) (hk : Ok64 l) (hx : x.s.t.length = 64) (hr : Rise l) (hl : l.length ≤ 1000) :
    ∃ w H', ARun Try.prog 0 36 [v, .agg (LC x).toArray, .func (.func 34) #[] #[]] H w H' ∧ Keeps H H' ∧ ∃ (i : Nat) (ok : Bool), w = .tuple #[.int .i64 i, .bool ok] ∧ (ok = true → ∃ h : i < l.length, cmpL l[i] x = 0) ∧ (ok = false → ∀ (j : Nat) (h : j < l.length), cmpL l[j] x ≠ 0) := by
  refine walk2 f36_ok f36_n ?_
  intro Q hq1 hq2
  have hs := h.sl hk
  have his := hs.is
  have hlen := hs.len
  rw [List.length_map] at hlen
  have lx := LC_len hx
  simp (disch := (first | assumption | omega | (simp only [alloc_n, set_n] <;> omega) | (simp (disch := (first | assumption | omega | (simp only [alloc_n, set_n] <;> omega))) only [row_alloc, row_set]; assumption))) only [f36, W_block, ANs, A3s, AOp.map, ↓reduceIte, Nat.reduceAdd, Nat.reduceEqDiff, reduceCtorEq, initFr, Nat.reduceLT, clsA, List.take, List.drop, Nat.reduceLeDiff, Nat.reduceMul, Nat.reduceSub, reduceIte, ANc, A3c, LC_one, hlen]
  obtain ⟨Ha, hHa⟩ : ∃ X, X = H.alloc (.cells true false 70 (LC x) 54) := ⟨_, rfl⟩
  have ka := (Keeps.refl H).alloc (.cells true false 70 (LC x) 54)
  have ga := AHeap.get_alloc_new H (.cells true false 70 (LC x) 54)
  rw [← hHa] at ka ga ⊢
  have la := AHeap.get_lt ga
  refine W_loop2 (fun q fr K => Keeps Ha K ∧ ∃ (i j : Nat) (a b c : Value), i ≤ j ∧ j ≤ l.length ∧ q = j - i ∧ (∀ (k : Nat) (h : k < l.length), k < i → cmpL l[k] x < 0) ∧ (∀ (k : Nat) (h : k < l.length), j ≤ k → 0 ≤ cmpL l[k] x) ∧
    fr = [v, .agg (LC x).toArray, .func (.func 34) #[] #[], ptr H.n 0, .int .i64 0, .bool false, .int .i64 l.length, .int .i64 i, .int .i64 j, a, b, c]) l.length ⟨Keeps.refl _, 0, l.length, undef, undef, undef, by omega, by omega, rfl, by omega, by omega, rfl⟩ ?_
  rintro Q' q fr K ⟨kK, i, j, a, b, c, hij, hjl, rfl, hlo, hhi, rfl⟩ hn he hrt
  have g := kK.at_ ga
  have nK := kK.n
  by_cases hc : i < j
  · have hsk := (hs.keeps ka).keeps kK
    have hm : (i + j) / 2 < l.length := by omega
    obtain ⟨hnn, hrow⟩ := hsk.at_ (by omega) (i := (i + j) / 2) (by simpa using hm)
    rw [List.getElem_map] at hrow
    have hw : IntKind.i64.wrap ((i : Int) + (j : Int)) = ((i + j : Nat) : Int) := by rw [wrap_i64 (by omega) (by omega)]; push_cast; rfl
    have hw2 : IntKind.u64.wrap ((i + j : Nat) : Int) = ((i + j : Nat) : Int) := by rw [wrap_u64]; omega
    have hw3 : IntKind.i64.wrap (((i + j) / 2 : Nat) : Int) = (((i + j) / 2 : Nat) : Int) := wrap_i64 (by omega) (by omega)
    simp (disch := (first | assumption | omega | (simp only [alloc_n, set_n] <;> omega) | (simp (disch := (first | assumption | omega | (simp only [alloc_n, set_n] <;> omega))) only [row_alloc, row_set]; assumption))) only [W_block, ANs, A3s, AOp.map, ↓reduceIte, Nat.reduceAdd, Nat.reduceEqDiff, reduceCtorEq, initFr, Nat.reduceLT, clsA, List.take, List.drop, Nat.reduceLeDiff, Nat.reduceMul, Nat.reduceSub, reduceIte, ANc, A3c, hw, hw2, hw3, b_shr1, g]
    refine callK (t34 (H := K) l[(i + j) / 2] x) ?_
    rintro _ K2 ⟨rfl, k2⟩
    simp (disch := (first | assumption | omega | (simp only [alloc_n, set_n] <;> omega) | (simp (disch := (first | assumption | omega | (simp only [alloc_n, set_n] <;> omega))) only [row_alloc, row_set]; assumption))) only [W_block, ANs, A3s, AOp.map, ↓reduceIte, Nat.reduceAdd, Nat.reduceEqDiff, reduceCtorEq, initFr, Nat.reduceLT, clsA, List.take, List.drop, Nat.reduceLeDiff, Nat.reduceMul, Nat.reduceSub, reduceIte, ANc, A3c]
    have kk := kK.trans k2
    by_cases hcm : cmpL l[(i + j) / 2] x < 0
    · simp (disch := (first | assumption | omega | (simp only [alloc_n, set_n] <;> omega) | (simp (disch := (first | assumption | omega | (simp only [alloc_n, set_n] <;> omega))) only [row_alloc, row_set]; assumption))) only [W_block, ANs, A3s, AOp.map, ↓reduceIte, Nat.reduceAdd, Nat.reduceEqDiff, reduceCtorEq, initFr, Nat.reduceLT, clsA, List.take, List.drop, Nat.reduceLeDiff, Nat.reduceMul, Nat.reduceSub, reduceIte, ANc, A3c, wrap_succ (n := (i + j) / 2) (by omega)]
      refine hn _ _ _ ⟨kk, (i + j) / 2 + 1, j, _, _, _, by omega, hjl, rfl, ?_, hhi, rfl⟩ (by omega)
      intro k hk2 hk3
      rcases Nat.lt_or_ge k ((i + j) / 2) with h1 | h1
      · have := cmpL_lt.1 (hr _ _ hk2 hm h1)
        rw [cmpL_lt] at hcm ⊢
        omega
      · have : k = (i + j) / 2 := by omega
        subst this; exact hcm
    · simp (disch := (first | assumption | omega | (simp only [alloc_n, set_n] <;> omega) | (simp (disch := (first | assumption | omega | (simp only [alloc_n, set_n] <;> omega))) only [row_alloc, row_set]; assumption))) only [W_block, ANs, A3s, AOp.map, ↓reduceIte, Nat.reduceAdd, Nat.reduceEqDiff, reduceCtorEq, initFr, Nat.reduceLT, clsA, List.take, List.drop, Nat.reduceLeDiff, Nat.reduceMul, Nat.reduceSub, reduceIte, ANc, A3c]
      refine hn _ _ _ ⟨kk, i, (i + j) / 2, _, _, _, by omega, by omega, rfl, hlo, ?_, rfl⟩ (by omega)
      intro k hk2 hk3
      rcases Nat.lt_or_ge ((i + j) / 2) k with h1 | h1
      · have := cmpL_lt.1 (hr _ _ hm hk2 h1)
        apply Decidable.byContradiction
        intro hng
        apply hcm
        have hng := cmpL_lt.1 (Int.not_le.1 hng)
        rw [cmpL_lt]
        omega
      · have : k = (i + j) / 2 := by omega
        subst this; omega
  · simp (disch := (first | assumption | omega | (simp only [alloc_n, set_n] <;> omega) | (simp (disch := (first | assumption | omega | (simp only [alloc_n, set_n] <;> omega))) only [row_alloc, row_set]; assumption))) only [W_block, ANs, A3s, AOp.map, ↓reduceIte, Nat.reduceAdd, Nat.reduceEqDiff, reduceCtorEq, initFr, Nat.reduceLT, clsA, List.take, List.drop, Nat.reduceLeDiff, Nat.reduceMul, Nat.reduceSub, reduceIte, ANc, A3c]
    refine he _ _ _ ?_
    have hij' : i = j := by omega
    subst hij'
    by_cases hn : i < l.length
    · have hsk := (hs.keeps ka).keeps kK
      obtain ⟨hnn, hrow⟩ := hsk.at_ (by omega) (i := i) (by simpa using hn)
      rw [List.getElem_map] at hrow
      simp (disch := (first | assumption | omega | (simp only [alloc_n, set_n] <;> omega) | (simp (disch := (first | assumption | omega | (simp only [alloc_n, set_n] <;> omega))) only [row_alloc, row_set]; assumption))) only [W_block, ANs, A3s, AOp.map, ↓reduceIte, Nat.reduceAdd, Nat.reduceEqDiff, reduceCtorEq, initFr, Nat.reduceLT, clsA, List.take, List.drop, Nat.reduceLeDiff, Nat.reduceMul, Nat.reduceSub, reduceIte, ANc, A3c, g]
      refine callK (t34 (H := K) l[i] x) ?_
      rintro _ K2 ⟨rfl, k2⟩
      simp (disch := (first | assumption | omega | (simp only [alloc_n, set_n] <;> omega) | (simp (disch := (first | assumption | omega | (simp only [alloc_n, set_n] <;> omega))) only [row_alloc, row_set]; assumption))) only [W_block, ANs, A3s, AOp.map, ↓reduceIte, Nat.reduceAdd, Nat.reduceEqDiff, reduceCtorEq, initFr, Nat.reduceLT, clsA, List.take, List.drop, Nat.reduceLeDiff, Nat.reduceMul, Nat.reduceSub, reduceIte, ANc, A3c]
      refine hq2 _ _ ⟨_, rfl, (ka.trans kK).trans k2, i, _, rfl, ?_, ?_⟩
      · intro h0; exact ⟨hn, by simpa using h0⟩
      · intro h0 k hk2 hk3
        have h0' : ¬ cmpL l[i] x = 0 := by simpa using h0
        have h1 := hhi i hn (Nat.le_refl _)
        rcases Nat.lt_or_ge k i with h2 | h2
        · have := hlo k hk2 h2; omega
        · rcases Nat.lt_or_ge i k with h3 | h3
          · have h4 := cmpL_lt.1 (hr _ _ hn hk2 h3)
            have h5 := cmpL_eq.1 hk3
            have h6 : cmpL l[i] x < 0 := by rw [cmpL_lt]; omega
            omega
          · have : k = i := by omega
            subst this; exact h0' hk3
    · simp (disch := (first | assumption | omega | (simp only [alloc_n, set_n] <;> omega) | (simp (disch := (first | assumption | omega | (simp only [alloc_n, set_n] <;> omega))) only [row_alloc, row_set]; assumption))) only [W_block, ANs, A3s, AOp.map, ↓reduceIte, Nat.reduceAdd, Nat.reduceEqDiff, reduceCtorEq, initFr, Nat.reduceLT, clsA, List.take, List.drop, Nat.reduceLeDiff, Nat.reduceMul, Nat.reduceSub, reduceIte, ANc, A3c]
      refine hq2 _ _ ⟨_, rfl, ka.trans kK, i, _, rfl, (fun h => by cases h), ?_⟩
      intro _ k hk2 hk3
      have := hlo k hk2 (by omega); omega
end Go.AM.Rp

namespace Go.AM.Rp
open Go.Proofs

theorem GC_0 (m : Msg) (v : Value) : (GC m v)[0]? = some (.int .u8 m.k) := rfl
theorem GC_1 (m : Msg) (v : Value) : (GC m v)[1]? = some (.int .i64 m.e) := rfl
theorem GC_2 (m : Msg) (v : Value) : (GC m v)[2]? = some (.int .i64 m.c) := rfl
theorem GC_3 (m : Msg) (v : Value) : (GC m v)[3]? = some (.int .i64 m.be) := rfl
theorem GC_4 (m : Msg) (v : Value) : (GC m v)[4]? = some (.int .i64 m.b) := rfl
def keyIs (e c : Int) (y : Lg) : Bool := y.e == e && y.c == c
def hearS (l : List Lg) (a : Nat) (m : Msg) : Int × Nat :=
  if mayB m = false ∨ m.k < 3 then (2, a)
  else if m.k = 4 then (0, 0)
  else match l.findIdx? (keyIs m.e m.c) with
    | some i => (0, max a (i + 1))
    | none => (0, a)
theorem rise_find {l : List Lg} (hr : Rise l) {i : Nat} (hi : i < l.length) {e c : Int} (he : l[i].e = e) (hc : l[i].c = c) : l.findIdx? (keyIs e c) = some i := by
  rw [List.findIdx?_eq_some_iff_getElem]
  refine ⟨hi, by simp [keyIs, he, hc], fun j hj => ?_⟩
  have := cmpL_lt.1 (hr j i (by omega) hi hj)
  simp [keyIs]; omega
theorem find_none {l : List Lg} {e c : Int} (h : ∀ (j : Nat) (hj : j < l.length), ¬ (l[j].e = e ∧ l[j].c = c)) : l.findIdx? (keyIs e c) = none := by
  rw [List.findIdx?_eq_none_iff]
  intro x hx
  obtain ⟨j, hj, rfl⟩ := List.mem_iff_getElem.1 hx
  have := h j hj
  simp [keyIs]; intro h1 h2; exact this ⟨h1, h2⟩

/-- The sender's Hear. -/
theorem t19 {H : AHeap} {s : Nat} {u v : Value} {l : List Lg} {a : Nat} {m : Msg} (h : SdV H s u l a) (hr : Rise l) (hl : l.length ≤ 100) (ha : a ≤ l.length) (hs : m.s.t.length = 64) (ht : TB H v m.d.l) (hml : m.d.l.length ≤ 100000) :
    ∃ w H', ARun Try.prog 0 19 [ptr s 0, .agg (GC m v).toArray] H w H' ∧ w = .int .i64 (hearS l a m).1 ∧ SdV H' s u l (hearS l a m).2 ∧ Chg [s] H H' := by
  refine walk2 f19_ok f19_n ?_
  intro Q hq1 hq2
  obtain ⟨h1, h2, h3, h4⟩ := h
  have ls := AHeap.get_lt h1
  have ml := GC_len hs v
  have mo := GC_one m ht.one
  have keep : ∀ {X : AHeap}, Keeps H X → SdV X s u l a := fun k => ⟨k.at_ h1, h2.chg (k.chg []) (by simp), h3, h4⟩
  simp (disch := (first | assumption | omega | (simp only [alloc_n, set_n] <;> omega) | (simp (disch := (first | assumption | omega | (simp only [alloc_n, set_n] <;> omega))) only [row_alloc, row_set]; assumption))) only [f19, W_block, ANs, A3s, AOp.map, ↓reduceIte, Nat.reduceAdd, Nat.reduceEqDiff, reduceCtorEq, initFr, Nat.reduceLT, clsA, List.take, List.drop, Nat.reduceLeDiff, Nat.reduceMul, Nat.reduceSub, reduceIte, ANc, A3c, mo]
  have ka := (Keeps.refl H).alloc (.cells true false 78 (GC m v) 41)
  refine callK (t35 (m := m) (v := v) hs (ht.keeps ka) hml) ?_
  rintro _ K ⟨rfl, kK⟩
  have nK := kK.n
  rw [alloc_n] at nK
  have kk := ka.trans kK
  have hu := kk.at_ h1
  unfold hearS at hq2
  cases hmay : mayB m
  · simp only [hmay, true_or, if_true] at hq2
    simp (disch := (first | assumption | omega | (simp only [alloc_n, set_n] <;> omega) | (simp (disch := (first | assumption | omega | (simp only [alloc_n, set_n] <;> omega))) only [row_alloc, row_set, Keeps.row kK]; assumption))) only [Keeps.get kK, Keeps.row kK, W_block, ANs, A3s, AOp.map, ↓reduceIte, Nat.reduceAdd, Nat.reduceEqDiff, reduceCtorEq, initFr, Nat.reduceLT, clsA, List.take, List.drop, Nat.reduceLeDiff, Nat.reduceMul, Nat.reduceSub, reduceIte, ANc, A3c, GC_0]
    exact hq2 _ _ ⟨_, rfl, rfl, keep kk, kk.chg _⟩
  by_cases hk : m.k < 3
  · simp only [hk, or_true, if_true] at hq2
    simp (disch := (first | assumption | omega | (simp only [alloc_n, set_n] <;> omega) | (simp (disch := (first | assumption | omega | (simp only [alloc_n, set_n] <;> omega))) only [row_alloc, row_set, Keeps.row kK]; assumption))) only [Keeps.get kK, Keeps.row kK, W_block, ANs, A3s, AOp.map, ↓reduceIte, Nat.reduceAdd, Nat.reduceEqDiff, reduceCtorEq, initFr, Nat.reduceLT, clsA, List.take, List.drop, Nat.reduceLeDiff, Nat.reduceMul, Nat.reduceSub, reduceIte, ANc, A3c, GC_0]
    exact hq2 _ _ ⟨_, rfl, rfl, keep kk, kk.chg _⟩
  simp only [hmay, hk, Bool.true_eq_false, or_self, if_false] at hq2
  by_cases hk4 : m.k = 4
  · simp only [hk4, if_true] at hq2
    simp (disch := (first | assumption | omega | (simp only [alloc_n, set_n] <;> omega) | (simp (disch := (first | assumption | omega | (simp only [alloc_n, set_n] <;> omega))) only [row_alloc, row_set, Keeps.row kK]; assumption))) only [Keeps.get kK, Keeps.row kK, W_block, ANs, A3s, AOp.map, ↓reduceIte, Nat.reduceAdd, Nat.reduceEqDiff, reduceCtorEq, initFr, Nat.reduceLT, clsA, List.take, List.drop, Nat.reduceLeDiff, Nat.reduceMul, Nat.reduceSub, reduceIte, ANc, A3c, GC_0, h1]
    exact hq2 _ _ ⟨_, rfl, rfl, ⟨get1 hu _, (keep kk).2.1.chg (Chg.set K (by omega) _) (by intro z hz e; simp at e; subst e; exact h3 (mem_blkL.1 hz)), h3, h4⟩, (kk.chg [s]).set' (.inr (by simp)) (by omega) _⟩
  simp only [hk4, if_false] at hq2
  have fl : ∀ a b : Int, fillA Z70 [(0, 1, .int .i64 a), (1, 1, .int .i64 b)] = some (LC ⟨a, b, S0⟩) := fun a b => rfl
  simp (disch := (first | assumption | omega | (simp only [alloc_n, set_n] <;> omega) | (simp (disch := (first | assumption | omega | (simp only [alloc_n, set_n] <;> omega))) only [row_alloc, row_set, Keeps.row kK]; assumption))) only [Keeps.get kK, Keeps.row kK, W_block, ANs, A3s, AOp.map, ↓reduceIte, Nat.reduceAdd, Nat.reduceEqDiff, reduceCtorEq, initFr, Nat.reduceLT, clsA, List.take, List.drop, Nat.reduceLeDiff, Nat.reduceMul, Nat.reduceSub, reduceIte, ANc, A3c, GC_0, GC_1, GC_2, h1, fl]
  refine callK (t36 (H := K) (v := u) (l := l) (x := ⟨m.e, m.c, S0⟩) (keep kk).2.1 h4 rfl hr (by omega)) ?_
  rintro _ K2 ⟨k2, i, ok, rfl, hok, hno⟩
  have n2 := k2.n
  have kk2 := kk.trans k2
  have hu2 := kk2.at_ h1
  simp (disch := (first | assumption | omega | (simp only [alloc_n, set_n] <;> omega) | (simp (disch := (first | assumption | omega | (simp only [alloc_n, set_n] <;> omega))) only [row_alloc, row_set, Keeps.row kK, Keeps.row k2]; assumption))) only [Keeps.get kK, Keeps.get k2, Keeps.row kK, Keeps.row k2, W_block, ANs, A3s, AOp.map, ↓reduceIte, Nat.reduceAdd, Nat.reduceEqDiff, reduceCtorEq, initFr, Nat.reduceLT, clsA, List.take, List.drop, Nat.reduceLeDiff, Nat.reduceMul, Nat.reduceSub, reduceIte, ANc, A3c, h1]
  cases ok
  · have := find_none (l := l) (e := m.e) (c := m.c) (fun j hj hh => hno rfl j hj (cmpL_eq.2 hh))
    simp only [this] at hq2
    simp (disch := (first | assumption | omega | (simp only [alloc_n, set_n] <;> omega) | (simp (disch := (first | assumption | omega | (simp only [alloc_n, set_n] <;> omega))) only [row_alloc, row_set]; assumption))) only [W_block, ANs, A3s, AOp.map, ↓reduceIte, Nat.reduceAdd, Nat.reduceEqDiff, reduceCtorEq, initFr, Nat.reduceLT, clsA, List.take, List.drop, Nat.reduceLeDiff, Nat.reduceMul, Nat.reduceSub, reduceIte, ANc, A3c]
    exact hq2 _ _ ⟨_, rfl, rfl, keep kk2, kk2.chg _⟩
  · obtain ⟨hi, he⟩ := hok rfl
    have he := cmpL_eq.1 he
    have := rise_find hr hi he.1 he.2
    simp only [this] at hq2
    have hmx : max (a : Int) ((i + 1 : Nat) : Int) = ((max a (i + 1) : Nat) : Int) := by omega
    simp (disch := (first | assumption | omega | (simp only [alloc_n, set_n] <;> omega) | (simp (disch := (first | assumption | omega | (simp only [alloc_n, set_n] <;> omega))) only [row_alloc, row_set, Keeps.row kK, Keeps.row k2]; assumption))) only [Keeps.get kK, Keeps.get k2, Keeps.row kK, Keeps.row k2, W_block, ANs, A3s, AOp.map, ↓reduceIte, Nat.reduceAdd, Nat.reduceEqDiff, reduceCtorEq, initFr, Nat.reduceLT, clsA, List.take, List.drop, Nat.reduceLeDiff, Nat.reduceMul, Nat.reduceSub, reduceIte, ANc, A3c, h1, wrap_succ (n := i) (by omega), hmx]
    exact hq2 _ _ ⟨_, rfl, rfl, ⟨get1 hu2 _, (keep kk2).2.1.chg (Chg.set K2 (by omega) _) (by intro z hz e; simp at e; subst e; exact h3 (mem_blkL.1 hz)), h3, h4⟩, (kk2.chg [s]).set' (.inr (by simp)) (by omega) _⟩
end Go.AM.Rp

namespace Go.AM.Rp
open Go.Proofs

/-! ### The script, plainly -/
def gO (O : List Lg) (i : Nat) : Lg := O.getD i L0
theorem gO_at {O : List Lg} {i : Nat} (h : i < O.length) : O[i] = gO O i := by simp [gO, h]
def wholeM (x : Lg) : Msg := { G0 with k := 1, e := x.e, c := x.c, s := x.s }
def partM (y x : Lg) : Msg := ⟨2, x.e, x.c, y.e, y.c, S0, diffD y.s x.s⟩
def MsgOf (O : List Lg) (m : Msg) : Prop := ∃ i, i < O.length ∧ (m = wholeM (gO O i) ∨ ∃ j, j < i ∧ m = partM (gO O j) (gO O i))
structure ScI (O l : List Lg) (a : Nat) (xi : Option Nat) (th bk : List Msg) : Prop where
  rise : Rise O
  ok : ∀ y ∈ O, SOK y.s ∧ 0 ≤ y.e ∧ y.e ≤ 1000 ∧ 0 ≤ y.c ∧ y.c ≤ 1000
  fl : l = O.drop (O.length - 8)
  fa : a ≤ l.length
  fx : ∀ j, xi = some j → j < O.length
  ft : ∀ m ∈ th, MsgOf O m
  fb : ∀ m ∈ bk, m = needM ∨ ∃ i, m = ackM (gO O i) ∧ ∃ j, xi = some j ∧ i ≤ j
  fk : 0 < a → ∃ j, xi = some j ∧ (O.length - l.length) + a ≤ j + 1
def xO (O : List Lg) (xi : Option Nat) : Option Lg := xi.map (gO O)

theorem inB2 {a b : Int} (h : 0 ≤ a ∧ a ≤ 1000 ∧ 0 ≤ b ∧ b ≤ 1000) : inB [a, b] = true := by
  have h1 : 0 ≤ mn [a, b] := by simp only [mn, List.foldl]; (repeat' split) <;> omega
  have h2 : mx [a, b] ≤ 1099511627776 := by simp only [mx, List.foldl]; (repeat' split) <;> omega
  unfold inB; rw [decide_eq_true h1, decide_eq_true h2]; rfl
theorem inB4 {a b c d : Int} (h : 0 ≤ a ∧ a ≤ 1000 ∧ 0 ≤ b ∧ b ≤ 1000) (h' : 0 ≤ c ∧ c ≤ 1000 ∧ 0 ≤ d ∧ d ≤ 1000) : inB [a, b, c, d] = true := by
  have h1 : 0 ≤ mn [a, b, c, d] := by simp only [mn, List.foldl]; (repeat' split) <;> omega
  have h2 : mx [a, b, c, d] ≤ 1099511627776 := by simp only [mx, List.foldl]; (repeat' split) <;> omega
  unfold inB; rw [decide_eq_true h1, decide_eq_true h2]; rfl
theorem ScI.g {O l : List Lg} {a : Nat} {xi : Option Nat} {th bk : List Msg} (h : ScI O l a xi th bk) {i : Nat} (hi : i < O.length) : SOK (gO O i).s ∧ 0 ≤ (gO O i).e ∧ (gO O i).e ≤ 1000 ∧ 0 ≤ (gO O i).c ∧ (gO O i).c ≤ 1000 := by
  rw [← gO_at hi]; exact h.ok _ (List.getElem_mem _)
theorem ScI.lt {O l : List Lg} {a : Nat} {xi : Option Nat} {th bk : List Msg} (h : ScI O l a xi th bk) {i j : Nat} (hi : i < j) (hj : j < O.length) : cmpL (gO O i) (gO O j) < 0 := by
  have := h.rise i j (by omega) hj hi
  rw [gO_at, gO_at] at this; exact this
theorem ScI.key {O l : List Lg} {a : Nat} {xi : Option Nat} {th bk : List Msg} (h : ScI O l a xi th bk) {i j : Nat} (hi : i < O.length) (hj : j < O.length) (e1 : (gO O i).e = (gO O j).e) (e2 : (gO O i).c = (gO O j).c) : i = j := by
  rcases Nat.lt_trichotomy i j with h1 | h1 | h1
  · have := cmpL_lt.1 (h.lt h1 hj); omega
  · exact h1
  · have := cmpL_lt.1 (h.lt h1 hi); omega
theorem ScI.may {O l : List Lg} {a : Nat} {xi : Option Nat} {th bk : List Msg} (h : ScI O l a xi th bk) {m : Msg} (hm : MsgOf O m) : mayB m = true ∧ m.k ≤ 2 ∧ 1 ≤ m.k := by
  obtain ⟨i, hi, rfl | ⟨j, hj, rfl⟩⟩ := hm
  · have g := h.g hi
    refine ⟨?_, by simp [wholeM], by simp [wholeM]⟩
    have := inB4 (a := (gO O i).e) (b := (gO O i).c) (c := 0) (d := 0) (by omega) (by omega)
    simp [mayB, wholeM, G0, this, riseF]
  · have g := h.g hi
    have g' := h.g (i := j) (by omega)
    refine ⟨?_, by simp [partM], by simp [partM]⟩
    have := inB4 (a := (gO O i).e) (b := (gO O i).c) (c := (gO O j).e) (d := (gO O j).c) (by omega) (by omega)
    simp [mayB, partM, this]
    exact dp_rise _ _ 64 (by omega)

/-- The receiver hears. -/
theorem ScI.hear {O l : List Lg} {a : Nat} {xi : Option Nat} {th bk : List Msg} (h : ScI O l a xi th bk) {m : Msg} (hm : MsgOf O m) :
    ∃ ans f xi', hearR (xO O xi) m = (ans, f, 0, xO O xi') ∧ (∀ j, xi = some j → ∃ j', xi' = some j' ∧ j ≤ j') ∧ (∀ j, xi' = some j → j < O.length) ∧ (ans = needM ∨ ∃ i, ans = ackM (gO O i) ∧ ∃ j, xi' = some j ∧ i ≤ j) ∧
      (∀ i, m = wholeM (gO O i) → i + 1 = O.length → xi' = some i ∧ ans = ackM (gO O i)) ∧
      (∀ i j, m = partM (gO O j) (gO O i) → i + 1 = O.length → j < i → (xi' = some i ∧ ans = ackM (gO O i)) ∨ (ans = needM ∧ xi' = xi ∧ xi ≠ some i)) := by
  obtain ⟨hm1, hm2, hm3⟩ := h.may hm
  have hnb : ¬ (mayB m = false ∨ 2 < m.k) := by rw [hm1]; simp; omega
  obtain ⟨i, hi, hmi⟩ := hm
  have hme : m.e = (gO O i).e ∧ m.c = (gO O i).c := by
    rcases hmi with rfl | ⟨j, hj, rfl⟩ <;> exact ⟨rfl, rfl⟩
  have hwi : ∀ i', m = wholeM (gO O i') → m = wholeM (gO O i) ∧ (i' < O.length → i' = i) := by
    intro i' h'
    rcases hmi with rfl | ⟨j, hj, rfl⟩
    · refine ⟨rfl, fun hi' => ?_⟩
      have e1 := congrArg Msg.e h'
      have e2 := congrArg Msg.c h'
      exact (h.key hi hi' e1 e2).symm
    · have := congrArg Msg.k h'; cases this
  have hack : ∀ y : Lg, y.e = (gO O i).e → y.c = (gO O i).c → ackM y = ackM (gO O i) := fun y e1 e2 => by simp [ackM, e1, e2]
  unfold hearR
  rw [if_neg hnb]
  cases xi with
  | none =>
    simp only [xO, Option.map_none]
    by_cases hk : m.k = 1
    · have hw : m = wholeM (gO O i) := by
        rcases hmi with h' | ⟨j, hj, rfl⟩
        · exact h'
        · cases hk
      rw [if_pos hk]
      refine ⟨_, _, some i, by rw [hw]; rfl, by simp, (fun j hj => by cases hj; exact hi), .inr ⟨i, rfl, i, rfl, Nat.le_refl _⟩, ?_, ?_⟩
      · intro i' h1 h2; have := (hwi i' h1).2 (by omega); subst this; exact ⟨rfl, rfl⟩
      · intro i' j h1; rw [h1] at hk; cases hk
    · rw [if_neg hk]
      refine ⟨needM, false, none, rfl, by simp, by simp, .inl rfl, ?_, ?_⟩
      · intro i' h1; rw [h1] at hk; exact absurd rfl hk
      · intro i' j h1 h2 h3; exact .inr ⟨rfl, rfl, by simp⟩
  | some j0 =>
    have hj0 := h.fx j0 rfl
    simp only [xO, Option.map_some]
    by_cases hc : cmpL ⟨m.e, m.c, m.s⟩ (gO O j0) ≤ 0
    · rw [if_pos hc]
      have hij : i ≤ j0 := by
        apply Decidable.byContradiction; intro hn
        have := cmpL_lt.1 (h.lt (i := j0) (j := i) (by omega) hi)
        have h2 : cmpL (gO O j0) ⟨m.e, m.c, m.s⟩ < 0 := by rw [cmpL_lt]; simp [hme]; omega
        have h3 := cmpL_lt.1 h2
        have h4 : ¬ cmpL ⟨m.e, m.c, m.s⟩ (gO O j0) < 0 := by rw [cmpL_lt]; simp at h3 ⊢; omega
        have h5 : ¬ cmpL ⟨m.e, m.c, m.s⟩ (gO O j0) = 0 := by rw [cmpL_eq]; simp at h3 ⊢; omega
        omega
      refine ⟨_, _, some j0, rfl, (fun j hj => by cases hj; exact ⟨_, rfl, Nat.le_refl _⟩), (fun j hj => by cases hj; exact hj0), .inr ⟨j0, rfl, j0, rfl, Nat.le_refl _⟩, ?_, ?_⟩
      · intro i' h1 h2
        have := (hwi i' h1).2 (by omega); subst this
        have : j0 = i' := by omega
        subst this; exact ⟨rfl, rfl⟩
      · intro i' j h1 h2 h3
        have : i' = i := by
          have e1 := congrArg Msg.e h1
          have e2 := congrArg Msg.c h1
          exact (h.key hi (by omega) (hme.1 ▸ e1) (hme.2 ▸ e2)).symm
        subst this
        have : j0 = i' := by omega
        subst this; exact .inl ⟨rfl, rfl⟩
    rw [if_neg hc]
    have hji : j0 < i := by
      apply Decidable.byContradiction; intro hn
      apply hc
      rcases Nat.lt_or_ge i j0 with h1 | h1
      · have := cmpL_lt.1 (h.lt h1 hj0)
        have h2 : cmpL ⟨m.e, m.c, m.s⟩ (gO O j0) < 0 := by rw [cmpL_lt]; simp [hme]; omega
        omega
      · have : i = j0 := by omega
        subst this
        have : cmpL ⟨m.e, m.c, m.s⟩ (gO O i) = 0 := by rw [cmpL_eq]; exact hme
        omega
    by_cases hk : m.k = 1
    · have hw : m = wholeM (gO O i) := by
        rcases hmi with h' | ⟨j, hj, rfl⟩
        · exact h'
        · cases hk
      rw [if_pos hk]
      refine ⟨_, _, some i, by rw [hw]; rfl, (fun j hj => by cases hj; exact ⟨i, rfl, by omega⟩), (fun j hj => by cases hj; exact hi), .inr ⟨i, rfl, i, rfl, Nat.le_refl _⟩, ?_, ?_⟩
      · intro i' h1 h2; have := (hwi i' h1).2 (by omega); subst this; exact ⟨rfl, rfl⟩
      · intro i' j h1; rw [h1] at hk; cases hk
    rw [if_neg hk]
    obtain ⟨j, hj, hp⟩ : ∃ j, j < i ∧ m = partM (gO O j) (gO O i) := by
      rcases hmi with h' | h'
      · rw [h'] at hk; exact absurd rfl hk
      · exact h'
    by_cases hb : cmpL ⟨m.be, m.b, S0⟩ (gO O j0) = 0
    · rw [if_neg (by simpa using hb)]
      have hjj : j = j0 := by
        have := cmpL_eq.1 hb
        rw [hp] at this
        exact h.key (by omega) hj0 this.1 this.2
      subst hjj
      have hpd := patch_diff (s := (gO O j).s) (t := (gO O i).s) (h.g (i := j) (by omega)).1.ht (h.g hi).1
      refine ⟨ackM (gO O i), true, some i, ?_, (fun j' hj' => by cases hj'; exact ⟨i, rfl, by omega⟩), (fun j' hj' => by cases hj'; exact hi), .inr ⟨i, rfl, i, rfl, Nat.le_refl _⟩, ?_, ?_⟩
      · rw [hp]
        simp only [partM, hpd, Option.map_some]
        rfl
      · intro i' h1; rw [h1] at hk; exact absurd rfl hk
      · intro i' j' h1 h2 h3
        have : i' = i := by
          have e1 := congrArg Msg.e h1
          have e2 := congrArg Msg.c h1
          exact (h.key hi (by omega) (hme.1 ▸ e1) (hme.2 ▸ e2)).symm
        subst this; exact .inl ⟨rfl, rfl⟩
    · rw [if_pos (by simpa using hb)]
      refine ⟨needM, false, some j0, rfl, (fun j' hj' => by cases hj'; exact ⟨_, rfl, Nat.le_refl _⟩), (fun j' hj' => by cases hj'; exact hj0), .inl rfl, ?_, ?_⟩
      · intro i' h1; rw [h1] at hk; exact absurd rfl hk
      · intro i' j' h1 h2 h3
        have : i' = i := by
          have e1 := congrArg Msg.e h1
          have e2 := congrArg Msg.c h1
          exact (h.key hi (by omega) (hme.1 ▸ e1) (hme.2 ▸ e2)).symm
        subst this
        exact .inr ⟨rfl, rfl, by simp; omega⟩

theorem ScI.lr {O l : List Lg} {a : Nat} {xi : Option Nat} {th bk : List Msg} (h : ScI O l a xi th bk) : Rise l := by
  intro i j hi hj hij
  have hl := h.fl
  subst hl
  simp only [List.length_drop] at hi hj
  simp only [List.getElem_drop]
  exact h.rise _ _ (by omega) (by omega) (by omega)
theorem may_ack {x : Lg} (h : 0 ≤ x.e ∧ x.e ≤ 1000 ∧ 0 ≤ x.c ∧ x.c ≤ 1000) : mayB (ackM x) = true := by
  have := inB4 (a := x.e) (b := x.c) (c := 0) (d := 0) (by omega) (by omega)
  simp [mayB, ackM, G0, this, riseF]
theorem may_need : mayB needM = true := by
  have := inB4 (a := 0) (b := 0) (c := 0) (d := 0) (by omega) (by omega)
  simp [mayB, needM, G0, this, riseF]
/-- The sender hears an answer. -/
theorem ScI.ans {O l : List Lg} {a : Nat} {xi : Option Nat} {th bk : List Msg} (h : ScI O l a xi th bk) {m : Msg} (hm : m = needM ∨ ∃ i, m = ackM (gO O i) ∧ ∃ j, xi = some j ∧ i ≤ j) :
    ∃ a', hearS l a m = (0, a') ∧ ScI O l a' xi th bk ∧ (m = needM → a' = 0) := by
  rcases hm with rfl | ⟨i, rfl, j, hj, hij⟩
  · refine ⟨0, ?_, ⟨h.rise, h.ok, h.fl, by omega, h.fx, h.ft, h.fb, by omega⟩, fun _ => rfl⟩
    unfold hearS
    rw [if_neg (by rw [may_need]; simp [needM, G0]), if_pos (show needM.k = 4 from rfl)]
  · have hjO := h.fx j hj
    have hk : hearS l a (ackM (gO O i)) = match l.findIdx? (keyIs (gO O i).e (gO O i).c) with | some i => (0, max a (i + 1)) | none => (0, a) := by
      unfold hearS
      rw [if_neg (by rw [may_ack (h.g (by omega)).2]; simp [ackM, G0]), if_neg (by simp [ackM, G0])]
      rfl
    rw [hk]
    have hne : ackM (gO O i) = needM → ∀ a' : Nat, a' = 0 := fun e => by have := congrArg Msg.k e; cases this
    have hll : l.length = O.length - (O.length - 8) := by rw [h.fl, List.length_drop]
    rcases Nat.lt_or_ge i (O.length - 8) with h1 | h1
    · rw [find_none (fun j' hj' => ?_)]
      · exact ⟨a, rfl, h, fun e => hne e a⟩
      · rintro ⟨e1, e2⟩
        have hl := h.fl
        subst hl
        rw [List.length_drop] at hj'
        rw [List.getElem_drop, gO_at] at e1 e2
        have := h.key (by omega) (by omega) e1 e2
        omega
    · have hil : i - (O.length - 8) < l.length := by omega
      have hli : l[i - (O.length - 8)] = gO O i := by
        rw [← gO_at (show i < O.length by omega)]
        have hl := h.fl
        subst hl
        rw [List.getElem_drop]; congr 1; omega
      rw [rise_find h.lr hil (by rw [hli]) (by rw [hli])]
      refine ⟨_, rfl, ⟨h.rise, h.ok, h.fl, ?_, h.fx, h.ft, h.fb, ?_⟩, fun e => hne e _⟩
      · have := h.fa; omega
      · intro _
        refine ⟨j, hj, ?_⟩
        rcases Nat.lt_or_ge (i - (O.length - 8) + 1) a with h2 | h2
        · obtain ⟨j', hj', h3⟩ := h.fk (by omega)
          rw [hj] at hj'; cases hj'
          omega
        · omega
/-- What is sent. -/
theorem ScI.send {O l : List Lg} {a : Nat} {xi : Option Nat} {th bk : List Msg} (h : ScI O l a xi th bk) :
    (a = l.length ∧ sendR l a = (G0, false)) ∨ ∃ i, i + 1 = O.length ∧ a < l.length ∧ ((a = 0 ∧ sendR l a = (wholeM (gO O i), true)) ∨ ∃ j, 0 < a ∧ j < i ∧ sendR l a = (partM (gO O j) (gO O i), true) ∧ j + 1 = O.length - l.length + a) := by
  have hl := h.fl
  have ha := h.fa
  have hll : l.length = O.length - (O.length - 8) := by rw [hl, List.length_drop]
  by_cases h0 : a = l.length
  · exact .inl ⟨h0, by unfold sendR; rw [if_pos h0]⟩
  right
  have hls : lst l = gO O (O.length - 1) := by
    unfold lst
    rw [← gO_at (show O.length - 1 < O.length by omega)]
    subst hl
    rw [List.getD_eq_getElem?_getD, List.getElem?_eq_getElem (by omega), Option.getD_some, List.getElem_drop]
    congr 1; omega
  refine ⟨O.length - 1, by omega, by omega, ?_⟩
  by_cases h1 : 0 < a
  · right
    have hak : ackL l a = gO O (O.length - l.length + a - 1) := by
      unfold ackL
      rw [if_neg (by omega), ← gO_at (show O.length - l.length + a - 1 < O.length by omega)]
      subst hl
      rw [List.getD_eq_getElem?_getD, List.getElem?_eq_getElem (by omega), Option.getD_some, List.getElem_drop]
      congr 1; omega
    refine ⟨O.length - l.length + a - 1, h1, by omega, ?_, by omega⟩
    unfold sendR
    rw [if_neg h0, if_pos h1, hls, hak]; rfl
  · left
    refine ⟨by omega, ?_⟩
    unfold sendR
    rw [if_neg h0, if_neg h1, hls]; rfl
theorem gO_app {O : List Lg} {y : Lg} {i : Nat} (h : i < O.length) : gO (O ++ [y]) i = gO O i := by
  simp [gO, List.getElem?_append_left h]
theorem gO_last {O : List Lg} {y : Lg} : gO (O ++ [y]) O.length = y := by
  simp [gO]
/-- A record is offered. -/
theorem ScI.offer {O l : List Lg} {a : Nat} {xi : Option Nat} {th bk : List Msg} (h : ScI O l a xi th bk) {y : Lg} (hy : SOK y.s ∧ 0 ≤ y.e ∧ y.e ≤ 1000 ∧ 0 ≤ y.c ∧ y.c ≤ 1000) (hl : ∀ (hO : 0 < O.length), cmpL (gO O (O.length - 1)) y < 0) :
    ∃ l' a', offerR l a y = (0, l', a') ∧ ScI (O ++ [y]) l' a' xi th bk := by
  have hll : l.length = O.length - (O.length - 8) := by rw [h.fl, List.length_drop]
  have hlO := h.fl
  have hls : 0 < l.length → lst l = gO O (O.length - 1) := by
    intro hp
    unfold lst
    rw [← gO_at (show O.length - 1 < O.length by omega)]
    subst hlO
    rw [List.getD_eq_getElem?_getD, List.getElem?_eq_getElem (by omega), Option.getD_some, List.getElem_drop]
    congr 1; omega
  have hr : Rise (O ++ [y]) := by
    intro i j hi hj hij
    simp only [List.length_append, List.length_cons, List.length_nil] at hi hj
    rw [gO_at, gO_at, gO_app (by omega)]
    rcases Nat.lt_or_ge j O.length with h1 | h1
    · rw [gO_app h1]; exact h.lt hij h1
    · have : j = O.length := by omega
      subst this
      rw [gO_last]
      have hz := cmpL_lt.1 (hl (by omega))
      rcases Nat.lt_or_ge i (O.length - 1) with h2 | h2
      · have := cmpL_lt.1 (h.lt h2 (by omega))
        rw [cmpL_lt]; omega
      · have : i = O.length - 1 := by omega
        subst this; rw [cmpL_lt]; omega
  have hok : ∀ z ∈ O ++ [y], SOK z.s ∧ 0 ≤ z.e ∧ z.e ≤ 1000 ∧ 0 ≤ z.c ∧ z.c ≤ 1000 := by
    intro z hz
    rcases List.mem_append.1 hz with h1 | h1
    · exact h.ok z h1
    · simp at h1; subst h1; exact hy
  have hth : ∀ m ∈ th, MsgOf (O ++ [y]) m := by
    intro m hm
    obtain ⟨i, hi, h1⟩ := h.ft m hm
    refine ⟨i, by simp; omega, ?_⟩
    rw [gO_app hi]
    rcases h1 with h1 | ⟨j, hj, h1⟩
    · exact .inl h1
    · exact .inr ⟨j, hj, by rw [gO_app (by omega)]; exact h1⟩
  have hbk : ∀ m ∈ bk, m = needM ∨ ∃ i, m = ackM (gO (O ++ [y]) i) ∧ ∃ j, xi = some j ∧ i ≤ j := by
    intro m hm
    rcases h.fb m hm with h1 | ⟨i, h1, j, h2, h3⟩
    · exact .inl h1
    · have := h.fx j h2
      exact .inr ⟨i, by rw [gO_app (by omega)]; exact h1, j, h2, h3⟩
  have hxi : ∀ j, xi = some j → j < (O ++ [y]).length := by
    intro j hj; have := h.fx j hj; simp; omega
  have ha := h.fa
  unfold offerR
  rw [if_neg (by rw [inB2 hy.2]; simp)]
  rw [if_neg (by
    rintro ⟨h1, h2⟩
    rw [hls h1] at h2
    have h3 := cmpL_lt.1 (hl (by omega))
    have h4 : ¬ cmpL y (gO O (O.length - 1)) < 0 := by rw [cmpL_lt]; omega
    have h5 : ¬ cmpL y (gO O (O.length - 1)) = 0 := by rw [cmpL_eq]; omega
    omega)]
  by_cases h8 : 8 < l.length + 1
  · rw [if_pos h8]
    refine ⟨_, _, rfl, hr, hok, ?_, ?_, hxi, hth, hbk, ?_⟩
    · rw [hlO, List.drop_append_of_le_length (by rw [List.length_drop]; omega), List.drop_drop, List.length_append, List.length_cons, List.length_nil, List.drop_append_of_le_length (by omega)]
      congr 2; omega
    · simp; omega
    · intro h1
      obtain ⟨j, h2, h3⟩ := h.fk (by omega)
      refine ⟨j, h2, ?_⟩
      simp; omega
  · rw [if_neg h8]
    refine ⟨_, _, rfl, hr, hok, ?_, ?_, hxi, hth, hbk, ?_⟩
    · rw [hlO, List.length_append, List.length_cons, List.length_nil, show O.length - 8 = 0 by omega, show O.length + (0 + 1) - 8 = 0 by omega]; rfl
    · simp; omega
    · intro h1
      obtain ⟨j, h2, h3⟩ := h.fk (by omega)
      refine ⟨j, h2, ?_⟩
      simp; omega
end Go.AM.Rp

namespace Go.AM.Rp
open Go.Proofs

/-! ### Things of the script -/
def thS (s : Nat) (u : Value) (l : List Lg) (a : Nat) : Th where
  P H := SdV H s u l a
  F := s :: blkL u
  lt H h b hb := by
    rcases List.mem_cons.1 hb with rfl | hb
    · exact AHeap.get_lt h.1
    · exact h.2.1.lt (mem_blkL.1 hb)
  st H H' h hn k := ⟨by rw [k s (by simp)]; exact h.1, by
    rcases h.2.1 with h1 | ⟨b, o, room, c, rfl, h2, h3⟩
    · exact .inl h1
    · exact .inr ⟨b, o, room, c, rfl, by rw [k b (by simp [mem_blkL, blk, slc])]; exact h2, h3⟩, h.2.2⟩
def RvV (H : AHeap) (r : Nat) (p : Value) (x : Option Lg) : Prop := H.get r = some (.cells true false 1 [p] 51) ∧ match x with
  | none => p = .pointer none
  | some y => ∃ b, p = ptr b 0 ∧ H.get b = some (.cells true false 70 (LC y) 54) ∧ b ≠ r
theorem RvV.s {H : AHeap} {r : Nat} {p : Value} {x : Option Lg} (h : RvV H r p x) : RvS H r x := by
  obtain ⟨h1, h2⟩ := h
  cases x with
  | none => simp only at h2; subst h2; exact h1
  | some y => obtain ⟨b, rfl, h3, h4⟩ := h2; exact ⟨b, h1, h3, h4⟩
theorem RvS.v {H : AHeap} {r : Nat} {x : Option Lg} (h : RvS H r x) : ∃ p, RvV H r p x ∧ cellA H r 0 = some p := by
  cases x with
  | none => exact ⟨_, ⟨h, rfl⟩, by rw [cellA_of h]; rfl⟩
  | some y => obtain ⟨b, h1, h2, h3⟩ := h; exact ⟨_, ⟨h1, b, rfl, h2, h3⟩, by rw [cellA_of h1]; rfl⟩
theorem RvV.c {H : AHeap} {r : Nat} {p : Value} {x : Option Lg} (h : RvV H r p x) : cellA H r 0 = some p := by rw [cellA_of h.1]; rfl
def thR (r : Nat) (p : Value) (x : Option Lg) : Th where
  P H := RvV H r p x
  F := r :: blkL p
  lt H h b hb := by
    rcases List.mem_cons.1 hb with rfl | hb
    · exact AHeap.get_lt h.1
    · obtain ⟨h1, h2⟩ := h
      cases x with
      | none => simp only at h2; subst h2; cases hb
      | some y => obtain ⟨b', rfl, h3, _⟩ := h2; simp [blkL, blk, ptr] at hb; subst hb; exact AHeap.get_lt h3
  st H H' h hn k := by
    refine ⟨by rw [k r (by simp)]; exact h.1, ?_⟩
    have h2 := h.2
    cases x with
    | none => exact h2
    | some y => obtain ⟨b', rfl, h3, h4⟩ := h2; exact ⟨b', rfl, by rw [k b' (by simp [blkL, blk, ptr])]; exact h3, h4⟩
theorem AP.stay {H H' : AHeap} {e esz : Nat} {v : Value} {n : Nat} {c : List Value} (h : AP H e esz v n c) (k : ∀ b ∈ blkL v, H'.get b = H.get b) : AP H' e esz v n c := by
  rcases h with h | ⟨b, room, rfl, h1, h2⟩
  · exact .inl h
  · exact .inr ⟨b, room, rfl, h1, by rw [k b (by simp [mem_blkL, blk, slc])]; exact h2⟩
def thO (v : Value) (O : List Lg) : Th where
  P H := AP H 54 70 v O.length (FL O)
  F := blkL v
  lt H h b hb := AP.lt h (mem_blkL.1 hb)
  st H H' h _ k := AP.stay h k
theorem TB.lt {H : AHeap} {v : Value} {l : List (Int × Int)} (h : TB H v l) (hl : l ≠ []) {b : Nat} (hb : blk v = some b) : b < H.n := by
  obtain ⟨a, k, rfl, h1⟩ := h
  obtain ⟨b', own, room, c, e, rfl, h2, _⟩ := h1 hl
  cases hb; exact AHeap.get_lt h2
/-- The blocks of a message's timers. -/
def mB (p : Msg × Value) : List Nat := if p.1.d.l = [] then [] else blkL p.2
def GP (ps : List (Msg × Value)) : List Value := ps.flatMap fun p => GC p.1 p.2
structure MS (H : AHeap) (v : Value) (ps : List (Msg × Value)) : Prop where
  ap : AP H 41 78 v ps.length (GP ps)
  tb : ∀ p ∈ ps, TB H p.2 p.1.d.l ∧ p.1.s.t.length = 64 ∧ p.1.d.l.length ≤ 64
  dj : ∀ p ∈ ps, ∀ b ∈ mB p, b ∉ blkL v
def thM (v : Value) (ps : List (Msg × Value)) : Th where
  P H := MS H v ps
  F := blkL v ++ ps.flatMap mB
  lt H h b hb := by
    rcases List.mem_append.1 hb with hb | hb
    · exact AP.lt h.ap (mem_blkL.1 hb)
    · obtain ⟨p, hp, hb⟩ := List.mem_flatMap.1 hb
      unfold mB at hb
      split at hb
      · cases hb
      · rename_i hl; exact TB.lt (h.tb p hp).1 hl (mem_blkL.1 hb)
  st H H' h _ k := by
    refine ⟨AP.stay h.ap (fun b hb => k b (by simp [hb])), fun p hp => ⟨?_, (h.tb p hp).2⟩, h.dj⟩
    obtain ⟨a, c, e1, e2⟩ := (h.tb p hp).1
    refine ⟨a, c, e1, fun hne => ?_⟩
    obtain ⟨b, own, room, cs, e, rfl, h2, h3⟩ := e2 hne
    refine ⟨b, own, room, cs, e, rfl, ?_, h3⟩
    rw [k b (List.mem_append_right _ (List.mem_flatMap.2 ⟨p, hp, by unfold mB; rw [if_neg hne, e1]; simp [mem_blkL, blk]⟩))]
    exact h2
def thX (X : Nat) (x : Lg) : Th where
  P H := H.get X = some (.cells true false 70 (LC x) 54)
  F := [X]
  lt H h b hb := by simp at hb; subst hb; exact AHeap.get_lt h
  st H H' h _ k := by rw [k X (by simp)]; exact h
/-- A step: its kind, its number, its state. -/
structure Stp where
  k : Nat
  n : Nat
  s : S
def PC (p : Stp) : List Value := .int .u8 p.k :: .int .u8 p.n :: SC p.s
def aB (v : Value) : List Nat := if nnS v then blkL v else []
theorem Sl.lt {H : AHeap} {esz : Nat} {v : Value} {rows : List (List Value)} (h : Sl H esz v rows) {b : Nat} (hb : b ∈ aB v) : b < H.n := by
  unfold aB at hb
  split at hb
  · rename_i hn
    obtain ⟨b', o, n, k, rfl⟩ := nnS_inv hn
    simp [mem_blkL, blk, slc] at hb; subst hb
    have h2 := h.el
    simp only [elemsA, slc] at h2
    split at h2
    · rename_i hg; exact AHeap.get_lt hg
    · cases h2
  · cases hb
theorem Sl.stay {H H' : AHeap} {esz : Nat} {v : Value} {rows : List (List Value)} (h : Sl H esz v rows) (k : ∀ b ∈ aB v, H'.get b = H.get b) : Sl H' esz v rows := by
  refine ⟨h.sh, h.row, ?_⟩
  have h2 := h.el
  by_cases hn : nnS v = true
  · obtain ⟨b', o, n, c, rfl⟩ := nnS_inv hn
    have := k b' (by unfold aB; rw [if_pos hn]; simp [mem_blkL, blk, slc])
    simp only [elemsA, slc] at h2 ⊢
    rw [this]; exact h2
  · obtain ⟨a, c, rfl⟩ := h.sh
    match a, h2 with
    | none, h2 => exact h2
    | some ⟨b, o, some _⟩, h2 => simpa [elemsA] using h2
    | some ⟨b, o, none⟩, h2 => exact absurd rfl hn
def thA (v : Value) (L : List Stp) : Th where
  P H := Sl H 70 v (L.map PC) ∧ ∀ p ∈ L, SOK p.s
  F := aB v
  lt H h b hb := Sl.lt h.1 hb
  st H H' h _ k := ⟨Sl.stay h.1 k, h.2⟩

theorem GP_len : ∀ {ps : List (Msg × Value)}, (∀ p ∈ ps, p.1.s.t.length = 64) → (GP ps).length = ps.length * 78
  | [], _ => rfl
  | p :: ps, h => by
    have h1 := GP_len (ps := ps) (fun q hq => h q (by simp [hq]))
    have h2 := GC_len (h p (by simp)) p.2
    simp only [GP, List.flatMap_cons, List.length_append, List.length_cons] at h1 ⊢
    omega
theorem GP_erase : ∀ {ps : List (Msg × Value)} (k : Nat), (∀ p ∈ ps, p.1.s.t.length = 64) → k < ps.length → (GP ps).take (k * 78) ++ (GP ps).drop ((k + 1) * 78) = GP (ps.eraseIdx k)
  | p :: ps, 0, h, _ => by
    have h2 := GC_len (h p (by simp)) p.2
    show (GC p.1 p.2 ++ GP ps).take (0 * 78) ++ (GC p.1 p.2 ++ GP ps).drop ((0 + 1) * 78) = GP ps
    rw [Nat.zero_mul, List.take_zero, List.nil_append, show (0 + 1) * 78 = (GC p.1 p.2).length by omega, List.drop_left]
  | p :: ps, k + 1, h, hk => by
    have h1 := GP_erase (ps := ps) k (fun q hq => h q (by simp [hq])) (by simpa using hk)
    have h2 := GC_len (h p (by simp)) p.2
    show (GC p.1 p.2 ++ GP ps).take ((k + 1) * 78) ++ (GC p.1 p.2 ++ GP ps).drop ((k + 1 + 1) * 78) = GC p.1 p.2 ++ GP (ps.eraseIdx k)
    rw [show (k + 1) * 78 = (GC p.1 p.2).length + k * 78 by omega, List.take_length_add_append, show (k + 1 + 1) * 78 = (GC p.1 p.2).length + (k + 1) * 78 by omega, List.drop_append, List.drop_of_length_le (by omega), Nat.add_sub_cancel_left, List.nil_append, List.append_assoc, h1]
theorem MS.nil (H : AHeap) : MS H (.slice none 0 0) [] := ⟨.inl ⟨rfl, rfl, rfl⟩, by simp, by simp⟩
theorem MS.sl {H : AHeap} {v : Value} {ps : List (Msg × Value)} (h : MS H v ps) : Sl H 78 v (ps.map fun p => GC p.1 p.2) := by
  refine AP.sl (e := 41) (n := ps.length) ?_ ?_ (by rw [List.length_map])
  · have := h.ap; rw [show (ps.map fun p => GC p.1 p.2).flatten = GP ps by rw [GP, List.flatMap_def]]; exact this
  · intro r hr; simp at hr; obtain ⟨m, v, hp, rfl⟩ := hr; exact GC_len (h.tb _ hp).2.1 _
theorem TB.chgL {H H' : AHeap} {v : Value} {l : List (Int × Int)} (h : TB H v l) (k : l ≠ [] → ∀ b ∈ blkL v, H'.get b = H.get b) : TB H' v l := by
  obtain ⟨a, c, rfl, h1⟩ := h
  refine ⟨a, c, rfl, fun hne => ?_⟩
  obtain ⟨b, own, room, cs, e, rfl, h2, h3⟩ := h1 hne
  exact ⟨b, own, room, cs, e, rfl, by rw [k hne b (by simp [mem_blkL, blk])]; exact h2, h3⟩
/-- drop, on messages. -/
theorem MS.drop {H : AHeap} {v : Value} {ps : List (Msg × Value)} (h : MS H v ps) {k : Nat} (hk : k < ps.length) (hn : ps.length ≤ 1000) :
    ∃ w H', ARun Try.prog 0 18 [v, .int .i64 k] H w H' ∧ Keeps H H' ∧ MS H' w (ps.eraseIdx k) ∧ Fresh H.n w := by
  obtain ⟨w, H', r1, r2, r3, r4⟩ := t18 h.ap hk hn
  have hl : ∀ p ∈ ps, p.1.s.t.length = 64 := fun p hp => (h.tb p hp).2.1
  rw [GP_erase k hl hk] at r2
  refine ⟨w, H', r1, r3, ⟨?_, ?_, ?_⟩, r4⟩
  · rw [List.length_eraseIdx_of_lt hk]; exact r2
  · intro p hp
    have hp' := List.mem_of_mem_eraseIdx hp
    exact ⟨(h.tb p hp').1.keeps r3, (h.tb p hp').2⟩
  · intro p hp b hb hbw
    have hp' := List.mem_of_mem_eraseIdx hp
    have h1 := r4 b (mem_blkL.1 hbw)
    unfold mB at hb
    split at hb
    · cases hb
    · rename_i hl
      have := TB.lt (h.tb p hp').1 hl (mem_blkL.1 hb); omega
section
variable {P : Program} {ng : Nat} {H : AHeap} {KF : List Value → AHeap → Prop} {fr tm : List Value}
/-- A message is appended. -/
theorem MS.app {d : Go.AM.D} {r : List AOper} {v u : Value} {b : Nat} {ps : List (Msg × Value)} {m : Msg} (h : MS H v ps) (h1 : elemsA H 78 (slc b 0 1 1) = some (GC m u)) (hu : TB H u m.d.l) (hm : m.s.t.length = 64) (hd : m.d.l.length ≤ 64) (hn : ps.length ≤ 1000)
    (ha : ∀ b ∈ mB (m, u), b ∉ blkL v)
    (hk : ∀ v' H', MS H' v' (ps ++ [(m, u)]) → Chg (blkL v) H H' → (blk v' = blk v ∨ blk v' = some H.n) → RW P ng r (d.frame v' fr) (d.temps v' tm) H' KF) : goR P ng (asem (.app 41 78 192 v (slc b 0 1 1)) H) d r fr tm KF := by
  refine appG h.ap ⟨_, _, rfl⟩ h1 (by rw [GC_len hm]) (by omega) ?_
  intro v' H' ap c hb
  have htl : ∀ p ∈ ps ++ [(m, u)], TB H p.2 p.1.d.l ∧ p.1.s.t.length = 64 ∧ p.1.d.l.length ≤ 64 := by
    intro p hp
    rcases List.mem_append.1 hp with hp | hp
    · exact h.tb p hp
    · simp at hp; subst hp; exact ⟨hu, hm, hd⟩
  have hdj : ∀ p ∈ ps ++ [(m, u)], ∀ b ∈ mB p, b ∉ blkL v := by
    intro p hp
    rcases List.mem_append.1 hp with hp | hp
    · exact h.dj p hp
    · simp at hp; subst hp; exact ha
  have hlt : ∀ p ∈ ps ++ [(m, u)], ∀ b ∈ mB p, b < H.n := by
    intro p hp b hb
    unfold mB at hb
    split at hb
    · cases hb
    · rename_i hl; exact TB.lt (htl p hp).1 hl (mem_blkL.1 hb)
  refine hk v' H' ⟨?_, ?_, ?_⟩ c hb
  · rw [List.length_append]; simp only [GP, List.flatMap_append, List.flatMap_cons, List.flatMap_nil, List.append_nil]; exact ap
  · intro p hp
    refine ⟨(htl p hp).1.chgL (fun hne b hb => c.get b (hlt p hp b (by unfold mB; rw [if_neg hne]; exact hb)) (hdj p hp b (by unfold mB; rw [if_neg hne]; exact hb))), (htl p hp).2⟩
  · intro p hp b hb' hbv
    have h2 := hlt p hp b hb'
    have h3 := hdj p hp b hb'
    rw [mem_blkL] at hbv h3
    rcases hb with e | e
    · rw [e] at hbv; exact h3 hbv
    · rw [e] at hbv; cases hbv; omega
end
theorem fl78a {m : Msg} (h : m.s.t.length = 64) (v : Value) : fillA Z78 [(0, 78, .agg (GC m v).toArray)] = some (GC m v) := by
  have hl := GC_len h v
  rw [fill_cons, cells_agg, hl, if_pos ⟨rfl, by decide⟩, fill0, List.take_zero, List.nil_append, List.drop_of_length_le (by show 78 ≤ _; omega), List.append_nil]
theorem bsl78 {m : Msg} (h : m.s.t.length = 64) {v : Value} (hv : v.oneCell' = true) (H : AHeap) : asem (.bslice 41 78 1 Z78 [(0, 78, .agg (GC m v).toArray)]) H = some (slc H.n 0 1 1, H.alloc (.cells true false 78 (GC m v) 41)) := by
  rw [a_bslice (fl78a h v), if_pos ⟨GC_one m hv, by rw [GC_len h]⟩]
/-- Cells of the same kinds of numbers. -/
inductive SK : List Value → List Value → Prop
  | nil : SK [] []
  | cons (k : IntKind) (a b : Int) {l m : List Value} (h : SK l m) : SK (.int k a :: l) (.int k b :: m)
theorem SK.app {a b c d : List Value} (h : SK a b) (k : SK c d) : SK (a ++ c) (b ++ d) := by
  induction h with
  | nil => exact k
  | cons x y z _ ih => exact .cons x y z ih
theorem SK.map : ∀ {l m : List Int}, l.length = m.length → SK (l.map tv) (m.map tv)
  | [], [], _ => .nil
  | x :: l, y :: m, h => .cons _ _ _ (SK.map (by simpa using h))
  | [], _ :: _, h => by simp at h
  | _ :: _, [], h => by simp at h
theorem SK.eq {l m : List Value} (h : SK l m) : ∃ b, eqCs (List.replicate l.length 1) l m = some b := by
  induction h with
  | nil => exact ⟨true, rfl⟩
  | cons k a b _ ih => obtain ⟨c, hc⟩ := ih; exact ⟨(a == b) && c, by simp [List.replicate, eqCs, eqC, hc]⟩
theorem SC_sk {x y : S} (hx : x.t.length = 64) (hy : y.t.length = 64) : SK (SC x) (SC y) :=
  .cons _ _ _ (.cons _ _ _ (.cons _ _ _ (SK.app (SK.map (by omega)) (.cons _ _ _ .nil))))
theorem eqL_no {x y : Lg} (hx : x.s.t.length = 64) (hy : y.s.t.length = 64) (h : ¬ (x.e = y.e ∧ x.c = y.c)) : eqCs O70 (LC x) (LC y) = some false := by
  obtain ⟨b, hb⟩ := (SC_sk hx hy).eq
  rw [SC_len hx] at hb
  show eqCs (1 :: 1 :: List.replicate 68 1) (.int .i64 x.e :: .int .i64 x.c :: SC x.s) (.int .i64 y.e :: .int .i64 y.c :: SC y.s) = _
  simp only [eqCs, eqC, hb, if_true]
  by_cases h1 : x.e = y.e
  · have h2 : ¬ x.c = y.c := fun h2 => h ⟨h1, h2⟩
    simp [h2]
  · simp [h1]
theorem eqL_yes {x : Lg} (hx : x.s.t.length = 64) : eqCs O70 (LC x) (LC x) = some true := by
  have hi : Ints (LC x) := by
    intro v hv
    simp only [LC, List.mem_cons] at hv
    rcases hv with rfl | rfl | hv
    · exact ⟨_, _, rfl⟩
    · exact ⟨_, _, rfl⟩
    · exact SC_ints x.s v hv
  have := eqCs_self (LC x) hi
  rw [LC_len hx] at this
  exact this
theorem a_eqse (cs : List Nat) (neg : Bool) (x y : List Value) (H : AHeap) : asem (.eqs cs neg (.agg x.toArray) (.agg y.toArray)) H = (eqCs cs x y).map fun b => (.bool (if neg then !b else b), H) := by
  simp [asem]
theorem AP.slL {H : AHeap} {v : Value} {O : List Lg} (h : AP H 54 70 v O.length (FL O)) (hk : Ok64 O) : Sl H 70 v (O.map LC) := by
  refine AP.sl (e := 54) (n := O.length) ?_ ?_ (by rw [List.length_map])
  · rw [show (O.map LC).flatten = FL O by rw [FL, List.flatMap_def]]; exact h
  · intro r hr; simp at hr; obtain ⟨y, hy, rfl⟩ := hr; exact LC_len (hk y hy)

end Go.AM.Rp
