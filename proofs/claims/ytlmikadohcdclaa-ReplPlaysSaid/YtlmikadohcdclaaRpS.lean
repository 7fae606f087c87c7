/- Part of the proof. -/
import Derived.Test.YtlmikadohcdclaaRpN
set_option linter.unusedSimpArgs false
set_option linter.unusedVariables false
namespace Go.AM.Rp
open Go.Proofs

/-! ### The sender's records -/
def FL (l : List Lg) : List Value := l.flatMap LC
theorem FL_app (l m : List Lg) : FL (l ++ m) = FL l ++ FL m := by simp [FL]
def Ok64 (l : List Lg) : Prop := ∀ x ∈ l, x.s.t.length = 64
theorem FL_len : ∀ (l : List Lg), Ok64 l → (FL l).length = 70 * l.length
  | [], _ => rfl
  | x :: l, h => by
    have h1 := FL_len l (fun y hy => h y (by simp [hy]))
    have h2 := LC_len (h x (by simp))
    simp only [FL, List.flatMap_cons, List.length_append, List.length_cons] at h1 ⊢
    omega
theorem FL_at : ∀ (l : List Lg), Ok64 l → ∀ (i : Nat) (h : i < l.length), ((FL l).drop (70 * i)).take 70 = LC l[i]
  | x :: l, h, 0, _ => by
    have h2 := LC_len (h x (by simp))
    simp only [FL, List.flatMap_cons, Nat.mul_zero, List.drop_zero]
    rw [List.take_append_of_le_length (by omega), List.take_of_length_le (by omega)]; rfl
  | x :: l, h, i + 1, hi => by
    have h1 := FL_at l (fun y hy => h y (by simp [hy])) i (by simpa using hi)
    have h2 := LC_len (h x (by simp))
    simp only [FL, List.flatMap_cons] at h1 ⊢
    rw [show 70 * (i + 1) = (LC x).length + 70 * i by omega, List.drop_append]
    rw [List.drop_of_length_le (by omega), Nat.add_sub_cancel_left, List.nil_append, h1]; rfl

/-- A slice of records, of one's own, that reaches to its block's end. -/
def SL (H : AHeap) (v : Value) (l : List Lg) : Prop :=
  (v = .slice none 0 0 ∧ l = []) ∨ ∃ b o room c, v = slc b o l.length l.length ∧ H.get b = some (.cells true room 70 c 54) ∧ c.drop o = FL l ∧ o ≤ c.length
theorem SL.chg {H H' : AHeap} {v : Value} {l : List Lg} {S : List Nat} (h : SL H v l) (k : Chg S H H') (hS : ∀ x ∈ blkL v, x ∉ S) : SL H' v l := by
  rcases h with h | ⟨b, o, room, c, rfl, h1, h2, h3⟩
  · exact .inl h
  · exact .inr ⟨b, o, room, c, rfl, k.at_ h1 (hS b (mem_blkL.2 rfl)), h2, h3⟩
theorem SL.lt {H : AHeap} {v : Value} {l : List Lg} (h : SL H v l) {b : Nat} (hb : blk v = some b) : b < H.n := by
  rcases h with ⟨rfl, _⟩ | ⟨b', o, room, c, rfl, h1, _⟩
  · cases hb
  · cases hb; exact AHeap.get_lt h1
theorem SL.at_ {H : AHeap} {v : Value} {l : List Lg} (h : SL H v l) (hk : Ok64 l) {i : Nat} (hi : i < l.length) : ∃ b o, v = slc b o l.length l.length ∧ rangeA H b (o + i * 70) 70 = some (LC l[i]) := by
  rcases h with ⟨_, rfl⟩ | ⟨b, o, room, c, rfl, h1, h2, h3⟩
  · simp at hi
  · refine ⟨b, o, rfl, ?_⟩
    have hl := congrArg List.length h2
    rw [List.length_drop, FL_len l hk] at hl
    rw [rangeA_of h1, if_pos (by omega), ← List.drop_drop, h2, Nat.mul_comm, FL_at l hk i hi]
theorem SL.app {H : AHeap} {v : Value} {l : List Lg} (h : SL H v l) (hk : Ok64 l) {x : Lg} (hx : x.s.t.length = 64) (hl : l.length ≤ 1000) :
    ∃ v' H', appA H 54 70 112 v 1 (LC x) = some (v', H') ∧ SL H' v' (l ++ [x]) ∧ Chg (blkL v) H H' ∧ blk v' = some H.n := by
  have hn : (l ++ [x]).length = l.length + 1 := by simp
  have hL := LC_len hx
  have hF : FL (l ++ [x]) = FL l ++ LC x := by rw [FL_app]; simp [FL]
  rcases h with ⟨rfl, rfl⟩ | ⟨b, o, room, c, rfl, h1, h2, h3⟩
  · refine ⟨slc H.n 0 1 1, H.alloc (.cells true true 70 (LC x) 54), ?_, .inr ⟨H.n, 0, true, LC x, rfl, AHeap.get_alloc_new H _, by rw [hF]; rfl, by omega⟩, ((Keeps.refl H).alloc _).chg _, rfl⟩
    simp only [appA]
    rw [if_pos ⟨trivial, trivial⟩, if_neg (by omega), if_pos (by omega)]
  · have hlc := congrArg List.length h2
    rw [List.length_drop, FL_len l hk] at hlc
    have htk : (c.drop o).take (l.length * 70) = FL l := by rw [h2, List.take_of_length_le (by rw [FL_len l hk]; omega)]
    cases room with
    | false =>
      refine ⟨slc H.n 0 (l.length + 1) (l.length + 1), H.alloc (.cells true true 70 (FL l ++ LC x) 54), ?_, .inr ⟨H.n, 0, true, _, by rw [hn], AHeap.get_alloc_new H _, by rw [List.drop_zero, hF], by omega⟩, ((Keeps.refl H).alloc _).chg _, rfl⟩
      simp only [appA, slc, h1, htk]
      rw [if_neg (by omega), if_pos (by omega), if_pos ⟨trivial, trivial, by omega⟩, if_neg (by omega), if_pos (Or.inl trivial)]
    | true =>
      have hb := AHeap.get_lt h1
      refine ⟨slc H.n 0 (l.length + 1) (l.length + 1), (H.set b .dead).alloc (.cells true true 70 (FL l ++ LC x) 54), ?_, .inr ⟨H.n, 0, true, _, by rw [hn], AHeap.get_alloc_new (H.set b .dead) _, by rw [List.drop_zero, hF], by omega⟩, ?_, rfl⟩
      · simp only [appA, slc, h1, htk]
        rw [if_neg (by omega), if_pos (by omega), if_pos ⟨trivial, trivial, by omega⟩, if_neg (by omega), if_neg (by rintro (h | h); cases h; omega)]
        rfl
      · exact ((Chg.set H hb _).trans (((Keeps.refl (H.set b .dead)).alloc _).chg []) (by simp)).mono (by intro z hz; simp at hz; rw [hz, mem_blkL]; rfl)
end Go.AM.Rp

namespace Go.AM.Rp
open Go.Proofs

theorem SL.sh {H : AHeap} {v : Value} {l : List Lg} (h : SL H v l) : ∃ a, v = .slice a l.length l.length := by
  rcases h with ⟨rfl, rfl⟩ | ⟨b, o, room, c, rfl, _⟩
  · exact ⟨_, rfl⟩
  · exact ⟨_, rfl⟩
theorem SL.drop1 {H : AHeap} {v : Value} {l : List Lg} (h : SL H v l) (hk : Ok64 l) (hl : 1 ≤ l.length) : ∃ v', asem (.slsl 70 v (some (.int .i64 1)) none none) H = some (v', H) ∧ SL H v' (l.drop 1) ∧ blk v' = blk v := by
  rcases h with ⟨_, rfl⟩ | ⟨b, o, room, c, rfl, h1, h2, h3⟩
  · simp at hl
  · have hlc := congrArg List.length h2
    rw [List.length_drop, FL_len l hk] at hlc
    refine ⟨slc b (o + 1 * 70) (l.length - 1) (l.length - 1), ?_, .inr ⟨b, o + 70, room, c, by rw [List.length_drop], h1, ?_, by omega⟩, rfl⟩
    · exact a_slsl h1 (bnd_none _ _) (bnd_none _ _) (bnd_some .i64 1 0 l.length hl)
    · rw [← List.drop_drop, h2]
      match l, hl, hk with
      | x :: l, _, hk =>
        have h2 := LC_len (hk x (by simp))
        show (LC x ++ FL l).drop 70 = FL l
        rw [← h2, List.drop_append, List.drop_length, Nat.sub_self]; rfl
theorem fl70a {x : Lg} (h : x.s.t.length = 64) : fillA Z70 [(0, 70, .agg (LC x).toArray)] = some (LC x) := by
  have h3 : (Value.agg (LC x).toArray).cells.toList = LC x := by simp [Value.cells]
  have hl := LC_len h
  simp only [fillA, h3, hl, show Z70.length = 70 from rfl]
  simp [show Z70.drop 70 = [] from rfl]
theorem bsl70 {x : Lg} (h : x.s.t.length = 64) (H : AHeap) : asem (.bslice 54 70 1 Z70 [(0, 70, .agg (LC x).toArray)]) H = some (slc H.n 0 1 1, H.alloc (.cells true false 70 (LC x) 54)) := by
  rw [a_bslice (fl70a h), if_pos ⟨LC_one x, by rw [LC_len h]⟩]

section
variable {P : Program} {ng : Nat} {fr tm : List Value} {H : AHeap} {KF : List Value → AHeap → Prop}
theorem sd_mm {d : Go.AM.D} {un : List Nat} {rd : List (AOper × List Nat)} {tr : List TE} (m : Bool) (x y : Value) : stD P ng (.mm m x y) d un rd fr tm H tr KF = goD P ng (.mm m x y) (asem (.mm m x y) H) d un rd fr tm H tr KF := stD_of d un rd (by simp) (by simp)
end
theorem a_app1 {H H' : AHeap} {v v' : Value} {b : Nat} {x : Lg} (hx : x.s.t.length = 64) (g : H.get b = some (.cells true false 70 (LC x) 54)) (e : appA H 54 70 112 v 1 (LC x) = some (v', H')) : asem (.app 54 70 112 v (slc b 0 1 1)) H = some (v', H') := by
  have el : elemsA H 70 (slc b 0 1 1) = some (LC x) := by
    simp only [elemsA, slc, g]
    rw [if_pos (by rw [LC_len hx]; omega), List.drop_zero, List.take_of_length_le (by rw [LC_len hx]; omega)]
  simp only [asem, slc] at el ⊢
  simp only [el]
  exact e

/-- A sender: its records, and of how many it is known that they were heard. -/
def SdS (H : AHeap) (s : Nat) (l : List Lg) (a : Nat) : Prop := ∃ v, H.get s = some (.cells true false 2 [v, .int .i64 a] 48) ∧ SL H v l ∧ blk v ≠ some s ∧ Ok64 l
def SdV (H : AHeap) (s : Nat) (v : Value) (l : List Lg) (a : Nat) : Prop := H.get s = some (.cells true false 2 [v, .int .i64 a] 48) ∧ SL H v l ∧ blk v ≠ some s ∧ Ok64 l
theorem SdV.s {H : AHeap} {s : Nat} {v : Value} {l : List Lg} {a : Nat} (h : SdV H s v l a) : SdS H s l a := ⟨v, h⟩
def lst (l : List Lg) : Lg := l.getD (l.length - 1) L0
def offerR (l : List Lg) (a : Nat) (x : Lg) : Int × List Lg × Nat :=
  if inB [x.e, x.c] = false then (2, l, a)
  else if 0 < l.length ∧ cmpL x (lst l) ≤ 0 then (2, l, a)
  else if 8 < l.length + 1 then (0, (l ++ [x]).drop 1, a - 1)
  else (0, l ++ [x], a)

/-- Offer. -/
theorem t15 {H : AHeap} {s : Nat} {v : Value} {l : List Lg} {a : Nat} {x : Lg} (h : SdV H s v l a) (hx : x.s.t.length = 64) (hl : l.length ≤ 100) (ha : a ≤ 1000) :
    ∃ w H', ARun Try.prog 0 15 [ptr s 0, .agg (LC x).toArray] H w H' ∧ w = .int .i64 (offerR l a x).1 ∧ ∃ v', SdV H' s v' (offerR l a x).2.1 (offerR l a x).2.2 ∧ Chg (s :: blkL v) H H' ∧ ∀ b, blk v' = some b → blk v = some b ∨ H.n ≤ b := by
  refine walk2 f15_ok f15_n ?_
  intro Q hq1 hq2
  obtain ⟨hs, hv, hne, hk⟩ := h
  obtain ⟨va, hva⟩ := hv.sh
  have hsl := AHeap.get_lt hs
  have hc1 : (Value.agg (LC x).toArray).cells.toList = LC x := by simp [Value.cells]
  obtain ⟨Ha, hHa⟩ : ∃ X, X = H.alloc (.cells true false 70 (LC x) 54) := ⟨_, rfl⟩
  have ka := (Keeps.refl H).alloc (.cells true false 70 (LC x) 54)
  have ga := AHeap.get_alloc_new H (.cells true false 70 (LC x) 54)
  rw [← hHa] at ka ga
  have c0 : cellA Ha H.n 0 = some (.int .i64 x.e) := by rw [cellA_of ga]; rfl
  have c1 : cellA Ha H.n 1 = some (.int .i64 x.c) := by rw [cellA_of ga]; rfl
  simp only [f15, W_block, ANs, AOp.map, ↓reduceIte, Nat.reduceAdd, Nat.reduceEqDiff, reduceCtorEq, initFr, Nat.reduceLT, ANc, hc1, LC_one, ← hHa, c0, c1, bsl2]
  have kb := (Keeps.refl Ha).alloc (.cells true false 1 [.int .i64 x.e, .int .i64 x.c] 2)
  refine ⟨_, _, t33 (il2 2 x.e x.c Ha) (by simp), trivial, ?_⟩
  generalize hHb : Ha.alloc (.cells true false 1 [.int .i64 x.e, .int .i64 x.c] 2) = Hb at *
  have kAB := ka.trans kb
  have gab := kb.at_ ga
  have hsb := kAB.at_ hs
  have hvb : SL Hb v l := hv.chg (kAB.chg []) (by simp)
  have keep : ∀ {X : AHeap}, Keeps H X → ∃ v', SdV X s v' l a ∧ Chg (s :: blkL v) H X ∧ ∀ b, blk v' = some b → blk v = some b ∨ H.n ≤ b := fun k => ⟨v, ⟨k.at_ hs, hv.chg (k.chg []) (by simp), hne, hk⟩, k.chg _, fun b hb => .inl hb⟩
  unfold offerR at hq2
  cases hin : inB [x.e, x.c]
  · simp only [hin, if_true] at hq2
    simp only [W_block, ANs, AOp.map, ↓reduceIte, Nat.reduceAdd, Nat.reduceEqDiff, reduceCtorEq, initFr, Nat.reduceLT, ANc, bi_u]
    exact hq2 _ _ ⟨_, rfl, rfl, keep kAB⟩
  simp only [hin, Bool.true_eq_false, if_false] at hq2
  have hlen : ∀ X, asem (.len false v) X = some (.int .i64 l.length, X) := by intro X; rw [hva]; rfl
  have p0 : cellA Hb s 0 = some v := by rw [cellA_of hsb]; rfl
  by_cases h0 : 0 < l.length
  case neg =>
    simp only [h0, false_and, if_false] at hq2
    simp only [W_block, ANs, AOp.map, ↓reduceIte, Nat.reduceAdd, Nat.reduceEqDiff, reduceCtorEq, initFr, Nat.reduceLT, ANc, bi_u, p0, hlen, show ¬ (0 : Int) < (l.length : Int) by omega, decide_false]
    have hsX := kAB.at_ hs
    have hvX := hv.chg (kAB.chg []) (by simp)
    have hbs := bsl70 hx Hb
    have kc := (Keeps.refl Hb).alloc (.cells true false 70 (LC x) 54)
    have gc := AHeap.get_alloc_new Hb (.cells true false 70 (LC x) 54)
    obtain ⟨Hc, hHc⟩ : ∃ Y, Y = Hb.alloc (.cells true false 70 (LC x) 54) := ⟨_, rfl⟩
    rw [← hHc] at hbs kc gc
    have hvc := hvX.chg (kc.chg []) (by simp)
    obtain ⟨v', Hd, f1, f2, f3, f4⟩ := hvc.app hk hx (by omega)
    have hap := a_app1 hx gc f1
    have cD : Chg (s :: blkL v) H Hd := ((kAB.trans kc).chg (s :: blkL v)).trans (f3.mono (T := s :: blkL v) (fun z hz => by simp [hz])) (fun z hz => .inl hz)
    have hsd := f3.at_ (kc.at_ hsX) (by rw [mem_blkL]; exact hne)
    have hk2 : Ok64 (l ++ [x]) := by
      intro y hy
      rcases List.mem_append.1 hy with hy | hy
      · exact hk y hy
      · simp at hy; rw [hy]; exact hx
    obtain ⟨va', hva'⟩ := f2.sh
    have st : asem (.store1 (ptr s 0) v') Hd = some (undef, Hd.set s (.cells true false 2 [v', .int .i64 a] 48)) := by rw [a_st (o := 0) (x := v') hsd (by simp) (by rw [hva']; rfl)]; rfl
    have nX := kAB.n
    have nc := kc.n
    have hne' : blk v' ≠ some s := by rw [f4]; intro e; cases e; omega
    have g1 := get1 hsd (.cells true false 2 [v', .int .i64 a] 48)
    have f5 := f2.chg (Chg.set Hd (AHeap.get_lt hsd) (.cells true false 2 [v', .int .i64 a] 48)) (by intro z hz; rw [mem_blkL] at hz; intro e; simp at e; rw [e] at hz; exact hne' hz)
    have q0 : cellA (Hd.set s (.cells true false 2 [v', .int .i64 a] 48)) s 0 = some v' := by rw [cellA_of g1]; rfl
    have q1 : cellA (Hd.set s (.cells true false 2 [v', .int .i64 a] 48)) s 1 = some (.int .i64 a) := by rw [cellA_of g1]; rfl
    have hlen' : ∀ Y, asem (.len false v') Y = some (.int .i64 ((l.length + 1 : Nat) : Int), Y) := by intro Y; rw [hva']; simp [asem, lenA]
    by_cases h8 : 8 < l.length + 1
    · simp only [h8, if_true] at hq2
      obtain ⟨w, d1, d2, d3⟩ := f5.drop1 hk2 (by simp)
      obtain ⟨vw, hvw⟩ := d2.sh
      have hsub : IntKind.i64.wrap ((a : Int) - 1) = (a : Int) - 1 := wrap_i64 (by omega) (by omega)
      have hmx : (if (a : Int) - 1 > 0 then (a : Int) - 1 else 0) = ((a - 1 : Nat) : Int) := by split <;> omega
      have s1 : asem (.store1 (ptr s 0) w) (Hd.set s (.cells true false 2 [v', .int .i64 a] 48)) = some (undef, Hd.set s (.cells true false 2 [w, .int .i64 a] 48)) := by rw [a_st (o := 0) (x := w) g1 (by simp) (by rw [hvw]; rfl), set2]; rfl
      have g2 := get1 hsd (.cells true false 2 [w, .int .i64 a] 48)
      have s2 : asem (.store1 (ptr s 1) (.int .i64 ((a - 1 : Nat) : Int))) (Hd.set s (.cells true false 2 [w, .int .i64 a] 48)) = some (undef, Hd.set s (.cells true false 2 [w, .int .i64 ((a - 1 : Nat) : Int)] 48)) := by rw [a_st (o := 1) (x := .int .i64 ((a - 1 : Nat) : Int)) g2 (by simp) rfl, set2]; rfl
      simp only [W_block, ANs, AOp.map, ↓reduceIte, Nat.reduceAdd, Nat.reduceEqDiff, reduceCtorEq, initFr, Nat.reduceLT, ANc, bi_u, cellA_of hsX, full gab (LC_len hx), hbs, sd_app, hap, st, q0, hlen', show (8 : Int) < ((l.length + 1 : Nat) : Int) by omega, decide_true, d1, q1, hsub, sd_mm, a_mmx, hmx, s1, s2]
      refine hq2 _ _ ⟨_, rfl, rfl, w, ⟨get1 hsd _, ?_, by rw [d3]; exact hne', fun y hy => hk2 y (List.mem_of_mem_drop hy)⟩, cD.trans (Chg.set Hd (AHeap.get_lt hsd) _) (by simp), fun b hb => .inr (by rw [d3, f4] at hb; cases hb; omega)⟩
      have h5 := d2.chg (Chg.set (Hd.set s (.cells true false 2 [v', .int .i64 a] 48)) (AHeap.get_lt g1) (.cells true false 2 [w, .int .i64 ((a - 1 : Nat) : Int)] 48)) (by intro z hz; rw [mem_blkL, d3] at hz; intro e; simp at e; rw [e] at hz; exact hne' hz)
      rw [set2] at h5; exact h5
    · simp only [h8, if_false] at hq2
      simp only [W_block, ANs, AOp.map, ↓reduceIte, Nat.reduceAdd, Nat.reduceEqDiff, reduceCtorEq, initFr, Nat.reduceLT, ANc, bi_u, cellA_of hsX, full gab (LC_len hx), hbs, sd_app, hap, st, q0, hlen', show ¬ (8 : Int) < ((l.length + 1 : Nat) : Int) by omega, decide_false]
      exact hq2 _ _ ⟨_, rfl, rfl, v', ⟨g1, f5, hne', hk2⟩, cD.trans (Chg.set Hd (AHeap.get_lt hsd) _) (by simp), fun b hb => .inr (by rw [f4] at hb; cases hb; omega)⟩
  obtain ⟨bb, oo, e1, e2⟩ := hvb.at_ hk (i := l.length - 1) (by omega)
  have hls : lst l = l[l.length - 1] := by unfold lst; rw [List.getD_eq_getElem?_getD, List.getElem?_eq_getElem (by omega)]; rfl
  rw [← hls] at e2
  have p0' : cellA Hb s 0 = some (slc bb oo l.length l.length) := by rw [p0, e1]
  have hsub1 : IntKind.i64.wrap ((l.length : Int) - 1) = ((l.length - 1 : Nat) : Int) := by rw [wrap_i64 (by omega) (by omega)]; omega
  simp only [W_block, ANs, AOp.map, ↓reduceIte, Nat.reduceAdd, Nat.reduceEqDiff, reduceCtorEq, initFr, Nat.reduceLT, ANc, bi_u, p0', show (0 : Int) < (l.length : Int) by omega, decide_true, full gab (LC_len hx), hsub1, show (0 : Int) ≤ ((l.length - 1 : Nat) : Int) by omega, show ((l.length - 1 : Nat) : Int) < (l.length : Int) by omega, e2]
  obtain ⟨_, Hx, r34, rfl, k34⟩ := t34 (H := Hb) x (lst l)
  refine ⟨_, _, r34, trivial, ?_⟩
  have kX := kAB.trans k34
  have gaX := k34.at_ gab
  by_cases hcm : cmpL x (lst l) ≤ 0
  · simp only [h0, hcm, and_self, if_true] at hq2
    simp only [W_block, ANs, AOp.map, ↓reduceIte, Nat.reduceAdd, Nat.reduceEqDiff, reduceCtorEq, initFr, Nat.reduceLT, ANc, bi_u, hcm, decide_true]
    exact hq2 _ _ ⟨_, rfl, rfl, keep kX⟩
  simp only [hcm, and_false, if_false] at hq2
  simp only [W_block, ANs, AOp.map, ↓reduceIte, Nat.reduceAdd, Nat.reduceEqDiff, reduceCtorEq, initFr, Nat.reduceLT, ANc, bi_u, hcm, decide_false]
  have hsX := kX.at_ hs
  have hvX := hv.chg (kX.chg []) (by simp)
  have hbs := bsl70 hx Hx
  have kc := (Keeps.refl Hx).alloc (.cells true false 70 (LC x) 54)
  have gc := AHeap.get_alloc_new Hx (.cells true false 70 (LC x) 54)
  obtain ⟨Hc, hHc⟩ : ∃ Y, Y = Hx.alloc (.cells true false 70 (LC x) 54) := ⟨_, rfl⟩
  rw [← hHc] at hbs kc gc
  have hvc := hvX.chg (kc.chg []) (by simp)
  obtain ⟨v', Hd, f1, f2, f3, f4⟩ := hvc.app hk hx (by omega)
  have hap := a_app1 hx gc f1
  have cD : Chg (s :: blkL v) H Hd := ((kX.trans kc).chg (s :: blkL v)).trans (f3.mono (T := s :: blkL v) (fun z hz => by simp [hz])) (fun z hz => .inl hz)
  have hsd := f3.at_ (kc.at_ hsX) (by rw [mem_blkL]; exact hne)
  have hk2 : Ok64 (l ++ [x]) := by
    intro y hy
    rcases List.mem_append.1 hy with hy | hy
    · exact hk y hy
    · simp at hy; rw [hy]; exact hx
  obtain ⟨va', hva'⟩ := f2.sh
  have st : asem (.store1 (ptr s 0) v') Hd = some (undef, Hd.set s (.cells true false 2 [v', .int .i64 a] 48)) := by rw [a_st (o := 0) (x := v') hsd (by simp) (by rw [hva']; rfl)]; rfl
  have nX := kX.n
  have nc := kc.n
  have hne' : blk v' ≠ some s := by rw [f4]; intro e; cases e; omega
  have g1 := get1 hsd (.cells true false 2 [v', .int .i64 a] 48)
  have f5 := f2.chg (Chg.set Hd (AHeap.get_lt hsd) (.cells true false 2 [v', .int .i64 a] 48)) (by intro z hz; rw [mem_blkL] at hz; intro e; simp at e; rw [e] at hz; exact hne' hz)
  have q0 : cellA (Hd.set s (.cells true false 2 [v', .int .i64 a] 48)) s 0 = some v' := by rw [cellA_of g1]; rfl
  have q1 : cellA (Hd.set s (.cells true false 2 [v', .int .i64 a] 48)) s 1 = some (.int .i64 a) := by rw [cellA_of g1]; rfl
  have hlen' : ∀ Y, asem (.len false v') Y = some (.int .i64 ((l.length + 1 : Nat) : Int), Y) := by intro Y; rw [hva']; simp [asem, lenA]
  by_cases h8 : 8 < l.length + 1
  · simp only [h8, if_true] at hq2
    obtain ⟨w, d1, d2, d3⟩ := f5.drop1 hk2 (by simp)
    obtain ⟨vw, hvw⟩ := d2.sh
    have hsub : IntKind.i64.wrap ((a : Int) - 1) = (a : Int) - 1 := wrap_i64 (by omega) (by omega)
    have hmx : (if (a : Int) - 1 > 0 then (a : Int) - 1 else 0) = ((a - 1 : Nat) : Int) := by split <;> omega
    have s1 : asem (.store1 (ptr s 0) w) (Hd.set s (.cells true false 2 [v', .int .i64 a] 48)) = some (undef, Hd.set s (.cells true false 2 [w, .int .i64 a] 48)) := by rw [a_st (o := 0) (x := w) g1 (by simp) (by rw [hvw]; rfl), set2]; rfl
    have g2 := get1 hsd (.cells true false 2 [w, .int .i64 a] 48)
    have s2 : asem (.store1 (ptr s 1) (.int .i64 ((a - 1 : Nat) : Int))) (Hd.set s (.cells true false 2 [w, .int .i64 a] 48)) = some (undef, Hd.set s (.cells true false 2 [w, .int .i64 ((a - 1 : Nat) : Int)] 48)) := by rw [a_st (o := 1) (x := .int .i64 ((a - 1 : Nat) : Int)) g2 (by simp) rfl, set2]; rfl
    simp only [W_block, ANs, AOp.map, ↓reduceIte, Nat.reduceAdd, Nat.reduceEqDiff, reduceCtorEq, initFr, Nat.reduceLT, ANc, bi_u, cellA_of hsX, full gaX (LC_len hx), hbs, sd_app, hap, st, q0, hlen', show (8 : Int) < ((l.length + 1 : Nat) : Int) by omega, decide_true, d1, q1, hsub, sd_mm, a_mmx, hmx, s1, s2]
    refine hq2 _ _ ⟨_, rfl, rfl, w, ⟨get1 hsd _, ?_, by rw [d3]; exact hne', fun y hy => hk2 y (List.mem_of_mem_drop hy)⟩, cD.trans (Chg.set Hd (AHeap.get_lt hsd) _) (by simp), fun b hb => .inr (by rw [d3, f4] at hb; cases hb; omega)⟩
    have h5 := d2.chg (Chg.set (Hd.set s (.cells true false 2 [v', .int .i64 a] 48)) (AHeap.get_lt g1) (.cells true false 2 [w, .int .i64 ((a - 1 : Nat) : Int)] 48)) (by intro z hz; rw [mem_blkL, d3] at hz; intro e; simp at e; rw [e] at hz; exact hne' hz)
    rw [set2] at h5; exact h5
  · simp only [h8, if_false] at hq2
    simp only [W_block, ANs, AOp.map, ↓reduceIte, Nat.reduceAdd, Nat.reduceEqDiff, reduceCtorEq, initFr, Nat.reduceLT, ANc, bi_u, cellA_of hsX, full gaX (LC_len hx), hbs, sd_app, hap, st, q0, hlen', show ¬ (8 : Int) < ((l.length + 1 : Nat) : Int) by omega, decide_false]
    exact hq2 _ _ ⟨_, rfl, rfl, v', ⟨g1, f5, hne', hk2⟩, cD.trans (Chg.set Hd (AHeap.get_lt hsd) _) (by simp), fun b hb => .inr (by rw [f4] at hb; cases hb; omega)⟩
end Go.AM.Rp

namespace Go.AM.Rp
open Go.Proofs

/-- Acked. -/
def ackL (l : List Lg) (a : Nat) : Lg := if a = 0 then L0 else l.getD (a - 1) L0
theorem ackL_ok {l : List Lg} {a : Nat} (hk : Ok64 l) (ha : a ≤ l.length) : (ackL l a).s.t.length = 64 := by
  unfold ackL; split
  · rfl
  · rw [List.getD_eq_getElem?_getD, List.getElem?_eq_getElem (by omega)]
    exact hk _ (List.getElem_mem _)
theorem t29 {H : AHeap} {s : Nat} {l : List Lg} {a : Nat} (h : SdS H s l a) (hl : l.length ≤ 100) (ha : a ≤ l.length) :
    ∃ w H', ARun Try.prog 0 29 [ptr s 0] H w H' ∧ w = .tuple #[.agg (LC (ackL l a)).toArray, .bool (decide (0 < a))] ∧ Keeps H H' := by
  refine walk2 f29_ok f29_n ?_
  intro Q hq1 hq2
  obtain ⟨v, hs, hv, hne, hk⟩ := h
  obtain ⟨Ha, hHa⟩ : ∃ X, X = H.alloc (.cells true false 70 Z70 54) := ⟨_, rfl⟩
  have ka := (Keeps.refl H).alloc (.cells true false 70 Z70 54)
  have ga := AHeap.get_alloc_new H (.cells true false 70 Z70 54)
  rw [← hHa] at ka ga
  have hsa := ka.at_ hs
  have hva := hv.chg (ka.chg []) (by simp)
  have p0 : cellA Ha s 0 = some v := by rw [cellA_of hsa]; rfl
  have p1 : cellA Ha s 1 = some (.int .i64 a) := by rw [cellA_of hsa]; rfl
  unfold ackL at hq2
  by_cases h0 : a = 0
  · have st := stAll ga rfl (show Z70.length = 70 from rfl) z70
    subst h0
    simp only [if_true] at hq2
    simp only [f29, W_block, ANs, AOp.map, ↓reduceIte, Nat.reduceAdd, Nat.reduceEqDiff, reduceCtorEq, initFr, Nat.reduceLT, ANc, bi_u, z70, ← hHa, p1, show (((0 : Nat) : Int) == 0) = true by rfl, fl70, st]
    exact hq2 _ _ ⟨_, resCn1 70 2 (b := H.n) (cs := Z70) rfl (full (get1 ga _) rfl), rfl, ka.chg_trans (Chg.set Ha (AHeap.get_lt ga) _) (by simp)⟩
  · simp only [h0, if_false] at hq2
    obtain ⟨bb, oo, e1, e2⟩ := hva.at_ hk (i := a - 1) (by omega)
    have hls : l.getD (a - 1) L0 = l[a - 1] := by rw [List.getD_eq_getElem?_getD, List.getElem?_eq_getElem (by omega)]; rfl
    have hko : (l[a - 1]).s.t.length = 64 := hk _ (List.getElem_mem _)
    rw [hls] at hq2
    have p0' : cellA Ha s 0 = some (slc bb oo l.length l.length) := by rw [p0, e1]
    have hsub1 : IntKind.i64.wrap ((a : Int) - 1) = ((a - 1 : Nat) : Int) := by rw [wrap_i64 (by omega) (by omega)]; omega
    have st := stAll ga (show Z70.length = 70 from rfl) (LC_len hko) (LC_one _)
    simp only [f29, W_block, ANs, AOp.map, ↓reduceIte, Nat.reduceAdd, Nat.reduceEqDiff, reduceCtorEq, initFr, Nat.reduceLT, ANc, bi_u, z70, ← hHa, p1, show ((a : Int) == 0) = false by simp [h0], p0', hsub1, show (0 : Int) ≤ ((a - 1 : Nat) : Int) by omega, show ((a - 1 : Nat) : Int) < (l.length : Int) by omega, e2, st]
    exact hq2 _ _ ⟨_, resCn1 70 2 (b := H.n) rfl (full (get1 ga _) (LC_len hko)), by rw [show decide (0 < a) = true by simp; omega]; rfl, ka.chg_trans (Chg.set Ha (AHeap.get_lt ga) _) (by simp)⟩
end Go.AM.Rp

namespace Go.AM.Rp
open Go.Proofs

def sendR (l : List Lg) (a : Nat) : Msg × Bool :=
  if a = l.length then (G0, false)
  else if 0 < a then (⟨2, (lst l).e, (lst l).c, (ackL l a).e, (ackL l a).c, S0, diffD (ackL l a).s (lst l).s⟩, true)
  else ({ G0 with k := 1, e := (lst l).e, c := (lst l).c, s := (lst l).s }, true)
theorem Z78_split : Z78 = .int .u8 0 :: .int .i64 0 :: .int .i64 0 :: .int .i64 0 :: .int .i64 0 :: (Z68 ++ D5 0 0 0 0 (.slice none 0 0)) := by kernel_rfl
theorem flP (e c be b : Int) (d : D) (w : Value) : fillA Z78 [(0, 1, .int .u8 2), (1, 1, .int .i64 e), (2, 1, .int .i64 c), (3, 1, .int .i64 be), (4, 1, .int .i64 b), (73, 5, .agg (D5 d.a d.b d.c d.p w).toArray)] = some (GC ⟨2, e, c, be, b, S0, d⟩ w) := by
  kernel_rfl
theorem Z68_len : Z68.length = 68 := by kernel_rfl
theorem flW (e c : Int) {s : S} (hs : s.t.length = 64) : fillA Z78 [(0, 1, .int .u8 1), (1, 1, .int .i64 e), (2, 1, .int .i64 c), (5, 68, .agg (SC s).toArray)] = some (GC { G0 with k := 1, e := e, c := c, s := s } (.slice none 0 0)) := by
  have h0 : (Value.int .u8 1).cells.toList = [.int .u8 1] := rfl
  have h1 : (Value.int .i64 e).cells.toList = [.int .i64 e] := rfl
  have h2 : (Value.int .i64 c).cells.toList = [.int .i64 c] := rfl
  have h3 : (Value.agg (SC s).toArray).cells.toList = SC s := by simp [Value.cells]
  have hz := Z78_split
  have hl2 := Z68_len
  generalize Z68 = z at *
  have hl := SC_len hs
  have hD : (D5 0 0 0 0 (.slice none 0 0)).length = 5 := rfl
  obtain ⟨zz, hzz⟩ : ∃ zz, zz = z ++ D5 0 0 0 0 (.slice none 0 0) := ⟨_, rfl⟩
  have hzl : zz.length = 73 := by rw [hzz, List.length_append, hl2, hD]
  have hzd : zz.drop 68 = D5 0 0 0 0 (.slice none 0 0) := by rw [hzz, List.drop_append_of_le_length (by omega), List.drop_of_length_le (by omega)]; rfl
  rw [hz, ← hzz]
  simp only [fillA, h0, h1, h2, h3, hl, hzl, List.length_append, List.length_cons, List.length_nil, List.take, List.drop, List.nil_append, List.singleton_append, List.cons_append, Nat.reduceAdd]
  simp only [and_self, Nat.reduceLeDiff, if_true, List.nil_append, List.cons_append, hzd]
  rfl

/-- Send. -/
theorem t16o {H : AHeap} {s : Nat} {l : List Lg} {a : Nat} (h : SdS H s l a) (hl : l.length ≤ 100) (ha : a ≤ l.length) :
    ∃ w H', ARun Try.prog 0 16 [ptr s 0] H w H' ∧ Keeps H H' ∧ ∃ u, w = .tuple #[.agg (GC (sendR l a).1 u).toArray, .bool (sendR l a).2] ∧ TB H' u (sendR l a).1.d.l ∧ Fresh H.n u ∧ AP H' 90 2 u (sendR l a).1.d.l.length (TC (sendR l a).1.d.l) := by
  refine walk2 f16_ok f16_n ?_
  intro Q hq1 hq2
  have h' := h
  obtain ⟨v, hs, hv, hne, hk⟩ := h'
  obtain ⟨va, hva⟩ := hv.sh
  obtain ⟨Ha, hHa⟩ : ∃ X, X = H.alloc (.cells true false 78 Z78 41) := ⟨_, rfl⟩
  have ka := (Keeps.refl H).alloc (.cells true false 78 Z78 41)
  have ga := AHeap.get_alloc_new H (.cells true false 78 Z78 41)
  rw [← hHa] at ka ga
  have na : Ha.n = H.n + 1 := by rw [hHa]; rfl
  have z78 : Z78.all Value.oneCell' = true := rfl
  have hsa := ka.at_ hs
  have p0 : cellA Ha s 0 = some v := by rw [cellA_of hsa]; rfl
  have p1 : cellA Ha s 1 = some (.int .i64 a) := by rw [cellA_of hsa]; rfl
  have hlen : ∀ X, asem (.len false v) X = some (.int .i64 l.length, X) := by intro X; rw [hva]; rfl
  unfold sendR at hq2
  by_cases h0 : a = l.length
  · simp only [h0, if_true] at hq2
    have st := stAll ga (show Z78.length = 78 from rfl) (show Z78.length = 78 from rfl) z78
    simp only [f16, W_block, ANs, AOp.map, ↓reduceIte, Nat.reduceAdd, Nat.reduceEqDiff, reduceCtorEq, initFr, Nat.reduceLT, ANc, bi_u, z78, ← hHa, p1, p0, hlen, show ((a : Int) == (l.length : Int)) = true by simp [h0], fl78n, st]
    exact hq2 _ _ ⟨_, resCn1 78 2 (b := H.n) (cs := Z78) rfl (full (get1 ga _) rfl), ka.chg_trans (Chg.set Ha (AHeap.get_lt ga) _) (by simp), .slice none 0 0, rfl, ⟨none, 0, rfl, fun h => absurd rfl h⟩, fun b hb => (by cases hb), .inl ⟨rfl, rfl, rfl⟩⟩
  simp only [h0, if_false] at hq2
  have hva2 := hv.chg (ka.chg []) (by simp)
  obtain ⟨bb, oo, e1, e2⟩ := hva2.at_ hk (i := l.length - 1) (by omega)
  have hls : lst l = l[l.length - 1] := by unfold lst; rw [List.getD_eq_getElem?_getD, List.getElem?_eq_getElem (by omega)]; rfl
  have hly : (lst l).s.t.length = 64 := by rw [hls]; exact hk _ (List.getElem_mem _)
  have hlb := ackL_ok hk ha
  rw [← hls] at e2
  generalize lst l = y at *
  have p0' : cellA Ha s 0 = some (slc bb oo l.length l.length) := by rw [p0, e1]
  have hsub1 : IntKind.i64.wrap ((l.length : Int) - 1) = ((l.length - 1 : Nat) : Int) := by rw [wrap_i64 (by omega) (by omega)]; omega
  have vy := var70 Ha hly
  obtain ⟨Hb, hHb⟩ : ∃ X, X = Ha.alloc (.cells true false 70 (LC y) 54) := ⟨_, rfl⟩
  have kb := (Keeps.refl Ha).alloc (.cells true false 70 (LC y) 54)
  have gb := AHeap.get_alloc_new Ha (.cells true false 70 (LC y) 54)
  rw [← hHb] at kb gb vy
  have kAB := ka.trans kb
  have gab := kb.at_ ga
  simp only [f16, W_block, ANs, AOp.map, ↓reduceIte, Nat.reduceAdd, Nat.reduceEqDiff, reduceCtorEq, initFr, Nat.reduceLT, ANc, bi_u, z78, ← hHa, p1, p0', show ((a : Int) == (l.length : Int)) = false by simp; omega, hsub1, show (0 : Int) ≤ ((l.length - 1 : Nat) : Int) by omega, show ((l.length - 1 : Nat) : Int) < (l.length : Int) by omega, e2, z70, vy]
  obtain ⟨_, Hc, r29, rfl, kc⟩ := t29 (H := Hb) (s := s) (l := l) (a := a) ⟨v, kAB.at_ hs, hv.chg (kAB.chg []) (by simp), hne, hk⟩ hl ha
  refine ⟨_, _, r29, ?_⟩
  generalize ackL l a = bs at *
  have vz := var70 Hc hlb
  obtain ⟨Hd, hHd⟩ : ∃ X, X = Hc.alloc (.cells true false 70 (LC bs) 54) := ⟨_, rfl⟩
  have kd := (Keeps.refl Hc).alloc (.cells true false 70 (LC bs) 54)
  have gd := AHeap.get_alloc_new Hc (.cells true false 70 (LC bs) 54)
  rw [← hHd] at kd gd vz
  have kcd := kc.trans kd
  have gbd := kcd.at_ gb
  have gad := kcd.at_ gab
  have kD := kAB.trans kcd
  have sl68 : ∀ {X : AHeap} {b : Nat} {z : Lg}, z.s.t.length = 64 → X.get b = some (.cells true false 70 (LC z) 54) → rangeA X b 2 68 = some (SC z.s) := by
    intro X b z hz g
    rw [rangeA_of g, if_pos (by rw [LC_len hz]; omega)]; simp only [LC, List.drop]; rw [List.take_of_length_le (by rw [SC_len hz]; omega)]
  have y0 : cellA Hd Ha.n 0 = some (.int .i64 y.e) := by rw [cellA_of gbd]; rfl
  have y1 : cellA Hd Ha.n 1 = some (.int .i64 y.c) := by rw [cellA_of gbd]; rfl
  have b0 : cellA Hd Hc.n 0 = some (.int .i64 bs.e) := by rw [cellA_of gd]; rfl
  have b1 : cellA Hd Hc.n 1 = some (.int .i64 bs.c) := by rw [cellA_of gd]; rfl
  by_cases h1 : 0 < a
  · simp only [h1, if_true] at hq2
    simp only [W_block, ANs, AOp.map, ↓reduceIte, Nat.reduceAdd, Nat.reduceEqDiff, reduceCtorEq, initFr, Nat.reduceLT, ANc, bi_u, h1, decide_true, z70, vz, y0, y1, b0, b1, sl68 hly gbd, sl68 hlb gd]
    obtain ⟨_, He, r9, ke, w, rfl, tw, fw, apw⟩ := t9o (H := Hd) (s := bs.s) (t := y.s) hlb hly
    refine ⟨_, _, r9, ?_, ?_⟩
    · simp [oblA, clsA, touchA, readsA, ptr, keepsB, olderB, AOp.map]; exact ⟨ke.get _ (AHeap.get_lt gbd), ke.get _ (AHeap.get_lt gd)⟩
    have gae := ke.at_ gad
    have st := stAll gae (show Z78.length = 78 from rfl) (GC_len (m := ⟨2, y.e, y.c, bs.e, bs.c, S0, diffD bs.s y.s⟩) rfl w) (GC_one _ tw.one)
    have fp : fillA Z78 [(0, 1, .int .u8 2), (1, 1, .int .i64 y.e), (2, 1, .int .i64 y.c), (3, 1, .int .i64 bs.e), (4, 1, .int .i64 bs.c), (73, 5, .agg (D5 (xr 64 bs.s.a y.s.a) (xr 64 bs.s.b y.s.b) (xr 64 bs.s.c y.s.c) (xr 32 bs.s.p y.s.p) w).toArray)] = some (GC ⟨2, y.e, y.c, bs.e, bs.c, S0, diffD bs.s y.s⟩ w) := flP y.e y.c bs.e bs.c (diffD bs.s y.s) w
    have kF := (kD.trans ke).chg_trans (Chg.set He (AHeap.get_lt gae) (.cells true false 78 (GC ⟨2, y.e, y.c, bs.e, bs.c, S0, diffD bs.s y.s⟩ w) 41)) (by simp)
    simp only [W_block, ANs, AOp.map, ↓reduceIte, Nat.reduceAdd, Nat.reduceEqDiff, reduceCtorEq, initFr, Nat.reduceLT, ANc, bi_u, fp, st]
    exact hq2 _ _ ⟨_, resCn1 78 2 (b := H.n) rfl (full (get1 gae _) (GC_len (m := ⟨2, y.e, y.c, bs.e, bs.c, S0, diffD bs.s y.s⟩) rfl w)), kF, w, rfl, tw.chg (Chg.set He (AHeap.get_lt gae) _) (by
      intro z hz
      have := fw z (mem_blkL.1 hz)
      have := kD.n
      have := AHeap.get_lt gad
      simp; omega), fun b hb => by
      have := fw b hb
      have := kD.n
      omega, AP.chg apw (Chg.set He (AHeap.get_lt gae) _) (by
      intro z hz
      have := fw z (mem_blkL.1 hz)
      have := kD.n
      have := AHeap.get_lt gad
      simp; omega)⟩
  · simp only [h1, if_false] at hq2
    simp only [W_block, ANs, AOp.map, ↓reduceIte, Nat.reduceAdd, Nat.reduceEqDiff, reduceCtorEq, initFr, Nat.reduceLT, ANc, bi_u, h1, decide_false, z70, vz, y0, y1, sl68 hly gbd, flW y.e y.c hly]
    have st := stAll gad (show Z78.length = 78 from rfl) (GC_len (m := { G0 with k := 1, e := y.e, c := y.c, s := y.s }) hly (.slice none 0 0)) (GC_one _ rfl)
    simp only [W_block, ANs, AOp.map, ↓reduceIte, Nat.reduceAdd, Nat.reduceEqDiff, reduceCtorEq, initFr, Nat.reduceLT, ANc, bi_u, st]
    exact hq2 _ _ ⟨_, resCn1 78 2 (b := H.n) rfl (full (get1 gad _) (GC_len (m := { G0 with k := 1, e := y.e, c := y.c, s := y.s }) hly _)), kD.chg_trans (Chg.set Hd (AHeap.get_lt gad) _) (by simp), .slice none 0 0, rfl, ⟨none, 0, rfl, fun h => absurd rfl h⟩, fun b hb => (by cases hb), .inl ⟨rfl, rfl, rfl⟩⟩
theorem t16 {H : AHeap} {s : Nat} {l : List Lg} {a : Nat} (h : SdS H s l a) (hl : l.length ≤ 100) (ha : a ≤ l.length) :
    ∃ w H', ARun Try.prog 0 16 [ptr s 0] H w H' ∧ Keeps H H' ∧ ∃ u, w = .tuple #[.agg (GC (sendR l a).1 u).toArray, .bool (sendR l a).2] ∧ TB H' u (sendR l a).1.d.l ∧ Fresh H.n u := by
  obtain ⟨w, H', h1, h2, u, h3, h4, h5, _⟩ := t16o h hl ha
  exact ⟨w, H', h1, h2, u, h3, h4, h5⟩
end Go.AM.Rp

namespace Go.AM.Rp
open Go.Proofs

/-- Begin. -/
def beginR (x : Option Lg) (y : Lg) : Int × Option Lg := if inB [y.e, y.c] then (0, some y) else (2, x)
theorem t30 {H : AHeap} {r : Nat} {x : Option Lg} {y : Lg} (h : RvS H r x) : ∃ w H', ARun Try.prog 0 30 [ptr r 0, .agg (LC y).toArray] H w H' ∧ w = .int .i64 (beginR x y).1 ∧ RvS H' r (beginR x y).2 ∧ Chg [r] H H' ∧ (cellA H' r 0 = cellA H r 0 ∨ ∃ b, cellA H' r 0 = some (ptr b 0) ∧ H.n ≤ b) := by
  refine walk2 f30_ok f30_n ?_
  intro Q hq1 hq2
  have hc1 : (Value.agg (LC y).toArray).cells.toList = LC y := by simp [Value.cells]
  obtain ⟨p, hp⟩ : ∃ p, H.get r = some (.cells true false 1 [p] 51) := by
    cases x with
    | none => exact ⟨_, h⟩
    | some x => obtain ⟨b, h1, _⟩ := h; exact ⟨_, h1⟩
  have hrn := AHeap.get_lt hp
  have rk : ∀ {X : AHeap}, Keeps H X → RvS X r x := by
    intro X k
    cases x with
    | none => exact k.at_ h
    | some y => obtain ⟨b, h1, h2, h3⟩ := h; exact ⟨b, k.at_ h1, k.at_ h2, h3⟩
  obtain ⟨Ha, hHa⟩ : ∃ X, X = H.alloc (.cells true false 70 (LC y) 54) := ⟨_, rfl⟩
  have ka := (Keeps.refl H).alloc (.cells true false 70 (LC y) 54)
  have ga := AHeap.get_alloc_new H (.cells true false 70 (LC y) 54)
  rw [← hHa] at ka ga
  have c0 : cellA Ha H.n 0 = some (.int .i64 y.e) := by rw [cellA_of ga]; rfl
  have c1 : cellA Ha H.n 1 = some (.int .i64 y.c) := by rw [cellA_of ga]; rfl
  simp only [f30, W_block, ANs, AOp.map, ↓reduceIte, Nat.reduceAdd, Nat.reduceEqDiff, reduceCtorEq, initFr, Nat.reduceLT, ANc, hc1, LC_one, ← hHa, c0, c1, bsl2]
  have kb := (Keeps.refl Ha).alloc (.cells true false 1 [.int .i64 y.e, .int .i64 y.c] 2)
  refine ⟨_, _, t33 (il2 2 y.e y.c Ha) (by simp), ?_⟩
  generalize Ha.alloc (.cells true false 1 [.int .i64 y.e, .int .i64 y.c] 2) = Hb at *
  have kAB := ka.trans kb
  have gy := kb.at_ ga
  have hpb := kAB.at_ hp
  unfold beginR at hq2
  cases hin : inB [y.e, y.c]
  · simp only [hin, Bool.false_eq_true, if_false] at hq2
    simp only [W_block, ANs, AOp.map, ↓reduceIte, Nat.reduceAdd, Nat.reduceEqDiff, reduceCtorEq, initFr, Nat.reduceLT, ANc]
    exact hq2 _ _ ⟨_, rfl, rfl, rk kAB, kAB.chg _, .inl (by unfold cellA; rw [kAB.get r hrn])⟩
  · simp only [hin, if_true] at hq2
    have st : asem (.store1 (ptr r 0) (ptr H.n 0)) Hb = some (undef, Hb.set r (.cells true false 1 [ptr H.n 0] 51)) := by rw [a_st (o := 0) (x := ptr H.n 0) hpb (by simp) rfl]; rfl
    have dr := Chg.set Hb (b := r) (AHeap.get_lt hpb) (.cells true false 1 [ptr H.n 0] 51)
    simp only [W_block, ANs, AOp.map, ↓reduceIte, Nat.reduceAdd, Nat.reduceEqDiff, reduceCtorEq, initFr, Nat.reduceLT, ANc, st]
    exact hq2 _ _ ⟨_, rfl, rfl, ⟨H.n, get1 hpb _, dr.at_ gy (by simp; omega), by omega⟩, (kAB.chg [r]).trans dr (fun x hx => .inl hx), .inr ⟨H.n, by rw [cellA_of (get1 hpb _)]; rfl, Nat.le_refl _⟩⟩
end Go.AM.Rp

namespace Go.AM.Rp
open Go.Proofs

/-- drop. -/
theorem t18 {H : AHeap} {v : Value} {n k : Nat} {c : List Value} (h : AP H 41 78 v n c) (hk : k < n) (hn : n ≤ 1000) :
    ∃ w H', ARun Try.prog 0 18 [v, .int .i64 k] H w H' ∧ AP H' 41 78 w (n - 1) (c.take (k * 78) ++ c.drop ((k + 1) * 78)) ∧ Keeps H H' ∧ Fresh H.n w := by
  refine walk2 f18_ok f18_n ?_
  intro Q hq1 hq2
  rcases h with ⟨_, rfl, _⟩ | ⟨b, room, rfl, hc, hb⟩
  · omega
  have s1 := a_slsl (o := 0) hb (bnd_none n n) (bnd_some .i64 k n n (by omega)) (bnd_none 0 k)
  have el1 : elemsA H 78 (slc b (0 + 0 * 78) (k - 0) (n - 0)) = some (c.take (k * 78)) := by
    simp only [elemsA, slc, hb, Nat.zero_mul, Nat.sub_zero, Nat.add_zero]
    rw [if_pos (by omega), List.drop_zero]
  simp only [f18, W_block, ANs, AOp.map, ↓reduceIte, Nat.reduceAdd, Nat.reduceEqDiff, reduceCtorEq, initFr, Nat.reduceLT, ANc, s1]
  refine appR (n := 0) (c := []) (.inl ⟨rfl, rfl, rfl⟩) ⟨_, _, rfl⟩ el1 (by rw [List.length_take]; omega) (by omega) ?_
  intro v1 H1 ap1 c1 hb1
  have k1 : Keeps H H1 := c1.keeps (by intro z hz; rw [mem_blkL] at hz; cases hz)
  have hbk := k1.at_ hb
  have f1 : Fresh H.n v1 := by
    intro z hz
    rcases hb1 with e | e
    · rw [e] at hz; cases hz
    · rw [e] at hz; cases hz; exact Nat.le_refl _
  have s2 := a_slsl (o := 0) hbk (bnd_none n n) (bnd_none n n) (bnd_some .i64 (k + 1) 0 n (by omega))
  have el2 : elemsA H1 78 (slc b (0 + (k + 1) * 78) (n - (k + 1)) (n - (k + 1))) = some (c.drop ((k + 1) * 78)) := by
    simp only [elemsA, slc, hbk, Nat.zero_add]
    rw [if_pos (by omega), List.take_of_length_le (by rw [List.length_drop]; omega)]
  simp only [W_block, ANs, AOp.map, ↓reduceIte, Nat.reduceAdd, Nat.reduceEqDiff, reduceCtorEq, initFr, Nat.reduceLT, ANc, wrap_succ (n := k) (by omega), s2]
  simp only [List.nil_append, Nat.zero_add, Nat.sub_zero] at ap1 el2
  refine appR ap1 ⟨_, _, rfl⟩ (by simpa using el2) (by rw [List.length_drop]; omega) (by omega) ?_
  intro v2 H2 ap2 c2 hb2
  simp only [W_block, ANs, AOp.map, ↓reduceIte, Nat.reduceAdd, Nat.reduceEqDiff, reduceCtorEq, initFr, Nat.reduceLT, ANc]
  have k2 : Keeps H H2 := k1.chg_trans c2 (by intro z hz; exact f1 z (mem_blkL.1 hz))
  refine hq2 _ _ ⟨_, rfl, ?_, k2, ?_⟩
  · have : k + (n - (k + 1)) = n - 1 := by omega
    rw [this] at ap2
    exact ap2
  · intro z hz
    change blk v2 = some z at hz
    rcases hb2 with e | e
    · rw [e] at hz; exact f1 z hz
    · rw [e] at hz; cases hz; exact k1.n
end Go.AM.Rp
