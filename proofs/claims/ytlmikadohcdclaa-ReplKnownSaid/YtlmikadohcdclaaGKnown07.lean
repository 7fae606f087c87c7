/- Part of the proof. -/
import Derived.Test.YtlmikadohcdclaaGKnown06
set_option linter.unusedSimpArgs false
set_option linter.unusedVariables false
namespace Go.AM.Rp
open Nat (reduceAdd reduceEqDiff reduceLT reduceLeDiff reduceMul reduceSub)
open Go.Proofs
structure Sit (H : AHeap) (v0 : Value) (L : List Stp) (s r X i : Nat) (O l : List Lg) (a : Nat) (xi : Option Nat) (cur : Lg) (u p vo vt vb : Value) (tp bp : List (Msg × Value)) (h : Int) : Prop where
 sep : Sep H [thX X cur, thR r p (xO O xi), thS s u l a, thO vo O, thM vt tp, thM vb bp, thA v0 L]
 sc : ScI O l a xi (tp.map (·.1)) (bp.map (·.1))
 ct : tp.length ≤ 50
 cb : bp.length ≤ 50
 co : O.length ≤ i
 cu : SOK cur.s ∧ 0 ≤ cur.e ∧ cur.e ≤ i + 1 ∧ 0 ≤ cur.c ∧ cur.c ≤ i
 la : 0 < O.length → cur = gO O (O.length - 1)
 hh : -1 ≤ h ∧ (∀ j, xi = some j → h ≤ (j : Int)) ∧ (xi = none → h = -1)
def LOk (L : List Stp) : Prop := ∀ p ∈ L, p.n < 256 ∧ p.k < 256
theorem PC_0 (p : Stp) : (PC p)[0]? = some (.int .u8 p.k) := rfl
theorem PC_1 (p : Stp) : (PC p)[1]? = some (.int .u8 p.n) := rfl
theorem PC_s {p : Stp} (h : p.s.t.length = 64) : ((PC p).drop 2).take 68 = SC p.s := by
 show (SC p.s).take 68 = _
 rw [List.take_of_length_le (by rw [SC_len h]; omega)]
theorem LC_set0 (x : Lg) (e : Int) : (LC x).set 0 (.int .i64 e) = LC { x with e := e } := rfl
theorem LC_set1 (x : Lg) (c : Int) : (LC x).set 1 (.int .i64 c) = LC { x with c := c } := rfl
theorem LC_upd {x : Lg} (h : x.s.t.length = 64) (s : S) : (LC x).take 2 ++ SC s ++ (LC x).drop 70 = LC { x with s := s } := by
 show [.int .i64 x.e, .int .i64 x.c] ++ SC s ++ (SC x.s).drop 68 = _
 rw [List.drop_of_length_le (by rw [SC_len h]; omega), List.append_nil]; rfl
theorem fl1 : fillA Z70 [(0, 1, .int .i64 1)] = some (LC ⟨1, 0, S0⟩) := rfl
theorem sok0 : SOK S0 := ⟨rfl, by decide, by decide, by decide, by decide⟩
set_option maxHeartbeats 4000000 in
theorem t4 {H : AHeap} {v0 : Value} {L : List Stp} (hA : (thA v0 L).P H) (hL : LOk L) : ∃ r H', ARun Try.prog 0 4 [v0] H r H' ∧ r = .bool true := by
 refine walk2 f4_ok f4_n ?_
 intro Q hq1 hq2
 have his := hA.1.is
 have hlen := hA.1.len
 rw [List.length_map] at hlen
 have zl : Z70.length = 70 := rfl
 simp (disch := first | assumption | omega) only [f4, W_block, P3, seval, initFr, clsA, hlen]
 by_cases hc : (300 : Int) < L.length
 ·simp (disch := first | assumption | omega) only [W_block, P3, seval, initFr, clsA]
  refine ⟨_, _, works_any _, ?_⟩
  simp (disch := first | assumption | omega) only [W_block, P3, seval, initFr, clsA]
  exact hq2 _ _ ⟨_, rfl, rfl⟩
 have ll := LC_len (x := ⟨1, 0, S0⟩) rfl
 simp (disch := first | assumption | omega | (simp only [LN] <;> omega) | (simp (disch := first | assumption | omega | (simp only [LN] <;> omega)) only [row_alloc, row_set]; assumption)) only [W_block, P3, seval, initFr, clsA, z70, fl1, LC_one]
 have s0 : Sep H [thA v0 L] := ⟨by simp; exact hA, by simp⟩
 have s1 := s0.add (t := thM (.slice none 0 0) []) (Keeps.refl _) (MS.nil _) (by simp [thM, blkL, blk])
 have s2 := s1.add (t := thM (.slice none 0 0) []) (Keeps.refl _) (MS.nil _) (by simp [thM, blkL, blk])
 have s3 := s2.add (t := thO (.slice none 0 0) []) (Keeps.refl _) (.inl ⟨rfl, rfl, rfl⟩) (by simp [thO, blkL, blk])
 have s4 := s3.add (t := thS H.n (.slice none 0 0) [] 0) ((Keeps.refl _).alloc (.cells true false 2 [.slice none 0 0, .int .i64 0] 48)) ⟨AHeap.get_alloc_new _ _, .inl ⟨rfl, rfl⟩, by simp [blk], by intro x hx; cases hx⟩ (by simp [thS, blkL, blk])
 have s5 := s4.add (t := thR (H.n + 1) (.pointer none) none) ((Keeps.refl _).alloc (.cells true false 1 [.pointer none] 51)) ⟨AHeap.get_alloc_new _ _, rfl⟩ (by simp [thR, blkL, blk, alloc_n])
 have s6 := s5.add (t := thX (H.n + 2) ⟨1, 0, S0⟩) ((Keeps.refl _).alloc (.cells true false 70 (LC ⟨1, 0, S0⟩) 54)) (AHeap.get_alloc_new _ _) (by simp [thX, alloc_n])
 obtain ⟨K, hK⟩ : ∃ K, K = ((H.alloc (.cells true false 2 [.slice none 0 0, .int .i64 0] 48)).alloc (.cells true false 1 [.pointer none] 51)).alloc (.cells true false 70 (LC ⟨1, 0, S0⟩) 54) := ⟨_, rfl⟩
 rw [← hK] at s6 ⊢
 generalize H.n = s at s6 ⊢
 refine W_loop2 (fun q fr K => ∃ (i : Nat) (O l : List Lg) (a : Nat) (xi : Option Nat) (cur : Lg) (u p vo vt vb : Value) (tp bp : List (Msg × Value)) (h : Int) (y10 y11 y12 y13 y14 y15 y16 y17 y18 y19 y20 y21 y22 y23 y24 y25 y26 y27 y28 y29 y30 y31 y32 y33 y34 y35 y36 y37 y38 y39 y40 y41 y42 y43 y44 y45 y46 y47 y48 : Value), q = L.length - i ∧ i ≤ L.length ∧
  Sit K v0 L s (s + 1) (s + 2) i O l a xi cur u p vo vt vb tp bp h ∧
  fr = [v0, .bool false, ptr s 0, ptr (s + 1) 0, vo, vt, vb, ptr (s + 2) 0, .int .i64 h, .int .i64 i, y10, y11, y12, y13, y14, y15, y16, y17, y18, y19, y20, y21, y22, y23, y24, y25, y26, y27, y28, y29, y30, y31, y32, y33, y34, y35, y36, y37, y38, y39, y40, y41, y42, y43, y44, y45, y46, y47, y48]) L.length ?_ ?_
 ·refine ⟨0, [], [], 0, none, ⟨1, 0, S0⟩, _, _, _, _, _, [], [], -1, _, _, _, _, _, _, _, _, _, _, _, _, _, _, _, _, _, _, _, _, _, _, _, _, _, _, _, _, _, _, _, _, _, _, _, _, _, _, _, rfl, by omega, ⟨s6, ⟨by intro i j hi; simp at hi, by simp, rfl, by simp, by simp, by simp, by simp, by omega⟩, by simp, by simp, by simp, ⟨sok0, by simp⟩, by simp, by simp⟩, rfl⟩
 rintro Q' q fr K2 ⟨i, O, l, a, xi, cur, u, p, vo, vt, vb, tp, bp, h, y10, y11, y12, y13, y14, y15, y16, y17, y18, y19, y20, y21, y22, y23, y24, y25, y26, y27, y28, y29, y30, y31, y32, y33, y34, y35, y36, y37, y38, y39, y40, y41, y42, y43, y44, y45, y46, y47, y48, rfl, hil, hS, rfl⟩ hn he hrt
 have hA2 := hS.sep.get 6 rfl
 by_cases hi : i < L.length
 case neg =>
  simp (disch := first | assumption | omega) only [W_block, P3, seval, initFr, clsA, hlen]
  refine he _ _ _ ?_
  have hiL : i = L.length := by omega
  subst hiL
  have hco := hS.co
  have hSl2 := hA2.1
  simp (disch := first | assumption | omega) only [ P3, seval, initFr, clsA]
  refine W_mid (fun fr K => ∃ (a : Nat) (xi : Option Nat) (p : Value) (z10 z11 z12 z13 z14 z15 z16 z17 z18 z19 z20 z21 z22 z23 z24 z25 z26 z27 z28 z29 z30 z31 z32 z33 z34 z35 z36 z37 z38 z39 z40 z41 z42 z43 z44 z45 z46 z47 z48 : Value), Sep K [thX (s + 2) cur, thR (s + 1) p (xO O xi), thS s u l a, thO vo O, thM vt tp, thM vb bp, thA v0 L] ∧ ScI O l a xi [] [] ∧ (O = [] ∧ xi = none ∨ ∃ j, xi = some j ∧ j + 1 = O.length) ∧
   fr = [v0, .bool false, ptr s 0, ptr (s + 1) 0, vo, vt, vb, ptr (s + 2) 0, .int .i64 h, .int .i64 L.length, z10, z11, z12, z13, z14, z15, z16, z17, z18, z19, z20, z21, z22, z23, z24, z25, z26, z27, z28, z29, z30, z31, z32, z33, z34, z35, z36, z37, z38, z39, z40, z41, z42, z43, z44, z45, z46, z47, z48]) ?_ ?_
  ·intro Q3 hm3 he3 hr3
   rw [W_block]
   have sc0 : ScI O l a xi [] [] := ⟨hS.sc.rise, hS.sc.ok, hS.sc.fl, hS.sc.fa, hS.sc.fx, by simp, by simp, hS.sc.fk⟩
   refine W_loop2 (fun q fr K => ∃ (t a : Nat) (xi : Option Nat) (p : Value) (z10 z11 z12 z13 z14 z15 z16 z17 z19 z20 z21 z22 z23 z24 z25 z26 z27 z28 z29 z30 z31 z32 z33 z34 z35 z36 z37 z38 z39 z40 z41 z42 z43 z44 z45 z46 z47 z48 : Value), q = 2 - t ∧ t ≤ 2 ∧ Sep K [thX (s + 2) cur, thR (s + 1) p (xO O xi), thS s u l a, thO vo O, thM vt tp, thM vb bp, thA v0 L] ∧ ScI O l a xi [] [] ∧
    (1 ≤ t → (∃ j, xi = some j ∧ j + 1 = O.length) ∨ a = 0 ∧ t = 1) ∧
    fr = [v0, .bool false, ptr s 0, ptr (s + 1) 0, vo, vt, vb, ptr (s + 2) 0, .int .i64 h, .int .i64 L.length, z10, z11, z12, z13, z14, z15, z16, z17, .int .i64 t, z19, z20, z21, z22, z23, z24, z25, z26, z27, z28, z29, z30, z31, z32, z33, z34, z35, z36, z37, z38, z39, z40, z41, z42, z43, z44, z45, z46, z47, z48]) 2 ⟨0, a, xi, p, _, _, _, _, _, _, _, _, _, _, _, _, _, _, _, _, _, _, _, _, _, _, _, _, _, _, _, _, _, _, _, _, _, _, _, _, _, _, rfl, by omega, hS.sep, sc0, by omega, rfl⟩ ?_
   rintro Q4 q fr X ⟨t, a, xi, p, z10, z11, z12, z13, z14, z15, z16, z17, z19, z20, z21, z22, z23, z24, z25, z26, z27, z28, z29, z30, z31, z32, z33, z34, z35, z36, z37, z38, z39, z40, z41, z42, z43, z44, z45, z46, z47, z48, rfl, ht2, hs, sc, hP, rfl⟩ hn4 he4 hr4
   have hfa := sc.fa
   have hfl : l.length ≤ 8 := by rw [sc.fl, List.length_drop]; omega
   have hSd0 : SdV X s u l a := hs.get 2 rfl
   have hR0 : RvV X (s + 1) p (xO O xi) := hs.get 1 rfl
   have z78 : Z78.all Value.oneCell' = true := rfl
   have zl78 : Z78.length = 78 := rfl
   by_cases ht : t < 2
   case neg =>
    have : t = 2 := by omega
    subst this
    simp (disch := first | assumption | omega) only [W_block, P3, seval, initFr, clsA]
    refine he4 5 _ _ ?_
    simp (disch := first | assumption | omega) only [W_block, P3, seval, initFr, clsA]
    refine hm3 _ _ ⟨a, xi, p, _, _, _, _, _, _, _, _, _, _, _, _, _, _, _, _, _, _, _, _, _, _, _, _, _, _, _, _, _, _, _, _, _, _, _, _, _, _, _, hs, sc, .inr ?_, rfl⟩
    rcases hP (by omega) with h1 | h1
    ·exact h1
    ·omega
   simp (disch := first | assumption | omega) only [W_block, P3, seval, initFr, clsA]
   refine callK (t16 hSd0.s (by omega) hfa) ?_
   rintro _ K3 ⟨k3, u2, rfl, tb, fr2⟩
   have n3 := k3.n
   rcases sc.send with ⟨hal, e⟩ | ⟨i, hi, hal, hsend⟩
   ·rw [e] at tb ⊢
    have lG := G_len G0 rfl u2
    have oG := GC_one G0 tb.one
    have kA := k3.alloc (.cells true false 78 (GC G0 u2) 41)
    simp (disch := first | assumption | omega) only [W_block, P3, seval, initFr, clsA, z78, oG]
    refine he4 5 _ _ ?_
    simp (disch := first | assumption | omega) only [W_block, P3, seval, initFr, clsA]
    refine hm3 _ _ ⟨a, xi, p, _, _, _, _, _, _, _, _, _, _, _, _, _, _, _, _, _, _, _, _, _, _, _, _, _, _, _, _, _, _, _, _, _, _, _, _, _, _, _, hs.keeps kA, sc, ?_, rfl⟩
    by_cases hO : O.length = 0
    ·left
     refine ⟨List.length_eq_zero_iff.1 hO, ?_⟩
     cases hx : xi with
     | none => rfl
     | some j => have := sc.fx j hx; omega
    ·right
     have hll : l.length = O.length - (O.length - 8) := by rw [sc.fl, List.length_drop]
     obtain ⟨j, h1, h2⟩ := sc.fk (by omega)
     have := sc.fx j h1
     exact ⟨j, h1, by omega⟩
   obtain ⟨m, hm, hmo, hm1, hm2, hm3'⟩ : ∃ m, sendR l a = (m, true) ∧ MsgOf O m ∧ m.s.t.length = 64 ∧ m.d.l.length ≤ 64 ∧ (a = 0 ∧ m = wholeM (gO O i) ∨ ∃ j, 0 < a ∧ j < i ∧ m = partM (gO O j) (gO O i)) := by
    rcases hsend with ⟨h0, e⟩ | ⟨j', h0, h3, e, _⟩
    ·exact ⟨_, e, ⟨i, by omega, .inl rfl⟩, (sc.g (i := i) (by omega)).1.ht, by simp [wholeM, G0], .inl ⟨h0, rfl⟩⟩
    ·exact ⟨_, e, ⟨i, by omega, .inr ⟨j', h3, rfl⟩⟩, rfl, dp_le _ _ 64, .inr ⟨j', h0, h3, rfl⟩⟩
   rw [hm] at tb ⊢
   simp only at tb ⊢
   have lG := GC_len hm1 u2
   have oG := GC_one m tb.one
   have kA := k3.alloc (.cells true false 78 (GC m u2) 41)
   have sA := hs.keeps kA
   have hRA : RvV _ (s + 1) p (xO O xi) := sA.get 1 rfl
   simp (disch := first | assumption | omega) only [W_block, P3, seval, initFr, clsA, z78, oG]
   obtain ⟨ans, f, xi', hh1, hh2, hh3, hh4, hh5, hh6⟩ := sc.hear hmo
   have hx64 : ∀ y, xO O xi = some y → y.s.t.length = 64 := by
    intro y hy
    unfold xO at hy
    cases hx : xi with
    | none => rw [hx] at hy; cases hy
    | some j => rw [hx] at hy; simp at hy; rw [← hy]; exact (sc.g (sc.fx j hx)).1.ht
   have tbA := tb.keeps ((Keeps.refl K3).alloc (.cells true false 78 (GC m u2) 41))
   refine callK (t17 hRA.s hx64 hm1 tbA (by omega)) ?_
   rintro _ K5 ⟨rfl, r3, r4, r5⟩
   rw [hh1] at r3 ⊢
   obtain ⟨p', q1, q2⟩ := r3.v
   have s5 := sA.upd (l := [_]) (t := thR (s + 1) p (xO O xi)) (t' := thR (s + 1) p' (xO O xi')) (r4.mono (fun z hz => by simp at hz; subst hz; simp [thR])) q1 (by
    intro b hb
    rcases List.mem_cons.1 hb with rfl | hb
    ·exact .inl (by simp [thR])
    ·rcases r5 with e | ⟨b', e, hb'⟩
     ·rw [q2, hRA.c] at e; cases e; exact .inl (List.mem_cons_of_mem _ hb)
     ·rw [q2] at e; cases e; simp [blkL, blk, ptr] at hb; subst hb; exact .inr hb')
   have hans : ans.s = S0 ∧ ans.d.l = [] := by
    rcases hh4 with rfl | ⟨j, rfl, _⟩ <;> exact ⟨rfl, rfl⟩
   have lA := G_len ans hans.1 (.slice none 0 0)
   have oA := GC_one ans (v := .slice none 0 0) rfl
   have sc1 : ScI O l a xi' [] [] := ⟨sc.rise, sc.ok, sc.fl, sc.fa, hh3, by simp, by simp, fun h0 => by
    obtain ⟨j, h2, h3⟩ := sc.fk h0
    obtain ⟨j', h4, h5⟩ := hh2 j h2
    exact ⟨j', h4, by omega⟩⟩
   obtain ⟨a', g1, g2, g3⟩ := sc1.ans hh4
   have kB := (Keeps.refl K5).alloc (.cells true false 78 (GC ans (.slice none 0 0)) 41)
   have s6 := s5.keeps kB
   have hSd6 : SdV _ s u l a := s6.get 2 rfl
   simp (disch := first | assumption | omega) only [W_block, P3, seval, initFr, clsA, z78, oA]
   refine callK (t19 (m := ans) (v := .slice none 0 0) hSd6 sc1.lr (by omega) hfa (by rw [hans.1]; rfl) ⟨none, 0, by rw [hans.2]; rfl, fun hne => absurd hans.2 hne⟩ (by rw [hans.2]; simp)) ?_
   rintro _ K7 ⟨rfl, r7, c7⟩
   rw [g1] at r7 ⊢
   have s7 := s6.upd (l := [_, _]) (t := thS s u l a) (t' := thS s u l a') (c7.mono (fun z hz => by simp at hz; subst hz; simp [thS])) r7 (fun b hb => .inl hb)
   simp (disch := first | assumption | omega) only [W_block, P3, seval, initFr, clsA, wrap_succ (n := t) (by omega)]
   refine hn4 _ _ _ ⟨t + 1, a', xi', p', _, _, _, _, _, _, _, _, _, _, _, _, _, _, _, _, _, _, _, _, _, _, _, _, _, _, _, _, _, _, _, _, _, _, _, _, _, _, rfl, by omega, s7, ⟨g2.rise, g2.ok, g2.fl, g2.fa, g2.fx, by simp, by simp, g2.fk⟩, ?_, rfl⟩ (by omega)
   intro _
   rcases hm3' with ⟨h0, hw⟩ | ⟨j, h0, hji, hp⟩
   ·exact .inl ⟨i, (hh5 i hw hi).1, hi⟩
   ·rcases hh6 i j hp hi hji with h1 | ⟨h1, h2, h3⟩
    ·exact .inl ⟨i, h1.1, hi⟩
    ·by_cases ht0 : t = 0
     ·exact .inr ⟨g3 h1, by omega⟩
     ·rcases hP (by omega) with ⟨j', h4, h5⟩ | h4
      ·have : j' = i := by omega
       subst this; exact absurd h4 h3
      ·omega
  ·rintro fr K ⟨a, xi, p, z10, z11, z12, z13, z14, z15, z16, z17, z18, z19, z20, z21, z22, z23, z24, z25, z26, z27, z28, z29, z30, z31, z32, z33, z34, z35, z36, z37, z38, z39, z40, z41, z42, z43, z44, z45, z46, z47, z48, hs, sc, hP, rfl⟩
   have hR0 : RvV K (s + 1) p (xO O xi) := hs.get 1 rfl
   have hk64 : Ok64 O := fun y hy => (sc.ok y hy).1.ht
   have hx64 : ∀ y, xO O xi = some y → y.s.t.length = 64 := by
    intro y hy
    unfold xO at hy
    cases hx : xi with
    | none => rw [hx] at hy; cases hy
    | some j => rw [hx] at hy; simp at hy; rw [← hy]; exact (sc.g (sc.fx j hx)).1.ht
   simp (disch := first | assumption | omega) only [W_block, P3, seval, initFr, clsA]
   refine callK (t20 hR0.s hx64) ?_
   rintro _ K3 ⟨rfl, k3⟩
   have hOs3 : Sl K3 70 vo (O.map LC) := AP.slL ((hs.keeps k3).get 3 rfl) hk64
   have isO := hOs3.is
   have lenO : lenS vo = O.length := by rw [hOs3.len, List.length_map]
   rcases hP with ⟨hO, rfl⟩ | ⟨j, rfl, hj⟩
   ·have hy : (xO O none).getD L0 = L0 := rfl
    have lY := LC_len (x := L0) rfl
    have oY := LC_one L0
    have lO : O.length = 0 := by rw [hO]; rfl
    simp (disch := first | assumption | omega) only [W_block, P3, seval, initFr, clsA, hy, z70, oY, show (xO O none).isSome = false from rfl, isO, lenO, lO]
    refine ⟨_, _, works_any _, trivial, ?_⟩
    simp (disch := first | assumption | omega) only [W_block, P3, seval, initFr, clsA]
    exact hq2 _ _ ⟨_, rfl, rfl⟩
   ·have hgj := sc.g (i := j) (by omega)
    have hy : (xO O (some j)).getD L0 = gO O j := rfl
    have lY := LC_len hgj.1.ht
    have oY := LC_one (gO O j)
    obtain ⟨nnO, rowO⟩ := hOs3.at_ (by omega) (i := j) (by simp; omega)
    rw [List.getElem_map, gO_at (by omega)] at rowO
    have hbO : bn vo ≤ K3.n := AP.bn ((hs.keeps k3).get 3 rfl : AP K3 54 70 vo O.length (FL O))
    have hsub : IntKind.i64.wrap ((O.length : Int) - 1) = (j : Int) := by rw [wrap_i64 (by omega) (by omega)]; omega
    simp (disch := first | assumption | omega | (simp only [LN] <;> omega) | (simp (disch := first | assumption | omega | (simp only [LN] <;> omega)) only [row_alloc, row_set]; assumption)) only [W_block, P3, seval, initFr, clsA, hy, z70, oY, show (xO O (some j)).isSome = true from rfl, isO, lenO, hsub, a_eqse, eqL_yes hgj.1.ht]
    refine ⟨_, _, works_any _, trivial, ?_⟩
    simp (disch := first | assumption | omega) only [W_block, P3, seval, initFr, clsA]
    exact hq2 _ _ ⟨_, rfl, rfl⟩
 have hSl : Sl K2 70 v0 (L.map PC) := hA2.1
 obtain ⟨hnn, hrow⟩ := hSl.at_ (by omega) (i := i) (by simpa using hi)
 rw [List.getElem_map] at hrow
 generalize hst : L[i] = st at hrow
 have hstm : st ∈ L := by rw [← hst]; exact List.getElem_mem _
 have hst2 := hL st hstm
 have hst3 := hA2.2 st hstm
 simp (disch := first | assumption | omega) only [ P3, seval, initFr, clsA, hlen]
 rw [W_block]
 simp (disch := first | assumption | omega) only [ P3, seval, initFr, clsA, hlen, PC_0, PC_1, b_rem8, wrap_nat (n := st.n) (by omega)]
 refine W_mid (fun fr K => ∃ (O l : List Lg) (a : Nat) (xi : Option Nat) (cur : Lg) (u p vo vt vb : Value) (tp bp : List (Msg × Value)) (h : Int) (y10 y11 y12 y13 y14 y15 y16 y17 y18 y19 y20 y21 y22 y23 y24 y25 y26 y27 y28 y29 y30 y31 y32 y33 y34 y35 y36 y37 y38 y39 y40 y41 y42 y43 y44 y45 y46 y47 y48 : Value), 
  Sit K v0 L s (s + 1) (s + 2) (i + 1) O l a xi cur u p vo vt vb tp bp h ∧
  fr = [v0, .bool false, ptr s 0, ptr (s + 1) 0, vo, vt, vb, ptr (s + 2) 0, .int .i64 h, .int .i64 i, y10, y11, y12, y13, y14, y15, y16, y17, y18, y19, y20, y21, y22, y23, y24, y25, y26, y27, y28, y29, y30, y31, y32, y33, y34, y35, y36, y37, y38, y39, y40, y41, y42, y43, y44, y45, y46, y47, y48]) ?_ ?_
 ·intro Q2 hm he2 hr2
  rw [W_block]
  have hX : K2.get (s + 2) = some (.cells true false 70 (LC cur) 54) := hS.sep.get 0 rfl
  have lX := AHeap.get_lt hX
  have hcu := hS.cu
  have lcu := LC_len hcu.1.ht
  have lst' := SC_len hst3.ht
  have wc : IntKind.i64.wrap (cur.c + 1) = cur.c + 1 := wrap_i64 (by omega) (by omega)
  have we : IntKind.i64.wrap (cur.e + 1) = cur.e + 1 := wrap_i64 (by omega) (by omega)
  have hfa := hS.sc.fa
  have hfl : l.length ≤ 8 := by rw [hS.sc.fl, List.length_drop]; omega
  have hco := hS.co
  have hct := hS.ct
  have hcb := hS.cb
  have hSd0 : SdV K2 s u l a := hS.sep.get 2 rfl
  have hR0 : RvV K2 (s + 1) p (xO O xi) := hS.sep.get 1 rfl
  have hT0 : MS K2 vt tp := hS.sep.get 4 rfl
  have hB0 : MS K2 vb bp := hS.sep.get 5 rfl
  have z78 : Z78.all Value.oneCell' = true := rfl
  have zl78 : Z78.length = 78 := rfl
  have isT := hT0.sl.is
  have isB := hB0.sl.is
  have lenT : lenS vt = tp.length := by rw [hT0.sl.len, List.length_map]
  have lenB : lenS vb = bp.length := by rw [hB0.sl.len, List.length_map]
  by_cases h01 : st.k % 8 = 0 ∨ st.k % 8 = 1
  ·obtain ⟨y, hy, hyl, hyx⟩ : ∃ y : Lg, y = (if st.n = 0 then ⟨cur.e + 1, 0, st.s⟩ else ⟨cur.e, cur.c + 1, st.s⟩) ∧ cmpL cur y < 0 ∧ SOK y.s ∧ 0 ≤ y.e ∧ y.e ≤ i + 2 ∧ 0 ≤ y.c ∧ y.c ≤ i + 1 := by
    refine ⟨_, rfl, ?_⟩
    rw [cmpL_lt]
    split
    ·exact ⟨.inl (by simp; omega), hst3, by simp; omega, by simp; omega, by simp, by simp; omega⟩
    ·exact ⟨.inr ⟨rfl, by simp; omega⟩, hst3, by simp; omega, by simp; omega, by simp; omega, by simp; omega⟩
   have ly := LC_len hyx.1.ht
   have hoff := hS.sc.offer (y := y) ⟨hyx.1, by omega, by have := hS.co; omega, by omega, by omega⟩ (fun hO => by rw [← hS.la hO]; exact hyl)
   obtain ⟨l', a', ho, hsc⟩ := hoff
   have sepX := hS.sep.upd (l := []) (t := thX (s + 2) cur) (t' := thX (s + 2) y) (Chg.set K2 lX (.cells true false 70 (LC y) 54)) (get1 hX _) (fun b hb => .inl hb)
   have hSd : SdV (K2.set (s + 2) (.cells true false 70 (LC y) 54)) s u l a := sepX.get 2 rfl
   have call : ∃ w H', ARun Try.prog 0 15 [ptr s 0, .agg (LC y).toArray] (K2.set (s + 2) (.cells true false 70 (LC y) 54)) w H' ∧ w = .int .i64 0 ∧ ∃ u', Sep H' [thX (s + 2) y, thR (s + 1) p (xO O xi), thS s u' l' a', thO vo O, thM vt tp, thM vb bp, thA v0 L] := by
    obtain ⟨w, H', r1, r2, u', r3, r4, r5⟩ := t15 hSd hyx.1.ht (by omega) (by omega)
    rw [ho] at r2 r3
    refine ⟨w, H', r1, r2, u', ?_⟩
    exact sepX.upd (l := [_, _]) (t := thS s u l a) (t' := thS s u' l' a') r4 r3 (by
     intro b hb
     rcases List.mem_cons.1 hb with rfl | hb
     ·exact .inl (by simp [thS])
     ·rcases r5 b (mem_blkL.1 hb) with h1 | h1
      ·exact .inl (by simp [thS, mem_blkL, h1])
      ·exact .inr h1)
   have hxO : xO (O ++ [y]) xi = xO O xi := by
    unfold xO
    cases hx : xi with
    | none => rfl
    | some j => simp only [Option.map_some]; rw [gO_app (hS.sc.fx j hx)]
   have lu : ∀ (a b : Int) (s' : S), (LC ⟨a, b, cur.s⟩).take 2 ++ SC s' ++ (LC ⟨a, b, cur.s⟩).drop 70 = LC ⟨a, b, s'⟩ := fun a b s' => LC_upd (x := ⟨a, b, cur.s⟩) hcu.1.ht s'
   have lq1 : (LC ⟨cur.e, cur.c + 1, cur.s⟩).length = 70 := LC_len hcu.1.ht
   have lq2 : (LC ⟨cur.e + 1, cur.c + 1, cur.s⟩).length = 70 := LC_len hcu.1.ht
   have lq3 : (LC ⟨cur.e + 1, 0, cur.s⟩).length = 70 := LC_len hcu.1.ht
   have hbn : bn v0 ≤ K2.n ∧ bn v0 ≠ s + 2 + 1 := by
    have h1 := hS.sep.apart 0 6 (by omega) rfl rfl
    refine ⟨hSl.bn_le (by intro e; rw [List.map_eq_nil_iff] at e; rw [e] at hstm; cases hstm) (by omega), fun e => ?_⟩
    have := h1 (s + 2) (by simp [thX])
    apply this
    show s + 2 ∈ aB v0
    unfold aB
    rw [if_pos hnn]
    unfold bn at e
    rw [mem_blkL]
    cases hb : blk v0 with
    | none => rw [hb] at e; simp at e
    | some b => rw [hb] at e; simp at e; rw [e]
   rcases h01 with h01 | h01 <;> by_cases hn0 : st.n = 0 <;> simp only [hn0, if_true, if_false] at hy <;> simp (disch := first | assumption | omega | (simp only [LN] <;> omega) | (simp (disch := first | assumption | omega | (simp only [LN] <;> omega)) only [row_alloc, row_set]; assumption)) only [W_block, P3, seval, initFr, clsA, hX, LC_0, LC_1, LC_set1, LC_set0, wc, we, PC_s hst3.ht, lu, LC_one, SC_one, ← hy, hbn.1, hbn.2] <;> refine callK call ?_ <;> rintro _ K3 ⟨rfl, u', hs3⟩
   all_goals
    have hX3 : K3.get (s + 2) = some (.cells true false 70 (LC y) 54) := hs3.get 0 rfl
    have lX3 := AHeap.get_lt hX3
    simp (disch := first | assumption | omega) only [W_block, P3, seval, initFr, clsA, hX3, bsl70 hyx.1.ht]
    have hO3 : AP K3 54 70 vo O.length (FL O) := hs3.get 3 rfl
    have kO := (Keeps.refl K3).alloc (.cells true false 70 (LC y) 54)
    refine appG (hO3.keeps kO) ⟨_, _, rfl⟩ (elems_new rfl (by rw [ly])) ly (by omega) ?_
    intro vo' K4 ap4 c4 hb4
    simp (disch := first | assumption | omega) only [W_block, P3, seval, initFr, clsA]
    have hF : FL O ++ LC y = FL (O ++ [y]) := by rw [FL_app]; simp [FL]
    rw [hF] at ap4
    have hs4 := hs3.upd (l := [_, _, _]) (t := thO vo O) (t' := thO vo' (O ++ [y])) ((kO.chg _).trans c4 (fun x hx => .inl hx)) (by show AP _ _ _ _ _ _; rw [List.length_append]; exact ap4) (by
     intro b hb
     have hb := mem_blkL.1 hb
     rcases hb4 with e | e
     ·rw [e] at hb; exact .inl (mem_blkL.2 hb)
     ·rw [e] at hb; cases hb; exact .inr (by simp [alloc_n]))
    refine hm _ _ ⟨O ++ [y], l', a', xi, y, u', p, vo', vt, vb, tp, bp, h, _, _, _, _, _, _, _, _, _, _, _, _, _, _, _, _, _, _, _, _, _, _, _, _, _, _, _, _, _, _, _, _, _, _, _, _, _, _, _, ⟨by rw [hxO]; exact hs4, hsc, hct, hcb, by simp; omega, ⟨hyx.1, by omega, by push_cast; omega, by omega, by push_cast; omega⟩, fun _ => by rw [List.length_append, List.length_cons, List.length_nil, Nat.add_sub_cancel, gO_last], hS.hh⟩, rfl⟩
  have up : ∀ {K O' l' a' xi' u' p' vo' vt' vb' tp' bp' h'}, Sit K v0 L s (s + 1) (s + 2) i O' l' a' xi' cur u' p' vo' vt' vb' tp' bp' h' → Sit K v0 L s (s + 1) (s + 2) (i + 1) O' l' a' xi' cur u' p' vo' vt' vb' tp' bp' h' := by
   intro K O' l' a' xi' u' p' vo' vt' vb' tp' bp' h' hh
   exact ⟨hh.sep, hh.sc, hh.ct, hh.cb, by have := hh.co; omega, ⟨hcu.1, by omega, by push_cast; omega, by omega, by push_cast; omega⟩, hh.la, hh.hh⟩
  by_cases h2 : st.k % 8 = 2
  ·simp (disch := first | assumption | omega) only [W_block, P3, seval, initFr, clsA]
   refine callK (t16 hSd0.s (by omega) hfa) ?_
   rintro _ K3 ⟨k3, u2, rfl, tb, fr2⟩
   have n3 := k3.n
   have hsm : ((sendR l a).2 = true → MsgOf O (sendR l a).1) ∧ (sendR l a).1.s.t.length = 64 ∧ (sendR l a).1.d.l.length ≤ 64 := by
    rcases hS.sc.send with ⟨_, e⟩ | ⟨j, h1, h2, ⟨_, e⟩ | ⟨j', _, h3, e, _⟩⟩
    ·rw [e]; exact ⟨by simp, rfl, by simp [G0]⟩
    ·rw [e]; exact ⟨fun _ => ⟨j, by omega, .inl rfl⟩, (hS.sc.g (i := j) (by omega)).1.ht, by simp [wholeM, G0]⟩
    ·rw [e]; exact ⟨fun _ => ⟨j, by omega, .inr ⟨j', h3, rfl⟩⟩, rfl, dp_le _ _ 64⟩
   generalize sendR l a = mm at tb hsm ⊢
   obtain ⟨m, ok⟩ := mm
   obtain ⟨hm1, hm2, hm3⟩ := hsm
   have lG := GC_len hm2 u2
   have oG := GC_one m tb.one
   have kA := k3.alloc (.cells true false 78 (GC m u2) 41)
   simp (disch := first | assumption | omega) only [W_block, P3, seval, initFr, clsA, z78, oG, isT, lenT]
   cases ok with
   | false =>
    simp (disch := first | assumption | omega) only [W_block, P3, seval, initFr, clsA]
    exact hm _ _ ⟨O, l, a, xi, cur, u, p, vo, vt, vb, tp, bp, h, _, _, _, _, _, _, _, _, _, _, _, _, _, _, _, _, _, _, _, _, _, _, _, _, _, _, _, _, _, _, _, _, _, _, _, _, _, _, _, up ⟨hS.sep.keeps kA, hS.sc, hct, hcb, hco, hcu, hS.la, hS.hh⟩, rfl⟩
   | true =>
    by_cases h50 : tp.length < 50
    ·simp (disch := first | assumption | omega) only [W_block, P3, seval, initFr, clsA, z78, oG, isT, lenT, bsl78 hm2 tb.one]
     have kB := kA.alloc (.cells true false 78 (GC m u2) 41)
     have sB := hS.sep.keeps kB
     refine MS.app (m := m) (u := u2) (sB.get 4 rfl) (elems_new rfl (by rw [lG])) (tb.keeps (((Keeps.refl K3).alloc _).alloc _)) hm2 hm3 (by omega) ?_ ?_
     ·intro b hb hbv
      unfold mB at hb
      split at hb
      ·cases hb
      ·have h1 := fr2 b (mem_blkL.1 hb)
       have h2 := AP.lt hT0.ap (mem_blkL.1 hbv)
       omega
     intro vt' K5 ms5 c5 hb5
     simp (disch := first | assumption | omega) only [W_block, P3, seval, initFr, clsA]
     have s5 := hS.sep.upd (l := [_, _, _, _]) (t := thM vt tp) (t' := thM vt' (tp ++ [(m, u2)])) ((kB.chg _).trans (c5.mono (T := (thM vt tp).F) (fun z hz => List.mem_append_left _ hz)) (fun z hz => .inl hz)) ms5 (by
      intro b hb
      rcases List.mem_append.1 hb with hb | hb
      ·have hb := mem_blkL.1 hb
       rcases hb5 with e | e
       ·rw [e] at hb; exact .inl (List.mem_append_left _ (mem_blkL.2 hb))
       ·rw [e] at hb; cases hb; exact .inr (by simp [alloc_n]; omega)
      ·rw [List.flatMap_append] at hb
       rcases List.mem_append.1 hb with hb | hb
       ·exact .inl (List.mem_append_right _ hb)
       ·right
        simp only [List.flatMap_cons, List.flatMap_nil, List.append_nil] at hb
        unfold mB at hb
        split at hb
        ·cases hb
        ·exact fr2 b (mem_blkL.1 hb))
     refine hm _ _ ⟨O, l, a, xi, cur, u, p, vo, vt', vb, _, bp, h, _, _, _, _, _, _, _, _, _, _, _, _, _, _, _, _, _, _, _, _, _, _, _, _, _, _, _, _, _, _, _, _, _, _, _, _, _, _, _, up ⟨s5, ⟨hS.sc.rise, hS.sc.ok, hS.sc.fl, hS.sc.fa, hS.sc.fx, ?_, hS.sc.fb, hS.sc.fk⟩, by simp; omega, hcb, hco, hcu, hS.la, hS.hh⟩, rfl⟩
     intro m' hm'
     rw [List.map_append] at hm'
     rcases List.mem_append.1 hm' with h1 | h1
     ·exact hS.sc.ft m' h1
     ·simp at h1; subst h1; exact hm1 rfl
    ·simp (disch := first | assumption | omega) only [W_block, P3, seval, initFr, clsA, lenT]
     exact hm _ _ ⟨O, l, a, xi, cur, u, p, vo, vt, vb, tp, bp, h, _, _, _, _, _, _, _, _, _, _, _, _, _, _, _, _, _, _, _, _, _, _, _, _, _, _, _, _, _, _, _, _, _, _, _, _, _, _, _, up ⟨hS.sep.keeps kA, hS.sc, hct, hcb, hco, hcu, hS.la, hS.hh⟩, rfl⟩
  have hx64 : ∀ y, xO O xi = some y → y.s.t.length = 64 := by
   intro y hy
   unfold xO at hy
   cases hx : xi with
   | none => rw [hx] at hy; cases hy
   | some j => rw [hx] at hy; simp at hy; rw [← hy]; exact (hS.sc.g (hS.sc.fx j hx)).1.ht
  by_cases h34 : st.k % 8 = 3 ∨ st.k % 8 = 4
  ·by_cases ht0 : tp.length = 0
   ·rcases h34 with h34 | h34 <;> simp (disch := first | assumption | omega) only [W_block, P3, seval, initFr, clsA, isT, lenT] <;> refine he2 1 _ _ ?_ <;> simp (disch := first | assumption | omega) only [W_block, P3, seval, initFr, clsA, wrap_succ (n := i) (by omega)] <;> exact hn _ _ _ ⟨i + 1, O, l, a, xi, cur, u, p, vo, vt, vb, tp, bp, h, _, _, _, _, _, _, _, _, _, _, _, _, _, _, _, _, _, _, _, _, _, _, _, _, _, _, _, _, _, _, _, _, _, _, _, _, _, _, _, rfl, by omega, up hS, rfl⟩ (by omega)
   have hk : st.n % tp.length < tp.length := Nat.mod_lt _ (by omega)
   obtain ⟨nnT, rowT⟩ := hT0.sl.at_ (by omega) (i := st.n % tp.length) (by simpa using hk)
   rw [List.getElem_map] at rowT
   generalize hmu : tp[st.n % tp.length] = mu at rowT
   have hmem : mu ∈ tp := by rw [← hmu]; exact List.getElem_mem _
   obtain ⟨m, u2⟩ := mu
   obtain ⟨tb, hm2, hm3⟩ := hT0.tb _ hmem
   simp only at rowT tb hm2 hm3
   obtain ⟨ans, f, xi', hh1, hh2, hh3, hh4, _, _⟩ := hS.sc.hear (hS.sc.ft m (List.mem_map.2 ⟨_, hmem, rfl⟩))
   have hans : ans.s = S0 ∧ ans.d.l = [] := by
    rcases hh4 with rfl | ⟨j, rfl, _⟩ <;> exact ⟨rfl, rfl⟩
   have lA := G_len ans hans.1 (.slice none 0 0)
   have oA := GC_one ans (v := .slice none 0 0) rfl
   have call : ∃ w H', ARun Try.prog 0 17 [ptr (s + 1) 0, .agg (GC m u2).toArray] K2 w H' ∧ w = .tuple #[.agg (GC ans (.slice none 0 0)).toArray, .bool f, .int .i64 0] ∧ ∃ p', Sep H' [thX (s + 2) cur, thR (s + 1) p' (xO O xi'), thS s u l a, thO vo O, thM vt tp, thM vb bp, thA v0 L] := by
    obtain ⟨w, H', r1, r2, r3, r4, r5⟩ := t17 hR0.s hx64 hm2 tb (by omega)
    rw [hh1] at r2 r3
    obtain ⟨p', q1, q2⟩ := r3.v
    refine ⟨w, H', r1, r2, p', hS.sep.upd (l := [_]) (t := thR (s + 1) p (xO O xi)) (t' := thR (s + 1) p' (xO O xi')) (r4.mono (fun z hz => by simp at hz; subst hz; simp [thR])) q1 ?_⟩
    intro b hb
    rcases List.mem_cons.1 hb with rfl | hb
    ·exact .inl (by simp [thR])
    ·rcases r5 with e | ⟨b', e, hb'⟩
     ·rw [q2, hR0.c] at e; cases e; exact .inl (List.mem_cons_of_mem _ hb)
     ·rw [q2] at e; cases e; simp [blkL, blk, ptr] at hb; subst hb; exact .inr hb'
   have hsc : ∀ th', (∀ m ∈ th', m ∈ tp.map (·.1)) → ScI O l a xi' th' (bp.map (·.1)) ∧ ScI O l a xi' th' ((bp ++ [(ans, Value.slice none 0 0)]).map (·.1)) := by
    intro th' ht
    have g1 : ∀ m ∈ th', MsgOf O m := fun m hm => hS.sc.ft m (ht m hm)
    have g2 : ∀ m ∈ bp.map (·.1), m = needM ∨ ∃ i, m = ackM (gO O i) ∧ ∃ j, xi' = some j ∧ i ≤ j := by
     intro m hm
     rcases hS.sc.fb m hm with h1 | ⟨i', h1, j, h2, h3⟩
     ·exact .inl h1
     ·obtain ⟨j', h4, h5⟩ := hh2 j h2
      exact .inr ⟨i', h1, j', h4, by omega⟩
    have g3 : 0 < a → ∃ j, xi' = some j ∧ (O.length - l.length) + a ≤ j + 1 := by
     intro h0
     obtain ⟨j, h2, h3⟩ := hS.sc.fk h0
     obtain ⟨j', h4, h5⟩ := hh2 j h2
     exact ⟨j', h4, by omega⟩
    refine ⟨⟨hS.sc.rise, hS.sc.ok, hS.sc.fl, hS.sc.fa, hh3, g1, g2, g3⟩, ⟨hS.sc.rise, hS.sc.ok, hS.sc.fl, hS.sc.fa, hh3, g1, ?_, g3⟩⟩
    intro m hm
    rw [List.map_append] at hm
    rcases List.mem_append.1 hm with h1 | h1
    ·exact g2 m h1
    ·simp at h1; subst h1; exact hh4
   have hhh : -1 ≤ h ∧ (∀ j, xi' = some j → h ≤ (j : Int)) ∧ (xi' = none → h = -1) := by
    have h0 := hS.hh
    refine ⟨h0.1, fun j hj => ?_, fun hx => ?_⟩
    ·cases hx : xi with
     | none => have := h0.2.2 hx; omega
     | some j0 =>
      have h1 := h0.2.1 j0 hx
      obtain ⟨j', h4, h5⟩ := hh2 j0 hx
      rw [hj] at h4; cases h4; omega
    ·cases hx0 : xi with
     | none => exact h0.2.2 hx0
     | some j0 => obtain ⟨j', h4, h5⟩ := hh2 j0 hx0; rw [hx] at h4; cases h4
   rcases h34 with h34 | h34 <;> simp (disch := first | assumption | omega) only [W_block, P3, seval, initFr, clsA, isT, lenT, b_remn (n := st.n) (m := tp.length) (by omega)] <;> refine callK call ?_ <;> rintro _ K3 ⟨rfl, p', hs3⟩
   all_goals
    have hSl3 : Sl K3 70 v0 (L.map PC) := (hs3.get 6 rfl : (thA v0 L).P K3).1
    obtain ⟨_, hrow3⟩ := hSl3.at_ (by omega) (i := i) (by simpa using hi)
    rw [List.getElem_map, hst] at hrow3
    have hbn3 : bn v0 ≤ K3.n := hSl3.bn_le (by intro e; rw [List.map_eq_nil_iff] at e; rw [e] at hstm; cases hstm) (by omega)
    have kA := (Keeps.refl K3).alloc (.cells true false 78 (GC ans (.slice none 0 0)) 41)
    have sA := hs3.keeps kA
    simp (disch := first | assumption | omega | (simp only [LN] <;> omega) | (simp (disch := first | assumption | omega | (simp only [LN] <;> omega)) only [row_alloc, row_set]; assumption)) only [W_block, P3, seval, initFr, clsA, z78, oA, PC_0, b_rem8]
   ·refine callK ((sA.get 4 rfl : MS _ vt tp).drop hk (by omega)) ?_
    rintro vt' K5 ⟨k5, ms5, fr5⟩
    have htp' : ∀ m ∈ (tp.eraseIdx (st.n % tp.length)).map (·.1), m ∈ tp.map (·.1) := by
     intro m hm
     obtain ⟨q, h1, h2⟩ := List.mem_map.1 hm
     exact List.mem_map.2 ⟨q, List.mem_of_mem_eraseIdx h1, h2⟩
    have hct' : (tp.eraseIdx (st.n % tp.length)).length ≤ 50 := by rw [List.length_eraseIdx_of_lt hk]; omega
    have s5 := sA.upd (l := [_, _, _, _]) (t := thM vt tp) (t' := thM vt' (tp.eraseIdx (st.n % tp.length))) (k5.chg _) ms5 (by
     intro b hb
     rcases List.mem_append.1 hb with hb | hb
     ·exact .inr (fr5 b (mem_blkL.1 hb))
     ·obtain ⟨q, h1, h2⟩ := List.mem_flatMap.1 hb
      exact .inl (List.mem_append_right _ (List.mem_flatMap.2 ⟨q, List.mem_of_mem_eraseIdx h1, h2⟩)))
    generalize tp.eraseIdx (st.n % tp.length) = tp' at htp' hct' s5
    have hv5 : K5.get K3.n = some (.cells true false 78 (GC ans (.slice none 0 0)) 41) := k5.at_ (AHeap.get_alloc_new K3 _)
    have ln5 := AHeap.get_lt hv5
    simp (disch := first | assumption | omega) only [W_block, P3, seval, initFr, clsA, isB, lenB]
    by_cases h50 : bp.length < 50
    ·simp (disch := first | assumption | omega) only [W_block, P3, seval, initFr, clsA, isB, lenB, oA, bsl78 (m := ans) (v := .slice none 0 0) (by rw [hans.1]; rfl) rfl _, hv5]
     have kB := (Keeps.refl K5).alloc (.cells true false 78 (GC ans (.slice none 0 0)) 41)
     have sB := s5.keeps kB
     refine MS.app (m := ans) (u := .slice none 0 0) (sB.get 5 rfl) (elems_new rfl (by rw [lA])) ⟨none, 0, by rw [hans.2]; rfl, fun hne => absurd hans.2 hne⟩ (by rw [hans.1]; rfl) (by rw [hans.2]; simp) (by omega) (by intro b hb; unfold mB at hb; rw [if_pos hans.2] at hb; cases hb) ?_
     intro vb' K6 ms6 c6 hb6
     simp (disch := first | assumption | omega) only [W_block, P3, seval, initFr, clsA]
     have s6' := s5.upd (l := [_, _, _, _, _]) (t := thM vb bp) (t' := thM vb' (bp ++ [(ans, Value.slice none 0 0)])) ((kB.chg _).trans (c6.mono (T := (thM vb bp).F) (fun z hz => List.mem_append_left _ hz)) (fun z hz => .inl hz)) ms6 (by
      intro b hb
      rcases List.mem_append.1 hb with hb | hb
      ·have hb := mem_blkL.1 hb
       rcases hb6 with e | e
       ·rw [e] at hb; exact .inl (List.mem_append_left _ (mem_blkL.2 hb))
       ·rw [e] at hb; cases hb; exact .inr (by have := kB.n; omega)
      ·rw [List.flatMap_append] at hb
       rcases List.mem_append.1 hb with hb | hb
       ·exact .inl (List.mem_append_right _ hb)
       ·simp only [List.flatMap_cons, List.flatMap_nil, List.append_nil] at hb
        unfold mB at hb
        rw [if_pos hans.2] at hb
        cases hb)
     exact hm _ _ ⟨O, l, a, xi', cur, u, p', vo, vt', vb', tp', _, h, _, _, _, _, _, _, _, _, _, _, _, _, _, _, _, _, _, _, _, _, _, _, _, _, _, _, _, _, _, _, _, _, _, _, _, _, _, _, _, up ⟨s6', (hsc _ htp').2, hct', by simp; omega, hco, hcu, hS.la, hhh⟩, rfl⟩
    ·simp (disch := first | assumption | omega) only [W_block, P3, seval, initFr, clsA, isB, lenB]
     exact hm _ _ ⟨O, l, a, xi', cur, u, p', vo, vt', vb, tp', bp, h, _, _, _, _, _, _, _, _, _, _, _, _, _, _, _, _, _, _, _, _, _, _, _, _, _, _, _, _, _, _, _, _, _, _, _, _, _, _, _, up ⟨s5, (hsc _ htp').1, hct', hcb, hco, hcu, hS.la, hhh⟩, rfl⟩
   ·have htp' : ∀ m ∈ tp.map (·.1), m ∈ tp.map (·.1) := fun m hm => hm
    have hct' := hct
    have s5 := sA
    simp (disch := first | assumption | omega) only [W_block, P3, seval, initFr, clsA, isB, lenB]
    by_cases h50 : bp.length < 50
    ·simp (disch := first | assumption | omega) only [W_block, P3, seval, initFr, clsA, isB, lenB, oA, bsl78 (m := ans) (v := .slice none 0 0) (by rw [hans.1]; rfl) rfl _]
     have kB := (Keeps.refl (K3.alloc (.cells true false 78 (GC ans (.slice none 0 0)) 41))).alloc (.cells true false 78 (GC ans (.slice none 0 0)) 41)
     have sB := s5.keeps kB
     refine MS.app (m := ans) (u := .slice none 0 0) (sB.get 5 rfl) (elems_new rfl (by rw [lA])) ⟨none, 0, by rw [hans.2]; rfl, fun hne => absurd hans.2 hne⟩ (by rw [hans.1]; rfl) (by rw [hans.2]; simp) (by omega) (by intro b hb; unfold mB at hb; rw [if_pos hans.2] at hb; cases hb) ?_
     intro vb' K6 ms6 c6 hb6
     simp (disch := first | assumption | omega) only [W_block, P3, seval, initFr, clsA]
     have s6' := s5.upd (l := [_, _, _, _, _]) (t := thM vb bp) (t' := thM vb' (bp ++ [(ans, Value.slice none 0 0)])) ((kB.chg _).trans (c6.mono (T := (thM vb bp).F) (fun z hz => List.mem_append_left _ hz)) (fun z hz => .inl hz)) ms6 (by
      intro b hb
      rcases List.mem_append.1 hb with hb | hb
      ·have hb := mem_blkL.1 hb
       rcases hb6 with e | e
       ·rw [e] at hb; exact .inl (List.mem_append_left _ (mem_blkL.2 hb))
       ·rw [e] at hb; cases hb; exact .inr (by have := kB.n; omega)
      ·rw [List.flatMap_append] at hb
       rcases List.mem_append.1 hb with hb | hb
       ·exact .inl (List.mem_append_right _ hb)
       ·simp only [List.flatMap_cons, List.flatMap_nil, List.append_nil] at hb
        unfold mB at hb
        rw [if_pos hans.2] at hb
        cases hb)
     exact hm _ _ ⟨O, l, a, xi', cur, u, p', vo, vt, vb', tp, _, h, _, _, _, _, _, _, _, _, _, _, _, _, _, _, _, _, _, _, _, _, _, _, _, _, _, _, _, _, _, _, _, _, _, _, _, _, _, _, _, up ⟨s6', (hsc _ htp').2, hct', by simp; omega, hco, hcu, hS.la, hhh⟩, rfl⟩
    ·simp (disch := first | assumption | omega) only [W_block, P3, seval, initFr, clsA, isB, lenB]
     exact hm _ _ ⟨O, l, a, xi', cur, u, p', vo, vt, vb, tp, bp, h, _, _, _, _, _, _, _, _, _, _, _, _, _, _, _, _, _, _, _, _, _, _, _, _, _, _, _, _, _, _, _, _, _, _, _, _, _, _, _, up ⟨s5, (hsc _ htp').1, hct', hcb, hco, hcu, hS.la, hhh⟩, rfl⟩
  by_cases h56 : st.k % 8 = 5 ∨ st.k % 8 = 6
  ·by_cases hb0 : bp.length = 0
   ·rcases h56 with h56 | h56 <;> simp (disch := first | assumption | omega) only [W_block, P3, seval, initFr, clsA, isB, lenB] <;> refine he2 1 _ _ ?_ <;> simp (disch := first | assumption | omega) only [W_block, P3, seval, initFr, clsA, wrap_succ (n := i) (by omega)] <;> exact hn _ _ _ ⟨i + 1, O, l, a, xi, cur, u, p, vo, vt, vb, tp, bp, h, _, _, _, _, _, _, _, _, _, _, _, _, _, _, _, _, _, _, _, _, _, _, _, _, _, _, _, _, _, _, _, _, _, _, _, _, _, _, _, rfl, by omega, up hS, rfl⟩ (by omega)
   have hk : st.n % bp.length < bp.length := Nat.mod_lt _ (by omega)
   obtain ⟨nnB, rowB⟩ := hB0.sl.at_ (by omega) (i := st.n % bp.length) (by simpa using hk)
   rw [List.getElem_map] at rowB
   generalize hmu : bp[st.n % bp.length] = mu at rowB
   have hmem : mu ∈ bp := by rw [← hmu]; exact List.getElem_mem _
   obtain ⟨m, u2⟩ := mu
   obtain ⟨tb, hm2, hm3⟩ := hB0.tb _ hmem
   simp only at rowB tb hm2 hm3
   obtain ⟨a', hh1, hh2, _⟩ := hS.sc.ans (hS.sc.fb m (List.mem_map.2 ⟨_, hmem, rfl⟩))
   have call : ∃ w H', ARun Try.prog 0 19 [ptr s 0, .agg (GC m u2).toArray] K2 w H' ∧ w = .int .i64 0 ∧ Sep H' [thX (s + 2) cur, thR (s + 1) p (xO O xi), thS s u l a', thO vo O, thM vt tp, thM vb bp, thA v0 L] := by
    obtain ⟨w, H', r1, r2, r3, r4⟩ := t19 hSd0 hS.sc.lr (by omega) hfa hm2 tb (by omega)
    rw [hh1] at r2 r3
    exact ⟨w, H', r1, r2, hS.sep.upd (l := [_, _]) (t := thS s u l a) (t' := thS s u l a') (r4.mono (fun z hz => by simp at hz; subst hz; simp [thS])) r3 (fun b hb => .inl hb)⟩
   rcases h56 with h56 | h56 <;> simp (disch := first | assumption | omega) only [W_block, P3, seval, initFr, clsA, isB, lenB, b_remn (n := st.n) (m := bp.length) (by omega)] <;> refine callK call ?_ <;> rintro _ K3 ⟨rfl, hs3⟩
   all_goals
    have hSl3 : Sl K3 70 v0 (L.map PC) := (hs3.get 6 rfl : (thA v0 L).P K3).1
    obtain ⟨_, hrow3⟩ := hSl3.at_ (by omega) (i := i) (by simpa using hi)
    rw [List.getElem_map, hst] at hrow3
    simp (disch := first | assumption | omega) only [W_block, P3, seval, initFr, clsA, PC_0, b_rem8]
   ·refine callK ((hs3.get 5 rfl : MS _ vb bp).drop hk (by omega)) ?_
    rintro vb' K5 ⟨k5, ms5, fr5⟩
    have s5 := hs3.upd (l := [_, _, _, _, _]) (t := thM vb bp) (t' := thM vb' (bp.eraseIdx (st.n % bp.length))) (k5.chg _) ms5 (by
     intro b hb
     rcases List.mem_append.1 hb with hb | hb
     ·exact .inr (fr5 b (mem_blkL.1 hb))
     ·obtain ⟨q, h1, h2⟩ := List.mem_flatMap.1 hb
      exact .inl (List.mem_append_right _ (List.mem_flatMap.2 ⟨q, List.mem_of_mem_eraseIdx h1, h2⟩)))
    simp (disch := first | assumption | omega) only [W_block, P3, seval, initFr, clsA]
    exact hm _ _ ⟨O, l, a', xi, cur, u, p, vo, vt, vb', tp, _, h, _, _, _, _, _, _, _, _, _, _, _, _, _, _, _, _, _, _, _, _, _, _, _, _, _, _, _, _, _, _, _, _, _, _, _, _, _, _, _, up ⟨s5, ⟨hh2.rise, hh2.ok, hh2.fl, hh2.fa, hh2.fx, hh2.ft, fun m hm => hh2.fb m (by
     obtain ⟨q, h1, h2⟩ := List.mem_map.1 hm
     exact List.mem_map.2 ⟨q, List.mem_of_mem_eraseIdx h1, h2⟩), hh2.fk⟩, hct, by rw [List.length_eraseIdx_of_lt hk]; omega, hco, hcu, hS.la, hS.hh⟩, rfl⟩
   ·exact hm _ _ ⟨O, l, a', xi, cur, u, p, vo, vt, vb, tp, bp, h, _, _, _, _, _, _, _, _, _, _, _, _, _, _, _, _, _, _, _, _, _, _, _, _, _, _, _, _, _, _, _, _, _, _, _, _, _, _, _, up ⟨hs3, hh2, hct, hcb, hco, hcu, hS.la, hS.hh⟩, rfl⟩
  have h7 : st.k % 8 = 7 := by omega
  by_cases ht0 : tp.length = 0
  ·simp (disch := first | assumption | omega) only [W_block, P3, seval, initFr, clsA, isT, lenT]
   exact hm _ _ ⟨O, l, a, xi, cur, u, p, vo, vt, vb, tp, bp, h, _, _, _, _, _, _, _, _, _, _, _, _, _, _, _, _, _, _, _, _, _, _, _, _, _, _, _, _, _, _, _, _, _, _, _, _, _, _, _, up hS, rfl⟩
  ·have hk : st.n % tp.length < tp.length := Nat.mod_lt _ (by omega)
   simp (disch := first | assumption | omega) only [W_block, P3, seval, initFr, clsA, isT, lenT, b_remn (n := st.n) (m := tp.length) (by omega)]
   refine callK (hT0.drop hk (by omega)) ?_
   rintro vt' K5 ⟨k5, ms5, fr5⟩
   have s5 := hS.sep.upd (l := [_, _, _, _]) (t := thM vt tp) (t' := thM vt' (tp.eraseIdx (st.n % tp.length))) (k5.chg _) ms5 (by
    intro b hb
    rcases List.mem_append.1 hb with hb | hb
    ·exact .inr (fr5 b (mem_blkL.1 hb))
    ·obtain ⟨q, h1, h2⟩ := List.mem_flatMap.1 hb
     exact .inl (List.mem_append_right _ (List.mem_flatMap.2 ⟨q, List.mem_of_mem_eraseIdx h1, h2⟩)))
   simp (disch := first | assumption | omega) only [W_block, P3, seval, initFr, clsA]
   exact hm _ _ ⟨O, l, a, xi, cur, u, p, vo, vt', vb, _, bp, h, _, _, _, _, _, _, _, _, _, _, _, _, _, _, _, _, _, _, _, _, _, _, _, _, _, _, _, _, _, _, _, _, _, _, _, _, _, _, _, up ⟨s5, ⟨hS.sc.rise, hS.sc.ok, hS.sc.fl, hS.sc.fa, hS.sc.fx, fun m hm => hS.sc.ft m (by
     obtain ⟨q, h1, h2⟩ := List.mem_map.1 hm
     exact List.mem_map.2 ⟨q, List.mem_of_mem_eraseIdx h1, h2⟩), hS.sc.fb, hS.sc.fk⟩, by rw [List.length_eraseIdx_of_lt hk]; omega, hcb, hco, hcu, hS.la, hS.hh⟩, rfl⟩
 ·rintro fr K ⟨O, l, a, xi, cur, u, p, vo, vt, vb, tp, bp, h, y10, y11, y12, y13, y14, y15, y16, y17, y18, y19, y20, y21, y22, y23, y24, y25, y26, y27, y28, y29, y30, y31, y32, y33, y34, y35, y36, y37, y38, y39, y40, y41, y42, y43, y44, y45, y46, y47, y48, hS, rfl⟩
  have hR0 : RvV K (s + 1) p (xO O xi) := hS.sep.get 1 rfl
  have hx64 : ∀ y, xO O xi = some y → y.s.t.length = 64 := by
   intro y hy
   unfold xO at hy
   cases hx : xi with
   | none => rw [hx] at hy; cases hy
   | some j => rw [hx] at hy; simp at hy; rw [← hy]; exact (hS.sc.g (hS.sc.fx j hx)).1.ht
  simp (disch := first | assumption | omega) only [W_block, P3, seval, initFr, clsA]
  refine callK (t20 hR0.s hx64) ?_
  rintro _ K3 ⟨rfl, k3⟩
  cases xi with
  | none =>
   have hy : (xO O none).getD L0 = L0 := rfl
   have lY := LC_len (x := L0) rfl
   have oY := LC_one L0
   have kA := k3.alloc (.cells true false 70 (LC L0) 54)
   have sA := hS.sep.keeps kA
   simp (disch := first | assumption | omega) only [W_block, P3, seval, initFr, clsA, hy, z70, oY, show (xO O none).isSome = false from rfl, wrap_succ (n := i) (by omega)]
   exact hn _ _ _ ⟨i + 1, O, l, a, none, cur, u, p, vo, vt, vb, tp, bp, h, _, _, _, _, _, _, _, _, _, _, _, _, _, _, _, _, _, _, _, _, _, _, _, _, _, _, _, _, _, _, _, _, _, _, _, _, _, _, _, rfl, by omega, ⟨sA, hS.sc, hS.ct, hS.cb, hS.co, hS.cu, hS.la, hS.hh⟩, rfl⟩ (by omega)
  | some j =>
   have hj := hS.sc.fx j rfl
   have hgj := hS.sc.g hj
   have hy : (xO O (some j)).getD L0 = gO O j := rfl
   have lY := LC_len hgj.1.ht
   have oY := LC_one (gO O j)
   have kA := k3.alloc (.cells true false 70 (LC (gO O j)) 54)
   have sA := hS.sep.keeps kA
   have hmx : max (0 : Int) h = ((h.toNat : Nat) : Int) := by omega
   have hhj := hS.hh.2.1 j rfl
   have hco := hS.co
   have h0 := hS.hh.1
   simp (disch := first | assumption | omega) only [ P3, seval, initFr, clsA, hy, z70, oY, show (xO O (some j)).isSome = true from rfl, hmx]
   obtain ⟨K4, hK4⟩ : ∃ X, X = K3.alloc (.cells true false 70 (LC (gO O j)) 54) := ⟨_, rfl⟩
   have hv4 := AHeap.get_alloc_new K3 (.cells true false 70 (LC (gO O j)) 54)
   rw [← hK4] at sA hv4 ⊢
   have hk64 : Ok64 O := fun y hy => (hS.sc.ok y hy).1.ht
   have hOs : Sl K4 70 vo (O.map LC) := AP.slL (sA.get 3 rfl) hk64
   have isO := hOs.is
   have lenO : lenS vo = O.length := by rw [hOs.len, List.length_map]
   refine W_mid (fun fr X => X = K4 ∧ ∃ (z10 z11 z12 z13 z14 z15 z16 z18 z19 z20 z21 z22 z23 z24 z25 z26 z27 z28 z29 z30 z31 z32 z33 z34 z35 z36 z37 z38 z39 z40 z41 z42 z43 z44 z45 z46 z47 z48 : Value), fr = [v0, .bool false, ptr s 0, ptr (s + 1) 0, vo, vt, vb, ptr (s + 2) 0, .int .i64 h, .int .i64 i, z10, z11, z12, z13, z14, z15, z16, .int .i64 j, z18, z19, z20, z21, z22, z23, z24, z25, z26, z27, z28, z29, z30, z31, z32, z33, z34, z35, z36, z37, z38, z39, z40, z41, z42, z43, z44, z45, z46, z47, z48]) ?_ ?_
   ·intro Q3 hm3 he3 hr3
    rw [W_block]
    refine W_loop2 (fun q fr X => X = K4 ∧ ∃ (k : Nat) (z10 z11 z12 z13 z14 z16 z18 z19 z20 z21 z22 z23 z24 z25 z26 z27 z28 z29 z30 z31 z32 z33 z34 z35 z36 z37 z38 z39 z40 z41 z42 z43 z44 z45 z46 z47 z48 : Value), q = j - k ∧ k ≤ j ∧ fr = [v0, .bool false, ptr s 0, ptr (s + 1) 0, vo, vt, vb, ptr (s + 2) 0, .int .i64 h, .int .i64 i, z10, z11, z12, z13, z14, ptr K3.n 0, z16, .int .i64 k, z18, z19, z20, z21, z22, z23, z24, z25, z26, z27, z28, z29, z30, z31, z32, z33, z34, z35, z36, z37, z38, z39, z40, z41, z42, z43, z44, z45, z46, z47, z48]) (j - h.toNat) ⟨rfl, h.toNat, _, _, _, _, _, _, _, _, _, _, _, _, _, _, _, _, _, _, _, _, _, _, _, _, _, _, _, _, _, _, _, _, _, _, _, _, _, rfl, by omega, rfl⟩ ?_
    rintro Q4 q fr X ⟨rfl, k, z10, z11, z12, z13, z14, z16, z18, z19, z20, z21, z22, z23, z24, z25, z26, z27, z28, z29, z30, z31, z32, z33, z34, z35, z36, z37, z38, z39, z40, z41, z42, z43, z44, z45, z46, z47, z48, rfl, hkj, rfl⟩ hn4 he4 hr4
    obtain ⟨nnO, rowO⟩ := hOs.at_ (by omega) (i := k) (by simp; omega)
    rw [List.getElem_map, gO_at (by omega)] at rowO
    by_cases hkj2 : k = j
    ·subst hkj2
     simp (disch := first | assumption | omega) only [W_block, P3, seval, initFr, clsA, isO, lenO, a_eqse, hv4, eqL_yes hgj.1.ht]
     refine he4 3 _ _ ?_
     simp (disch := first | assumption | omega) only [W_block, P3, seval, initFr, clsA]
     exact hm3 _ _ ⟨rfl, _, _, _, _, _, _, _, _, _, _, _, _, _, _, _, _, _, _, _, _, _, _, _, _, _, _, _, _, _, _, _, _, _, _, _, _, _, _, rfl⟩
    ·have hne : ¬ ((gO O k).e = (gO O j).e ∧ (gO O k).c = (gO O j).c) := fun hh => hkj2 (hS.sc.key (by omega) hj hh.1 hh.2)
     simp (disch := first | assumption | omega) only [W_block, P3, seval, initFr, clsA, isO, lenO, a_eqse, hv4, eqL_no (hS.sc.g (i := k) (by omega)).1.ht hgj.1.ht hne, wrap_succ (n := k) (by omega)]
     exact hn4 _ _ _ ⟨rfl, k + 1, _, _, _, _, _, _, _, _, _, _, _, _, _, _, _, _, _, _, _, _, _, _, _, _, _, _, _, _, _, _, _, _, _, _, _, _, _, rfl, by omega, rfl⟩ (by omega)
   ·rintro fr X ⟨rfl, z10, z11, z12, z13, z14, z15, z16, z18, z19, z20, z21, z22, z23, z24, z25, z26, z27, z28, z29, z30, z31, z32, z33, z34, z35, z36, z37, z38, z39, z40, z41, z42, z43, z44, z45, z46, z47, z48, rfl⟩
    simp (disch := first | assumption | omega) only [W_block, P3, seval, initFr, clsA, isO, lenO, wrap_succ (n := i) (by omega)]
    exact hn _ _ _ ⟨i + 1, O, l, a, some j, cur, u, p, vo, vt, vb, tp, bp, j, _, _, _, _, _, _, _, _, _, _, _, _, _, _, _, _, _, _, _, _, _, _, _, _, _, _, _, _, _, _, _, _, _, _, _, _, _, _, _, rfl, by omega, ⟨sA, hS.sc, hS.ct, hS.cb, hS.co, hS.cu, hS.la, by omega, fun j' hj' => by cases hj'; omega, by simp⟩, rfl⟩ (by omega)
end Go.AM.Rp

namespace Go.AM.R7
open Go.Proofs Go.AM.F Go.AM.Fd Go.AM.Rg
def places (esz : Nat) : Nat → List (List Value) → List (Nat × Nat × Value)
 | _, [] => []
 | off, r :: rs => (off, esz, .agg r.toArray) :: places esz (off + esz) rs
theorem fillRows (esz : Nat) : ∀ (rows : List (List Value)) (pre z : List Value), z.length = rows.length * esz → (∀ r ∈ rows, r.length = esz) → fillA (pre ++ z) (places esz pre.length rows) = some (pre ++ rows.flatten)
 | [], pre, z, hz, _ => by
  have : z = [] := List.eq_nil_of_length_eq_zero (by simpa using hz)
  subst this; rfl
 | r :: rs, pre, z, hz, hr => by
  have h1 := hr r (by simp)
  have hm : (r :: rs).length * esz = esz + rs.length * esz := by rw [List.length_cons, Nat.succ_mul]; omega
  rw [hm] at hz
  rw [places, fill_cons, cells_agg, if_pos ⟨h1, by rw [List.length_append]; omega⟩]
  rw [List.take_left, List.drop_append, List.drop_of_length_le (by omega), List.nil_append, Nat.add_sub_cancel_left]
  have ih := fillRows esz rs (pre ++ r) (z.drop esz) (by rw [List.length_drop]; omega) (fun x hx => hr x (by simp [hx]))
  rw [List.length_append, h1] at ih
  rw [ih, List.flatten_cons, List.append_assoc]
theorem fill70 (e c : Int) {x : St} (h : x.t.length = 64) : fillA Z70 [(0, 1, .int .i64 e), (1, 1, .int .i64 c), (2, 68, .agg (cSt x).toArray)] = some (Rp.LC ⟨e, c, toS x⟩) := by
 have := Rp.fl70s e c (toS_len h)
 rw [toS_c] at this
 exact this
theorem fill70b (e c : Int) : fillA Z70 [(0, 1, .int .i64 e), (1, 1, .int .i64 c)] = some (Rp.LC ⟨e, c, Rp.S0⟩) := rfl
theorem fill70c (e : Int) : fillA Z70 [(0, 1, .int .i64 e)] = some (Rp.LC ⟨e, 0, Rp.S0⟩) := rfl
set_option maxRecDepth 100000 in
theorem Z149_eq : Z149 = .int .u8 0 :: (Rp.LC Rp.L0 ++ Rp.GC Rp.G0 (.slice none 0 0)) := rfl
theorem fillX (k : Nat) {k' : Int} (hk : k' = k) {x : Rp.Lg} (h : x.s.t.length = 64) : fillA Z149 [(0, 1, .int .u8 k'), (1, 70, .agg (Rp.LC x).toArray)] = some (Rp.CC ⟨k, x, Rp.G0, .slice none 0 0⟩) := by
 subst hk
 have l0 : (Rp.LC Rp.L0).length = 70 := rfl
 rw [Z149_eq, fill_cons, cells_int, if_pos ⟨rfl, by simp⟩, fill_cons, cells_agg, if_pos ⟨Rp.LC_len h, by simp [l0]⟩, fill0]
 simp only [List.take_zero, List.nil_append, List.singleton_append, List.drop_succ_cons, List.drop_zero, List.take_succ_cons, List.cons_append, Nat.zero_add, Nat.reduceAdd]
 rw [List.drop_append_of_le_length (by omega), List.drop_of_length_le (by omega)]
 rfl
set_option maxRecDepth 100000 in
theorem fillK (k : Nat) {k' : Int} (hk : k' = k) : fillA Z149 [(0, 1, .int .u8 k')] = some (Rp.CC ⟨k, Rp.L0, Rp.G0, .slice none 0 0⟩) := by subst hk; rfl
theorem fillG (k : Nat) {k' : Int} (hk : k' = k) {m : Rp.Msg} (h : m.s.t.length = 64) (v : Value) : fillA Z149 [(0, 1, .int .u8 k'), (71, 78, .agg (Rp.GC m v).toArray)] = some (Rp.CC ⟨k, Rp.L0, m, v⟩) := by
 subst hk
 have l0 : (Rp.LC Rp.L0).length = 70 := rfl
 have l1 : (Rp.GC Rp.G0 (.slice none 0 0)).length = 78 := rfl
 rw [Z149_eq, fill_cons, cells_int, if_pos ⟨rfl, by simp⟩, fill_cons, cells_agg, if_pos ⟨Rp.GC_len h v, by simp [l0, l1]⟩, fill0]
 simp only [List.take_zero, List.nil_append, List.singleton_append, List.drop_succ_cons, List.drop_zero, List.take_succ_cons, List.cons_append, Nat.zero_add, Nat.reduceAdd]
 rw [List.take_append_of_le_length (by omega), List.take_of_length_le (by omega), List.drop_of_length_le (by rw [List.length_append]; omega), List.append_nil]
 rfl
def gm (k : Nat) (e c : Int) : Rp.Msg := ⟨k, e, c, 0, 0, Rp.S0, ⟨0, 0, 0, 0, []⟩⟩
structure CL (X K : AHeap) (v : Value) (cs : List Rp.CA) : Prop where
 ap : AP K 79 149 v cs.length (cs.map Rp.CC).flatten
 ok : ∀ c ∈ cs, Rp.TB X c.v c.m.d.l ∧ Rp.CAok c
 k : Keeps X K
 f : Fresh X.n v
theorem nilTB (K : AHeap) : Rp.TB K (.slice none 0 0) [] := ⟨none, 0, rfl, fun h => absurd rfl h⟩
theorem okX {X : AHeap} {k : Nat} {x : Rp.Lg} (h : x.s.t.length = 64) : Rp.TB X (.slice none 0 0) Rp.G0.d.l ∧ Rp.CAok ⟨k, x, Rp.G0, .slice none 0 0⟩ := ⟨nilTB X, h, rfl⟩
theorem okG {X : AHeap} {k : Nat} {a : Nat} {e c : Int} : Rp.TB X (.slice none 0 0) (gm a e c).d.l ∧ Rp.CAok ⟨k, Rp.L0, gm a e c, .slice none 0 0⟩ := ⟨nilTB X, rfl, rfl⟩
structure CF (K : AHeap) (v : Value) (cs : List Rp.CA) : Prop where
 ap : AP K 79 149 v cs.length (cs.map Rp.CC).flatten
 ok : ∀ c ∈ cs, Rp.TB K c.v c.m.d.l ∧ Rp.CAok c
theorem CF.rows {K : AHeap} {v : Value} {cs : List Rp.CA} (h : CF K v cs) : ∀ r ∈ cs.map Rp.CC, r.length = 149 := by
 intro r hr
 simp only [List.mem_map] at hr
 obtain ⟨c, hc, rfl⟩ := hr
 exact Rp.CC_len (h.ok c hc).2
theorem CF.th {K : AHeap} {v : Value} {cs : List Rp.CA} (h : CF K v cs) : (Rp.thC v cs).P K := ⟨h.ap.sl h.rows (by simp), h.ok⟩
section
variable {KF : List Value → AHeap → Prop} {fr tm : List Value} {P : Program} {ng : Nat}
theorem CL.app {d : D} {r : List AOper} {X K : AHeap} {v : Value} {cs ds : List Rp.CA} {s n : Nat} (h : CL X K v cs) (hds : ∀ c ∈ ds, Rp.TB X c.v c.m.d.l ∧ Rp.CAok c) (hn : n = ds.length) (g : K.get s = some (.cells true false 149 (ds.map Rp.CC).flatten 79)) (hs : cs.length + ds.length ≤ 1000)
  (hk : ∀ v' K', CL X K' v' (cs ++ ds) → RW P ng r (d.frame v' fr) (d.temps v' tm) K' KF) : goR P ng (asem (.app 79 149 312 v (slc s 0 n n)) K) d r fr tm KF := by
 subst hn
 have hr : ∀ r ∈ ds.map Rp.CC, r.length = 149 := by
  intro r hr
  simp only [List.mem_map] at hr
  obtain ⟨c, hc, rfl⟩ := hr
  exact Rp.CC_len (hds c hc).2
 have hfl : (ds.map Rp.CC).flatten.length = ds.length * 149 := by rw [flat_len hr, List.length_map]
 refine appG h.ap ⟨_, _, rfl⟩ (elems_own g hfl) hfl (by omega) ?_
 intro v' K' a c hb
 refine hk v' K' ⟨by rw [List.length_append, List.map_append, List.flatten_append]; exact a, fun x hx => ?_, h.k.chg_trans c (fun x hx => h.f x (mem_blkL.1 hx)), fun b hb' => ?_⟩
 ·rcases List.mem_append.1 hx with hx | hx
  ·exact h.ok x hx
  ·exact hds x hx
 ·rcases hb with e | e
  ·exact h.f b (by rw [← e]; exact hb')
  ·rw [e] at hb'; cases hb'; exact h.k.n
end
theorem CF.from_ {K : AHeap} {v : Value} {cs : List Rp.CA} (h : CF K v cs) (hn : cs.length = 50) : ∃ w, asem (.slsl 149 v (some (.int .i64 30)) none none) K = some (w, K) ∧ (Rp.thC w (cs.drop 30)).P K := by
 have hr := h.rows
 rcases h.ap with ⟨_, e, _⟩ | ⟨b, room, rfl, h1, h2⟩
 ·omega
 ·rw [hn] at h1
  refine ⟨slc b (30 * 149) 20 20, ?_, ⟨⟨_, _, by rw [List.length_map, List.length_drop, hn]; rfl⟩, ?_, ?_⟩, fun c hc => h.ok c (List.mem_of_mem_drop hc)⟩
  ·rw [hn]
   rw [a_slsl (m := 50) (hh := 50) (l := 30) h2 rfl rfl rfl]
  ·intro r hr'
   rw [List.map_drop] at hr'
   exact hr r (List.mem_of_mem_drop hr')
  ·simp only [elemsA, slc, h2]
   rw [if_pos (by omega)]
   have e1 : (cs.map Rp.CC).flatten = ((cs.map Rp.CC).take 30).flatten ++ ((cs.map Rp.CC).drop 30).flatten := by rw [← List.flatten_append, List.take_append_drop]
   have e2 : ((cs.map Rp.CC).take 30).flatten.length = 30 * 149 := by
    rw [flat_len (fun r hr' => hr r (List.mem_of_mem_take hr')), List.length_take, List.length_map, hn]; rfl
   have e3 : ((cs.map Rp.CC).drop 30).flatten.length = 20 * 149 := by
    rw [flat_len (fun r hr' => hr r (List.mem_of_mem_drop hr')), List.length_drop, List.length_map, hn]
   rw [e1, List.drop_append, List.drop_of_length_le (by omega), e2, List.nil_append, Nat.sub_self, List.drop_zero, List.take_of_length_le (by omega), List.map_drop]
theorem q5 {H : AHeap} {v : Value} {cs : List Rp.CA} (h : (Rp.thC v cs).P H) : ARun Try.prog 0 5 [v] H (.bool true) H := by
 obtain ⟨w, H', r, rfl⟩ := Rp.t5 (H := H.unown) (v0 := v) (cs := cs) ⟨Sl.unown h.1, fun c hc => ⟨TB.unown (h.2 c hc).1, (h.2 c hc).2⟩⟩
 exact r.pure rfl
theorem q4 {H : AHeap} {v : Value} {L : List Rp.Stp} (h : (Rp.thA v L).P H) (hL : Rp.LOk L) : ARun Try.prog 0 4 [v] H (.bool true) H := by
 obtain ⟨w, H', r, rfl⟩ := Rp.t4 (H := H.unown) (v0 := v) (L := L) ⟨Sl.unown h.1, h.2⟩ hL
 exact r.pure rfl
end Go.AM.R7

namespace Go.AM.R7
open Nat (reduceAdd reduceEqDiff reduceLT reduceLeDiff reduceMul reduceSub)
open Go.Proofs Go.AM.F Go.AM.Fd Go.AM.Rg
theorem Z298_len : Z298.length = 298 := by kernel_rfl
theorem Z149_len : Z149.length = 149 := by kernel_rfl
theorem Z2533_len : Z2533.length = 2533 := by kernel_rfl
theorem Z700_len : Z700.length = 700 := by kernel_rfl
def frT (F O : Nat) (e11 e12 : Value) (l : List Value) : List Value := [.bool false, .pointer none, .pointer none, .bool false, .bool false, .bool false, .int .i64 1, .bool false, .bool true, ptr F 0, ptr O 0, e11, e12] ++ l
theorem rem2 (a : Int) : binA .rem (.int .i64 a) (.int .i64 2) = some (.int .i64 (a.tmod 2)) := by simp [binA, intA]
theorem rowsOf (ds : List Rp.CA) (z : List Value) (hz : z.length = ds.length * 149) (h : ∀ c ∈ ds, Rp.CAok c) : fillA z (places 149 0 (ds.map Rp.CC)) = some (ds.map Rp.CC).flatten := by
 have := fillRows 149 (ds.map Rp.CC) [] z (by rw [List.length_map]; exact hz) (fun r hr => by
  simp only [List.mem_map] at hr
  obtain ⟨c, hc, rfl⟩ := hr
  exact Rp.CC_len (h c hc))
 rw [List.nil_append, List.nil_append] at this
 exact this
theorem flat_ok {X : AHeap} {ds : List Rp.CA} (h : ∀ c ∈ ds, Rp.TB X c.v c.m.d.l ∧ Rp.CAok c) : ((ds.map Rp.CC).flatten).all Value.oneCell' = true ∧ ((ds.map Rp.CC).flatten).length = ds.length * 149 := by
 constructor
 ·rw [List.all_flatten, List.all_eq_true]
  intro r hr
  simp only [List.mem_map] at hr
  obtain ⟨c, hc, rfl⟩ := hr
  exact Rp.CC_one (h c hc).1.one
 ·rw [flat_len (esz := 149), List.length_map]
  intro r hr
  simp only [List.mem_map] at hr
  obtain ⟨c, hc, rfl⟩ := hr
  exact Rp.CC_len (h c hc).2
theorem CL.keeps {X K K' : AHeap} {v : Value} {cs : List Rp.CA} (h : CL X K v cs) (k : Keeps K K') : CL X K' v cs := ⟨h.ap.keeps k, h.ok, h.k.trans k, h.f⟩
theorem c12 {X : AHeap} {F O : Nat} {e11 e12 e13 e14 e15 e16 e17 e18 e19 e20 e21 e22 e23 e24 e25 e26 e27 e28 : Value} (gF : X.get F = some (.cells true false 68 (cSt full) 26)) (gO : X.get O = some (.cells true false 68 (cSt odd) 26)) (Q' : AQ)
  (h0 : ∀ (K : AHeap) (v e19 e27 : Value) (cs : List Rp.CA), CL X K v cs → cs.length = 24 → Q' .normal (frT F O e11 e12 [e13, e14, e15, e16, e17, v, e19, e20, e21, e22, e23, e24, e25, e26, e27, e28]) K) : W Try.prog 0 (cpre 2 (cpost 13 f7.body)) Q' (frT F O e11 e12 [e13, e14, e15, e16, e17, e18, e19, e20, e21, e22, e23, e24, e25, e26, e27, e28]) X := by
 simp (disch := first | assumption | omega) only [f7, cpre, cpost, frT, List.cons_append, List.nil_append, W_block, P3, seval, initFr, clsA]
 refine W_loop2 (fun q fr K => ∃ (i : Nat) (v e27 : Value) (cs : List Rp.CA), i ≤ 12 ∧ q = 12 - i ∧ CL X K v cs ∧ cs.length = 2 * i ∧ fr = frT F O e11 e12 [e13, e14, e15, e16, e17, v, .int .i64 i, e20, e21, e22, e23, e24, e25, e26, e27, e28]) 12 ⟨0, _, _, [], by omega, rfl, ⟨.inl ⟨rfl, rfl, rfl⟩, by simp, Keeps.refl _, fun b hb => by cases hb⟩, rfl, rfl⟩ ?_
 rintro Q2 q fr K ⟨i, v, f27, cs, hi, rfl, hcl, hn, rfl⟩ hnx hex hrt
 have gF' := hcl.k.at_ gF
 have lf : (cSt full).length = 68 := rfl
 by_cases hc : i < 12
 ·simp (disch := first | assumption | omega) only [frT, List.cons_append, List.nil_append, W_block, P3, seval, initFr, clsA, gF', lf]
  have tl := toS_len rgFull.ht
  have f1 := fill70 1 (i : Int) rgFull.ht
  have f2 := fillX 0 (k' := 0) rfl (x := ⟨1, i, toS full⟩) tl
  have hc1 : Rp.TB X (.slice none 0 0) Rp.G0.d.l ∧ Rp.CAok ⟨0, ⟨1, i, toS full⟩, Rp.G0, .slice none 0 0⟩ := okX tl
  obtain ⟨n, hn2⟩ : ∃ n : Nat, IntKind.u8.wrap (IntKind.i64.wrap (2 + IntKind.i64.wrap ((i : Int).tmod 2 * 5))) = n := by
   obtain ⟨x, hx⟩ := u8_some (IntKind.i64.wrap (2 + IntKind.i64.wrap ((i : Int).tmod 2 * 5)))
   exact ⟨x.toNat, hx⟩
  have f3 := fillK n rfl
  have hc2 : Rp.TB X (.slice none 0 0) Rp.G0.d.l ∧ Rp.CAok ⟨n, Rp.L0, Rp.G0, .slice none 0 0⟩ := okX rfl
  have hds : ∀ c ∈ ([⟨0, ⟨1, i, toS full⟩, Rp.G0, .slice none 0 0⟩, ⟨n, Rp.L0, Rp.G0, .slice none 0 0⟩] : List Rp.CA), Rp.TB X c.v c.m.d.l ∧ Rp.CAok c := by
   intro c hc
   simp only [List.mem_cons, List.not_mem_nil, or_false] at hc
   rcases hc with rfl | rfl
   ·exact hc1
   ·exact hc2
  obtain ⟨fo, fl⟩ := flat_ok hds
  rw [List.length_cons, List.length_cons, List.length_nil] at fl
  have f4 := rowsOf [⟨0, ⟨1, i, toS full⟩, Rp.G0, .slice none 0 0⟩, ⟨n, Rp.L0, Rp.G0, .slice none 0 0⟩] Z298 (by rw [Z298_len, List.length_cons, List.length_cons, List.length_nil]) (fun c hc => (hds c hc).2)
  simp only [places, List.map_cons, List.map_nil, Nat.zero_add] at f4 fo fl
  obtain ⟨R, hR⟩ : ∃ R, R = ([Rp.CC ⟨0, ⟨1, i, toS full⟩, Rp.G0, .slice none 0 0⟩, Rp.CC ⟨n, Rp.L0, Rp.G0, .slice none 0 0⟩] : List (List Value)).flatten := ⟨_, rfl⟩
  rw [← hR] at f4 fo fl
  simp (disch := first | assumption | omega) only [W_block, P3, seval, initFr, clsA, f1, f2, rem2, hn2, f3, f4, fo, fl]
  refine CL.app (hcl.keeps ((Keeps.refl K).alloc _)) hds rfl (by rw [hR]; exact AHeap.get_alloc_new _ _) (by rw [hn, List.length_cons, List.length_cons, List.length_nil]; omega) ?_
  intro v' K' hcl'
  simp (disch := first | assumption | omega) only [W_block, P3, seval, initFr, clsA, wrap_succ (n := i) (by omega)]
  exact hnx _ _ _ ⟨i + 1, v', _, _, by omega, rfl, hcl', by rw [List.length_append, hn, List.length_cons, List.length_cons, List.length_nil]; omega, rfl⟩ (by omega)
 ·simp (disch := first | assumption | omega) only [frT, List.cons_append, List.nil_append, W_block, P3, seval, initFr, clsA]
  refine hex _ _ _ ?_
  exact h0 K v _ _ cs hcl (by omega)
theorem c9 {X K : AHeap} {F O : Nat} {e11 e12 e13 e14 e15 e16 e17 e18 e19 e20 e21 e22 e23 e24 e25 e26 e27 e28 : Value} {cs : List Rp.CA} (gO : X.get O = some (.cells true false 68 (cSt odd) 26)) (hcl : CL X K e18 cs) (hn : cs.length = 24) (Q' : AQ)
  (h0 : ∀ (K : AHeap) (v e20 e28 : Value) (cs : List Rp.CA), CL X K v cs → cs.length = 33 → Q' .normal (frT F O e11 e12 [e13, e14, e15, e16, e17, v, e19, e20, e21, e22, e23, e24, e25, e26, e27, e28]) K) : W Try.prog 0 (cpre 1 (cpost 15 f7.body)) Q' (frT F O e11 e12 [e13, e14, e15, e16, e17, e18, e19, e20, e21, e22, e23, e24, e25, e26, e27, e28]) K := by
 simp (disch := first | assumption | omega) only [f7, cpre, cpost, frT, List.cons_append, List.nil_append, W_block, P3, seval, initFr, clsA]
 refine W_loop2 (fun q fr K => ∃ (i : Nat) (v e28 : Value) (cs : List Rp.CA), i ≤ 9 ∧ q = 9 - i ∧ CL X K v cs ∧ cs.length = 24 + i ∧ fr = frT F O e11 e12 [e13, e14, e15, e16, e17, v, e19, .int .i64 i, e21, e22, e23, e24, e25, e26, e27, e28]) 9 ⟨0, _, _, cs, by omega, rfl, hcl, hn, rfl⟩ ?_
 clear hcl hn cs
 rintro Q2 q fr K ⟨i, v, f28, cs, hi, rfl, hcl, hn, rfl⟩ hnx hex hrt
 have gO' := hcl.k.at_ gO
 have lo : (cSt odd).length = 68 := rfl
 by_cases hc : i < 9
 ·have tl := toS_len rgOdd.ht
  have f1 := fill70 2 (i : Int) rgOdd.ht
  have f2 := fillX 0 (k' := 0) rfl (x := ⟨2, i, toS odd⟩) tl
  have hc1 : Rp.TB X (.slice none 0 0) Rp.G0.d.l ∧ Rp.CAok ⟨0, ⟨2, i, toS odd⟩, Rp.G0, .slice none 0 0⟩ := okX tl
  have hds : ∀ c ∈ ([⟨0, ⟨2, i, toS odd⟩, Rp.G0, .slice none 0 0⟩] : List Rp.CA), Rp.TB X c.v c.m.d.l ∧ Rp.CAok c := by
   intro c hc
   simp only [List.mem_cons, List.not_mem_nil, or_false] at hc
   rcases hc with rfl
   exact hc1
  obtain ⟨fo, fl⟩ := flat_ok hds
  rw [List.length_cons, List.length_nil] at fl
  have f4 := rowsOf [⟨0, ⟨2, i, toS odd⟩, Rp.G0, .slice none 0 0⟩] Z149 (by rw [Z149_len, List.length_cons, List.length_nil]) (fun c hc => (hds c hc).2)
  simp only [places, List.map_cons, List.map_nil, Nat.zero_add] at f4 fo fl
  obtain ⟨R, hR⟩ : ∃ R, R = ([Rp.CC ⟨0, ⟨2, i, toS odd⟩, Rp.G0, .slice none 0 0⟩] : List (List Value)).flatten := ⟨_, rfl⟩
  rw [← hR] at f4 fo fl
  simp (disch := first | assumption | omega) only [frT, List.cons_append, List.nil_append, W_block, P3, seval, initFr, clsA, gO', lo, f1, f2, f4, fo, fl]
  refine CL.app (hcl.keeps ((Keeps.refl K).alloc _)) hds rfl (by rw [hR]; exact AHeap.get_alloc_new _ _) (by rw [hn, List.length_cons, List.length_nil]; omega) ?_
  intro v' K' hcl'
  simp (disch := first | assumption | omega) only [W_block, P3, seval, initFr, clsA, wrap_succ (n := i) (by omega)]
  exact hnx _ _ _ ⟨i + 1, v', _, _, by omega, rfl, hcl', by rw [List.length_append, hn, List.length_cons, List.length_nil]; omega, rfl⟩ (by omega)
 ·simp (disch := first | assumption | omega) only [frT, List.cons_append, List.nil_append, W_block, P3, seval, initFr, clsA]
  refine hex _ _ _ ?_
  exact h0 K v _ _ cs hcl (by omega)
end Go.AM.R7

namespace Go.AM.R7
open Nat (reduceAdd reduceEqDiff reduceLT reduceLeDiff reduceMul reduceSub)
open Go.Proofs Go.AM.F Go.AM.Fd Go.AM.Rg
def m15 : Rp.Msg := ⟨2, 9, 10, 9, 9, Rp.S0, ⟨0, 0, 0, 0, LD⟩⟩
def m16 : Rp.Msg := ⟨2, 9, 12, 9, 9, Rp.S0, ⟨0, 0, 0, 0, []⟩⟩
def cds (w : Value) : List Rp.CA := [⟨2, Rp.L0, Rp.G0, .slice none 0 0⟩, ⟨3, Rp.L0, gm 3 2 4, .slice none 0 0⟩, ⟨2, Rp.L0, Rp.G0, .slice none 0 0⟩, ⟨3, Rp.L0, gm 3 2 3, .slice none 0 0⟩, ⟨3, Rp.L0, gm 3 2 9, .slice none 0 0⟩, ⟨7, Rp.L0, Rp.G0, .slice none 0 0⟩, ⟨3, Rp.L0, gm 4 0 0, .slice none 0 0⟩, ⟨7, Rp.L0, Rp.G0, .slice none 0 0⟩,
 ⟨0, ⟨1, 99, Rp.S0⟩, Rp.G0, .slice none 0 0⟩, ⟨0, ⟨3, -1, Rp.S0⟩, Rp.G0, .slice none 0 0⟩, ⟨6, ⟨9, 9, Rp.S0⟩, Rp.G0, .slice none 0 0⟩, ⟨7, Rp.L0, Rp.G0, .slice none 0 0⟩, ⟨6, ⟨-9, 0, Rp.S0⟩, Rp.G0, .slice none 0 0⟩, ⟨4, Rp.L0, gm 3 0 0, .slice none 0 0⟩, ⟨3, Rp.L0, gm 1 0 0, .slice none 0 0⟩, ⟨5, Rp.L0, m15, w⟩, ⟨5, Rp.L0, m16, .slice none 0 0⟩]
theorem cds_ok {X : AHeap} {w : Value} (h : Rp.TB X w LD) : ∀ c ∈ cds w, Rp.TB X c.v c.m.d.l ∧ Rp.CAok c := by
 intro c hc
 simp only [cds, List.mem_cons, List.not_mem_nil, or_false] at hc
 rcases hc with rfl | rfl | rfl | rfl | rfl | rfl | rfl | rfl | rfl | rfl | rfl | rfl | rfl | rfl | rfl | rfl | rfl
 ·exact okX rfl
 ·exact okG
 ·exact okX rfl
 ·exact okG
 ·exact okG
 ·exact okX rfl
 ·exact okG
 ·exact okX rfl
 ·exact okX rfl
 ·exact okX rfl
 ·exact okX rfl
 ·exact okX rfl
 ·exact okX rfl
 ·exact okG
 ·exact okG
 ·exact ⟨h, rfl, rfl⟩
 ·exact ⟨nilTB X, rfl, rfl⟩
theorem cds_len (w : Value) : (cds w).length = 17 := rfl
theorem g1 : fillA Z78 [(0, 1, .int .u8 3), (1, 1, .int .i64 2), (2, 1, .int .i64 4)] = some (Rp.GC (gm 3 2 4) (.slice none 0 0)) := rfl
theorem g3 : fillA Z78 [(0, 1, .int .u8 3), (1, 1, .int .i64 2), (2, 1, .int .i64 3)] = some (Rp.GC (gm 3 2 3) (.slice none 0 0)) := rfl
theorem g4 : fillA Z78 [(0, 1, .int .u8 3), (1, 1, .int .i64 2), (2, 1, .int .i64 9)] = some (Rp.GC (gm 3 2 9) (.slice none 0 0)) := rfl
theorem g6 : fillA Z78 [(0, 1, .int .u8 4)] = some (Rp.GC (gm 4 0 0) (.slice none 0 0)) := rfl
theorem g13 : fillA Z78 [(0, 1, .int .u8 3)] = some (Rp.GC (gm 3 0 0) (.slice none 0 0)) := rfl
theorem g14 : fillA Z78 [(0, 1, .int .u8 1)] = some (Rp.GC (gm 1 0 0) (.slice none 0 0)) := rfl
set_option maxRecDepth 100000 in
theorem g15 (w : Value) : fillA Z78 [(0, 1, .int .u8 2), (1, 1, .int .i64 9), (2, 1, .int .i64 10), (3, 1, .int .i64 9), (4, 1, .int .i64 9), (73, 5, .agg (Rp.D5 0 0 0 0 w).toArray)] = some (Rp.GC m15 w) := rfl
theorem g16 : fillA Z78 [(0, 1, .int .u8 2), (1, 1, .int .i64 9), (2, 1, .int .i64 12), (3, 1, .int .i64 9), (4, 1, .int .i64 9)] = some (Rp.GC m16 (.slice none 0 0)) := rfl
set_option maxHeartbeats 2000000 in
theorem c17 {X K : AHeap} {F O : Nat} {e11 e12 e13 e14 e15 e16 e17 e18 e19 e20 e21 e22 e23 e24 e25 e26 e27 e28 : Value} {cs : List Rp.CA} (gF : X.get F = some (.cells true false 68 (cSt full) 26)) (gO : X.get O = some (.cells true false 68 (cSt odd) 26)) (hcl : CL X K e18 cs) (hn : cs.length = 33) (Q' : AQ)
  (h0 : ∀ (K : AHeap) (v : Value) (cs : List Rp.CA), Keeps X K → CF K v cs → cs.length = 50 → Q' .normal (frT F O e11 e12 [e13, e14, e15, e16, e17, v, e19, e20, e21, e22, e23, e24, e25, e26, e27, e28]) K) : W Try.prog 0 (cpre 1 (cpost 16 f7.body)) Q' (frT F O e11 e12 [e13, e14, e15, e16, e17, e18, e19, e20, e21, e22, e23, e24, e25, e26, e27, e28]) K := by
 have gF' := hcl.k.at_ gF
 have gO' := hcl.k.at_ gO
 have lf : (cSt full).length = 68 := rfl
 have lo : (cSt odd).length = 68 := rfl
 have k2 := fillK 2 (k' := 2) rfl
 have k7 := fillK 7 (k' := 7) rfl
 have b1 := fillG 3 (k' := 3) rfl (m := gm 3 2 4) rfl (.slice none 0 0)
 have b3 := fillG 3 (k' := 3) rfl (m := gm 3 2 3) rfl (.slice none 0 0)
 have b4 := fillG 3 (k' := 3) rfl (m := gm 3 2 9) rfl (.slice none 0 0)
 have b6 := fillG 3 (k' := 3) rfl (m := gm 4 0 0) rfl (.slice none 0 0)
 have b8 := fillX 0 (k' := 0) rfl (x := ⟨1, 99, Rp.S0⟩) rfl
 have b9 := fillX 0 (k' := 0) rfl (x := ⟨3, -1, Rp.S0⟩) rfl
 have b10 := fillX 6 (k' := 6) rfl (x := ⟨9, 9, Rp.S0⟩) rfl
 have b12 := fillX 6 (k' := 6) rfl (x := ⟨-9, 0, Rp.S0⟩) rfl
 have b13 := fillG 4 (k' := 4) rfl (m := gm 3 0 0) rfl (.slice none 0 0)
 have b14 := fillG 3 (k' := 3) rfl (m := gm 1 0 0) rfl (.slice none 0 0)
 simp (disch := first | assumption | omega) only [f7, cpre, cpost, frT, List.cons_append, List.nil_append, W_block, P3, seval, initFr, clsA, gF', gO', lf, lo, k2, k7, g1, g3, g4, g6, g13, g14, fill70b, fill70c, b1, b3, b4, b6, b8, b9, b10, b12, b13, b14]
 refine callK (t9' K) ?_
 rintro _ K1 ⟨w, rfl, tb, k1, fw⟩
 have b15 := fillG 5 (k' := 5) rfl (m := m15) rfl w
 have b16 := fillG 5 (k' := 5) rfl (m := m16) rfl (.slice none 0 0)
 have hds := cds_ok tb
 obtain ⟨fo, fl⟩ := flat_ok hds
 have f17 := rowsOf (cds w) Z2533 (by rw [Z2533_len, cds_len]) (fun c hc => (hds c hc).2)
 obtain ⟨R, hR⟩ : ∃ R, R = ((cds w).map Rp.CC).flatten := ⟨_, rfl⟩
 rw [← hR] at f17 fo fl
 rw [cds_len] at fl
 simp only [cds, places, List.map_cons, List.map_nil, Nat.zero_add, Nat.reduceAdd] at f17
 simp (disch := first | assumption | omega) only [W_block, P3, seval, initFr, clsA, g15, g16, b15, b16, f17, fo, fl]
 obtain ⟨K2, hK2⟩ : ∃ Y, Y = K1.alloc (.cells true false 149 R 79) := ⟨_, rfl⟩
 have k2' : Keeps K1 K2 := by rw [hK2]; exact (Keeps.refl K1).alloc _
 have gR : K2.get K1.n = some (.cells true false 149 ((cds w).map Rp.CC).flatten 79) := by rw [hK2, ← hR]; exact AHeap.get_alloc_new _ _
 rw [← hK2]
 have hfl : ((cds w).map Rp.CC).flatten.length = 17 * 149 := by rw [← hR]; exact fl
 have ap2 := (hcl.ap.keeps k1).keeps k2'
 have n1 := k1.n
 refine appG ap2 ⟨_, _, rfl⟩ (elems_own gR hfl) hfl (by omega) ?_
 intro v' K' a c hb
 have hap := hcl.ap
 have vlt : ∀ x ∈ blkL e18, X.n ≤ x ∧ x < K.n := fun x hx => ⟨hcl.f x (mem_blkL.1 hx), hap.lt (mem_blkL.1 hx)⟩
 have kX : Keeps X K' := ((hcl.k.trans k1).trans k2').chg_trans c (fun x hx => (vlt x hx).1)
 have kW : ∀ (u : Value) (l : List (Int × Int)), Rp.TB X u l → Rp.TB K' u l := fun u l h => h.keeps kX
 have tw : Rp.TB K' w LD := (tb.keeps k2').chg c (fun x hx hz => by have := vlt x hz; have := fw x (mem_blkL.1 hx); omega)
 simp (disch := first | assumption | omega) only [W_block, P3, seval, initFr, clsA]
 refine h0 K' v' (cs ++ cds w) kX ⟨by rw [List.length_append, cds_len, List.map_append, List.flatten_append]; exact a, fun x hx => ?_⟩ (by rw [List.length_append, cds_len, hn])
 rcases List.mem_append.1 hx with hx | hx
 ·exact ⟨(hcl.ok x hx).1.keeps kX, (hcl.ok x hx).2⟩
 ·exact cds_ok tw x hx
theorem s1 : fillA Z70b [(0, 1, .int .u8 0), (1, 1, .int .u8 1), (2, 68, .agg (cSt odd).toArray)] = some (Rp.PC ⟨0, 1, toS odd⟩) := rfl
theorem s2 : fillA Z70b [(0, 1, .int .u8 2), (1, 1, .int .u8 0), (2, 68, .agg (cSt odd).toArray)] = some (Rp.PC ⟨2, 0, toS odd⟩) := rfl
theorem s3 : fillA Z70b [(0, 1, .int .u8 4), (1, 1, .int .u8 0), (2, 68, .agg (cSt odd).toArray)] = some (Rp.PC ⟨4, 0, toS odd⟩) := rfl
theorem s5 : fillA Z70b [(0, 1, .int .u8 5), (1, 1, .int .u8 0), (2, 68, .agg (cSt odd).toArray)] = some (Rp.PC ⟨5, 0, toS odd⟩) := rfl
theorem s6 : fillA Z70b [(0, 1, .int .u8 0), (1, 1, .int .u8 0), (2, 68, .agg (cSt odd).toArray)] = some (Rp.PC ⟨0, 0, toS odd⟩) := rfl
theorem s7 : fillA Z70b [(0, 1, .int .u8 3), (1, 1, .int .u8 1), (2, 68, .agg (cSt odd).toArray)] = some (Rp.PC ⟨3, 1, toS odd⟩) := rfl
theorem s8 : fillA Z70b [(0, 1, .int .u8 3), (1, 1, .int .u8 0), (2, 68, .agg (cSt odd).toArray)] = some (Rp.PC ⟨3, 0, toS odd⟩) := rfl
theorem s4 : fillA Z70b [(0, 1, .int .u8 0), (1, 1, .int .u8 1), (2, 68, .agg (cSt full).toArray)] = some (Rp.PC ⟨0, 1, toS full⟩) := by
 have h : (cSt full).length = 68 := rfl
 have hz : Z70b = .int .u8 0 :: .int .u8 0 :: Z68 := rfl
 have z : Z68.length = 68 := rfl
 rw [hz, fill_cons, cells_int, if_pos ⟨rfl, by simp⟩, fill_cons, cells_int, if_pos ⟨rfl, by simp⟩, fill_cons, cells_agg, if_pos ⟨h, by simp [z]⟩, fill0, Rp.PC, toS_c]
 simp only [List.take_zero, List.nil_append, List.singleton_append, List.drop_succ_cons, List.drop_zero, List.take_succ_cons, List.cons_append, Nat.zero_add, Nat.reduceAdd]
 rw [List.drop_of_length_le (by omega), List.append_nil]
 rfl
def sts : List Rp.Stp := [⟨0, 1, toS odd⟩, ⟨2, 0, toS odd⟩, ⟨4, 0, toS odd⟩, ⟨0, 1, toS full⟩, ⟨2, 0, toS odd⟩, ⟨5, 0, toS odd⟩, ⟨0, 0, toS odd⟩, ⟨2, 0, toS odd⟩, ⟨3, 1, toS odd⟩, ⟨3, 0, toS odd⟩]
theorem sts_len : sts.length = 10 := rfl
theorem sts_ok : ∀ p ∈ sts, Rp.SOK p.s ∧ p.n < 256 ∧ p.k < 256 := by
 intro p hp
 simp only [sts, List.mem_cons, List.not_mem_nil, or_false] at hp
 rcases hp with rfl | rfl | rfl | rfl | rfl | rfl | rfl | rfl | rfl | rfl
 all_goals first | exact ⟨sok rgOdd, by decide, by decide⟩ | exact ⟨sok rgFull, by decide, by decide⟩
theorem sts_rows : ∀ r ∈ sts.map Rp.PC, r.length = 70 := by
 intro r hr
 simp only [List.mem_map] at hr
 obtain ⟨p, hp, rfl⟩ := hr
 show (Rp.SC p.s).length + 2 = 70
 rw [Rp.SC_len (sts_ok p hp).1.ht]
set_option maxHeartbeats 2000000 in
theorem c18 {K : AHeap} {F O : Nat} {e11 e12 e13 e14 e15 e16 e17 e18 e19 e20 e21 e22 e23 e24 e25 e26 e27 e28 : Value} {cs : List Rp.CA} (gF : K.get F = some (.cells true false 68 (cSt full) 26)) (gO : K.get O = some (.cells true false 68 (cSt odd) 26)) (hcf : CF K e18 cs) (hn : cs.length = 50) (Q : AQ)
  (h0 : ∀ fr K', resO f7.res fr K' = some (.bool true) → Q .ret fr K') : W Try.prog 0 (cpost 17 f7.body) Q (frT F O e11 e12 [e13, e14, e15, e16, e17, e18, e19, e20, e21, e22, e23, e24, e25, e26, e27, e28]) K := by
 have lf : (cSt full).length = 68 := rfl
 have lo : (cSt odd).length = 68 := rfl
 obtain ⟨w30, a30, th30⟩ := hcf.from_ hn
 simp (disch := first | assumption | omega) only [f7, cpost, frT, List.cons_append, List.nil_append, W_block, P3, seval, initFr, clsA]
 refine ⟨_, _, q5 hcf.th, ?_⟩
 simp (disch := first | assumption | omega) only [W_block, P3, seval, initFr, clsA, a30]
 refine ⟨_, _, q5 th30, ?_⟩
 have f10 : fillA Z700 (places 70 0 (sts.map Rp.PC)) = some (sts.map Rp.PC).flatten := by
  have := fillRows 70 (sts.map Rp.PC) [] Z700 (by rw [List.length_map, Z700_len, sts_len]) sts_rows
  rw [List.nil_append, List.nil_append] at this
  exact this
 have fl : (sts.map Rp.PC).flatten.length = 10 * 70 := by rw [flat_len sts_rows, List.length_map, sts_len]
 have fo : (sts.map Rp.PC).flatten.all Value.oneCell' = true := by
  rw [List.all_flatten, List.all_eq_true]
  intro r hr
  simp only [List.mem_map] at hr
  obtain ⟨p, hp, rfl⟩ := hr
  simp only [Rp.PC, List.all_cons, Rp.SC_one]
  rfl
 obtain ⟨R, hR⟩ : ∃ R, R = (sts.map Rp.PC).flatten := ⟨_, rfl⟩
 rw [← hR] at f10 fo fl
 simp only [sts, places, List.map_cons, List.map_nil, Nat.zero_add, Nat.reduceAdd] at f10
 simp (disch := first | assumption | omega) only [W_block, P3, seval, initFr, clsA, gF, gO, lf, lo, s1, s2, s3, s4, s5, s6, s7, s8, f10, fo, fl]
 have gR : (K.alloc (.cells true false 70 R 56)).get K.n = some (.cells true false 70 (sts.map Rp.PC).flatten 56) := by rw [← hR]; exact AHeap.get_alloc_new _ _
 have hsl : Sl (K.alloc (.cells true false 70 R 56)) 70 (slc K.n 0 10 10) (sts.map Rp.PC) := by
  refine ⟨⟨_, _, by rw [List.length_map, sts_len]; rfl⟩, sts_rows, ?_⟩
  exact elems_own gR (by rw [← hR]; exact fl)
 refine ⟨_, _, q4 (L := sts) ⟨hsl, fun p hp => (sts_ok p hp).1⟩ (fun p hp => (sts_ok p hp).2), ?_⟩
 simp (disch := first | assumption | omega) only [W_block, P3, seval, initFr, clsA]
 refine ⟨_, _, Rp.works_any _, ?_⟩
 simp (disch := first | assumption | omega) only [W_block, P3, seval, initFr, clsA]
 exact h0 _ _ rfl
theorem t7 (H : AHeap) (hno : NoOwn H) : ARun Try.prog 0 7 [] H (.bool true) H := by
 refine runLay f7_ok hno rfl f7_n ?_
 intro Q hq1 hq2
 refine WS_part 12 M12 (by kernel_rfl) ?_ ?_
 ·intro Q' h1 _ _
  refine W_part 8 (fun fr K => fr = [.bool false, .pointer none, .pointer none, .bool false, .bool false, .bool false, .int .i64 1, .bool false, .bool true, undef, undef, undef, undef, undef, undef, undef, undef, undef, undef, undef, undef, undef, undef, undef, undef, undef, undef, undef, undef]) (by kernel_rfl) (fun Q2 h2 _ _ => p8 H Q2 h2) ?_
  rintro fr K rfl
  exact p12 K Q' h1
 ·rintro fr K ⟨F, O, e11, e21, e22, e23, e24, e25, e26, e27, e28, rfl, gF, gO, hne⟩
  refine .inl ?_
  show WS Try.prog 0 (.seq (sL (cpost 12 f7.body)) (cpost 13 f7.body)) Q _ K
  refine WS_seqL (p13 gF gO _ ?_)
  clear gF gO hne
  intro K e12 e13 e14 e15 e16 e17 e18 e19 e20 e21 e22 e23 e24 e25 e26 e27 e28 gF gO
  refine .inl (WS_of_W _ ?_)
  refine W_part 2 (fun fr K2 => ∃ (v f19 f27 : Value) (cs : List Rp.CA), CL K K2 v cs ∧ cs.length = 24 ∧ fr = frT F O e11 e12 [e13, e14, e15, e16, e17, v, f19, e20, e21, e22, e23, e24, e25, e26, f27, e28]) (by kernel_rfl) (fun Q2 h2 _ _ => c12 gF gO Q2 (fun K2 v f19 f27 cs hcl hn => h2 _ _ ⟨v, f19, f27, cs, hcl, hn, rfl⟩)) ?_
  rintro fr K2 ⟨v, f19, f27, cs, hcl, hn, rfl⟩
  refine W_part 1 (fun fr K3 => ∃ (v f20 f28 : Value) (cs : List Rp.CA), CL K K3 v cs ∧ cs.length = 33 ∧ fr = frT F O e11 e12 [e13, e14, e15, e16, e17, v, f19, f20, e21, e22, e23, e24, e25, e26, f27, f28]) (by kernel_rfl) (fun Q2 h2 _ _ => c9 gO hcl hn Q2 (fun K2 v f20 f28 cs hcl hn => h2 _ _ ⟨v, f20, f28, cs, hcl, hn, rfl⟩)) ?_
  clear hcl hn cs
  rintro fr K3 ⟨v, f20, f28, cs, hcl, hn, rfl⟩
  refine W_part 1 (fun fr K4 => ∃ (v : Value) (cs : List Rp.CA), Keeps K K4 ∧ CF K4 v cs ∧ cs.length = 50 ∧ fr = frT F O e11 e12 [e13, e14, e15, e16, e17, v, f19, f20, e21, e22, e23, e24, e25, e26, f27, f28]) (by kernel_rfl) (fun Q2 h2 _ _ => c17 gF gO hcl hn Q2 (fun K4 v cs hk hcf hn => h2 _ _ ⟨v, cs, hk, hcf, hn, rfl⟩)) ?_
  clear hcl hn cs
  rintro fr K4 ⟨v, cs, hk, hcf, hn, rfl⟩
  exact c18 (hk.at_ gF) (hk.at_ gO) hcf hn Q hq2
theorem lawKnown : ∀ H args, NoOwn H → AVs Try.prog H.get [] args → ∃ H', ARun Try.prog 0 7 args H (.bool true) H' := by
 intro H args hno h
 match args, h with
 | [], _ => exact ⟨H, t7 H hno⟩
end Go.AM.R7
