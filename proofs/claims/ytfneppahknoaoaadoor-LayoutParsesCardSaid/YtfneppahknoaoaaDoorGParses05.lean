/- Part of the proof. -/
import Derived.Test.YtfneppahknoaoaaDoorGParses04
set_option linter.unusedSimpArgs false
set_option linter.unusedVariables false
set_option linter.unusedSimpArgs false
set_option linter.unusedVariables false
namespace Go.AM.Fd
open Nat (reduceAdd reduceEqDiff reduceLT reduceLeDiff reduceMul reduceSub)
open Go.Proofs Go.AM.F
def ly0 : Ly := ⟨[], [], [], []⟩
def parseG (f : Ly → List UInt8 → Int × Ly) : Ly → List (List UInt8) → Nat → Ly × Int × Nat
  | L, [], _ => (L, 0, 0)
  | L, l :: r, i => if (f L l).1 = 0 then parseG f (f L l).2 r (i + 1) else (ly0, (f L l).1, i + 1)
def parseP (s : List UInt8) : Ly × Int × Nat := if 16384 < s.length then (ly0, 3, 0) else parseG lineP ly0 (splitB 10 s) 0
theorem secP_lim {L : Ly} (h : LyLim L) (ws : List (List UInt8)) (e : (secP L ws).1 = 0) : LyLim (secP L ws).2 := by
  unfold secP at e ⊢
  split
  · exact h
  · split
    · exact h
    · split
      · exact h
      · rename_i hn
        exact ⟨by have := h.s; simp; omega, h.p, h.g, h.r⟩
theorem partP_lim {L : Ly} (h : LyLim L) (ws : List (List UInt8)) (e : (partP L ws).1 = 0) : LyLim (partP L ws).2 := by
  unfold partP at e ⊢
  split
  · exact h
  · split
    · exact h
    · split
      · exact h
      · split
        · split
          · exact h
          · exact ⟨h.s, by have := h.p; simp; omega, h.g, h.r⟩
        · split
          · exact h
          · exact ⟨h.s, h.p, by have := h.g; simp; omega, h.r⟩
theorem routeP_lim {L : Ly} (h : LyLim L) (ws : List (List UInt8)) (e : (routeP L ws).1 = 0) : LyLim (routeP L ws).2 := by
  unfold routeP at e ⊢
  split
  · unfold routeQ at e ⊢
    split
    · exact h
    · split
      · exact h
      · split
        · split
          · exact h
          · exact ⟨h.s, h.p, h.g, by have := h.r; simp; omega⟩
        · exact h
  · exact h
theorem lineP_lim {L : Ly} (h : LyLim L) (l : List UInt8) (e : (lineP L l).1 = 0) : LyLim (lineP L l).2 := by
  unfold lineP lineW at e ⊢
  split
  · rename_i hok
    rw [if_pos hok] at e
    split
    · exact h
    · rename_i h0
      rw [if_neg h0] at e
      split
      · rename_i h1; rw [if_pos h1] at e; exact secP_lim h _ e
      · rename_i h1
        rw [if_neg h1] at e
        split
        · rename_i h2; rw [if_pos h2] at e; exact partP_lim h _ e
        · rename_i h2
          rw [if_neg h2] at e
          split
          · rename_i h3; rw [if_pos h3] at e; exact partP_lim h _ e
          · rename_i h3
            rw [if_neg h3] at e
            split
            · rename_i h4; rw [if_pos h4] at e; exact routeP_lim h _ e
            · exact h
  · exact h
theorem ly0_lim : LyLim ly0 := ⟨by simp [ly0], by simp [ly0], by simp [ly0], by simp [ly0]⟩
def nil4 : V4 := ⟨.slice none 0 0, .slice none 0 0, .slice none 0 0, .slice none 0 0⟩
theorem lyR0 (K : AHeap) : LyR K nil4 [] ly0 := ⟨Sl.nil _ _, Sl.nil _ _, Sl.nil _ _, Sl.nil _ _, rfl, by simp⟩
theorem splitB_lines {s : List UInt8} {i : Nat} (h : i < (splitB 10 s).length) : ((splitB 10 s).getD i []).length ≤ s.length := splitB_mem 10 s _ (getD_mem h)
theorem BkR.lyS {B K K' : AHeap} {b mb : Nat} {u : V4} {xs : List RV} {L : Ly} {M : MB} {ex : List Th} {S : List Nat} (h : BkR B K b mb u xs L M ex) (c : Chg S K K') (hS : ∀ y ∈ S, y < B.n) : LyR K' u xs L := by
  have key : ∀ (i : Nat) (t : Th), (bkT b mb u xs L M ex)[i]? = some t → t.P K' := fun i t hi => by
    have hp := h.sep.at_ i hi
    refine t.st K K' hp c.n (fun y hy => c.get y (t.lt K hp y hy) (fun hm => ?_))
    have h1 := h.sep.gei i hi hy
    have h2 := hS y hm
    omega
  have a_s : AP K' 9 1 u.s L.s.length (L.s.map tRow).flatten := key 2 _ rfl
  have ap : AP K' 58 2 u.p L.p.length (L.p.map pRow).flatten := key 3 _ rfl
  have ag : AP K' 59 2 u.g L.g.length (L.g.map pRow).flatten := key 4 _ rfl
  have ar : AP K' 43 6 u.r xs.length (xs.map RV.row).flatten := key 5 _ rfl
  have ai : (thI xs).P K' := key 6 _ rfl
  exact ⟨a_s.sl (by intro r hr; obtain ⟨x, _, rfl⟩ := List.mem_map.1 hr; rfl) (by simp), ap.sl (by intro r hr; obtain ⟨x, _, rfl⟩ := List.mem_map.1 hr; rfl) (by simp), ag.sl (by intro r hr; obtain ⟨x, _, rfl⟩ := List.mem_map.1 hr; rfl) (by simp), ar.sl (by intro r hr; obtain ⟨x, _, rfl⟩ := List.mem_map.1 hr; rfl) (by simp), h.e, ai⟩
theorem resP {K : AHeap} {fr : List Value} {b e : Nat} {own room : Bool} {c : List Value} {x y : Value} (h1 : fr.getD 1 undef = ptr b 0) (h2 : fr.getD 2 undef = x) (h3 : fr.getD 3 undef = y) (hg : K.get b = some (.cells own room 4 c e)) (hl : c.length = 4) :
    resO [.cn 4 1, .t 2, .t 3] fr K = some (.tuple #[.agg c.toArray, x, y]) := by
  simp only [resO, resVs, RX.get, h1, h2, h3, cellnp, rangeA_e, hg, rng_full hl, Option.map_some]
  rfl
theorem _root_.Go.AM.SepH.adds {H K : AHeap} {ts us : List Th} (h : SepH H K ts) (hu : ∀ u ∈ us, u.P K ∧ u.F = []) : SepH H K (ts ++ us) := by
  refine ⟨⟨fun x hx => ?_, List.pairwise_append.2 ⟨h.sep.ap, ?_, fun x hx y hy b hb hb2 => ?_⟩⟩, h.k, fun x hx y hy => ?_⟩
  · rcases List.mem_append.1 hx with hx | hx
    · exact h.sep.all x hx
    · exact (hu x hx).1
  · refine List.pairwise_of_forall_mem_list fun x hx y hy b hb hb2 => ?_
    rw [(hu x hx).2] at hb; simp at hb
  · rw [(hu y hy).2] at hb2; simp at hb2
  · rcases List.mem_append.1 hx with hx | hx
    · exact h.ge x hx y hy
    · rw [(hu x hx).2] at hy; simp at hy
theorem parseG_step {f : Ly → List UInt8 → Int × Ly} {L : Ly} {ls : List (List UInt8)} {i : Nat} (h : i < ls.length) : parseG f L (ls.drop i) i = if (f L (ls.getD i [])).1 = 0 then parseG f (f L (ls.getD i [])).2 (ls.drop (i + 1)) (i + 1) else (ly0, (f L (ls.getD i [])).1, i + 1) := by
  rw [List.drop_eq_getElem_cons h]
  simp only [parseG, List.getD, List.getElem?_eq_getElem h, Option.getD_some]
set_option maxHeartbeats 2000000 in
theorem t9 (H : AHeap) (s : List UInt8) :
    ∃ w K, ARun Go.Proofs.Tryd.prog 4 9 [.string ⟨s.toArray⟩] H w K ∧ Keeps H K ∧ ∃ u xs, w = .tuple #[.agg u.l.toArray, .int .i64 (parseP s).2.1, .int .i64 ((parseP s).2.2 : Nat)] ∧ LyR K u xs (parseP s).1 := by
  refine walk2 f9_ok f9_n ?_
  intro Q hq1 hq2
  have kh : Keeps H (H.alloc (.cells true false 4 [.slice none 0 0, .slice none 0 0, .slice none 0 0, .slice none 0 0] 28)) := (Keeps.refl H).alloc _
  have gh : (H.alloc (.cells true false 4 [.slice none 0 0, .slice none 0 0, .slice none 0 0, .slice none 0 0] 28)).get H.n = _ := AHeap.get_alloc_new _ _
  by_cases hlen : 16384 < s.length
  · have e1 : (16384 : Int) < ((s.length : Nat) : Int) := by omega
    have ep : parseP s = (ly0, 3, 0) := by unfold parseP; rw [if_pos hlen]
    simp (disch := first | assumption | omega | (simp only [LN] <;> omega) | (simp (disch := first | assumption | omega | (simp only [LN] <;> omega)) only [row_alloc, row_set]; assumption)) only [f9, W_block, P3, ↓reduceIte, reduceAdd, reduceEqDiff, reduceCtorEq, initFr, reduceLT, clsA, reduceLeDiff, reduceMul, reduceSub, reduceIte, a_lens]
    refine hq2 _ _ ⟨_, resP rfl rfl rfl gh rfl, kh, nil4, [], by rw [ep]; rfl, by rw [ep]; exact lyR0 _⟩
  have e1 : ¬ (16384 : Int) < ((s.length : Nat) : Int) := by omega
  have ep : parseP s = parseG lineP ly0 (splitB 10 s) 0 := by unfold parseP; rw [if_neg hlen]
  have hfb : fillA [.slice none 0 0, .slice none 0 0, .slice none 0 0, .slice none 0 0, .map none] [(4, 1, .map (some (H.n + 1)))] = some [.slice none 0 0, .slice none 0 0, .slice none 0 0, .slice none 0 0, .map (some (H.n + 1))] := rfl
  simp (disch := first | assumption | omega | (simp only [LN] <;> omega) | (simp (disch := first | assumption | omega | (simp only [LN] <;> omega)) only [row_alloc, row_set]; assumption)) only [f9, W_block, P3, ↓reduceIte, reduceAdd, reduceEqDiff, reduceCtorEq, initFr, reduceLT, clsA, reduceLeDiff, reduceMul, reduceSub, reduceIte, a_lens, a_mkmap, st_mkmap, hfb]
  have S0 : SepH (H.alloc (.cells true false 4 [.slice none 0 0, .slice none 0 0, .slice none 0 0, .slice none 0 0] 28)) _ [thM (H.n + 1) []] := (SepH.nil _).add ((Keeps.refl _).alloc (.obj true (.map #[] 0))) (MP.new _) (by simp [thM, AHeap.alloc])
  have S1 := (S0.box (bkO nil4 (H.n + 1))).adds (us := [thA 9 1 (.slice none 0 0) 0 [], thA 58 2 (.slice none 0 0) 0 [], thA 59 2 (.slice none 0 0) 0 [], thA 43 6 (.slice none 0 0) 0 [], thI []]) (by
    intro t ht
    simp only [List.mem_cons, List.not_mem_nil, or_false] at ht
    rcases ht with rfl | rfl | rfl | rfl | rfl
    · exact ⟨.inl ⟨rfl, rfl, rfl⟩, rfl⟩
    · exact ⟨.inl ⟨rfl, rfl, rfl⟩, rfl⟩
    · exact ⟨.inl ⟨rfl, rfl, rfl⟩, rfl⟩
    · exact ⟨.inl ⟨rfl, rfl, rfl⟩, rfl⟩
    · exact ⟨by intro x hx; simp at hx, rfl⟩)
  refine callK (t18 _ s (by omega)) ?_
  rintro vl K1 ⟨k1, al, fl⟩
  have S2 := (S1.add k1 (t := thA 9 1 vl (splitB 10 s).length (txs (splitB 10 s))) al (fun y hy => fl y (mem_blkL.1 hy))).perm (List.perm_append_comm (l₁ := [_]) (l₂ := [_, _, _, _, _, _, _]))
  have R0 : BkR _ K1 (H.n + 1 + 1) (H.n + 1) nil4 [] ly0 [] [thA 9 1 vl (splitB 10 s).length (txs (splitB 10 s))] := ⟨S2, rfl, fun n => rfl⟩
  clear S0 S1 S2
  generalize H.alloc (.cells true false 4 [.slice none 0 0, .slice none 0 0, .slice none 0 0, .slice none 0 0] 28) = K0 at *
  have la : lenS vl = (splitB 10 s).length := (AP.tl al).len
  have ia := Sl.is (AP.tl al)
  have nl : (splitB 10 s).length ≤ s.length + 1 := splitB_len 10 s
  simp (disch := first | assumption | omega | (simp only [LN] <;> omega) | (simp (disch := first | assumption | omega | (simp only [LN] <;> omega)) only [row_alloc, row_set]; assumption)) only [ P3, ↓reduceIte, reduceAdd, reduceEqDiff, reduceCtorEq, initFr, reduceLT, clsA, reduceLeDiff, reduceMul, reduceSub, reduceIte, la]
  rw [W_block]
  refine W_loop2 (fun k fr K => ∃ i u xs L M x5 x6 x7 x12 x13, fr = [.string ⟨s.toArray⟩, ptr H.n 0, .int .i64 0, .int .i64 0, ptr (H.n + 1 + 1) 0, x5, x6, x7, .bool false, vl, .int .i64 (((splitB 10 s).length : Nat) : Int), .int .i64 ((i : Nat) : Int), x12, x13] ∧ BkR K0 K (H.n + 1 + 1) (H.n + 1) u xs L M [thA 9 1 vl (splitB 10 s).length (txs (splitB 10 s))] ∧ LyLim L ∧ parseP s = parseG lineP L ((splitB 10 s).drop i) i ∧ i ≤ (splitB 10 s).length ∧ k = (splitB 10 s).length - i) (splitB 10 s).length
    ⟨0, _, _, _, _, _, _, _, _, _, rfl, R0, ly0_lim, by rw [ep, List.drop_zero], by omega, rfl⟩ ?_
  rintro Q' k fr K ⟨i, u, xs, L, M, x5, x6, x7, x12, x13, rfl, R, hL, hp, hi, rfl⟩ hn hx hret
  have gK := R.sep.k.at_ gh
  have kK := kh.trans R.sep.k
  have hv : TL K vl (splitB 10 s) := AP.tl (R.sep.at_ 7 rfl)
  by_cases hlt : i < (splitB 10 s).length
  · obtain ⟨na, ra⟩ := hv.at_ hlt
    have h0 : (0 : Int) ≤ (i : Int) := by omega
    have h1 : (i : Int) < ((lenS vl : Nat) : Int) := by omega
    have h3 : (i : Int) < (((splitB 10 s).length : Nat) : Int) := by omega
    have hw : IntKind.i64.wrap ((i : Int) + 1) = ((i + 1 : Nat) : Int) := by rw [wrap_i64 (by omega) (by omega)]; simp
    have hll := splitB_lines hlt
    rw [parseG_step hlt] at hp
    unfold tRow at ra
    generalize (splitB 10 s).getD i [] = l at *
    simp (disch := first | assumption | omega | (simp only [LN] <;> omega) | (simp (disch := first | assumption | omega | (simp only [LN] <;> omega)) only [row_alloc, row_set]; assumption)) only [W_block, P3, ↓reduceIte, reduceAdd, reduceEqDiff, reduceCtorEq, initFr, reduceLT, clsA, reduceLeDiff, reduceMul, reduceSub, reduceIte, la, ra, na, a_load1v]
    refine callK (t19 R l (by omega) hL) ?_
    rintro _ K2 ⟨rfl, r2, k2⟩
    by_cases he : (lineP L l).1 = 0
    · obtain ⟨u', xs', M', R'⟩ := r2 he
      rw [if_pos he] at hp
      rw [he]
      have e0 : ((0 : Int) != 0) = false := rfl
      simp (disch := first | assumption | omega | (simp only [LN] <;> omega) | (simp (disch := first | assumption | omega | (simp only [LN] <;> omega)) only [row_alloc, row_set]; assumption)) only [W_block, P3, ↓reduceIte, reduceAdd, reduceEqDiff, reduceCtorEq, initFr, reduceLT, clsA, reduceLeDiff, reduceMul, reduceSub, reduceIte, e0, hw]
      exact hn _ _ _ ⟨i + 1, _, _, _, _, _, _, _, _, _, rfl, R', lineP_lim hL l he, hp, by omega, rfl⟩ (by omega)
    · rw [if_neg he] at hp
      have e0 : ((lineP L l).1 != 0) = true := bnei_yes he
      have g2 := k2.at_ gh
      simp (disch := first | assumption | omega | (simp only [LN] <;> omega) | (simp (disch := first | assumption | omega | (simp only [LN] <;> omega)) only [row_alloc, row_set]; assumption)) only [W_block, P3, ↓reduceIte, reduceAdd, reduceEqDiff, reduceCtorEq, initFr, reduceLT, clsA, reduceLeDiff, reduceMul, reduceSub, reduceIte, e0, hw, fill0, g2]
      refine hret _ _ (hq2 _ _ ⟨_, resP rfl rfl rfl (AHeap.get_set_same g2 _) rfl, ?_, nil4, [], ?_, ?_⟩)
      · exact (kh.trans k2).set (Nat.le_refl _) (AHeap.get_lt g2) _
      · rw [hp]; rfl
      · rw [hp]; exact lyR0 _
  · have h3 : ¬ (i : Int) < (((splitB 10 s).length : Nat) : Int) := by omega
    simp (disch := first | assumption | omega | (simp only [LN] <;> omega) | (simp (disch := first | assumption | omega | (simp only [LN] <;> omega)) only [row_alloc, row_set]; assumption)) only [W_block, P3, ↓reduceIte, reduceAdd, reduceEqDiff, reduceCtorEq, initFr, reduceLT, clsA, reduceLeDiff, reduceMul, reduceSub, reduceIte, la]
    refine hx 0 _ _ ?_
    rw [List.drop_of_length_le (by omega)] at hp
    have gb := R.gb
    simp only [bkO] at gb
    have us := Sl.one R.ly.s
    have up := Sl.one R.ly.p
    have ug := Sl.one R.ly.g
    have ur := Sl.one R.ly.r
    have os : one1 u.s = True := by simp [one1, us]
    have op : one1 u.p = True := by simp [one1, up]
    have og : one1 u.g = True := by simp [one1, ug]
    have or := Sl.one R.ly.r
    have ho4 : [u.s, u.p, u.g, u.r].all Value.oneCell' = true := by simp only [List.all_cons, List.all_nil, us, up, ug, ur]; rfl
    simp (disch := first | assumption | omega | (simp only [LN] <;> omega) | (simp (disch := first | assumption | omega | (simp only [LN] <;> omega)) only [row_alloc, row_set]; assumption)) only [W_block, P3, ↓reduceIte, reduceAdd, reduceEqDiff, reduceCtorEq, initFr, reduceLT, clsA, reduceLeDiff, reduceMul, reduceSub, reduceIte, gb, gK, ho4]
    refine hq2 _ _ ⟨_, resP rfl rfl rfl (AHeap.get_set_same gK _) rfl, ?_, u, xs, ?_, ?_⟩
    · exact kK.set (Nat.le_refl _) (AHeap.get_lt gK) _
    · rw [hp]; rfl
    · rw [hp]
      exact R.lyS (Chg.set K (AHeap.get_lt gK) _) (fun y hy => by
        simp only [List.mem_singleton] at hy; subst hy; exact AHeap.get_lt gh)
end Go.AM.Fd

set_option linter.unusedSimpArgs false
set_option linter.unusedVariables false
namespace Go.AM.Fd
open Nat (reduceAdd reduceEqDiff reduceLT reduceLeDiff reduceMul reduceSub)
open Go.Proofs Go.AM.F
def wkA : List UInt8 := [115, 101, 99, 116, 105, 111, 110, 32, 65, 10, 115, 101, 99, 116, 105, 111, 110, 32, 66, 10, 112, 111, 105, 110, 116, 32, 80, 32, 66, 10, 115, 105, 103, 110, 97, 108, 32, 71, 32, 65, 10, 114, 111, 117, 116, 101, 32, 82, 32, 71, 32, 58, 32, 66, 32, 58, 32, 80, 43, 32, 58, 32, 58]
def wkB : List UInt8 := [115, 101, 99, 116, 105, 111, 110, 32, 65, 10, 115, 101, 99, 116, 105, 111, 110, 32, 65]
theorem wkA_p : parseP wkA = (⟨[[65], [66]], [([80], 1)], [([71], 0)], [⟨[82], 0, [1], [(0, false)], [], []⟩]⟩, 0, 0) := by rfl
theorem wkB_p : (parseP wkB).2 = (41, 2) := by rfl
set_option maxHeartbeats 1000000 in
theorem t8 (H : AHeap) : ∃ w K, ARun Go.Proofs.Tryd.prog 4 8 [] H w K ∧ w = .bool true ∧ Keeps H K := by
  refine walk2 f8_ok f8_n ?_
  intro Q hq1 hq2
  simp (disch := first | assumption | omega | (simp only [LN] <;> omega) | (simp (disch := first | assumption | omega | (simp only [LN] <;> omega)) only [row_alloc, row_set]; assumption)) only [f8, W_block, P3, ↓reduceIte, reduceAdd, reduceEqDiff, reduceCtorEq, initFr, reduceLT, clsA, reduceLeDiff, reduceMul, reduceSub, reduceIte]
  refine callK (t9 _ wkA) ?_
  rintro _ K1 ⟨k1, u, xs, rfl, y⟩
  rw [wkA_p] at y ⊢
  obtain ⟨us, up, ug, ur⟩ := u
  have vs := Sl.one y.s
  have vp := Sl.one y.p
  have vg := Sl.one y.g
  have vr := Sl.one y.r
  have ho4 : [us, up, ug, ur].all Value.oneCell' = true := by simp only [List.all_cons, List.all_nil, vs, vp, vg, vr]; rfl
  simp only [V4.l] at *
  simp (disch := first | assumption | omega | (simp only [LN] <;> omega) | (simp (disch := first | assumption | omega | (simp only [LN] <;> omega)) only [row_alloc, row_set]; assumption)) only [W_block, P3, ↓reduceIte, reduceAdd, reduceEqDiff, reduceCtorEq, initFr, reduceLT, clsA, reduceLeDiff, reduceMul, reduceSub, reduceIte, ho4]
  refine callK (t9 _ wkB) ?_
  rintro _ K2 ⟨k2, u2, xs2, rfl, y2⟩
  rw [wkB_p]
  obtain ⟨us2, up2, ug2, ur2⟩ := u2
  have vs2 := Sl.one y2.s
  have vp2 := Sl.one y2.p
  have vg2 := Sl.one y2.g
  have vr2 := Sl.one y2.r
  have ho42 : [us2, up2, ug2, ur2].all Value.oneCell' = true := by simp only [List.all_cons, List.all_nil, vs2, vp2, vg2, vr2]; rfl
  simp only [V4.l] at *
  have g1 : K2.get K1.n = some (.cells true false 4 [us, up, ug, ur] 28) := k2.at_ (AHeap.get_alloc_new _ _)
  have kk : Keeps K1 K2 := ((Keeps.refl K1).alloc _).trans k2
  have y3 := y.keeps (kk.alloc (.cells true false 4 [us2, up2, ug2, ur2] 28))
  have ls : lenS us = 2 := y3.s.len
  have lr : lenS ur = 1 := by have := y3.r.len; rw [y3.rlen] at this; exact this
  have is := Sl.is y3.s
  have ir := Sl.is y3.r
  obtain ⟨nr, rr⟩ := y3.r.at_ (i := 0) (by rw [y3.rlen]; decide)
  obtain ⟨ox, ex⟩ := y3.rat (i := 0) (by decide)
  generalize xs.getD 0 rv0 = x at *
  obtain ⟨xr, xp, xq, xo, xf⟩ := x
  have ex' : xr = ⟨[82], 0, [1], [(0, false)], [], []⟩ := ex
  subst ex'
  have hlt := AHeap.get_lt g1
  have i1 : ((1 : Nat) : Int) = 1 := rfl
  have i2 : ((2 : Nat) : Int) = 2 := rfl
  have ip := Sl.is ox.p
  have iq := Sl.is ox.q
  have lp : lenS xp = 1 := ox.p.len
  have lq : lenS xq = 1 := ox.q.len
  obtain ⟨np, rp⟩ := ox.p.at_ (i := 0) (by simp)
  obtain ⟨nq, rq⟩ := ox.q.at_ (i := 0) (by simp)
  simp only [RV.row] at rr
  have t0 : Int.toNat 0 = 0 := rfl
  have c0 : (0 : Int) ≤ 0 := by omega
  have c1 : (0 : Int) < ((lenS ur : Nat) : Int) := by omega
  have c2 : (0 : Int) < ((lenS xp : Nat) : Int) := by omega
  have c3 : (0 : Int) < ((lenS xq : Nat) : Int) := by omega
  simp (disch := first | assumption | omega | (simp only [LN] <;> omega) | (simp (disch := first | assumption | omega | (simp only [LN] <;> omega)) only [row_alloc, row_set]; assumption)) only [W_block, P3, ↓reduceIte, reduceAdd, reduceEqDiff, reduceCtorEq, initFr, reduceLT, clsA, reduceLeDiff, reduceMul, reduceSub, reduceIte, ho42, g1, ls, lr, nr, rr, np, rp, nq, rq, t0, a_load1v, lp, lq, i1, i2]
  exact hq2 _ _ ⟨_, rfl, rfl, ((Keeps.refl H).trans k1).trans (kk.alloc _)⟩
end Go.AM.Fd

set_option linter.unusedSimpArgs false
set_option linter.unusedVariables false
namespace Go.AM.Fd
open Nat (reduceAdd reduceEqDiff reduceLT reduceLeDiff reduceMul reduceSub)
open Go.Proofs Go.AM.F
theorem full_not {L : Ly} (h : fullB L = false) : LyLim L := by
  simp only [fullB, Bool.or_eq_false_iff, decide_eq_false_iff_not] at h
  exact ⟨by omega, by omega, by omega, by omega⟩
theorem ly_ones {H : AHeap} {u : V4} {xs : List RV} {L : Ly} (h : LyR H u xs L) : u.l.all Value.oneCell' = true := by
  simp only [V4.l, List.all_cons, List.all_nil, Sl.one h.s, Sl.one h.p, Sl.one h.g, Sl.one h.r]; rfl
end Go.AM.Fd

set_option linter.unusedSimpArgs false
set_option linter.unusedVariables false
namespace Go.AM.Fd
open Nat (reduceAdd reduceEqDiff reduceLT reduceLeDiff reduceMul reduceSub)
open Go.Proofs Go.AM.F
def fstE : List Int → Int
  | [] => 0
  | x :: l => if x = 0 then fstE l else x
theorem fstE_at {l : List Int} {i : Nat} (h : i < l.length) : fstE (l.drop i) = if l.getD i 0 = 0 then fstE (l.drop (i + 1)) else l.getD i 0 := by
  rw [List.drop_eq_getElem_cons h]
  simp only [fstE, List.getD, List.getElem?_eq_getElem h, Option.getD_some]
theorem t70 {H : AHeap} {v : Value} {l : List Int} (h : IL H v l) (hl : l.length ≤ 1000000000) : ∃ w H', ARun Go.Proofs.Tryd.prog 4 70 [v] H w H' ∧ w = .int .i64 (fstE l) ∧ H' = H := by
  refine walk2 f70_ok f70_n ?_
  intro Q hq1 hq2
  have ia := Sl.is h
  have la := h.len
  simp (disch := first | assumption | omega | (simp only [LN] <;> omega) | (simp (disch := first | assumption | omega | (simp only [LN] <;> omega)) only [row_alloc, row_set]; assumption)) only [ f70, P3, ↓reduceIte, reduceAdd, reduceEqDiff, reduceCtorEq, initFr, reduceLT, clsA, reduceLeDiff, reduceMul, reduceSub, reduceIte]
  rw [W_block]
  refine W_loop2 (fun k fr K => ∃ i x3 x4, fr = [v, .int .i64 0, .int .i64 ((i : Nat) : Int), x3, x4] ∧ K = H ∧ i ≤ l.length ∧ fstE l = fstE (l.drop i) ∧ k = l.length - i) l.length
    ⟨0, _, _, rfl, rfl, by omega, by simp, rfl⟩ ?_
  rintro Q' k fr _ ⟨i, x3, x4, rfl, rfl, hi, hp, rfl⟩ hn hx hret
  by_cases hlt : i < l.length
  · obtain ⟨na, ra⟩ := h.at_ hlt
    have h0 : (0 : Int) ≤ (i : Int) := by omega
    have h1 : (i : Int) < ((lenS v : Nat) : Int) := by omega
    have h3 : (i : Int) < ((l.length : Nat) : Int) := by omega
    have hw : IntKind.i64.wrap ((i : Int) + 1) = ((i + 1 : Nat) : Int) := by rw [wrap_i64 (by omega) (by omega)]; simp
    rw [fstE_at hlt] at hp
    generalize l.getD i 0 = n at *
    by_cases hz : n = 0
    · have e0 : (n != 0) = false := bnei_no hz
      rw [if_pos hz] at hp
      simp (disch := first | assumption | omega | (simp only [LN] <;> omega) | (simp (disch := first | assumption | omega | (simp only [LN] <;> omega)) only [row_alloc, row_set]; assumption)) only [W_block, P3, ↓reduceIte, reduceAdd, reduceEqDiff, reduceCtorEq, initFr, reduceLT, clsA, reduceLeDiff, reduceMul, reduceSub, reduceIte, la, ra, na, a_load1v, e0, hw]
      exact hn _ _ _ ⟨i + 1, _, _, rfl, rfl, by omega, hp, rfl⟩ (by omega)
    · have e0 : (n != 0) = true := bnei_yes hz
      rw [if_neg hz] at hp
      simp (disch := first | assumption | omega | (simp only [LN] <;> omega) | (simp (disch := first | assumption | omega | (simp only [LN] <;> omega)) only [row_alloc, row_set]; assumption)) only [W_block, P3, ↓reduceIte, reduceAdd, reduceEqDiff, reduceCtorEq, initFr, reduceLT, clsA, reduceLeDiff, reduceMul, reduceSub, reduceIte, la, ra, na, a_load1v, e0]
      exact hret _ _ (hq2 _ _ ⟨_, rfl, by rw [hp]; rfl, rfl⟩)
  · have h3 : ¬ (i : Int) < ((l.length : Nat) : Int) := by omega
    simp (disch := first | assumption | omega | (simp only [LN] <;> omega) | (simp (disch := first | assumption | omega | (simp only [LN] <;> omega)) only [row_alloc, row_set]; assumption)) only [W_block, P3, ↓reduceIte, reduceAdd, reduceEqDiff, reduceCtorEq, initFr, reduceLT, clsA, reduceLeDiff, reduceMul, reduceSub, reduceIte, la]
    refine hx 0 _ _ ?_
    simp (disch := first | assumption | omega | (simp only [LN] <;> omega) | (simp (disch := first | assumption | omega | (simp only [LN] <;> omega)) only [row_alloc, row_set]; assumption)) only [W_block, P3, ↓reduceIte, reduceAdd, reduceEqDiff, reduceCtorEq, initFr, reduceLT, clsA, reduceLeDiff, reduceMul, reduceSub, reduceIte]
    rw [List.drop_of_length_le (by omega)] at hp
    exact hq2 _ _ ⟨_, rfl, by rw [hp]; rfl, rfl⟩
def dT (u : V4) (xs : List RV) (L : Ly) (ex : List Th) : List Th :=
  thA 9 1 u.s L.s.length (L.s.map tRow).flatten :: thA 58 2 u.p L.p.length (L.p.map pRow).flatten :: thA 59 2 u.g L.g.length (L.g.map pRow).flatten :: thA 43 6 u.r xs.length (xs.map RV.row).flatten :: thI xs :: ex
structure DR (B K : AHeap) (u : V4) (xs : List RV) (L : Ly) (ex : List Th) : Prop where
  sep : SepH B K (dT u xs L ex)
  e : xs.map (·.r) = L.r
theorem ly_of {K : AHeap} {u : V4} {xs : List RV} {L : Ly} (a1 : AP K 9 1 u.s L.s.length (L.s.map tRow).flatten) (a2 : AP K 58 2 u.p L.p.length (L.p.map pRow).flatten) (a3 : AP K 59 2 u.g L.g.length (L.g.map pRow).flatten) (a4 : AP K 43 6 u.r xs.length (xs.map RV.row).flatten) (a5 : (thI xs).P K) (e : xs.map (·.r) = L.r) : LyR K u xs L :=
  ⟨a1.sl (by intro r hr; obtain ⟨x, _, rfl⟩ := List.mem_map.1 hr; rfl) (by simp), a2.sl (by intro r hr; obtain ⟨x, _, rfl⟩ := List.mem_map.1 hr; rfl) (by simp), a3.sl (by intro r hr; obtain ⟨x, _, rfl⟩ := List.mem_map.1 hr; rfl) (by simp), a4.sl (by intro r hr; obtain ⟨x, _, rfl⟩ := List.mem_map.1 hr; rfl) (by simp), e, a5⟩
theorem DR.ly {B K : AHeap} {u : V4} {xs : List RV} {L : Ly} {ex : List Th} (h : DR B K u xs L ex) : LyR K u xs L :=
  ly_of (h.sep.at_ 0 rfl) (h.sep.at_ 1 rfl) (h.sep.at_ 2 rfl) (h.sep.at_ 3 rfl) (h.sep.at_ 4 rfl) h.e
theorem DR.keeps {B K K' : AHeap} {u : V4} {xs : List RV} {L : Ly} {ex : List Th} (h : DR B K u xs L ex) (k : Keeps K K') : DR B K' u xs L ex := ⟨h.sep.keeps k, h.e⟩
def gIx (L : Ly) (n : List UInt8) : Option Int := (ixT n (L.g.map (·.1))).map fun i => (i : Int)
theorem ixV_g (L : Ly) (n : List UInt8) : (gIx L n = none ∧ ixV n (L.g.map (·.1)) = -1) ∨ ∃ i : Nat, gIx L n = some (i : Int) ∧ ixV n (L.g.map (·.1)) = (i : Int) := by
  unfold gIx ixV
  cases ixT n (L.g.map (·.1)) with
  | none => exact .inl ⟨rfl, rfl⟩
  | some i => exact .inr ⟨i, rfl, rfl⟩
theorem ixV_n (L : Ly) (n : List UInt8) : ((ixT n (namesL L)).isSome = false ∧ ixV n (namesL L) = -1) ∨ ∃ i : Nat, (ixT n (namesL L)).isSome = true ∧ ixV n (namesL L) = (i : Int) := by
  unfold ixV
  cases ixT n (namesL L) with
  | none => exact .inl ⟨rfl, rfl⟩
  | some i => exact .inr ⟨i, rfl, rfl⟩
def routeQD (L : Ly) (ws g0 g1 g2 g3 g4 : List (List UInt8)) : Int × Ly :=
  if g0.length ≠ 3 ∨ rightB (ws.getD 1 []) = false ∨ g2.all shpB = false ∨ g4.all shpB = false then (40, L)
  else if (ixT (ws.getD 1 []) (namesL L)).isSome then (41, L)
  else match gIx L (ws.getD 2 []), oAll (sIx L) g1, oAll (nIx L) g2, oAll (sIx L) g3, oAll (nIx L) g4 with
    | some s, some p, some q, some o, some f => if 16 < p.length ∨ 16 < q.length ∨ 16 < o.length ∨ 16 < f.length then (3, L) else (0, { L with r := L.r ++ [⟨ws.getD 1 [], s, p, q, o, f⟩] })
    | _, _, _, _, _ => (42, L)
def routeD (L : Ly) (ws : List (List UInt8)) : Int × Ly := match groupsB ws with
  | [g0, g1, g2, g3, g4] => routeQD L ws g0 g1 g2 g3 g4
  | _ => (40, L)
theorem routeQD_t {L : Ly} {ws g0 g1 g2 g3 g4 : List (List UInt8)} (h1 : g0.length = 3) (h2 : rightB (ws.getD 1 []) = true) (h3 : g2.all shpB = true) (h4 : g4.all shpB = true) :
    routeQD L ws g0 g1 g2 g3 g4 = if (ixT (ws.getD 1 []) (namesL L)).isSome then ((41 : Int), L)
  else match gIx L (ws.getD 2 []), oAll (sIx L) g1, oAll (nIx L) g2, oAll (sIx L) g3, oAll (nIx L) g4 with
    | some s, some p, some q, some o, some f => if 16 < p.length ∨ 16 < q.length ∨ 16 < o.length ∨ 16 < f.length then (3, L) else (0, { L with r := L.r ++ [⟨ws.getD 1 [], s, p, q, o, f⟩] })
    | _, _, _, _, _ => (42, L) := by
  unfold routeQD
  rw [if_neg]
  rintro (e | e | e | e)
  · exact e h1
  · rw [h2] at e; cases e
  · rw [h3] at e; cases e
  · rw [h4] at e; cases e
theorem resL {K : AHeap} {fr : List Value} {b e : Nat} {own room : Bool} {c : List Value} {x : Value} (h1 : fr.getD 3 undef = ptr b 0) (h2 : fr.getD 4 undef = x) (hg : K.get b = some (.cells own room 4 c e)) (hl : c.length = 4) :
    resO [.cn 4 3, .t 4] fr K = some (.tuple #[.agg c.toArray, x]) := by
  simp only [resO, resVs, RX.get, h1, h2, cellnp, rangeA_e, hg, rng_full hl, Option.map_some]
  rfl
def lO (c : List Value) : AO := .cells true false 4 c 28
end Go.AM.Fd

set_option linter.unusedSimpArgs false
set_option linter.unusedVariables false
namespace Go.AM.Fd
open Nat (reduceAdd reduceEqDiff reduceLT reduceLeDiff reduceMul reduceSub)
open Go.Proofs Go.AM.F
set_option maxHeartbeats 8000000 in
theorem t49 {B K : AHeap} {u : V4} {xs : List RV} {L : Ly} {ex : List Th} {v : Value} {ws : List (List UInt8)} (h : DR B K u xs L ex) (hf : LyFit L) (hL : LyLim L) (hv : TL K v ws) (hl : ws.length ≤ 1000000) (h2w : 2 ≤ ws.length) (hw : ∀ w ∈ ws, w.length ≤ 1000000000) :
    ∃ w K', ARun Go.Proofs.Tryd.prog 4 49 [.agg u.l.toArray, v] K w K' ∧ Keeps B K' ∧ ∃ u', w = .tuple #[.agg u'.l.toArray, .int .i64 (routeD L ws).1] ∧ u'.l.all Value.oneCell' = true ∧ ((routeD L ws).1 = 0 → ∃ xs', DR B K' u' xs' (routeD L ws).2 ex) ∧ ((routeD L ws).1 ≠ 0 → Keeps K K') := by
  refine walk2 f49_ok f49_n ?_
  intro Q hq1 hq2
  have ho := ly_ones h.ly
  have J0 := (h.sep.box (lO u.l)).box (lO [.slice none 0 0, .slice none 0 0, .slice none 0 0, .slice none 0 0])
  have ll : u.l.length = 4 := rfl
  simp (disch := first | assumption | omega | (simp only [LN] <;> omega) | (simp (disch := first | assumption | omega | (simp only [LN] <;> omega)) only [row_alloc, row_set]; assumption)) only [f49, W_block, P3, ↓reduceIte, reduceAdd, reduceEqDiff, reduceCtorEq, initFr, reduceLT, clsA, reduceLeDiff, reduceMul, reduceSub, reduceIte, ho]
  refine callK (t66 (Sl.keeps hv (((Keeps.refl K).alloc (lO u.l)).alloc (lO [.slice none 0 0, .slice none 0 0, .slice none 0 0, .slice none 0 0]))) hl) ?_
  rintro w K1 ⟨k1, ws', gs, eg⟩
  obtain ⟨sg, tg⟩ := gs.rd
  rw [← List.map_reverse] at eg
  have J1 := J0.keeps k1
  have k01 : Keeps K K1 := (((Keeps.refl K).alloc (lO u.l)).alloc (lO [.slice none 0 0, .slice none 0 0, .slice none 0 0, .slice none 0 0])).trans k1
  have h1 := h.keeps k01
  have hv1 : TL K1 v ws := Sl.keeps hv k01
  generalize ws'.reverse = R at *
  have lw : lenS w = R.length := by have := Sl.len sg; simpa using this
  have iw := Sl.is sg
  have gl : K1.get K.n = some (.cells true false 4 u.l 28) := J1.at_ 1 rfl
  have gr : K1.get (K.n + 1) = some (.cells true false 4 [.slice none 0 0, .slice none 0 0, .slice none 0 0, .slice none 0 0] 28) := J1.at_ 0 rfl
  have gr0 := gr
  have nlt : K.n + 1 < K1.n := AHeap.get_lt gr
  have c0 : (0 : Int) ≤ 0 := by omega
  have c1 : (0 : Int) ≤ 1 := by omega
  have c2 : (0 : Int) ≤ 2 := by omega
  have c3 : (0 : Int) ≤ 3 := by omega
  have c4 : (0 : Int) ≤ 4 := by omega
  have t0 : Int.toNat 0 = 0 := rfl
  have t1 : Int.toNat 1 = 1 := rfl
  have t2 : Int.toNat 2 = 2 := rfl
  have t3 : Int.toNat 3 = 3 := rfl
  have t4 : Int.toNat 4 = 4 := rfl
  have fail : ∀ (fr : List Value) (X : AHeap) (e : Int), fr.getD 3 undef = ptr (K.n + 1) 0 → fr.getD 4 undef = .int .i64 e → (routeD L ws).1 = e → e ≠ 0 → Keeps K1 X → Q .ret fr (X.set (K.n + 1) (lO u.l)) := fun fr X e f3 f4 hd he kx => by
    have gx := kx.at_ gr0
    refine hq2 _ _ ⟨_, resL f3 f4 (AHeap.get_set_same gx _) rfl, ?_, u, by rw [hd], ho, fun e0 => absurd (hd.symm.trans e0) he, fun _ => (k01.trans kx).set (by omega) (AHeap.get_lt gx) _⟩
    have h4 := (J1.keeps kx).u0 (t' := thB (K.n + 1) (lO u.l)) (Chg.set X (AHeap.get_lt gx) (lO u.l)) (AHeap.get_set_same gx _) (fun y hy => .inl hy)
    exact h4.k
  by_cases h5 : R.length = 5
  rotate_left
  · have e2 : (((R.length : Nat) : Int) != 5) = true := by simp; omega
    have ep : routeD L ws = (40, L) := by
      unfold routeD
      rw [← eg]
      split
      · rename_i e
        have := congrArg List.length e
        simp at this; omega
      · rfl
    simp (disch := first | assumption | omega | (simp only [LN] <;> omega) | (simp (disch := first | assumption | omega | (simp only [LN] <;> omega)) only [row_alloc, row_set]; assumption)) only [W_block, P3, ↓reduceIte, reduceAdd, reduceEqDiff, reduceCtorEq, initFr, reduceLT, clsA, reduceLeDiff, reduceMul, reduceSub, reduceIte, lw, e2, gl, gr, ll, ho]
    exact fail _ _ 40 rfl rfl (by rw [ep]) (by decide) (Keeps.refl _)
  have e2 : (((R.length : Nat) : Int) != 5) = false := by simp; omega
  obtain ⟨⟨v0, g0⟩, ⟨v1, g1⟩, ⟨v2, g2⟩, ⟨v3, g3⟩, ⟨v4, g4⟩, rfl⟩ := list5 h5
  simp only [List.map_cons, List.map_nil] at sg eg
  have ep0 : routeD L ws = routeQD L ws g0 g1 g2 g3 g4 := by unfold routeD; rw [← eg]
  have m0 : g0 ∈ groupsB ws := by rw [← eg]; simp
  have m1 : g1 ∈ groupsB ws := by rw [← eg]; simp
  have m2 : g2 ∈ groupsB ws := by rw [← eg]; simp
  have m3 : g3 ∈ groupsB ws := by rw [← eg]; simp
  have m4 : g4 ∈ groupsB ws := by rw [← eg]; simp
  obtain ⟨nw, r0⟩ := Sl.at_ sg (by omega) (i := 0) (by simp)
  obtain ⟨_, r1⟩ := Sl.at_ sg (by omega) (i := 1) (by simp)
  obtain ⟨_, r2⟩ := Sl.at_ sg (by omega) (i := 2) (by simp)
  obtain ⟨_, r3⟩ := Sl.at_ sg (by omega) (i := 3) (by simp)
  obtain ⟨_, r4⟩ := Sl.at_ sg (by omega) (i := 4) (by simp)
  simp only [List.getElem_cons_zero, List.getElem_cons_succ] at r0 r1 r2 r3 r4
  have T0 : TL K1 v0 g0 := tg (v0, g0) (by simp)
  have T1 : TL K1 v1 g1 := tg (v1, g1) (by simp)
  have T2 : TL K1 v2 g2 := tg (v2, g2) (by simp)
  have T3 : TL K1 v3 g3 := tg (v3, g3) (by simp)
  have T4 : TL K1 v4 g4 := tg (v4, g4) (by simp)
  have i0 := Sl.is T0
  have l0 := T0.len
  have d0 : (0 : Int) < ((lenS w : Nat) : Int) := by rw [lw]; simp
  have d1 : (1 : Int) < ((lenS w : Nat) : Int) := by rw [lw]; simp
  have d2 : (2 : Int) < ((lenS w : Nat) : Int) := by rw [lw]; simp
  have d3 : (3 : Int) < ((lenS w : Nat) : Int) := by rw [lw]; simp
  have d4 : (4 : Int) < ((lenS w : Nat) : Int) := by rw [lw]; simp
  by_cases h3 : g0.length = 3
  rotate_left
  · have e3 : (((g0.length : Nat) : Int) != 3) = true := by simp; omega
    have ep : routeD L ws = (40, L) := by rw [ep0]; unfold routeQD; rw [if_pos (.inl h3)]
    simp (disch := first | assumption | omega | (simp only [LN] <;> omega) | (simp (disch := first | assumption | omega | (simp only [LN] <;> omega)) only [row_alloc, row_set]; assumption)) only [W_block, P3, ↓reduceIte, reduceAdd, reduceEqDiff, reduceCtorEq, initFr, reduceLT, clsA, reduceLeDiff, reduceMul, reduceSub, reduceIte, lw, e2, r0, nw, a_load1v, t0, l0, e3, gl, gr, ll, ho]
    exact fail _ _ 40 rfl rfl (by rw [ep]) (by decide) (Keeps.refl _)
  have e3 : (((g0.length : Nat) : Int) != 3) = false := by simp; omega
  have hwl : 3 ≤ ws.length := by have := (groups_mem m0).1; omega
  have ia := Sl.is hv
  have la := hv.len
  obtain ⟨na, ra⟩ := hv1.at_ (i := 1) (by omega)
  obtain ⟨_, rb⟩ := hv1.at_ (i := 2) (by omega)
  have hlen := hw _ (getD_mem (d := []) (show 1 < ws.length by omega))
  have q1 : (1 : Int) < ((lenS v : Nat) : Int) := by omega
  have q2 : (2 : Int) < ((lenS v : Nat) : Int) := by omega
  unfold tRow at ra rb
  have hg : ∀ {g : List (List UInt8)}, g ∈ groupsB ws → g.length ≤ 1000000000 ∧ ∀ x ∈ g, x.length ≤ 1000000000 := fun hm => ⟨by have := (groups_mem hm).1; omega, fun x hx => hw x ((groups_mem hm).2 x hx)⟩
  simp (disch := first | assumption | omega | (simp only [LN] <;> omega) | (simp (disch := first | assumption | omega | (simp only [LN] <;> omega)) only [row_alloc, row_set]; assumption)) only [W_block, P3, ↓reduceIte, reduceAdd, reduceEqDiff, reduceCtorEq, initFr, reduceLT, clsA, reduceLeDiff, reduceMul, reduceSub, reduceIte, lw, e2, r0, nw, a_load1v, t0, l0, e3, ra, na, t1]
  refine callK (t31 _ _ (Nat.le_trans hlen (by decide))) ?_
  rintro _ X ⟨rfl, hX⟩
  rw [hX]
  cases hr : rightB (ws.getD 1 []) with
  | false =>
    have ep : routeD L ws = (40, L) := by rw [ep0]; unfold routeQD; rw [if_pos (.inr (.inl hr))]
    simp (disch := first | assumption | omega | (simp only [LN] <;> omega) | (simp (disch := first | assumption | omega | (simp only [LN] <;> omega)) only [row_alloc, row_set]; assumption)) only [W_block, P3, ↓reduceIte, reduceAdd, reduceEqDiff, reduceCtorEq, initFr, reduceLT, clsA, reduceLeDiff, reduceMul, reduceSub, reduceIte, gl, gr, ll, ho]
    exact fail _ _ 40 rfl rfl (by rw [ep]) (by decide) (Keeps.refl _)
  | true =>
  simp (disch := first | assumption | omega | (simp only [LN] <;> omega) | (simp (disch := first | assumption | omega | (simp only [LN] <;> omega)) only [row_alloc, row_set]; assumption)) only [W_block, P3, ↓reduceIte, reduceAdd, reduceEqDiff, reduceCtorEq, initFr, reduceLT, clsA, reduceLeDiff, reduceMul, reduceSub, reduceIte, r2, nw, a_load1v, t2]
  refine callK (t67 T2 (hg m2).1 (hg m2).2) ?_
  rintro _ X ⟨rfl, hX⟩
  rw [hX]
  cases hs2 : g2.all shpB with
  | false =>
    have ep : routeD L ws = (40, L) := by rw [ep0]; unfold routeQD; rw [if_pos (.inr (.inr (.inl hs2)))]
    simp (disch := first | assumption | omega | (simp only [LN] <;> omega) | (simp (disch := first | assumption | omega | (simp only [LN] <;> omega)) only [row_alloc, row_set]; assumption)) only [W_block, P3, ↓reduceIte, reduceAdd, reduceEqDiff, reduceCtorEq, initFr, reduceLT, clsA, reduceLeDiff, reduceMul, reduceSub, reduceIte, gl, gr, ll, ho]
    exact fail _ _ 40 rfl rfl (by rw [ep]) (by decide) (Keeps.refl _)
  | true =>
  simp (disch := first | assumption | omega | (simp only [LN] <;> omega) | (simp (disch := first | assumption | omega | (simp only [LN] <;> omega)) only [row_alloc, row_set]; assumption)) only [W_block, P3, ↓reduceIte, reduceAdd, reduceEqDiff, reduceCtorEq, initFr, reduceLT, clsA, reduceLeDiff, reduceMul, reduceSub, reduceIte, r4, nw, a_load1v, t4]
  refine callK (t67 T4 (hg m4).1 (hg m4).2) ?_
  rintro _ X ⟨rfl, hX⟩
  rw [hX]
  cases hs4 : g4.all shpB with
  | false =>
    have ep : routeD L ws = (40, L) := by rw [ep0]; unfold routeQD; rw [if_pos (.inr (.inr (.inr hs4)))]
    simp (disch := first | assumption | omega | (simp only [LN] <;> omega) | (simp (disch := first | assumption | omega | (simp only [LN] <;> omega)) only [row_alloc, row_set]; assumption)) only [W_block, P3, ↓reduceIte, reduceAdd, reduceEqDiff, reduceCtorEq, initFr, reduceLT, clsA, reduceLeDiff, reduceMul, reduceSub, reduceIte, gl, gr, ll, ho]
    exact fail _ _ 40 rfl rfl (by rw [ep]) (by decide) (Keeps.refl _)
  | true =>
  rw [routeQD_t h3 hr hs2 hs4] at ep0
  simp (disch := first | assumption | omega | (simp only [LN] <;> omega) | (simp (disch := first | assumption | omega | (simp only [LN] <;> omega)) only [row_alloc, row_set]; assumption)) only [W_block, P3, ↓reduceIte, reduceAdd, reduceEqDiff, reduceCtorEq, initFr, reduceLT, clsA, reduceLeDiff, reduceMul, reduceSub, reduceIte, gl, ll]
  refine callK (t30 h1.ly hf) ?_
  intro vn K2 on
  have k2 := on.k
  have ra2 := (Keeps.row k2 (Sl.bn_le hv1 (by intro e; simp at e; rw [e] at hwl; simp at hwl) (by omega)) (v := v) (j := 1) (esz := 1)).trans ra
  simp (disch := first | assumption | omega | (simp only [LN] <;> omega) | (simp (disch := first | assumption | omega | (simp only [LN] <;> omega)) only [row_alloc, row_set]; assumption)) only [W_block, P3, ↓reduceIte, reduceAdd, reduceEqDiff, reduceCtorEq, initFr, reduceLT, clsA, reduceLeDiff, reduceMul, reduceSub, reduceIte, ra2, na, a_load1v, t1]
  have blt : bn v - 1 < K1.n := by have h1 := Sl.bn_le hv1 (by intro e; simp at e; rw [e] at hwl; simp at hwl) (by omega); have h2 := nnS_bn na; omega
  refine ⟨⟨blt, k2.get _ blt⟩, ?_⟩
  refine callK (t32 (on.sl : TL K2 vn (namesL L)) (by simp only [namesL, List.length_append, List.length_map]; have := hL.s; have := hL.p; have := hL.g; have := hL.r; omega) (ws.getD 1 [])) ?_
  rintro _ X ⟨rfl, hX⟩
  rw [hX]
  have gl2 := k2.at_ gl
  have gr2 := k2.at_ gr
  rcases ixV_n L (ws.getD 1 []) with ⟨en, ev⟩ | ⟨ix, en, ev⟩
  rotate_left
  · rw [ev]
    have ep : routeD L ws = (41, L) := by rw [ep0, en]; rfl
    have c5 : (0 : Int) ≤ ((ix : Nat) : Int) := by omega
    simp (disch := first | assumption | omega | (simp only [LN] <;> omega) | (simp (disch := first | assumption | omega | (simp only [LN] <;> omega)) only [row_alloc, row_set]; assumption)) only [W_block, P3, ↓reduceIte, reduceAdd, reduceEqDiff, reduceCtorEq, initFr, reduceLT, clsA, reduceLeDiff, reduceMul, reduceSub, reduceIte, gl2, gr2, ll, ho]
    exact fail _ _ 41 rfl rfl (by rw [ep]) (by decide) k2
  rw [ev]
  simp only [en, Bool.false_eq_true, if_false] at ep0
  have c5 : ¬ (0 : Int) ≤ (-1 : Int) := by omega
  have hg2 := h1.keeps k2
  have lg : lenS u.g = L.g.length := hg2.ly.g.len
  have ig := Sl.is hg2.ly.g
  have lgn := hf.g.1
  simp (disch := first | assumption | omega | (simp only [LN] <;> omega) | (simp (disch := first | assumption | omega | (simp only [LN] <;> omega)) only [row_alloc, row_set]; assumption)) only [ P3, ↓reduceIte, reduceAdd, reduceEqDiff, reduceCtorEq, initFr, reduceLT, clsA, reduceLeDiff, reduceMul, reduceSub, reduceIte]
  rw [W_block]
  refine W_loop2 (fun k fr X => ∃ i s x19, fr = [.agg u.l.toArray, v, ptr K.n 0, ptr (K.n + 1) 0, .int .i64 0, w, s, .int .i64 ((i : Nat) : Int), undef, undef, undef, undef, undef, undef, undef, undef, undef, .bool false, .bool false, x19, undef, undef] ∧ OW 9 1 K2 X s (((L.g.take i).map (·.1)).map tRow) ∧ i ≤ L.g.length ∧ k = L.g.length - i) L.g.length
    ⟨0, _, _, rfl, OW.nil _ _ (Keeps.refl K2), by omega, rfl⟩ ?_
  rintro Q' k fr X ⟨i, s, x19, rfl, os, hi, rfl⟩ hn hx hret
  have glX := os.k.at_ gl2
  have grX := os.k.at_ gr2
  by_cases hlt : i < L.g.length
  · obtain ⟨ng, rg⟩ := (hg2.keeps os.k).ly.g.at_ hlt
    have h0 : (0 : Int) ≤ (i : Int) := by omega
    have h1 : (i : Int) < ((lenS u.g : Nat) : Int) := by omega
    have h3 : (i : Int) < ((L.g.length : Nat) : Int) := by omega
    have hwr : IntKind.i64.wrap ((i : Int) + 1) = ((i + 1 : Nat) : Int) := by rw [wrap_i64 (by omega) (by omega)]; simp
    have ts := take_snoc ([], (0 : Int)) hlt
    simp (disch := first | assumption | omega | (simp only [LN] <;> omega) | (simp (disch := first | assumption | omega | (simp only [LN] <;> omega)) only [row_alloc, row_set]; assumption)) only [W_block, P3, ↓reduceIte, reduceAdd, reduceEqDiff, reduceCtorEq, initFr, reduceLT, clsA, reduceLeDiff, reduceMul, reduceSub, reduceIte, glX, V4.l, lg, rg, ng, a_load1v, fill1s]
    have os2 := os.keeps ((Keeps.refl X).alloc (.cells true false 1 [.string ⟨(L.g.getD i ([], 0)).1.toArray⟩] 9))
    refine os2.appR (b := 16) (Sl.one1 rfl rfl) (by simp only [List.length_map, List.length_take, List.length_cons, List.length_nil]; omega) ?_
    intro v' X' os3 _
    simp (disch := first | assumption | omega | (simp only [LN] <;> omega) | (simp (disch := first | assumption | omega | (simp only [LN] <;> omega)) only [row_alloc, row_set]; assumption)) only [W_block, P3, ↓reduceIte, reduceAdd, reduceEqDiff, reduceCtorEq, initFr, reduceLT, clsA, reduceLeDiff, reduceMul, reduceSub, reduceIte, hwr]
    refine hn _ _ _ ⟨i + 1, _, _, rfl, ?_, by omega, rfl⟩ (by omega)
    rw [tRows_app] at os3
    rw [ts]; simpa using os3
  have h3 : ¬ (i : Int) < ((L.g.length : Nat) : Int) := by omega
  simp (disch := first | assumption | omega | (simp only [LN] <;> omega) | (simp (disch := first | assumption | omega | (simp only [LN] <;> omega)) only [row_alloc, row_set]; assumption)) only [W_block, P3, ↓reduceIte, reduceAdd, reduceEqDiff, reduceCtorEq, initFr, reduceLT, clsA, reduceLeDiff, reduceMul, reduceSub, reduceIte, glX, V4.l, lg]
  refine hx 0 _ _ ?_
  rw [List.take_of_length_le (by omega)] at os
  clear hn hx hret
  have kX := k2.trans os.k
  have hvX := Sl.keeps hv1 kX
  have bwv := Sl.bn_le hv1 (by intro e; simp at e; rw [e] at hwl; simp at hwl) (by omega)
  have raX := (Keeps.row kX bwv (v := v) (j := 1) (esz := 1)).trans ra
  have rbX := (Keeps.row kX bwv (v := v) (j := 2) (esz := 1)).trans rb
  simp (disch := first | assumption | omega | (simp only [LN] <;> omega) | (simp (disch := first | assumption | omega | (simp only [LN] <;> omega)) only [row_alloc, row_set]; assumption)) only [W_block, P3, ↓reduceIte, reduceAdd, reduceEqDiff, reduceCtorEq, initFr, reduceLT, clsA, reduceLeDiff, reduceMul, reduceSub, reduceIte, raX, rbX, na, a_load1v, t1, t2]
  refine callK (t32 (os.sl : TL X s (L.g.map (·.1))) (by rw [List.length_map]; omega) (ws.getD 2 [])) ?_
  rintro _ Y ⟨rfl, hY⟩
  rw [hY]
  generalize hsv : ixV (ws.getD 2 []) (L.g.map (·.1)) = sv at *
  generalize hnm : Value.string ⟨(ws.getD 1 []).toArray⟩ = nm at *
  have hfz : fillA [.string ByteArray.empty, .int .i64 0, .slice none 0 0, .slice none 0 0, .slice none 0 0, .slice none 0 0] [(0, 1, nm), (1, 1, .int .i64 sv)] = some [nm, .int .i64 sv, .slice none 0 0, .slice none 0 0, .slice none 0 0, .slice none 0 0] := by rw [← hnm]; rfl
  have onm : nm.oneCell' = true := by rw [← hnm]; rfl
  have S0 : SepH X _ [thB X.n (rO [nm, .int .i64 sv, .slice none 0 0, .slice none 0 0, .slice none 0 0, .slice none 0 0])] := (SepH.nil X).box _
  have bww : bn w ≤ K1.n := Sl.bn_le sg (by simp) (by omega)
  have rX : ∀ {j : Nat} {r : List Value}, rowA K1 1 w j = some r → ∀ {Y : AHeap}, Keeps X Y → rowA Y 1 w j = some r := fun h Y k => (Keeps.row (kX.trans k) bww).trans h
  have r1' := rX r1 S0.k
  have gk0 := S0.k.at_ glX
  have onz : [nm, .int .i64 sv, .slice none 0 0, .slice none 0 0, .slice none 0 0, .slice none 0 0].all Value.oneCell' = true := by simp only [List.all_cons, List.all_nil, onm]; rfl
  simp only [rO] at r1' gk0
  simp (disch := first | assumption | omega | (simp only [LN] <;> omega) | (simp (disch := first | assumption | omega | (simp only [LN] <;> omega)) only [row_alloc, row_set]; assumption)) only [W_block, P3, ↓reduceIte, reduceAdd, reduceEqDiff, reduceCtorEq, initFr, reduceLT, clsA, reduceLeDiff, reduceMul, reduceSub, reduceIte, hfz, onz, gk0, ll, r1', nw, a_load1v, t1]
  refine ⟨by simp, ?_⟩
  refine callK (t68 ((hg2.keeps os.k).keeps S0.k).ly hf.s.1 (Sl.keeps T1 (kX.trans S0.k)) (hg m1).1) ?_
  rintro _ X1 ⟨j1, x1, rfl, o1⟩
  have S1 := S0.add j1 o1.th o1.thf
  generalize hPa : oAll (sIx L) g1 = Pa at *
  have r2' := rX r2 S1.k
  have gk1 := S1.k.at_ glX
  simp (disch := first | assumption | omega | (simp only [LN] <;> omega) | (simp (disch := first | assumption | omega | (simp only [LN] <;> omega)) only [row_alloc, row_set]; assumption)) only [W_block, P3, ↓reduceIte, reduceAdd, reduceEqDiff, reduceCtorEq, initFr, reduceLT, clsA, reduceLeDiff, reduceMul, reduceSub, reduceIte, gk1, ll, r2', nw, a_load1v, t2]
  refine callK (t69 ((hg2.keeps os.k).keeps S1.k).ly hf.p.1 (Sl.keeps T2 (kX.trans S1.k)) (hg m2).1 (all_shp hs2 (hg m2).2)) ?_
  rintro _ X2 ⟨j2, x2, rfl, o2⟩
  have S2 := S1.add j2 o2.th o2.thf
  generalize hPb : oAll (nIx L) g2 = Pb at *
  have r3' := rX r3 S2.k
  have gk2 := S2.k.at_ glX
  simp (disch := first | assumption | omega | (simp only [LN] <;> omega) | (simp (disch := first | assumption | omega | (simp only [LN] <;> omega)) only [row_alloc, row_set]; assumption)) only [W_block, P3, ↓reduceIte, reduceAdd, reduceEqDiff, reduceCtorEq, initFr, reduceLT, clsA, reduceLeDiff, reduceMul, reduceSub, reduceIte, gk2, ll, r3', nw, a_load1v, t3]
  refine callK (t68 ((hg2.keeps os.k).keeps S2.k).ly hf.s.1 (Sl.keeps T3 (kX.trans S2.k)) (hg m3).1) ?_
  rintro _ X3 ⟨j3, x3, rfl, o3⟩
  have S3 := S2.add j3 o3.th o3.thf
  generalize hPc : oAll (sIx L) g3 = Pc at *
  have r4' := rX r4 S3.k
  have gk3 := S3.k.at_ glX
  simp (disch := first | assumption | omega | (simp only [LN] <;> omega) | (simp (disch := first | assumption | omega | (simp only [LN] <;> omega)) only [row_alloc, row_set]; assumption)) only [W_block, P3, ↓reduceIte, reduceAdd, reduceEqDiff, reduceCtorEq, initFr, reduceLT, clsA, reduceLeDiff, reduceMul, reduceSub, reduceIte, gk3, ll, r4', nw, a_load1v, t4]
  refine callK (t69 ((hg2.keeps os.k).keeps S3.k).ly hf.p.1 (Sl.keeps T4 (kX.trans S3.k)) (hg m4).1 (all_shp hs4 (hg m4).2)) ?_
  rintro _ X4 ⟨j4, x4, rfl, o4⟩
  have S4 := S3.add j4 o4.th o4.thf
  generalize hPd : oAll (nIx L) g4 = Pd at *
  have gr4 := (kX.trans S4.k)
  have gk4 := S4.k.at_ glX
  have gz4 := S4.k.at_ grX
  have rbx : X4.get X.n = some (rO [nm, .int .i64 sv, .slice none 0 0, .slice none 0 0, .slice none 0 0, .slice none 0 0]) := S4.at_ 4 rfl
  simp only [rO] at rbx
  have k4x := S4.k
  have n4x : X.n < X4.n := AHeap.get_lt rbx
  obtain ⟨ea, hea⟩ : ∃ e : Int, (if Pa.isSome = true then (0 : Int) else 42) = e := ⟨_, rfl⟩
  obtain ⟨eb, heb⟩ : ∃ e : Int, (if Pb.isSome = true then (0 : Int) else 42) = e := ⟨_, rfl⟩
  obtain ⟨ec, hec⟩ : ∃ e : Int, (if Pc.isSome = true then (0 : Int) else 42) = e := ⟨_, rfl⟩
  obtain ⟨ed, hed⟩ : ∃ e : Int, (if Pd.isSome = true then (0 : Int) else 42) = e := ⟨_, rfl⟩
  rw [hea, heb, hec, hed]
  rcases ixV_g L (ws.getD 2 []) with ⟨es, ev⟩ | ⟨s, es, ev⟩
  · rw [ev] at hsv
    subst hsv
    rw [es] at ep0
    have ep : routeD L ws = (42, L) := by rw [ep0]
    have c6 : (-1 : Int) < 0 := by omega
    simp (disch := first | assumption | omega | (simp only [LN] <;> omega) | (simp (disch := first | assumption | omega | (simp only [LN] <;> omega)) only [row_alloc, row_set]; assumption)) only [W_block, P3, ↓reduceIte, reduceAdd, reduceEqDiff, reduceCtorEq, initFr, reduceLT, clsA, reduceLeDiff, reduceMul, reduceSub, reduceIte, rbx, gk4, gz4, ll, ho]
    exact fail _ _ 42 rfl rfl (by rw [ep]) (by decide) gr4
  rw [ev] at hsv
  subst hsv
  rw [es] at ep0
  have c6 : ¬ ((s : Nat) : Int) < 0 := by omega
  have hfe : fillA [.int .i64 0, .int .i64 0, .int .i64 0, .int .i64 0] [(0, 1, .int .i64 ea), (1, 1, .int .i64 eb), (2, 1, .int .i64 ec), (3, 1, .int .i64 ed)] = some [.int .i64 ea, .int .i64 eb, .int .i64 ec, .int .i64 ed] := rfl
  have k5 : Keeps X4 (X4.alloc (.cells true false 1 [.int .i64 ea, .int .i64 eb, .int .i64 ec, .int .i64 ed] 29)) := (Keeps.refl X4).alloc _
  have il : IL (X4.alloc (.cells true false 1 [.int .i64 ea, .int .i64 eb, .int .i64 ec, .int .i64 ed] 29)) (slc X4.n 0 4 4) [ea, eb, ec, ed] := ⟨⟨_, _, rfl⟩, by simp [iRow], by rw [elems_new rfl rfl]; rfl⟩
  have S5 := S4.keeps k5
  simp (disch := first | assumption | omega | (simp only [LN] <;> omega) | (simp (disch := first | assumption | omega | (simp only [LN] <;> omega)) only [row_alloc, row_set]; assumption)) only [W_block, P3, ↓reduceIte, reduceAdd, reduceEqDiff, reduceCtorEq, initFr, reduceLT, clsA, reduceLeDiff, reduceMul, reduceSub, reduceIte, rbx, hfe]
  refine callK (t70 il (by simp)) ?_
  rintro _ Y ⟨rfl, hY⟩
  rw [hY]
  have gk5 := k5.at_ gk4
  have gz5 := k5.at_ gz4
  have rb5 := k5.at_ rbx
  generalize X4.alloc (.cells true false 1 [.int .i64 ea, .int .i64 eb, .int .i64 ec, .int .i64 ed] 29) = X5 at *
  by_cases hall : (Pa.isSome && Pb.isSome && Pc.isSome && Pd.isSome) = true
  rotate_left
  · have ep : routeD L ws = (42, L) := by
      rw [ep0]; cases Pa <;> cases Pb <;> cases Pc <;> cases Pd <;> first | rfl | exact absurd rfl hall
    have e0 : (fstE [ea, eb, ec, ed] != 0) = true := by
      subst hea heb hec hed
      cases Pa <;> cases Pb <;> cases Pc <;> cases Pd <;> first | rfl | exact absurd rfl hall
    simp (disch := first | assumption | omega | (simp only [LN] <;> omega) | (simp (disch := first | assumption | omega | (simp only [LN] <;> omega)) only [row_alloc, row_set]; assumption)) only [W_block, P3, ↓reduceIte, reduceAdd, reduceEqDiff, reduceCtorEq, initFr, reduceLT, clsA, reduceLeDiff, reduceMul, reduceSub, reduceIte, e0, gk5, gz5, ll, ho]
    exact fail _ _ 42 rfl rfl (by rw [ep]) (by decide) (gr4.trans k5)
  cases Pa with
  | none => cases hall
  | some p =>
  cases Pb with
  | none => cases hall
  | some q =>
  cases Pc with
  | none => cases hall
  | some o =>
  cases Pd with
  | none => cases hall
  | some f =>
  simp only [Option.isSome_some, if_true] at hea heb hec hed
  subst hea heb hec hed
  have e0 : (fstE [0, 0, 0, 0] != 0) = false := rfl
  simp only [Option.getD_some] at o1 o2 o3 o4 S1 S2 S3 S4 S5
  have L1 : lenS x1 = p.length := by rw [o1.len]; simp
  have L2 : lenS x2 = q.length := by rw [o2.len]; simp
  have L3 : lenS x3 = o.length := by rw [o3.len]; simp
  have L4 : lenS x4 = f.length := by rw [o4.len]; simp
  have I1 := o1.is
  have I2 := o2.is
  have I3 := o3.is
  have I4 := o4.is
  have v1' : x1.oneCell' = true := o1.one
  have v2' : x2.oneCell' = true := o2.one
  have v3' : x3.oneCell' = true := o3.one
  have v4' : x4.oneCell' = true := o4.one
  have w1' : one1 x1 = True := by simp [one1, v1']
  have w2' : one1 x2 = True := by simp [one1, v2']
  have w3' : one1 x3 = True := by simp [one1, v3']
  have w4' : one1 x4 = True := by simp [one1, v4']
  have n5x : X.n < X5.n := AHeap.get_lt rb5
  have lbx : K.n < X.n := AHeap.get_lt glX
  have rbx' : K.n + 1 < X.n := AHeap.get_lt grX
  have k6 : Keeps X (X5.set X.n (rO [nm, .int .i64 ((s : Nat) : Int), x1, x2, x3, x4])) := (S5.k).set (Nat.le_refl _) n5x _
  by_cases hlim : 16 < p.length ∨ 16 < q.length ∨ 16 < o.length ∨ 16 < f.length
  · have ep : routeD L ws = (3, L) := by rw [ep0]; exact if_pos hlim
    have fin := fun fr h3 h4 => fail fr (X5.set X.n (rO [nm, .int .i64 ((s : Nat) : Int), x1, x2, x3, x4])) 3 h3 h4 (by rw [ep]) (by decide) (kX.trans k6)
    simp only [rO] at fin
    by_cases b1 : 16 < p.length
    · have q1 : (16 : Int) < ((p.length : Nat) : Int) := by omega
      simp (disch := first | assumption | omega | (simp only [LN] <;> omega) | (simp (disch := first | assumption | omega | (simp only [LN] <;> omega)) only [row_alloc, row_set]; assumption)) only [W_block, P3, ↓reduceIte, reduceAdd, reduceEqDiff, reduceCtorEq, initFr, reduceLT, clsA, reduceLeDiff, reduceMul, reduceSub, reduceIte, e0, gk5, gz5, rb5, ll, ho, w1', w2', w3', w4', v1', v2', v3', v4', L1, L2, L3, L4]
      exact fin _ rfl rfl
    have q1 : ¬ (16 : Int) < ((p.length : Nat) : Int) := by omega
    by_cases b2 : 16 < q.length
    · have q2 : (16 : Int) < ((q.length : Nat) : Int) := by omega
      simp (disch := first | assumption | omega | (simp only [LN] <;> omega) | (simp (disch := first | assumption | omega | (simp only [LN] <;> omega)) only [row_alloc, row_set]; assumption)) only [W_block, P3, ↓reduceIte, reduceAdd, reduceEqDiff, reduceCtorEq, initFr, reduceLT, clsA, reduceLeDiff, reduceMul, reduceSub, reduceIte, e0, gk5, gz5, rb5, ll, ho, w1', w2', w3', w4', v1', v2', v3', v4', L1, L2, L3, L4]
      exact fin _ rfl rfl
    have q2 : ¬ (16 : Int) < ((q.length : Nat) : Int) := by omega
    by_cases b3 : 16 < o.length
    · have q3 : (16 : Int) < ((o.length : Nat) : Int) := by omega
      simp (disch := first | assumption | omega | (simp only [LN] <;> omega) | (simp (disch := first | assumption | omega | (simp only [LN] <;> omega)) only [row_alloc, row_set]; assumption)) only [W_block, P3, ↓reduceIte, reduceAdd, reduceEqDiff, reduceCtorEq, initFr, reduceLT, clsA, reduceLeDiff, reduceMul, reduceSub, reduceIte, e0, gk5, gz5, rb5, ll, ho, w1', w2', w3', w4', v1', v2', v3', v4', L1, L2, L3, L4]
      exact fin _ rfl rfl
    have q3 : ¬ (16 : Int) < ((o.length : Nat) : Int) := by omega
    have q4 : (16 : Int) < ((f.length : Nat) : Int) := by omega
    simp (disch := first | assumption | omega | (simp only [LN] <;> omega) | (simp (disch := first | assumption | omega | (simp only [LN] <;> omega)) only [row_alloc, row_set]; assumption)) only [W_block, P3, ↓reduceIte, reduceAdd, reduceEqDiff, reduceCtorEq, initFr, reduceLT, clsA, reduceLeDiff, reduceMul, reduceSub, reduceIte, e0, gk5, gz5, rb5, ll, ho, w1', w2', w3', w4', v1', v2', v3', v4', L1, L2, L3, L4]
    exact fin _ rfl rfl
  have q1 : ¬ (16 : Int) < ((p.length : Nat) : Int) := by omega
  have q2 : ¬ (16 : Int) < ((q.length : Nat) : Int) := by omega
  have q3 : ¬ (16 : Int) < ((o.length : Nat) : Int) := by omega
  have q4 : ¬ (16 : Int) < ((f.length : Nat) : Int) := by omega
  have ep : routeD L ws = (0, { L with r := L.r ++ [⟨ws.getD 1 [], ((s : Nat) : Int), p, q, o, f⟩] }) := by rw [ep0]; exact if_neg hlim
  subst hnm
  have S6 := S5.u4 (t' := thB X.n (rO [.string ⟨(ws.getD 1 []).toArray⟩, .int .i64 ((s : Nat) : Int), x1, x2, x3, x4])) (Chg.set X5 n5x _) (AHeap.get_set_same rb5 _) (fun y hy => .inl hy)
  have hx : (thI [⟨⟨ws.getD 1 [], ((s : Nat) : Int), p, q, o, f⟩, x1, x2, x3, x4⟩]).P _ := fun y hy => by
    rw [List.mem_singleton] at hy
    subst hy
    have a1 := S6.at_ 3 rfl
    have a2 := S6.at_ 2 rfl
    have a3 := S6.at_ 1 rfl
    have a4 := S6.at_ 0 rfl
    exact ⟨AP.sl (rows := p.map iRow) a1 o1.r rfl, AP.sl (rows := q.map nRow) a2 o2.r rfl, AP.sl (rows := o.map iRow) a3 o3.r rfl, AP.sl (rows := f.map nRow) a4 o4.r rfl⟩
  have S7 := S6.merges (us := [_, _, _, _]) (r := [_]) hx (fun y hy => by
    have hy' : y ∈ (⟨⟨ws.getD 1 [], ((s : Nat) : Int), p, q, o, f⟩, x1, x2, x3, x4⟩ : RV).bl := by simpa [thI] using hy
    simp only [RV.bl, List.mem_append] at hy'
    rcases hy' with ((e | e) | e) | e
    · exact ⟨_, List.mem_cons_of_mem _ (List.mem_cons_of_mem _ (List.mem_cons_of_mem _ (List.mem_cons_self ..))), tb_blk o1.ap y e⟩
    · exact ⟨_, List.mem_cons_of_mem _ (List.mem_cons_of_mem _ (List.mem_cons_self ..)), tb_blk o2.ap y e⟩
    · exact ⟨_, List.mem_cons_of_mem _ (List.mem_cons_self ..), tb_blk o3.ap y e⟩
    · exact ⟨_, List.mem_cons_self .., tb_blk o4.ap y e⟩)
  have J := (J1.keeps kX).join S7
  have J2 := J.perm (List.Perm.cons _ ((List.perm_append_comm (l₁ := [_, _, _, _, _, _, _]) (l₂ := [_])).append_right ex))
  have J3 := J2.merges (us := [_, _]) (r := _ :: _ :: _ :: _ :: _ :: _ :: _ :: ex) (t := thI (xs ++ [⟨⟨ws.getD 1 [], ((s : Nat) : Int), p, q, o, f⟩, x1, x2, x3, x4⟩])) (fun y hy => by
    rcases List.mem_append.1 hy with hy | hy
    · exact J2.at_ 1 rfl y hy
    · exact J2.at_ 0 rfl y hy) (fun y hy => by
    simp only [thI, List.flatMap_append, List.mem_append] at hy
    rcases hy with e | e
    · exact ⟨_, List.mem_cons_of_mem _ (List.mem_cons_self ..), e⟩
    · exact ⟨_, List.mem_cons_self .., e⟩)
  have hf6 : fillA [.string ByteArray.empty, .int .i64 0, .slice none 0 0, .slice none 0 0, .slice none 0 0, .slice none 0 0] [(0, 6, .agg #[.string ⟨(ws.getD 1 []).toArray⟩, .int .i64 ((s : Nat) : Int), x1, x2, x3, x4])] = some [.string ⟨(ws.getD 1 []).toArray⟩, .int .i64 ((s : Nat) : Int), x1, x2, x3, x4] := rfl
  have ha6 : [.string ⟨(ws.getD 1 []).toArray⟩, .int .i64 ((s : Nat) : Int), x1, x2, x3, x4].all Value.oneCell' = true := by
    simp only [List.all_cons, List.all_nil, v1', v2', v3', v4', Bool.and_true]; rfl
  simp (disch := first | assumption | omega | (simp only [LN] <;> omega) | (simp (disch := first | assumption | omega | (simp only [LN] <;> omega)) only [row_alloc, row_set]; assumption)) only [W_block, P3, ↓reduceIte, reduceAdd, reduceEqDiff, reduceCtorEq, initFr, reduceLT, clsA, reduceLeDiff, reduceMul, reduceSub, reduceIte, e0, gk5, gz5, rb5, ll, ho, w1', w2', w3', w4', v1', v2', v3', v4', L1, L2, L3, L4, hf6, ha6, V4.l]
  have J4 := J3.keeps ((Keeps.refl _).alloc (.cells true false 6 [.string ⟨(ws.getD 1 []).toArray⟩, .int .i64 ((s : Nat) : Int), x1, x2, x3, x4] 43))
  have a8 : AP _ 43 6 u.r xs.length (xs.map RV.row).flatten := J4.at_ 7 rfl
  have lx : xs.length = L.r.length := h1.ly.rlen
  have hL4 := hL.r
  refine appG a8 ⟨_, _, rfl⟩ (elems_new rfl rfl) rfl ⟨by omega, by omega⟩ ?_
  intro v' K9 a9 c9 hb9
  have ov : v'.oneCell' = true := by obtain ⟨a, rfl⟩ := a9.shape; rfl
  have ow : one1 v' = True := by simp [one1, ov]
  have J9 := J4.upd (l := [_, _, _, _, _, _, _]) (r := ex) (t' := thA 43 6 v' (xs.length + 1) ((xs.map RV.row).flatten ++ [.string ⟨(ws.getD 1 []).toArray⟩, .int .i64 ((s : Nat) : Int), x1, x2, x3, x4])) c9 a9 (fun y hy => by
    rcases hb9 with e | e
    · left; have := mem_blkL.1 hy; rw [e] at this; exact mem_blkL.2 this
    · right; have := mem_blkL.1 hy; rw [e] at this; cases this; exact Nat.le_refl _)
  have gl9 : K9.get K.n = some (.cells true false 4 [u.s, u.p, u.g, u.r] 28) := J9.at_ 3 rfl
  have gr9 : K9.get (K.n + 1) = some (.cells true false 4 [.slice none 0 0, .slice none 0 0, .slice none 0 0, .slice none 0 0] 28) := J9.at_ 2 rfl
  have n9 := AHeap.get_lt gr9
  have hou : [u.s, u.p, u.g, v'].all Value.oneCell' = true := by
    simp only [List.all_cons, List.all_nil, Sl.one h1.ly.s, Sl.one h1.ly.p, Sl.one h1.ly.g, ov]; rfl
  simp (disch := first | assumption | omega | (simp only [LN] <;> omega) | (simp (disch := first | assumption | omega | (simp only [LN] <;> omega)) only [row_alloc, row_set]; assumption)) only [W_block, P3, ↓reduceIte, reduceAdd, reduceEqDiff, reduceCtorEq, initFr, reduceLT, clsA, reduceLeDiff, reduceMul, reduceSub, reduceIte, gl9, gr9, ow, ov, hou]
  have JA := J9.u3 (t' := thB K.n (lO [u.s, u.p, u.g, v'])) (Chg.set K9 (AHeap.get_lt gl9) _) (AHeap.get_set_same gl9 _) (fun y hy => .inl hy)
  have grA : _ = some (AO.cells true false 4 [.slice none 0 0, .slice none 0 0, .slice none 0 0, .slice none 0 0] 28) := JA.at_ 2 rfl
  have JB := JA.u2 (t' := thB (K.n + 1) (lO [u.s, u.p, u.g, v'])) (Chg.set _ (AHeap.get_lt grA) _) (AHeap.get_set_same grA _) (fun y hy => .inl hy)
  refine hq2 _ _ ⟨_, resL rfl rfl (JB.at_ 2 rfl) rfl, JB.k, ⟨u.s, u.p, u.g, v'⟩, by rw [ep]; rfl, hou, fun _ => ⟨xs ++ [⟨⟨ws.getD 1 [], ((s : Nat) : Int), p, q, o, f⟩, x1, x2, x3, x4⟩], ?_⟩, fun e => absurd (by rw [ep]) e⟩
  rw [ep]
  refine ⟨?_, by simp [h.e]⟩
  have JC := (JB.perm ((List.perm_append_comm (l₁ := [_]) (l₂ := [_, _, _, _, _, _, _])).append_right ex)).tail.tail.tail
  have ef : (xs.map RV.row).flatten ++ [.string ⟨(ws.getD 1 []).toArray⟩, .int .i64 ((s : Nat) : Int), x1, x2, x3, x4] = ((xs ++ [(⟨⟨ws.getD 1 [], ((s : Nat) : Int), p, q, o, f⟩, x1, x2, x3, x4⟩ : RV)]).map RV.row).flatten := by simp [RV.row]
  rw [ef] at JC
  have : xs.length + 1 = (xs ++ [(⟨⟨ws.getD 1 [], ((s : Nat) : Int), p, q, o, f⟩, x1, x2, x3, x4⟩ : RV)]).length := by simp
  rw [this] at JC
  exact JC
end Go.AM.Fd

set_option linter.unusedSimpArgs false
set_option linter.unusedVariables false
namespace Go.AM.Fd
open Nat (reduceAdd reduceEqDiff reduceLT reduceLeDiff reduceMul reduceSub)
open Go.Proofs Go.AM.F
theorem b_neS (a b : List UInt8) : binA .neq (.string ⟨a.toArray⟩) (.string ⟨b.toArray⟩) = some (.bool (!decide (a = b))) := by
  have h := b_eqS a b
  simp only [binA, strA, Option.some.injEq, Value.bool.injEq] at h ⊢
  rw [h]
def lineD0 (L : Ly) (ws : List (List UInt8)) : Int × Ly :=
  if ws.getD 0 [] = wRoute then (if ws.length < 2 then (40, L) else routeD L ws)
  else if ws.getD 0 [] = wSection then (if ws.length ≠ 2 ∨ rightB (ws.getD 1 []) = false then (40, L) else if (ixT (ws.getD 1 []) (namesL L)).isSome then (41, L) else (0, { L with s := L.s ++ [ws.getD 1 []] }))
  else if ws.getD 0 [] = wPoint then (if ws.length ≠ 3 ∨ rightB (ws.getD 1 []) = false then (40, L) else if (ixT (ws.getD 1 []) (namesL L)).isSome then (41, L) else match sIx L (ws.getD 2 []) with
    | none => (42, L)
    | some i => (0, { L with p := L.p ++ [(ws.getD 1 [], i)] }))
  else if ws.getD 0 [] = wSignal then (if ws.length ≠ 3 ∨ rightB (ws.getD 1 []) = false then (40, L) else if (ixT (ws.getD 1 []) (namesL L)).isSome then (41, L) else match sIx L (ws.getD 2 []) with
    | none => (42, L)
    | some i => (0, { L with g := L.g ++ [(ws.getD 1 [], i)] }))
  else (40, L)
set_option maxHeartbeats 8000000 in
theorem t22 {B K : AHeap} {u : V4} {xs : List RV} {L : Ly} {ex : List Th} {v : Value} {ws : List (List UInt8)} (h : DR B K u xs L ex) (hf : LyFit L) (hL : LyLim L) (hv : TL K v ws) (hl : ws.length ≤ 1000000) (h1w : 1 ≤ ws.length) (hw : ∀ w ∈ ws, w.length ≤ 1000000000) :
    ∃ w K', ARun Go.Proofs.Tryd.prog 4 22 [.agg u.l.toArray, v] K w K' ∧ Keeps B K' ∧ ∃ u', w = .tuple #[.agg u'.l.toArray, .int .i64 (lineD0 L ws).1] ∧ u'.l.all Value.oneCell' = true ∧ ((lineD0 L ws).1 = 0 → ∃ xs', DR B K' u' xs' (lineD0 L ws).2 ex) ∧ ((lineD0 L ws).1 ≠ 0 → Keeps K K') := by
  refine walk2 f22_ok f22_n ?_
  intro Q hq1 hq2
  have ho := ly_ones h.ly
  have ll : u.l.length = 4 := rfl
  have nil_ones : [Value.slice none 0 0, .slice none 0 0, .slice none 0 0, .slice none 0 0].all Value.oneCell' = true := rfl
  have J1 := (h.sep.box (lO u.l)).box (lO [.slice none 0 0, .slice none 0 0, .slice none 0 0, .slice none 0 0])
  have k01 : Keeps K ((K.alloc (lO u.l)).alloc (lO [.slice none 0 0, .slice none 0 0, .slice none 0 0, .slice none 0 0])) := ((Keeps.refl K).alloc _).alloc _
  have h1 := h.keeps k01
  have hv1 : TL _ v ws := Sl.keeps hv k01
  have gl : ((K.alloc (lO u.l)).alloc (lO [.slice none 0 0, .slice none 0 0, .slice none 0 0, .slice none 0 0])).get K.n = some (.cells true false 4 u.l 28) := J1.at_ 1 rfl
  have gr : ((K.alloc (lO u.l)).alloc (lO [.slice none 0 0, .slice none 0 0, .slice none 0 0, .slice none 0 0])).get (K.n + 1) = some (.cells true false 4 [.slice none 0 0, .slice none 0 0, .slice none 0 0, .slice none 0 0] 28) := J1.at_ 0 rfl
  simp only [lO] at J1 k01 h1 hv1 gl gr
  have ia := Sl.is hv
  have la := hv.len
  have c0 : (0 : Int) ≤ 0 := by omega
  have c1 : (0 : Int) ≤ 1 := by omega
  have c2 : (0 : Int) ≤ 2 := by omega
  have t0 : Int.toNat 0 = 0 := rfl
  have t1 : Int.toNat 1 = 1 := rfl
  have t2 : Int.toNat 2 = 2 := rfl
  have d0 : (0 : Int) < ((lenS v : Nat) : Int) := by omega
  have bwv := Sl.bn_le hv1 (by intro e; simp at e; rw [e] at h1w; simp at h1w) (by omega)
  simp (disch := first | assumption | omega | (simp only [LN] <;> omega) | (simp (disch := first | assumption | omega | (simp only [LN] <;> omega)) only [row_alloc, row_set]; assumption)) only [ f22, P3, ↓reduceIte, reduceAdd, reduceEqDiff, reduceCtorEq, initFr, reduceLT, clsA, reduceLeDiff, reduceMul, reduceSub, reduceIte, ho]
  generalize (K.alloc (.cells true false 4 u.l 28)).alloc (.cells true false 4 [.slice none 0 0, .slice none 0 0, .slice none 0 0, .slice none 0 0] 28) = K1 at *
  obtain ⟨na, r0⟩ := hv1.at_ (i := 0) (by omega)
  unfold tRow at r0
  have nlt : K.n + 1 < K1.n := AHeap.get_lt gr
  have blt : bn v - 1 < K1.n := by have h2 := nnS_bn na; omega
  have fail : ∀ (fr : List Value) (X : AHeap) (e : Int), fr.getD 3 undef = ptr (K.n + 1) 0 → fr.getD 4 undef = .int .i64 e → (lineD0 L ws).1 = e → e ≠ 0 → Keeps K1 X → Q .ret fr (X.set (K.n + 1) (.cells true false 4 u.l 28)) := fun fr X e f3 f4 hd he kx => by
    have gx := kx.at_ gr
    refine hq2 _ _ ⟨_, resL f3 f4 (AHeap.get_set_same gx _) rfl, ?_, u, by rw [hd], ho, fun e0 => absurd (hd.symm.trans e0) he, fun _ => (k01.trans kx).set (by omega) (AHeap.get_lt gx) _⟩
    have h4 := (J1.keeps kx).u0 (t' := thB (K.n + 1) (lO u.l)) (Chg.set X (AHeap.get_lt gx) (lO u.l)) (AHeap.get_set_same gx _) (fun y hy => .inl hy)
    exact h4.k
  have q1 : binA .eql (.string ⟨(ws.getD 0 []).toArray⟩) (.string ⟨⟨[114, 111, 117, 116, 101]⟩⟩) = some (.bool (decide (ws.getD 0 [] = wRoute))) := b_eqS _ wRoute
  have q2 : binA .eql (.string ⟨(ws.getD 0 []).toArray⟩) (.string ⟨⟨[115, 101, 99, 116, 105, 111, 110]⟩⟩) = some (.bool (decide (ws.getD 0 [] = wSection))) := b_eqS _ wSection
  have q3 : binA .eql (.string ⟨(ws.getD 0 []).toArray⟩) (.string ⟨⟨[112, 111, 105, 110, 116]⟩⟩) = some (.bool (decide (ws.getD 0 [] = wPoint))) := b_eqS _ wPoint
  have n2 : binA .neq (.string ⟨(ws.getD 0 []).toArray⟩) (.string ⟨⟨[115, 101, 99, 116, 105, 111, 110]⟩⟩) = some (.bool (!decide (ws.getD 0 [] = wSection))) := b_neS _ wSection
  have n3 : binA .neq (.string ⟨(ws.getD 0 []).toArray⟩) (.string ⟨⟨[112, 111, 105, 110, 116]⟩⟩) = some (.bool (!decide (ws.getD 0 [] = wPoint))) := b_neS _ wPoint
  have n4 : binA .neq (.string ⟨(ws.getD 0 []).toArray⟩) (.string ⟨⟨[115, 105, 103, 110, 97, 108]⟩⟩) = some (.bool (!decide (ws.getD 0 [] = wSignal))) := b_neS _ wSignal
  have dR : decide (wRoute = wSection) = false := by decide
  by_cases hR : ws.getD 0 [] = wRoute
  · have ed : lineD0 L ws = if ws.length < 2 then ((40 : Int), L) else routeD L ws := by unfold lineD0; rw [if_pos hR]
    rw [decide_eq_true hR] at q1
    by_cases h2 : ws.length < 2
    · have e2 : ((ws.length : Nat) : Int) < 2 := by omega
      simp (disch := first | assumption | omega | (simp only [LN] <;> omega) | (simp (disch := first | assumption | omega | (simp only [LN] <;> omega)) only [row_alloc, row_set]; assumption)) only [W_block, P3, ↓reduceIte, reduceAdd, reduceEqDiff, reduceCtorEq, initFr, reduceLT, clsA, reduceLeDiff, reduceMul, reduceSub, reduceIte, r0, na, a_load1v, t0, q1, la, gl, gr, ll, ho]
      exact fail _ _ 40 rfl rfl (by rw [ed, if_pos h2]) (by decide) (Keeps.refl _)
    have e2 : ¬ ((ws.length : Nat) : Int) < 2 := by omega
    rw [if_neg h2] at ed
    simp (disch := first | assumption | omega | (simp only [LN] <;> omega) | (simp (disch := first | assumption | omega | (simp only [LN] <;> omega)) only [row_alloc, row_set]; assumption)) only [W_block, P3, ↓reduceIte, reduceAdd, reduceEqDiff, reduceCtorEq, initFr, reduceLT, clsA, reduceLeDiff, reduceMul, reduceSub, reduceIte, r0, na, a_load1v, t0, q1, la, gl, gr, ll, ho]
    have hD : DR B K1 u xs L (thB (K.n + 1) (lO [.slice none 0 0, .slice none 0 0, .slice none 0 0, .slice none 0 0]) :: thB K.n (lO u.l) :: ex) := by
      refine ⟨?_, h.e⟩
      have := J1.perm ((List.perm_append_comm (l₁ := [_, _]) (l₂ := [_, _, _, _, _])).append_right ex)
      exact this
    refine callK (t49 hD hf hL hv1 hl (by omega) hw) ?_
    rintro _ X ⟨kx, u', rfl, o', r', f'⟩
    have l' : u'.l.length = 4 := rfl
    by_cases hz : (routeD L ws).1 = 0
    · obtain ⟨xs', D'⟩ := r' hz
      have gx : X.get (K.n + 1) = some (.cells true false 4 [.slice none 0 0, .slice none 0 0, .slice none 0 0, .slice none 0 0] 28) := D'.sep.at_ 5 rfl
      simp (disch := first | assumption | omega | (simp only [LN] <;> omega) | (simp (disch := first | assumption | omega | (simp only [LN] <;> omega)) only [row_alloc, row_set]; assumption)) only [W_block, P3, ↓reduceIte, reduceAdd, reduceEqDiff, reduceCtorEq, initFr, reduceLT, clsA, reduceLeDiff, reduceMul, reduceSub, reduceIte, gx, l', o']
      have D2 := (D'.sep.perm ((List.perm_append_comm (l₁ := [_, _, _, _, _]) (l₂ := [_, _])).append_right ex)).u0 (t' := thB (K.n + 1) (lO u'.l)) (Chg.set X (AHeap.get_lt gx) _) (AHeap.get_set_same gx _) (fun y hy => .inl hy)
      refine hq2 _ _ ⟨_, resL rfl rfl (AHeap.get_set_same gx _) rfl, D2.k, u', by rw [ed]; rfl, o', fun _ => ⟨xs', ?_⟩, fun e => absurd (by rw [ed]; exact hz) e⟩
      rw [ed]
      exact ⟨D2.tail.tail, D'.e⟩
    · have kx' := f' hz
      have gx := kx'.at_ gr
      simp (disch := first | assumption | omega | (simp only [LN] <;> omega) | (simp (disch := first | assumption | omega | (simp only [LN] <;> omega)) only [row_alloc, row_set]; assumption)) only [W_block, P3, ↓reduceIte, reduceAdd, reduceEqDiff, reduceCtorEq, initFr, reduceLT, clsA, reduceLeDiff, reduceMul, reduceSub, reduceIte, gx, l', o']
      refine hq2 _ _ ⟨_, resL rfl rfl (AHeap.get_set_same gx _) rfl, ?_, u', by rw [ed]; rfl, o', fun e => absurd (by rw [ed] at e; exact e) hz, fun _ => (k01.trans kx').set (by omega) (AHeap.get_lt gx) _⟩
      have h4 := (J1.keeps kx').u0 (t' := thB (K.n + 1) (lO u'.l)) (Chg.set X (AHeap.get_lt gx) _) (AHeap.get_set_same gx _) (fun y hy => .inl hy)
      exact h4.k
  rw [decide_eq_false hR] at q1
  by_cases hS : ws.getD 0 [] = wSection
  · have ed : lineD0 L ws = if ws.length ≠ 2 ∨ rightB (ws.getD 1 []) = false then ((40 : Int), L) else if (ixT (ws.getD 1 []) (namesL L)).isSome then (41, L) else (0, { L with s := L.s ++ [ws.getD 1 []] }) := by unfold lineD0; rw [if_neg hR, if_pos hS]
    rw [decide_eq_true hS] at q2 n2
    by_cases h2 : ws.length = 2
    rotate_left
    · have e2 : (((ws.length : Nat) : Int) != 2) = true := bnei_yes (by omega)
      simp (disch := first | assumption | omega | (simp only [LN] <;> omega) | (simp (disch := first | assumption | omega | (simp only [LN] <;> omega)) only [row_alloc, row_set]; assumption)) only [W_block, P3, ↓reduceIte, reduceAdd, reduceEqDiff, reduceCtorEq, initFr, reduceLT, clsA, reduceLeDiff, reduceMul, reduceSub, reduceIte, r0, na, a_load1v, t0, q1, q2, n2, la, e2, gl, gr, ll, ho]
      exact fail _ _ 40 rfl rfl (by rw [ed, if_pos (.inl h2)]) (by decide) (Keeps.refl _)
    have e2 : (((ws.length : Nat) : Int) != 2) = false := bnei_no (by omega)
    obtain ⟨_, ra⟩ := hv1.at_ (i := 1) (by omega)
    have hlen := hw _ (getD_mem (d := []) (show 1 < ws.length by omega))
    have q5 : (1 : Int) < ((lenS v : Nat) : Int) := by omega
    unfold tRow at ra
    replace h2 : ¬ ws.length ≠ 2 := fun e => e h2
    simp (disch := first | assumption | omega | (simp only [LN] <;> omega) | (simp (disch := first | assumption | omega | (simp only [LN] <;> omega)) only [row_alloc, row_set]; assumption)) only [W_block, P3, ↓reduceIte, reduceAdd, reduceEqDiff, reduceCtorEq, initFr, reduceLT, clsA, reduceLeDiff, reduceMul, reduceSub, reduceIte, r0, na, a_load1v, t0, q1, q2, n2, la, e2, ra, t1]
    refine callK (t31 _ _ (Nat.le_trans hlen (by decide))) ?_
    rintro _ X ⟨rfl, hX⟩
    rw [hX]
    cases hr : rightB (ws.getD 1 []) with
    | false =>
      simp (disch := first | assumption | omega | (simp only [LN] <;> omega) | (simp (disch := first | assumption | omega | (simp only [LN] <;> omega)) only [row_alloc, row_set]; assumption)) only [W_block, P3, ↓reduceIte, reduceAdd, reduceEqDiff, reduceCtorEq, initFr, reduceLT, clsA, reduceLeDiff, reduceMul, reduceSub, reduceIte, gl, gr, ll, ho]
      exact fail _ _ 40 rfl rfl (by rw [ed, if_pos (.inr hr)]) (by decide) (Keeps.refl _)
    | true =>
    rw [if_neg (by rintro (e | e); exact h2 e; rw [hr] at e; cases e)] at ed
    simp (disch := first | assumption | omega | (simp only [LN] <;> omega) | (simp (disch := first | assumption | omega | (simp only [LN] <;> omega)) only [row_alloc, row_set]; assumption)) only [W_block, P3, ↓reduceIte, reduceAdd, reduceEqDiff, reduceCtorEq, initFr, reduceLT, clsA, reduceLeDiff, reduceMul, reduceSub, reduceIte, gl, ll]
    refine callK (t30 h1.ly hf) ?_
    intro vn K2 on
    have k2 := on.k
    have ra2 := (Keeps.row k2 bwv (v := v) (j := 1) (esz := 1)).trans ra
    have r02 := (Keeps.row k2 bwv (v := v) (j := 0) (esz := 1)).trans r0
    simp (disch := first | assumption | omega | (simp only [LN] <;> omega) | (simp (disch := first | assumption | omega | (simp only [LN] <;> omega)) only [row_alloc, row_set]; assumption)) only [W_block, P3, ↓reduceIte, reduceAdd, reduceEqDiff, reduceCtorEq, initFr, reduceLT, clsA, reduceLeDiff, reduceMul, reduceSub, reduceIte, ra2, na, a_load1v, t1]
    refine ⟨k2.get _ blt, ?_⟩
    refine callK (t32 (on.sl : TL K2 vn (namesL L)) (by simp only [namesL, List.length_append, List.length_map]; have := hL.s; have := hL.p; have := hL.g; have := hL.r; omega) (ws.getD 1 [])) ?_
    rintro _ X ⟨rfl, hX⟩
    rw [hX]
    have gl2 := k2.at_ gl
    have gr2 := k2.at_ gr
    rcases ixV_n L (ws.getD 1 []) with ⟨en, ev⟩ | ⟨ix, en, ev⟩
    rotate_left
    · rw [ev]
      have c5 : (0 : Int) ≤ ((ix : Nat) : Int) := by omega
      simp (disch := first | assumption | omega | (simp only [LN] <;> omega) | (simp (disch := first | assumption | omega | (simp only [LN] <;> omega)) only [row_alloc, row_set]; assumption)) only [W_block, P3, ↓reduceIte, reduceAdd, reduceEqDiff, reduceCtorEq, initFr, reduceLT, clsA, reduceLeDiff, reduceMul, reduceSub, reduceIte, gl2, gr2, ll, ho]
      exact fail _ _ 41 rfl rfl (by rw [ed, en]; rfl) (by decide) k2
    rw [ev]
    simp only [en, Bool.false_eq_true, if_false] at ed
    have c5 : ¬ (0 : Int) ≤ (-1 : Int) := by omega
    have J2 := J1.keeps k2
    have h2' := h1.keeps k2
    simp (disch := first | assumption | omega | (simp only [LN] <;> omega) | (simp (disch := first | assumption | omega | (simp only [LN] <;> omega)) only [row_alloc, row_set]; assumption)) only [W_block, P3, ↓reduceIte, reduceAdd, reduceEqDiff, reduceCtorEq, initFr, reduceLT, clsA, reduceLeDiff, reduceMul, reduceSub, reduceIte, r02, ra2, na, a_load1v, t0, t1, q2, gl2, V4.l, fill1s]
    have J3 := J2.keeps ((Keeps.refl K2).alloc (.cells true false 1 [.string ⟨(ws.getD 1 []).toArray⟩] 9))
    have a8 : AP _ 9 1 u.s L.s.length (L.s.map tRow).flatten := J3.at_ 2 rfl
    have hLk := hL.s
    refine appGD a8 ⟨_, _, rfl⟩ (elems_new rfl rfl) rfl ⟨by omega, by omega⟩ ?_
    intro v' K9 a9 c9 hb9
    have ov : v'.oneCell' = true := by obtain ⟨a, rfl⟩ := a9.shape; rfl
    have ow : one1 v' = True := by simp [one1, ov]
    have J9 := J3.upd (l := [_, _]) (r := _ :: _ :: _ :: _ :: ex) (t' := thA 9 1 v' (L.s.length + 1) ((L.s.map tRow).flatten ++ [Value.string ⟨(ws.getD 1 []).toArray⟩])) c9 a9 (fun y hy => by
      rcases hb9 with e | e
      · left; have := mem_blkL.1 hy; rw [e] at this; exact mem_blkL.2 this
      · right; have := mem_blkL.1 hy; rw [e] at this; cases this; exact Nat.le_refl _)
    have gl9 : K9.get K.n = some (.cells true false 4 [u.s, u.p, u.g, u.r] 28) := J9.at_ 1 rfl
    have gr9 : K9.get (K.n + 1) = some (.cells true false 4 [.slice none 0 0, .slice none 0 0, .slice none 0 0, .slice none 0 0] 28) := J9.at_ 0 rfl
    have n9 := AHeap.get_lt gr9
    have hou : [v', u.p, u.g, u.r].all Value.oneCell' = true := by
      simp only [List.all_cons, List.all_nil, Sl.one h1.ly.s, Sl.one h1.ly.p, Sl.one h1.ly.g, Sl.one h1.ly.r, ov]; rfl
    simp (disch := first | assumption | omega | (simp only [LN] <;> omega) | (simp (disch := first | assumption | omega | (simp only [LN] <;> omega)) only [row_alloc, row_set]; assumption)) only [W_block, P3, ↓reduceIte, reduceAdd, reduceEqDiff, reduceCtorEq, initFr, reduceLT, clsA, reduceLeDiff, reduceMul, reduceSub, reduceIte, gl9, gr9, ow, ov, hou]
    have JA := J9.u1 (t' := thB K.n (lO [v', u.p, u.g, u.r])) (Chg.set K9 (AHeap.get_lt gl9) _) (AHeap.get_set_same gl9 _) (fun y hy => .inl hy)
    have grA : _ = some (AO.cells true false 4 [.slice none 0 0, .slice none 0 0, .slice none 0 0, .slice none 0 0] 28) := JA.at_ 0 rfl
    have JB := JA.u0 (t' := thB (K.n + 1) (lO [v', u.p, u.g, u.r])) (Chg.set _ (AHeap.get_lt grA) _) (AHeap.get_set_same grA _) (fun y hy => .inl hy)
    refine hq2 _ _ ⟨_, resL rfl rfl (JB.at_ 0 rfl) rfl, JB.k, ⟨v', u.p, u.g, u.r⟩, by rw [ed]; rfl, hou, fun _ => ⟨xs, ?_⟩, fun e => absurd (by rw [ed]) e⟩
    rw [ed]
    refine ⟨?_, h.e⟩
    have JC := JB.tail.tail
    have ef : (L.s.map tRow).flatten ++ [Value.string ⟨(ws.getD 1 []).toArray⟩] = ((L.s ++ [ws.getD 1 []]).map tRow).flatten := by simp [tRow]
    rw [ef] at JC
    have : L.s.length + 1 = (L.s ++ [ws.getD 1 []]).length := by simp
    rw [this] at JC
    exact JC
  rw [decide_eq_false hS] at q2 n2
  by_cases hP : ws.getD 0 [] = wPoint
  · have ed : lineD0 L ws = if ws.length ≠ 3 ∨ rightB (ws.getD 1 []) = false then ((40 : Int), L) else if (ixT (ws.getD 1 []) (namesL L)).isSome then (41, L) else match sIx L (ws.getD 2 []) with
    | none => (42, L)
    | some i => (0, { L with p := L.p ++ [(ws.getD 1 [], i)] }) := by unfold lineD0; rw [if_neg hR, if_neg hS, if_pos hP]
    rw [decide_eq_true hP] at q3 n3
    by_cases h2 : ws.length = 3
    rotate_left
    · have e2 : (((ws.length : Nat) : Int) != 3) = true := bnei_yes (by omega)
      simp (disch := first | assumption | omega | (simp only [LN] <;> omega) | (simp (disch := first | assumption | omega | (simp only [LN] <;> omega)) only [row_alloc, row_set]; assumption)) only [W_block, P3, ↓reduceIte, reduceAdd, reduceEqDiff, reduceCtorEq, initFr, reduceLT, clsA, reduceLeDiff, reduceMul, reduceSub, reduceIte, r0, na, a_load1v, t0, q1, q2, n2, n3, n4, la, e2, gl, gr, ll, ho]
      exact fail _ _ 40 rfl rfl (by rw [ed, if_pos (.inl h2)]) (by decide) (Keeps.refl _)
    have e2 : (((ws.length : Nat) : Int) != 3) = false := bnei_no (by omega)
    obtain ⟨_, ra⟩ := hv1.at_ (i := 1) (by omega)
    have hlen := hw _ (getD_mem (d := []) (show 1 < ws.length by omega))
    have q5 : (1 : Int) < ((lenS v : Nat) : Int) := by omega
    unfold tRow at ra
    obtain ⟨_, rb⟩ := hv1.at_ (i := 2) (by omega)
    unfold tRow at rb
    have q6 : (2 : Int) < ((lenS v : Nat) : Int) := by omega
    replace h2 : ¬ ws.length ≠ 3 := fun e => e h2
    simp (disch := first | assumption | omega | (simp only [LN] <;> omega) | (simp (disch := first | assumption | omega | (simp only [LN] <;> omega)) only [row_alloc, row_set]; assumption)) only [W_block, P3, ↓reduceIte, reduceAdd, reduceEqDiff, reduceCtorEq, initFr, reduceLT, clsA, reduceLeDiff, reduceMul, reduceSub, reduceIte, r0, na, a_load1v, t0, q1, q2, n2, n3, n4, la, e2, ra, t1]
    refine callK (t31 _ _ (Nat.le_trans hlen (by decide))) ?_
    rintro _ X ⟨rfl, hX⟩
    rw [hX]
    cases hr : rightB (ws.getD 1 []) with
    | false =>
      simp (disch := first | assumption | omega | (simp only [LN] <;> omega) | (simp (disch := first | assumption | omega | (simp only [LN] <;> omega)) only [row_alloc, row_set]; assumption)) only [W_block, P3, ↓reduceIte, reduceAdd, reduceEqDiff, reduceCtorEq, initFr, reduceLT, clsA, reduceLeDiff, reduceMul, reduceSub, reduceIte, gl, gr, ll, ho]
      exact fail _ _ 40 rfl rfl (by rw [ed, if_pos (.inr hr)]) (by decide) (Keeps.refl _)
    | true =>
    rw [if_neg (by rintro (e | e); exact h2 e; rw [hr] at e; cases e)] at ed
    simp (disch := first | assumption | omega | (simp only [LN] <;> omega) | (simp (disch := first | assumption | omega | (simp only [LN] <;> omega)) only [row_alloc, row_set]; assumption)) only [W_block, P3, ↓reduceIte, reduceAdd, reduceEqDiff, reduceCtorEq, initFr, reduceLT, clsA, reduceLeDiff, reduceMul, reduceSub, reduceIte, gl, ll]
    refine callK (t30 h1.ly hf) ?_
    intro vn K2 on
    have k2 := on.k
    have ra2 := (Keeps.row k2 bwv (v := v) (j := 1) (esz := 1)).trans ra
    have r02 := (Keeps.row k2 bwv (v := v) (j := 0) (esz := 1)).trans r0
    simp (disch := first | assumption | omega | (simp only [LN] <;> omega) | (simp (disch := first | assumption | omega | (simp only [LN] <;> omega)) only [row_alloc, row_set]; assumption)) only [W_block, P3, ↓reduceIte, reduceAdd, reduceEqDiff, reduceCtorEq, initFr, reduceLT, clsA, reduceLeDiff, reduceMul, reduceSub, reduceIte, ra2, na, a_load1v, t1]
    refine ⟨k2.get _ blt, ?_⟩
    refine callK (t32 (on.sl : TL K2 vn (namesL L)) (by simp only [namesL, List.length_append, List.length_map]; have := hL.s; have := hL.p; have := hL.g; have := hL.r; omega) (ws.getD 1 [])) ?_
    rintro _ X ⟨rfl, hX⟩
    rw [hX]
    have gl2 := k2.at_ gl
    have gr2 := k2.at_ gr
    rcases ixV_n L (ws.getD 1 []) with ⟨en, ev⟩ | ⟨ix, en, ev⟩
    rotate_left
    · rw [ev]
      have c5 : (0 : Int) ≤ ((ix : Nat) : Int) := by omega
      simp (disch := first | assumption | omega | (simp only [LN] <;> omega) | (simp (disch := first | assumption | omega | (simp only [LN] <;> omega)) only [row_alloc, row_set]; assumption)) only [W_block, P3, ↓reduceIte, reduceAdd, reduceEqDiff, reduceCtorEq, initFr, reduceLT, clsA, reduceLeDiff, reduceMul, reduceSub, reduceIte, gl2, gr2, ll, ho]
      exact fail _ _ 41 rfl rfl (by rw [ed, en]; rfl) (by decide) k2
    rw [ev]
    simp only [en, Bool.false_eq_true, if_false] at ed
    have c5 : ¬ (0 : Int) ≤ (-1 : Int) := by omega
    have J2 := J1.keeps k2
    have h2' := h1.keeps k2
    have rb2 := (Keeps.row k2 bwv (v := v) (j := 2) (esz := 1)).trans rb
    simp (disch := first | assumption | omega | (simp only [LN] <;> omega) | (simp (disch := first | assumption | omega | (simp only [LN] <;> omega)) only [row_alloc, row_set]; assumption)) only [W_block, P3, ↓reduceIte, reduceAdd, reduceEqDiff, reduceCtorEq, initFr, reduceLT, clsA, reduceLeDiff, reduceMul, reduceSub, reduceIte, r02, rb2, na, a_load1v, t0, t2, q2, gl2, V4.l]
    refine callK (t32 h2'.ly.s (by have := hL.s; omega) (ws.getD 2 [])) ?_
    rintro _ X ⟨rfl, hX⟩
    rw [hX]
    rcases ixV_s L (ws.getD 2 []) with ⟨es, ev⟩ | ⟨ix, es, ev⟩
    · rw [ev]
      simp only [es] at ed
      have c6 : (-1 : Int) < 0 := by omega
      have hob : (u.s.oneCell' && (u.p.oneCell' && (u.g.oneCell' && u.r.oneCell'))) = true := by rw [Sl.one h1.ly.s, Sl.one h1.ly.p, Sl.one h1.ly.g, Sl.one h1.ly.r]; rfl
      simp (disch := first | assumption | omega | (simp only [LN] <;> omega) | (simp (disch := first | assumption | omega | (simp only [LN] <;> omega)) only [row_alloc, row_set]; assumption)) only [W_block, P3, ↓reduceIte, reduceAdd, reduceEqDiff, reduceCtorEq, initFr, reduceLT, clsA, reduceLeDiff, reduceMul, reduceSub, reduceIte, gl2, gr2, V4.l, ll, hob]
      exact fail _ _ 42 rfl rfl (by rw [ed]) (by decide) k2
    rw [ev]
    simp only [es] at ed
    have c6 : ¬ ((ix : Nat) : Int) < 0 := by omega
    have hfa : fillA [.string ByteArray.empty, .int .i64 0] [(0, 1, .string ⟨(ws.getD 1 []).toArray⟩), (1, 1, .int .i64 ((ix : Nat) : Int))] = some [.string ⟨(ws.getD 1 []).toArray⟩, .int .i64 ((ix : Nat) : Int)] := rfl
    have hfb : fillA [.string ByteArray.empty, .int .i64 0] [(0, 2, .agg #[.string ⟨(ws.getD 1 []).toArray⟩, .int .i64 ((ix : Nat) : Int)])] = some [.string ⟨(ws.getD 1 []).toArray⟩, .int .i64 ((ix : Nat) : Int)] := rfl
    simp (disch := first | assumption | omega | (simp only [LN] <;> omega) | (simp (disch := first | assumption | omega | (simp only [LN] <;> omega)) only [row_alloc, row_set]; assumption)) only [W_block, P3, ↓reduceIte, reduceAdd, reduceEqDiff, reduceCtorEq, initFr, reduceLT, clsA, reduceLeDiff, reduceMul, reduceSub, reduceIte, r02, ra2, na, a_load1v, t0, t1, q3, gl2, V4.l, hfa, hfb]
    have J3 := J2.keeps ((Keeps.refl K2).alloc (.cells true false 2 [.string ⟨(ws.getD 1 []).toArray⟩, .int .i64 ((ix : Nat) : Int)] 58))
    have a8 : AP _ 58 2 u.p L.p.length (L.p.map pRow).flatten := J3.at_ 3 rfl
    have hLk := hL.p
    refine appGD a8 ⟨_, _, rfl⟩ (elems_new rfl rfl) rfl ⟨by omega, by omega⟩ ?_
    intro v' K9 a9 c9 hb9
    have ov : v'.oneCell' = true := by obtain ⟨a, rfl⟩ := a9.shape; rfl
    have ow : one1 v' = True := by simp [one1, ov]
    have J9 := J3.upd (l := [_, _, _]) (r := _ :: _ :: _ :: ex) (t' := thA 58 2 v' (L.p.length + 1) ((L.p.map pRow).flatten ++ [Value.string ⟨(ws.getD 1 []).toArray⟩, .int .i64 ((ix : Nat) : Int)])) c9 a9 (fun y hy => by
      rcases hb9 with e | e
      · left; have := mem_blkL.1 hy; rw [e] at this; exact mem_blkL.2 this
      · right; have := mem_blkL.1 hy; rw [e] at this; cases this; exact Nat.le_refl _)
    have gl9 : K9.get K.n = some (.cells true false 4 [u.s, u.p, u.g, u.r] 28) := J9.at_ 1 rfl
    have gr9 : K9.get (K.n + 1) = some (.cells true false 4 [.slice none 0 0, .slice none 0 0, .slice none 0 0, .slice none 0 0] 28) := J9.at_ 0 rfl
    have n9 := AHeap.get_lt gr9
    have hou : [u.s, v', u.g, u.r].all Value.oneCell' = true := by
      simp only [List.all_cons, List.all_nil, Sl.one h1.ly.s, Sl.one h1.ly.p, Sl.one h1.ly.g, Sl.one h1.ly.r, ov]; rfl
    simp (disch := first | assumption | omega | (simp only [LN] <;> omega) | (simp (disch := first | assumption | omega | (simp only [LN] <;> omega)) only [row_alloc, row_set]; assumption)) only [W_block, P3, ↓reduceIte, reduceAdd, reduceEqDiff, reduceCtorEq, initFr, reduceLT, clsA, reduceLeDiff, reduceMul, reduceSub, reduceIte, gl9, gr9, ow, ov, hou]
    have JA := J9.u1 (t' := thB K.n (lO [u.s, v', u.g, u.r])) (Chg.set K9 (AHeap.get_lt gl9) _) (AHeap.get_set_same gl9 _) (fun y hy => .inl hy)
    have grA : _ = some (AO.cells true false 4 [.slice none 0 0, .slice none 0 0, .slice none 0 0, .slice none 0 0] 28) := JA.at_ 0 rfl
    have JB := JA.u0 (t' := thB (K.n + 1) (lO [u.s, v', u.g, u.r])) (Chg.set _ (AHeap.get_lt grA) _) (AHeap.get_set_same grA _) (fun y hy => .inl hy)
    refine hq2 _ _ ⟨_, resL rfl rfl (JB.at_ 0 rfl) rfl, JB.k, ⟨u.s, v', u.g, u.r⟩, by rw [ed]; rfl, hou, fun _ => ⟨xs, ?_⟩, fun e => absurd (by rw [ed]) e⟩
    rw [ed]
    refine ⟨?_, h.e⟩
    have JC := JB.tail.tail
    have ef : (L.p.map pRow).flatten ++ [Value.string ⟨(ws.getD 1 []).toArray⟩, .int .i64 ((ix : Nat) : Int)] = ((L.p ++ [(ws.getD 1 [], ((ix : Nat) : Int))]).map pRow).flatten := by simp [pRow]
    rw [ef] at JC
    have : L.p.length + 1 = (L.p ++ [(ws.getD 1 [], ((ix : Nat) : Int))]).length := by simp
    rw [this] at JC
    exact JC
  rw [decide_eq_false hP] at q3 n3
  by_cases hG : ws.getD 0 [] = wSignal
  · have ed : lineD0 L ws = if ws.length ≠ 3 ∨ rightB (ws.getD 1 []) = false then ((40 : Int), L) else if (ixT (ws.getD 1 []) (namesL L)).isSome then (41, L) else match sIx L (ws.getD 2 []) with
    | none => (42, L)
    | some i => (0, { L with g := L.g ++ [(ws.getD 1 [], i)] }) := by unfold lineD0; rw [if_neg hR, if_neg hS, if_neg hP, if_pos hG]
    rw [decide_eq_true hG] at n4
    by_cases h2 : ws.length = 3
    rotate_left
    · have e2 : (((ws.length : Nat) : Int) != 3) = true := bnei_yes (by omega)
      simp (disch := first | assumption | omega | (simp only [LN] <;> omega) | (simp (disch := first | assumption | omega | (simp only [LN] <;> omega)) only [row_alloc, row_set]; assumption)) only [W_block, P3, ↓reduceIte, reduceAdd, reduceEqDiff, reduceCtorEq, initFr, reduceLT, clsA, reduceLeDiff, reduceMul, reduceSub, reduceIte, r0, na, a_load1v, t0, q1, q2, n2, n3, n4, la, e2, gl, gr, ll, ho]
      exact fail _ _ 40 rfl rfl (by rw [ed, if_pos (.inl h2)]) (by decide) (Keeps.refl _)
    have e2 : (((ws.length : Nat) : Int) != 3) = false := bnei_no (by omega)
    obtain ⟨_, ra⟩ := hv1.at_ (i := 1) (by omega)
    have hlen := hw _ (getD_mem (d := []) (show 1 < ws.length by omega))
    have q5 : (1 : Int) < ((lenS v : Nat) : Int) := by omega
    unfold tRow at ra
    obtain ⟨_, rb⟩ := hv1.at_ (i := 2) (by omega)
    unfold tRow at rb
    have q6 : (2 : Int) < ((lenS v : Nat) : Int) := by omega
    replace h2 : ¬ ws.length ≠ 3 := fun e => e h2
    simp (disch := first | assumption | omega | (simp only [LN] <;> omega) | (simp (disch := first | assumption | omega | (simp only [LN] <;> omega)) only [row_alloc, row_set]; assumption)) only [W_block, P3, ↓reduceIte, reduceAdd, reduceEqDiff, reduceCtorEq, initFr, reduceLT, clsA, reduceLeDiff, reduceMul, reduceSub, reduceIte, r0, na, a_load1v, t0, q1, q2, n2, n3, n4, la, e2, ra, t1]
    refine callK (t31 _ _ (Nat.le_trans hlen (by decide))) ?_
    rintro _ X ⟨rfl, hX⟩
    rw [hX]
    cases hr : rightB (ws.getD 1 []) with
    | false =>
      simp (disch := first | assumption | omega | (simp only [LN] <;> omega) | (simp (disch := first | assumption | omega | (simp only [LN] <;> omega)) only [row_alloc, row_set]; assumption)) only [W_block, P3, ↓reduceIte, reduceAdd, reduceEqDiff, reduceCtorEq, initFr, reduceLT, clsA, reduceLeDiff, reduceMul, reduceSub, reduceIte, gl, gr, ll, ho]
      exact fail _ _ 40 rfl rfl (by rw [ed, if_pos (.inr hr)]) (by decide) (Keeps.refl _)
    | true =>
    rw [if_neg (by rintro (e | e); exact h2 e; rw [hr] at e; cases e)] at ed
    simp (disch := first | assumption | omega | (simp only [LN] <;> omega) | (simp (disch := first | assumption | omega | (simp only [LN] <;> omega)) only [row_alloc, row_set]; assumption)) only [W_block, P3, ↓reduceIte, reduceAdd, reduceEqDiff, reduceCtorEq, initFr, reduceLT, clsA, reduceLeDiff, reduceMul, reduceSub, reduceIte, gl, ll]
    refine callK (t30 h1.ly hf) ?_
    intro vn K2 on
    have k2 := on.k
    have ra2 := (Keeps.row k2 bwv (v := v) (j := 1) (esz := 1)).trans ra
    have r02 := (Keeps.row k2 bwv (v := v) (j := 0) (esz := 1)).trans r0
    simp (disch := first | assumption | omega | (simp only [LN] <;> omega) | (simp (disch := first | assumption | omega | (simp only [LN] <;> omega)) only [row_alloc, row_set]; assumption)) only [W_block, P3, ↓reduceIte, reduceAdd, reduceEqDiff, reduceCtorEq, initFr, reduceLT, clsA, reduceLeDiff, reduceMul, reduceSub, reduceIte, ra2, na, a_load1v, t1]
    refine ⟨k2.get _ blt, ?_⟩
    refine callK (t32 (on.sl : TL K2 vn (namesL L)) (by simp only [namesL, List.length_append, List.length_map]; have := hL.s; have := hL.p; have := hL.g; have := hL.r; omega) (ws.getD 1 [])) ?_
    rintro _ X ⟨rfl, hX⟩
    rw [hX]
    have gl2 := k2.at_ gl
    have gr2 := k2.at_ gr
    rcases ixV_n L (ws.getD 1 []) with ⟨en, ev⟩ | ⟨ix, en, ev⟩
    rotate_left
    · rw [ev]
      have c5 : (0 : Int) ≤ ((ix : Nat) : Int) := by omega
      simp (disch := first | assumption | omega | (simp only [LN] <;> omega) | (simp (disch := first | assumption | omega | (simp only [LN] <;> omega)) only [row_alloc, row_set]; assumption)) only [W_block, P3, ↓reduceIte, reduceAdd, reduceEqDiff, reduceCtorEq, initFr, reduceLT, clsA, reduceLeDiff, reduceMul, reduceSub, reduceIte, gl2, gr2, ll, ho]
      exact fail _ _ 41 rfl rfl (by rw [ed, en]; rfl) (by decide) k2
    rw [ev]
    simp only [en, Bool.false_eq_true, if_false] at ed
    have c5 : ¬ (0 : Int) ≤ (-1 : Int) := by omega
    have J2 := J1.keeps k2
    have h2' := h1.keeps k2
    have rb2 := (Keeps.row k2 bwv (v := v) (j := 2) (esz := 1)).trans rb
    simp (disch := first | assumption | omega | (simp only [LN] <;> omega) | (simp (disch := first | assumption | omega | (simp only [LN] <;> omega)) only [row_alloc, row_set]; assumption)) only [W_block, P3, ↓reduceIte, reduceAdd, reduceEqDiff, reduceCtorEq, initFr, reduceLT, clsA, reduceLeDiff, reduceMul, reduceSub, reduceIte, r02, rb2, na, a_load1v, t0, t2, q2, gl2, V4.l]
    refine callK (t32 h2'.ly.s (by have := hL.s; omega) (ws.getD 2 [])) ?_
    rintro _ X ⟨rfl, hX⟩
    rw [hX]
    rcases ixV_s L (ws.getD 2 []) with ⟨es, ev⟩ | ⟨ix, es, ev⟩
    · rw [ev]
      simp only [es] at ed
      have c6 : (-1 : Int) < 0 := by omega
      have hob : (u.s.oneCell' && (u.p.oneCell' && (u.g.oneCell' && u.r.oneCell'))) = true := by rw [Sl.one h1.ly.s, Sl.one h1.ly.p, Sl.one h1.ly.g, Sl.one h1.ly.r]; rfl
      simp (disch := first | assumption | omega | (simp only [LN] <;> omega) | (simp (disch := first | assumption | omega | (simp only [LN] <;> omega)) only [row_alloc, row_set]; assumption)) only [W_block, P3, ↓reduceIte, reduceAdd, reduceEqDiff, reduceCtorEq, initFr, reduceLT, clsA, reduceLeDiff, reduceMul, reduceSub, reduceIte, gl2, gr2, V4.l, ll, hob]
      exact fail _ _ 42 rfl rfl (by rw [ed]) (by decide) k2
    rw [ev]
    simp only [es] at ed
    have c6 : ¬ ((ix : Nat) : Int) < 0 := by omega
    have hfa : fillA [.string ByteArray.empty, .int .i64 0] [(0, 1, .string ⟨(ws.getD 1 []).toArray⟩), (1, 1, .int .i64 ((ix : Nat) : Int))] = some [.string ⟨(ws.getD 1 []).toArray⟩, .int .i64 ((ix : Nat) : Int)] := rfl
    have hfb : fillA [.string ByteArray.empty, .int .i64 0] [(0, 2, .agg #[.string ⟨(ws.getD 1 []).toArray⟩, .int .i64 ((ix : Nat) : Int)])] = some [.string ⟨(ws.getD 1 []).toArray⟩, .int .i64 ((ix : Nat) : Int)] := rfl
    simp (disch := first | assumption | omega | (simp only [LN] <;> omega) | (simp (disch := first | assumption | omega | (simp only [LN] <;> omega)) only [row_alloc, row_set]; assumption)) only [W_block, P3, ↓reduceIte, reduceAdd, reduceEqDiff, reduceCtorEq, initFr, reduceLT, clsA, reduceLeDiff, reduceMul, reduceSub, reduceIte, r02, ra2, na, a_load1v, t0, t1, q3, gl2, V4.l, hfa, hfb]
    have J3 := J2.keeps ((Keeps.refl K2).alloc (.cells true false 2 [.string ⟨(ws.getD 1 []).toArray⟩, .int .i64 ((ix : Nat) : Int)] 59))
    have a8 : AP _ 59 2 u.g L.g.length (L.g.map pRow).flatten := J3.at_ 4 rfl
    have hLk := hL.g
    refine appGD a8 ⟨_, _, rfl⟩ (elems_new rfl rfl) rfl ⟨by omega, by omega⟩ ?_
    intro v' K9 a9 c9 hb9
    have ov : v'.oneCell' = true := by obtain ⟨a, rfl⟩ := a9.shape; rfl
    have ow : one1 v' = True := by simp [one1, ov]
    have J9 := J3.upd (l := [_, _, _, _]) (r := _ :: _ :: ex) (t' := thA 59 2 v' (L.g.length + 1) ((L.g.map pRow).flatten ++ [Value.string ⟨(ws.getD 1 []).toArray⟩, .int .i64 ((ix : Nat) : Int)])) c9 a9 (fun y hy => by
      rcases hb9 with e | e
      · left; have := mem_blkL.1 hy; rw [e] at this; exact mem_blkL.2 this
      · right; have := mem_blkL.1 hy; rw [e] at this; cases this; exact Nat.le_refl _)
    have gl9 : K9.get K.n = some (.cells true false 4 [u.s, u.p, u.g, u.r] 28) := J9.at_ 1 rfl
    have gr9 : K9.get (K.n + 1) = some (.cells true false 4 [.slice none 0 0, .slice none 0 0, .slice none 0 0, .slice none 0 0] 28) := J9.at_ 0 rfl
    have n9 := AHeap.get_lt gr9
    have hou : [u.s, u.p, v', u.r].all Value.oneCell' = true := by
      simp only [List.all_cons, List.all_nil, Sl.one h1.ly.s, Sl.one h1.ly.p, Sl.one h1.ly.g, Sl.one h1.ly.r, ov]; rfl
    simp (disch := first | assumption | omega | (simp only [LN] <;> omega) | (simp (disch := first | assumption | omega | (simp only [LN] <;> omega)) only [row_alloc, row_set]; assumption)) only [W_block, P3, ↓reduceIte, reduceAdd, reduceEqDiff, reduceCtorEq, initFr, reduceLT, clsA, reduceLeDiff, reduceMul, reduceSub, reduceIte, gl9, gr9, ow, ov, hou]
    have JA := J9.u1 (t' := thB K.n (lO [u.s, u.p, v', u.r])) (Chg.set K9 (AHeap.get_lt gl9) _) (AHeap.get_set_same gl9 _) (fun y hy => .inl hy)
    have grA : _ = some (AO.cells true false 4 [.slice none 0 0, .slice none 0 0, .slice none 0 0, .slice none 0 0] 28) := JA.at_ 0 rfl
    have JB := JA.u0 (t' := thB (K.n + 1) (lO [u.s, u.p, v', u.r])) (Chg.set _ (AHeap.get_lt grA) _) (AHeap.get_set_same grA _) (fun y hy => .inl hy)
    refine hq2 _ _ ⟨_, resL rfl rfl (JB.at_ 0 rfl) rfl, JB.k, ⟨u.s, u.p, v', u.r⟩, by rw [ed]; rfl, hou, fun _ => ⟨xs, ?_⟩, fun e => absurd (by rw [ed]) e⟩
    rw [ed]
    refine ⟨?_, h.e⟩
    have JC := JB.tail.tail
    have ef : (L.g.map pRow).flatten ++ [Value.string ⟨(ws.getD 1 []).toArray⟩, .int .i64 ((ix : Nat) : Int)] = ((L.g ++ [(ws.getD 1 [], ((ix : Nat) : Int))]).map pRow).flatten := by simp [pRow]
    rw [ef] at JC
    have : L.g.length + 1 = (L.g ++ [(ws.getD 1 [], ((ix : Nat) : Int))]).length := by simp
    rw [this] at JC
    exact JC
  rw [decide_eq_false hG] at n4
  have ed : lineD0 L ws = (40, L) := by unfold lineD0; rw [if_neg hR, if_neg hS, if_neg hP, if_neg hG]
  simp (disch := first | assumption | omega | (simp only [LN] <;> omega) | (simp (disch := first | assumption | omega | (simp only [LN] <;> omega)) only [row_alloc, row_set]; assumption)) only [W_block, P3, ↓reduceIte, reduceAdd, reduceEqDiff, reduceCtorEq, initFr, reduceLT, clsA, reduceLeDiff, reduceMul, reduceSub, reduceIte, r0, na, a_load1v, t0, q1, q2, n2, n3, n4, la, gl, gr, ll, ho]
  exact fail _ _ 40 rfl rfl (by rw [ed]) (by decide) (Keeps.refl _)
end Go.AM.Fd

set_option linter.unusedSimpArgs false
set_option linter.unusedVariables false
namespace Go.AM.Fd
open Nat (reduceAdd reduceEqDiff reduceLT reduceLeDiff reduceMul reduceSub)
open Go.Proofs Go.AM.F
theorem t20 (H : AHeap) (s : List UInt8) (hl : s.length ≤ 1000000) : ∃ w K, ARun Go.Proofs.Tryd.prog 4 20 [.string ⟨s.toArray⟩] H w K ∧ Keeps H K ∧ AP K 9 1 w (splitB 10 s).length (txs (splitB 10 s)) ∧ Fresh H.n w := by
  refine walk2 f20_ok f20_n ?_
  intro Q hq1 hq2
  simp (disch := first | assumption | omega | (simp only [LN] <;> omega) | (simp (disch := first | assumption | omega | (simp only [LN] <;> omega)) only [row_alloc, row_set]; assumption)) only [ f20, P3, ↓reduceIte, reduceAdd, reduceEqDiff, reduceCtorEq, initFr, reduceLT, clsA, reduceLeDiff, reduceMul, reduceSub, reduceIte]
  rw [W_block]
  refine W_loop2 (fun k fr M => ∃ i f ts v x5 x6, fr = [.string ⟨s.toArray⟩, .slice none 0 0, v, .int .i64 ((f : Nat) : Int), .int .i64 ((i : Nat) : Int), x5, x6] ∧
      Keeps H M ∧ AP M 9 1 v ts.length (txs ts) ∧ Fresh H.n v ∧ f ≤ i ∧ i ≤ s.length ∧ k = s.length - i ∧ ts.length ≤ i ∧ (∀ j, f ≤ j → j < i → s.getD j 0 ≠ 10) ∧ splitB 10 s = ts ++ splitB 10 (s.drop f)) s.length
    ⟨0, 0, [], _, _, _, rfl, Keeps.refl H, .inl ⟨rfl, rfl, rfl⟩, (fun b hb => by cases hb), Nat.le_refl _, by omega, rfl, by simp, fun j h1 h2 => absurd h2 (by omega), by simp⟩ ?_
  rintro Q2 k fr M ⟨i, f, ts, v, x5, x6, rfl, km, ha, hfr, hfi, hi, rfl, htl, hns, hws⟩ hn2 hx2 hret2
  have hw : IntKind.i64.wrap ((i : Int) + 1) = ((i + 1 : Nat) : Int) := by rw [wrap_i64 (by omega) (by omega)]; simp
  have hkn := km.n
  by_cases hlt : i < s.length
  · have h3 : (i : Int) < ((s.length : Nat) : Int) := by omega
    have e0 : ((((s.getD i 0).toNat : Nat) : Int) == 10) = (s.getD i 0 == 10) := u8_eqi (s.getD i 0) 10 (by omega)
    by_cases he : s.getD i 0 = 10
    · have e1 : (s.getD i 0 == 10) = true := by simpa using he
      rw [e1] at e0
      have hix := ixB_drop hfi hlt he hns
      have hsp : splitB 10 (s.drop f) = (s.take i).drop f :: splitB 10 (s.drop (i + 1)) := by
        rw [splitB_ix, hix]
        simp only
        rw [List.drop_drop, show f + (i - f + 1) = i + 1 by omega, List.drop_take]
      have hfl : fillA [.string ByteArray.empty] [(0, 1, .string ⟨((s.take i).drop f).toArray⟩)] = some [.string ⟨((s.take i).drop f).toArray⟩] := rfl
      have k4 := (Keeps.refl M).alloc (.cells true false 1 [.string ⟨((s.take i).drop f).toArray⟩] 9)
      simp (disch := first | assumption | omega | (simp only [LN] <;> omega) | (simp (disch := first | assumption | omega | (simp only [LN] <;> omega)) only [row_alloc, row_set]; assumption)) only [W_block, P3, ↓reduceIte, reduceAdd, reduceEqDiff, reduceCtorEq, initFr, reduceLT, clsA, reduceLeDiff, reduceMul, reduceSub, reduceIte, a_idxS, e0, a_slsM, hfl]
      refine appG (ha.keeps k4) ⟨_, _, rfl⟩ (elems_new rfl rfl) rfl (by omega) ?_
      intro v' M2 a2 c2 b2
      simp (disch := first | assumption | omega | (simp only [LN] <;> omega) | (simp (disch := first | assumption | omega | (simp only [LN] <;> omega)) only [row_alloc, row_set]; assumption)) only [W_block, P3, ↓reduceIte, reduceAdd, reduceEqDiff, reduceCtorEq, initFr, reduceLT, clsA, reduceLeDiff, reduceMul, reduceSub, reduceIte, hw]
      have hk2 : Keeps H M2 := (km.trans k4).chg_trans c2 (hfr.L)
      refine hn2 _ _ _ ⟨i + 1, i + 1, ts ++ [(s.take i).drop f], v', _, _, rfl, hk2, ?_, hfr.app (by simp [AHeap.alloc]; omega) b2, Nat.le_refl _, by omega, rfl, by simp; omega, fun j h1 h2 => absurd h2 (by omega), ?_⟩ (by omega)
      · simpa [txs_app] using a2
      · rw [hws, hsp]; simp
    · have e1 : (s.getD i 0 == 10) = false := by simpa using he
      rw [e1] at e0
      simp (disch := first | assumption | omega | (simp only [LN] <;> omega) | (simp (disch := first | assumption | omega | (simp only [LN] <;> omega)) only [row_alloc, row_set]; assumption)) only [W_block, P3, ↓reduceIte, reduceAdd, reduceEqDiff, reduceCtorEq, initFr, reduceLT, clsA, reduceLeDiff, reduceMul, reduceSub, reduceIte, a_idxS, e0, hw]
      refine hn2 _ _ _ ⟨i + 1, f, ts, v, _, _, rfl, km, ha, hfr, by omega, by omega, rfl, by omega, fun j h1 h2 => ?_, hws⟩ (by omega)
      rcases Nat.lt_or_ge j i with h | h
      · exact hns j h1 h
      · rw [show j = i by omega]; exact he
  · have h3 : ¬ (i : Int) < ((s.length : Nat) : Int) := by omega
    have hsp : splitB 10 (s.drop f) = [s.drop f] := by
      rw [splitB_ix, ixB_drop_no (fun j h1 h2 => hns j h1 (by omega))]
    have hfs : f ≤ s.length := by omega
    have hfl : fillA [.string ByteArray.empty] [(0, 1, .string ⟨(s.drop f).toArray⟩)] = some [.string ⟨(s.drop f).toArray⟩] := rfl
    have k4 := (Keeps.refl M).alloc (.cells true false 1 [.string ⟨(s.drop f).toArray⟩] 9)
    simp (disch := first | assumption | omega | (simp only [LN] <;> omega) | (simp (disch := first | assumption | omega | (simp only [LN] <;> omega)) only [row_alloc, row_set]; assumption)) only [W_block, P3, ↓reduceIte, reduceAdd, reduceEqDiff, reduceCtorEq, initFr, reduceLT, clsA, reduceLeDiff, reduceMul, reduceSub, reduceIte]
    refine hx2 0 _ _ ?_
    simp (disch := first | assumption | omega | (simp only [LN] <;> omega) | (simp (disch := first | assumption | omega | (simp only [LN] <;> omega)) only [row_alloc, row_set]; assumption)) only [W_block, P3, ↓reduceIte, reduceAdd, reduceEqDiff, reduceCtorEq, initFr, reduceLT, clsA, reduceLeDiff, reduceMul, reduceSub, reduceIte, a_slsT, hfl]
    refine appG (ha.keeps k4) ⟨_, _, rfl⟩ (elems_new rfl rfl) rfl (by omega) ?_
    intro v' M2 a2 c2 b2
    simp (disch := first | assumption | omega | (simp only [LN] <;> omega) | (simp (disch := first | assumption | omega | (simp only [LN] <;> omega)) only [row_alloc, row_set]; assumption)) only [W_block, P3, ↓reduceIte, reduceAdd, reduceEqDiff, reduceCtorEq, initFr, reduceLT, clsA, reduceLeDiff, reduceMul, reduceSub, reduceIte]
    have hk2 : Keeps H M2 := (km.trans k4).chg_trans c2 (hfr.L)
    refine hq2 _ _ ⟨_, rfl, hk2, ?_, hfr.app (by simp [AHeap.alloc]; omega) b2⟩
    rw [hws, hsp]
    simpa [txs_app, txs, tupV] using a2
end Go.AM.Fd

set_option linter.unusedSimpArgs false
set_option linter.unusedVariables false
namespace Go.AM.Fd
open Nat (reduceAdd reduceEqDiff reduceLT reduceLeDiff reduceMul reduceSub)
open Go.Proofs Go.AM.F
def lineDW (L : Ly) (ws : List (List UInt8)) : Int × Ly :=
  if ws.length = 0 then (0, L) else if (lineD0 L ws).1 = 0 then (if fullB (lineD0 L ws).2 then (3, L) else lineD0 L ws) else ((lineD0 L ws).1, L)
def lineD (L : Ly) (l : List UInt8) : Int × Ly := if okW (aheadB l) then lineDW L (wordsB (aheadB l)) else (30, L)
def parseD (s : List UInt8) : Ly × Int × Nat := if 16384 < s.length then (ly0, 3, 0) else parseG lineD ly0 (splitB 10 s) 0
theorem getD_len {ws : List (List UInt8)} {i n : Nat} (hw : ∀ w ∈ ws, w.length ≤ n) : (ws.getD i []).length ≤ n := by
  by_cases h : i < ws.length
  · exact hw _ (getD_mem h)
  · simp [List.getD, List.getElem?_eq_none (Nat.le_of_not_lt h)]
theorem mem_app1 {α : Type} {l : List α} {x : α} {p : α → Prop} (h1 : ∀ y ∈ l, p y) (h2 : p x) : ∀ y ∈ l ++ [x], p y := fun y hy => by
  rcases List.mem_append.1 hy with hy | hy
  · exact h1 y hy
  · rw [List.mem_singleton] at hy; subst hy; exact h2
theorem routeD_fit {L : Ly} (h : LyFit L) (hL : LyLim L) {ws : List (List UInt8)} (hw : ∀ w ∈ ws, w.length ≤ 1000000000) (e : (routeD L ws).1 = 0) : LyFit (routeD L ws).2 := by
  unfold routeD at e ⊢
  split
  · unfold routeQD at e ⊢
    split
    · exact h
    · split
      · exact h
      · split
        · split
          · exact h
          · rename_i hl
            refine ⟨h.s, h.p, h.g, ⟨by have := hL.r; simp; omega, mem_app1 h.r.2 ?_⟩⟩
            simp only [not_or, Nat.not_lt] at hl
            have := getD_len (i := 1) hw
            exact ⟨by simp only; omega, by simp only; omega, by simp only; omega, by simp only; omega, by simp only; omega⟩
        · exact h
  · exact h
theorem lineD0_fit {L : Ly} (h : LyFit L) (hL : LyLim L) {ws : List (List UInt8)} (hw : ∀ w ∈ ws, w.length ≤ 1000000000) (e : (lineD0 L ws).1 = 0) : LyFit (lineD0 L ws).2 := by
  have hg := getD_len (i := 1) hw
  have hs := hL.s
  have hp := hL.p
  have hg2 := hL.g
  unfold lineD0 at e ⊢
  split
  · rename_i h1
    rw [if_pos h1] at e
    split
    · exact h
    · rename_i h2; rw [if_neg h2] at e; exact routeD_fit h hL hw e
  · split
    · split
      · exact h
      · split
        · exact h
        · exact ⟨⟨by simp; omega, mem_app1 h.s.2 (by omega)⟩, h.p, h.g, h.r⟩
    · split
      · split
        · exact h
        · split
          · exact h
          · split
            · exact h
            · exact ⟨h.s, ⟨by simp; omega, mem_app1 h.p.2 (by simp only; omega)⟩, h.g, h.r⟩
      · split
        · split
          · exact h
          · split
            · exact h
            · split
              · exact h
              · exact ⟨h.s, h.p, ⟨by simp; omega, mem_app1 h.g.2 (by simp only; omega)⟩, h.r⟩
        · exact h
theorem ly0_fit : LyFit ly0 := ⟨⟨by simp [ly0], by simp [ly0]⟩, ⟨by simp [ly0], by simp [ly0]⟩, ⟨by simp [ly0], by simp [ly0]⟩, ⟨by simp [ly0], by simp [ly0]⟩⟩
theorem DR.lyS {B K K' : AHeap} {u : V4} {xs : List RV} {L : Ly} {ex : List Th} {S : List Nat} (h : DR B K u xs L ex) (c : Chg S K K') (hS : ∀ y ∈ S, y < B.n) : LyR K' u xs L := by
  have key : ∀ (i : Nat) (t : Th), (dT u xs L ex)[i]? = some t → t.P K' := fun i t hi => by
    have hp := h.sep.at_ i hi
    refine t.st K K' hp c.n (fun y hy => c.get y (t.lt K hp y hy) (fun hm => ?_))
    have h1 := h.sep.gei i hi hy
    have h2 := hS y hm
    omega
  exact ly_of (key 0 _ rfl) (key 1 _ rfl) (key 2 _ rfl) (key 3 _ rfl) (key 4 _ rfl) h.e
set_option maxHeartbeats 4000000 in
theorem t10 (H : AHeap) (s : List UInt8) :
    ∃ w K, ARun Go.Proofs.Tryd.prog 4 10 [.string ⟨s.toArray⟩] H w K ∧ Keeps H K ∧ ∃ u xs, w = .tuple #[.agg u.l.toArray, .int .i64 (parseD s).2.1, .int .i64 ((parseD s).2.2 : Nat)] ∧ LyR K u xs (parseD s).1 := by
  refine walk2 f10_ok f10_n ?_
  intro Q hq1 hq2
  have kh : Keeps H (H.alloc (lO [.slice none 0 0, .slice none 0 0, .slice none 0 0, .slice none 0 0])) := (Keeps.refl H).alloc _
  have gh : (H.alloc (lO [.slice none 0 0, .slice none 0 0, .slice none 0 0, .slice none 0 0])).get H.n = _ := AHeap.get_alloc_new _ _
  simp only [lO] at kh gh
  by_cases hlen : 16384 < s.length
  · have e1 : (16384 : Int) < ((s.length : Nat) : Int) := by omega
    have ep : parseD s = (ly0, 3, 0) := by unfold parseD; rw [if_pos hlen]
    simp (disch := first | assumption | omega | (simp only [LN] <;> omega) | (simp (disch := first | assumption | omega | (simp only [LN] <;> omega)) only [row_alloc, row_set]; assumption)) only [f10, W_block, P3, ↓reduceIte, reduceAdd, reduceEqDiff, reduceCtorEq, initFr, reduceLT, clsA, reduceLeDiff, reduceMul, reduceSub, reduceIte, a_lens]
    refine hq2 _ _ ⟨_, resP rfl rfl rfl gh rfl, kh, nil4, [], by rw [ep]; rfl, by rw [ep]; exact lyR0 _⟩
  have e1 : ¬ (16384 : Int) < ((s.length : Nat) : Int) := by omega
  have ep : parseD s = parseG lineD ly0 (splitB 10 s) 0 := by unfold parseD; rw [if_neg hlen]
  simp (disch := first | assumption | omega | (simp only [LN] <;> omega) | (simp (disch := first | assumption | omega | (simp only [LN] <;> omega)) only [row_alloc, row_set]; assumption)) only [f10, W_block, P3, ↓reduceIte, reduceAdd, reduceEqDiff, reduceCtorEq, initFr, reduceLT, clsA, reduceLeDiff, reduceMul, reduceSub, reduceIte, a_lens]
  refine callK (t20 _ s (by omega)) ?_
  rintro vl K1 ⟨k1, al, fl⟩
  have la : lenS vl = (splitB 10 s).length := (AP.tl al).len
  have ia := Sl.is (AP.tl al)
  have nl : (splitB 10 s).length ≤ s.length + 1 := splitB_len 10 s
  simp (disch := first | assumption | omega | (simp only [LN] <;> omega) | (simp (disch := first | assumption | omega | (simp only [LN] <;> omega)) only [row_alloc, row_set]; assumption)) only [ P3, ↓reduceIte, reduceAdd, reduceEqDiff, reduceCtorEq, initFr, reduceLT, clsA, reduceLeDiff, reduceMul, reduceSub, reduceIte, la]
  rw [W_block]
  have b0 : SepH K1 _ [thB K1.n (lO nil4.l)] := (SepH.nil K1).box _
  have R0 : DR K1 _ nil4 [] ly0 [thB K1.n (lO nil4.l)] := ⟨(b0.adds (us := [thA 9 1 (.slice none 0 0) 0 [], thA 58 2 (.slice none 0 0) 0 [], thA 59 2 (.slice none 0 0) 0 [], thA 43 6 (.slice none 0 0) 0 [], thI []]) (by
    intro t ht
    simp only [List.mem_cons, List.not_mem_nil, or_false] at ht
    rcases ht with rfl | rfl | rfl | rfl | rfl
    · exact ⟨.inl ⟨rfl, rfl, rfl⟩, rfl⟩
    · exact ⟨.inl ⟨rfl, rfl, rfl⟩, rfl⟩
    · exact ⟨.inl ⟨rfl, rfl, rfl⟩, rfl⟩
    · exact ⟨.inl ⟨rfl, rfl, rfl⟩, rfl⟩
    · exact ⟨by intro x hx; simp at hx, rfl⟩)).perm (List.perm_append_comm (l₁ := [_]) (l₂ := [_, _, _, _, _])), rfl⟩
  have kh1 := kh.trans k1
  have gh1 := k1.at_ gh
  have hv := AP.tl al
  refine W_loop2 (fun k fr K => ∃ i u xs L x7 x8 x9 x11 x12 x13 x14 x15, fr = [.string ⟨s.toArray⟩, ptr H.n 0, .int .i64 0, .int .i64 0, vl, ptr K1.n 0, .int .i64 ((i : Nat) : Int), x7, x8, x9, .bool false, x11, x12, x13, x14, x15] ∧ DR K1 K u xs L [thB K1.n (lO u.l)] ∧ LyLim L ∧ LyFit L ∧ parseD s = parseG lineD L ((splitB 10 s).drop i) i ∧ i ≤ (splitB 10 s).length ∧ k = (splitB 10 s).length - i) (splitB 10 s).length
    ⟨0, _, _, _, _, _, _, _, _, _, _, _, rfl, R0, ly0_lim, ly0_fit, by rw [ep, List.drop_zero], by omega, rfl⟩ ?_
  rintro Q' k fr K ⟨i, u, xs, L, x7, x8, x9, x11, x12, x13, x14, x15, rfl, R, hL, hF, hp, hi, rfl⟩ hn hx hret
  have gK := R.sep.k.at_ gh1
  have kK := kh1.trans R.sep.k
  have hvK : TL K vl (splitB 10 s) := Sl.keeps hv R.sep.k
  have gl : K.get K1.n = some (.cells true false 4 u.l 28) := R.sep.at_ 5 rfl
  have hlt1 := AHeap.get_lt gh1
  have fail : ∀ (fr : List Value) (X : AHeap) (e : Int) (n : Nat), fr.getD 1 undef = ptr H.n 0 → fr.getD 2 undef = .int .i64 e → fr.getD 3 undef = .int .i64 (n : Int) → parseD s = (ly0, e, n) → Keeps K1 X → Q .ret fr (X.set H.n (.cells true false 4 [.slice none 0 0, .slice none 0 0, .slice none 0 0, .slice none 0 0] 28)) := fun fr X e n f1 f2 f3 hd kx => by
    have gx := kx.at_ gh1
    refine hq2 _ _ ⟨_, resP f1 f2 f3 (AHeap.get_set_same gx _) rfl, (kh1.trans kx).set (Nat.le_refl _) (AHeap.get_lt gx) _, nil4, [], by rw [hd]; rfl, by rw [hd]; exact lyR0 _⟩
  by_cases hlt : i < (splitB 10 s).length
  · obtain ⟨na, ra⟩ := hvK.at_ hlt
    have h0 : (0 : Int) ≤ (i : Int) := by omega
    have h1 : (i : Int) < ((lenS vl : Nat) : Int) := by omega
    have h3 : (i : Int) < (((splitB 10 s).length : Nat) : Int) := by omega
    have hw : IntKind.i64.wrap ((i : Int) + 1) = ((i + 1 : Nat) : Int) := by rw [wrap_i64 (by omega) (by omega)]; simp
    have hll := splitB_lines hlt
    rw [parseG_step hlt] at hp
    unfold tRow at ra
    generalize (splitB 10 s).getD i [] = l at *
    simp (disch := first | assumption | omega | (simp only [LN] <;> omega) | (simp (disch := first | assumption | omega | (simp only [LN] <;> omega)) only [row_alloc, row_set]; assumption)) only [W_block, P3, ↓reduceIte, reduceAdd, reduceEqDiff, reduceCtorEq, initFr, reduceLT, clsA, reduceLeDiff, reduceMul, reduceSub, reduceIte, la, ra, na, a_load1v]
    refine callK (t21 K l (by omega)) ?_
    rintro _ K2 ⟨k2, hwd⟩
    have gl2 := k2.at_ gl
    have gK2 := k2.at_ gK
    unfold lineD at hp
    cases hok : okW (aheadB l) with
    | false =>
      simp only [hok, Bool.false_eq_true, if_false] at hwd hp
      subst hwd
      have e0 : ((30 : Int) != 0) = true := rfl
      simp (disch := first | assumption | omega | (simp only [LN] <;> omega) | (simp (disch := first | assumption | omega | (simp only [LN] <;> omega)) only [row_alloc, row_set]; assumption)) only [W_block, P3, ↓reduceIte, reduceAdd, reduceEqDiff, reduceCtorEq, initFr, reduceLT, clsA, reduceLeDiff, reduceMul, reduceSub, reduceIte, e0, fill0, gK2, hw]
      exact hret _ _ (fail _ _ 30 (i + 1) rfl rfl rfl (by rw [hp]; rfl) (R.sep.k.trans k2))
    | true =>
    simp only [hok, if_true] at hwd hp
    obtain ⟨v, rfl, av, fv⟩ := hwd
    have hv2 : TL K2 v _ := AP.tl av
    have hwl := wordsB_len (aheadB l)
    have hal := ahead_len l
    have hwm : ∀ w ∈ wordsB (aheadB l), w.length ≤ 1000000000 := fun w hm => by have := wordsB_mem hm; omega
    generalize wordsB (aheadB l) = ws at *
    have iv := Sl.is hv2
    have lv := hv2.len
    have e0 : ((0 : Int) != 0) = false := rfl
    unfold lineDW at hp
    by_cases hz : ws.length = 0
    · have ez : (((ws.length : Nat) : Int) == 0) = true := beqi_yes (by omega)
      simp only [hz, if_true] at hp
      simp (disch := first | assumption | omega | (simp only [LN] <;> omega) | (simp (disch := first | assumption | omega | (simp only [LN] <;> omega)) only [row_alloc, row_set]; assumption)) only [W_block, P3, ↓reduceIte, reduceAdd, reduceEqDiff, reduceCtorEq, initFr, reduceLT, clsA, reduceLeDiff, reduceMul, reduceSub, reduceIte, e0, lv, ez, hw]
      exact hn _ _ _ ⟨i + 1, _, _, _, _, _, _, _, _, _, _, _, rfl, R.keeps k2, hL, hF, hp, by omega, rfl⟩ (by omega)
    have ez : (((ws.length : Nat) : Int) == 0) = false := beqi_no (by omega)
    simp only [hz, if_false] at hp
    have R2 := R.keeps k2
    have ho := ly_ones R2.ly
    have ll : u.l.length = 4 := rfl
    simp (disch := first | assumption | omega | (simp only [LN] <;> omega) | (simp (disch := first | assumption | omega | (simp only [LN] <;> omega)) only [row_alloc, row_set]; assumption)) only [W_block, P3, ↓reduceIte, reduceAdd, reduceEqDiff, reduceCtorEq, initFr, reduceLT, clsA, reduceLeDiff, reduceMul, reduceSub, reduceIte, e0, lv, ez, gl2, ll]
    refine callK (t22 R2 hF hL hv2 (by omega) (by omega) hwm) ?_
    rintro _ X ⟨kx, u', rfl, o', r', f'⟩
    have l' : u'.l.length = 4 := rfl
    have kXm : ∀ o, Keeps X (X.alloc o) := fun o => (Keeps.refl X).alloc o
    have gm : (X.alloc (.cells true false 4 u'.l 28)).get X.n = some (.cells true false 4 u'.l 28) := AHeap.get_alloc_new _ _
    by_cases he : (lineD0 L ws).1 = 0
    rotate_left
    · simp only [he, if_false] at hp
      have e1 : ((lineD0 L ws).1 == 0) = false := beqi_no he
      have e2 : ((lineD0 L ws).1 != 0) = true := bnei_yes he
      have gx : (X.alloc (.cells true false 4 u'.l 28)).get H.n = _ := ((f' he).alloc _).at_ gK2
      simp (disch := first | assumption | omega | (simp only [LN] <;> omega) | (simp (disch := first | assumption | omega | (simp only [LN] <;> omega)) only [row_alloc, row_set]; assumption)) only [W_block, P3, ↓reduceIte, reduceAdd, reduceEqDiff, reduceCtorEq, initFr, reduceLT, clsA, reduceLeDiff, reduceMul, reduceSub, reduceIte, l', o', e1, e2, hw, fill0, gx]
      exact hret _ _ (fail _ _ _ (i + 1) rfl rfl rfl (by rw [hp]) ((kx.trans (kXm _))))
    obtain ⟨xs', R'⟩ := r' he
    simp only [he, if_true] at hp
    have e1 : ((lineD0 L ws).1 == 0) = true := beqi_yes he
    rw [he]
    have R3 := R'.keeps (kXm (.cells true false 4 u'.l 28))
    have gx : (X.alloc (.cells true false 4 u'.l 28)).get H.n = _ := (kx.trans (kXm _)).at_ gh1
    have e10 : ((0 : Int) == 0) = true := rfl
    simp (disch := first | assumption | omega | (simp only [LN] <;> omega) | (simp (disch := first | assumption | omega | (simp only [LN] <;> omega)) only [row_alloc, row_set]; assumption)) only [W_block, P3, ↓reduceIte, reduceAdd, reduceEqDiff, reduceCtorEq, initFr, reduceLT, clsA, reduceLeDiff, reduceMul, reduceSub, reduceIte, l', o', e10, gm]
    refine callK (t23 R3.ly) ?_
    rintro _ Y ⟨rfl, hY⟩
    rw [hY]
    cases hfl : fullB (lineD0 L ws).2 with
    | true =>
      simp only [hfl, if_true] at hp
      have e3 : ((3 : Int) != 0) = true := rfl
      simp (disch := first | assumption | omega | (simp only [LN] <;> omega) | (simp (disch := first | assumption | omega | (simp only [LN] <;> omega)) only [row_alloc, row_set]; assumption)) only [W_block, P3, ↓reduceIte, reduceAdd, reduceEqDiff, reduceCtorEq, initFr, reduceLT, clsA, reduceLeDiff, reduceMul, reduceSub, reduceIte, e3, hw, fill0, gx]
      exact hret _ _ (fail _ _ 3 (i + 1) rfl rfl rfl (by rw [hp]; rfl) ((kx.trans (kXm _))))
    | false =>
    simp only [hfl, Bool.false_eq_true, if_false, he, if_true] at hp
    have gl3 : (X.alloc (.cells true false 4 u'.l 28)).get K1.n = some (.cells true false 4 u.l 28) := R3.sep.at_ 5 rfl
    simp (disch := first | assumption | omega | (simp only [LN] <;> omega) | (simp (disch := first | assumption | omega | (simp only [LN] <;> omega)) only [row_alloc, row_set]; assumption)) only [W_block, P3, ↓reduceIte, reduceAdd, reduceEqDiff, reduceCtorEq, initFr, reduceLT, clsA, reduceLeDiff, reduceMul, reduceSub, reduceIte, e0, hw, gm, gl3, l', o', ll]
    have R4 := R3.sep.upd (l := [_, _, _, _, _]) (r := []) (t' := thB K1.n (lO u'.l)) (Chg.set _ (AHeap.get_lt gl3) _) (AHeap.get_set_same gl3 _) (fun y hy => .inl hy)
    exact hn _ _ _ ⟨i + 1, _, _, _, _, _, _, _, _, _, _, _, rfl, ⟨R4, R3.e⟩, full_not hfl, lineD0_fit hF hL hwm he, hp, by omega, rfl⟩ (by omega)
  · have h3 : ¬ (i : Int) < (((splitB 10 s).length : Nat) : Int) := by omega
    simp (disch := first | assumption | omega | (simp only [LN] <;> omega) | (simp (disch := first | assumption | omega | (simp only [LN] <;> omega)) only [row_alloc, row_set]; assumption)) only [W_block, P3, ↓reduceIte, reduceAdd, reduceEqDiff, reduceCtorEq, initFr, reduceLT, clsA, reduceLeDiff, reduceMul, reduceSub, reduceIte, la]
    refine hx 0 _ _ ?_
    rw [List.drop_of_length_le (by omega)] at hp
    have ho := ly_ones R.ly
    have ll : u.l.length = 4 := rfl
    simp (disch := first | assumption | omega | (simp only [LN] <;> omega) | (simp (disch := first | assumption | omega | (simp only [LN] <;> omega)) only [row_alloc, row_set]; assumption)) only [W_block, P3, ↓reduceIte, reduceAdd, reduceEqDiff, reduceCtorEq, initFr, reduceLT, clsA, reduceLeDiff, reduceMul, reduceSub, reduceIte, gl, gK, ho, ll]
    refine hq2 _ _ ⟨_, resP rfl rfl rfl (AHeap.get_set_same gK _) rfl, kK.set (Nat.le_refl _) (AHeap.get_lt gK) _, u, xs, by rw [hp]; rfl, ?_⟩
    rw [hp]
    exact R.lyS (Chg.set K (AHeap.get_lt gK) _) (fun y hy => by
      simp only [List.mem_singleton] at hy; subst hy; exact hlt1)
end Go.AM.Fd

set_option linter.unusedSimpArgs false
set_option linter.unusedVariables false
namespace Go.AM.Fd
open Nat (reduceAdd reduceEqDiff reduceLT reduceLeDiff reduceMul reduceSub)
open Go.Proofs Go.AM.F
theorem q_str (s : ByteArray) : binA .eql (.string s) (.string s) = some (.bool true) := by rw [b_seql]; simp
theorem q_ib (a : Int) (b : Bool) (X : AHeap) : asem (.eqs [1, 0] true (.agg #[.int .i64 a, .bool b]) (.agg #[.int .i64 a, .bool b])) X = some (.bool false, X) := by simp [asem, eqCs, eqC]
theorem q_si (a : ByteArray) (b : Int) (X : AHeap) : asem (.eqs [2, 1] true (.agg #[.string a, .int .i64 b]) (.agg #[.string a, .int .i64 b])) X = some (.bool false, X) := by simp [asem, eqCs, eqC]
theorem t50 {H : AHeap} {v u : Value} {l : List Int} (ha : IL H v l) (hb : IL H u l) (hl : l.length ≤ 9223372036854775807) : ∃ w H', ARun Go.Proofs.Tryd.prog 4 50 [v, u] H w H' ∧ w = .bool true ∧ H' = H := by
  refine walk2 f50_ok f50_n ?_
  intro Q hq1 hq2
  have ia := Sl.is ha
  have ib := Sl.is hb
  have la := ha.len
  have lb := hb.len
  have e1 : (((l.length : Nat) : Int) != ((l.length : Nat) : Int)) = false := bnei_no rfl
  simp (disch := first | assumption | omega | (simp only [LN] <;> omega) | (simp (disch := first | assumption | omega | (simp only [LN] <;> omega)) only [row_alloc, row_set]; assumption)) only [ f50, P3, ↓reduceIte, reduceAdd, reduceEqDiff, reduceCtorEq, initFr, reduceLT, clsA, reduceLeDiff, reduceMul, reduceSub, reduceIte, la, lb, e1]
  rw [W_block]
  refine W_loop2 (fun k fr K => ∃ i x2 x5 x6, fr = [v, u, x2, .int .i64 ((i : Nat) : Int), .bool false, x5, x6] ∧ K = H ∧ i ≤ l.length ∧ k = l.length - i) l.length
    ⟨0, _, _, _, rfl, rfl, by omega, rfl⟩ ?_
  rintro Q' k fr K ⟨i, x2, x5, x6, rfl, rfl, hi, rfl⟩ hn hx hret
  by_cases hlt : i < l.length
  · obtain ⟨na, ra⟩ := ha.at_ hlt
    obtain ⟨nb, rb⟩ := hb.at_ hlt
    have h0 : (0 : Int) ≤ (i : Int) := by omega
    have h1 : (i : Int) < ((lenS v : Nat) : Int) := by omega
    have h2 : (i : Int) < ((lenS u : Nat) : Int) := by omega
    have h3 : (i : Int) < ((l.length : Nat) : Int) := by omega
    have hw : IntKind.i64.wrap ((i : Int) + 1) = ((i + 1 : Nat) : Int) := by rw [wrap_i64 (by omega) (by omega)]; simp
    generalize l.getD i 0 = n at *
    have e2 : ∀ n : Int, (n != n) = false := fun n => bnei_no rfl
    simp (disch := first | assumption | omega | (simp only [LN] <;> omega) | (simp (disch := first | assumption | omega | (simp only [LN] <;> omega)) only [row_alloc, row_set]; assumption)) only [W_block, P3, ↓reduceIte, reduceAdd, reduceEqDiff, reduceCtorEq, initFr, reduceLT, clsA, reduceLeDiff, reduceMul, reduceSub, reduceIte, la, lb, ra, rb, na, nb, a_load1v, a_loadnvf, e2, q_ib, hw]
    exact hn _ _ _ ⟨i + 1, _, _, _, rfl, rfl, by omega, rfl⟩ (by omega)
  · have h3 : ¬ (i : Int) < ((l.length : Nat) : Int) := by omega
    simp (disch := first | assumption | omega | (simp only [LN] <;> omega) | (simp (disch := first | assumption | omega | (simp only [LN] <;> omega)) only [row_alloc, row_set]; assumption)) only [W_block, P3, ↓reduceIte, reduceAdd, reduceEqDiff, reduceCtorEq, initFr, reduceLT, clsA, reduceLeDiff, reduceMul, reduceSub, reduceIte, la, lb]
    refine hx 0 _ _ ?_
    simp (disch := first | assumption | omega | (simp only [LN] <;> omega) | (simp (disch := first | assumption | omega | (simp only [LN] <;> omega)) only [row_alloc, row_set]; assumption)) only [W_block, P3, ↓reduceIte, reduceAdd, reduceEqDiff, reduceCtorEq, initFr, reduceLT, clsA, reduceLeDiff, reduceMul, reduceSub, reduceIte]
    exact hq2 _ _ ⟨_, rfl, rfl, rfl⟩
theorem t51 {H : AHeap} {v u : Value} {l : List (Int × Bool)} (ha : NL H v l) (hb : NL H u l) (hl : l.length ≤ 9223372036854775807) : ∃ w H', ARun Go.Proofs.Tryd.prog 4 51 [v, u] H w H' ∧ w = .bool true ∧ H' = H := by
  refine walk2 f51_ok f51_n ?_
  intro Q hq1 hq2
  have ia := Sl.is ha
  have ib := Sl.is hb
  have la := ha.len
  have lb := hb.len
  have e1 : (((l.length : Nat) : Int) != ((l.length : Nat) : Int)) = false := bnei_no rfl
  simp (disch := first | assumption | omega | (simp only [LN] <;> omega) | (simp (disch := first | assumption | omega | (simp only [LN] <;> omega)) only [row_alloc, row_set]; assumption)) only [ f51, P3, ↓reduceIte, reduceAdd, reduceEqDiff, reduceCtorEq, initFr, reduceLT, clsA, reduceLeDiff, reduceMul, reduceSub, reduceIte, la, lb, e1]
  rw [W_block]
  refine W_loop2 (fun k fr K => ∃ i x2 x5 x6, fr = [v, u, x2, .int .i64 ((i : Nat) : Int), .bool false, x5, x6] ∧ K = H ∧ i ≤ l.length ∧ k = l.length - i) l.length
    ⟨0, _, _, _, rfl, rfl, by omega, rfl⟩ ?_
  rintro Q' k fr K ⟨i, x2, x5, x6, rfl, rfl, hi, rfl⟩ hn hx hret
  by_cases hlt : i < l.length
  · obtain ⟨na, ra⟩ := ha.at_ hlt
    obtain ⟨nb, rb⟩ := hb.at_ hlt
    have h0 : (0 : Int) ≤ (i : Int) := by omega
    have h1 : (i : Int) < ((lenS v : Nat) : Int) := by omega
    have h2 : (i : Int) < ((lenS u : Nat) : Int) := by omega
    have h3 : (i : Int) < ((l.length : Nat) : Int) := by omega
    have hw : IntKind.i64.wrap ((i : Int) + 1) = ((i + 1 : Nat) : Int) := by rw [wrap_i64 (by omega) (by omega)]; simp
    generalize l.getD i (0, false) = n at *
    have e2 : ∀ n : Int, (n != n) = false := fun n => bnei_no rfl
    simp (disch := first | assumption | omega | (simp only [LN] <;> omega) | (simp (disch := first | assumption | omega | (simp only [LN] <;> omega)) only [row_alloc, row_set]; assumption)) only [W_block, P3, ↓reduceIte, reduceAdd, reduceEqDiff, reduceCtorEq, initFr, reduceLT, clsA, reduceLeDiff, reduceMul, reduceSub, reduceIte, la, lb, ra, rb, na, nb, a_load1v, a_loadnvf, e2, q_ib, hw]
    exact hn _ _ _ ⟨i + 1, _, _, _, rfl, rfl, by omega, rfl⟩ (by omega)
  · have h3 : ¬ (i : Int) < ((l.length : Nat) : Int) := by omega
    simp (disch := first | assumption | omega | (simp only [LN] <;> omega) | (simp (disch := first | assumption | omega | (simp only [LN] <;> omega)) only [row_alloc, row_set]; assumption)) only [W_block, P3, ↓reduceIte, reduceAdd, reduceEqDiff, reduceCtorEq, initFr, reduceLT, clsA, reduceLeDiff, reduceMul, reduceSub, reduceIte, la, lb]
    refine hx 0 _ _ ?_
    simp (disch := first | assumption | omega | (simp only [LN] <;> omega) | (simp (disch := first | assumption | omega | (simp only [LN] <;> omega)) only [row_alloc, row_set]; assumption)) only [W_block, P3, ↓reduceIte, reduceAdd, reduceEqDiff, reduceCtorEq, initFr, reduceLT, clsA, reduceLeDiff, reduceMul, reduceSub, reduceIte]
    exact hq2 _ _ ⟨_, rfl, rfl, rfl⟩
set_option maxHeartbeats 1000000 in
theorem t25 {H : AHeap} {x y : RV} (hx : x.ok H) (hy : y.ok H) (e : x.r = y.r) (h1 : x.r.path.length ≤ 9223372036854775807) (h2 : x.r.pts.length ≤ 9223372036854775807) (h3 : x.r.ov.length ≤ 9223372036854775807) (h4 : x.r.fl.length ≤ 9223372036854775807) :
    ∃ w H', ARun Go.Proofs.Tryd.prog 4 25 [.agg x.row.toArray, .agg y.row.toArray] H w H' ∧ w = .bool true ∧ Keeps H H' := by
  refine walk2 f25_ok f25_n ?_
  intro Q hq1 hq2
  obtain ⟨r, xp, xq, xo, xf⟩ := x
  obtain ⟨r', yp, yq, yo, yf⟩ := y
  simp only at e
  subst e
  have k : ∀ o o', Keeps H ((H.alloc o).alloc o') := fun o o' => ((Keeps.refl H).alloc o).alloc o'
  have hx2 := hx.keeps (k (.cells true false 6 [.string ⟨r.n.toArray⟩, .int .i64 r.g, xp, xq, xo, xf] 43) (.cells true false 6 [.string ⟨r.n.toArray⟩, .int .i64 r.g, yp, yq, yo, yf] 43))
  have hy2 := hy.keeps (k (.cells true false 6 [.string ⟨r.n.toArray⟩, .int .i64 r.g, xp, xq, xo, xf] 43) (.cells true false 6 [.string ⟨r.n.toArray⟩, .int .i64 r.g, yp, yq, yo, yf] 43))
  have a1 : [.string ⟨r.n.toArray⟩, .int .i64 r.g, xp, xq, xo, xf].all Value.oneCell' = true := by
    simp only [List.all_cons, List.all_nil, Sl.one hx.p, Sl.one hx.q, Sl.one hx.o, Sl.one hx.f]; rfl
  have a2 : [.string ⟨r.n.toArray⟩, .int .i64 r.g, yp, yq, yo, yf].all Value.oneCell' = true := by
    simp only [List.all_cons, List.all_nil, Sl.one hy.p, Sl.one hy.q, Sl.one hy.o, Sl.one hy.f]; rfl
  have g1 := k (.cells true false 6 [.string ⟨r.n.toArray⟩, .int .i64 r.g, xp, xq, xo, xf] 43) (.cells true false 6 [.string ⟨r.n.toArray⟩, .int .i64 r.g, yp, yq, yo, yf] 43)
  have eq1 : ∀ n : Int, (n == n) = true := fun n => beqi_yes rfl
  simp only [RV.row] at *
  simp (disch := first | assumption | omega | (simp only [LN] <;> omega) | (simp (disch := first | assumption | omega | (simp only [LN] <;> omega)) only [row_alloc, row_set]; assumption)) only [f25, W_block, P3, ↓reduceIte, reduceAdd, reduceEqDiff, reduceCtorEq, initFr, reduceLT, clsA, reduceLeDiff, reduceMul, reduceSub, reduceIte, a1, a2, q_str, eq1]
  refine callK (t50 hx2.p hy2.p h1) ?_
  rintro _ X ⟨rfl, hX⟩
  rw [hX]
  simp (disch := first | assumption | omega | (simp only [LN] <;> omega) | (simp (disch := first | assumption | omega | (simp only [LN] <;> omega)) only [row_alloc, row_set]; assumption)) only [W_block, P3, ↓reduceIte, reduceAdd, reduceEqDiff, reduceCtorEq, initFr, reduceLT, clsA, reduceLeDiff, reduceMul, reduceSub, reduceIte]
  refine callK (t51 hx2.q hy2.q h2) ?_
  rintro _ X ⟨rfl, hX⟩
  rw [hX]
  simp (disch := first | assumption | omega | (simp only [LN] <;> omega) | (simp (disch := first | assumption | omega | (simp only [LN] <;> omega)) only [row_alloc, row_set]; assumption)) only [W_block, P3, ↓reduceIte, reduceAdd, reduceEqDiff, reduceCtorEq, initFr, reduceLT, clsA, reduceLeDiff, reduceMul, reduceSub, reduceIte]
  refine callK (t50 hx2.o hy2.o h3) ?_
  rintro _ X ⟨rfl, hX⟩
  rw [hX]
  simp (disch := first | assumption | omega | (simp only [LN] <;> omega) | (simp (disch := first | assumption | omega | (simp only [LN] <;> omega)) only [row_alloc, row_set]; assumption)) only [W_block, P3, ↓reduceIte, reduceAdd, reduceEqDiff, reduceCtorEq, initFr, reduceLT, clsA, reduceLeDiff, reduceMul, reduceSub, reduceIte]
  refine callK (t51 hx2.f hy2.f h4) ?_
  rintro _ X ⟨rfl, hX⟩
  rw [hX]
  simp (disch := first | assumption | omega | (simp only [LN] <;> omega) | (simp (disch := first | assumption | omega | (simp only [LN] <;> omega)) only [row_alloc, row_set]; assumption)) only [W_block, P3, ↓reduceIte, reduceAdd, reduceEqDiff, reduceCtorEq, initFr, reduceLT, clsA, reduceLeDiff, reduceMul, reduceSub, reduceIte]
  exact hq2 _ _ ⟨_, rfl, rfl, g1⟩
end Go.AM.Fd

set_option linter.unusedSimpArgs false
set_option linter.unusedVariables false
namespace Go.AM.Fd
open Nat (reduceAdd reduceEqDiff reduceLT reduceLeDiff reduceMul reduceSub)
open Go.Proofs Go.AM.F
set_option maxHeartbeats 4000000 in
theorem t11 {H : AHeap} {u u' : V4} {xs xs' : List RV} {L : Ly} (ha : LyR H u xs L) (hb : LyR H u' xs' L) (hf : LyIn 9223372036854775807 L) :
    ∃ w H', ARun Go.Proofs.Tryd.prog 4 11 [.agg u.l.toArray, .agg u'.l.toArray] H w H' ∧ w = .bool true ∧ Keeps H H' := by
  refine walk2 f11_ok f11_n ?_
  intro Q hq1 hq2
  have o1 := ly_ones ha
  have o2 := ly_ones hb
  have k0 : Keeps H ((H.alloc (lO u.l)).alloc (lO u'.l)) := ((Keeps.refl H).alloc _).alloc _
  have g1 : ((H.alloc (lO u.l)).alloc (lO u'.l)).get H.n = some (.cells true false 4 u.l 28) := (AHeap.get_alloc_old _ _ (by simp [AHeap.alloc])).trans (AHeap.get_alloc_new _ _)
  have g2 : ((H.alloc (lO u.l)).alloc (lO u'.l)).get (H.n + 1) = some (.cells true false 4 u'.l 28) := AHeap.get_alloc_new _ _
  have a1 := ha.keeps k0
  have b1 := hb.keeps k0
  simp only [lO] at k0 g1 g2 a1 b1
  have ll : ∀ u : V4, u.l.length = 4 := fun _ => rfl
  have s1 := Sl.is ha.p
  have s2 := Sl.is hb.p
  have s3 := Sl.is ha.g
  have s4 := Sl.is hb.g
  have s5 := Sl.is ha.r
  have s6 := Sl.is hb.r
  have l1 := ha.p.len
  have l2 := hb.p.len
  have l3 := ha.g.len
  have l4 := hb.g.len
  have l5 : lenS u.r = L.r.length := by rw [ha.r.len, ha.rlen]
  have l6 : lenS u'.r = L.r.length := by rw [hb.r.len, hb.rlen]
  have ne1 : ∀ n : Int, (n != n) = false := fun n => bnei_no rfl
  obtain ⟨us, up, ug, ur⟩ := u
  obtain ⟨vs, vp, vg, vr⟩ := u'
  simp only [V4.l] at *
  simp (disch := first | assumption | omega | (simp only [LN] <;> omega) | (simp (disch := first | assumption | omega | (simp only [LN] <;> omega)) only [row_alloc, row_set]; assumption)) only [f11, W_block, P3, ↓reduceIte, reduceAdd, reduceEqDiff, reduceCtorEq, initFr, reduceLT, clsA, reduceLeDiff, reduceMul, reduceSub, reduceIte, o1, o2]
  generalize (H.alloc (.cells true false 4 [us, up, ug, ur] 28)).alloc (.cells true false 4 [vs, vp, vg, vr] 28) = K0 at *
  have n1 := AHeap.get_lt g1
  have n2 := AHeap.get_lt g2
  refine callK (t24 a1.s b1.s hf.s.1) ?_
  rintro _ X ⟨rfl, hX⟩
  rw [hX, decide_eq_true rfl]
  simp (disch := first | assumption | omega | (simp only [LN] <;> omega) | (simp (disch := first | assumption | omega | (simp only [LN] <;> omega)) only [row_alloc, row_set]; assumption)) only [ P3, ↓reduceIte, reduceAdd, reduceEqDiff, reduceCtorEq, initFr, reduceLT, clsA, reduceLeDiff, reduceMul, reduceSub, reduceIte, g1, g2, l1, l2, l3, l4, l5, l6, ne1]
  rw [W_block]
  refine W_loop2 (fun k fr K => ∃ i x6 x7 x9 x10 x11 x12 x13 x14, fr = [.agg #[us, up, ug, ur], .agg #[vs, vp, vg, vr], ptr H.n 0, ptr (H.n + 1) 0, .bool false, .int .i64 ((i : Nat) : Int), x6, x7, .bool false, x9, x10, x11, x12, x13, x14] ∧ K0 = K ∧ i ≤ L.p.length ∧ k = L.p.length - i) L.p.length
    ⟨0, _, _, _, _, _, _, _, _, rfl, rfl, by omega, rfl⟩ ?_
  rintro Q5 k fr K ⟨i, x6, x7, x9, x10, x11, x12, x13, x14, rfl, rfl, hi, rfl⟩ hn hx hret
  by_cases hlt : i < L.p.length
  · obtain ⟨na, ra⟩ := a1.p.at_ hlt
    obtain ⟨nb, rb⟩ := b1.p.at_ hlt
    have h0 : (0 : Int) ≤ (i : Int) := by omega
    have h1 : (i : Int) < ((lenS up : Nat) : Int) := by omega
    have h2 : (i : Int) < ((lenS vp : Nat) : Int) := by omega
    have h3 : (i : Int) < ((L.p.length : Nat) : Int) := by omega
    have hfl := hf.p.1
    have hw : IntKind.i64.wrap ((i : Int) + 1) = ((i + 1 : Nat) : Int) := by rw [wrap_i64 (by omega) (by omega)]; simp
    simp (disch := first | assumption | omega | (simp only [LN] <;> omega) | (simp (disch := first | assumption | omega | (simp only [LN] <;> omega)) only [row_alloc, row_set]; assumption)) only [W_block, P3, ↓reduceIte, reduceAdd, reduceEqDiff, reduceCtorEq, initFr, reduceLT, clsA, reduceLeDiff, reduceMul, reduceSub, reduceIte, g1, g2, l1, l2, ra, rb, na, nb, a_loadnvf, q_si, hw]
    exact hn _ _ _ ⟨i + 1, _, _, _, _, _, _, _, _, rfl, rfl, by omega, rfl⟩ (by omega)
  have h3 : ¬ (i : Int) < ((L.p.length : Nat) : Int) := by omega
  simp (disch := first | assumption | omega | (simp only [LN] <;> omega) | (simp (disch := first | assumption | omega | (simp only [LN] <;> omega)) only [row_alloc, row_set]; assumption)) only [W_block, P3, ↓reduceIte, reduceAdd, reduceEqDiff, reduceCtorEq, initFr, reduceLT, clsA, reduceLeDiff, reduceMul, reduceSub, reduceIte, g1, g2, l1]
  refine hx 0 _ _ ?_
  clear hn hx hret
  simp (disch := first | assumption | omega | (simp only [LN] <;> omega) | (simp (disch := first | assumption | omega | (simp only [LN] <;> omega)) only [row_alloc, row_set]; assumption)) only [ P3, ↓reduceIte, reduceAdd, reduceEqDiff, reduceCtorEq, initFr, reduceLT, clsA, reduceLeDiff, reduceMul, reduceSub, reduceIte]
  rw [W_block]
  refine W_loop2 (fun k fr K => ∃ i x5 x7 x9 x10 x11 x12 x13 x14, fr = [.agg #[us, up, ug, ur], .agg #[vs, vp, vg, vr], ptr H.n 0, ptr (H.n + 1) 0, .bool false, x5, .int .i64 ((i : Nat) : Int), x7, .bool false, x9, x10, x11, x12, x13, x14] ∧ K0 = K ∧ i ≤ L.g.length ∧ k = L.g.length - i) L.g.length
    ⟨0, _, _, _, _, _, _, _, _, rfl, rfl, by omega, rfl⟩ ?_
  rintro Q6 k fr K ⟨i, x5, x7, x9, x10, x11, x12, x13, x14, rfl, rfl, hi, rfl⟩ hn hx hret
  by_cases hlt : i < L.g.length
  · obtain ⟨na, ra⟩ := a1.g.at_ hlt
    obtain ⟨nb, rb⟩ := b1.g.at_ hlt
    have h0 : (0 : Int) ≤ (i : Int) := by omega
    have h1 : (i : Int) < ((lenS ug : Nat) : Int) := by omega
    have h2 : (i : Int) < ((lenS vg : Nat) : Int) := by omega
    have h3 : (i : Int) < ((L.g.length : Nat) : Int) := by omega
    have hfl := hf.g.1
    have hw : IntKind.i64.wrap ((i : Int) + 1) = ((i + 1 : Nat) : Int) := by rw [wrap_i64 (by omega) (by omega)]; simp
    simp (disch := first | assumption | omega | (simp only [LN] <;> omega) | (simp (disch := first | assumption | omega | (simp only [LN] <;> omega)) only [row_alloc, row_set]; assumption)) only [W_block, P3, ↓reduceIte, reduceAdd, reduceEqDiff, reduceCtorEq, initFr, reduceLT, clsA, reduceLeDiff, reduceMul, reduceSub, reduceIte, g1, g2, l3, l4, ra, rb, na, nb, a_loadnvf, q_si, hw]
    exact hn _ _ _ ⟨i + 1, _, _, _, _, _, _, _, _, rfl, rfl, by omega, rfl⟩ (by omega)
  have h3 : ¬ (i : Int) < ((L.g.length : Nat) : Int) := by omega
  simp (disch := first | assumption | omega | (simp only [LN] <;> omega) | (simp (disch := first | assumption | omega | (simp only [LN] <;> omega)) only [row_alloc, row_set]; assumption)) only [W_block, P3, ↓reduceIte, reduceAdd, reduceEqDiff, reduceCtorEq, initFr, reduceLT, clsA, reduceLeDiff, reduceMul, reduceSub, reduceIte, g1, g2, l3]
  refine hx 2 _ _ ?_
  clear hn hx hret
  simp (disch := first | assumption | omega | (simp only [LN] <;> omega) | (simp (disch := first | assumption | omega | (simp only [LN] <;> omega)) only [row_alloc, row_set]; assumption)) only [ P3, ↓reduceIte, reduceAdd, reduceEqDiff, reduceCtorEq, initFr, reduceLT, clsA, reduceLeDiff, reduceMul, reduceSub, reduceIte]
  rw [W_block]
  refine W_loop2 (fun k fr K => ∃ i x5 x6 x9 x10 x11 x12 x13 x14, fr = [.agg #[us, up, ug, ur], .agg #[vs, vp, vg, vr], ptr H.n 0, ptr (H.n + 1) 0, .bool false, x5, x6, .int .i64 ((i : Nat) : Int), .bool false, x9, x10, x11, x12, x13, x14] ∧ Keeps K0 K ∧ i ≤ L.r.length ∧ k = L.r.length - i) L.r.length
    ⟨0, _, _, _, _, _, _, _, _, rfl, Keeps.refl _, by omega, rfl⟩ ?_
  rintro Q7 k fr K ⟨i, x5, x6, x9, x10, x11, x12, x13, x14, rfl, kk, hi, rfl⟩ hn hx hret
  have g1k := kk.at_ g1
  have g2k := kk.at_ g2
  by_cases hlt : i < L.r.length
  · have hlt1 : i < xs.length := by rw [ha.rlen]; exact hlt
    have hlt2 : i < xs'.length := by rw [hb.rlen]; exact hlt
    obtain ⟨na, ra⟩ := RL.at_ (a1.keeps kk).r hlt1
    obtain ⟨nb, rb⟩ := RL.at_ (b1.keeps kk).r hlt2
    obtain ⟨xok, xr⟩ := (a1.keeps kk).rat hlt
    obtain ⟨yok, yr⟩ := (b1.keeps kk).rat hlt
    have h0 : (0 : Int) ≤ (i : Int) := by omega
    have h1 : (i : Int) < ((lenS ur : Nat) : Int) := by omega
    have h2 : (i : Int) < ((lenS vr : Nat) : Int) := by omega
    have h3 : (i : Int) < ((L.r.length : Nat) : Int) := by omega
    have hfl := hf.r.1
    obtain ⟨f1, f2, f3, f4, f5⟩ := hf.r.2 _ (getD_mem (d := rv0.r) hlt)
    rw [← xr] at f1 f2 f3 f4 f5
    have hw : IntKind.i64.wrap ((i : Int) + 1) = ((i + 1 : Nat) : Int) := by rw [wrap_i64 (by omega) (by omega)]; simp
    have exy := xr.trans yr.symm
    generalize xs.getD i rv0 = x at *
    generalize xs'.getD i rv0 = y at *
    simp (disch := first | assumption | omega | (simp only [LN] <;> omega) | (simp (disch := first | assumption | omega | (simp only [LN] <;> omega)) only [row_alloc, row_set]; assumption)) only [W_block, P3, ↓reduceIte, reduceAdd, reduceEqDiff, reduceCtorEq, initFr, reduceLT, clsA, reduceLeDiff, reduceMul, reduceSub, reduceIte, g1k, g2k, l5, l6, ra, rb, na, nb, a_loadnvf]
    refine callK (t25 xok yok exy f2 f3 f4 f5) ?_
    rintro _ X ⟨rfl, kx⟩
    simp (disch := first | assumption | omega | (simp only [LN] <;> omega) | (simp (disch := first | assumption | omega | (simp only [LN] <;> omega)) only [row_alloc, row_set]; assumption)) only [W_block, P3, ↓reduceIte, reduceAdd, reduceEqDiff, reduceCtorEq, initFr, reduceLT, clsA, reduceLeDiff, reduceMul, reduceSub, reduceIte, hw]
    exact hn _ _ _ ⟨i + 1, _, _, _, _, _, _, _, _, rfl, kk.trans kx, by omega, rfl⟩ (by omega)
  have h3 : ¬ (i : Int) < ((L.r.length : Nat) : Int) := by omega
  simp (disch := first | assumption | omega | (simp only [LN] <;> omega) | (simp (disch := first | assumption | omega | (simp only [LN] <;> omega)) only [row_alloc, row_set]; assumption)) only [W_block, P3, ↓reduceIte, reduceAdd, reduceEqDiff, reduceCtorEq, initFr, reduceLT, clsA, reduceLeDiff, reduceMul, reduceSub, reduceIte, g1k, g2k, l5]
  refine hx 4 _ _ ?_
  simp (disch := first | assumption | omega | (simp only [LN] <;> omega) | (simp (disch := first | assumption | omega | (simp only [LN] <;> omega)) only [row_alloc, row_set]; assumption)) only [W_block, P3, ↓reduceIte, reduceAdd, reduceEqDiff, reduceCtorEq, initFr, reduceLT, clsA, reduceLeDiff, reduceMul, reduceSub, reduceIte]
  exact hq2 _ _ ⟨_, rfl, rfl, k0.trans kk⟩
end Go.AM.Fd

set_option linter.unusedSimpArgs false
set_option linter.unusedVariables false
namespace Go.AM.Fd
open Go.Proofs Go.AM.F
theorem ixT_cat (n : List UInt8) : ∀ (a b : List (List UInt8)), (ixT n (a ++ b)).isSome = ((ixT n a).isSome || (ixT n b).isSome)
  | [], b => by simp [ixT]
  | x :: a, b => by
    simp only [List.cons_append, ixT]
    split
    · simp
    · have := ixT_cat n a b
      cases h1 : ixT n (a ++ b) <;> cases h2 : ixT n a <;> cases h3 : ixT n b <;> simp_all
theorem nameOf_ix (L : Ly) (n : List UInt8) : (nameOf L n).isSome = (ixT n (namesL L)).isSome := by
  unfold namesL nameOf
  rw [ixT_cat, ixT_cat, ixT_cat]
  cases ixT n L.s with
  | some i => simp
  | none =>
    cases ixT n (L.p.map (·.1)) with
    | some i => simp
    | none =>
      cases ixT n (L.g.map (·.1)) with
      | some i => simp
      | none => cases ixT n (L.r.map (·.n)) <;> simp
structure Dj (L : Ly) : Prop where
  p : ∀ n, (ixT n (L.p.map (·.1))).isSome = true → ixT n L.s = none
  g : ∀ n, (ixT n (L.g.map (·.1))).isSome = true → ixT n L.s = none ∧ ixT n (L.p.map (·.1)) = none
theorem Dj.kp {L : Ly} (h : Dj L) (n : List UInt8) : kN 63 L n = pIx L n := by
  have h1 := h.p n
  unfold kN nameOf pIx
  cases hp : ixT n (L.p.map (·.1)) with
  | some i =>
    rw [hp] at h1
    rw [h1 rfl]; rfl
  | none =>
    cases hs : ixT n L.s with
    | some i => rfl
    | none =>
      cases hg : ixT n (L.g.map (·.1)) with
      | some i => rfl
      | none => cases hr : ixT n (L.r.map (·.n)) <;> rfl
theorem Dj.kg {L : Ly} (h : Dj L) (n : List UInt8) : kN 65 L n = gIx L n := by
  have h1 := h.g n
  unfold kN nameOf gIx
  cases hg : ixT n (L.g.map (·.1)) with
  | some i =>
    rw [hg] at h1
    rw [(h1 rfl).1, (h1 rfl).2]; rfl
  | none =>
    cases hs : ixT n L.s with
    | some i => rfl
    | none =>
      cases hp : ixT n (L.p.map (·.1)) with
      | some i => rfl
      | none => cases hr : ixT n (L.r.map (·.n)) <;> rfl
theorem nameOf_no {L : Ly} {n : List UInt8} (h : nameOf L n = none) : ixT n L.s = none ∧ ixT n (L.p.map (·.1)) = none ∧ ixT n (L.g.map (·.1)) = none := by
  unfold nameOf at h
  cases hs : ixT n L.s with
  | some i => rw [hs] at h; cases h
  | none =>
    cases hp : ixT n (L.p.map (·.1)) with
    | some i => rw [hs, hp] at h; cases h
    | none =>
      cases hg : ixT n (L.g.map (·.1)) with
      | some i => rw [hs, hp, hg] at h; cases h
      | none => exact ⟨rfl, rfl, rfl⟩
theorem ix_ne {n m : List UInt8} {l : List (List UInt8)} (h : ixT n l = none) (k : (ixT m l).isSome = true) : n ≠ m := fun e => by subst e; rw [h] at k; cases k
theorem Dj.addS {L : Ly} (h : Dj L) {n : List UInt8} (hn : nameOf L n = none) : Dj { L with s := L.s ++ [n] } := by
  obtain ⟨h1, h2, h3⟩ := nameOf_no hn
  refine ⟨fun m hm => ?_, fun m hm => ⟨?_, (h.g m hm).2⟩⟩
  · show ixT m (L.s ++ [n]) = none
    rw [ixT_app, h.p m hm, if_neg (ix_ne h2 hm)]
  · show ixT m (L.s ++ [n]) = none
    rw [ixT_app, (h.g m hm).1, if_neg (ix_ne h3 hm)]
theorem Dj.addP {L : Ly} (h : Dj L) {n : List UInt8} (i : Int) (hn : nameOf L n = none) : Dj { L with p := L.p ++ [(n, i)] } := by
  obtain ⟨h1, h2, h3⟩ := nameOf_no hn
  have e : (L.p ++ [(n, i)]).map (·.1) = L.p.map (·.1) ++ [n] := by simp
  refine ⟨fun m hm => ?_, fun m hm => ⟨(h.g m hm).1, ?_⟩⟩
  · have hm' : (ixT m ((L.p ++ [(n, i)]).map (·.1))).isSome = true := hm
    rw [e, ixT_app] at hm'
    cases hp : ixT m (L.p.map (·.1)) with
    | some j => exact h.p m (by rw [hp]; rfl)
    | none =>
      rw [hp] at hm'
      by_cases enm : n = m
      · subst enm; exact h1
      · simp [enm] at hm'
  · show ixT m ((L.p ++ [(n, i)]).map (·.1)) = none
    rw [e, ixT_app, (h.g m hm).2, if_neg (ix_ne h3 hm)]
theorem Dj.addG {L : Ly} (h : Dj L) {n : List UInt8} (i : Int) (hn : nameOf L n = none) : Dj { L with g := L.g ++ [(n, i)] } := by
  obtain ⟨h1, h2, h3⟩ := nameOf_no hn
  have e : (L.g ++ [(n, i)]).map (·.1) = L.g.map (·.1) ++ [n] := by simp
  refine ⟨h.p, fun m hm => ?_⟩
  have hm' : (ixT m ((L.g ++ [(n, i)]).map (·.1))).isSome = true := hm
  rw [e, ixT_app] at hm'
  cases hp : ixT m (L.g.map (·.1)) with
  | some j => exact h.g m (by rw [hp]; rfl)
  | none =>
    rw [hp] at hm'
    by_cases enm : n = m
    · subst enm; exact ⟨h1, h2⟩
    · simp [enm] at hm'
def EqL (a b : Int × Ly) : Prop := a.1 = b.1 ∧ (a.1 = 0 → a.2 = b.2 ∧ Dj a.2)
theorem EqL.err {L M : Ly} {e : Int} (h : e ≠ 0) : EqL (e, L) (e, M) := ⟨rfl, fun x => absurd x h⟩
def fulD (L : Ly) (a : Int × Ly) : Int × Ly := if a.1 = 0 then (if fullB a.2 then (3, L) else a) else (a.1, L)
theorem full_s {L : Ly} (h : LyLim L) (n : List UInt8) : fullB { L with s := L.s ++ [n] } = decide (L.s.length = 64) := by
  have h1 := h.s; have h2 := h.p; have h3 := h.g; have h4 := h.r
  simp only [fullB, List.length_append, List.length_singleton]
  by_cases e : L.s.length = 64
  · simp [e]
  · simp [e]; omega
theorem full_p {L : Ly} (h : LyLim L) (n : List UInt8 × Int) : fullB { L with p := L.p ++ [n] } = decide (L.p.length = 32) := by
  have h1 := h.s; have h2 := h.p; have h3 := h.g; have h4 := h.r
  simp only [fullB, List.length_append, List.length_singleton]
  by_cases e : L.p.length = 32
  · simp [e]
  · simp [e]; omega
theorem full_g {L : Ly} (h : LyLim L) (n : List UInt8 × Int) : fullB { L with g := L.g ++ [n] } = decide (L.g.length = 32) := by
  have h1 := h.s; have h2 := h.p; have h3 := h.g; have h4 := h.r
  simp only [fullB, List.length_append, List.length_singleton]
  by_cases e : L.g.length = 32
  · simp [e]
  · simp [e]; omega
theorem full_r {L : Ly} (h : LyLim L) (n : Ro) : fullB { L with r := L.r ++ [n] } = decide (L.r.length = 64) := by
  have h1 := h.s; have h2 := h.p; have h3 := h.g; have h4 := h.r
  simp only [fullB, List.length_append, List.length_singleton]
  by_cases e : L.r.length = 64
  · simp [e]
  · simp [e]; omega
theorem fulD_err {L M : Ly} {e : Int} (h : e ≠ 0) : fulD L (e, M) = (e, L) := by simp [fulD, h]
theorem fulD_ok {L M : Ly} : fulD L (0, M) = if fullB M then (3, L) else (0, M) := by simp [fulD]
theorem EqL.fe {L : Ly} (e : Int) (h : e ≠ 0) : EqL (e, L) (fulD L (e, L)) := by rw [fulD_err h]; exact .err h
theorem eq_routeQ {L : Ly} (hL : LyLim L) (hd : Dj L) (ws g0 g1 g2 g3 g4 : List (List UInt8)) : EqL (routeQ L ws g0 g1 g2 g3 g4) (fulD L (routeQD L ws g0 g1 g2 g3 g4)) := by
  unfold routeQ routeQD
  split
  · exact .fe 40 (by decide)
  · rw [nameOf_ix]
    split
    · exact .fe 41 (by decide)
    · rename_i hnm
      have e1 : ∀ l, oAll (kN 62 L) l = oAll (sIx L) l := fun l => oAll_congr fun x _ => kN_s L x
      have e2 : ∀ l, oAll (ne2 L) l = oAll (nIx L) l := fun l => oAll_congr fun x _ => by unfold ne2 nIx; rw [hd.kp]
      rw [e1, e1, e2, e2, hd.kg]
      cases gIx L (ws.getD 2 []) with
      | none => exact .fe 42 (by decide)
      | some s =>
      cases oAll (sIx L) g1 with
      | none => exact .fe 42 (by decide)
      | some p =>
      cases oAll (nIx L) g2 with
      | none => exact .fe 42 (by decide)
      | some q =>
      cases oAll (sIx L) g3 with
      | none => exact .fe 42 (by decide)
      | some o =>
      cases oAll (nIx L) g4 with
      | none => exact .fe 42 (by decide)
      | some f =>
      simp only
      by_cases h16 : 16 < p.length ∨ 16 < q.length ∨ 16 < o.length ∨ 16 < f.length
      · rw [if_pos (by omega), if_pos h16]; exact .fe 3 (by decide)
      · rw [if_neg h16, fulD_ok, full_r hL]
        by_cases h64 : L.r.length = 64
        · rw [if_pos (by omega), decide_eq_true h64]; exact .err (by decide)
        · rw [if_neg (by omega), decide_eq_false h64]
          exact ⟨rfl, fun _ => ⟨rfl, ⟨hd.p, hd.g⟩⟩⟩
theorem eq_route {L : Ly} (hL : LyLim L) (hd : Dj L) (ws : List (List UInt8)) : EqL (routeP L ws) (fulD L (routeD L ws)) := by
  unfold routeP routeD
  generalize groupsB ws = gs
  rcases gs with _ | ⟨g0, _ | ⟨g1, _ | ⟨g2, _ | ⟨g3, _ | ⟨g4, _ | ⟨g5, gs⟩⟩⟩⟩⟩⟩
  case cons.cons.cons.cons.cons.nil => exact eq_routeQ hL hd ws g0 g1 g2 g3 g4
  all_goals exact .fe 40 (by decide)
theorem bnone {α : Type} {o : Option α} (h : ¬ o.isSome = true) : o = none := by cases o <;> simp_all
theorem eq_sec {L : Ly} (hL : LyLim L) (hd : Dj L) (ws : List (List UInt8)) : EqL (secP L ws) (fulD L (if ws.length ≠ 2 ∨ rightB (ws.getD 1 []) = false then (40, L) else if (ixT (ws.getD 1 []) (namesL L)).isSome then (41, L) else (0, { L with s := L.s ++ [ws.getD 1 []] }))) := by
  unfold secP
  split
  · rw [fulD_err (by decide)]; exact .err (by decide)
  · rw [nameOf_ix]
    split
    · rw [fulD_err (by decide)]; exact .err (by decide)
    · rename_i hnm
      rw [← nameOf_ix] at hnm
      rw [fulD_ok, full_s hL]
      by_cases h64 : L.s.length = 64
      · rw [if_pos h64, decide_eq_true h64]; exact .err (by decide)
      · rw [if_neg h64, decide_eq_false h64]
        exact ⟨rfl, fun _ => ⟨rfl, hd.addS (bnone hnm)⟩⟩
theorem eq_point {L : Ly} (hL : LyLim L) (hd : Dj L) (ws : List (List UInt8)) (hw : ws.getD 0 [] = wPoint) : EqL (partP L ws) (fulD L (if ws.length ≠ 3 ∨ rightB (ws.getD 1 []) = false then (40, L) else if (ixT (ws.getD 1 []) (namesL L)).isSome then (41, L) else match sIx L (ws.getD 2 []) with
    | none => (42, L)
    | some i => (0, { L with p := L.p ++ [(ws.getD 1 [], i)] }))) := by
  unfold partP
  split
  · rw [fulD_err (by decide)]; exact .err (by decide)
  · rw [nameOf_ix]
    split
    · rw [fulD_err (by decide)]; exact .err (by decide)
    · rename_i hnm
      rw [← nameOf_ix] at hnm
      rw [kN_s]
      cases sIx L (ws.getD 2 []) with
      | none => simp only; rw [fulD_err (by decide)]; exact .err (by decide)
      | some i =>
        simp only [hw, if_true]
        rw [fulD_ok, full_p hL]
        by_cases h64 : L.p.length = 32
        · rw [if_pos h64, decide_eq_true h64]; exact .err (by decide)
        · rw [if_neg h64, decide_eq_false h64]
          exact ⟨rfl, fun _ => ⟨rfl, hd.addP i (bnone hnm)⟩⟩
theorem eq_signal {L : Ly} (hL : LyLim L) (hd : Dj L) (ws : List (List UInt8)) (hw : ws.getD 0 [] ≠ wPoint) : EqL (partP L ws) (fulD L (if ws.length ≠ 3 ∨ rightB (ws.getD 1 []) = false then (40, L) else if (ixT (ws.getD 1 []) (namesL L)).isSome then (41, L) else match sIx L (ws.getD 2 []) with
    | none => (42, L)
    | some i => (0, { L with g := L.g ++ [(ws.getD 1 [], i)] }))) := by
  unfold partP
  split
  · rw [fulD_err (by decide)]; exact .err (by decide)
  · rw [nameOf_ix]
    split
    · rw [fulD_err (by decide)]; exact .err (by decide)
    · rename_i hnm
      rw [← nameOf_ix] at hnm
      rw [kN_s]
      cases sIx L (ws.getD 2 []) with
      | none => simp only; rw [fulD_err (by decide)]; exact .err (by decide)
      | some i =>
        simp only [hw, if_false]
        rw [fulD_ok, full_g hL]
        by_cases h64 : L.g.length = 32
        · rw [if_pos h64, decide_eq_true h64]; exact .err (by decide)
        · rw [if_neg h64, decide_eq_false h64]
          exact ⟨rfl, fun _ => ⟨rfl, hd.addG i (bnone hnm)⟩⟩
theorem route_short {L : Ly} {ws : List (List UInt8)} (h : ws.length < 2) : routeP L ws = (40, L) := by
  unfold routeP
  split
  · rename_i g0 g1 g2 g3 g4 e
    have := (groups_mem (g := g0) (ts := ws) (by rw [e]; simp)).1
    unfold routeQ
    rw [if_pos (.inl (by omega))]
  · rfl
theorem eq_line {L : Ly} (hL : LyLim L) (hd : Dj L) (l : List UInt8) : EqL (lineP L l) (lineD L l) := by
  unfold lineP lineD
  cases hok : okW (aheadB l) with
  | false => exact .err (by decide)
  | true =>
  simp only [if_true]
  generalize wordsB (aheadB l) = ws
  unfold lineW lineDW
  by_cases h0 : ws.length = 0
  · rw [if_pos h0, if_pos h0]; exact ⟨rfl, fun _ => ⟨rfl, hd⟩⟩
  rw [if_neg h0, if_neg h0]
  have ef : (if (lineD0 L ws).1 = 0 then (if fullB (lineD0 L ws).2 then (3, L) else lineD0 L ws) else ((lineD0 L ws).1, L)) = fulD L (lineD0 L ws) := by unfold fulD; rfl
  rw [ef]
  have nR : wRoute ≠ wSection ∧ wRoute ≠ wPoint ∧ wRoute ≠ wSignal ∧ wSignal ≠ wPoint := by decide
  unfold lineD0
  by_cases hR : ws.getD 0 [] = wRoute
  · rw [if_neg (by rw [hR]; exact nR.1), if_neg (by rw [hR]; exact nR.2.1), if_neg (by rw [hR]; exact nR.2.2.1), if_pos hR, if_pos hR]
    by_cases h2 : ws.length < 2
    · rw [if_pos h2, fulD_err (by decide), route_short h2]; exact .err (by decide)
    · rw [if_neg h2]; exact eq_route hL hd ws
  rw [if_neg hR, if_neg hR]
  by_cases hS : ws.getD 0 [] = wSection
  · rw [if_pos hS, if_pos hS]; exact eq_sec hL hd ws
  rw [if_neg hS, if_neg hS]
  by_cases hP : ws.getD 0 [] = wPoint
  · rw [if_pos hP, if_pos hP]; exact eq_point hL hd ws hP
  rw [if_neg hP, if_neg hP]
  by_cases hG : ws.getD 0 [] = wSignal
  · rw [if_pos hG, if_pos hG]; exact eq_signal hL hd ws hP
  rw [if_neg hG, if_neg hG, fulD_err (by decide)]
  exact .err (by decide)
theorem eq_parseG : ∀ (ls : List (List UInt8)) (L : Ly) (i : Nat), LyLim L → Dj L → parseG lineP L ls i = parseG lineD L ls i
  | [], L, i, _, _ => rfl
  | l :: ls, L, i, hL, hd => by
    have h := eq_line hL hd l
    simp only [parseG, h.1]
    by_cases e : (lineD L l).1 = 0
    · have e' := h.1.trans e
      rw [if_pos e, if_pos e, (h.2 e').1]
      refine eq_parseG ls _ (i + 1) ?_ ?_
      · rw [← (h.2 e').1]; exact lineP_lim hL l e'
      · rw [← (h.2 e').1]; exact (h.2 e').2
    · rw [if_neg e, if_neg e]
theorem eq_parse (s : List UInt8) : parseP s = parseD s := by
  unfold parseP parseD
  split
  · rfl
  · exact eq_parseG _ _ _ ly0_lim ⟨fun n h => by simp [ly0, ixT] at h, fun n h => by simp [ly0, ixT] at h⟩
end Go.AM.Fd

set_option linter.unusedSimpArgs false
set_option linter.unusedVariables false
namespace Go.AM.Fd
open Nat (reduceAdd reduceEqDiff reduceLT reduceLeDiff reduceMul reduceSub)
open Go.Proofs Go.AM.F
theorem LyFit.in_ {L : Ly} (h : LyFit L) : LyIn 9223372036854775807 L :=
  ⟨⟨by have := h.s.1; omega, h.s.2⟩, ⟨by have := h.p.1; omega, h.p.2⟩, ⟨by have := h.g.1; omega, h.g.2⟩, ⟨by have := h.r.1; omega, h.r.2⟩⟩
theorem lineD_fit {L : Ly} (h : LyFit L) (hL : LyLim L) {l : List UInt8} (hl : l.length ≤ 1000000000) (e : (lineD L l).1 = 0) : LyFit (lineD L l).2 ∧ LyLim (lineD L l).2 := by
  have hw : ∀ w ∈ wordsB (aheadB l), w.length ≤ 1000000000 := fun w hm => by have := wordsB_mem hm; have := ahead_len l; omega
  unfold lineD at e ⊢
  split
  · rename_i hok
    rw [if_pos hok] at e
    unfold lineDW at e ⊢
    split
    · exact ⟨h, hL⟩
    · rename_i h0
      rw [if_neg h0] at e
      split
      · rename_i h1
        rw [if_pos h1] at e
        split
        · exact ⟨h, hL⟩
        · rename_i h2; exact ⟨lineD0_fit h hL hw h1, full_not (by simpa using h2)⟩
      · exact ⟨h, hL⟩
  · exact ⟨h, hL⟩
theorem parseG_fit : ∀ (ls : List (List UInt8)) (L : Ly) (i : Nat), (∀ l ∈ ls, l.length ≤ 1000000000) → LyFit L → LyLim L → LyFit (parseG lineD L ls i).1
  | [], L, i, _, h, _ => h
  | l :: ls, L, i, hl, h, hL => by
    simp only [parseG]
    split
    · rename_i e
      have := lineD_fit h hL (hl l (by simp)) e
      exact parseG_fit ls _ _ (fun x hx => hl x (by simp [hx])) this.1 this.2
    · exact ly0_fit
theorem parseD_fit (s : List UInt8) : LyFit (parseD s).1 := by
  unfold parseD
  split
  · exact ly0_fit
  · refine parseG_fit _ _ _ (fun l hl => ?_) ly0_fit ly0_lim
    have := splitB_mem 10 s l hl
    omega
set_option maxHeartbeats 1000000 in
theorem lawParses : ∀ H args, NoOwn H → AVs Go.Proofs.Tryd.prog H.get [9] args → ∃ H', ARun Go.Proofs.Tryd.prog 4 3 args H (.bool true) H' := by
  intro H args _ h
  match args, h with
  | [v], ⟨h0, _⟩ =>
    obtain ⟨s, rfl, hs⟩ := av_str h0
    suffices h' : ∃ w H', ARun Go.Proofs.Tryd.prog 4 3 [.string ⟨s.toArray⟩] H w H' ∧ w = .bool true by
      obtain ⟨_, K, a, rfl⟩ := h'
      exact ⟨K, a⟩
    refine walk2 f3_ok f3_n ?_
    intro Q hq1 hq2
    by_cases hm : 1500 < s.length ∧ s.length ≤ 16384
    · have e1 : (1500 : Int) < ((s.length : Nat) : Int) := by omega
      have e2 : ((s.length : Nat) : Int) ≤ 16384 := by omega
      simp (disch := first | assumption | omega | (simp only [LN] <;> omega) | (simp (disch := first | assumption | omega | (simp only [LN] <;> omega)) only [row_alloc, row_set]; assumption)) only [f3, W_block, P3, ↓reduceIte, reduceAdd, reduceEqDiff, reduceCtorEq, initFr, reduceLT, clsA, reduceLeDiff, reduceMul, reduceSub, reduceIte, a_lens]
      refine callK (t8 _) ?_
      rintro _ K ⟨rfl, k⟩
      simp (disch := first | assumption | omega | (simp only [LN] <;> omega) | (simp (disch := first | assumption | omega | (simp only [LN] <;> omega)) only [row_alloc, row_set]; assumption)) only [W_block, P3, ↓reduceIte, reduceAdd, reduceEqDiff, reduceCtorEq, initFr, reduceLT, clsA, reduceLeDiff, reduceMul, reduceSub, reduceIte]
      exact hq2 _ _ ⟨_, rfl, rfl⟩
    by_cases e1 : (1500 : Int) < ((s.length : Nat) : Int)
    · have e2 : ¬ ((s.length : Nat) : Int) ≤ 16384 := by omega
      simp (disch := first | assumption | omega | (simp only [LN] <;> omega) | (simp (disch := first | assumption | omega | (simp only [LN] <;> omega)) only [row_alloc, row_set]; assumption)) only [f3, W_block, P3, ↓reduceIte, reduceAdd, reduceEqDiff, reduceCtorEq, initFr, reduceLT, clsA, reduceLeDiff, reduceMul, reduceSub, reduceIte, a_lens]
      refine callK (t9 H s) ?_
      rintro _ K1 ⟨k1, u, xs, rfl, y1⟩
      have o1 := ly_ones y1
      have ll : u.l.length = 4 := rfl
      simp (disch := first | assumption | omega | (simp only [LN] <;> omega) | (simp (disch := first | assumption | omega | (simp only [LN] <;> omega)) only [row_alloc, row_set]; assumption)) only [W_block, P3, ↓reduceIte, reduceAdd, reduceEqDiff, reduceCtorEq, initFr, reduceLT, clsA, reduceLeDiff, reduceMul, reduceSub, reduceIte, o1, ll]
      refine callK (t10 _ s) ?_
      rintro _ K2 ⟨k2, u2, xs2, rfl, y2⟩
      have o2 := ly_ones y2
      have ll2 : u2.l.length = 4 := rfl
      rw [eq_parse] at y1 ⊢
      have hfit := (parseD_fit s).in_
      have eq1 : ∀ n : Int, (n == n) = true := fun n => beqi_yes rfl
      generalize parseD s = r at *
      have g1 : K2.get K1.n = some (.cells true false 4 u.l 28) := k2.at_ (AHeap.get_alloc_new _ _)
      have kk : Keeps K1 K2 := ((Keeps.refl K1).alloc _).trans k2
      have n1 := AHeap.get_lt g1
      have ka : Keeps K2 (K2.alloc (.cells true false 4 u2.l 28)) := (Keeps.refl K2).alloc _
      have g2 : (K2.alloc (.cells true false 4 u2.l 28)).get K1.n = some (.cells true false 4 u.l 28) := ka.at_ g1
      have g3 : (K2.alloc (.cells true false 4 u2.l 28)).get K2.n = some (.cells true false 4 u2.l 28) := AHeap.get_alloc_new _ _
      simp (disch := first | assumption | omega | (simp only [LN] <;> omega) | (simp (disch := first | assumption | omega | (simp only [LN] <;> omega)) only [row_alloc, row_set]; assumption)) only [W_block, P3, ↓reduceIte, reduceAdd, reduceEqDiff, reduceCtorEq, initFr, reduceLT, clsA, reduceLeDiff, reduceMul, reduceSub, reduceIte, o2, ll, ll2, eq1, g2, g3]
      refine callK (t11 (y1.keeps (kk.trans ka)) (y2.keeps ka) hfit) ?_
      rintro _ K3 ⟨rfl, k3⟩
      simp (disch := first | assumption | omega | (simp only [LN] <;> omega) | (simp (disch := first | assumption | omega | (simp only [LN] <;> omega)) only [row_alloc, row_set]; assumption)) only [W_block, P3, ↓reduceIte, reduceAdd, reduceEqDiff, reduceCtorEq, initFr, reduceLT, clsA, reduceLeDiff, reduceMul, reduceSub, reduceIte]
      refine callK (t8 _) ?_
      rintro _ K ⟨rfl, k⟩
      simp (disch := first | assumption | omega | (simp only [LN] <;> omega) | (simp (disch := first | assumption | omega | (simp only [LN] <;> omega)) only [row_alloc, row_set]; assumption)) only [W_block, P3, ↓reduceIte, reduceAdd, reduceEqDiff, reduceCtorEq, initFr, reduceLT, clsA, reduceLeDiff, reduceMul, reduceSub, reduceIte]
      exact hq2 _ _ ⟨_, rfl, rfl⟩
    · simp (disch := first | assumption | omega | (simp only [LN] <;> omega) | (simp (disch := first | assumption | omega | (simp only [LN] <;> omega)) only [row_alloc, row_set]; assumption)) only [f3, W_block, P3, ↓reduceIte, reduceAdd, reduceEqDiff, reduceCtorEq, initFr, reduceLT, clsA, reduceLeDiff, reduceMul, reduceSub, reduceIte, a_lens]
      refine callK (t9 H s) ?_
      rintro _ K1 ⟨k1, u, xs, rfl, y1⟩
      have o1 := ly_ones y1
      have ll : u.l.length = 4 := rfl
      simp (disch := first | assumption | omega | (simp only [LN] <;> omega) | (simp (disch := first | assumption | omega | (simp only [LN] <;> omega)) only [row_alloc, row_set]; assumption)) only [W_block, P3, ↓reduceIte, reduceAdd, reduceEqDiff, reduceCtorEq, initFr, reduceLT, clsA, reduceLeDiff, reduceMul, reduceSub, reduceIte, o1, ll]
      refine callK (t10 _ s) ?_
      rintro _ K2 ⟨k2, u2, xs2, rfl, y2⟩
      have o2 := ly_ones y2
      have ll2 : u2.l.length = 4 := rfl
      rw [eq_parse] at y1 ⊢
      have hfit := (parseD_fit s).in_
      have eq1 : ∀ n : Int, (n == n) = true := fun n => beqi_yes rfl
      generalize parseD s = r at *
      have g1 : K2.get K1.n = some (.cells true false 4 u.l 28) := k2.at_ (AHeap.get_alloc_new _ _)
      have kk : Keeps K1 K2 := ((Keeps.refl K1).alloc _).trans k2
      have n1 := AHeap.get_lt g1
      have ka : Keeps K2 (K2.alloc (.cells true false 4 u2.l 28)) := (Keeps.refl K2).alloc _
      have g2 : (K2.alloc (.cells true false 4 u2.l 28)).get K1.n = some (.cells true false 4 u.l 28) := ka.at_ g1
      have g3 : (K2.alloc (.cells true false 4 u2.l 28)).get K2.n = some (.cells true false 4 u2.l 28) := AHeap.get_alloc_new _ _
      simp (disch := first | assumption | omega | (simp only [LN] <;> omega) | (simp (disch := first | assumption | omega | (simp only [LN] <;> omega)) only [row_alloc, row_set]; assumption)) only [W_block, P3, ↓reduceIte, reduceAdd, reduceEqDiff, reduceCtorEq, initFr, reduceLT, clsA, reduceLeDiff, reduceMul, reduceSub, reduceIte, o2, ll, ll2, eq1, g2, g3]
      refine callK (t11 (y1.keeps (kk.trans ka)) (y2.keeps ka) hfit) ?_
      rintro _ K3 ⟨rfl, k3⟩
      simp (disch := first | assumption | omega | (simp only [LN] <;> omega) | (simp (disch := first | assumption | omega | (simp only [LN] <;> omega)) only [row_alloc, row_set]; assumption)) only [W_block, P3, ↓reduceIte, reduceAdd, reduceEqDiff, reduceCtorEq, initFr, reduceLT, clsA, reduceLeDiff, reduceMul, reduceSub, reduceIte]
      refine callK (t8 _) ?_
      rintro _ K ⟨rfl, k⟩
      simp (disch := first | assumption | omega | (simp only [LN] <;> omega) | (simp (disch := first | assumption | omega | (simp only [LN] <;> omega)) only [row_alloc, row_set]; assumption)) only [W_block, P3, ↓reduceIte, reduceAdd, reduceEqDiff, reduceCtorEq, initFr, reduceLT, clsA, reduceLeDiff, reduceMul, reduceSub, reduceIte]
      exact hq2 _ _ ⟨_, rfl, rfl⟩
end Go.AM.Fd
