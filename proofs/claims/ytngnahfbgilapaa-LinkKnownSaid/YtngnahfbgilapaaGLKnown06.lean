/- Part of the proof. -/
import Derived.Test.YtngnahfbgilapaaGLKnown05
set_option linter.unusedSimpArgs false
set_option linter.unusedVariables false
set_option linter.unusedSimpArgs false
set_option linter.unusedVariables false
namespace Go.AM.Fd
open Nat (reduceAdd reduceEqDiff reduceLT reduceLeDiff reduceMul reduceSub)
open Go.Proofs Go.AM.F
def thE (b : Nat) (x : En) : Th := thB b (.cells true false 7 (cE x) 145)
def thW (b : Nat) (wv : Value) (its : List It) : Th where
  P := WI b wv its
  F := wF b wv its
  lt K h := h.lt
  st K K' h hn k := by
    refine ⟨by rw [k b (mem_wF.2 (.inl rfl))]; exact h.g, ?_, fun it hit => ?_, h.nd⟩
    · rcases h.w with h' | ⟨y, m, room, d, rfl, h1, h2, h3, h4⟩
      · exact .inl h'
      · exact .inr ⟨y, m, room, d, rfl, h1, h2, h3, by rw [k y (mem_wF.2 (.inr (.inl (mem_blkL.2 rfl))))]; exact h4⟩
    · rcases h.a it hit with h' | ⟨y, room, h1, h2, h3⟩
      · exact .inl h'
      · exact .inr ⟨y, room, h1, h2, by rw [k y (mem_wF.2 (.inr (.inr ⟨it, hit, by rw [h1]; exact mem_blkL.2 rfl⟩)))]; exact h3⟩
def okT (sent : List (List UInt8)) (it : It) : Prop := ∃ (q : Nat) (k : Int) (B : List UInt8), it.2 = fLi ⟨1, 2, (q : Int) + 1, k, B⟩ ∧ 0 ≤ k ∧ k ≤ 4611686018427387904 ∧ B.length ≤ 2048 ∧ (q : Int) + 1 ≤ 4611686018427387904 ∧ sent[q]? = some B
def okK (top : Int) (it : It) : Prop := ∃ (q k : Int) (B : List UInt8), it.2 = fLi ⟨2, 1, q, k, B⟩ ∧ 0 ≤ k ∧ k ≤ top ∧ k ≤ 4611686018427387904 ∧ B.length ≤ 2048 ∧ 0 ≤ q ∧ q ≤ 4611686018427387904
theorem ge_of {m : Li} (hr : rgLi m) (ho : okLi m = true) : geLi (fLi m) = some m := by
  refine geLi_of hr ?_ rfl
  simp only [fLi, ho, if_true]
  exact chk_ne _
theorem okT.more {sent : List (List UInt8)} {it : It} (h : okT sent it) (B : List UInt8) : okT (sent ++ [B]) it := by
  obtain ⟨q, k, B', e, a, b, c, d, g⟩ := h
  exact ⟨q, k, B', e, a, b, c, d, by rw [List.getElem?_append_left (List.getElem?_eq_some_iff.1 g).1]; exact g⟩
theorem okK.mono {t t' : Int} {it : It} (h : okK t it) (ht : t ≤ t') : okK t' it := by
  obtain ⟨q, k, B, e, a, b, c⟩ := h
  exact ⟨q, k, B, e, a, by omega, c⟩
theorem okT.len {sent : List (List UInt8)} {it : It} (h : okT sent it) : it.2.length ≤ 2073 := by
  obtain ⟨q, k, B, e, a, b, c, d, g⟩ := h
  rw [e]; have := fLi_len (x := ⟨1, 2, (q : Int) + 1, k, B⟩); simp only at this; omega
theorem okK.len {t : Int} {it : It} (h : okK t it) : it.2.length ≤ 2073 := by
  obtain ⟨q, k, B, e, a, b, c, d, g⟩ := h
  rw [e]; have := fLi_len (x := ⟨2, 1, q, k, B⟩); simp only at this; omega
structure JO (H : AHeap) (bA bB bT bK : Nat) (xa xb : En) (wT wK : Value) (iT iK : List It) (sv : Value) (sent : List (List UInt8)) (i : Nat) (K : AHeap) : Prop where
  s : SepH H K [thE bA xa, thE bB xb, thW bT wT iT, thW bK wK iK, thA 9 1 sv sent.length (sent.map strB)]
  wa : WfE xa
  wb : WfE xb
  fa : xa.f = 1 ∧ xa.t = 2 ∧ xb.f = 2 ∧ xb.t = 1
  q : xa.q = (sent.length : Nat)
  n : sent.length ≤ 40 * i
  oT : ∀ it ∈ iT, okT sent it
  oK : ∀ it ∈ iK, okK xb.k it
  ack : xa.a ≤ xb.k
  lT : iT.length ≤ 64
  lK : iK.length ≤ 64
def M9 (v : Value) (bB bT bK bi i : Nat) (H : AHeap) (fr : List Value) (K : AHeap) : Prop :=
  ∃ (bA : Nat) (xa xb : En) (wT wK : Value) (iT iK : List It) (sv : Value) (sent : List (List UInt8)) (y10 : Value) (y12 y13 y14 y15 y16 y17 y18 y19 y20 y21 y22 y23 y24 y25 y26 y27 y28 y29 y30 y31 y32 y33 y34 y35 y36 y37 y38 y39 y40 y41 y42 y43 : Value), JO H bA bB bT bK xa xb wT wK iT iK sv sent bi K ∧
    fr = [v, .bool false, ptr bA 0, .int .i64 0, ptr bB 0, .int .i64 0, ptr bT 0, ptr bK 0, sv, .int .i64 xb.k, y10, .int .i64 (i : Nat), y12, y13, y14, y15, y16, y17, y18, y19, y20, y21, y22, y23, y24, y25, y26, y27, y28, y29, y30, y31, y32, y33, y34, y35, y36, y37, y38, y39, y40, y41, y42, y43]
theorem JO.keeps {H : AHeap} {bA bB bT bK : Nat} {xa xb : En} {wT wK : Value} {iT iK : List It} {sv : Value} {sent : List (List UInt8)} {i : Nat} {K K' : AHeap} (h : JO H bA bB bT bK xa xb wT wK iT iK sv sent i K) (k : Keeps K K') : JO H bA bB bT bK xa xb wT wK iT iK sv sent i K' :=
  { h with s := h.s.keeps k }
section
variable {H : AHeap} {bA bB bT bK : Nat} {xa xb : En} {wT wK : Value} {iT iK : List It} {sv : Value} {sent : List (List UInt8)} {i j : Nat} {K K1 K' : AHeap}
theorem JO.up (h : JO H bA bB bT bK xa xb wT wK iT iK sv sent i K) (hij : i ≤ j) : JO H bA bB bT bK xa xb wT wK iT iK sv sent j K := { h with n := by have := h.n; omega }
theorem sX_wf {x : En} (h : WfE x) (hq : x.q < 4611686018427387904) : WfE (sX x) := by
  obtain ⟨a1, a2, a3, a4, a5, a6⟩ := h
  exact ⟨a1, a2, by simp only [sX]; omega, a4, a5, a6⟩
theorem JO.sendA (h : JO H bA bB bT bK xa xb wT wK iT iK sv sent i K) (c1 : Chg [bA] K K1) (g1 : K1.get bA = some (.cells true false 7 (cE (sX xa)) 145)) {sv' : Value} {B : List UInt8} (a2 : AP K' 9 1 sv' (sent.length + 1) (sent.map strB ++ [strB B])) (c2 : Chg (blkL sv) K1 K')
    (f2 : ∀ y ∈ blkL sv', y ∈ blkL sv ∨ K1.n ≤ y) (hq : xa.q < 4611686018427387904) : JO H bA bB bT bK (sX xa) xb wT wK iT iK sv' (sent ++ [B]) (i + 1) K' := by
  have s1 : SepH H K1 [thE bA (sX xa), thE bB xb, thW bT wT iT, thW bK wK iK, thA 9 1 sv sent.length (sent.map strB)] := h.s.u0 c1 g1 (fun y hy => .inl hy)
  have s2 : SepH H K' [thE bA (sX xa), thE bB xb, thW bT wT iT, thW bK wK iK, thA 9 1 sv' (sent ++ [B]).length ((sent ++ [B]).map strB)] := s1.u4 c2 (by rw [List.length_append, List.map_append]; exact a2) f2
  exact ⟨s2, sX_wf h.wa hq, h.wb, h.fa, by have := h.q; simp only [sX, List.length_append, List.length_cons, List.length_nil]; push_cast; omega, by have := h.n; simp; omega, fun it hit => (h.oT it hit).more B, h.oK, h.ack, h.lT, h.lK⟩
theorem wsub {b : Nat} {wv : Value} {its : List It} : ∀ y ∈ b :: blkL wv, y ∈ wF b wv its := fun y hy => by
  rcases List.mem_cons.1 hy with e | e
  · exact mem_wF.2 (.inl e)
  · exact mem_wF.2 (.inr (.inl e))
theorem JO.wireT (h : JO H bA bB bT bK xa xb wT wK iT iK sv sent i K) {wT' : Value} {iT' : List It} (w : WI bT wT' iT' K') (c : Chg (bT :: blkL wT) K K') (f : ∀ y ∈ wF bT wT' iT', y ∈ wF bT wT iT ∨ K.n ≤ y) (o : ∀ it ∈ iT', okT sent it) (l : iT'.length ≤ 64) : JO H bA bB bT bK xa xb wT' wK iT' iK sv sent i K' :=
  { h with s := h.s.u2 (c.mono wsub) w f, oT := o, lT := l }
theorem JO.wireK (h : JO H bA bB bT bK xa xb wT wK iT iK sv sent i K) {wK' : Value} {iK' : List It} (w : WI bK wK' iK' K') (c : Chg (bK :: blkL wK) K K') (f : ∀ y ∈ wF bK wK' iK', y ∈ wF bK wK iK ∨ K.n ≤ y) (o : ∀ it ∈ iK', okK xb.k it) (l : iK'.length ≤ 64) : JO H bA bB bT bK xa xb wT wK' iT iK' sv sent i K' :=
  { h with s := h.s.u3 (c.mono wsub) w f, oK := o, lK := l }
theorem okT.more' {sent : List (List UInt8)} {it : It} (h : okT sent it) (l : List (List UInt8)) : okT (sent ++ l) it := by
  obtain ⟨q, k, B', e, a, b, c, d, g⟩ := h
  exact ⟨q, k, B', e, a, b, c, d, by rw [List.getElem?_append_left (List.getElem?_eq_some_iff.1 g).1]; exact g⟩
theorem JO.hearA (h : JO H bA bB bT bK xa xb wT wK iT iK sv sent i K) {m : Li} (c : Chg [bA] K K') (g : K'.get bA = some (.cells true false 7 (cE (hX xa m)) 145)) (ho : okLi m = true) (hq : xa.k < m.q) (hk : m.k ≤ xb.k) : JO H bA bB bT bK (hX xa m) xb wT wK iT iK sv sent i K' := by
  have hack : (hX xa m).a ≤ xb.k := by
    have := h.ack
    simp only [hX]; split
    · rw [Int.max_def]; split <;> omega
    · exact this
  exact { h with s := h.s.u0 c g (fun y hy => .inl hy), wa := hX_wf h.wa ho hq, fa := h.fa, q := h.q, ack := hack }
theorem JO.hearB (h : JO H bA bB bT bK xa xb wT wK iT iK sv sent i K) {m : Li} (c : Chg [bB] K K') (g : K'.get bB = some (.cells true false 7 (cE (hX xb m)) 145)) (ho : okLi m = true) (hq : xb.k < m.q) : JO H bA bB bT bK xa (hX xb m) wT wK iT iK sv sent i K' :=
  { h with s := h.s.u1 c g (fun y hy => .inl hy), wb := hX_wf h.wb ho hq, fa := h.fa, oK := fun it hit => (h.oK it hit).mono (Int.le_of_lt hq), ack := by have := h.ack; show xa.a ≤ m.q; omega }
theorem take_f {b : Nat} {wv wv' : Value} {its : List It} {n m : Nat} (hb : blk wv' = blk wv) : ∀ y ∈ wF b wv' (its.eraseIdx m), y ∈ wF b wv its ∨ n ≤ y := fun y hy => by
  have e3 : blkL wv' = blkL wv := by unfold blkL; rw [hb]
  rcases mem_wF.1 hy with e | e | ⟨z, hz, e⟩
  · exact .inl (mem_wF.2 (.inl e))
  · exact .inl (mem_wF.2 (.inr (.inl (by rw [← e3]; exact e))))
  · exact .inl (mem_wF.2 (.inr (.inr ⟨z, List.mem_of_mem_eraseIdx hz, e⟩)))
end
theorem hE1 {x : En} {m : Li} (h1 : m.f = x.t) (h2 : m.t = x.f) : hE x (some m) = if m.q ≤ x.k then 180 else 0 := by
  simp only [hE]; rw [if_neg (by omega)]
set_option maxHeartbeats 4000000 in
theorem t9 {H : AHeap} {v : Value} {cs : List Cl} (hs : Sl H 8 v (cs.map cC)) (hc : ∀ c ∈ cs, okC H c) :
    ∃ w H', ARun Go.Proofs.Try.prog 0 9 [v] H w H' ∧ w = .bool true ∧ H' = H := by
  obtain ⟨w, H', a, rfl, k⟩ : ∃ w H', ARun Go.Proofs.Try.prog 0 9 [v] H w H' ∧ w = .bool true ∧ Keeps H H' := by
    refine walk2 f9_ok f9_n ?_
    intro Q hq1 hq2
    simp (disch := first | assumption | omega | (simp only [LN] <;> omega) | (simp (disch := first | assumption | omega | (simp only [LN] <;> omega)) only [row_alloc, row_set]; assumption)) only [f9, W_block, P3, ↓reduceIte, reduceAdd, reduceEqDiff, reduceCtorEq, initFr, reduceLT, clsA, reduceLeDiff, reduceMul, reduceSub, reduceIte]
    refine callK (t30 hs hc) ?_
    rintro _ X ⟨bl, rfl, hXX, hfew⟩
    obtain rfl := hXX.symm
    clear hXX
    cases bl with
    | true =>
      simp (disch := first | assumption | omega | (simp only [LN] <;> omega) | (simp (disch := first | assumption | omega | (simp only [LN] <;> omega)) only [row_alloc, row_set]; assumption)) only [W_block, P3, ↓reduceIte, reduceAdd, reduceEqDiff, reduceCtorEq, initFr, reduceLT, clsA, reduceLeDiff, reduceMul, reduceSub, reduceIte]
      refine callP (t31 _) ?_
      simp (disch := first | assumption | omega | (simp only [LN] <;> omega) | (simp (disch := first | assumption | omega | (simp only [LN] <;> omega)) only [row_alloc, row_set]; assumption)) only [W_block, P3, ↓reduceIte, reduceAdd, reduceEqDiff, reduceCtorEq, initFr, reduceLT, clsA, reduceLeDiff, reduceMul, reduceSub, reduceIte]
      exact hq2 _ _ ⟨_, rfl, rfl, Keeps.refl _⟩
    | false =>
    obtain ⟨hc1, hc2⟩ := hfew rfl
    have his := hs.is
    have hlen := hs.len
    rw [List.length_map] at hlen
    simp (disch := first | assumption | omega | (simp only [LN] <;> omega) | (simp (disch := first | assumption | omega | (simp only [LN] <;> omega)) only [row_alloc, row_set]; assumption)) only [W_block, P3, ↓reduceIte, reduceAdd, reduceEqDiff, reduceCtorEq, initFr, reduceLT, clsA, reduceLeDiff, reduceMul, reduceSub, reduceIte]
    refine callK (t32 1 2 1 _ (by omega)) ?_
    rintro _ _ ⟨rfl, rfl⟩
    rw [if_neg (by omega), if_neg (by omega)]
    simp (disch := first | assumption | omega | (simp only [LN] <;> omega) | (simp (disch := first | assumption | omega | (simp only [LN] <;> omega)) only [row_alloc, row_set]; assumption)) only [W_block, P3, ↓reduceIte, reduceAdd, reduceEqDiff, reduceCtorEq, initFr, reduceLT, clsA, reduceLeDiff, reduceMul, reduceSub, reduceIte]
    refine callK (t32 2 1 1 _ (by omega)) ?_
    rintro _ _ ⟨rfl, rfl⟩
    rw [if_neg (by omega), if_neg (by omega)]
    have w1 : WfE ⟨1, 2, 0, 0, 0, 0⟩ := ⟨by decide, by decide, by decide, by decide, by decide, by decide⟩
    have w2 : WfE ⟨2, 1, 0, 0, 0, 0⟩ := ⟨by decide, by decide, by decide, by decide, by decide, by decide⟩
    have s0 : SepH H H [] := SepH.nil H
    have s1 := s0.add ((Keeps.refl H).alloc (.cells true false 7 (cE ⟨1, 2, 0, 0, 0, 0⟩) 145)) (t := thE H.n ⟨1, 2, 0, 0, 0, 0⟩) (AHeap.get_alloc_new H _) (by simp [thE, thB])
    have s2 := s1.add ((Keeps.refl _).alloc (.cells true false 7 (cE ⟨2, 1, 0, 0, 0, 0⟩) 145)) (t := thE (H.n + 1) ⟨2, 1, 0, 0, 0, 0⟩) (AHeap.get_alloc_new _ _) (by simp [thE, thB, alloc_n])
    have s3 := s2.add ((Keeps.refl _).alloc (.cells true false 1 [.slice none 0 0] 113)) (t := thW (H.n + 1 + 1) (.slice none 0 0) []) ⟨AHeap.get_alloc_new _ _, .inl ⟨rfl, rfl, rfl⟩, by simp, by simp [wF, blkL, blk]⟩ (by simp [thW, wF, blkL, blk, alloc_n])
    have s4 := s3.add ((Keeps.refl _).alloc (.cells true false 1 [.slice none 0 0] 113)) (t := thW (H.n + 1 + 1 + 1) (.slice none 0 0) []) ⟨AHeap.get_alloc_new _ _, .inl ⟨rfl, rfl, rfl⟩, by simp, by simp [wF, blkL, blk]⟩ (by simp [thW, wF, blkL, blk, alloc_n])
    have s5 := s4.add (Keeps.refl _) (t := thA 9 1 (.slice none 0 0) 0 []) (.inl ⟨rfl, rfl, rfl⟩) (by simp [thA, blkL, blk])
    have s6 := s5.perm (us := [thE H.n ⟨1, 2, 0, 0, 0, 0⟩, thE (H.n + 1) ⟨2, 1, 0, 0, 0, 0⟩, thW (H.n + 1 + 1) (.slice none 0 0) [], thW (H.n + 1 + 1 + 1) (.slice none 0 0) [], thA 9 1 (.slice none 0 0) 0 []]) (List.reverse_perm _).symm
    have j0 : JO H H.n (H.n + 1) (H.n + 1 + 1) (H.n + 1 + 1 + 1) ⟨1, 2, 0, 0, 0, 0⟩ ⟨2, 1, 0, 0, 0, 0⟩ (.slice none 0 0) (.slice none 0 0) [] [] (.slice none 0 0) [] 0 _ := ⟨s6, w1, w2, ⟨rfl, rfl, rfl, rfl⟩, rfl, by simp, by simp, by simp, by decide, by simp, by simp⟩
    clear s0 s1 s2 s3 s4 s5 s6
    simp (disch := first | assumption | omega | (simp only [LN] <;> omega) | (simp (disch := first | assumption | omega | (simp only [LN] <;> omega)) only [row_alloc, row_set]; assumption)) only [W_block, P3, ↓reduceIte, reduceAdd, reduceEqDiff, reduceCtorEq, initFr, reduceLT, clsA, reduceLeDiff, reduceMul, reduceSub, reduceIte]
    obtain ⟨bB, hbB⟩ : ∃ y, y = H.n + 1 := ⟨_, rfl⟩
    obtain ⟨bT, hbT⟩ : ∃ y, y = H.n + 1 + 1 := ⟨_, rfl⟩
    obtain ⟨bK, hbK⟩ : ∃ y, y = H.n + 1 + 1 + 1 := ⟨_, rfl⟩
    rw [← hbK, ← hbT, ← hbB] at j0 ⊢
    refine W_loop2 (fun q fr K => ∃ i, i ≤ cs.length ∧ q = cs.length - i ∧ M9 v bB bT bK i i H fr K) cs.length ⟨0, by omega, rfl, _, _, _, _, _, _, _, _, _, _, _, _, _, _, _, _, _, _, _, _, _, _, _, _, _, _, _, _, _, _, _, _, _, _, _, _, _, _, _, _, _, _, j0, rfl⟩ ?_
    clear j0
    rintro Q' q fr K ⟨i, hi, rfl, bA, xa, xb, wT, wK, iT, iK, sv, sent, y10, y12, y13, y14, y15, y16, y17, y18, y19, y20, y21, y22, y23, y24, y25, y26, y27, y28, y29, y30, y31, y32, y33, y34, y35, y36, y37, y38, y39, y40, y41, y42, y43, hJ, rfl⟩ hnx hex hrt
    by_cases hci : i < cs.length
    case neg =>
      simp (disch := first | assumption | omega | (simp only [LN] <;> omega) | (simp (disch := first | assumption | omega | (simp only [LN] <;> omega)) only [row_alloc, row_set]; assumption)) only [W_block, P3, ↓reduceIte, reduceAdd, reduceEqDiff, reduceCtorEq, initFr, reduceLT, clsA, reduceLeDiff, reduceMul, reduceSub, reduceIte]
      refine hex _ _ _ ?_
      simp (disch := first | assumption | omega | (simp only [LN] <;> omega) | (simp (disch := first | assumption | omega | (simp only [LN] <;> omega)) only [row_alloc, row_set]; assumption)) only [W_block, P3, ↓reduceIte, reduceAdd, reduceEqDiff, reduceCtorEq, initFr, reduceLT, clsA, reduceLeDiff, reduceMul, reduceSub, reduceIte]
      refine callP (t42 (hJ.s.at_ 1 rfl)) ?_
      simp (disch := first | assumption | omega | (simp only [LN] <;> omega) | (simp (disch := first | assumption | omega | (simp only [LN] <;> omega)) only [row_alloc, row_set]; assumption)) only [W_block, P3, ↓reduceIte, reduceAdd, reduceEqDiff, reduceCtorEq, initFr, reduceLT, clsA, reduceLeDiff, reduceMul, reduceSub, reduceIte]
      refine callP (t40 (hJ.s.at_ 1 rfl)) ?_
      have := hJ.wb.hl
      simp (disch := first | assumption | omega | (simp only [LN] <;> omega) | (simp (disch := first | assumption | omega | (simp only [LN] <;> omega)) only [row_alloc, row_set]; assumption)) only [W_block, P3, ↓reduceIte, reduceAdd, reduceEqDiff, reduceCtorEq, initFr, reduceLT, clsA, reduceLeDiff, reduceMul, reduceSub, reduceIte]
      refine callP (t31 _) ?_
      simp (disch := first | assumption | omega | (simp only [LN] <;> omega) | (simp (disch := first | assumption | omega | (simp only [LN] <;> omega)) only [row_alloc, row_set]; assumption)) only [W_block, P3, ↓reduceIte, reduceAdd, reduceEqDiff, reduceCtorEq, initFr, reduceLT, clsA, reduceLeDiff, reduceMul, reduceSub, reduceIte]
      exact hq2 _ _ ⟨_, rfl, rfl, hJ.s.k⟩
    obtain ⟨hnn, hrow⟩ := (hs.keeps hJ.s.k).at_ (by omega) (i := i) (by simpa using hci)
    rw [List.getElem_map] at hrow
    have hokH := hc _ (List.getElem_mem hci)
    have hok := hokH.keeps hJ.s.k
    have hcl := hc2 _ (List.getElem_mem hci)
    obtain ⟨c, hce⟩ : ∃ c, c = cs[i] := ⟨_, rfl⟩
    rw [← hce] at hrow hok hcl hokH
    have tB : ∀ y ∈ tb c.vB, y < H.n := hokH.hB.tbl
    simp (disch := first | assumption | omega | (simp only [LN] <;> omega) | (simp (disch := first | assumption | omega | (simp only [LN] <;> omega)) only [row_alloc, row_set]; assumption)) only [ P3, ↓reduceIte, reduceAdd, reduceEqDiff, reduceCtorEq, initFr, reduceLT, clsA, reduceLeDiff, reduceMul, reduceSub, reduceIte]
    refine W_mid (M9 v bB bT bK (i + 1) i H) ?_ ?_
    rotate_left
    · rintro fr K2 ⟨bA2, xa2, xb2, wT2, wK2, iT2, iK2, sv2, sent2, z10, z12, z13, z14, z15, z16, z17, z18, z19, z20, z21, z22, z23, z24, z25, z26, z27, z28, z29, z30, z31, z32, z33, z34, z35, z36, z37, z38, z39, z40, z41, z42, z43, j2, rfl⟩
      simp (disch := first | assumption | omega | (simp only [LN] <;> omega) | (simp (disch := first | assumption | omega | (simp only [LN] <;> omega)) only [row_alloc, row_set]; assumption)) only [W_block, P3, ↓reduceIte, reduceAdd, reduceEqDiff, reduceCtorEq, initFr, reduceLT, clsA, reduceLeDiff, reduceMul, reduceSub, reduceIte, wrap_succ (n := i) (by omega)]
      exact hnx _ _ _ ⟨i + 1, by omega, rfl, bA2, xa2, xb2, wT2, wK2, iT2, iK2, sv2, sent2, _, _, _, _, _, _, _, _, _, _, _, _, _, _, _, _, _, _, _, _, _, _, _, _, _, _, _, _, _, _, _, _, _, j2, rfl⟩ (by omega)
    intro Q2 hM2 hex2 hrt2
    rw [W_block]
    have lc8 : (cC c).length = 8 := rfl
    have ob := hok.hB.bs.sl.one
    have of' := hok.hF.bs.sl.one
    have oc8 : (cC c).all Value.oneCell' = true := by simp only [cC, List.all_cons, List.all_nil, ob, of']; rfl
    have kc := (Keeps.refl K).alloc (.cells true false 8 (cC c) 84)
    have g9 := AHeap.get_alloc_new K (.cells true false 8 (cC c) 84)
    simp (disch := first | assumption | omega | (simp only [LN] <;> omega) | (simp (disch := first | assumption | omega | (simp only [LN] <;> omega)) only [row_alloc, row_set]; assumption)) only [ P3, ↓reduceIte, reduceAdd, reduceEqDiff, reduceCtorEq, initFr, reduceLT, clsA, reduceLeDiff, reduceMul, reduceSub, reduceIte, hrow, lc8, oc8, cCg c, modu8 hok.hn]
    rw [W_block]
    obtain ⟨K2, hK2⟩ : ∃ X, X = K.alloc (.cells true false 8 (cC c) 84) := ⟨_, rfl⟩
    rw [← hK2] at kc g9 ⊢
    have hok2 := hok.keeps kc
    have l9 := AHeap.get_lt g9
    have j2 := hJ.keeps kc
    have hIr := hok.hI
    clear hK2 hrow
    refine W_part 1 (fun fr X => X = K2 ∧ fr = [v, .bool false, ptr bA 0, .int .i64 0, ptr bB 0, .int .i64 0, ptr bT 0, ptr bK 0, sv, .int .i64 xb.k, y10, .int .i64 (i : Nat), ptr K.n 0, y13, y14, y15, y16, y17, y18, y19, y20, y21, y22, y23, y24, y25, y26, y27, .bool true, .int .u8 ((c.n % 8 : Nat) : Int), y30, y31, y32, .bool (decide (c.n % 8 = 0 ∨ c.n % 8 = 1)), y34, y35, y36, y37, y38, y39, y40, y41, y42, y43]) rfl ?_ ?_
    · intro Q3 h3 _ _
      have : c.n % 8 = 0 ∨ c.n % 8 = 1 ∨ c.n % 8 = 2 ∨ c.n % 8 = 3 ∨ c.n % 8 = 4 ∨ c.n % 8 = 5 ∨ c.n % 8 = 6 ∨ c.n % 8 = 7 := by omega
      rcases this with e | e | e | e | e | e | e | e <;> rw [e] at h3 ⊢ <;> simp (disch := first | assumption | omega | (simp only [LN] <;> omega) | (simp (disch := first | assumption | omega | (simp only [LN] <;> omega)) only [row_alloc, row_set]; assumption)) only [cpre, W_block, P3, ↓reduceIte, reduceAdd, reduceEqDiff, reduceCtorEq, initFr, reduceLT, clsA, reduceLeDiff, reduceMul, reduceSub, reduceIte] <;> exact h3 _ _ ⟨rfl, rfl⟩
    rintro fr X ⟨hXX, rfl⟩
    obtain rfl := hXX.symm
    clear hXX
    have gA := j2.s.at_ 0 rfl
    have gB := j2.s.at_ 1 rfl
    have hT := j2.s.at_ 2 rfl
    have hK := j2.s.at_ 3 rfl
    have hS := j2.s.at_ 4 rfl
    simp only [thE, thB, thW, thA] at gA gB hT hK hS
    obtain ⟨fa1, fa2, fb1, fb2⟩ := j2.fa
    have hqA := j2.q
    have hnA := j2.n
    have l9n : ∀ t : Th, t ∈ [thE bA xa, thE bB xb, thW bT wT iT, thW bK wK iK, thA 9 1 sv sent.length (sent.map strB)] → K.n ∉ t.F := fun t ht hy => by
      have := t.lt K (hJ.s.sep.all t ht) _ hy; omega
    by_cases h01 : c.n % 8 = 0 ∨ c.n % 8 = 1
    · rw [decide_eq_true h01]
      simp (disch := first | assumption | omega | (simp only [LN] <;> omega) | (simp (disch := first | assumption | omega | (simp only [LN] <;> omega)) only [row_alloc, row_set]; assumption)) only [cpost, W_block, P3, ↓reduceIte, reduceAdd, reduceEqDiff, reduceCtorEq, initFr, reduceLT, clsA, reduceLeDiff, reduceMul, reduceSub, reduceIte, g9, cCg c]
      by_cases hno : 2048 < c.B.length ∨ 4611686018427387904 ≤ xa.q
      · refine callP (t34no gA hok2.hB.bs hno) ?_
        simp (disch := first | assumption | omega | (simp only [LN] <;> omega) | (simp (disch := first | assumption | omega | (simp only [LN] <;> omega)) only [row_alloc, row_set]; assumption)) only [W_block, P3, ↓reduceIte, reduceAdd, reduceEqDiff, reduceCtorEq, initFr, reduceLT, clsA, reduceLeDiff, reduceMul, reduceSub, reduceIte]
        exact hM2 _ _ ⟨bA, xa, xb, wT, wK, iT, iK, sv, sent, _, _, _, _, _, _, _, _, _, _, _, _, _, _, _, _, _, _, _, _, _, _, _, _, _, _, _, _, _, _, _, _, _, j2.up (by omega), rfl⟩
      · have hvA : ∀ y ∈ tb c.vB, y ≠ bA := fun y hy e => by
          have := tB y hy; have := j2.s.gei 0 rfl (y := bA) (by simp [thE, thB]); omega
        refine callK (t34 j2.wa gA hok2.hB hvA (by omega) (by omega)) ?_
        rintro _ K3 ⟨r, rfl, p3⟩
        have k3 := p3.2.1
        have lA := AHeap.get_lt gA
        have gA3 := k3.at_ (AHeap.get_set_same gA (.cells true false 7 (cE (sX xa)) 145))
        have c3 : Chg [bA] K2 K3 := (Chg.set K2 lA _).trans (k3.chg []) (by simp)
        have g93 : K3.get K.n = some (.cells true false 8 (cC c) 84) := c3.at_ g9 (l9n (thE bA xa) (by simp))
        have hB3 : BS K3 c.vB c.B := hok2.hB.bs.chgT c3 (fun y hy => by simpa using hvA y hy)
        have hS3 : AP K3 9 1 sv sent.length (sent.map strB) := hS.chg c3 (fun y hy => fun hy2 => j2.s.apart 0 4 (by decide) rfl rfl (y := y) (by simp at hy2; subst hy2; simp [thE, thB]) hy)
        have ob3 : (strB c.B).oneCell' = true := rfl
        have k4 := (Keeps.refl K3).alloc (.cells true false 1 [strB c.B] 9)
        have hfl : fillA [.string ByteArray.empty] [(0, 1, .string ⟨c.B.toArray⟩)] = some [strB c.B] := rfl
        simp (disch := first | assumption | omega | (simp only [LN] <;> omega) | (simp (disch := first | assumption | omega | (simp only [LN] <;> omega)) only [row_alloc, row_set]; assumption)) only [W_block, P3, ↓reduceIte, reduceAdd, reduceEqDiff, reduceCtorEq, initFr, reduceLT, clsA, reduceLeDiff, reduceMul, reduceSub, reduceIte, g93, cCg c, a_b2sB hB3, hfl, ob3]
        refine appG (hS3.keeps k4) ⟨_, _, rfl⟩ (elems_new rfl rfl) rfl (by omega) ?_
        intro sv' K5 a5 c5 hb5
        have f5 : ∀ y ∈ blkL sv', y ∈ blkL sv ∨ K3.n ≤ y := fun y hy => by
          rcases hb5 with e | e
          · exact .inl (by unfold blkL at hy ⊢; rw [e] at hy; exact hy)
          · right
            have := mem_blkL.1 hy
            rw [e, alloc_n] at this
            cases this; omega
        have c35 : Chg (blkL sv) K3 K5 := (k4.chg _).trans c5 (fun y hy => .inl hy)
        have j5 := j2.sendA c3 gA3 a5 c35 f5 (by omega)
        have hT5 := j5.s.at_ 2 rfl
        simp only [thW] at hT5
        have hr5 : BS K5 r (fLi ⟨xa.f, xa.t, xa.q + 1, xa.k, c.B⟩) := (p3.1.chg c35 (fun y hy hy2 => by
          have h1 := p3.2.2 y (mem_blkL.1 hy)
          rw [set_n] at h1
          have h2 := j2.s.lt 4 rfl (y := y) hy2
          omega)).bs
        have hfl2 := fLi_len (x := ⟨xa.f, xa.t, xa.q + 1, xa.k, c.B⟩)
        simp only at hfl2
        simp (disch := first | assumption | omega | (simp only [LN] <;> omega) | (simp (disch := first | assumption | omega | (simp only [LN] <;> omega)) only [row_alloc, row_set]; assumption)) only [W_block, P3, ↓reduceIte, reduceAdd, reduceEqDiff, reduceCtorEq, initFr, reduceLT, clsA, reduceLeDiff, reduceMul, reduceSub, reduceIte]
        by_cases hl : 64 ≤ iT.length
        · refine callP (t59no hT5 hl) ?_
          simp (disch := first | assumption | omega | (simp only [LN] <;> omega) | (simp (disch := first | assumption | omega | (simp only [LN] <;> omega)) only [row_alloc, row_set]; assumption)) only [W_block, P3, ↓reduceIte, reduceAdd, reduceEqDiff, reduceCtorEq, initFr, reduceLT, clsA, reduceLeDiff, reduceMul, reduceSub, reduceIte]
          exact hM2 _ _ ⟨bA, _, xb, wT, wK, iT, iK, sv', _, _, _, _, _, _, _, _, _, _, _, _, _, _, _, _, _, _, _, _, _, _, _, _, _, _, _, _, _, _, _, _, _, _, j5, rfl⟩
        · refine callK (t59 hT5 hr5 (by omega) (by omega)) ?_
          rintro _ K6 ⟨rfl, wT', v', w6, c6, f6⟩
          simp (disch := first | assumption | omega | (simp only [LN] <;> omega) | (simp (disch := first | assumption | omega | (simp only [LN] <;> omega)) only [row_alloc, row_set]; assumption)) only [W_block, P3, ↓reduceIte, reduceAdd, reduceEqDiff, reduceCtorEq, initFr, reduceLT, clsA, reduceLeDiff, reduceMul, reduceSub, reduceIte]
          refine hM2 _ _ ⟨bA, _, xb, wT', wK, _, iK, sv', _, _, _, _, _, _, _, _, _, _, _, _, _, _, _, _, _, _, _, _, _, _, _, _, _, _, _, _, _, _, _, _, _, _, j5.wireT w6 c6 f6 (fun it hit => ?_) (by simp; omega), rfl⟩
          rcases List.mem_append.1 hit with hit | hit
          · exact j5.oT it hit
          · simp only [List.mem_singleton] at hit; subst hit
            have hkk := j2.wa.hk
            exact ⟨sent.length, xa.k, c.B, by simp only [fa1, fa2, hqA], hkk.1, hkk.2, by omega, by omega, by simp⟩
    rw [decide_eq_false h01]
    simp only [cpost, w_cond, AX_fr, List.getD_cons_succ, List.getD_cons_zero, cond_false]
    refine W_sw (n := ((c.n % 8 : Nat) : Int)) rfl (by simp) (fun h2 => ?_) (fun h2 => ?_)
    · -- the second end sends
      simp only [List.set_cons_succ, List.set_cons_zero]
      refine W_part 2 (fun fr X => ∃ (xb' : En) (wK' : Value) (iK' : List It) (y13 y14 y15 y16 : Value) (z17 z18 z19 z20 z21 z22 z23 z24 z25 z26 z27 z28 z29 z30 z31 z32 z33 z34 z35 z36 z37 z38 z39 z40 z41 z42 z43 : Value), JO H bA bB bT bK xa xb' wT wK' iT iK' sv sent (i + 1) X ∧ xb'.k = xb.k ∧ fr = [v, .bool false, ptr bA 0, .int .i64 0, ptr bB 0, .int .i64 0, ptr bT 0, ptr bK 0, sv, .int .i64 xb.k, y10, .int .i64 (i : Nat), ptr K.n 0, y13, y14, y15, y16, z17, z18, z19, z20, z21, z22, z23, z24, z25, z26, z27, z28, z29, z30, z31, z32, z33, z34, z35, z36, z37, z38, z39, z40, z41, z42, z43]) rfl ?_ ?_
      · intro Q3 h3 _ _
        simp (disch := first | assumption | omega | (simp only [LN] <;> omega) | (simp (disch := first | assumption | omega | (simp only [LN] <;> omega)) only [row_alloc, row_set]; assumption)) only [cpre, W_block, P3, ↓reduceIte, reduceAdd, reduceEqDiff, reduceCtorEq, initFr, reduceLT, clsA, reduceLeDiff, reduceMul, reduceSub, reduceIte, g9, cCg c]
        by_cases hno : 2048 < c.B.length ∨ 4611686018427387904 ≤ xb.q
        · refine callP (t34no gB hok2.hB.bs hno) ?_
          simp (disch := first | assumption | omega | (simp only [LN] <;> omega) | (simp (disch := first | assumption | omega | (simp only [LN] <;> omega)) only [row_alloc, row_set]; assumption)) only [W_block, P3, ↓reduceIte, reduceAdd, reduceEqDiff, reduceCtorEq, initFr, reduceLT, clsA, reduceLeDiff, reduceMul, reduceSub, reduceIte]
          exact h3 _ _ ⟨xb, wK, iK, _, _, _, _, _, _, _, _, _, _, _, _, _, _, _, _, _, _, _, _, _, _, _, _, _, _, _, _, _, _, _, j2.up (by omega), rfl, rfl⟩
        · have hvB : ∀ y ∈ tb c.vB, y ≠ bB := fun y hy e => by
            have := tB y hy; have := j2.s.gei 1 rfl (y := bB) (by simp [thE, thB]); omega
          refine callK (t34 j2.wb gB hok2.hB hvB (by omega) (by omega)) ?_
          rintro _ K3 ⟨r, rfl, p3⟩
          have k3 := p3.2.1
          have lB := AHeap.get_lt gB
          have gB3 := k3.at_ (AHeap.get_set_same gB (.cells true false 7 (cE (sX xb)) 145))
          have c3 : Chg [bB] K2 K3 := (Chg.set K2 lB _).trans (k3.chg []) (by simp)
          have s3 : SepH H K3 [thE bA xa, thE bB (sX xb), thW bT wT iT, thW bK wK iK, thA 9 1 sv sent.length (sent.map strB)] := j2.s.u1 c3 gB3 (fun y hy => .inl hy)
          have j3 : JO H bA bB bT bK xa (sX xb) wT wK iT iK sv sent (i + 1) K3 := { j2.up (j := i + 1) (by omega) with s := s3, wb := sX_wf j2.wb (by omega) }
          have hK3 := s3.at_ 3 rfl
          simp only [thW] at hK3
          have hfl2 := fLi_len (x := ⟨xb.f, xb.t, xb.q + 1, xb.k, c.B⟩)
          simp only at hfl2
          simp (disch := first | assumption | omega | (simp only [LN] <;> omega) | (simp (disch := first | assumption | omega | (simp only [LN] <;> omega)) only [row_alloc, row_set]; assumption)) only [W_block, P3, ↓reduceIte, reduceAdd, reduceEqDiff, reduceCtorEq, initFr, reduceLT, clsA, reduceLeDiff, reduceMul, reduceSub, reduceIte]
          by_cases hl : 64 ≤ iK.length
          · refine callP (t59no hK3 hl) ?_
            simp (disch := first | assumption | omega | (simp only [LN] <;> omega) | (simp (disch := first | assumption | omega | (simp only [LN] <;> omega)) only [row_alloc, row_set]; assumption)) only [W_block, P3, ↓reduceIte, reduceAdd, reduceEqDiff, reduceCtorEq, initFr, reduceLT, clsA, reduceLeDiff, reduceMul, reduceSub, reduceIte]
            exact h3 _ _ ⟨_, wK, iK, _, _, _, _, _, _, _, _, _, _, _, _, _, _, _, _, _, _, _, _, _, _, _, _, _, _, _, _, _, _, _, j3, rfl, rfl⟩
          · refine callK (t59 hK3 p3.bs (by omega) (by omega)) ?_
            rintro _ K6 ⟨rfl, wK', v', w6, c6, f6⟩
            simp (disch := first | assumption | omega | (simp only [LN] <;> omega) | (simp (disch := first | assumption | omega | (simp only [LN] <;> omega)) only [row_alloc, row_set]; assumption)) only [W_block, P3, ↓reduceIte, reduceAdd, reduceEqDiff, reduceCtorEq, initFr, reduceLT, clsA, reduceLeDiff, reduceMul, reduceSub, reduceIte]
            refine h3 _ _ ⟨_, wK', _, _, _, _, _, _, _, _, _, _, _, _, _, _, _, _, _, _, _, _, _, _, _, _, _, _, _, _, _, _, _, _, j3.wireK w6 c6 f6 (fun it hit => ?_) (by simp; omega), rfl, rfl⟩
            rcases List.mem_append.1 hit with hit | hit
            · exact j3.oK it hit
            · simp only [List.mem_singleton] at hit; subst hit
              have hkk := j2.wb.hk
              have hqq := j2.wb.hq
              exact ⟨xb.q + 1, xb.k, c.B, by simp only [fb1, fb2], hkk.1, Int.le_refl _, hkk.2, by omega, by omega, by omega⟩
      rintro fr K3 ⟨xb', wK', iK', y13', y14', y15', y16', z17, z18, z19, z20, z21, z22, z23, z24, z25, z26, z27, z28, z29, z30, z31, z32, z33, z34, z35, z36, z37, z38, z39, z40, z41, z42, z43, j3, hkk, rfl⟩
      have hK3 := j3.s.at_ 3 rfl
      simp only [thW] at hK3
      refine W_part 2 (fun fr X => ∃ (xa' : En) (wK2 : Value) (iK2 : List It) (x13 x14 x15 x16 x17 x18 x19 x20 x21 x22 x23 x24 x25 x26 x27 x28 x29 x30 x31 x32 x33 x34 x35 x36 x37 x38 x39 x40 x41 x42 x43 : Value), JO H bA bB bT bK xa' xb' wT wK2 iT iK2 sv sent (i + 1) X ∧ fr = [v, .bool false, ptr bA 0, .int .i64 0, ptr bB 0, .int .i64 0, ptr bT 0, ptr bK 0, sv, .int .i64 xb.k, y10, .int .i64 (i : Nat), ptr K.n 0, x13, x14, x15, x16, x17, x18, x19, x20, x21, x22, x23, x24, x25, x26, x27, x28, x29, x30, x31, x32, x33, x34, x35, x36, x37, x38, x39, x40, x41, x42, x43]) rfl ?_ ?_
      · intro Q3 h3 _ _
        cases hk0 : iK' with
        | nil =>
          rw [hk0] at hK3 j3
          simp (disch := first | assumption | omega | (simp only [LN] <;> omega) | (simp (disch := first | assumption | omega | (simp only [LN] <;> omega)) only [row_alloc, row_set]; assumption)) only [cpre, cpost, W_block, P3, ↓reduceIte, reduceAdd, reduceEqDiff, reduceCtorEq, initFr, reduceLT, clsA, reduceLeDiff, reduceMul, reduceSub, reduceIte]
          refine callP (t55no hK3 (by simp) (.inr (by simp))) ?_
          simp (disch := first | assumption | omega | (simp only [LN] <;> omega) | (simp (disch := first | assumption | omega | (simp only [LN] <;> omega)) only [row_alloc, row_set]; assumption)) only [W_block, P3, ↓reduceIte, reduceAdd, reduceEqDiff, reduceCtorEq, initFr, reduceLT, clsA, reduceLeDiff, reduceMul, reduceSub, reduceIte]
          exact h3 _ _ ⟨xa, wK', [], _, _, _, _, _, _, _, _, _, _, _, _, _, _, _, _, _, _, _, _, _, _, _, _, _, _, _, _, _, _, _, j3, rfl⟩
        | cons it rest =>
          have hmem : it ∈ iK' := by rw [hk0]; simp
          have hit : iK'[0]? = some it := by rw [hk0]; rfl
          have hok := j3.oK it hmem
          simp (disch := first | assumption | omega | (simp only [LN] <;> omega) | (simp (disch := first | assumption | omega | (simp only [LN] <;> omega)) only [row_alloc, row_set]; assumption)) only [cpre, cpost, W_block, P3, ↓reduceIte, reduceAdd, reduceEqDiff, reduceCtorEq, initFr, reduceLT, clsA, reduceLeDiff, reduceMul, reduceSub, reduceIte]
          refine callK (t55 hK3 (by have := j3.lK; omega) (i := 0) hit) ?_
          rintro _ K4 ⟨rfl, wK2, w4, a4, c4, hb4⟩
          have j4 := j3.wireK w4 c4 (take_f hb4) (fun z hz => j3.oK z (List.mem_of_mem_eraseIdx hz)) (by rw [List.length_eraseIdx]; have := j3.lK; split <;> omega)
          have gA4 := j4.s.at_ 0 rfl
          simp only [thE, thB] at gA4
          obtain ⟨q, k, B, e, o1, o2, o3, o4, o5, o6⟩ := hok
          have hlen := (j3.oK it hmem).len
          have hokL : okLi ⟨2, 1, q, k, B⟩ = true := okLi_iff.2 ⟨⟨o5, o6⟩, ⟨o1, o3⟩, o4⟩
          have hge := ge_of (m := ⟨2, 1, q, k, B⟩) ⟨by show (2 : Nat) < 256; decide, by show (1 : Nat) < 256; decide⟩ hokL
          rw [← e] at hge
          simp (disch := first | assumption | omega | (simp only [LN] <;> omega) | (simp (disch := first | assumption | omega | (simp only [LN] <;> omega)) only [row_alloc, row_set]; assumption)) only [W_block, P3, ↓reduceIte, reduceAdd, reduceEqDiff, reduceCtorEq, initFr, reduceLT, clsA, reduceLeDiff, reduceMul, reduceSub, reduceIte]
          by_cases hq : q ≤ xa.k
          · have hh : hE xa (geLi it.2) = 180 := by rw [hge, hE1 (by simp [fa2]) (by simp [fa1]), if_pos hq]
            refine callP (t37no gA4 a4.bq (by omega) (by rw [hh]; decide)) ?_
            simp (disch := first | assumption | omega | (simp only [LN] <;> omega) | (simp (disch := first | assumption | omega | (simp only [LN] <;> omega)) only [row_alloc, row_set]; assumption)) only [W_block, P3, ↓reduceIte, reduceAdd, reduceEqDiff, reduceCtorEq, initFr, reduceLT, clsA, reduceLeDiff, reduceMul, reduceSub, reduceIte]
            exact h3 _ _ ⟨xa, wK2, _, _, _, _, _, _, _, _, _, _, _, _, _, _, _, _, _, _, _, _, _, _, _, _, _, _, _, _, _, _, _, _, j4, rfl⟩
          · have hh : hE xa (some ⟨2, 1, q, k, B⟩) = 0 := by rw [hE1 (by simp [fa2]) (by simp [fa1]), if_neg hq]
            refine callK (t37 j4.wa gA4 a4.bq (by omega) hge hh) ?_
            rintro _ K5 ⟨vb, rfl, g5, c5, f5, a5⟩
            simp (disch := first | assumption | omega | (simp only [LN] <;> omega) | (simp (disch := first | assumption | omega | (simp only [LN] <;> omega)) only [row_alloc, row_set]; assumption)) only [W_block, P3, ↓reduceIte, reduceAdd, reduceEqDiff, reduceCtorEq, initFr, reduceLT, clsA, reduceLeDiff, reduceMul, reduceSub, reduceIte]
            exact h3 _ _ ⟨_, wK2, _, _, _, _, _, _, _, _, _, _, _, _, _, _, _, _, _, _, _, _, _, _, _, _, _, _, _, _, _, _, _, _, j4.hearA c5 g5 hokL (by show xa.k < q; omega) o2, rfl⟩
      rintro fr K4 ⟨xa', wK2, iK2, x13, x14, x15, x16, x17, x18, x19, x20, x21, x22, x23, x24, x25, x26, x27, x28, x29, x30, x31, x32, x33, x34, x35, x36, x37, x38, x39, x40, x41, x42, x43, j4, rfl⟩
      have gA4 := j4.s.at_ 0 rfl
      have gB4 := j4.s.at_ 1 rfl
      simp only [thE, thB] at gA4 gB4
      have hack := j4.ack
      simp (disch := first | assumption | omega | (simp only [LN] <;> omega) | (simp (disch := first | assumption | omega | (simp only [LN] <;> omega)) only [row_alloc, row_set]; assumption)) only [cpost, W_block, P3, ↓reduceIte, reduceAdd, reduceEqDiff, reduceCtorEq, initFr, reduceLT, clsA, reduceLeDiff, reduceMul, reduceSub, reduceIte]
      refine callP (t41 gA4) ?_
      simp (disch := first | assumption | omega | (simp only [LN] <;> omega) | (simp (disch := first | assumption | omega | (simp only [LN] <;> omega)) only [row_alloc, row_set]; assumption)) only [W_block, P3, ↓reduceIte, reduceAdd, reduceEqDiff, reduceCtorEq, initFr, reduceLT, clsA, reduceLeDiff, reduceMul, reduceSub, reduceIte]
      refine callP (t40 gB4) ?_
      simp (disch := first | assumption | omega | (simp only [LN] <;> omega) | (simp (disch := first | assumption | omega | (simp only [LN] <;> omega)) only [row_alloc, row_set]; assumption)) only [W_block, P3, ↓reduceIte, reduceAdd, reduceEqDiff, reduceCtorEq, initFr, reduceLT, clsA, reduceLeDiff, reduceMul, reduceSub, reduceIte]
      rw [← hkk]
      exact hM2 _ _ ⟨bA, xa', xb', wT, wK2, iT, iK2, sv, sent, _, _, _, _, _, _, _, _, _, _, _, _, _, _, _, _, _, _, _, _, _, _, _, _, _, _, _, _, _, _, _, _, _, j4, rfl⟩
    simp only [List.set_cons_succ, List.set_cons_zero]
    refine W_sw (n := ((c.n % 8 : Nat) : Int)) rfl (by simp) (fun h3 => ?_) (fun h3 => ?_)
    · -- the first end is made anew
      simp only [List.set_cons_succ, List.set_cons_zero]
      have hwa := j2.wa
      have hn8 := hok.hn
      have e1 : IntKind.i64.wrap (xa.q + 1) = xa.q + 1 := wrap_i64 (by omega) (by omega)
      have e2 : binA .quo (.int .u8 (c.n : Nat)) (.int .u8 8) = some (.int .u8 ((c.n / 8 : Nat) : Int)) := by
        rw [b_quo _ _ _ (by decide), show ((c.n : Int).tdiv 8) = ((c.n / 8 : Nat) : Int) by rw [Int.tdiv_eq_ediv_of_nonneg (by omega)]; omega, wrap_u8]
        congr 2; omega
      have e3 : IntKind.i64.wrap ((c.n / 8 : Nat) : Int) = ((c.n / 8 : Nat) : Int) := wrap_i64 (by omega) (by omega)
      have e4 : IntKind.i64.wrap (xa.q + 1 + ((c.n / 8 : Nat) : Int)) = xa.q + 1 + ((c.n / 8 : Nat) : Int) := wrap_i64 (by omega) (by omega)
      simp (disch := first | assumption | omega | (simp only [LN] <;> omega) | (simp (disch := first | assumption | omega | (simp only [LN] <;> omega)) only [row_alloc, row_set]; assumption)) only [W_block, P3, ↓reduceIte, reduceAdd, reduceEqDiff, reduceCtorEq, initFr, reduceLT, clsA, reduceLeDiff, reduceMul, reduceSub, reduceIte]
      refine callP (t39 gA) ?_
      simp (disch := first | assumption | omega | (simp only [LN] <;> omega) | (simp (disch := first | assumption | omega | (simp only [LN] <;> omega)) only [row_alloc, row_set]; assumption)) only [W_block, P3, ↓reduceIte, reduceAdd, reduceEqDiff, reduceCtorEq, initFr, reduceLT, clsA, reduceLeDiff, reduceMul, reduceSub, reduceIte, e1, g9, l9, cCg c, e2, e3, e4]
      refine callK (t32 1 2 (xa.q + 1 + ((c.n / 8 : Nat) : Int)) _ (by omega)) ?_
      rintro _ _ ⟨rfl, rfl⟩
      have hne : ¬ ((1 : Nat) = 2 ∨ xa.q + 1 + ((c.n / 8 : Nat) : Int) < 1 ∨ 2305843009213693952 < xa.q + 1 + ((c.n / 8 : Nat) : Int)) := by omega
      rw [if_neg hne, if_neg hne]
      obtain ⟨xn, hxn⟩ : ∃ x : En, x = ⟨1, 2, xa.q + 1 + ((c.n / 8 : Nat) : Int) - 1, 0, 0, 0⟩ := ⟨_, rfl⟩
      rw [← hxn]
      have kN := (Keeps.refl K2).alloc (.cells true false 7 (cE xn) 145)
      have gN := AHeap.get_alloc_new K2 (.cells true false 7 (cE xn) 145)
      have gA3 := kN.at_ gA
      simp (disch := first | assumption | omega | (simp only [LN] <;> omega) | (simp (disch := first | assumption | omega | (simp only [LN] <;> omega)) only [row_alloc, row_set]; assumption)) only [W_block, P3, ↓reduceIte, reduceAdd, reduceEqDiff, reduceCtorEq, initFr, reduceLT, clsA, reduceLeDiff, reduceMul, reduceSub, reduceIte]
      obtain ⟨K3, hK3⟩ : ∃ X, X = K2.alloc (.cells true false 7 (cE xn) 145) := ⟨_, rfl⟩
      have n3 : K3.n = K2.n + 1 := by rw [hK3]; rfl
      rw [← hK3] at kN gN gA3 ⊢
      refine callP (t39 gA3) ?_
      simp (disch := first | assumption | omega | (simp only [LN] <;> omega) | (simp (disch := first | assumption | omega | (simp only [LN] <;> omega)) only [row_alloc, row_set]; assumption)) only [W_block, P3, ↓reduceIte, reduceAdd, reduceEqDiff, reduceCtorEq, initFr, reduceLT, clsA, reduceLeDiff, reduceMul, reduceSub, reduceIte, e1]
      have s3 : SepH H K3 [thE K2.n xn, thE bB xb, thW bT wT iT, thW bK wK iK, thA 9 1 sv sent.length (sent.map strB)] := j2.s.u0 (kN.chg _) gN (fun y hy => by
        right
        simp only [thE, thB, List.mem_singleton] at hy; omega)
      obtain ⟨none4, hnone4⟩ : ∃ l : List UInt8, l = [110, 111, 110, 101] := ⟨_, rfl⟩
      refine W_loop2 (fun q fr X => ∃ (j : Nat) (sv' : Value) (z41 : Value), j ≤ c.n / 8 ∧ q = c.n / 8 - j ∧ SepH H X [thE K2.n xn, thE bB xb, thW bT wT iT, thW bK wK iK, thA 9 1 sv' (sent ++ List.replicate j none4).length ((sent ++ List.replicate j none4).map strB)] ∧
        fr = [v, .bool false, ptr bA 0, .int .i64 0, ptr bB 0, .int .i64 0, ptr bT 0, ptr bK 0, sv', .int .i64 xb.k, .int .i64 (xa.q + 1 + ((c.n / 8 : Nat) : Int)), .int .i64 (i : Nat), ptr K.n 0, y13, y14, y15, y16, y17, y18, ptr K2.n 0, .int .i64 0, .int .i64 (xa.q + 1 + (j : Nat)), y22, y23, y24, y25, y26, y27, .bool true, .int .u8 ((c.n % 8 : Nat) : Int), y30, y31, y32, .bool false, y34, .bool false, y36, y37, y38, .bool true, .bool false, z41, y42, y43]) (c.n / 8) ⟨0, sv, y41, by omega, rfl, by simpa using s3, by simp⟩ ?_
      rintro Q5 q fr X ⟨j, sv', z41, hj, rfl, sX, rfl⟩ hnx5 hex5 hrt5
      by_cases hcj : j < c.n / 8
      · have hS5 := sX.at_ 4 rfl
        simp only [thA] at hS5
        have hlt : xa.q + 1 + (j : Int) < xa.q + 1 + ((c.n / 8 : Nat) : Int) := by omega
        have hfl : fillA [.string ByteArray.empty] [(0, 1, .string ⟨#[110, 111, 110, 101]⟩)] = some [strB none4] := by rw [hnone4]; rfl
        have ob3 : (strB none4).oneCell' = true := rfl
        have k4 := (Keeps.refl X).alloc (.cells true false 1 [strB none4] 9)
        have e5 : IntKind.i64.wrap (xa.q + 1 + (j : Int) + 1) = xa.q + 1 + ((j + 1 : Nat) : Int) := by rw [wrap_i64 (by omega) (by omega)]; push_cast; omega
        have hls : (sent ++ List.replicate j none4).length ≤ 100000 := by simp; omega
        simp (disch := first | assumption | omega | (simp only [LN] <;> omega) | (simp (disch := first | assumption | omega | (simp only [LN] <;> omega)) only [row_alloc, row_set]; assumption)) only [W_block, P3, ↓reduceIte, reduceAdd, reduceEqDiff, reduceCtorEq, initFr, reduceLT, clsA, reduceLeDiff, reduceMul, reduceSub, reduceIte, hlt, hfl, ob3]
        refine appG (hS5.keeps k4) ⟨_, _, rfl⟩ (elems_new rfl rfl) rfl (by omega) ?_
        intro sv2 K5 a5 c5 hb5
        have f5 : ∀ y ∈ blkL sv2, y ∈ blkL sv' ∨ X.n ≤ y := fun y hy => by
          rcases hb5 with e | e
          · exact .inl (by unfold blkL at hy ⊢; rw [e] at hy; exact hy)
          · right
            have := mem_blkL.1 hy
            rw [e, alloc_n] at this
            cases this; omega
        have s5 : SepH H K5 [thE K2.n xn, thE bB xb, thW bT wT iT, thW bK wK iK, thA 9 1 sv2 (sent ++ List.replicate (j + 1) none4).length ((sent ++ List.replicate (j + 1) none4).map strB)] := sX.u4 ((k4.chg _).trans c5 (fun y hy => .inl hy)) (by
          have e : sent ++ List.replicate (j + 1) none4 = (sent ++ List.replicate j none4) ++ [none4] := by rw [List.replicate_succ', List.append_assoc]
          rw [e, List.length_append, List.map_append]; exact a5) f5
        simp (disch := first | assumption | omega | (simp only [LN] <;> omega) | (simp (disch := first | assumption | omega | (simp only [LN] <;> omega)) only [row_alloc, row_set]; assumption)) only [W_block, P3, ↓reduceIte, reduceAdd, reduceEqDiff, reduceCtorEq, initFr, reduceLT, clsA, reduceLeDiff, reduceMul, reduceSub, reduceIte, e5]
        exact hnx5 _ _ _ ⟨j + 1, sv2, _, by omega, rfl, s5, rfl⟩ (by omega)
      · have hjn : j = c.n / 8 := by omega
        subst hjn
        simp (disch := first | assumption | omega | (simp only [LN] <;> omega) | (simp (disch := first | assumption | omega | (simp only [LN] <;> omega)) only [row_alloc, row_set]; assumption)) only [W_block, P3, ↓reduceIte, reduceAdd, reduceEqDiff, reduceCtorEq, initFr, reduceLT, clsA, reduceLeDiff, reduceMul, reduceSub, reduceIte]
        refine hex5 _ _ _ ?_
        simp (disch := first | assumption | omega | (simp only [LN] <;> omega) | (simp (disch := first | assumption | omega | (simp only [LN] <;> omega)) only [row_alloc, row_set]; assumption)) only [W_block, P3, ↓reduceIte, reduceAdd, reduceEqDiff, reduceCtorEq, initFr, reduceLT, clsA, reduceLeDiff, reduceMul, reduceSub, reduceIte]
        refine hM2 _ _ ⟨K2.n, xn, xb, wT, wK, iT, iK, sv', _, _, _, _, _, _, _, _, _, _, _, _, _, _, _, _, _, _, _, _, _, _, _, _, _, _, _, _, _, _, _, _, _, _, ⟨sX, ?_, j2.wb, ?_, ?_, ?_, fun it hit => (j2.oT it hit).more' _, j2.oK, ?_, j2.lT, j2.lK⟩, rfl⟩
        · rw [hxn]; exact ⟨by show (1 : Nat) < 256; decide, by show (2 : Nat) < 256; decide, by simp only; omega, by simp only; omega, by simp only; omega, by simp only; omega⟩
        · rw [hxn]; exact ⟨rfl, rfl, fb1, fb2⟩
        · rw [hxn]; simp only [List.length_append, List.length_replicate]; omega
        · simp only [List.length_append, List.length_replicate]; omega
        · rw [hxn]; exact j2.wb.hk.1
    simp only [List.set_cons_succ, List.set_cons_zero]
    refine W_sw (n := ((c.n % 8 : Nat) : Int)) rfl (by simp) (fun h6 => ?_) (fun h6 => ?_)
    · -- dropped
      simp only [List.set_cons_succ, List.set_cons_zero]
      simp (disch := first | assumption | omega | (simp only [LN] <;> omega) | (simp (disch := first | assumption | omega | (simp only [LN] <;> omega)) only [row_alloc, row_set]; assumption)) only [W_block, P3, ↓reduceIte, reduceAdd, reduceEqDiff, reduceCtorEq, initFr, reduceLT, clsA, reduceLeDiff, reduceMul, reduceSub, reduceIte, g9, cCg c]
      by_cases hno : c.I < 0 ∨ (iT.length : Int) ≤ c.I
      · refine callP (t55no hT (by have := j2.lT; omega) hno) ?_
        simp (disch := first | assumption | omega | (simp only [LN] <;> omega) | (simp (disch := first | assumption | omega | (simp only [LN] <;> omega)) only [row_alloc, row_set]; assumption)) only [W_block, P3, ↓reduceIte, reduceAdd, reduceEqDiff, reduceCtorEq, initFr, reduceLT, clsA, reduceLeDiff, reduceMul, reduceSub, reduceIte]
        exact hM2 _ _ ⟨bA, xa, xb, wT, wK, iT, iK, sv, sent, _, _, _, _, _, _, _, _, _, _, _, _, _, _, _, _, _, _, _, _, _, _, _, _, _, _, _, _, _, _, _, _, _, j2.up (by omega), rfl⟩
      · obtain ⟨m, hmI⟩ : ∃ m : Nat, c.I = m := ⟨c.I.toNat, by omega⟩
        have hml : m < iT.length := by omega
        rw [hmI]
        refine callK (t55 hT (by have := j2.lT; omega) (List.getElem?_eq_getElem hml)) ?_
        rintro _ K3 ⟨rfl, wT', w3, a3, c3, hb3⟩
        simp (disch := first | assumption | omega | (simp only [LN] <;> omega) | (simp (disch := first | assumption | omega | (simp only [LN] <;> omega)) only [row_alloc, row_set]; assumption)) only [W_block, P3, ↓reduceIte, reduceAdd, reduceEqDiff, reduceCtorEq, initFr, reduceLT, clsA, reduceLeDiff, reduceMul, reduceSub, reduceIte]
        exact hM2 _ _ ⟨bA, xa, xb, wT', wK, _, iK, sv, sent, _, _, _, _, _, _, _, _, _, _, _, _, _, _, _, _, _, _, _, _, _, _, _, _, _, _, _, _, _, _, _, _, _, (j2.up (by omega)).wireT w3 c3 (take_f hb3) (fun it hit => j2.oT it (List.mem_of_mem_eraseIdx hit)) (by rw [List.length_eraseIdx_of_lt hml]; have := j2.lT; omega), rfl⟩
    simp only [List.set_cons_succ, List.set_cons_zero]
    refine W_sw (n := ((c.n % 8 : Nat) : Int)) rfl (by simp) (fun h7 => ?_) (fun h7 => ?_)
    · -- doubled
      simp only [List.set_cons_succ, List.set_cons_zero]
      simp (disch := first | assumption | omega | (simp only [LN] <;> omega) | (simp (disch := first | assumption | omega | (simp only [LN] <;> omega)) only [row_alloc, row_set]; assumption)) only [W_block, P3, ↓reduceIte, reduceAdd, reduceEqDiff, reduceCtorEq, initFr, reduceLT, clsA, reduceLeDiff, reduceMul, reduceSub, reduceIte, g9, cCg c]
      by_cases hno : askE iT.length c.I true = 0
      · obtain ⟨m, hmI, hml, hl⟩ := askE0 hno
        obtain ⟨it, hit⟩ : ∃ it, iT[m]? = some it := ⟨_, List.getElem?_eq_getElem hml⟩
        have hmem := List.mem_of_getElem? hit
        rw [hmI]
        refine callK (t57 hT hl hit (by have := (j2.oT it hmem).len; omega)) ?_
        rintro _ K3 ⟨rfl, wT', v', w3, c3, f3⟩
        simp (disch := first | assumption | omega | (simp only [LN] <;> omega) | (simp (disch := first | assumption | omega | (simp only [LN] <;> omega)) only [row_alloc, row_set]; assumption)) only [W_block, P3, ↓reduceIte, reduceAdd, reduceEqDiff, reduceCtorEq, initFr, reduceLT, clsA, reduceLeDiff, reduceMul, reduceSub, reduceIte]
        refine hM2 _ _ ⟨bA, xa, xb, wT', wK, _, iK, sv, sent, _, _, _, _, _, _, _, _, _, _, _, _, _, _, _, _, _, _, _, _, _, _, _, _, _, _, _, _, _, _, _, _, _, (j2.up (by omega)).wireT w3 c3 f3 (fun z hz => ?_) (by simp; omega), rfl⟩
        rcases List.mem_append.1 hz with hz | hz
        · exact j2.oT z hz
        · simp only [List.mem_singleton] at hz; subst hz
          exact j2.oT it hmem
      · refine callP (t57no hT (by have := j2.lT; omega) hno) ?_
        simp (disch := first | assumption | omega | (simp only [LN] <;> omega) | (simp (disch := first | assumption | omega | (simp only [LN] <;> omega)) only [row_alloc, row_set]; assumption)) only [W_block, P3, ↓reduceIte, reduceAdd, reduceEqDiff, reduceCtorEq, initFr, reduceLT, clsA, reduceLeDiff, reduceMul, reduceSub, reduceIte]
        exact hM2 _ _ ⟨bA, xa, xb, wT, wK, iT, iK, sv, sent, _, _, _, _, _, _, _, _, _, _, _, _, _, _, _, _, _, _, _, _, _, _, _, _, _, _, _, _, _, _, _, _, _, j2.up (by omega), rfl⟩
    simp only [List.set_cons_succ, List.set_cons_zero]
    simp (disch := first | assumption | omega | (simp only [LN] <;> omega) | (simp (disch := first | assumption | omega | (simp only [LN] <;> omega)) only [row_alloc, row_set]; assumption)) only [W_block, P3, ↓reduceIte, reduceAdd, reduceEqDiff, reduceCtorEq, initFr, reduceLT, clsA, reduceLeDiff, reduceMul, reduceSub, reduceIte, g9, cCg c]
    by_cases hno : c.I < 0 ∨ (iT.length : Int) ≤ c.I
    · refine callP (t55no hT (by have := j2.lT; omega) hno) ?_
      simp (disch := first | assumption | omega | (simp only [LN] <;> omega) | (simp (disch := first | assumption | omega | (simp only [LN] <;> omega)) only [row_alloc, row_set]; assumption)) only [W_block, P3, ↓reduceIte, reduceAdd, reduceEqDiff, reduceCtorEq, initFr, reduceLT, clsA, reduceLeDiff, reduceMul, reduceSub, reduceIte]
      exact hM2 _ _ ⟨bA, xa, xb, wT, wK, iT, iK, sv, sent, _, _, _, _, _, _, _, _, _, _, _, _, _, _, _, _, _, _, _, _, _, _, _, _, _, _, _, _, _, _, _, _, _, j2.up (by omega), rfl⟩
    · obtain ⟨m, hmI⟩ : ∃ m : Nat, c.I = m := ⟨c.I.toNat, by omega⟩
      have hml : m < iT.length := by omega
      obtain ⟨it, hit⟩ : ∃ it, iT[m]? = some it := ⟨_, List.getElem?_eq_getElem hml⟩
      have hmem := List.mem_of_getElem? hit
      rw [hmI]
      refine callK (t55 hT (by have := j2.lT; omega) hit) ?_
      rintro _ K3 ⟨rfl, wT', w3, a3, c3, hb3⟩
      have j3 := (j2.up (j := i + 1) (by omega)).wireT w3 c3 (take_f hb3) (fun it hit => j2.oT it (List.mem_of_mem_eraseIdx hit)) (by rw [List.length_eraseIdx_of_lt hml]; have := j2.lT; omega)
      have gB3 := j3.s.at_ 1 rfl
      simp only [thE, thB] at gB3
      have hlen := (j2.oT it hmem).len
      obtain ⟨q, k, B, e, o1, o2, o3, o4, o5⟩ := j2.oT it hmem
      have hokL : okLi ⟨1, 2, (q : Int) + 1, k, B⟩ = true := okLi_iff.2 ⟨⟨by simp only; omega, o4⟩, ⟨o1, o2⟩, o3⟩
      have hge := ge_of (m := ⟨1, 2, (q : Int) + 1, k, B⟩) ⟨by show (1 : Nat) < 256; decide, by show (2 : Nat) < 256; decide⟩ hokL
      rw [← e] at hge
      have hql := (List.getElem?_eq_some_iff.1 o5).1
      simp (disch := first | assumption | omega | (simp only [LN] <;> omega) | (simp (disch := first | assumption | omega | (simp only [LN] <;> omega)) only [row_alloc, row_set]; assumption)) only [W_block, P3, ↓reduceIte, reduceAdd, reduceEqDiff, reduceCtorEq, initFr, reduceLT, clsA, reduceLeDiff, reduceMul, reduceSub, reduceIte]
      by_cases hq : (q : Int) + 1 ≤ xb.k
      · have hh : hE xb (geLi it.2) = 180 := by rw [hge, hE1 (by simp [fb2]) (by simp [fb1]), if_pos hq]
        refine callP (t37no gB3 a3.bq (by omega) (by rw [hh]; decide)) ?_
        rw [hh]
        simp (disch := first | assumption | omega | (simp only [LN] <;> omega) | (simp (disch := first | assumption | omega | (simp only [LN] <;> omega)) only [row_alloc, row_set]; assumption)) only [W_block, P3, ↓reduceIte, reduceAdd, reduceEqDiff, reduceCtorEq, initFr, reduceLT, clsA, reduceLeDiff, reduceMul, reduceSub, reduceIte]
        exact hM2 _ _ ⟨bA, xa, xb, wT', wK, _, iK, sv, sent, _, _, _, _, _, _, _, _, _, _, _, _, _, _, _, _, _, _, _, _, _, _, _, _, _, _, _, _, _, _, _, _, _, j3, rfl⟩
      · have hh : hE xb (some ⟨1, 2, (q : Int) + 1, k, B⟩) = 0 := by rw [hE1 (by simp [fb2]) (by simp [fb1]), if_neg hq]
        refine callK (t37 j3.wb gB3 a3.bq (by omega) hge hh) ?_
        rintro _ K4 ⟨vb, rfl, g4, c4, f4, a4⟩
        have j4 := j3.hearB c4 g4 hokL (by show xb.k < (q : Int) + 1; omega)
        obtain ⟨xb2, hxb2⟩ : ∃ y, y = hX xb ⟨1, 2, (q : Int) + 1, k, B⟩ := ⟨_, rfl⟩
        have hk2 : xb2.k = (q : Int) + 1 := by rw [hxb2]; rfl
        rw [← hxb2] at g4 j4
        have hS4 := j4.s.at_ 4 rfl
        simp only [thA] at hS4
        have hx : (sent.map strB)[q]? = some (strB B) := by rw [List.getElem?_map, o5]; rfl
        obtain ⟨hnnS, hrowS⟩ := Sl.at1 hS4.wr hx
        obtain ⟨e1s, e2s⟩ := AP.is' hS4
        have a4' : AP K4 5 1 vb B.length (cellsOf B) := a4
        have w6 : IntKind.i64.wrap (xb2.k - 1) = (q : Int) := by rw [hk2, wrap_i64 (by omega) (by omega)]; omega
        have kbs := tbk a4'.bs (Keeps.refl K4)
        simp (disch := first | assumption | omega | (simp only [LN] <;> omega) | (simp (disch := first | assumption | omega | (simp only [LN] <;> omega)) only [row_alloc, row_set]; assumption)) only [W_block, P3, ↓reduceIte, reduceAdd, reduceEqDiff, reduceCtorEq, initFr, reduceLT, clsA, reduceLeDiff, reduceMul, reduceSub, reduceIte]
        refine callP (t40 g4) ?_
        simp (disch := first | assumption | omega | (simp only [LN] <;> omega) | (simp (disch := first | assumption | omega | (simp only [LN] <;> omega)) only [row_alloc, row_set]; assumption)) only [W_block, P3, ↓reduceIte, reduceAdd, reduceEqDiff, reduceCtorEq, initFr, reduceLT, clsA, reduceLeDiff, reduceMul, reduceSub, reduceIte, hk2]
        refine callP (t40 g4) ?_
        simp (disch := first | assumption | omega | (simp only [LN] <;> omega) | (simp (disch := first | assumption | omega | (simp only [LN] <;> omega)) only [row_alloc, row_set]; assumption)) only [W_block, P3, ↓reduceIte, reduceAdd, reduceEqDiff, reduceCtorEq, initFr, reduceLT, clsA, reduceLeDiff, reduceMul, reduceSub, reduceIte, hk2, e2s, a_b2sB a4'.bs]
        refine callP (t40 g4) ?_
        simp (disch := first | assumption | omega | (simp only [LN] <;> omega) | (simp (disch := first | assumption | omega | (simp only [LN] <;> omega)) only [row_alloc, row_set]; assumption)) only [W_block, P3, ↓reduceIte, reduceAdd, reduceEqDiff, reduceCtorEq, initFr, reduceLT, clsA, reduceLeDiff, reduceMul, reduceSub, reduceIte, touch_b2s, kbs, w6, hrowS, strB, bytes_eq]
        refine ⟨by simp, ?_⟩
        refine callP (t40 g4) ?_
        simp (disch := first | assumption | omega | (simp only [LN] <;> omega) | (simp (disch := first | assumption | omega | (simp only [LN] <;> omega)) only [row_alloc, row_set]; assumption)) only [W_block, P3, ↓reduceIte, reduceAdd, reduceEqDiff, reduceCtorEq, initFr, reduceLT, clsA, reduceLeDiff, reduceMul, reduceSub, reduceIte]
        exact hM2 _ _ ⟨bA, xa, xb2, wT', wK, _, iK, sv, sent, _, _, _, _, _, _, _, _, _, _, _, _, _, _, _, _, _, _, _, _, _, _, _, _, _, _, _, _, _, _, _, _, _, j4, rfl⟩
  exact ⟨_, _, a.gc0 k (.inr (.bool _)), rfl, rfl⟩
end Go.AM.Fd

set_option linter.unusedSimpArgs false
set_option linter.unusedVariables false
namespace Go.AM.Hk
open Go.Proofs Go.AM.F Go.AM.Fd
noncomputable def i6R (v : Value) (K : Int → Bool) : Bool := match v with
  | .int .i64 (.ofNat n) => asT (Nat.ble (Nat.succ n) 9223372036854775808) (K (.ofNat n))
  | .int .i64 (.negSucc n) => asT (Nat.ble (Nat.succ n) 9223372036854775808) (K (.negSucc n))
  | _ => false
theorem i6R_true {v : Value} {K : Int → Bool} (h : i6R v K = true) : ∃ n : Int, v = .int .i64 n ∧ (-9223372036854775808 ≤ n ∧ n ≤ 9223372036854775807) ∧ K n = true := by
  unfold i6R at h
  split at h
  · rename_i n
    obtain ⟨h1, h2⟩ := asT_true h
    have := Nat.le_of_ble_eq_true h1
    exact ⟨_, rfl, by show -9223372036854775808 ≤ ((n : Nat) : Int) ∧ ((n : Nat) : Int) ≤ 9223372036854775807; omega, h2⟩
  · rename_i n
    obtain ⟨h1, h2⟩ := asT_true h
    have := Nat.le_of_ble_eq_true h1
    exact ⟨_, rfl, by omega, h2⟩
  · cases h
noncomputable def clR (t : HT) (c : List Value) (K : Bool) : Bool := match c with
  | [a, b, f, g, q, k, d, i] => uK .u8 a fun _ => bqK b t fun _ => uK .u8 f fun _ => uK .u8 g fun _ => i6R q fun _ => i6R k fun _ => bqK d t fun _ => i6R i fun _ => K
  | _ => false
theorem clR_true {n : Nat} {t : HT} {H : AHeap} (r : Rp n t H) {c : List Value} {K : Bool} (h : clR t c K = true) : ∃ x, c = cC x ∧ okC H x ∧ K = true := by
  unfold clR at h
  split at h
  · rename_i a b f g q k d i
    obtain ⟨n0, rfl, w0, q1⟩ := uK_true h
    obtain ⟨B, hB, q2⟩ := bqK_true r q1
    obtain ⟨n1, rfl, w1, q3⟩ := uK_true q2
    obtain ⟨n2, rfl, w2, q4⟩ := uK_true q3
    obtain ⟨n3, rfl, w3, q5⟩ := i6R_true q4
    obtain ⟨n4, rfl, w4, q6⟩ := i6R_true q5
    obtain ⟨FB, hF, q7⟩ := bqK_true r q6
    obtain ⟨n5, rfl, w5, q8⟩ := i6R_true q7
    exact ⟨⟨n0, B, b, ⟨n1, n2, n3, n4, FB⟩, d, n5⟩, rfl, ⟨w0, hB, hF, ⟨w1, w2⟩, w5⟩, q8⟩
  · cases h
noncomputable def clsR (t : HT) (n : Nat) : List Value → Bool → Bool :=
  Nat.rec (motive := fun _ => List Value → Bool → Bool) (fun c K => match c with | [] => K | _ => false) (fun _ ih c K => takeK c 8 fun x => clR t x (dropK c 8 fun c => ih c K)) n
theorem clsR_s (t : HT) (n : Nat) (c : List Value) (K : Bool) : clsR t (n + 1) c K = takeK c 8 fun x => clR t x (dropK c 8 fun c => clsR t n c K) := rfl
theorem clsR_0 (t : HT) (c : List Value) (K : Bool) : clsR t 0 c K = match c with | [] => K | _ => false := rfl
theorem clsR_true {n : Nat} {t : HT} {H : AHeap} (r : Rp n t H) : ∀ {m : Nat} {c : List Value} {K : Bool}, clsR t m c K = true → ∃ cs : List Cl, c = (cs.map cC).flatten ∧ cs.length = m ∧ (∀ x ∈ cs, okC H x) ∧ K = true
  | 0, c, K, h => by
    rw [clsR_0] at h
    split at h
    · exact ⟨[], rfl, rfl, by simp, h⟩
    · cases h
  | m + 1, c, K, h => by
    rw [clsR_s, takeK_eq] at h
    obtain ⟨x, hx, ok, h2⟩ := clR_true r h
    rw [dropK_eq] at h2
    obtain ⟨cs, hc, hl, hok, h3⟩ := clsR_true r h2
    refine ⟨x :: cs, ?_, by simp [hl], ?_, h3⟩
    · rw [List.map_cons, List.flatten_cons, ← hx, ← hc, List.take_append_drop]
    · intro y hy
      rcases List.mem_cons.1 hy with rfl | hy
      · exact ok
      · exact hok y hy
noncomputable def slR (v : Value) (t : HT) (K : Bool) : Bool := match v with
  | .slice none n k => asT (Nat.beq n 0) (asT (Nat.beq k 0) K)
  | .slice (some ⟨b, o, none⟩) n _ => t.getK b fun x => match x with
    | .cells _ _ _ c _ => asT (Nat.ble (Nat.add o (Nat.mul n 8)) c.length) (dropK c o fun c => takeK c (Nat.mul n 8) fun c => clsR t n c K)
    | _ => false
  | _ => false
theorem cC_rows (l : List Cl) : ∀ r ∈ l.map cC, r.length = 8 := fun r hr => by
  simp only [List.mem_map] at hr
  obtain ⟨_, _, rfl⟩ := hr
  rfl
theorem slR_true {n : Nat} {t : HT} {H : AHeap} (r : Rp n t H) {v : Value} {K : Bool} (h : slR v t K = true) : ∃ cs : List Cl, Sl H 8 v (cs.map cC) ∧ (∀ x ∈ cs, okC H x) ∧ K = true := by
  unfold slR at h
  split at h
  · obtain ⟨h1, h2⟩ := asT_true h
    obtain ⟨h3, h4⟩ := asT_true h2
    have := Nat.eq_of_beq_eq_true h1
    have := Nat.eq_of_beq_eq_true h3
    subst_vars
    exact ⟨[], Sl.nil _ _, by simp, rfl⟩
  · rename_i b o n k
    obtain ⟨ob, h1, h2⟩ := r.getK h
    split at h2
    · rename_i own room esz c e
      obtain ⟨h3, h4⟩ := asT_true h2
      rw [dropK_eq, takeK_eq] at h4
      obtain ⟨l, h5, h6, h7, h8⟩ := clsR_true r h4
      have h3 : o + n * 8 ≤ c.length := Nat.le_of_ble_eq_true h3
      refine ⟨l, ⟨⟨some ⟨b, o, none⟩, k, by simp [h6]⟩, cC_rows l, ?_⟩, h7, h8⟩
      simp only [elemsA, h1]
      rw [if_pos h3]
      exact congrArg some h5
    · cases h2
  · cases h
noncomputable def playsH : HF := fun xs n t K => match xs with
  | [v0, v1, v2, v3] => uK .u8 v0 fun _ => uK .u8 v1 fun _ => i6R v2 fun _ => slR v3 t (K (.bool true) n t)
  | _ => false
theorem plays4 : HFok Go.Proofs.Try.prog 0 4 playsH := HFok.of fun xs n t K h H r => by
  unfold playsH at h
  split at h
  · obtain ⟨n0, rfl, w0, q1⟩ := uK_true h
    obtain ⟨n1, rfl, w1, q2⟩ := uK_true q1
    obtain ⟨n2, rfl, w2, q3⟩ := i6R_true q2
    obtain ⟨cs, hs, hc, q4⟩ := slR_true r q3
    obtain ⟨w, H', a, rfl, rfl⟩ := t4 n0 n1 n2 w0 w1 w2 hs hc
    exact ⟨_, a, q4⟩
  · cases h
noncomputable def rowsH : HF := fun xs n t K => match xs with
  | [v0] => slR v0 t (K (.bool true) n t)
  | _ => false
theorem wires8 : HFok Go.Proofs.Try.prog 0 8 rowsH := HFok.of fun xs n t K h H r => by
  unfold rowsH at h
  split at h
  · obtain ⟨cs, hs, hc, q4⟩ := slR_true r h
    obtain ⟨w, H', a, rfl, rfl⟩ := t8 hs hc
    exact ⟨_, a, q4⟩
  · cases h
theorem once9 : HFok Go.Proofs.Try.prog 0 9 rowsH := HFok.of fun xs n t K h H r => by
  unfold rowsH at h
  split at h
  · obtain ⟨cs, hs, hc, q4⟩ := slR_true r h
    obtain ⟨w, H', a, rfl, rfl⟩ := t9 hs hc
    exact ⟨_, a, q4⟩
  · cases h
theorem works31 : HFok Go.Proofs.Try.prog 0 31 trueH := HFok.of fun xs n t K h H r => by
  unfold trueH at h
  split at h
  · obtain ⟨w, H', a, rfl, rfl⟩ := t31 H
    exact ⟨_, a, h⟩
  · cases h
end Go.AM.Hk

set_option maxRecDepth 100000
namespace Go.AM.TFm
open Go.Proofs
def EFok (P : Program) (ng k : Nat) (f : EF) : Prop := ((compF P ng f.sl k).map fun af => (af.sl, af.res, simpC af.body)) = some (f.sl, f.res, f.body)
theorem ok_of {P : Program} {ng k : Nat} {f : EF} (h : EFok P ng k f) (ha : argsOK P k f.na = true) : f.ok P ng k := by
  unfold EFok at h
  simp only [Option.map_eq_some_iff, Prod.mk.injEq] at h
  obtain ⟨af, h1, h2, h3, h4⟩ := h
  exact ⟨af, h1, h2, h3, h4, ha⟩
def e10 : EF := ⟨0, [0, 1, 3, 4, 6, 8, 9, 10, 11, 12, 13, 75], [.t 0],
 .seq (.reg [
 ⟨.mov (.c (.bool false)), .fr 0, none⟩]) <|
 .seq (.reg [
 ⟨.mov (.c (.pointer none)), .fr 1, none⟩]) <|
 .seq (.reg [
 ⟨.mov (.fr 1), .tm, none⟩,
 ⟨.callf 55 [(.tm 0), (.c (.int .i64 0))], .tm, none⟩,
 ⟨.mov (.tm 0), .tm, none⟩,
 ⟨.extract (.tm 0) 0, .tm, none⟩,
 ⟨.extract (.tm 1) 1, .tm, none⟩,
 ⟨.mov (.tm 1), .tm, none⟩,
 ⟨.mov (.tm 1), .fr 2, none⟩]) <|
 .seq (.reg [
 ⟨.mov (.c (.pointer none)), .fr 3, none⟩]) <|
 .seq (.reg [
 ⟨.mov (.fr 3), .tm, none⟩,
 ⟨.callf 34 [(.tm 0), (.c (.slice none 0 0))], .tm, none⟩,
 ⟨.mov (.tm 0), .tm, none⟩,
 ⟨.extract (.tm 0) 0, .tm, none⟩,
 ⟨.extract (.tm 1) 1, .tm, none⟩,
 ⟨.mov (.tm 1), .tm, none⟩,
 ⟨.mov (.tm 1), .fr 4, none⟩]) <|
 .seq (.reg [
 ⟨.mov (.fr 3), .tm, none⟩,
 ⟨.callf 37 [(.tm 0), (.c (.slice none 0 0))], .tm, none⟩,
 ⟨.mov (.tm 0), .tm, none⟩,
 ⟨.extract (.tm 0) 0, .tm, none⟩,
 ⟨.extract (.tm 1) 1, .tm, none⟩,
 ⟨.mov (.tm 1), .tm, none⟩,
 ⟨.mov (.tm 1), .fr 5, none⟩]) <|
 .seq (.reg [
 ⟨.mov (.fr 1), .tm, none⟩,
 ⟨.callf 59 [(.tm 0), (.c (.slice none 0 0))], .tm, none⟩,
 ⟨.bin .eql (.tm 0) (.c (.int .i64 1)), .tm, none⟩,
 ⟨.mov (.tm 0), .tm, none⟩,
 ⟨.mov (.fr 2), .tm, some ((.tm 0), true)⟩,
 ⟨.bin .eql (.tm 0) (.c (.int .i64 1)), .tm, some ((.tm 1), true)⟩,
 ⟨.pick (.tm 2) (.tm 0) (.c (.bool false)), .tm, none⟩,
 ⟨.mov (.tm 0), .tm, none⟩,
 ⟨.mov (.fr 1), .tm, some ((.tm 0), true)⟩,
 ⟨.callf 57 [(.tm 0), (.c (.int .i64 0))], .tm, some ((.tm 1), true)⟩,
 ⟨.bin .eql (.tm 0) (.c (.int .i64 1)), .tm, some ((.tm 2), true)⟩,
 ⟨.pick (.tm 3) (.tm 0) (.c (.bool false)), .tm, none⟩,
 ⟨.mov (.tm 0), .tm, none⟩,
 ⟨.mov (.fr 1), .tm, some ((.tm 0), true)⟩,
 ⟨.callf 61 [(.tm 0)], .tm, some ((.tm 1), true)⟩,
 ⟨.bin .eql (.tm 0) (.c (.int .i64 0)), .tm, some ((.tm 2), true)⟩,
 ⟨.pick (.tm 3) (.tm 0) (.c (.bool false)), .tm, none⟩,
 ⟨.mov (.tm 0), .tm, none⟩,
 ⟨.mov (.fr 4), .tm, some ((.tm 0), true)⟩,
 ⟨.bin .eql (.tm 0) (.c (.int .i64 1)), .tm, some ((.tm 1), true)⟩,
 ⟨.pick (.tm 2) (.tm 0) (.c (.bool false)), .tm, none⟩,
 ⟨.mov (.tm 0), .tm, none⟩,
 ⟨.mov (.fr 5), .tm, some ((.tm 0), true)⟩,
 ⟨.bin .eql (.tm 0) (.c (.int .i64 1)), .tm, some ((.tm 1), true)⟩,
 ⟨.pick (.tm 2) (.tm 0) (.c (.bool false)), .tm, none⟩,
 ⟨.mov (.tm 0), .tm, none⟩,
 ⟨.mov (.fr 3), .tm, some ((.tm 0), true)⟩,
 ⟨.callf 39 [(.tm 0)], .tm, some ((.tm 1), true)⟩,
 ⟨.bin .eql (.tm 0) (.c (.int .i64 0)), .tm, some ((.tm 2), true)⟩,
 ⟨.pick (.tm 3) (.tm 0) (.c (.bool false)), .tm, none⟩,
 ⟨.mov (.tm 0), .tm, none⟩,
 ⟨.mov (.fr 3), .tm, some ((.tm 0), true)⟩,
 ⟨.callf 40 [(.tm 0)], .tm, some ((.tm 1), true)⟩,
 ⟨.bin .eql (.tm 0) (.c (.int .i64 0)), .tm, some ((.tm 2), true)⟩,
 ⟨.pick (.tm 3) (.tm 0) (.c (.bool false)), .tm, none⟩,
 ⟨.mov (.tm 0), .tm, none⟩,
 ⟨.mov (.fr 3), .tm, some ((.tm 0), true)⟩,
 ⟨.callf 41 [(.tm 0)], .tm, some ((.tm 1), true)⟩,
 ⟨.bin .eql (.tm 0) (.c (.int .i64 0)), .tm, some ((.tm 2), true)⟩,
 ⟨.pick (.tm 3) (.tm 0) (.c (.bool false)), .tm, none⟩,
 ⟨.mov (.tm 0), .tm, none⟩,
 ⟨.mov (.fr 3), .tm, some ((.tm 0), true)⟩,
 ⟨.callf 42 [(.tm 0)], .tm, some ((.tm 1), true)⟩,
 ⟨.bin .eql (.tm 0) (.c (.int .i64 0)), .tm, some ((.tm 2), true)⟩,
 ⟨.pick (.tm 3) (.tm 0) (.c (.bool false)), .tm, none⟩,
 ⟨.mov (.tm 0), .fr 6, none⟩]) <|
 .seq (.reg [
 ⟨.mov (.c (.slice none 0 0)), .fr 7, none⟩]) <|
 .seq (.seq (.reg [
 ⟨.mov (.c (.int .i64 0)), .fr 8, none⟩]) <|
 .block 0 (.loop (.seq (.seq (.reg [
 ⟨.mov (.fr 8), .tm, none⟩,
 ⟨.bin .lss (.tm 0) (.c (.int .i64 66)), .fr 11, none⟩]) <|
 .cond (.fr 11)
 (.skip)
 (.exit 0)) <|
 .seq (.block 1 (.reg [
 ⟨.mov (.fr 7), .tm, none⟩,
 ⟨.mov (.fr 8), .tm, none⟩,
 ⟨.i2i .u8 (.tm 0), .tm, none⟩,
 ⟨.bslice 5 1 1 [(.int .u8 0)] [(0, 1, (.tm 0))], .tm, none⟩,
 ⟨.build [(.int .u8 0), (.slice none 0 0), (.int .u8 0), (.int .u8 0), (.int .i64 0), (.int .i64 0), (.slice none 0 0), (.int .i64 0)] [(0, 1, (.c (.int .u8 5))), (1, 1, (.tm 0))], .tm, none⟩,
 ⟨.bslice 84 8 1 [(.int .u8 0), (.slice none 0 0), (.int .u8 0), (.int .u8 0), (.int .i64 0), (.int .i64 0), (.slice none 0 0), (.int .i64 0)] [(0, 8, (.tm 0))], .tm, none⟩,
 ⟨.app 84 8 88 (.tm 5) (.tm 0), .tm, none⟩,
 ⟨.mov (.tm 0), .fr 7, none⟩])) <|
 .reg [
 ⟨.mov (.fr 8), .tm, none⟩,
 ⟨.bin .add (.tm 0) (.c (.int .i64 1)), .tm, none⟩,
 ⟨.mov (.tm 0), .fr 8, none⟩]))) <|
 .seq (.reg [
 ⟨.mov (.fr 7), .tm, none⟩,
 ⟨.build [(.int .u8 0), (.slice none 0 0), (.int .u8 0), (.int .u8 0), (.int .i64 0), (.int .i64 0), (.slice none 0 0), (.int .i64 0)] [(0, 1, (.c (.int .u8 7))), (7, 1, (.c (.int .i64 3)))], .tm, none⟩,
 ⟨.build [(.int .u8 0), (.slice none 0 0), (.int .u8 0), (.int .u8 0), (.int .i64 0), (.int .i64 0), (.slice none 0 0), (.int .i64 0)] [(0, 1, (.c (.int .u8 6))), (7, 1, (.c (.int .i64 63)))], .tm, none⟩,
 ⟨.build [(.int .u8 0), (.slice none 0 0), (.int .u8 0), (.int .u8 0), (.int .i64 0), (.int .i64 0), (.slice none 0 0), (.int .i64 0)] [(0, 1, (.c (.int .u8 7))), (7, 1, (.c (.int .i64 62)))], .tm, none⟩,
 ⟨.build [(.int .u8 0), (.slice none 0 0), (.int .u8 0), (.int .u8 0), (.int .i64 0), (.int .i64 0), (.slice none 0 0), (.int .i64 0)] [(0, 1, (.c (.int .u8 7)))], .tm, none⟩,
 ⟨.build [(.int .u8 0), (.slice none 0 0), (.int .u8 0), (.int .u8 0), (.int .i64 0), (.int .i64 0), (.slice none 0 0), (.int .i64 0)] [(0, 1, (.c (.int .u8 6))), (7, 1, (.c (.int .i64 64)))], .tm, none⟩,
 ⟨.build [(.int .u8 0), (.slice none 0 0), (.int .u8 0), (.int .u8 0), (.int .i64 0), (.int .i64 0), (.slice none 0 0), (.int .i64 0)] [(0, 1, (.c (.int .u8 6))), (7, 1, (.c (.int .i64 (-1))))], .tm, none⟩,
 ⟨.build [(.int .u8 0), (.slice none 0 0), (.int .u8 0), (.int .u8 0), (.int .i64 0), (.int .i64 0), (.slice none 0 0), (.int .i64 0)] [(0, 1, (.c (.int .u8 7))), (7, 1, (.c (.int .i64 (-1))))], .tm, none⟩,
 ⟨.build [(.int .u8 0), (.slice none 0 0), (.int .u8 0), (.int .u8 0), (.int .i64 0), (.int .i64 0), (.slice none 0 0), (.int .i64 0)] [(0, 1, (.c (.int .u8 6))), (7, 1, (.c (.int .i64 63)))], .tm, none⟩,
 ⟨.build [(.int .u8 0), (.slice none 0 0), (.int .u8 0), (.int .u8 0), (.int .i64 0), (.int .i64 0), (.slice none 0 0), (.int .i64 0)] [(0, 1, (.c (.int .u8 6)))], .tm, none⟩,
 ⟨.bslice 84 8 9 [(.int .u8 0), (.slice none 0 0), (.int .u8 0), (.int .u8 0), (.int .i64 0), (.int .i64 0), (.slice none 0 0), (.int .i64 0), (.int .u8 0), (.slice none 0 0), (.int .u8 0), (.int .u8 0), (.int .i64 0), (.int .i64 0), (.slice none 0 0), (.int .i64 0), (.int .u8 0), (.slice none 0 0), (.int .u8 0), (.int .u8 0), (.int .i64 0), (.int .i64 0), (.slice none 0 0), (.int .i64 0), (.int .u8 0), (.slice none 0 0), (.int .u8 0), (.int .u8 0), (.int .i64 0), (.int .i64 0), (.slice none 0 0), (.int .i64 0), (.int .u8 0), (.slice none 0 0), (.int .u8 0), (.int .u8 0), (.int .i64 0), (.int .i64 0), (.slice none 0 0), (.int .i64 0), (.int .u8 0), (.slice none 0 0), (.int .u8 0), (.int .u8 0), (.int .i64 0), (.int .i64 0), (.slice none 0 0), (.int .i64 0), (.int .u8 0), (.slice none 0 0), (.int .u8 0), (.int .u8 0), (.int .i64 0), (.int .i64 0), (.slice none 0 0), (.int .i64 0), (.int .u8 0), (.slice none 0 0), (.int .u8 0), (.int .u8 0), (.int .i64 0), (.int .i64 0), (.slice none 0 0), (.int .i64 0), (.int .u8 0), (.slice none 0 0), (.int .u8 0), (.int .u8 0), (.int .i64 0), (.int .i64 0), (.slice none 0 0), (.int .i64 0)] [(0, 8, (.tm 8)), (8, 8, (.tm 7)), (16, 8, (.tm 6)), (24, 8, (.tm 5)), (32, 8, (.tm 4)), (40, 8, (.tm 3)), (48, 8, (.tm 2)), (56, 8, (.tm 1)), (64, 8, (.tm 0))], .tm, none⟩,
 ⟨.app 84 8 88 (.tm 10) (.tm 0), .tm, none⟩,
 ⟨.mov (.tm 0), .fr 7, none⟩]) <|
 .seq (.reg [
 ⟨.mksl 5 1 1 [(.int .u8 0)] (.c (.int .i64 2049)) (.c (.int .i64 2049)), .tm, none⟩,
 ⟨.mov (.tm 0), .fr 9, none⟩]) <|
 .seq (.reg [
 ⟨.mov (.fr 9), .tm, none⟩,
 ⟨.build [(.int .u8 0), (.slice none 0 0), (.int .u8 0), (.int .u8 0), (.int .i64 0), (.int .i64 0), (.slice none 0 0), (.int .i64 0)] [(0, 1, (.c (.int .u8 0))), (1, 1, (.tm 0))], .tm, none⟩,
 ⟨.mov (.fr 9), .tm, none⟩,
 ⟨.slsl 1 (.tm 0) (some (.c (.int .i64 1))) none none, .tm, none⟩,
 ⟨.build [(.int .u8 0), (.slice none 0 0), (.int .u8 0), (.int .u8 0), (.int .i64 0), (.int .i64 0), (.slice none 0 0), (.int .i64 0)] [(0, 1, (.c (.int .u8 0))), (1, 1, (.tm 0))], .tm, none⟩,
 ⟨.build [(.int .u8 0), (.int .u8 0), (.int .i64 0), (.int .i64 0), (.slice none 0 0)] [(0, 1, (.c (.int .u8 2))), (1, 1, (.c (.int .u8 1))), (2, 1, (.c (.int .i64 5))), (3, 1, (.c (.int .i64 1)))], .tm, none⟩,
 ⟨.build [(.int .u8 0), (.slice none 0 0), (.int .u8 0), (.int .u8 0), (.int .i64 0), (.int .i64 0), (.slice none 0 0), (.int .i64 0)] [(0, 1, (.c (.int .u8 2))), (2, 5, (.tm 0))], .tm, none⟩,
 ⟨.build [(.int .u8 0), (.int .u8 0), (.int .i64 0), (.int .i64 0), (.slice none 0 0)] [(0, 1, (.c (.int .u8 2))), (1, 1, (.c (.int .u8 1))), (2, 1, (.c (.int .i64 5)))], .tm, none⟩,
 ⟨.build [(.int .u8 0), (.slice none 0 0), (.int .u8 0), (.int .u8 0), (.int .i64 0), (.int .i64 0), (.slice none 0 0), (.int .i64 0)] [(0, 1, (.c (.int .u8 2))), (2, 5, (.tm 0))], .tm, none⟩,
 ⟨.bslice 5 1 1 [(.int .u8 0)] [(0, 1, (.c (.int .u8 120)))], .tm, none⟩,
 ⟨.mark (.tm 0), .tm, none⟩,
 ⟨.build [(.int .u8 0), (.int .u8 0), (.int .i64 0), (.int .i64 0), (.slice none 0 0)] [(0, 1, (.c (.int .u8 2))), (1, 1, (.c (.int .u8 1))), (2, 1, (.c (.int .i64 9))), (3, 1, (.c (.int .i64 77))), (4, 1, (.tm 0))], .tm, none⟩,
 ⟨.build [(.int .u8 0), (.slice none 0 0), (.int .u8 0), (.int .u8 0), (.int .i64 0), (.int .i64 0), (.slice none 0 0), (.int .i64 0)] [(0, 1, (.c (.int .u8 2))), (2, 5, (.tm 0))], .tm, none⟩,
 ⟨.build [(.int .u8 0), (.int .u8 0), (.int .i64 0), (.int .i64 0), (.slice none 0 0)] [(0, 1, (.c (.int .u8 1))), (1, 1, (.c (.int .u8 2))), (2, 1, (.c (.int .i64 10)))], .tm, none⟩,
 ⟨.build [(.int .u8 0), (.slice none 0 0), (.int .u8 0), (.int .u8 0), (.int .i64 0), (.int .i64 0), (.slice none 0 0), (.int .i64 0)] [(0, 1, (.c (.int .u8 2))), (2, 5, (.tm 0))], .tm, none⟩,
 ⟨.build [(.int .u8 0), (.int .u8 0), (.int .i64 0), (.int .i64 0), (.slice none 0 0)] [(0, 1, (.c (.int .u8 2))), (1, 1, (.c (.int .u8 3))), (2, 1, (.c (.int .i64 10)))], .tm, none⟩,
 ⟨.build [(.int .u8 0), (.slice none 0 0), (.int .u8 0), (.int .u8 0), (.int .i64 0), (.int .i64 0), (.slice none 0 0), (.int .i64 0)] [(0, 1, (.c (.int .u8 2))), (2, 5, (.tm 0))], .tm, none⟩,
 ⟨.bslice 5 1 1 [(.int .u8 0)] [(0, 1, (.c (.int .u8 120)))], .tm, none⟩,
 ⟨.mark (.tm 0), .tm, none⟩,
 ⟨.build [(.int .u8 0), (.slice none 0 0), (.int .u8 0), (.int .u8 0), (.int .i64 0), (.int .i64 0), (.slice none 0 0), (.int .i64 0)] [(0, 1, (.c (.int .u8 3))), (1, 1, (.tm 0))], .tm, none⟩,
 ⟨.build [(.int .u8 0), (.int .u8 0), (.int .i64 0), (.int .i64 0), (.slice none 0 0)] [(0, 1, (.c (.int .u8 2))), (1, 1, (.c (.int .u8 1))), (2, 1, (.c (.int .i64 4611686018427387904)))], .tm, none⟩,
 ⟨.build [(.int .u8 0), (.slice none 0 0), (.int .u8 0), (.int .u8 0), (.int .i64 0), (.int .i64 0), (.slice none 0 0), (.int .i64 0)] [(0, 1, (.c (.int .u8 2))), (2, 5, (.tm 0))], .tm, none⟩,
 ⟨.build [(.int .u8 0), (.slice none 0 0), (.int .u8 0), (.int .u8 0), (.int .i64 0), (.int .i64 0), (.slice none 0 0), (.int .i64 0)] [(0, 1, (.c (.int .u8 1)))], .tm, none⟩,
 ⟨.bslice 84 8 10 [(.int .u8 0), (.slice none 0 0), (.int .u8 0), (.int .u8 0), (.int .i64 0), (.int .i64 0), (.slice none 0 0), (.int .i64 0), (.int .u8 0), (.slice none 0 0), (.int .u8 0), (.int .u8 0), (.int .i64 0), (.int .i64 0), (.slice none 0 0), (.int .i64 0), (.int .u8 0), (.slice none 0 0), (.int .u8 0), (.int .u8 0), (.int .i64 0), (.int .i64 0), (.slice none 0 0), (.int .i64 0), (.int .u8 0), (.slice none 0 0), (.int .u8 0), (.int .u8 0), (.int .i64 0), (.int .i64 0), (.slice none 0 0), (.int .i64 0), (.int .u8 0), (.slice none 0 0), (.int .u8 0), (.int .u8 0), (.int .i64 0), (.int .i64 0), (.slice none 0 0), (.int .i64 0), (.int .u8 0), (.slice none 0 0), (.int .u8 0), (.int .u8 0), (.int .i64 0), (.int .i64 0), (.slice none 0 0), (.int .i64 0), (.int .u8 0), (.slice none 0 0), (.int .u8 0), (.int .u8 0), (.int .i64 0), (.int .i64 0), (.slice none 0 0), (.int .i64 0), (.int .u8 0), (.slice none 0 0), (.int .u8 0), (.int .u8 0), (.int .i64 0), (.int .i64 0), (.slice none 0 0), (.int .i64 0), (.int .u8 0), (.slice none 0 0), (.int .u8 0), (.int .u8 0), (.int .i64 0), (.int .i64 0), (.slice none 0 0), (.int .i64 0), (.int .u8 0), (.slice none 0 0), (.int .u8 0), (.int .u8 0), (.int .i64 0), (.int .i64 0), (.slice none 0 0), (.int .i64 0)] [(0, 8, (.tm 21)), (8, 8, (.tm 18)), (16, 8, (.tm 16)), (24, 8, (.tm 14)), (32, 8, (.tm 10)), (40, 8, (.tm 8)), (48, 8, (.tm 6)), (56, 8, (.tm 3)), (64, 8, (.tm 1)), (72, 8, (.tm 0))], .tm, none⟩,
 ⟨.mov (.tm 0), .fr 10, none⟩]) <|
 .seq (.reg [
 ⟨.mov (.fr 6), .tm, none⟩,
 ⟨.mov (.tm 0), .tm, none⟩,
 ⟨.mov (.fr 7), .tm, some ((.tm 0), true)⟩,
 ⟨.callf 8 [(.tm 0)], .tm, some ((.tm 1), true)⟩,
 ⟨.pick (.tm 2) (.tm 0) (.c (.bool false)), .tm, none⟩,
 ⟨.mov (.tm 0), .tm, none⟩,
 ⟨.mov (.fr 10), .tm, some ((.tm 0), true)⟩,
 ⟨.callf 4 [(.c (.int .u8 1)), (.c (.int .u8 2)), (.c (.int .i64 1)), (.tm 0)], .tm, some ((.tm 1), true)⟩,
 ⟨.pick (.tm 2) (.tm 0) (.c (.bool false)), .tm, none⟩,
 ⟨.mov (.tm 0), .tm, none⟩,
 ⟨.mov (.fr 10), .tm, some ((.tm 0), true)⟩,
 ⟨.callf 4 [(.c (.int .u8 1)), (.c (.int .u8 1)), (.c (.int .i64 1)), (.tm 0)], .tm, some ((.tm 1), true)⟩,
 ⟨.pick (.tm 2) (.tm 0) (.c (.bool false)), .tm, none⟩,
 ⟨.mov (.tm 0), .tm, none⟩,
 ⟨.mov (.fr 10), .tm, some ((.tm 0), true)⟩,
 ⟨.callf 4 [(.c (.int .u8 1)), (.c (.int .u8 2)), (.c (.int .i64 0)), (.tm 0)], .tm, some ((.tm 1), true)⟩,
 ⟨.pick (.tm 2) (.tm 0) (.c (.bool false)), .tm, none⟩,
 ⟨.mov (.tm 0), .tm, none⟩,
 ⟨.mov (.fr 10), .tm, some ((.tm 0), true)⟩,
 ⟨.callf 4 [(.c (.int .u8 1)), (.c (.int .u8 2)), (.c (.int .i64 2305843009213693952)), (.tm 0)], .tm, some ((.tm 1), true)⟩,
 ⟨.pick (.tm 2) (.tm 0) (.c (.bool false)), .tm, none⟩,
 ⟨.mov (.tm 0), .tm, none⟩,
 ⟨.mov (.fr 10), .tm, some ((.tm 0), true)⟩,
 ⟨.callf 4 [(.c (.int .u8 1)), (.c (.int .u8 2)), (.c (.int .i64 2305843009213693953)), (.tm 0)], .tm, some ((.tm 1), true)⟩,
 ⟨.pick (.tm 2) (.tm 0) (.c (.bool false)), .tm, none⟩,
 ⟨.mov (.tm 0), .tm, none⟩,
 ⟨.bslice 5 1 1 [(.int .u8 0)] [(0, 1, (.c (.int .u8 97)))], .tm, some ((.tm 0), true)⟩,
 ⟨.mark (.tm 0), .tm, some ((.tm 1), true)⟩,
 ⟨.build [(.int .u8 0), (.slice none 0 0), (.int .u8 0), (.int .u8 0), (.int .i64 0), (.int .i64 0), (.slice none 0 0), (.int .i64 0)] [(0, 1, (.c (.int .u8 0))), (1, 1, (.tm 0))], .tm, some ((.tm 2), true)⟩,
 ⟨.bslice 5 1 1 [(.int .u8 0)] [(0, 1, (.c (.int .u8 98)))], .tm, some ((.tm 3), true)⟩,
 ⟨.mark (.tm 0), .tm, some ((.tm 4), true)⟩,
 ⟨.build [(.int .u8 0), (.slice none 0 0), (.int .u8 0), (.int .u8 0), (.int .i64 0), (.int .i64 0), (.slice none 0 0), (.int .i64 0)] [(0, 1, (.c (.int .u8 1))), (1, 1, (.tm 0))], .tm, some ((.tm 5), true)⟩,
 ⟨.build [(.int .u8 0), (.slice none 0 0), (.int .u8 0), (.int .u8 0), (.int .i64 0), (.int .i64 0), (.slice none 0 0), (.int .i64 0)] [(0, 1, (.c (.int .u8 5))), (7, 1, (.c (.int .i64 1)))], .tm, some ((.tm 6), true)⟩,
 ⟨.build [(.int .u8 0), (.slice none 0 0), (.int .u8 0), (.int .u8 0), (.int .i64 0), (.int .i64 0), (.slice none 0 0), (.int .i64 0)] [(0, 1, (.c (.int .u8 19)))], .tm, some ((.tm 7), true)⟩,
 ⟨.bslice 5 1 1 [(.int .u8 0)] [(0, 1, (.c (.int .u8 99)))], .tm, some ((.tm 8), true)⟩,
 ⟨.mark (.tm 0), .tm, some ((.tm 9), true)⟩,
 ⟨.build [(.int .u8 0), (.slice none 0 0), (.int .u8 0), (.int .u8 0), (.int .i64 0), (.int .i64 0), (.slice none 0 0), (.int .i64 0)] [(0, 1, (.c (.int .u8 0))), (1, 1, (.tm 0))], .tm, some ((.tm 10), true)⟩,
 ⟨.build [(.int .u8 0), (.slice none 0 0), (.int .u8 0), (.int .u8 0), (.int .i64 0), (.int .i64 0), (.slice none 0 0), (.int .i64 0)] [(0, 1, (.c (.int .u8 7))), (7, 1, (.c (.int .i64 1)))], .tm, some ((.tm 11), true)⟩,
 ⟨.build [(.int .u8 0), (.slice none 0 0), (.int .u8 0), (.int .u8 0), (.int .i64 0), (.int .i64 0), (.slice none 0 0), (.int .i64 0)] [(0, 1, (.c (.int .u8 4))), (7, 1, (.c (.int .i64 1)))], .tm, some ((.tm 12), true)⟩,
 ⟨.build [(.int .u8 0), (.slice none 0 0), (.int .u8 0), (.int .u8 0), (.int .i64 0), (.int .i64 0), (.slice none 0 0), (.int .i64 0)] [(0, 1, (.c (.int .u8 4)))], .tm, some ((.tm 13), true)⟩,
 ⟨.build [(.int .u8 0), (.slice none 0 0), (.int .u8 0), (.int .u8 0), (.int .i64 0), (.int .i64 0), (.slice none 0 0), (.int .i64 0)] [(0, 1, (.c (.int .u8 2)))], .tm, some ((.tm 14), true)⟩,
 ⟨.build [(.int .u8 0), (.slice none 0 0), (.int .u8 0), (.int .u8 0), (.int .i64 0), (.int .i64 0), (.slice none 0 0), (.int .i64 0)] [(0, 1, (.c (.int .u8 4)))], .tm, some ((.tm 15), true)⟩,
 ⟨.bslice 84 8 10 [(.int .u8 0), (.slice none 0 0), (.int .u8 0), (.int .u8 0), (.int .i64 0), (.int .i64 0), (.slice none 0 0), (.int .i64 0), (.int .u8 0), (.slice none 0 0), (.int .u8 0), (.int .u8 0), (.int .i64 0), (.int .i64 0), (.slice none 0 0), (.int .i64 0), (.int .u8 0), (.slice none 0 0), (.int .u8 0), (.int .u8 0), (.int .i64 0), (.int .i64 0), (.slice none 0 0), (.int .i64 0), (.int .u8 0), (.slice none 0 0), (.int .u8 0), (.int .u8 0), (.int .i64 0), (.int .i64 0), (.slice none 0 0), (.int .i64 0), (.int .u8 0), (.slice none 0 0), (.int .u8 0), (.int .u8 0), (.int .i64 0), (.int .i64 0), (.slice none 0 0), (.int .i64 0), (.int .u8 0), (.slice none 0 0), (.int .u8 0), (.int .u8 0), (.int .i64 0), (.int .i64 0), (.slice none 0 0), (.int .i64 0), (.int .u8 0), (.slice none 0 0), (.int .u8 0), (.int .u8 0), (.int .i64 0), (.int .i64 0), (.slice none 0 0), (.int .i64 0), (.int .u8 0), (.slice none 0 0), (.int .u8 0), (.int .u8 0), (.int .i64 0), (.int .i64 0), (.slice none 0 0), (.int .i64 0), (.int .u8 0), (.slice none 0 0), (.int .u8 0), (.int .u8 0), (.int .i64 0), (.int .i64 0), (.slice none 0 0), (.int .i64 0), (.int .u8 0), (.slice none 0 0), (.int .u8 0), (.int .u8 0), (.int .i64 0), (.int .i64 0), (.slice none 0 0), (.int .i64 0)] [(0, 8, (.tm 13)), (8, 8, (.tm 10)), (16, 8, (.tm 9)), (24, 8, (.tm 8)), (32, 8, (.tm 5)), (40, 8, (.tm 4)), (48, 8, (.tm 3)), (56, 8, (.tm 2)), (64, 8, (.tm 1)), (72, 8, (.tm 0))], .tm, some ((.tm 16), true)⟩,
 ⟨.callf 9 [(.tm 0)], .tm, some ((.tm 17), true)⟩,
 ⟨.pick (.tm 18) (.tm 0) (.c (.bool false)), .tm, none⟩,
 ⟨.mov (.tm 0), .tm, none⟩,
 ⟨.callf 31 [], .tm, some ((.tm 0), true)⟩,
 ⟨.pick (.tm 1) (.tm 0) (.c (.bool false)), .tm, none⟩,
 ⟨.mov (.tm 0), .fr 0, none⟩]) <|
 .ret⟩
theorem e10_ok : Hk.EFok Go.Proofs.Try.prog 0 10 e10 := Hk.ok_of (ok_of (by unfold EFok; kernel_rfl) (by kernel_rfl))
def e24 : EF := Hk.EFof 1 F.f24
theorem e24_ok : Hk.EFok Go.Proofs.Try.prog 0 24 e24 := Hk.ok_af F.f24_ok rfl F.f24_n
def e34 : EF := Hk.EFof 2 F.f34
theorem e34_ok : Hk.EFok Go.Proofs.Try.prog 0 34 e34 := Hk.ok_af F.f34_ok rfl F.f34_n
def e36 : EF := Hk.EFof 1 F.f36
theorem e36_ok : Hk.EFok Go.Proofs.Try.prog 0 36 e36 := Hk.ok_af F.f36_ok rfl F.f36_n
def e37 : EF := Hk.EFof 2 F.f37
theorem e37_ok : Hk.EFok Go.Proofs.Try.prog 0 37 e37 := Hk.ok_af F.f37_ok rfl F.f37_n
def e39 : EF := Hk.EFof 1 F.f39
theorem e39_ok : Hk.EFok Go.Proofs.Try.prog 0 39 e39 := Hk.ok_af F.f39_ok rfl F.f39_n
def e40 : EF := Hk.EFof 1 F.f40
theorem e40_ok : Hk.EFok Go.Proofs.Try.prog 0 40 e40 := Hk.ok_af F.f40_ok rfl F.f40_n
def e41 : EF := Hk.EFof 1 F.f41
theorem e41_ok : Hk.EFok Go.Proofs.Try.prog 0 41 e41 := Hk.ok_af F.f41_ok rfl F.f41_n
def e42 : EF := Hk.EFof 1 F.f42
theorem e42_ok : Hk.EFok Go.Proofs.Try.prog 0 42 e42 := Hk.ok_af F.f42_ok rfl F.f42_n
def e55 : EF := Hk.EFof 2 F.f55
theorem e55_ok : Hk.EFok Go.Proofs.Try.prog 0 55 e55 := Hk.ok_af F.f55_ok rfl F.f55_n
def e57 : EF := Hk.EFof 2 F.f57
theorem e57_ok : Hk.EFok Go.Proofs.Try.prog 0 57 e57 := Hk.ok_af F.f57_ok rfl F.f57_n
def e59 : EF := Hk.EFof 2 F.f59
theorem e59_ok : Hk.EFok Go.Proofs.Try.prog 0 59 e59 := Hk.ok_af F.f59_ok rfl F.f59_n
def e61 : EF := Hk.EFof 1 F.f61
theorem e61_ok : Hk.EFok Go.Proofs.Try.prog 0 61 e61 := Hk.ok_af F.f61_ok rfl F.f61_n
def e62 : EF := Hk.EFof 2 F.f62
theorem e62_ok : Hk.EFok Go.Proofs.Try.prog 0 62 e62 := Hk.ok_af F.f62_ok rfl F.f62_n
def e63 : EF := Hk.EFof 1 F.f63
theorem e63_ok : Hk.EFok Go.Proofs.Try.prog 0 63 e63 := Hk.ok_af F.f63_ok rfl F.f63_n
def e64 : EF := Hk.EFof 1 F.f64
theorem e64_ok : Hk.EFok Go.Proofs.Try.prog 0 64 e64 := Hk.ok_af F.f64_ok rfl F.f64_n
def e65 : EF := Hk.EFof 1 F.f65
theorem e65_ok : Hk.EFok Go.Proofs.Try.prog 0 65 e65 := Hk.ok_af F.f65_ok rfl F.f65_n
def e73 : EF := Hk.EFof 1 F.f73
theorem e73_ok : Hk.EFok Go.Proofs.Try.prog 0 73 e73 := Hk.ok_af F.f73_ok rfl F.f73_n
def e74 : EF := Hk.EFof 2 F.f74
theorem e74_ok : Hk.EFok Go.Proofs.Try.prog 0 74 e74 := Hk.ok_af F.f74_ok rfl F.f74_n
def e75 : EF := Hk.EFof 1 F.f75
theorem e75_ok : Hk.EFok Go.Proofs.Try.prog 0 75 e75 := Hk.ok_af F.f75_ok rfl F.f75_n
def e76 : EF := Hk.EFof 3 F.f76
theorem e76_ok : Hk.EFok Go.Proofs.Try.prog 0 76 e76 := Hk.ok_af F.f76_ok rfl F.f76_n
def e77 : EF := Hk.EFof 3 F.f77
theorem e77_ok : Hk.EFok Go.Proofs.Try.prog 0 77 e77 := Hk.ok_af F.f77_ok rfl F.f77_n
def e78 : EF := Hk.EFof 2 F.f78
theorem e78_ok : Hk.EFok Go.Proofs.Try.prog 0 78 e78 := Hk.ok_af F.f78_ok rfl F.f78_n
def e79 : EF := Hk.EFof 2 F.f79
theorem e79_ok : Hk.EFok Go.Proofs.Try.prog 0 79 e79 := Hk.ok_af F.f79_ok rfl F.f79_n
def e80 : EF := Hk.EFof 2 F.f80
theorem e80_ok : Hk.EFok Go.Proofs.Try.prog 0 80 e80 := Hk.ok_af F.f80_ok rfl F.f80_n
def e81 : EF := Hk.EFof 2 F.f81
theorem e81_ok : Hk.EFok Go.Proofs.Try.prog 0 81 e81 := Hk.ok_af F.f81_ok rfl F.f81_n
def e82 : EF := Hk.EFof 2 F.f82
theorem e82_ok : Hk.EFok Go.Proofs.Try.prog 0 82 e82 := Hk.ok_af F.f82_ok rfl F.f82_n
def e84 : EF := Hk.EFof 2 F.f84
theorem e84_ok : Hk.EFok Go.Proofs.Try.prog 0 84 e84 := Hk.ok_af F.f84_ok rfl F.f84_n
def e85 : EF := Hk.EFof 2 F.f85
theorem e85_ok : Hk.EFok Go.Proofs.Try.prog 0 85 e85 := Hk.ok_af F.f85_ok rfl F.f85_n
def e94 : EF := Hk.EFof 3 F.f94
theorem e94_ok : Hk.EFok Go.Proofs.Try.prog 0 94 e94 := Hk.ok_af F.f94_ok rfl F.f94_n
def e95 : EF := Hk.EFof 3 F.f95
theorem e95_ok : Hk.EFok Go.Proofs.Try.prog 0 95 e95 := Hk.ok_af F.f95_ok rfl F.f95_n
def e96 : EF := Hk.EFof 1 F.f96
theorem e96_ok : Hk.EFok Go.Proofs.Try.prog 0 96 e96 := Hk.ok_af F.f96_ok rfl F.f96_n
def e97 : EF := Hk.EFof 1 F.f97
theorem e97_ok : Hk.EFok Go.Proofs.Try.prog 0 97 e97 := Hk.ok_af F.f97_ok rfl F.f97_n
def e98 : EF := Hk.EFof 2 F.f98
theorem e98_ok : Hk.EFok Go.Proofs.Try.prog 0 98 e98 := Hk.ok_af F.f98_ok rfl F.f98_n
def e99 : EF := Hk.EFof 1 F.f99
theorem e99_ok : Hk.EFok Go.Proofs.Try.prog 0 99 e99 := Hk.ok_af F.f99_ok rfl F.f99_n
def e100 : EF := Hk.EFof 1 F.f100
theorem e100_ok : Hk.EFok Go.Proofs.Try.prog 0 100 e100 := Hk.ok_af F.f100_ok rfl F.f100_n
def e101 : EF := Hk.EFof 1 F.f101
theorem e101_ok : Hk.EFok Go.Proofs.Try.prog 0 101 e101 := Hk.ok_af F.f101_ok rfl F.f101_n
def e103 : EF := Hk.EFof 2 F.f103
theorem e103_ok : Hk.EFok Go.Proofs.Try.prog 0 103 e103 := Hk.ok_af F.f103_ok rfl F.f103_n
def e104 : EF := Hk.EFof 1 F.f104
theorem e104_ok : Hk.EFok Go.Proofs.Try.prog 0 104 e104 := Hk.ok_af F.f104_ok rfl F.f104_n
def e105 : EF := Hk.EFof 2 F.f105
theorem e105_ok : Hk.EFok Go.Proofs.Try.prog 0 105 e105 := Hk.ok_af F.f105_ok rfl F.f105_n
def e108 : EF := Hk.EFof 2 F.f108
theorem e108_ok : Hk.EFok Go.Proofs.Try.prog 0 108 e108 := Hk.ok_af F.f108_ok rfl F.f108_n
def e109 : EF := Hk.EFof 1 F.f109
theorem e109_ok : Hk.EFok Go.Proofs.Try.prog 0 109 e109 := Hk.ok_af F.f109_ok rfl F.f109_n
def e110 : EF := Hk.EFof 2 F.f110
theorem e110_ok : Hk.EFok Go.Proofs.Try.prog 0 110 e110 := Hk.ok_af F.f110_ok rfl F.f110_n
def e111 : EF := Hk.EFof 1 F.f111
theorem e111_ok : Hk.EFok Go.Proofs.Try.prog 0 111 e111 := Hk.ok_af F.f111_ok rfl F.f111_n
def e112 : EF := Hk.EFof 2 F.f112
theorem e112_ok : Hk.EFok Go.Proofs.Try.prog 0 112 e112 := Hk.ok_af F.f112_ok rfl F.f112_n
def e113 : EF := Hk.EFof 1 F.f113
theorem e113_ok : Hk.EFok Go.Proofs.Try.prog 0 113 e113 := Hk.ok_af F.f113_ok rfl F.f113_n
def e114 : EF := Hk.EFof 1 F.f114
theorem e114_ok : Hk.EFok Go.Proofs.Try.prog 0 114 e114 := Hk.ok_af F.f114_ok rfl F.f114_n
def e116 : EF := Hk.EFof 2 F.f116
theorem e116_ok : Hk.EFok Go.Proofs.Try.prog 0 116 e116 := Hk.ok_af F.f116_ok rfl F.f116_n
def e117 : EF := Hk.EFof 1 F.f117
theorem e117_ok : Hk.EFok Go.Proofs.Try.prog 0 117 e117 := Hk.ok_af F.f117_ok rfl F.f117_n
def e118 : EF := Hk.EFof 2 F.f118
theorem e118_ok : Hk.EFok Go.Proofs.Try.prog 0 118 e118 := Hk.ok_af F.f118_ok rfl F.f118_n
def e119 : EF := Hk.EFof 2 F.f119
theorem e119_ok : Hk.EFok Go.Proofs.Try.prog 0 119 e119 := Hk.ok_af F.f119_ok rfl F.f119_n
noncomputable def tab : Hk.FT := (.node 79 e79 (.node 55 e55 (.node 34 e34 (.node 10 e10 (.hook 8 Hk.rowsH (.hook 4 Hk.playsH .leaf .leaf) (.hook 9 Hk.rowsH .leaf .leaf)) (.hook 31 Hk.trueH (.node 24 e24 .leaf .leaf) .leaf)) (.node 40 e40 (.node 37 e37 (.node 36 e36 .leaf .leaf) (.node 39 e39 .leaf .leaf)) (.node 42 e42 (.node 41 e41 .leaf .leaf) .leaf))) (.node 65 e65 (.node 62 e62 (.node 59 e59 (.node 57 e57 .leaf .leaf) (.node 61 e61 .leaf .leaf)) (.node 64 e64 (.node 63 e63 .leaf .leaf) .leaf)) (.node 76 e76 (.node 74 e74 (.node 73 e73 .leaf .leaf) (.node 75 e75 .leaf .leaf)) (.node 78 e78 (.node 77 e77 .leaf .leaf) .leaf)))) (.node 103 e103 (.node 95 e95 (.node 84 e84 (.node 81 e81 (.node 80 e80 .leaf .leaf) (.node 82 e82 .leaf .leaf)) (.node 94 e94 (.node 85 e85 .leaf .leaf) .leaf)) (.node 99 e99 (.node 97 e97 (.node 96 e96 .leaf .leaf) (.node 98 e98 .leaf .leaf)) (.node 101 e101 (.node 100 e100 .leaf .leaf) .leaf))) (.node 112 e112 (.node 109 e109 (.node 105 e105 (.node 104 e104 .leaf .leaf) (.node 108 e108 .leaf .leaf)) (.node 111 e111 (.node 110 e110 .leaf .leaf) .leaf)) (.node 117 e117 (.node 114 e114 (.node 113 e113 .leaf .leaf) (.node 116 e116 .leaf .leaf)) (.node 119 e119 (.node 118 e118 .leaf .leaf) .leaf)))))
theorem tab_ok : tab.ok Go.Proofs.Try.prog 0 := ⟨e79_ok, ⟨e55_ok, ⟨e34_ok, ⟨e10_ok, ⟨Hk.wires8, ⟨Hk.plays4, trivial, trivial⟩, ⟨Hk.once9, trivial, trivial⟩⟩, ⟨Hk.works31, ⟨e24_ok, trivial, trivial⟩, trivial⟩⟩, ⟨e40_ok, ⟨e37_ok, ⟨e36_ok, trivial, trivial⟩, ⟨e39_ok, trivial, trivial⟩⟩, ⟨e42_ok, ⟨e41_ok, trivial, trivial⟩, trivial⟩⟩⟩, ⟨e65_ok, ⟨e62_ok, ⟨e59_ok, ⟨e57_ok, trivial, trivial⟩, ⟨e61_ok, trivial, trivial⟩⟩, ⟨e64_ok, ⟨e63_ok, trivial, trivial⟩, trivial⟩⟩, ⟨e76_ok, ⟨e74_ok, ⟨e73_ok, trivial, trivial⟩, ⟨e75_ok, trivial, trivial⟩⟩, ⟨e78_ok, ⟨e77_ok, trivial, trivial⟩, trivial⟩⟩⟩⟩, ⟨e103_ok, ⟨e95_ok, ⟨e84_ok, ⟨e81_ok, ⟨e80_ok, trivial, trivial⟩, ⟨e82_ok, trivial, trivial⟩⟩, ⟨e94_ok, ⟨e85_ok, trivial, trivial⟩, trivial⟩⟩, ⟨e99_ok, ⟨e97_ok, ⟨e96_ok, trivial, trivial⟩, ⟨e98_ok, trivial, trivial⟩⟩, ⟨e101_ok, ⟨e100_ok, trivial, trivial⟩, trivial⟩⟩⟩, ⟨e112_ok, ⟨e109_ok, ⟨e105_ok, ⟨e104_ok, trivial, trivial⟩, ⟨e108_ok, trivial, trivial⟩⟩, ⟨e111_ok, ⟨e110_ok, trivial, trivial⟩, trivial⟩⟩, ⟨e117_ok, ⟨e114_ok, ⟨e113_ok, trivial, trivial⟩, ⟨e116_ok, trivial, trivial⟩⟩, ⟨e119_ok, ⟨e118_ok, trivial, trivial⟩, trivial⟩⟩⟩⟩⟩
end Go.AM.TFm

set_option maxRecDepth 100000
namespace Go.AM.TFm
open Go.Proofs
theorem known_ev : Hk.runF tab 100000 10 [] 0 .leaf isTrue = true := by kernel_rfl
end Go.AM.TFm
