/- Part of the proof. -/
import Derived.Test.YtngnahfbgilapaaGLOnce04
set_option linter.unusedSimpArgs false
set_option linter.unusedVariables false
set_option linter.unusedSimpArgs false
set_option linter.unusedVariables false
namespace Go.AM.Fd
open Nat (reduceAdd reduceEqDiff reduceLT reduceLeDiff reduceMul reduceSub)
open Go.Proofs Go.AM.F
def thE (b : Nat) (x : En) : Th := thB b (.cells true false 7 (cE x) 145)
def thW (b : Nat) (wv : Value) (its : List It) : Th where
  P := WI b wv its
  F := wF b wv its
  lt K h := h.lt
  st K K' h hn k := by
    refine ⟨by rw [k b (mem_wF.2 (.inl rfl))]; exact h.g, ?_, fun it hit => ?_, h.nd⟩
    · rcases h.w with h' | ⟨y, m, room, d, rfl, h1, h2, h3, h4⟩
      · exact .inl h'
      · exact .inr ⟨y, m, room, d, rfl, h1, h2, h3, by rw [k y (mem_wF.2 (.inr (.inl (mem_blkL.2 rfl))))]; exact h4⟩
    · rcases h.a it hit with h' | ⟨y, room, h1, h2, h3⟩
      · exact .inl h'
      · exact .inr ⟨y, room, h1, h2, by rw [k y (mem_wF.2 (.inr (.inr ⟨it, hit, by rw [h1]; exact mem_blkL.2 rfl⟩)))]; exact h3⟩
def okT (sent : List (List UInt8)) (it : It) : Prop := ∃ (q : Nat) (k : Int) (B : List UInt8), it.2 = fLi ⟨1, 2, (q : Int) + 1, k, B⟩ ∧ 0 ≤ k ∧ k ≤ 4611686018427387904 ∧ B.length ≤ 2048 ∧ (q : Int) + 1 ≤ 4611686018427387904 ∧ sent[q]? = some B
def okK (top : Int) (it : It) : Prop := ∃ (q k : Int) (B : List UInt8), it.2 = fLi ⟨2, 1, q, k, B⟩ ∧ 0 ≤ k ∧ k ≤ top ∧ k ≤ 4611686018427387904 ∧ B.length ≤ 2048 ∧ 0 ≤ q ∧ q ≤ 4611686018427387904
theorem ge_of {m : Li} (hr : rgLi m) (ho : okLi m = true) : geLi (fLi m) = some m := by
  refine geLi_of hr ?_ rfl
  simp only [fLi, ho, if_true]
  exact chk_ne _
theorem okT.more {sent : List (List UInt8)} {it : It} (h : okT sent it) (B : List UInt8) : okT (sent ++ [B]) it := by
  obtain ⟨q, k, B', e, a, b, c, d, g⟩ := h
  exact ⟨q, k, B', e, a, b, c, d, by rw [List.getElem?_append_left (List.getElem?_eq_some_iff.1 g).1]; exact g⟩
theorem okK.mono {t t' : Int} {it : It} (h : okK t it) (ht : t ≤ t') : okK t' it := by
  obtain ⟨q, k, B, e, a, b, c⟩ := h
  exact ⟨q, k, B, e, a, by omega, c⟩
theorem okT.len {sent : List (List UInt8)} {it : It} (h : okT sent it) : it.2.length ≤ 2073 := by
  obtain ⟨q, k, B, e, a, b, c, d, g⟩ := h
  rw [e]; have := fLi_len (x := ⟨1, 2, (q : Int) + 1, k, B⟩); simp only at this; omega
theorem okK.len {t : Int} {it : It} (h : okK t it) : it.2.length ≤ 2073 := by
  obtain ⟨q, k, B, e, a, b, c, d, g⟩ := h
  rw [e]; have := fLi_len (x := ⟨2, 1, q, k, B⟩); simp only at this; omega
structure JO (H : AHeap) (bA bB bT bK : Nat) (xa xb : En) (wT wK : Value) (iT iK : List It) (sv : Value) (sent : List (List UInt8)) (i : Nat) (K : AHeap) : Prop where
  s : SepH H K [thE bA xa, thE bB xb, thW bT wT iT, thW bK wK iK, thA 9 1 sv sent.length (sent.map strB)]
  wa : WfE xa
  wb : WfE xb
  fa : xa.f = 1 ∧ xa.t = 2 ∧ xb.f = 2 ∧ xb.t = 1
  q : xa.q = (sent.length : Nat)
  n : sent.length ≤ 40 * i
  oT : ∀ it ∈ iT, okT sent it
  oK : ∀ it ∈ iK, okK xb.k it
  ack : xa.a ≤ xb.k
  lT : iT.length ≤ 64
  lK : iK.length ≤ 64
def M9 (v : Value) (bB bT bK bi i : Nat) (H : AHeap) (fr : List Value) (K : AHeap) : Prop :=
  ∃ (bA : Nat) (xa xb : En) (wT wK : Value) (iT iK : List It) (sv : Value) (sent : List (List UInt8)) (y10 : Value) (y12 y13 y14 y15 y16 y17 y18 y19 y20 y21 y22 y23 y24 y25 y26 y27 y28 y29 y30 y31 y32 y33 y34 y35 y36 y37 y38 y39 y40 y41 y42 y43 : Value), JO H bA bB bT bK xa xb wT wK iT iK sv sent bi K ∧
    fr = [v, .bool false, ptr bA 0, .int .i64 0, ptr bB 0, .int .i64 0, ptr bT 0, ptr bK 0, sv, .int .i64 xb.k, y10, .int .i64 (i : Nat), y12, y13, y14, y15, y16, y17, y18, y19, y20, y21, y22, y23, y24, y25, y26, y27, y28, y29, y30, y31, y32, y33, y34, y35, y36, y37, y38, y39, y40, y41, y42, y43]
theorem JO.keeps {H : AHeap} {bA bB bT bK : Nat} {xa xb : En} {wT wK : Value} {iT iK : List It} {sv : Value} {sent : List (List UInt8)} {i : Nat} {K K' : AHeap} (h : JO H bA bB bT bK xa xb wT wK iT iK sv sent i K) (k : Keeps K K') : JO H bA bB bT bK xa xb wT wK iT iK sv sent i K' :=
  { h with s := h.s.keeps k }
section
variable {H : AHeap} {bA bB bT bK : Nat} {xa xb : En} {wT wK : Value} {iT iK : List It} {sv : Value} {sent : List (List UInt8)} {i j : Nat} {K K1 K' : AHeap}
theorem JO.up (h : JO H bA bB bT bK xa xb wT wK iT iK sv sent i K) (hij : i ≤ j) : JO H bA bB bT bK xa xb wT wK iT iK sv sent j K := { h with n := by have := h.n; omega }
theorem sX_wf {x : En} (h : WfE x) (hq : x.q < 4611686018427387904) : WfE (sX x) := by
  obtain ⟨a1, a2, a3, a4, a5, a6⟩ := h
  exact ⟨a1, a2, by simp only [sX]; omega, a4, a5, a6⟩
theorem JO.sendA (h : JO H bA bB bT bK xa xb wT wK iT iK sv sent i K) (c1 : Chg [bA] K K1) (g1 : K1.get bA = some (.cells true false 7 (cE (sX xa)) 145)) {sv' : Value} {B : List UInt8} (a2 : AP K' 9 1 sv' (sent.length + 1) (sent.map strB ++ [strB B])) (c2 : Chg (blkL sv) K1 K')
    (f2 : ∀ y ∈ blkL sv', y ∈ blkL sv ∨ K1.n ≤ y) (hq : xa.q < 4611686018427387904) : JO H bA bB bT bK (sX xa) xb wT wK iT iK sv' (sent ++ [B]) (i + 1) K' := by
  have s1 : SepH H K1 [thE bA (sX xa), thE bB xb, thW bT wT iT, thW bK wK iK, thA 9 1 sv sent.length (sent.map strB)] := h.s.u0 c1 g1 (fun y hy => .inl hy)
  have s2 : SepH H K' [thE bA (sX xa), thE bB xb, thW bT wT iT, thW bK wK iK, thA 9 1 sv' (sent ++ [B]).length ((sent ++ [B]).map strB)] := s1.u4 c2 (by rw [List.length_append, List.map_append]; exact a2) f2
  exact ⟨s2, sX_wf h.wa hq, h.wb, h.fa, by have := h.q; simp only [sX, List.length_append, List.length_cons, List.length_nil]; push_cast; omega, by have := h.n; simp; omega, fun it hit => (h.oT it hit).more B, h.oK, h.ack, h.lT, h.lK⟩
theorem wsub {b : Nat} {wv : Value} {its : List It} : ∀ y ∈ b :: blkL wv, y ∈ wF b wv its := fun y hy => by
  rcases List.mem_cons.1 hy with e | e
  · exact mem_wF.2 (.inl e)
  · exact mem_wF.2 (.inr (.inl e))
theorem JO.wireT (h : JO H bA bB bT bK xa xb wT wK iT iK sv sent i K) {wT' : Value} {iT' : List It} (w : WI bT wT' iT' K') (c : Chg (bT :: blkL wT) K K') (f : ∀ y ∈ wF bT wT' iT', y ∈ wF bT wT iT ∨ K.n ≤ y) (o : ∀ it ∈ iT', okT sent it) (l : iT'.length ≤ 64) : JO H bA bB bT bK xa xb wT' wK iT' iK sv sent i K' :=
  { h with s := h.s.u2 (c.mono wsub) w f, oT := o, lT := l }
theorem JO.wireK (h : JO H bA bB bT bK xa xb wT wK iT iK sv sent i K) {wK' : Value} {iK' : List It} (w : WI bK wK' iK' K') (c : Chg (bK :: blkL wK) K K') (f : ∀ y ∈ wF bK wK' iK', y ∈ wF bK wK iK ∨ K.n ≤ y) (o : ∀ it ∈ iK', okK xb.k it) (l : iK'.length ≤ 64) : JO H bA bB bT bK xa xb wT wK' iT iK' sv sent i K' :=
  { h with s := h.s.u3 (c.mono wsub) w f, oK := o, lK := l }
theorem okT.more' {sent : List (List UInt8)} {it : It} (h : okT sent it) (l : List (List UInt8)) : okT (sent ++ l) it := by
  obtain ⟨q, k, B', e, a, b, c, d, g⟩ := h
  exact ⟨q, k, B', e, a, b, c, d, by rw [List.getElem?_append_left (List.getElem?_eq_some_iff.1 g).1]; exact g⟩
theorem JO.hearA (h : JO H bA bB bT bK xa xb wT wK iT iK sv sent i K) {m : Li} (c : Chg [bA] K K') (g : K'.get bA = some (.cells true false 7 (cE (hX xa m)) 145)) (ho : okLi m = true) (hq : xa.k < m.q) (hk : m.k ≤ xb.k) : JO H bA bB bT bK (hX xa m) xb wT wK iT iK sv sent i K' := by
  have hack : (hX xa m).a ≤ xb.k := by
    have := h.ack
    simp only [hX]; split
    · rw [Int.max_def]; split <;> omega
    · exact this
  exact { h with s := h.s.u0 c g (fun y hy => .inl hy), wa := hX_wf h.wa ho hq, fa := h.fa, q := h.q, ack := hack }
theorem JO.hearB (h : JO H bA bB bT bK xa xb wT wK iT iK sv sent i K) {m : Li} (c : Chg [bB] K K') (g : K'.get bB = some (.cells true false 7 (cE (hX xb m)) 145)) (ho : okLi m = true) (hq : xb.k < m.q) : JO H bA bB bT bK xa (hX xb m) wT wK iT iK sv sent i K' :=
  { h with s := h.s.u1 c g (fun y hy => .inl hy), wb := hX_wf h.wb ho hq, fa := h.fa, oK := fun it hit => (h.oK it hit).mono (Int.le_of_lt hq), ack := by have := h.ack; show xa.a ≤ m.q; omega }
theorem take_f {b : Nat} {wv wv' : Value} {its : List It} {n m : Nat} (hb : blk wv' = blk wv) : ∀ y ∈ wF b wv' (its.eraseIdx m), y ∈ wF b wv its ∨ n ≤ y := fun y hy => by
  have e3 : blkL wv' = blkL wv := by unfold blkL; rw [hb]
  rcases mem_wF.1 hy with e | e | ⟨z, hz, e⟩
  · exact .inl (mem_wF.2 (.inl e))
  · exact .inl (mem_wF.2 (.inr (.inl (by rw [← e3]; exact e))))
  · exact .inl (mem_wF.2 (.inr (.inr ⟨z, List.mem_of_mem_eraseIdx hz, e⟩)))
end
theorem hE1 {x : En} {m : Li} (h1 : m.f = x.t) (h2 : m.t = x.f) : hE x (some m) = if m.q ≤ x.k then 180 else 0 := by
  simp only [hE]; rw [if_neg (by omega)]
set_option maxHeartbeats 4000000 in
theorem t9 {H : AHeap} {v : Value} {cs : List Cl} (hs : Sl H 8 v (cs.map cC)) (hc : ∀ c ∈ cs, okC H c) :
    ∃ w H', ARun Go.Proofs.Try.prog 0 9 [v] H w H' ∧ w = .bool true ∧ H' = H := by
  obtain ⟨w, H', a, rfl, k⟩ : ∃ w H', ARun Go.Proofs.Try.prog 0 9 [v] H w H' ∧ w = .bool true ∧ Keeps H H' := by
    refine walk2 f9_ok f9_n ?_
    intro Q hq1 hq2
    simp (disch := first | assumption | omega | (simp only [LN] <;> omega) | (simp (disch := first | assumption | omega | (simp only [LN] <;> omega)) only [row_alloc, row_set]; assumption)) only [f9, W_block, P3, ↓reduceIte, reduceAdd, reduceEqDiff, reduceCtorEq, initFr, reduceLT, clsA, reduceLeDiff, reduceMul, reduceSub, reduceIte]
    refine callK (t30 hs hc) ?_
    rintro _ X ⟨bl, rfl, hXX, hfew⟩
    obtain rfl := hXX.symm
    clear hXX
    cases bl with
    | true =>
      simp (disch := first | assumption | omega | (simp only [LN] <;> omega) | (simp (disch := first | assumption | omega | (simp only [LN] <;> omega)) only [row_alloc, row_set]; assumption)) only [W_block, P3, ↓reduceIte, reduceAdd, reduceEqDiff, reduceCtorEq, initFr, reduceLT, clsA, reduceLeDiff, reduceMul, reduceSub, reduceIte]
      refine callP (t31 _) ?_
      simp (disch := first | assumption | omega | (simp only [LN] <;> omega) | (simp (disch := first | assumption | omega | (simp only [LN] <;> omega)) only [row_alloc, row_set]; assumption)) only [W_block, P3, ↓reduceIte, reduceAdd, reduceEqDiff, reduceCtorEq, initFr, reduceLT, clsA, reduceLeDiff, reduceMul, reduceSub, reduceIte]
      exact hq2 _ _ ⟨_, rfl, rfl, Keeps.refl _⟩
    | false =>
    obtain ⟨hc1, hc2⟩ := hfew rfl
    have his := hs.is
    have hlen := hs.len
    rw [List.length_map] at hlen
    simp (disch := first | assumption | omega | (simp only [LN] <;> omega) | (simp (disch := first | assumption | omega | (simp only [LN] <;> omega)) only [row_alloc, row_set]; assumption)) only [W_block, P3, ↓reduceIte, reduceAdd, reduceEqDiff, reduceCtorEq, initFr, reduceLT, clsA, reduceLeDiff, reduceMul, reduceSub, reduceIte]
    refine callK (t32 1 2 1 _ (by omega)) ?_
    rintro _ _ ⟨rfl, rfl⟩
    rw [if_neg (by omega), if_neg (by omega)]
    simp (disch := first | assumption | omega | (simp only [LN] <;> omega) | (simp (disch := first | assumption | omega | (simp only [LN] <;> omega)) only [row_alloc, row_set]; assumption)) only [W_block, P3, ↓reduceIte, reduceAdd, reduceEqDiff, reduceCtorEq, initFr, reduceLT, clsA, reduceLeDiff, reduceMul, reduceSub, reduceIte]
    refine callK (t32 2 1 1 _ (by omega)) ?_
    rintro _ _ ⟨rfl, rfl⟩
    rw [if_neg (by omega), if_neg (by omega)]
    have w1 : WfE ⟨1, 2, 0, 0, 0, 0⟩ := ⟨by decide, by decide, by decide, by decide, by decide, by decide⟩
    have w2 : WfE ⟨2, 1, 0, 0, 0, 0⟩ := ⟨by decide, by decide, by decide, by decide, by decide, by decide⟩
    have s0 : SepH H H [] := SepH.nil H
    have s1 := s0.add ((Keeps.refl H).alloc (.cells true false 7 (cE ⟨1, 2, 0, 0, 0, 0⟩) 145)) (t := thE H.n ⟨1, 2, 0, 0, 0, 0⟩) (AHeap.get_alloc_new H _) (by simp [thE, thB])
    have s2 := s1.add ((Keeps.refl _).alloc (.cells true false 7 (cE ⟨2, 1, 0, 0, 0, 0⟩) 145)) (t := thE (H.n + 1) ⟨2, 1, 0, 0, 0, 0⟩) (AHeap.get_alloc_new _ _) (by simp [thE, thB, alloc_n])
    have s3 := s2.add ((Keeps.refl _).alloc (.cells true false 1 [.slice none 0 0] 113)) (t := thW (H.n + 1 + 1) (.slice none 0 0) []) ⟨AHeap.get_alloc_new _ _, .inl ⟨rfl, rfl, rfl⟩, by simp, by simp [wF, blkL, blk]⟩ (by simp [thW, wF, blkL, blk, alloc_n])
    have s4 := s3.add ((Keeps.refl _).alloc (.cells true false 1 [.slice none 0 0] 113)) (t := thW (H.n + 1 + 1 + 1) (.slice none 0 0) []) ⟨AHeap.get_alloc_new _ _, .inl ⟨rfl, rfl, rfl⟩, by simp, by simp [wF, blkL, blk]⟩ (by simp [thW, wF, blkL, blk, alloc_n])
    have s5 := s4.add (Keeps.refl _) (t := thA 9 1 (.slice none 0 0) 0 []) (.inl ⟨rfl, rfl, rfl⟩) (by simp [thA, blkL, blk])
    have s6 := s5.perm (us := [thE H.n ⟨1, 2, 0, 0, 0, 0⟩, thE (H.n + 1) ⟨2, 1, 0, 0, 0, 0⟩, thW (H.n + 1 + 1) (.slice none 0 0) [], thW (H.n + 1 + 1 + 1) (.slice none 0 0) [], thA 9 1 (.slice none 0 0) 0 []]) (List.reverse_perm _).symm
    have j0 : JO H H.n (H.n + 1) (H.n + 1 + 1) (H.n + 1 + 1 + 1) ⟨1, 2, 0, 0, 0, 0⟩ ⟨2, 1, 0, 0, 0, 0⟩ (.slice none 0 0) (.slice none 0 0) [] [] (.slice none 0 0) [] 0 _ := ⟨s6, w1, w2, ⟨rfl, rfl, rfl, rfl⟩, rfl, by simp, by simp, by simp, by decide, by simp, by simp⟩
    clear s0 s1 s2 s3 s4 s5 s6
    simp (disch := first | assumption | omega | (simp only [LN] <;> omega) | (simp (disch := first | assumption | omega | (simp only [LN] <;> omega)) only [row_alloc, row_set]; assumption)) only [W_block, P3, ↓reduceIte, reduceAdd, reduceEqDiff, reduceCtorEq, initFr, reduceLT, clsA, reduceLeDiff, reduceMul, reduceSub, reduceIte]
    obtain ⟨bB, hbB⟩ : ∃ y, y = H.n + 1 := ⟨_, rfl⟩
    obtain ⟨bT, hbT⟩ : ∃ y, y = H.n + 1 + 1 := ⟨_, rfl⟩
    obtain ⟨bK, hbK⟩ : ∃ y, y = H.n + 1 + 1 + 1 := ⟨_, rfl⟩
    rw [← hbK, ← hbT, ← hbB] at j0 ⊢
    refine W_loop2 (fun q fr K => ∃ i, i ≤ cs.length ∧ q = cs.length - i ∧ M9 v bB bT bK i i H fr K) cs.length ⟨0, by omega, rfl, _, _, _, _, _, _, _, _, _, _, _, _, _, _, _, _, _, _, _, _, _, _, _, _, _, _, _, _, _, _, _, _, _, _, _, _, _, _, _, _, _, _, j0, rfl⟩ ?_
    clear j0
    rintro Q' q fr K ⟨i, hi, rfl, bA, xa, xb, wT, wK, iT, iK, sv, sent, y10, y12, y13, y14, y15, y16, y17, y18, y19, y20, y21, y22, y23, y24, y25, y26, y27, y28, y29, y30, y31, y32, y33, y34, y35, y36, y37, y38, y39, y40, y41, y42, y43, hJ, rfl⟩ hnx hex hrt
    by_cases hci : i < cs.length
    case neg =>
      simp (disch := first | assumption | omega | (simp only [LN] <;> omega) | (simp (disch := first | assumption | omega | (simp only [LN] <;> omega)) only [row_alloc, row_set]; assumption)) only [W_block, P3, ↓reduceIte, reduceAdd, reduceEqDiff, reduceCtorEq, initFr, reduceLT, clsA, reduceLeDiff, reduceMul, reduceSub, reduceIte]
      refine hex _ _ _ ?_
      simp (disch := first | assumption | omega | (simp only [LN] <;> omega) | (simp (disch := first | assumption | omega | (simp only [LN] <;> omega)) only [row_alloc, row_set]; assumption)) only [W_block, P3, ↓reduceIte, reduceAdd, reduceEqDiff, reduceCtorEq, initFr, reduceLT, clsA, reduceLeDiff, reduceMul, reduceSub, reduceIte]
      refine callP (t42 (hJ.s.at_ 1 rfl)) ?_
      simp (disch := first | assumption | omega | (simp only [LN] <;> omega) | (simp (disch := first | assumption | omega | (simp only [LN] <;> omega)) only [row_alloc, row_set]; assumption)) only [W_block, P3, ↓reduceIte, reduceAdd, reduceEqDiff, reduceCtorEq, initFr, reduceLT, clsA, reduceLeDiff, reduceMul, reduceSub, reduceIte]
      refine callP (t40 (hJ.s.at_ 1 rfl)) ?_
      have := hJ.wb.hl
      simp (disch := first | assumption | omega | (simp only [LN] <;> omega) | (simp (disch := first | assumption | omega | (simp only [LN] <;> omega)) only [row_alloc, row_set]; assumption)) only [W_block, P3, ↓reduceIte, reduceAdd, reduceEqDiff, reduceCtorEq, initFr, reduceLT, clsA, reduceLeDiff, reduceMul, reduceSub, reduceIte]
      refine callP (t31 _) ?_
      simp (disch := first | assumption | omega | (simp only [LN] <;> omega) | (simp (disch := first | assumption | omega | (simp only [LN] <;> omega)) only [row_alloc, row_set]; assumption)) only [W_block, P3, ↓reduceIte, reduceAdd, reduceEqDiff, reduceCtorEq, initFr, reduceLT, clsA, reduceLeDiff, reduceMul, reduceSub, reduceIte]
      exact hq2 _ _ ⟨_, rfl, rfl, hJ.s.k⟩
    obtain ⟨hnn, hrow⟩ := (hs.keeps hJ.s.k).at_ (by omega) (i := i) (by simpa using hci)
    rw [List.getElem_map] at hrow
    have hokH := hc _ (List.getElem_mem hci)
    have hok := hokH.keeps hJ.s.k
    have hcl := hc2 _ (List.getElem_mem hci)
    obtain ⟨c, hce⟩ : ∃ c, c = cs[i] := ⟨_, rfl⟩
    rw [← hce] at hrow hok hcl hokH
    have tB : ∀ y ∈ tb c.vB, y < H.n := hokH.hB.tbl
    simp (disch := first | assumption | omega | (simp only [LN] <;> omega) | (simp (disch := first | assumption | omega | (simp only [LN] <;> omega)) only [row_alloc, row_set]; assumption)) only [ P3, ↓reduceIte, reduceAdd, reduceEqDiff, reduceCtorEq, initFr, reduceLT, clsA, reduceLeDiff, reduceMul, reduceSub, reduceIte]
    refine W_mid (M9 v bB bT bK (i + 1) i H) ?_ ?_
    rotate_left
    · rintro fr K2 ⟨bA2, xa2, xb2, wT2, wK2, iT2, iK2, sv2, sent2, z10, z12, z13, z14, z15, z16, z17, z18, z19, z20, z21, z22, z23, z24, z25, z26, z27, z28, z29, z30, z31, z32, z33, z34, z35, z36, z37, z38, z39, z40, z41, z42, z43, j2, rfl⟩
      simp (disch := first | assumption | omega | (simp only [LN] <;> omega) | (simp (disch := first | assumption | omega | (simp only [LN] <;> omega)) only [row_alloc, row_set]; assumption)) only [W_block, P3, ↓reduceIte, reduceAdd, reduceEqDiff, reduceCtorEq, initFr, reduceLT, clsA, reduceLeDiff, reduceMul, reduceSub, reduceIte, wrap_succ (n := i) (by omega)]
      exact hnx _ _ _ ⟨i + 1, by omega, rfl, bA2, xa2, xb2, wT2, wK2, iT2, iK2, sv2, sent2, _, _, _, _, _, _, _, _, _, _, _, _, _, _, _, _, _, _, _, _, _, _, _, _, _, _, _, _, _, _, _, _, _, j2, rfl⟩ (by omega)
    intro Q2 hM2 hex2 hrt2
    rw [W_block]
    have lc8 : (cC c).length = 8 := rfl
    have ob := hok.hB.bs.sl.one
    have of' := hok.hF.bs.sl.one
    have oc8 : (cC c).all Value.oneCell' = true := by simp only [cC, List.all_cons, List.all_nil, ob, of']; rfl
    have kc := (Keeps.refl K).alloc (.cells true false 8 (cC c) 84)
    have g9 := AHeap.get_alloc_new K (.cells true false 8 (cC c) 84)
    simp (disch := first | assumption | omega | (simp only [LN] <;> omega) | (simp (disch := first | assumption | omega | (simp only [LN] <;> omega)) only [row_alloc, row_set]; assumption)) only [ P3, ↓reduceIte, reduceAdd, reduceEqDiff, reduceCtorEq, initFr, reduceLT, clsA, reduceLeDiff, reduceMul, reduceSub, reduceIte, hrow, lc8, oc8, cCg c, modu8 hok.hn]
    rw [W_block]
    obtain ⟨K2, hK2⟩ : ∃ X, X = K.alloc (.cells true false 8 (cC c) 84) := ⟨_, rfl⟩
    rw [← hK2] at kc g9 ⊢
    have hok2 := hok.keeps kc
    have l9 := AHeap.get_lt g9
    have j2 := hJ.keeps kc
    have hIr := hok.hI
    clear hK2 hrow
    refine W_part 1 (fun fr X => X = K2 ∧ fr = [v, .bool false, ptr bA 0, .int .i64 0, ptr bB 0, .int .i64 0, ptr bT 0, ptr bK 0, sv, .int .i64 xb.k, y10, .int .i64 (i : Nat), ptr K.n 0, y13, y14, y15, y16, y17, y18, y19, y20, y21, y22, y23, y24, y25, y26, y27, .bool true, .int .u8 ((c.n % 8 : Nat) : Int), y30, y31, y32, .bool (decide (c.n % 8 = 0 ∨ c.n % 8 = 1)), y34, y35, y36, y37, y38, y39, y40, y41, y42, y43]) rfl ?_ ?_
    · intro Q3 h3 _ _
      have : c.n % 8 = 0 ∨ c.n % 8 = 1 ∨ c.n % 8 = 2 ∨ c.n % 8 = 3 ∨ c.n % 8 = 4 ∨ c.n % 8 = 5 ∨ c.n % 8 = 6 ∨ c.n % 8 = 7 := by omega
      rcases this with e | e | e | e | e | e | e | e <;> rw [e] at h3 ⊢ <;> simp (disch := first | assumption | omega | (simp only [LN] <;> omega) | (simp (disch := first | assumption | omega | (simp only [LN] <;> omega)) only [row_alloc, row_set]; assumption)) only [cpre, W_block, P3, ↓reduceIte, reduceAdd, reduceEqDiff, reduceCtorEq, initFr, reduceLT, clsA, reduceLeDiff, reduceMul, reduceSub, reduceIte] <;> exact h3 _ _ ⟨rfl, rfl⟩
    rintro fr X ⟨hXX, rfl⟩
    obtain rfl := hXX.symm
    clear hXX
    have gA := j2.s.at_ 0 rfl
    have gB := j2.s.at_ 1 rfl
    have hT := j2.s.at_ 2 rfl
    have hK := j2.s.at_ 3 rfl
    have hS := j2.s.at_ 4 rfl
    simp only [thE, thB, thW, thA] at gA gB hT hK hS
    obtain ⟨fa1, fa2, fb1, fb2⟩ := j2.fa
    have hqA := j2.q
    have hnA := j2.n
    have l9n : ∀ t : Th, t ∈ [thE bA xa, thE bB xb, thW bT wT iT, thW bK wK iK, thA 9 1 sv sent.length (sent.map strB)] → K.n ∉ t.F := fun t ht hy => by
      have := t.lt K (hJ.s.sep.all t ht) _ hy; omega
    by_cases h01 : c.n % 8 = 0 ∨ c.n % 8 = 1
    · rw [decide_eq_true h01]
      simp (disch := first | assumption | omega | (simp only [LN] <;> omega) | (simp (disch := first | assumption | omega | (simp only [LN] <;> omega)) only [row_alloc, row_set]; assumption)) only [cpost, W_block, P3, ↓reduceIte, reduceAdd, reduceEqDiff, reduceCtorEq, initFr, reduceLT, clsA, reduceLeDiff, reduceMul, reduceSub, reduceIte, g9, cCg c]
      by_cases hno : 2048 < c.B.length ∨ 4611686018427387904 ≤ xa.q
      · refine callP (t34no gA hok2.hB.bs hno) ?_
        simp (disch := first | assumption | omega | (simp only [LN] <;> omega) | (simp (disch := first | assumption | omega | (simp only [LN] <;> omega)) only [row_alloc, row_set]; assumption)) only [W_block, P3, ↓reduceIte, reduceAdd, reduceEqDiff, reduceCtorEq, initFr, reduceLT, clsA, reduceLeDiff, reduceMul, reduceSub, reduceIte]
        exact hM2 _ _ ⟨bA, xa, xb, wT, wK, iT, iK, sv, sent, _, _, _, _, _, _, _, _, _, _, _, _, _, _, _, _, _, _, _, _, _, _, _, _, _, _, _, _, _, _, _, _, _, j2.up (by omega), rfl⟩
      · have hvA : ∀ y ∈ tb c.vB, y ≠ bA := fun y hy e => by
          have := tB y hy; have := j2.s.gei 0 rfl (y := bA) (by simp [thE, thB]); omega
        refine callK (t34 j2.wa gA hok2.hB hvA (by omega) (by omega)) ?_
        rintro _ K3 ⟨r, rfl, p3⟩
        have k3 := p3.2.1
        have lA := AHeap.get_lt gA
        have gA3 := k3.at_ (AHeap.get_set_same gA (.cells true false 7 (cE (sX xa)) 145))
        have c3 : Chg [bA] K2 K3 := (Chg.set K2 lA _).trans (k3.chg []) (by simp)
        have g93 : K3.get K.n = some (.cells true false 8 (cC c) 84) := c3.at_ g9 (l9n (thE bA xa) (by simp))
        have hB3 : BS K3 c.vB c.B := hok2.hB.bs.chgT c3 (fun y hy => by simpa using hvA y hy)
        have hS3 : AP K3 9 1 sv sent.length (sent.map strB) := hS.chg c3 (fun y hy => fun hy2 => j2.s.apart 0 4 (by decide) rfl rfl (y := y) (by simp at hy2; subst hy2; simp [thE, thB]) hy)
        have ob3 : (strB c.B).oneCell' = true := rfl
        have k4 := (Keeps.refl K3).alloc (.cells true false 1 [strB c.B] 9)
        have hfl : fillA [.string ByteArray.empty] [(0, 1, .string ⟨c.B.toArray⟩)] = some [strB c.B] := rfl
        simp (disch := first | assumption | omega | (simp only [LN] <;> omega) | (simp (disch := first | assumption | omega | (simp only [LN] <;> omega)) only [row_alloc, row_set]; assumption)) only [W_block, P3, ↓reduceIte, reduceAdd, reduceEqDiff, reduceCtorEq, initFr, reduceLT, clsA, reduceLeDiff, reduceMul, reduceSub, reduceIte, g93, cCg c, a_b2sB hB3, hfl, ob3]
        refine appG (hS3.keeps k4) ⟨_, _, rfl⟩ (elems_new rfl rfl) rfl (by omega) ?_
        intro sv' K5 a5 c5 hb5
        have f5 : ∀ y ∈ blkL sv', y ∈ blkL sv ∨ K3.n ≤ y := fun y hy => by
          rcases hb5 with e | e
          · exact .inl (by unfold blkL at hy ⊢; rw [e] at hy; exact hy)
          · right
            have := mem_blkL.1 hy
            rw [e, alloc_n] at this
            cases this; omega
        have c35 : Chg (blkL sv) K3 K5 := (k4.chg _).trans c5 (fun y hy => .inl hy)
        have j5 := j2.sendA c3 gA3 a5 c35 f5 (by omega)
        have hT5 := j5.s.at_ 2 rfl
        simp only [thW] at hT5
        have hr5 : BS K5 r (fLi ⟨xa.f, xa.t, xa.q + 1, xa.k, c.B⟩) := (p3.1.chg c35 (fun y hy hy2 => by
          have h1 := p3.2.2 y (mem_blkL.1 hy)
          rw [set_n] at h1
          have h2 := j2.s.lt 4 rfl (y := y) hy2
          omega)).bs
        have hfl2 := fLi_len (x := ⟨xa.f, xa.t, xa.q + 1, xa.k, c.B⟩)
        simp only at hfl2
        simp (disch := first | assumption | omega | (simp only [LN] <;> omega) | (simp (disch := first | assumption | omega | (simp only [LN] <;> omega)) only [row_alloc, row_set]; assumption)) only [W_block, P3, ↓reduceIte, reduceAdd, reduceEqDiff, reduceCtorEq, initFr, reduceLT, clsA, reduceLeDiff, reduceMul, reduceSub, reduceIte]
        by_cases hl : 64 ≤ iT.length
        · refine callP (t59no hT5 hl) ?_
          simp (disch := first | assumption | omega | (simp only [LN] <;> omega) | (simp (disch := first | assumption | omega | (simp only [LN] <;> omega)) only [row_alloc, row_set]; assumption)) only [W_block, P3, ↓reduceIte, reduceAdd, reduceEqDiff, reduceCtorEq, initFr, reduceLT, clsA, reduceLeDiff, reduceMul, reduceSub, reduceIte]
          exact hM2 _ _ ⟨bA, _, xb, wT, wK, iT, iK, sv', _, _, _, _, _, _, _, _, _, _, _, _, _, _, _, _, _, _, _, _, _, _, _, _, _, _, _, _, _, _, _, _, _, _, j5, rfl⟩
        · refine callK (t59 hT5 hr5 (by omega) (by omega)) ?_
          rintro _ K6 ⟨rfl, wT', v', w6, c6, f6⟩
          simp (disch := first | assumption | omega | (simp only [LN] <;> omega) | (simp (disch := first | assumption | omega | (simp only [LN] <;> omega)) only [row_alloc, row_set]; assumption)) only [W_block, P3, ↓reduceIte, reduceAdd, reduceEqDiff, reduceCtorEq, initFr, reduceLT, clsA, reduceLeDiff, reduceMul, reduceSub, reduceIte]
          refine hM2 _ _ ⟨bA, _, xb, wT', wK, _, iK, sv', _, _, _, _, _, _, _, _, _, _, _, _, _, _, _, _, _, _, _, _, _, _, _, _, _, _, _, _, _, _, _, _, _, _, j5.wireT w6 c6 f6 (fun it hit => ?_) (by simp; omega), rfl⟩
          rcases List.mem_append.1 hit with hit | hit
          · exact j5.oT it hit
          · simp only [List.mem_singleton] at hit; subst hit
            have hkk := j2.wa.hk
            exact ⟨sent.length, xa.k, c.B, by simp only [fa1, fa2, hqA], hkk.1, hkk.2, by omega, by omega, by simp⟩
    rw [decide_eq_false h01]
    simp only [cpost, w_cond, AX_fr, List.getD_cons_succ, List.getD_cons_zero, cond_false]
    refine W_sw (n := ((c.n % 8 : Nat) : Int)) rfl (by simp) (fun h2 => ?_) (fun h2 => ?_)
    · -- the second end sends
      simp only [List.set_cons_succ, List.set_cons_zero]
      refine W_part 2 (fun fr X => ∃ (xb' : En) (wK' : Value) (iK' : List It) (y13 y14 y15 y16 : Value) (z17 z18 z19 z20 z21 z22 z23 z24 z25 z26 z27 z28 z29 z30 z31 z32 z33 z34 z35 z36 z37 z38 z39 z40 z41 z42 z43 : Value), JO H bA bB bT bK xa xb' wT wK' iT iK' sv sent (i + 1) X ∧ xb'.k = xb.k ∧ fr = [v, .bool false, ptr bA 0, .int .i64 0, ptr bB 0, .int .i64 0, ptr bT 0, ptr bK 0, sv, .int .i64 xb.k, y10, .int .i64 (i : Nat), ptr K.n 0, y13, y14, y15, y16, z17, z18, z19, z20, z21, z22, z23, z24, z25, z26, z27, z28, z29, z30, z31, z32, z33, z34, z35, z36, z37, z38, z39, z40, z41, z42, z43]) rfl ?_ ?_
      · intro Q3 h3 _ _
        simp (disch := first | assumption | omega | (simp only [LN] <;> omega) | (simp (disch := first | assumption | omega | (simp only [LN] <;> omega)) only [row_alloc, row_set]; assumption)) only [cpre, W_block, P3, ↓reduceIte, reduceAdd, reduceEqDiff, reduceCtorEq, initFr, reduceLT, clsA, reduceLeDiff, reduceMul, reduceSub, reduceIte, g9, cCg c]
        by_cases hno : 2048 < c.B.length ∨ 4611686018427387904 ≤ xb.q
        · refine callP (t34no gB hok2.hB.bs hno) ?_
          simp (disch := first | assumption | omega | (simp only [LN] <;> omega) | (simp (disch := first | assumption | omega | (simp only [LN] <;> omega)) only [row_alloc, row_set]; assumption)) only [W_block, P3, ↓reduceIte, reduceAdd, reduceEqDiff, reduceCtorEq, initFr, reduceLT, clsA, reduceLeDiff, reduceMul, reduceSub, reduceIte]
          exact h3 _ _ ⟨xb, wK, iK, _, _, _, _, _, _, _, _, _, _, _, _, _, _, _, _, _, _, _, _, _, _, _, _, _, _, _, _, _, _, _, j2.up (by omega), rfl, rfl⟩
        · have hvB : ∀ y ∈ tb c.vB, y ≠ bB := fun y hy e => by
            have := tB y hy; have := j2.s.gei 1 rfl (y := bB) (by simp [thE, thB]); omega
          refine callK (t34 j2.wb gB hok2.hB hvB (by omega) (by omega)) ?_
          rintro _ K3 ⟨r, rfl, p3⟩
          have k3 := p3.2.1
          have lB := AHeap.get_lt gB
          have gB3 := k3.at_ (AHeap.get_set_same gB (.cells true false 7 (cE (sX xb)) 145))
          have c3 : Chg [bB] K2 K3 := (Chg.set K2 lB _).trans (k3.chg []) (by simp)
          have s3 : SepH H K3 [thE bA xa, thE bB (sX xb), thW bT wT iT, thW bK wK iK, thA 9 1 sv sent.length (sent.map strB)] := j2.s.u1 c3 gB3 (fun y hy => .inl hy)
          have j3 : JO H bA bB bT bK xa (sX xb) wT wK iT iK sv sent (i + 1) K3 := { j2.up (j := i + 1) (by omega) with s := s3, wb := sX_wf j2.wb (by omega) }
          have hK3 := s3.at_ 3 rfl
          simp only [thW] at hK3
          have hfl2 := fLi_len (x := ⟨xb.f, xb.t, xb.q + 1, xb.k, c.B⟩)
          simp only at hfl2
          simp (disch := first | assumption | omega | (simp only [LN] <;> omega) | (simp (disch := first | assumption | omega | (simp only [LN] <;> omega)) only [row_alloc, row_set]; assumption)) only [W_block, P3, ↓reduceIte, reduceAdd, reduceEqDiff, reduceCtorEq, initFr, reduceLT, clsA, reduceLeDiff, reduceMul, reduceSub, reduceIte]
          by_cases hl : 64 ≤ iK.length
          · refine callP (t59no hK3 hl) ?_
            simp (disch := first | assumption | omega | (simp only [LN] <;> omega) | (simp (disch := first | assumption | omega | (simp only [LN] <;> omega)) only [row_alloc, row_set]; assumption)) only [W_block, P3, ↓reduceIte, reduceAdd, reduceEqDiff, reduceCtorEq, initFr, reduceLT, clsA, reduceLeDiff, reduceMul, reduceSub, reduceIte]
            exact h3 _ _ ⟨_, wK, iK, _, _, _, _, _, _, _, _, _, _, _, _, _, _, _, _, _, _, _, _, _, _, _, _, _, _, _, _, _, _, _, j3, rfl, rfl⟩
          · refine callK (t59 hK3 p3.bs (by omega) (by omega)) ?_
            rintro _ K6 ⟨rfl, wK', v', w6, c6, f6⟩
            simp (disch := first | assumption | omega | (simp only [LN] <;> omega) | (simp (disch := first | assumption | omega | (simp only [LN] <;> omega)) only [row_alloc, row_set]; assumption)) only [W_block, P3, ↓reduceIte, reduceAdd, reduceEqDiff, reduceCtorEq, initFr, reduceLT, clsA, reduceLeDiff, reduceMul, reduceSub, reduceIte]
            refine h3 _ _ ⟨_, wK', _, _, _, _, _, _, _, _, _, _, _, _, _, _, _, _, _, _, _, _, _, _, _, _, _, _, _, _, _, _, _, _, j3.wireK w6 c6 f6 (fun it hit => ?_) (by simp; omega), rfl, rfl⟩
            rcases List.mem_append.1 hit with hit | hit
            · exact j3.oK it hit
            · simp only [List.mem_singleton] at hit; subst hit
              have hkk := j2.wb.hk
              have hqq := j2.wb.hq
              exact ⟨xb.q + 1, xb.k, c.B, by simp only [fb1, fb2], hkk.1, Int.le_refl _, hkk.2, by omega, by omega, by omega⟩
      rintro fr K3 ⟨xb', wK', iK', y13', y14', y15', y16', z17, z18, z19, z20, z21, z22, z23, z24, z25, z26, z27, z28, z29, z30, z31, z32, z33, z34, z35, z36, z37, z38, z39, z40, z41, z42, z43, j3, hkk, rfl⟩
      have hK3 := j3.s.at_ 3 rfl
      simp only [thW] at hK3
      refine W_part 2 (fun fr X => ∃ (xa' : En) (wK2 : Value) (iK2 : List It) (x13 x14 x15 x16 x17 x18 x19 x20 x21 x22 x23 x24 x25 x26 x27 x28 x29 x30 x31 x32 x33 x34 x35 x36 x37 x38 x39 x40 x41 x42 x43 : Value), JO H bA bB bT bK xa' xb' wT wK2 iT iK2 sv sent (i + 1) X ∧ fr = [v, .bool false, ptr bA 0, .int .i64 0, ptr bB 0, .int .i64 0, ptr bT 0, ptr bK 0, sv, .int .i64 xb.k, y10, .int .i64 (i : Nat), ptr K.n 0, x13, x14, x15, x16, x17, x18, x19, x20, x21, x22, x23, x24, x25, x26, x27, x28, x29, x30, x31, x32, x33, x34, x35, x36, x37, x38, x39, x40, x41, x42, x43]) rfl ?_ ?_
      · intro Q3 h3 _ _
        cases hk0 : iK' with
        | nil =>
          rw [hk0] at hK3 j3
          simp (disch := first | assumption | omega | (simp only [LN] <;> omega) | (simp (disch := first | assumption | omega | (simp only [LN] <;> omega)) only [row_alloc, row_set]; assumption)) only [cpre, cpost, W_block, P3, ↓reduceIte, reduceAdd, reduceEqDiff, reduceCtorEq, initFr, reduceLT, clsA, reduceLeDiff, reduceMul, reduceSub, reduceIte]
          refine callP (t55no hK3 (by simp) (.inr (by simp))) ?_
          simp (disch := first | assumption | omega | (simp only [LN] <;> omega) | (simp (disch := first | assumption | omega | (simp only [LN] <;> omega)) only [row_alloc, row_set]; assumption)) only [W_block, P3, ↓reduceIte, reduceAdd, reduceEqDiff, reduceCtorEq, initFr, reduceLT, clsA, reduceLeDiff, reduceMul, reduceSub, reduceIte]
          exact h3 _ _ ⟨xa, wK', [], _, _, _, _, _, _, _, _, _, _, _, _, _, _, _, _, _, _, _, _, _, _, _, _, _, _, _, _, _, _, _, j3, rfl⟩
        | cons it rest =>
          have hmem : it ∈ iK' := by rw [hk0]; simp
          have hit : iK'[0]? = some it := by rw [hk0]; rfl
          have hok := j3.oK it hmem
          simp (disch := first | assumption | omega | (simp only [LN] <;> omega) | (simp (disch := first | assumption | omega | (simp only [LN] <;> omega)) only [row_alloc, row_set]; assumption)) only [cpre, cpost, W_block, P3, ↓reduceIte, reduceAdd, reduceEqDiff, reduceCtorEq, initFr, reduceLT, clsA, reduceLeDiff, reduceMul, reduceSub, reduceIte]
          refine callK (t55 hK3 (by have := j3.lK; omega) (i := 0) hit) ?_
          rintro _ K4 ⟨rfl, wK2, w4, a4, c4, hb4⟩
          have j4 := j3.wireK w4 c4 (take_f hb4) (fun z hz => j3.oK z (List.mem_of_mem_eraseIdx hz)) (by rw [List.length_eraseIdx]; have := j3.lK; split <;> omega)
          have gA4 := j4.s.at_ 0 rfl
          simp only [thE, thB] at gA4
          obtain ⟨q, k, B, e, o1, o2, o3, o4, o5, o6⟩ := hok
          have hlen := (j3.oK it hmem).len
          have hokL : okLi ⟨2, 1, q, k, B⟩ = true := okLi_iff.2 ⟨⟨o5, o6⟩, ⟨o1, o3⟩, o4⟩
          have hge := ge_of (m := ⟨2, 1, q, k, B⟩) ⟨by show (2 : Nat) < 256; decide, by show (1 : Nat) < 256; decide⟩ hokL
          rw [← e] at hge
          simp (disch := first | assumption | omega | (simp only [LN] <;> omega) | (simp (disch := first | assumption | omega | (simp only [LN] <;> omega)) only [row_alloc, row_set]; assumption)) only [W_block, P3, ↓reduceIte, reduceAdd, reduceEqDiff, reduceCtorEq, initFr, reduceLT, clsA, reduceLeDiff, reduceMul, reduceSub, reduceIte]
          by_cases hq : q ≤ xa.k
          · have hh : hE xa (geLi it.2) = 180 := by rw [hge, hE1 (by simp [fa2]) (by simp [fa1]), if_pos hq]
            refine callP (t37no gA4 a4.bq (by omega) (by rw [hh]; decide)) ?_
            simp (disch := first | assumption | omega | (simp only [LN] <;> omega) | (simp (disch := first | assumption | omega | (simp only [LN] <;> omega)) only [row_alloc, row_set]; assumption)) only [W_block, P3, ↓reduceIte, reduceAdd, reduceEqDiff, reduceCtorEq, initFr, reduceLT, clsA, reduceLeDiff, reduceMul, reduceSub, reduceIte]
            exact h3 _ _ ⟨xa, wK2, _, _, _, _, _, _, _, _, _, _, _, _, _, _, _, _, _, _, _, _, _, _, _, _, _, _, _, _, _, _, _, _, j4, rfl⟩
          · have hh : hE xa (some ⟨2, 1, q, k, B⟩) = 0 := by rw [hE1 (by simp [fa2]) (by simp [fa1]), if_neg hq]
            refine callK (t37 j4.wa gA4 a4.bq (by omega) hge hh) ?_
            rintro _ K5 ⟨vb, rfl, g5, c5, f5, a5⟩
            simp (disch := first | assumption | omega | (simp only [LN] <;> omega) | (simp (disch := first | assumption | omega | (simp only [LN] <;> omega)) only [row_alloc, row_set]; assumption)) only [W_block, P3, ↓reduceIte, reduceAdd, reduceEqDiff, reduceCtorEq, initFr, reduceLT, clsA, reduceLeDiff, reduceMul, reduceSub, reduceIte]
            exact h3 _ _ ⟨_, wK2, _, _, _, _, _, _, _, _, _, _, _, _, _, _, _, _, _, _, _, _, _, _, _, _, _, _, _, _, _, _, _, _, j4.hearA c5 g5 hokL (by show xa.k < q; omega) o2, rfl⟩
      rintro fr K4 ⟨xa', wK2, iK2, x13, x14, x15, x16, x17, x18, x19, x20, x21, x22, x23, x24, x25, x26, x27, x28, x29, x30, x31, x32, x33, x34, x35, x36, x37, x38, x39, x40, x41, x42, x43, j4, rfl⟩
      have gA4 := j4.s.at_ 0 rfl
      have gB4 := j4.s.at_ 1 rfl
      simp only [thE, thB] at gA4 gB4
      have hack := j4.ack
      simp (disch := first | assumption | omega | (simp only [LN] <;> omega) | (simp (disch := first | assumption | omega | (simp only [LN] <;> omega)) only [row_alloc, row_set]; assumption)) only [cpost, W_block, P3, ↓reduceIte, reduceAdd, reduceEqDiff, reduceCtorEq, initFr, reduceLT, clsA, reduceLeDiff, reduceMul, reduceSub, reduceIte]
      refine callP (t41 gA4) ?_
      simp (disch := first | assumption | omega | (simp only [LN] <;> omega) | (simp (disch := first | assumption | omega | (simp only [LN] <;> omega)) only [row_alloc, row_set]; assumption)) only [W_block, P3, ↓reduceIte, reduceAdd, reduceEqDiff, reduceCtorEq, initFr, reduceLT, clsA, reduceLeDiff, reduceMul, reduceSub, reduceIte]
      refine callP (t40 gB4) ?_
      simp (disch := first | assumption | omega | (simp only [LN] <;> omega) | (simp (disch := first | assumption | omega | (simp only [LN] <;> omega)) only [row_alloc, row_set]; assumption)) only [W_block, P3, ↓reduceIte, reduceAdd, reduceEqDiff, reduceCtorEq, initFr, reduceLT, clsA, reduceLeDiff, reduceMul, reduceSub, reduceIte]
      rw [← hkk]
      exact hM2 _ _ ⟨bA, xa', xb', wT, wK2, iT, iK2, sv, sent, _, _, _, _, _, _, _, _, _, _, _, _, _, _, _, _, _, _, _, _, _, _, _, _, _, _, _, _, _, _, _, _, _, j4, rfl⟩
    simp only [List.set_cons_succ, List.set_cons_zero]
    refine W_sw (n := ((c.n % 8 : Nat) : Int)) rfl (by simp) (fun h3 => ?_) (fun h3 => ?_)
    · -- the first end is made anew
      simp only [List.set_cons_succ, List.set_cons_zero]
      have hwa := j2.wa
      have hn8 := hok.hn
      have e1 : IntKind.i64.wrap (xa.q + 1) = xa.q + 1 := wrap_i64 (by omega) (by omega)
      have e2 : binA .quo (.int .u8 (c.n : Nat)) (.int .u8 8) = some (.int .u8 ((c.n / 8 : Nat) : Int)) := by
        rw [b_quo _ _ _ (by decide), show ((c.n : Int).tdiv 8) = ((c.n / 8 : Nat) : Int) by rw [Int.tdiv_eq_ediv_of_nonneg (by omega)]; omega, wrap_u8]
        congr 2; omega
      have e3 : IntKind.i64.wrap ((c.n / 8 : Nat) : Int) = ((c.n / 8 : Nat) : Int) := wrap_i64 (by omega) (by omega)
      have e4 : IntKind.i64.wrap (xa.q + 1 + ((c.n / 8 : Nat) : Int)) = xa.q + 1 + ((c.n / 8 : Nat) : Int) := wrap_i64 (by omega) (by omega)
      simp (disch := first | assumption | omega | (simp only [LN] <;> omega) | (simp (disch := first | assumption | omega | (simp only [LN] <;> omega)) only [row_alloc, row_set]; assumption)) only [W_block, P3, ↓reduceIte, reduceAdd, reduceEqDiff, reduceCtorEq, initFr, reduceLT, clsA, reduceLeDiff, reduceMul, reduceSub, reduceIte]
      refine callP (t39 gA) ?_
      simp (disch := first | assumption | omega | (simp only [LN] <;> omega) | (simp (disch := first | assumption | omega | (simp only [LN] <;> omega)) only [row_alloc, row_set]; assumption)) only [W_block, P3, ↓reduceIte, reduceAdd, reduceEqDiff, reduceCtorEq, initFr, reduceLT, clsA, reduceLeDiff, reduceMul, reduceSub, reduceIte, e1, g9, l9, cCg c, e2, e3, e4]
      refine callK (t32 1 2 (xa.q + 1 + ((c.n / 8 : Nat) : Int)) _ (by omega)) ?_
      rintro _ _ ⟨rfl, rfl⟩
      have hne : ¬ ((1 : Nat) = 2 ∨ xa.q + 1 + ((c.n / 8 : Nat) : Int) < 1 ∨ 2305843009213693952 < xa.q + 1 + ((c.n / 8 : Nat) : Int)) := by omega
      rw [if_neg hne, if_neg hne]
      obtain ⟨xn, hxn⟩ : ∃ x : En, x = ⟨1, 2, xa.q + 1 + ((c.n / 8 : Nat) : Int) - 1, 0, 0, 0⟩ := ⟨_, rfl⟩
      rw [← hxn]
      have kN := (Keeps.refl K2).alloc (.cells true false 7 (cE xn) 145)
      have gN := AHeap.get_alloc_new K2 (.cells true false 7 (cE xn) 145)
      have gA3 := kN.at_ gA
      simp (disch := first | assumption | omega | (simp only [LN] <;> omega) | (simp (disch := first | assumption | omega | (simp only [LN] <;> omega)) only [row_alloc, row_set]; assumption)) only [W_block, P3, ↓reduceIte, reduceAdd, reduceEqDiff, reduceCtorEq, initFr, reduceLT, clsA, reduceLeDiff, reduceMul, reduceSub, reduceIte]
      obtain ⟨K3, hK3⟩ : ∃ X, X = K2.alloc (.cells true false 7 (cE xn) 145) := ⟨_, rfl⟩
      have n3 : K3.n = K2.n + 1 := by rw [hK3]; rfl
      rw [← hK3] at kN gN gA3 ⊢
      refine callP (t39 gA3) ?_
      simp (disch := first | assumption | omega | (simp only [LN] <;> omega) | (simp (disch := first | assumption | omega | (simp only [LN] <;> omega)) only [row_alloc, row_set]; assumption)) only [W_block, P3, ↓reduceIte, reduceAdd, reduceEqDiff, reduceCtorEq, initFr, reduceLT, clsA, reduceLeDiff, reduceMul, reduceSub, reduceIte, e1]
      have s3 : SepH H K3 [thE K2.n xn, thE bB xb, thW bT wT iT, thW bK wK iK, thA 9 1 sv sent.length (sent.map strB)] := j2.s.u0 (kN.chg _) gN (fun y hy => by
        right
        simp only [thE, thB, List.mem_singleton] at hy; omega)
      obtain ⟨none4, hnone4⟩ : ∃ l : List UInt8, l = [110, 111, 110, 101] := ⟨_, rfl⟩
      refine W_loop2 (fun q fr X => ∃ (j : Nat) (sv' : Value) (z41 : Value), j ≤ c.n / 8 ∧ q = c.n / 8 - j ∧ SepH H X [thE K2.n xn, thE bB xb, thW bT wT iT, thW bK wK iK, thA 9 1 sv' (sent ++ List.replicate j none4).length ((sent ++ List.replicate j none4).map strB)] ∧
        fr = [v, .bool false, ptr bA 0, .int .i64 0, ptr bB 0, .int .i64 0, ptr bT 0, ptr bK 0, sv', .int .i64 xb.k, .int .i64 (xa.q + 1 + ((c.n / 8 : Nat) : Int)), .int .i64 (i : Nat), ptr K.n 0, y13, y14, y15, y16, y17, y18, ptr K2.n 0, .int .i64 0, .int .i64 (xa.q + 1 + (j : Nat)), y22, y23, y24, y25, y26, y27, .bool true, .int .u8 ((c.n % 8 : Nat) : Int), y30, y31, y32, .bool false, y34, .bool false, y36, y37, y38, .bool true, .bool false, z41, y42, y43]) (c.n / 8) ⟨0, sv, y41, by omega, rfl, by simpa using s3, by simp⟩ ?_
      rintro Q5 q fr X ⟨j, sv', z41, hj, rfl, sX, rfl⟩ hnx5 hex5 hrt5
      by_cases hcj : j < c.n / 8
      · have hS5 := sX.at_ 4 rfl
        simp only [thA] at hS5
        have hlt : xa.q + 1 + (j : Int) < xa.q + 1 + ((c.n / 8 : Nat) : Int) := by omega
        have hfl : fillA [.string ByteArray.empty] [(0, 1, .string ⟨#[110, 111, 110, 101]⟩)] = some [strB none4] := by rw [hnone4]; rfl
        have ob3 : (strB none4).oneCell' = true := rfl
        have k4 := (Keeps.refl X).alloc (.cells true false 1 [strB none4] 9)
        have e5 : IntKind.i64.wrap (xa.q + 1 + (j : Int) + 1) = xa.q + 1 + ((j + 1 : Nat) : Int) := by rw [wrap_i64 (by omega) (by omega)]; push_cast; omega
        have hls : (sent ++ List.replicate j none4).length ≤ 100000 := by simp; omega
        simp (disch := first | assumption | omega | (simp only [LN] <;> omega) | (simp (disch := first | assumption | omega | (simp only [LN] <;> omega)) only [row_alloc, row_set]; assumption)) only [W_block, P3, ↓reduceIte, reduceAdd, reduceEqDiff, reduceCtorEq, initFr, reduceLT, clsA, reduceLeDiff, reduceMul, reduceSub, reduceIte, hlt, hfl, ob3]
        refine appG (hS5.keeps k4) ⟨_, _, rfl⟩ (elems_new rfl rfl) rfl (by omega) ?_
        intro sv2 K5 a5 c5 hb5
        have f5 : ∀ y ∈ blkL sv2, y ∈ blkL sv' ∨ X.n ≤ y := fun y hy => by
          rcases hb5 with e | e
          · exact .inl (by unfold blkL at hy ⊢; rw [e] at hy; exact hy)
          · right
            have := mem_blkL.1 hy
            rw [e, alloc_n] at this
            cases this; omega
        have s5 : SepH H K5 [thE K2.n xn, thE bB xb, thW bT wT iT, thW bK wK iK, thA 9 1 sv2 (sent ++ List.replicate (j + 1) none4).length ((sent ++ List.replicate (j + 1) none4).map strB)] := sX.u4 ((k4.chg _).trans c5 (fun y hy => .inl hy)) (by
          have e : sent ++ List.replicate (j + 1) none4 = (sent ++ List.replicate j none4) ++ [none4] := by rw [List.replicate_succ', List.append_assoc]
          rw [e, List.length_append, List.map_append]; exact a5) f5
        simp (disch := first | assumption | omega | (simp only [LN] <;> omega) | (simp (disch := first | assumption | omega | (simp only [LN] <;> omega)) only [row_alloc, row_set]; assumption)) only [W_block, P3, ↓reduceIte, reduceAdd, reduceEqDiff, reduceCtorEq, initFr, reduceLT, clsA, reduceLeDiff, reduceMul, reduceSub, reduceIte, e5]
        exact hnx5 _ _ _ ⟨j + 1, sv2, _, by omega, rfl, s5, rfl⟩ (by omega)
      · have hjn : j = c.n / 8 := by omega
        subst hjn
        simp (disch := first | assumption | omega | (simp only [LN] <;> omega) | (simp (disch := first | assumption | omega | (simp only [LN] <;> omega)) only [row_alloc, row_set]; assumption)) only [W_block, P3, ↓reduceIte, reduceAdd, reduceEqDiff, reduceCtorEq, initFr, reduceLT, clsA, reduceLeDiff, reduceMul, reduceSub, reduceIte]
        refine hex5 _ _ _ ?_
        simp (disch := first | assumption | omega | (simp only [LN] <;> omega) | (simp (disch := first | assumption | omega | (simp only [LN] <;> omega)) only [row_alloc, row_set]; assumption)) only [W_block, P3, ↓reduceIte, reduceAdd, reduceEqDiff, reduceCtorEq, initFr, reduceLT, clsA, reduceLeDiff, reduceMul, reduceSub, reduceIte]
        refine hM2 _ _ ⟨K2.n, xn, xb, wT, wK, iT, iK, sv', _, _, _, _, _, _, _, _, _, _, _, _, _, _, _, _, _, _, _, _, _, _, _, _, _, _, _, _, _, _, _, _, _, _, ⟨sX, ?_, j2.wb, ?_, ?_, ?_, fun it hit => (j2.oT it hit).more' _, j2.oK, ?_, j2.lT, j2.lK⟩, rfl⟩
        · rw [hxn]; exact ⟨by show (1 : Nat) < 256; decide, by show (2 : Nat) < 256; decide, by simp only; omega, by simp only; omega, by simp only; omega, by simp only; omega⟩
        · rw [hxn]; exact ⟨rfl, rfl, fb1, fb2⟩
        · rw [hxn]; simp only [List.length_append, List.length_replicate]; omega
        · simp only [List.length_append, List.length_replicate]; omega
        · rw [hxn]; exact j2.wb.hk.1
    simp only [List.set_cons_succ, List.set_cons_zero]
    refine W_sw (n := ((c.n % 8 : Nat) : Int)) rfl (by simp) (fun h6 => ?_) (fun h6 => ?_)
    · -- dropped
      simp only [List.set_cons_succ, List.set_cons_zero]
      simp (disch := first | assumption | omega | (simp only [LN] <;> omega) | (simp (disch := first | assumption | omega | (simp only [LN] <;> omega)) only [row_alloc, row_set]; assumption)) only [W_block, P3, ↓reduceIte, reduceAdd, reduceEqDiff, reduceCtorEq, initFr, reduceLT, clsA, reduceLeDiff, reduceMul, reduceSub, reduceIte, g9, cCg c]
      by_cases hno : c.I < 0 ∨ (iT.length : Int) ≤ c.I
      · refine callP (t55no hT (by have := j2.lT; omega) hno) ?_
        simp (disch := first | assumption | omega | (simp only [LN] <;> omega) | (simp (disch := first | assumption | omega | (simp only [LN] <;> omega)) only [row_alloc, row_set]; assumption)) only [W_block, P3, ↓reduceIte, reduceAdd, reduceEqDiff, reduceCtorEq, initFr, reduceLT, clsA, reduceLeDiff, reduceMul, reduceSub, reduceIte]
        exact hM2 _ _ ⟨bA, xa, xb, wT, wK, iT, iK, sv, sent, _, _, _, _, _, _, _, _, _, _, _, _, _, _, _, _, _, _, _, _, _, _, _, _, _, _, _, _, _, _, _, _, _, j2.up (by omega), rfl⟩
      · obtain ⟨m, hmI⟩ : ∃ m : Nat, c.I = m := ⟨c.I.toNat, by omega⟩
        have hml : m < iT.length := by omega
        rw [hmI]
        refine callK (t55 hT (by have := j2.lT; omega) (List.getElem?_eq_getElem hml)) ?_
        rintro _ K3 ⟨rfl, wT', w3, a3, c3, hb3⟩
        simp (disch := first | assumption | omega | (simp only [LN] <;> omega) | (simp (disch := first | assumption | omega | (simp only [LN] <;> omega)) only [row_alloc, row_set]; assumption)) only [W_block, P3, ↓reduceIte, reduceAdd, reduceEqDiff, reduceCtorEq, initFr, reduceLT, clsA, reduceLeDiff, reduceMul, reduceSub, reduceIte]
        exact hM2 _ _ ⟨bA, xa, xb, wT', wK, _, iK, sv, sent, _, _, _, _, _, _, _, _, _, _, _, _, _, _, _, _, _, _, _, _, _, _, _, _, _, _, _, _, _, _, _, _, _, (j2.up (by omega)).wireT w3 c3 (take_f hb3) (fun it hit => j2.oT it (List.mem_of_mem_eraseIdx hit)) (by rw [List.length_eraseIdx_of_lt hml]; have := j2.lT; omega), rfl⟩
    simp only [List.set_cons_succ, List.set_cons_zero]
    refine W_sw (n := ((c.n % 8 : Nat) : Int)) rfl (by simp) (fun h7 => ?_) (fun h7 => ?_)
    · -- doubled
      simp only [List.set_cons_succ, List.set_cons_zero]
      simp (disch := first | assumption | omega | (simp only [LN] <;> omega) | (simp (disch := first | assumption | omega | (simp only [LN] <;> omega)) only [row_alloc, row_set]; assumption)) only [W_block, P3, ↓reduceIte, reduceAdd, reduceEqDiff, reduceCtorEq, initFr, reduceLT, clsA, reduceLeDiff, reduceMul, reduceSub, reduceIte, g9, cCg c]
      by_cases hno : askE iT.length c.I true = 0
      · obtain ⟨m, hmI, hml, hl⟩ := askE0 hno
        obtain ⟨it, hit⟩ : ∃ it, iT[m]? = some it := ⟨_, List.getElem?_eq_getElem hml⟩
        have hmem := List.mem_of_getElem? hit
        rw [hmI]
        refine callK (t57 hT hl hit (by have := (j2.oT it hmem).len; omega)) ?_
        rintro _ K3 ⟨rfl, wT', v', w3, c3, f3⟩
        simp (disch := first | assumption | omega | (simp only [LN] <;> omega) | (simp (disch := first | assumption | omega | (simp only [LN] <;> omega)) only [row_alloc, row_set]; assumption)) only [W_block, P3, ↓reduceIte, reduceAdd, reduceEqDiff, reduceCtorEq, initFr, reduceLT, clsA, reduceLeDiff, reduceMul, reduceSub, reduceIte]
        refine hM2 _ _ ⟨bA, xa, xb, wT', wK, _, iK, sv, sent, _, _, _, _, _, _, _, _, _, _, _, _, _, _, _, _, _, _, _, _, _, _, _, _, _, _, _, _, _, _, _, _, _, (j2.up (by omega)).wireT w3 c3 f3 (fun z hz => ?_) (by simp; omega), rfl⟩
        rcases List.mem_append.1 hz with hz | hz
        · exact j2.oT z hz
        · simp only [List.mem_singleton] at hz; subst hz
          exact j2.oT it hmem
      · refine callP (t57no hT (by have := j2.lT; omega) hno) ?_
        simp (disch := first | assumption | omega | (simp only [LN] <;> omega) | (simp (disch := first | assumption | omega | (simp only [LN] <;> omega)) only [row_alloc, row_set]; assumption)) only [W_block, P3, ↓reduceIte, reduceAdd, reduceEqDiff, reduceCtorEq, initFr, reduceLT, clsA, reduceLeDiff, reduceMul, reduceSub, reduceIte]
        exact hM2 _ _ ⟨bA, xa, xb, wT, wK, iT, iK, sv, sent, _, _, _, _, _, _, _, _, _, _, _, _, _, _, _, _, _, _, _, _, _, _, _, _, _, _, _, _, _, _, _, _, _, j2.up (by omega), rfl⟩
    simp only [List.set_cons_succ, List.set_cons_zero]
    simp (disch := first | assumption | omega | (simp only [LN] <;> omega) | (simp (disch := first | assumption | omega | (simp only [LN] <;> omega)) only [row_alloc, row_set]; assumption)) only [W_block, P3, ↓reduceIte, reduceAdd, reduceEqDiff, reduceCtorEq, initFr, reduceLT, clsA, reduceLeDiff, reduceMul, reduceSub, reduceIte, g9, cCg c]
    by_cases hno : c.I < 0 ∨ (iT.length : Int) ≤ c.I
    · refine callP (t55no hT (by have := j2.lT; omega) hno) ?_
      simp (disch := first | assumption | omega | (simp only [LN] <;> omega) | (simp (disch := first | assumption | omega | (simp only [LN] <;> omega)) only [row_alloc, row_set]; assumption)) only [W_block, P3, ↓reduceIte, reduceAdd, reduceEqDiff, reduceCtorEq, initFr, reduceLT, clsA, reduceLeDiff, reduceMul, reduceSub, reduceIte]
      exact hM2 _ _ ⟨bA, xa, xb, wT, wK, iT, iK, sv, sent, _, _, _, _, _, _, _, _, _, _, _, _, _, _, _, _, _, _, _, _, _, _, _, _, _, _, _, _, _, _, _, _, _, j2.up (by omega), rfl⟩
    · obtain ⟨m, hmI⟩ : ∃ m : Nat, c.I = m := ⟨c.I.toNat, by omega⟩
      have hml : m < iT.length := by omega
      obtain ⟨it, hit⟩ : ∃ it, iT[m]? = some it := ⟨_, List.getElem?_eq_getElem hml⟩
      have hmem := List.mem_of_getElem? hit
      rw [hmI]
      refine callK (t55 hT (by have := j2.lT; omega) hit) ?_
      rintro _ K3 ⟨rfl, wT', w3, a3, c3, hb3⟩
      have j3 := (j2.up (j := i + 1) (by omega)).wireT w3 c3 (take_f hb3) (fun it hit => j2.oT it (List.mem_of_mem_eraseIdx hit)) (by rw [List.length_eraseIdx_of_lt hml]; have := j2.lT; omega)
      have gB3 := j3.s.at_ 1 rfl
      simp only [thE, thB] at gB3
      have hlen := (j2.oT it hmem).len
      obtain ⟨q, k, B, e, o1, o2, o3, o4, o5⟩ := j2.oT it hmem
      have hokL : okLi ⟨1, 2, (q : Int) + 1, k, B⟩ = true := okLi_iff.2 ⟨⟨by simp only; omega, o4⟩, ⟨o1, o2⟩, o3⟩
      have hge := ge_of (m := ⟨1, 2, (q : Int) + 1, k, B⟩) ⟨by show (1 : Nat) < 256; decide, by show (2 : Nat) < 256; decide⟩ hokL
      rw [← e] at hge
      have hql := (List.getElem?_eq_some_iff.1 o5).1
      simp (disch := first | assumption | omega | (simp only [LN] <;> omega) | (simp (disch := first | assumption | omega | (simp only [LN] <;> omega)) only [row_alloc, row_set]; assumption)) only [W_block, P3, ↓reduceIte, reduceAdd, reduceEqDiff, reduceCtorEq, initFr, reduceLT, clsA, reduceLeDiff, reduceMul, reduceSub, reduceIte]
      by_cases hq : (q : Int) + 1 ≤ xb.k
      · have hh : hE xb (geLi it.2) = 180 := by rw [hge, hE1 (by simp [fb2]) (by simp [fb1]), if_pos hq]
        refine callP (t37no gB3 a3.bq (by omega) (by rw [hh]; decide)) ?_
        rw [hh]
        simp (disch := first | assumption | omega | (simp only [LN] <;> omega) | (simp (disch := first | assumption | omega | (simp only [LN] <;> omega)) only [row_alloc, row_set]; assumption)) only [W_block, P3, ↓reduceIte, reduceAdd, reduceEqDiff, reduceCtorEq, initFr, reduceLT, clsA, reduceLeDiff, reduceMul, reduceSub, reduceIte]
        exact hM2 _ _ ⟨bA, xa, xb, wT', wK, _, iK, sv, sent, _, _, _, _, _, _, _, _, _, _, _, _, _, _, _, _, _, _, _, _, _, _, _, _, _, _, _, _, _, _, _, _, _, j3, rfl⟩
      · have hh : hE xb (some ⟨1, 2, (q : Int) + 1, k, B⟩) = 0 := by rw [hE1 (by simp [fb2]) (by simp [fb1]), if_neg hq]
        refine callK (t37 j3.wb gB3 a3.bq (by omega) hge hh) ?_
        rintro _ K4 ⟨vb, rfl, g4, c4, f4, a4⟩
        have j4 := j3.hearB c4 g4 hokL (by show xb.k < (q : Int) + 1; omega)
        obtain ⟨xb2, hxb2⟩ : ∃ y, y = hX xb ⟨1, 2, (q : Int) + 1, k, B⟩ := ⟨_, rfl⟩
        have hk2 : xb2.k = (q : Int) + 1 := by rw [hxb2]; rfl
        rw [← hxb2] at g4 j4
        have hS4 := j4.s.at_ 4 rfl
        simp only [thA] at hS4
        have hx : (sent.map strB)[q]? = some (strB B) := by rw [List.getElem?_map, o5]; rfl
        obtain ⟨hnnS, hrowS⟩ := Sl.at1 hS4.wr hx
        obtain ⟨e1s, e2s⟩ := AP.is' hS4
        have a4' : AP K4 5 1 vb B.length (cellsOf B) := a4
        have w6 : IntKind.i64.wrap (xb2.k - 1) = (q : Int) := by rw [hk2, wrap_i64 (by omega) (by omega)]; omega
        have kbs := tbk a4'.bs (Keeps.refl K4)
        simp (disch := first | assumption | omega | (simp only [LN] <;> omega) | (simp (disch := first | assumption | omega | (simp only [LN] <;> omega)) only [row_alloc, row_set]; assumption)) only [W_block, P3, ↓reduceIte, reduceAdd, reduceEqDiff, reduceCtorEq, initFr, reduceLT, clsA, reduceLeDiff, reduceMul, reduceSub, reduceIte]
        refine callP (t40 g4) ?_
        simp (disch := first | assumption | omega | (simp only [LN] <;> omega) | (simp (disch := first | assumption | omega | (simp only [LN] <;> omega)) only [row_alloc, row_set]; assumption)) only [W_block, P3, ↓reduceIte, reduceAdd, reduceEqDiff, reduceCtorEq, initFr, reduceLT, clsA, reduceLeDiff, reduceMul, reduceSub, reduceIte, hk2]
        refine callP (t40 g4) ?_
        simp (disch := first | assumption | omega | (simp only [LN] <;> omega) | (simp (disch := first | assumption | omega | (simp only [LN] <;> omega)) only [row_alloc, row_set]; assumption)) only [W_block, P3, ↓reduceIte, reduceAdd, reduceEqDiff, reduceCtorEq, initFr, reduceLT, clsA, reduceLeDiff, reduceMul, reduceSub, reduceIte, hk2, e2s, a_b2sB a4'.bs]
        refine callP (t40 g4) ?_
        simp (disch := first | assumption | omega | (simp only [LN] <;> omega) | (simp (disch := first | assumption | omega | (simp only [LN] <;> omega)) only [row_alloc, row_set]; assumption)) only [W_block, P3, ↓reduceIte, reduceAdd, reduceEqDiff, reduceCtorEq, initFr, reduceLT, clsA, reduceLeDiff, reduceMul, reduceSub, reduceIte, touch_b2s, kbs, w6, hrowS, strB, bytes_eq]
        refine ⟨by simp, ?_⟩
        refine callP (t40 g4) ?_
        simp (disch := first | assumption | omega | (simp only [LN] <;> omega) | (simp (disch := first | assumption | omega | (simp only [LN] <;> omega)) only [row_alloc, row_set]; assumption)) only [W_block, P3, ↓reduceIte, reduceAdd, reduceEqDiff, reduceCtorEq, initFr, reduceLT, clsA, reduceLeDiff, reduceMul, reduceSub, reduceIte]
        exact hM2 _ _ ⟨bA, xa, xb2, wT', wK, _, iK, sv, sent, _, _, _, _, _, _, _, _, _, _, _, _, _, _, _, _, _, _, _, _, _, _, _, _, _, _, _, _, _, _, _, _, _, j4, rfl⟩
  exact ⟨_, _, a.gc0 k (.inr (.bool _)), rfl, rfl⟩
theorem lawOnce : ∀ H args, NoOwn H → AVs Go.Proofs.Try.prog H.get [76] args → ∃ H', ARun Go.Proofs.Try.prog 0 9 args H (.bool true) H' := by
  intro H args _ h
  match args, h with
  | [v0], ⟨h0, _⟩ =>
    obtain ⟨cs, hs, hc⟩ := AVcalls h0
    obtain ⟨w, H', a, rfl, rfl⟩ := t9 hs hc
    exact ⟨_, a⟩
end Go.AM.Fd
