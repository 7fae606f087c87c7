/- Part of the proof. -/
import Derived.Test.YtfjdehnnfljjfaaGreatGWP05
set_option linter.unusedSimpArgs false
set_option linter.unusedVariables false
set_option linter.unusedSimpArgs false
set_option linter.unusedVariables false
namespace Go.AM
open Nat (reduceAdd reduceEqDiff reduceLT reduceLeDiff reduceMul reduceSub)
theorem WO.appO {P : Program} {ng : Nat} {H : AHeap} {KF : List Value → AHeap → Prop} {fr tm : List Value} {tr : List TE} {e esz : Nat} {v : Value} {n : Nat} {c : List Value} {d : D} {un : List Nat} {r : List (AOper × List Nat)} {bytes : Nat} {x : Value} {m : Nat} {news : List Value} (h : WO H e esz v n c) (hx : ∃ a k, x = .slice a m k) (h1 : elemsA H esz x = some news) (hm : news.length = m * esz)
    (hs : (n + m) * bytes ≤ 140737488355328 ∧ n + m ≤ 140737488355328)
    (hk : ∀ v' H', WO H' e esz v' (n + m) (c ++ news) → Chg (blkL v) H H' → (blk v' = blk v ∨ blk v' = some H.n) → oblA 3 [] H H' tr un ∧ RD P ng r (d.frame v' fr) (d.temps v' tm) H' (tr ++ [⟨3, [], H, H'⟩]) KF) : goD P ng (.app e esz bytes v x) (asem (.app e esz bytes v x) H) d un r fr tm H tr KF := by
  obtain ⟨v', H', e1, e2, e3, e4⟩ := h.app (bytes := bytes) hm hs
  obtain ⟨a, k, rfl⟩ := hx
  obtain ⟨q1, q2⟩ := hk v' H' e2 e3 e4
  exact ⟨v', H', by simp only [asem, h1]; exact e1, q1, q2⟩
end Go.AM
namespace Go.AM.Fd
open Nat (reduceAdd reduceEqDiff reduceLT reduceLeDiff reduceMul reduceSub)
open Go.Proofs Go.AM.F
section
variable {A : List Th} {K X : AHeap} {b sb : Nat} {v rv : Value} {ab : Option Nat} {items : List (Value × List UInt8)} {D : Dk} {t f : Nat} {rs : List (List UInt8)}
theorem OS.lt {L : Lg} (h : OS A K X b sb v ab rv items D L) {th : Th} (hth : th ∈ voT K.n (.pointer none) (.int .i64 0) ++ (lgT (K.n + 2) b rv items L ++ dkT b sb v ab D)) {z : Nat} (hz : z ∈ th.F) : z < X.n := h.u.sep.lt (mem_fp.2 ⟨th, hth, hz⟩)
theorem OS.add (h : OS A K X b sb v ab rv items D ⟨t, f, rs, 0⟩) {y : Value} {l : List UInt8} {X1 X2 : AHeap} {rv' : Value} (k1 : Keeps X X1) (hy : BS X1 y l) (hlt : ∀ z ∈ blkL y, X.n ≤ z ∧ z < X1.n) {X3 : AHeap} (k3 : Keeps X1 X3)
    (c : Chg (blkL rv) X3 X2) (hwo : WO X2 38 1 rv' (items.length + 1) (items.map (·.1) ++ [y])) (hbl : blk rv' = blk rv ∨ ∃ q, blk rv' = some q ∧ X1.n ≤ q) :
    OS A K (X2.set (K.n + 2) (.cells true false 5 (lgC b rv' ⟨t, f, rs ++ [l], 0⟩) 116)) b sb v ab rv' (items ++ [(y, l)]) D ⟨t, f, rs ++ [l], 0⟩ := by
  have h1 := h.u.keeps' (k1.trans k3)
  have hn := k1.n
  have hn3 := k3.n
  have hKX := h.u.chg.n
  have inr : ∀ z ∈ blkL rv, z < X.n := fun z hz => h.lt (th := thO 38 1 rv items.length (items.map (·.1))) (by simp [lgT]) hz
  have s1 := Upd.next (l := [_, _, _, _]) (t' := thO 38 1 rv' (items.length + 1) (items.map (·.1) ++ [y])) h1 c hwo (fun z hz => by
    rcases hbl with h5 | ⟨q, h5, h6⟩
    · exact .inl (by show z ∈ blkL rv; rw [mem_blkL, ← h5]; exact mem_blkL.1 hz)
    · have : z = q := by have := mem_blkL.1 hz; rw [h5] at this; cases this; rfl
      subst this
      refine .inr (.inr ⟨by omega, fun x hx hx2 => ?_⟩)
      have : z < X.n := h.lt (th := x) (by
        simp only [voT, lgT, List.cons_append, List.nil_append, List.mem_cons] at hx ⊢
        rcases hx with hx | hx | hx | hx | hx
        · exact .inl hx
        · exact .inr (.inl hx)
        · exact .inr (.inr (.inl hx))
        · exact .inr (.inr (.inr (.inl hx)))
        · exact .inr (.inr (.inr (.inr (.inr (List.mem_cons.1 hx)))))) hx2
      omega)
  have s2 := Upd.next (l := [_, _, _, _, _]) (t' := thI (items ++ [(y, l)])) s1 (Chg.refl _ X2) (by
    intro z hz
    rcases List.mem_append.1 hz with hz | hz
    · exact (s1.sep.get 5 rfl : (thI items).P X2) z hz
    · simp only [List.mem_singleton] at hz
      subst hz
      refine ⟨(hy.keeps k3).chg c fun q hq hq2 => ?_, fun q hq => ?_⟩
      · have := hlt q hq; have := inr q hq2; omega
      · have := hlt q hq; have := c.n; omega) (fun z hz => by
    simp only [thI, List.flatMap_append, List.mem_append] at hz
    rcases hz with hz | hz
    · exact .inl hz
    · have hzy : z ∈ blkL y := by simpa using hz
      have h7 := hlt z hzy
      refine .inr (.inr ⟨by omega, fun x hx hx2 => ?_⟩)
      simp only [List.cons_append, List.nil_append, List.mem_cons] at hx
      by_cases he : x = thO 38 1 rv' (items.length + 1) (items.map (·.1) ++ [y])
      · subst he
        have hx3 : z ∈ blkL rv' := hx2
        rcases hbl with h5 | ⟨q, h5, h6⟩
        · have := inr z (by rw [mem_blkL, ← h5]; exact mem_blkL.1 hx3); omega
        · have : z = q := by have := mem_blkL.1 hx3; rw [h5] at this; cases this; rfl
          omega
      · have : z < X.n := h.lt (th := x) (by
          simp only [voT, lgT, List.cons_append, List.nil_append, List.mem_cons] at hx ⊢
          rcases hx with hx | hx | hx | hx | hx | hx
          · exact .inl hx
          · exact .inr (.inl hx)
          · exact .inr (.inr (.inl hx))
          · exact .inr (.inr (.inr (.inl hx)))
          · exact absurd hx he
          · exact .inr (.inr (.inr (.inr (.inr (.inr hx)))))) hx2
        omega)
  have g := s2.sep.get 3 rfl
  have s3 := Upd.next (l := [_, _, _]) (t' := thB (K.n + 2) (.cells true false 5 (lgC b rv' ⟨t, f, rs ++ [l], 0⟩) 116)) s2 (Chg.set X2 (AHeap.get_lt g) _) (AHeap.get_set_same g _) (by simp [thB])
  refine ⟨?_, h.ok, h.n3, by rw [List.map_append, h.it]; rfl⟩
  simp only [lgT, List.length_append, List.length_cons, List.length_nil, List.map_append, List.map_cons, List.map_nil]
  exact s3
theorem recsW_s (D : Dk) (f n : Nat) (acc : List (List UInt8)) : recsW D f (n + 1) acc = if (recW (rdB D (atW D (f + acc.length)))).1 = f + acc.length then recsW D f n (acc ++ [(recW (rdB D (atW D (f + acc.length)))).2]) else acc := rfl
theorem recsW_0 (D : Dk) (f : Nat) (acc : List (List UInt8)) : recsW D f 0 acc = acc := rfl
theorem recsW_len (D : Dk) (f : Nat) : ∀ n acc, (recsW D f n acc).length ≤ n + acc.length
  | 0, acc => by simp [recsW]
  | n + 1, acc => by
    unfold recsW
    split
    · have := recsW_len D f n (acc ++ [(recW (rdB D (atW D (f + acc.length)))).2]); simp at this; omega
    · omega
set_option maxRecDepth 20000 in
theorem openRecs {Q : AQ} {x4 x5 x6 x7 x8 x9 x10 x11 x12 x13 x14 x15 x16 x17 x18 x19 x20 x21 x22 x23 x24 x25 x26 x27 x28 : Value} (h : OS A K X b sb v ab rv [] D ⟨t, f, [], 0⟩) (ht : t ≤ 9000000000000000000) (hf : 1 ≤ f ∧ f ≤ 9000000000000000000) (ho : D.off = false)
    (hq2 : ∀ fr H2, (∃ w, resO f13.res fr H2 = some w ∧ OpenR A K H2 b sb (open2 D t f) w) → Q .ret fr H2) :
    W Go.Proofs.Tryz.prog 0 (cpost 6 f13.body) Q [ptr b 0, ptr K.n 0, ptr (K.n + 1) 0, ptr (K.n + 3) 0, x4, x5, x6, x7, x8, x9, x10, x11, x12, x13, x14, x15, x16, x17, x18, x19, x20, x21, x22, x23, x24, x25, x26, x27, x28] X := by
  have n4 := h.ok.n
  have n3 := h.n3
  have hlok : ∀ rs : List (List UInt8), rs.length ≤ D.bl.length - 2 → (∀ s ∈ rs, s.length ≤ 232) → (⟨t, f, rs, 0⟩ : Lg).ok := fun rs h1 h2 => ⟨ht, hf, by show rs.length ≤ _; omega, h2⟩
  refine W_part 1 (fun fr Y => ∃ y22 y23 y24 y25 y10 y11 rv' items', fr = [ptr b 0, ptr K.n 0, ptr (K.n + 1) 0, ptr (K.n + 3) 0, x4, x5, x6, x7, x8, x9, y10, y11, x12, x13, x14, x15, x16, x17, x18, x19, x20, x21, y22, y23, y24, y25, x26, x27, x28] ∧ OS A K Y b sb v ab rv' items' D ⟨t, f, recsW D f (D.bl.length - 2) [], 0⟩ ∧ (⟨t, f, recsW D f (D.bl.length - 2) [], 0⟩ : Lg).ok) (by kernel_rfl) ?_ ?_
  · intro Q' hk hex hret
    have g3 := h.g3
    simp (disch := first | assumption | omega | (simp only [LN] <;> omega) | (simp (disch := first | assumption | omega | (simp only [LN] <;> omega)) only [row_alloc, row_set]; assumption)) only [ f13, P3, ↓reduceIte, reduceAdd, reduceEqDiff, reduceCtorEq, initFr, reduceLT, clsA, reduceLeDiff, reduceMul, reduceSub, reduceIte, cpre, cpost, g3]
    refine callK (t29 (h.lg (hlok [] (by simp) (by simp)))) ?_
    rintro _ X0 ⟨rfl, hX⟩
    rw [hX]
    simp (disch := first | assumption | omega | (simp only [LN] <;> omega) | (simp (disch := first | assumption | omega | (simp only [LN] <;> omega)) only [row_alloc, row_set]; assumption)) only [ P3, ↓reduceIte, reduceAdd, reduceEqDiff, reduceCtorEq, initFr, reduceLT, clsA, reduceLeDiff, reduceMul, reduceSub, reduceIte]
    rw [W_block]
    refine W_loop2 (fun k fr Y => ∃ i y24 y25 y10 y11 rv' items' rs', fr = [ptr b 0, ptr K.n 0, ptr (K.n + 1) 0, ptr (K.n + 3) 0, x4, x5, x6, x7, x8, x9, y10, y11, x12, x13, x14, x15, x16, x17, x18, x19, x20, x21, .int .i64 ((D.bl.length - 2 : Nat) : Nat), .int .i64 (i : Nat), y24, y25, x26, x27, x28] ∧ OS A K Y b sb v ab rv' items' D ⟨t, f, rs', 0⟩ ∧ rs'.length = i ∧ (∀ s ∈ rs', s.length ≤ 232) ∧ i ≤ D.bl.length - 2 ∧ k = D.bl.length - 2 - i ∧ recsW D f (D.bl.length - 2) [] = recsW D f (D.bl.length - 2 - i) rs') (D.bl.length - 2) ⟨0, _, _, _, _, _, _, [], rfl, h, rfl, by simp, by omega, by omega, rfl⟩ ?_
    rintro Q2 k fr Y ⟨i, y24, y25, y10, y11, rv', items', rs', rfl, hY, hlen, hle, hi, rfl, hrec⟩ hnx hx hret2
    have lok := hlok rs' (by omega) hle
    have hL := hY.lg lok
    have gY := hY.g3
    by_cases hlt : i < D.bl.length - 2
    · have d1 : (i : Int) < ((D.bl.length - 2 : Nat) : Int) := by omega
      have hw : IntKind.i64.wrap ((i : Int) + 1) = ((i + 1 : Nat) : Int) := by rw [wrap_i64 (by omega) (by omega)]; simp
      obtain ⟨j, hj⟩ : ∃ j, D.bl.length - 2 - i = j + 1 := ⟨D.bl.length - 2 - i - 1, by omega⟩
      have hnext : (⟨t, f, rs', 0⟩ : Lg).next = f + rs'.length := rfl
      simp (disch := first | assumption | omega | (simp only [LN] <;> omega) | (simp (disch := first | assumption | omega | (simp only [LN] <;> omega)) only [row_alloc, row_set]; assumption)) only [W_block, P3, ↓reduceIte, reduceAdd, reduceEqDiff, reduceCtorEq, initFr, reduceLT, clsA, reduceLeDiff, reduceMul, reduceSub, reduceIte, gY]
      refine callK (t28 hL) ?_
      rintro _ X1 ⟨rfl, hX1⟩
      rw [hX1, hnext]
      simp (disch := first | assumption | omega | (simp only [LN] <;> omega) | (simp (disch := first | assumption | omega | (simp only [LN] <;> omega)) only [row_alloc, row_set]; assumption)) only [W_block, P3, ↓reduceIte, reduceAdd, reduceEqDiff, reduceCtorEq, initFr, reduceLT, clsA, reduceLeDiff, reduceMul, reduceSub, reduceIte]
      refine ⟨by simp, ?_⟩
      refine callK (t71 hL ho (f + rs'.length) (by omega) (by omega)) ?_
      rintro w K1 ⟨k1, hr⟩
      rw [hj, recsW_s] at hrec
      have hj2 : j = D.bl.length - 2 - (i + 1) := by omega
      rcases hr with ⟨c1, y, rfl, iy, by_, fy, ly⟩ | ⟨c1, rfl⟩
      · have oy := one_isS iy
        have cy := cells_isS iy
        have oo : [Value.int .i64 ((recW (rdB D (atW D (f + rs'.length)))).1 : Nat), y].all Value.oneCell' = true := by simp only [List.all_cons, oy]; rfl
        obtain ⟨K2, hK2⟩ : ∃ Z, Z = K1.alloc (.cells true false 2 [.int .i64 ((recW (rdB D (atW D (f + rs'.length)))).1 : Nat), y] 124) := ⟨_, rfl⟩
        have k2 : Keeps K1 K2 := by rw [hK2]; exact (Keeps.refl K1).alloc _
        have gr : K2.get K1.n = some (.cells true false 2 [.int .i64 ((recW (rdB D (atW D (f + rs'.length)))).1 : Nat), y] 124) := by rw [hK2]; exact AHeap.get_alloc_new K1 _
        have n2 : K2.n = K1.n + 1 := by rw [hK2]; rfl
        have h2 := (hY.keeps k1).keeps k2
        have g2 := h2.g3
        simp (disch := first | assumption | omega | (simp only [LN] <;> omega) | (simp (disch := first | assumption | omega | (simp only [LN] <;> omega)) only [row_alloc, row_set]; assumption)) only [W_block, P3, ↓reduceIte, reduceAdd, reduceEqDiff, reduceCtorEq, initFr, reduceLT, clsA, reduceLeDiff, reduceMul, reduceSub, reduceIte, oo]
        rw [← hK2]
        simp (disch := first | assumption | omega | (simp only [LN] <;> omega) | (simp (disch := first | assumption | omega | (simp only [LN] <;> omega)) only [row_alloc, row_set]; assumption)) only [W_block, P3, ↓reduceIte, reduceAdd, reduceEqDiff, reduceCtorEq, initFr, reduceLT, clsA, reduceLeDiff, reduceMul, reduceSub, reduceIte, gr, g2]
        refine callK (t28 (h2.lg lok)) ?_
        rintro _ X2 ⟨rfl, hX2⟩
        rw [hX2, hnext]
        by_cases hk1 : (recW (rdB D (atW D (f + rs'.length)))).1 = f + rs'.length
        · have d2 : ((((recW (rdB D (atW D (f + rs'.length)))).1 : Nat) : Int) != ((f + rs'.length : Nat) : Int)) = false := bnei_no (by rw [hk1])
          rw [if_pos hk1] at hrec
          have hcY : ∀ z ∈ blkL y, Y.n ≤ z ∧ z < K1.n := fun z hz => ⟨fy z (mem_blkL.1 hz), ly z (mem_blkL.1 hz)⟩
          have gl := h2.gl
          have hfy : fillA [.slice none 0 0] [(0, 1, y)] = some [y] := by simp only [fill_cons, cy]; rfl
          have oy1 : [y].all Value.oneCell' = true := by simp only [List.all_cons, oy]; rfl
          have hil := h2.lg lok |>.il
          simp (disch := first | assumption | omega | (simp only [LN] <;> omega) | (simp (disch := first | assumption | omega | (simp only [LN] <;> omega)) only [row_alloc, row_set]; assumption)) only [W_block, P3, ↓reduceIte, reduceAdd, reduceEqDiff, reduceCtorEq, initFr, reduceLT, clsA, reduceLeDiff, reduceMul, reduceSub, reduceIte, d2, gr, g2]
          refine ⟨by simp, ?_⟩
          simp (disch := first | assumption | omega | (simp only [LN] <;> omega) | (simp (disch := first | assumption | omega | (simp only [LN] <;> omega)) only [row_alloc, row_set]; assumption)) only [W_block, P3, ↓reduceIte, reduceAdd, reduceEqDiff, reduceCtorEq, initFr, reduceLT, clsA, reduceLeDiff, reduceMul, reduceSub, reduceIte, gl, gr, hfy, oy1]
          have kk3 := (Keeps.refl K2).alloc (.cells true false 1 [y] 38)
          refine WO.appO (bytes := 24) ((h2.lg lok).w.keeps kk3) ⟨_, _, rfl⟩ (elems_new (n := 1) rfl rfl) rfl (by rw [hil]; show (rs'.length + 1) * 24 ≤ 140737488355328 ∧ rs'.length + 1 ≤ 140737488355328; omega) ?_
          rintro rv2 K4 hwo hch hbl
          have n3' : (K2.alloc (.cells true false 1 [y] 38)).n = K2.n + 1 := rfl
          generalize K2.alloc (.cells true false 1 [y] 38) = X3 at *
          have inr : ∀ z ∈ blkL rv', z < Y.n := fun z hz => hY.lt (th := thO 38 1 rv' items'.length (items'.map (·.1))) (by simp [lgT]) hz
          have hh := OS.add hY (k1) by_ hcY (k2.trans kk3) hch hwo (by
            rcases hbl with h5 | h5
            · exact .inl h5
            · exact .inr ⟨_, h5, by omega⟩)
          have nlb : K.n + 2 ∉ blkL rv' := fun hz => hY.u.sep.apart 3 4 (by omega) rfl rfl _ (by simp [thB]) hz
          have g4 := hch.at_ (kk3.at_ gl) nlb
          have orv := hwo.one
          have nl3 : K.n + 3 ∉ blkL rv' := fun hz => hY.u.sep.apart 2 4 (by omega) rfl rfl _ (by simp [thB]) hz
          have l3 := AHeap.get_lt (kk3.at_ g2)
          refine ⟨⟨by simp [keepsB]; exact hch.get _ l3 nl3, trivial⟩, ?_⟩
          simp (disch := first | assumption | omega | (simp only [LN] <;> omega) | (simp (disch := first | assumption | omega | (simp only [LN] <;> omega)) only [row_alloc, row_set]; assumption)) only [W_block, P3, ↓reduceIte, reduceAdd, reduceEqDiff, reduceCtorEq, initFr, reduceLT, clsA, reduceLeDiff, reduceMul, reduceSub, reduceIte, g4, orv]
          rw [hw]
          exact hnx _ _ _ ⟨i + 1, _, _, _, _, rv2, items' ++ [(y, (recW (rdB D (atW D (f + rs'.length)))).2)], rs' ++ [(recW (rdB D (atW D (f + rs'.length)))).2], rfl, hh, by simp [hlen], fun s hs => by
            rcases List.mem_append.1 hs with hs | hs
            · exact hle s hs
            · rw [List.mem_singleton.1 hs]; exact (recW_le _).2, by omega, rfl, by rw [hrec, hj2]⟩ (by omega)
        · have d2 : ((((recW (rdB D (atW D (f + rs'.length)))).1 : Nat) : Int) != ((f + rs'.length : Nat) : Int)) = true := bnei_yes (by omega)
          rw [if_neg hk1] at hrec
          rw [hrec] at hk
          simp (disch := first | assumption | omega | (simp only [LN] <;> omega) | (simp (disch := first | assumption | omega | (simp only [LN] <;> omega)) only [row_alloc, row_set]; assumption)) only [W_block, P3, ↓reduceIte, reduceAdd, reduceEqDiff, reduceCtorEq, initFr, reduceLT, clsA, reduceLeDiff, reduceMul, reduceSub, reduceIte, d2]
          refine ⟨by simp, ?_⟩
          refine hx 4 _ _ ?_
          exact hk _ _ ⟨_, _, _, _, _, _, _, _, rfl, h2, lok⟩
      · have hc0 : ¬ (recW (rdB D (atW D (f + rs'.length)))).1 = f + rs'.length := by omega
        rw [if_neg hc0] at hrec
        rw [hrec] at hk
        obtain ⟨K2, hK2⟩ : ∃ Z, Z = K1.alloc (.cells true false 2 [.int .i64 0, .slice none 0 0] 124) := ⟨_, rfl⟩
        have k2 : Keeps K1 K2 := by rw [hK2]; exact (Keeps.refl K1).alloc _
        have h2 := (hY.keeps k1).keeps k2
        simp (disch := first | assumption | omega | (simp only [LN] <;> omega) | (simp (disch := first | assumption | omega | (simp only [LN] <;> omega)) only [row_alloc, row_set]; assumption)) only [W_block, P3, ↓reduceIte, reduceAdd, reduceEqDiff, reduceCtorEq, initFr, reduceLT, clsA, reduceLeDiff, reduceMul, reduceSub, reduceIte]
        rw [← hK2]
        refine hx 4 _ _ ?_
        exact hk _ _ ⟨_, _, _, _, _, _, _, _, rfl, h2, lok⟩
    · have d1 : ¬ (i : Int) < ((D.bl.length - 2 : Nat) : Int) := by omega
      have e : i = D.bl.length - 2 := by omega
      subst e
      rw [Nat.sub_self, recsW_0] at hrec
      rw [hrec] at hk
      simp (disch := first | assumption | omega | (simp only [LN] <;> omega) | (simp (disch := first | assumption | omega | (simp only [LN] <;> omega)) only [row_alloc, row_set]; assumption)) only [W_block, P3, ↓reduceIte, reduceAdd, reduceEqDiff, reduceCtorEq, initFr, reduceLT, clsA, reduceLeDiff, reduceMul, reduceSub, reduceIte]
      refine hx 4 _ _ ?_
      exact hk _ _ ⟨_, _, _, _, _, _, _, _, rfl, hY, lok⟩
  · rintro fr Y ⟨y22, y23, y24, y25, y10, y11, rv', items', rfl, hY, lok⟩
    exact openRing hY lok ho hq2
end
end Go.AM.Fd

set_option linter.unusedSimpArgs false
set_option linter.unusedVariables false
namespace Go.AM.Fd
open Nat (reduceAdd reduceEqDiff reduceLT reduceLeDiff reduceMul reduceSub)
open Go.Proofs Go.AM.F
theorem cB_le (c : UInt8) : ∀ l : List UInt8, cB c l ≤ l.length
  | [] => Nat.le_refl _
  | x :: l => by unfold cB; have := cB_le c l; split <;> simp <;> omega
theorem cB_all (c : UInt8) : ∀ l : List UInt8, cB c l = l.length ↔ (l.all fun x => x == c) = true
  | [] => by simp [cB]
  | x :: l => by
    have h1 := cB_le c l
    have h2 := cB_all c l
    unfold cB
    by_cases h : x = c
    · rw [if_pos h]; simp only [List.length_cons, List.all_cons, h, beq_self_eq_true, Bool.true_and]; rw [← h2]; omega
    · rw [if_neg h]
      have : (x == c) = false := by simpa using h
      simp only [List.length_cons, List.all_cons, this, Bool.false_and]
      constructor
      · intro h3; omega
      · intro h3; cases h3
def hdW (D : Dk) : Nat → Nat × Nat
  | 0 => (0, 0)
  | i + 1 => if (hdW D i).1 < (headW (rdB D i)).1 then headW (rdB D i) else hdW D i
def flW (D : Dk) : Nat → Bool
  | 0 => true
  | i + 1 => flW D i && zeroW (rdB D i)
theorem wlD_off {D : Dk} {i : Nat} {l : List UInt8} (h : (wlD D i l).2 = 0) : (wlD D i l).1.off = false := by
  unfold wlD at h ⊢
  by_cases h1 : (wrD D i l).2 = 0
  · rw [if_pos h1] at h ⊢
    unfold syD at h ⊢
    by_cases h2 : (wrD D i l).1.off = true
    · rw [if_pos h2] at h; cases h
    · rw [if_neg h2] at h ⊢
      by_cases h3 : (stepD (wrD D i l).1).2 = true
      · rw [if_pos h3] at h; cases h
      · rw [if_neg h3]
        show (stepD (wrD D i l).1).1.off = false
        unfold stepD at h3 ⊢
        split at h3 <;> simp_all
  · rw [if_neg h1] at h; exact absurd h h1
theorem hdW_2 (D : Dk) : hdW D 2 = headsW D := by
  have e : hdW D 1 = headW (rdB D 0) := by
    show (if 0 < (headW (rdB D 0)).1 then headW (rdB D 0) else (0, 0)) = _
    by_cases h : 0 < (headW (rdB D 0)).1
    · rw [if_pos h]
    · rw [if_neg h]
      unfold headW at h ⊢
      split
      · rfl
      · rename_i hh
        rw [if_neg hh] at h
        simp only [not_or] at hh
        exact absurd (Nat.pos_of_ne_zero hh.1) h
  show (if (hdW D 1).1 < (headW (rdB D 1)).1 then headW (rdB D 1) else hdW D 1) = _
  rw [e]; rfl
theorem flW_2 (D : Dk) : flW D 2 = (zeroW (rdB D 0) && zeroW (rdB D 1)) := by simp [flW]
theorem headW_le (l : List UInt8) : (headW l).1 ≤ 4611686018427387904 ∧ (headW l).2 ≤ 4611686018427387904 ∧ ((headW l).1 ≠ 0 → 1 ≤ (headW l).2) := by
  unfold headW
  split
  · simp
  · rename_i hh
    simp only [not_or] at hh
    exact ⟨longW_le _ _, longW_le _ _, fun _ => Nat.pos_of_ne_zero hh.2.1⟩
theorem hdW_le (D : Dk) : ∀ i, (hdW D i).1 ≤ 4611686018427387904 ∧ (hdW D i).2 ≤ 4611686018427387904 ∧ ((hdW D i).1 ≠ 0 → 1 ≤ (hdW D i).2)
  | 0 => by simp [hdW]
  | i + 1 => by
    unfold hdW
    split
    · exact headW_le _
    · exact hdW_le D i
section
variable {A : List Th} {K X : AHeap} {b sb : Nat} {v rv : Value} {ab : Option Nat} {items : List (Value × List UInt8)} {D : Dk} {L : Lg}
theorem OS.head (h : OS A K X b sb v ab rv items D L) (t f : Nat) : OS A K (X.set (K.n + 2) (.cells true false 5 (lgC b rv ⟨t, f, L.rs, L.br⟩) 116)) b sb v ab rv items D ⟨t, f, L.rs, L.br⟩ := by
  have g := h.gl
  have s3 := Upd.next (l := [_, _, _]) (t' := thB (K.n + 2) (.cells true false 5 (lgC b rv ⟨t, f, L.rs, L.br⟩) 116)) h.u (Chg.set X (AHeap.get_lt g) _) (AHeap.get_set_same g _) (by simp [thB])
  exact ⟨s3, h.ok, h.n3, h.it⟩
set_option maxRecDepth 20000 in
theorem openHead {Q : AQ} {x5 x6 x7 x8 x9 x10 x11 x12 x13 x14 x15 x16 x17 x18 x19 x20 x21 x22 x23 x24 x25 x26 x27 x28 : Value} (h : OS A K X b sb v ab (.slice none 0 0) [] D ⟨0, 0, [], 0⟩) (hs : D.st < 999999) (hm : D.op.length < 999999) (ho : D.off = false) (hn : 3 ≤ D.bl.length)
    (hq2 : ∀ fr H2, (∃ w, resO f13.res fr H2 = some w ∧ OpenR A K H2 b sb (openW D) w) → Q .ret fr H2) :
    W Go.Proofs.Tryz.prog 0 (cpost 4 f13.body) Q [ptr b 0, ptr K.n 0, ptr (K.n + 1) 0, ptr (K.n + 3) 0, .bool true, x5, x6, x7, x8, x9, x10, x11, x12, x13, x14, x15, x16, x17, x18, x19, x20, x21, x22, x23, x24, x25, x26, x27, x28] X := by
  refine W_part 1 (fun fr Y => ∃ y5 y6 y7 y8 y16 y17 y18, fr = [ptr b 0, ptr K.n 0, ptr (K.n + 1) 0, ptr (K.n + 3) 0, .bool (flW D 2), y5, y6, y7, y8, x9, x10, x11, x12, x13, x14, x15, y16, y17, y18, x19, x20, x21, x22, x23, x24, x25, x26, x27, x28] ∧ OS A K Y b sb v ab (.slice none 0 0) [] D ⟨(hdW D 2).1, (hdW D 2).2, [], 0⟩) (by kernel_rfl) ?_ ?_
  · intro Q' hk hex hret
    simp (disch := first | assumption | omega | (simp only [LN] <;> omega) | (simp (disch := first | assumption | omega | (simp only [LN] <;> omega)) only [row_alloc, row_set]; assumption)) only [ f13, P3, ↓reduceIte, reduceAdd, reduceEqDiff, reduceCtorEq, initFr, reduceLT, clsA, reduceLeDiff, reduceMul, reduceSub, reduceIte, cpre, cpost]
    rw [W_block]
    refine W_loop2 (fun k fr Y => ∃ i y5 y6 y7 y8 y17 y18, fr = [ptr b 0, ptr K.n 0, ptr (K.n + 1) 0, ptr (K.n + 3) 0, .bool (flW D i), y5, y6, y7, y8, x9, x10, x11, x12, x13, x14, x15, .int .i64 (i : Nat), y17, y18, x19, x20, x21, x22, x23, x24, x25, x26, x27, x28] ∧ OS A K Y b sb v ab (.slice none 0 0) [] D ⟨(hdW D i).1, (hdW D i).2, [], 0⟩ ∧ i ≤ 2 ∧ k = 2 - i) 2 ⟨0, _, _, _, _, _, _, rfl, h, by omega, rfl⟩ ?_
    rintro Q2 k fr Y ⟨i, y5, y6, y7, y8, y17, y18, rfl, hY, hi, rfl⟩ hnx hx hret2
    by_cases hlt : i < 2
    · have d1 : (i : Int) < 2 := by omega
      have hw : IntKind.i64.wrap ((i : Int) + 1) = ((i + 1 : Nat) : Int) := by rw [wrap_i64 (by omega) (by omega)]; simp
      have ha := askD_in ho (show i < D.bl.length by omega)
      simp (disch := first | assumption | omega | (simp only [LN] <;> omega) | (simp (disch := first | assumption | omega | (simp only [LN] <;> omega)) only [row_alloc, row_set]; assumption)) only [W_block, P3, ↓reduceIte, reduceAdd, reduceEqDiff, reduceCtorEq, initFr, reduceLT, clsA, reduceLeDiff, reduceMul, reduceSub, reduceIte]
      refine callK (t67 hY.d ((i : Nat) : Int)) ?_
      rintro _ K1 ⟨k1, x, rfl, -, hx2⟩
      obtain ⟨bx, vb, rfl, hvb⟩ := hx2 ha
      rw [ha]
      have tn : ((i : Nat) : Int).toNat = i := rfl
      rw [tn] at bx
      have l256 := hY.ok.rd (show i < D.bl.length by omega)
      have hfl : flW D (i + 1) = (flW D i && zeroW (rdB D i)) := rfl
      have hhd : hdW D (i + 1) = if (hdW D i).1 < (headW (rdB D i)).1 then headW (rdB D i) else hdW D i := rfl
      generalize rdB D i = l at *
      have hz : zeroW l = decide ((cB 0 l : Nat) = 256) := by
        have := cB_all 0 l
        rw [l256] at this
        unfold zeroW
        rw [Bool.eq_iff_iff, ← this]; simp
      have hzq : (((cB 0 l : Nat) : Int) == ((256 : Nat) : Int)) = zeroW l := by
        rw [hz]
        by_cases hc : cB 0 l = 256
        · rw [hc]; rfl
        · rw [decide_eq_false hc]; exact beqi_no (by omega)
      rcases hf : flW D i with _ | _
      · rw [hf, Bool.false_and] at hfl
        simp (disch := first | assumption | omega | (simp only [LN] <;> omega) | (simp (disch := first | assumption | omega | (simp only [LN] <;> omega)) only [row_alloc, row_set]; assumption)) only [W_block, P3, ↓reduceIte, reduceAdd, reduceEqDiff, reduceCtorEq, initFr, reduceLT, clsA, reduceLeDiff, reduceMul, reduceSub, reduceIte]
        obtain ⟨Z, hZ⟩ : ∃ Z, Z = K1 := ⟨_, rfl⟩
        have kz : Keeps K1 Z := by rw [hZ]; exact Keeps.refl _
        rw [← hZ]
        refine callK (t69 (bx.keeps kz) l256) ?_
        rintro w K2 ⟨k2, hs2⟩
        have h2 := ((hY.keeps k1).keeps kz).keeps k2
        rcases hs2 with ⟨c1, c2, rfl⟩ | ⟨c1, c2, y, rfl, by_, fy, ly⟩ | ⟨c1, c2, rfl⟩
        · obtain ⟨K3, hK3⟩ : ∃ Z, Z = K2.alloc (.cells true false 2 [.int .i64 ((headW l).1 : Nat), .int .i64 ((headW l).2 : Nat)] 114) := ⟨_, rfl⟩
          have k3 : Keeps K2 K3 := by rw [hK3]; exact (Keeps.refl K2).alloc _
          have gv : K3.get K2.n = some (.cells true false 2 [.int .i64 ((headW l).1 : Nat), .int .i64 ((headW l).2 : Nat)] 114) := by rw [hK3]; exact AHeap.get_alloc_new K2 _
          have h3 := h2.keeps k3
          have g3 := h3.g3
          have gl := h3.gl
          have oh : [Value.int .i64 ((headW l).1 : Nat), .int .i64 ((headW l).2 : Nat)].all Value.oneCell' = true := rfl
          by_cases hgt : (hdW D i).1 < (headW l).1
          · rw [if_pos hgt] at hhd
            have hh := h3.head (headW l).1 (headW l).2
            have d2 : (((hdW D i).1 : Nat) : Int) < (((headW l).1 : Nat) : Int) := by omega
            simp (disch := first | assumption | omega | (simp only [LN] <;> omega) | (simp (disch := first | assumption | omega | (simp only [LN] <;> omega)) only [row_alloc, row_set]; assumption)) only [W_block, P3, ↓reduceIte, reduceAdd, reduceEqDiff, reduceCtorEq, initFr, reduceLT, clsA, reduceLeDiff, reduceMul, reduceSub, reduceIte]
            rw [← hK3]
            simp (disch := first | assumption | omega | (simp only [LN] <;> omega) | (simp (disch := first | assumption | omega | (simp only [LN] <;> omega)) only [row_alloc, row_set]; assumption)) only [W_block, P3, ↓reduceIte, reduceAdd, reduceEqDiff, reduceCtorEq, initFr, reduceLT, clsA, reduceLeDiff, reduceMul, reduceSub, reduceIte, gv, g3, gl, oh]
            exact hnx _ _ _ ⟨i + 1, _, _, _, _, _, _, by (simp only [hfl, hw, hzq]; rfl), by rw [hhd]; exact hh, by omega, rfl⟩ (by omega)
          · rw [if_neg hgt] at hhd
            have d2 : ¬ (((hdW D i).1 : Nat) : Int) < (((headW l).1 : Nat) : Int) := by omega
            rw [← hhd] at h3
            simp (disch := first | assumption | omega | (simp only [LN] <;> omega) | (simp (disch := first | assumption | omega | (simp only [LN] <;> omega)) only [row_alloc, row_set]; assumption)) only [W_block, P3, ↓reduceIte, reduceAdd, reduceEqDiff, reduceCtorEq, initFr, reduceLT, clsA, reduceLeDiff, reduceMul, reduceSub, reduceIte]
            rw [← hK3]
            simp (disch := first | assumption | omega | (simp only [LN] <;> omega) | (simp (disch := first | assumption | omega | (simp only [LN] <;> omega)) only [row_alloc, row_set]; assumption)) only [W_block, P3, ↓reduceIte, reduceAdd, reduceEqDiff, reduceCtorEq, initFr, reduceLT, clsA, reduceLeDiff, reduceMul, reduceSub, reduceIte, gv, g3, gl]
            exact hnx _ _ _ ⟨i + 1, _, _, _, _, _, _, by (simp only [hfl, hw, hzq]; rfl), h3, by omega, rfl⟩ (by omega)
        · have hgt : ¬ (hdW D i).1 < (headW l).1 := by omega
          rw [if_neg hgt] at hhd
          rw [← hhd] at h2
          simp (disch := first | assumption | omega | (simp only [LN] <;> omega) | (simp (disch := first | assumption | omega | (simp only [LN] <;> omega)) only [row_alloc, row_set]; assumption)) only [W_block, P3, ↓reduceIte, reduceAdd, reduceEqDiff, reduceCtorEq, initFr, reduceLT, clsA, reduceLeDiff, reduceMul, reduceSub, reduceIte]
          exact hnx _ _ _ ⟨i + 1, _, _, _, _, _, _, by (simp only [hfl, hw, hzq]; rfl), h2.keeps ((Keeps.refl _).alloc _), by omega, rfl⟩ (by omega)
        · have hgt : ¬ (hdW D i).1 < (headW l).1 := by omega
          rw [if_neg hgt] at hhd
          rw [← hhd] at h2
          have an : asem (.assert 114 (.agg #[.int .i64 0, .int .i64 0]) true .nilIface) K2 = some (.tuple #[.agg #[.int .i64 0, .int .i64 0], .bool false], K2) := rfl
          simp (disch := first | assumption | omega | (simp only [LN] <;> omega) | (simp (disch := first | assumption | omega | (simp only [LN] <;> omega)) only [row_alloc, row_set]; assumption)) only [W_block, P3, ↓reduceIte, reduceAdd, reduceEqDiff, reduceCtorEq, initFr, reduceLT, clsA, reduceLeDiff, reduceMul, reduceSub, reduceIte, an]
          exact hnx _ _ _ ⟨i + 1, _, _, _, _, _, _, by (simp only [hfl, hw, hzq]; rfl), h2.keeps ((Keeps.refl _).alloc _), by omega, rfl⟩ (by omega)
      · rw [hf, Bool.true_and] at hfl
        simp (disch := first | assumption | omega | (simp only [LN] <;> omega) | (simp (disch := first | assumption | omega | (simp only [LN] <;> omega)) only [row_alloc, row_set]; assumption)) only [W_block, P3, ↓reduceIte, reduceAdd, reduceEqDiff, reduceCtorEq, initFr, reduceLT, clsA, reduceLeDiff, reduceMul, reduceSub, reduceIte]
        obtain ⟨Z, hZ⟩ : ∃ Z, Z = K1.alloc (.cells true false 1 [.int .u8 0] 5) := ⟨_, rfl⟩
        have kz : Keeps K1 Z := by rw [hZ]; exact (Keeps.refl _).alloc _
        have hb0 : BS Z (slc K1.n 0 1 1) [0] := ⟨⟨_, _, rfl⟩, by rw [hZ]; exact elems_new (n := 1) rfl rfl⟩
        rw [← hZ]
        refine callK (t68 (bx.keeps kz) hb0) ?_
        rintro _ X ⟨rfl, hX⟩
        rw [hX]
        simp (disch := first | assumption | omega | (simp only [LN] <;> omega) | (simp (disch := first | assumption | omega | (simp only [LN] <;> omega)) only [row_alloc, row_set]; assumption)) only [W_block, P3, ↓reduceIte, reduceAdd, reduceEqDiff, reduceCtorEq, initFr, reduceLT, clsA, reduceLeDiff, reduceMul, reduceSub, reduceIte]
        refine callK (t69 (bx.keeps kz) l256) ?_
        rintro w K2 ⟨k2, hs2⟩
        have h2 := ((hY.keeps k1).keeps kz).keeps k2
        rcases hs2 with ⟨c1, c2, rfl⟩ | ⟨c1, c2, y, rfl, by_, fy, ly⟩ | ⟨c1, c2, rfl⟩
        · obtain ⟨K3, hK3⟩ : ∃ Z, Z = K2.alloc (.cells true false 2 [.int .i64 ((headW l).1 : Nat), .int .i64 ((headW l).2 : Nat)] 114) := ⟨_, rfl⟩
          have k3 : Keeps K2 K3 := by rw [hK3]; exact (Keeps.refl K2).alloc _
          have gv : K3.get K2.n = some (.cells true false 2 [.int .i64 ((headW l).1 : Nat), .int .i64 ((headW l).2 : Nat)] 114) := by rw [hK3]; exact AHeap.get_alloc_new K2 _
          have h3 := h2.keeps k3
          have g3 := h3.g3
          have gl := h3.gl
          have oh : [Value.int .i64 ((headW l).1 : Nat), .int .i64 ((headW l).2 : Nat)].all Value.oneCell' = true := rfl
          by_cases hgt : (hdW D i).1 < (headW l).1
          · rw [if_pos hgt] at hhd
            have hh := h3.head (headW l).1 (headW l).2
            have d2 : (((hdW D i).1 : Nat) : Int) < (((headW l).1 : Nat) : Int) := by omega
            simp (disch := first | assumption | omega | (simp only [LN] <;> omega) | (simp (disch := first | assumption | omega | (simp only [LN] <;> omega)) only [row_alloc, row_set]; assumption)) only [W_block, P3, ↓reduceIte, reduceAdd, reduceEqDiff, reduceCtorEq, initFr, reduceLT, clsA, reduceLeDiff, reduceMul, reduceSub, reduceIte]
            rw [← hK3]
            simp (disch := first | assumption | omega | (simp only [LN] <;> omega) | (simp (disch := first | assumption | omega | (simp only [LN] <;> omega)) only [row_alloc, row_set]; assumption)) only [W_block, P3, ↓reduceIte, reduceAdd, reduceEqDiff, reduceCtorEq, initFr, reduceLT, clsA, reduceLeDiff, reduceMul, reduceSub, reduceIte, gv, g3, gl, oh]
            exact hnx _ _ _ ⟨i + 1, _, _, _, _, _, _, by (simp only [hfl, hw, hzq]; rfl), by rw [hhd]; exact hh, by omega, rfl⟩ (by omega)
          · rw [if_neg hgt] at hhd
            have d2 : ¬ (((hdW D i).1 : Nat) : Int) < (((headW l).1 : Nat) : Int) := by omega
            rw [← hhd] at h3
            simp (disch := first | assumption | omega | (simp only [LN] <;> omega) | (simp (disch := first | assumption | omega | (simp only [LN] <;> omega)) only [row_alloc, row_set]; assumption)) only [W_block, P3, ↓reduceIte, reduceAdd, reduceEqDiff, reduceCtorEq, initFr, reduceLT, clsA, reduceLeDiff, reduceMul, reduceSub, reduceIte]
            rw [← hK3]
            simp (disch := first | assumption | omega | (simp only [LN] <;> omega) | (simp (disch := first | assumption | omega | (simp only [LN] <;> omega)) only [row_alloc, row_set]; assumption)) only [W_block, P3, ↓reduceIte, reduceAdd, reduceEqDiff, reduceCtorEq, initFr, reduceLT, clsA, reduceLeDiff, reduceMul, reduceSub, reduceIte, gv, g3, gl]
            exact hnx _ _ _ ⟨i + 1, _, _, _, _, _, _, by (simp only [hfl, hw, hzq]; rfl), h3, by omega, rfl⟩ (by omega)
        · have hgt : ¬ (hdW D i).1 < (headW l).1 := by omega
          rw [if_neg hgt] at hhd
          rw [← hhd] at h2
          simp (disch := first | assumption | omega | (simp only [LN] <;> omega) | (simp (disch := first | assumption | omega | (simp only [LN] <;> omega)) only [row_alloc, row_set]; assumption)) only [W_block, P3, ↓reduceIte, reduceAdd, reduceEqDiff, reduceCtorEq, initFr, reduceLT, clsA, reduceLeDiff, reduceMul, reduceSub, reduceIte]
          exact hnx _ _ _ ⟨i + 1, _, _, _, _, _, _, by (simp only [hfl, hw, hzq]; rfl), h2.keeps ((Keeps.refl _).alloc _), by omega, rfl⟩ (by omega)
        · have hgt : ¬ (hdW D i).1 < (headW l).1 := by omega
          rw [if_neg hgt] at hhd
          rw [← hhd] at h2
          have an : asem (.assert 114 (.agg #[.int .i64 0, .int .i64 0]) true .nilIface) K2 = some (.tuple #[.agg #[.int .i64 0, .int .i64 0], .bool false], K2) := rfl
          simp (disch := first | assumption | omega | (simp only [LN] <;> omega) | (simp (disch := first | assumption | omega | (simp only [LN] <;> omega)) only [row_alloc, row_set]; assumption)) only [W_block, P3, ↓reduceIte, reduceAdd, reduceEqDiff, reduceCtorEq, initFr, reduceLT, clsA, reduceLeDiff, reduceMul, reduceSub, reduceIte, an]
          exact hnx _ _ _ ⟨i + 1, _, _, _, _, _, _, by (simp only [hfl, hw, hzq]; rfl), h2.keeps ((Keeps.refl _).alloc _), by omega, rfl⟩ (by omega)
    · have d1 : ¬ (i : Int) < 2 := by omega
      have e : i = 2 := by omega
      subst e
      simp (disch := first | assumption | omega | (simp only [LN] <;> omega) | (simp (disch := first | assumption | omega | (simp only [LN] <;> omega)) only [row_alloc, row_set]; assumption)) only [W_block, P3, ↓reduceIte, reduceAdd, reduceEqDiff, reduceCtorEq, initFr, reduceLT, clsA, reduceLeDiff, reduceMul, reduceSub, reduceIte]
      refine hx 1 _ _ ?_
      exact hk _ _ ⟨_, _, _, _, _, _, _, rfl, hY⟩
  · rintro fr Y ⟨y5, y6, y7, y8, y16, y17, y18, rfl, hY⟩
    have hle := hdW_le D 2
    have hop : openW D = if (hdW D 2).1 = 0 then (if flW D 2 = false then (D, none, 151) else if (wlD D 1 (headB 1 1)).2 ≠ 0 then ((wlD D 1 (headB 1 1)).1, none, (wlD D 1 (headB 1 1)).2) else open2 (wlD D 1 (headB 1 1)).1 1 1) else open2 D (hdW D 2).1 (hdW D 2).2 := by
      rw [hdW_2, flW_2]; unfold openW; rw [if_neg (by omega), if_neg (by simp [ho])]
    rw [hop] at hq2
    have g3 := hY.g3
    have gl := hY.gl
    have g0 := hY.g0
    have g1 := hY.g1
    generalize hdW D 2 = hd at *
    generalize flW D 2 = fl at *
    refine W_part 1 (fun fr Z => ∃ z9 z19 z20 z21 v' ab' D' t f, fr = [ptr b 0, ptr K.n 0, ptr (K.n + 1) 0, ptr (K.n + 3) 0, .bool fl, y5, y6, y7, y8, z9, x10, x11, x12, x13, x14, x15, y16, y17, y18, z19, z20, z21, x22, x23, x24, x25, x26, x27, x28] ∧ OS A K Z b sb v' ab' (.slice none 0 0) [] D' ⟨t, f, [], 0⟩ ∧ t ≤ 9000000000000000000 ∧ (1 ≤ f ∧ f ≤ 9000000000000000000) ∧ D'.off = false ∧ (if hd.1 = 0 then (if fl = false then (D, none, 151) else if (wlD D 1 (headB 1 1)).2 ≠ 0 then ((wlD D 1 (headB 1 1)).1, none, (wlD D 1 (headB 1 1)).2) else open2 (wlD D 1 (headB 1 1)).1 1 1) else open2 D hd.1 hd.2) = open2 D' t f) (by kernel_rfl) ?_ ?_
    · intro Q' hk hex hret
      have hr2 := fun fr H2 h => hret fr H2 (hq2 fr H2 h)
      by_cases ht : hd.1 = 0
      · have d1 : ¬ (0 : Int) < ((hd.1 : Nat) : Int) := by omega
        rw [if_pos ht] at hk hr2
        cases fl with
        | false =>
          rw [if_pos rfl] at hr2
          have l0 := AHeap.get_lt g0
          have l1 := AHeap.get_lt g1
          simp (disch := first | assumption | omega | (simp only [LN] <;> omega) | (simp (disch := first | assumption | omega | (simp only [LN] <;> omega)) only [row_alloc, row_set]; assumption)) only [f13, W_block, P3, ↓reduceIte, reduceAdd, reduceEqDiff, reduceCtorEq, initFr, reduceLT, clsA, reduceLeDiff, reduceMul, reduceSub, reduceIte, cpre, cpost, g3, gl, g0, g1]
          have c := ((Chg.refl [K.n, K.n + 1] Y).trans (Chg.set Y l0 (.cells true false 1 [.pointer none] 29)) (by simp)).trans (Chg.set (Y.set K.n (.cells true false 1 [.pointer none] 29)) (b := K.n + 1) (by rw [set_n]; exact l1) (.cells true false 1 [.int .i64 151] 30)) (by simp)
          have p0 : ((Y.set K.n (.cells true false 1 [.pointer none] 29)).set (K.n + 1) (.cells true false 1 [.int .i64 151] 30)).get K.n = some (.cells true false 1 [.pointer none] 29) := by
            rw [AHeap.get_set_other _ (by omega) (by rw [set_n]; exact l1)]
            exact AHeap.get_set_same g0 _
          have p1 : ((Y.set K.n (.cells true false 1 [.pointer none] 29)).set (K.n + 1) (.cells true false 1 [.int .i64 151] 30)).get (K.n + 1) = some (.cells true false 1 [.int .i64 151] 30) := by
            refine AHeap.get_set_same (o := .cells true false 1 [.int .i64 0] 30) ?_ _
            rw [AHeap.get_set_other _ (by omega) l0]; exact g1
          exact hr2 _ _ ⟨_, resW rfl rfl p0 p1, rfl, hY.ok, v, ab, hY.fail c⟩
        | true =>
          rw [if_neg (by simp)] at hk hr2
          have hf : fillA [.int .i64 0, .int .i64 0] [(0, 1, .int .i64 1), (1, 1, .int .i64 1)] = some [.int .i64 1, .int .i64 1] := rfl
          have hh : OS A K (Y.set (K.n + 2) (.cells true false 5 [ptr b 0, .int .i64 1, .int .i64 1, .slice none 0 0, .int .i64 0] 116)) b sb v ab (.slice none 0 0) [] D ⟨1, 1, [], 0⟩ := hY.head 1 1
          simp (disch := first | assumption | omega | (simp only [LN] <;> omega) | (simp (disch := first | assumption | omega | (simp only [LN] <;> omega)) only [row_alloc, row_set]; assumption)) only [f13, W_block, P3, ↓reduceIte, reduceAdd, reduceEqDiff, reduceCtorEq, initFr, reduceLT, clsA, reduceLeDiff, reduceMul, reduceSub, reduceIte, cpre, cpost, g3, gl, hf]
          generalize Y.set (K.n + 2) (.cells true false 5 [ptr b 0, .int .i64 1, .int .i64 1, .slice none 0 0, .int .i64 0] 116) = Z at *
          have g3' := hh.g3
          have gl' : Z.get (K.n + 2) = some (.cells true false 5 [ptr b 0, .int .i64 1, .int .i64 1, .slice none 0 0, .int .i64 0] 116) := hh.gl
          have lok1 : (⟨1, 1, [], 0⟩ : Lg).ok := ⟨by show 1 ≤ _; omega, by show 1 ≤ 1 ∧ 1 ≤ _; omega, by simp, by simp⟩
          simp (disch := first | assumption | omega | (simp only [LN] <;> omega) | (simp (disch := first | assumption | omega | (simp only [LN] <;> omega)) only [row_alloc, row_set]; assumption)) only [W_block, P3, ↓reduceIte, reduceAdd, reduceEqDiff, reduceCtorEq, initFr, reduceLT, clsA, reduceLeDiff, reduceMul, reduceSub, reduceIte, g3', gl']
          refine callK (t70 (hh.lg lok1) hs hm 1 (bs := headB 1 1) fun K3 k3 => t121h K3 1 1 (by omega) (by omega)) ?_
          rintro _ Z2 ⟨rfl, v2, ab2, h2, u2⟩
          have hO : OS A K Z2 b sb v2 ab2 (.slice none 0 0) [] (wlD D 1 (headB 1 1)).1 ⟨1, 1, [], (wlD D 1 (headB 1 1)).2⟩ := ⟨hh.u.trans (u2.extR hh.u.sep), h2.ok, h2.n3, h2.it⟩
          have q0 := hO.g0
          have q1 := hO.g1
          have l0 := AHeap.get_lt q0
          have l1 := AHeap.get_lt q1
          by_cases he : (wlD D 1 (headB 1 1)).2 = 0
          · rw [if_neg (by simp [he])] at hk
            have d4 : ((wlD D 1 (headB 1 1)).2 != 0) = false := bnei_no he
            rw [he] at hO
            simp (disch := first | assumption | omega | (simp only [LN] <;> omega) | (simp (disch := first | assumption | omega | (simp only [LN] <;> omega)) only [row_alloc, row_set]; assumption)) only [W_block, P3, ↓reduceIte, reduceAdd, reduceEqDiff, reduceCtorEq, initFr, reduceLT, clsA, reduceLeDiff, reduceMul, reduceSub, reduceIte, d4]
            exact hk _ _ ⟨_, _, _, _, _, _, _, _, _, rfl, hO, by omega, by omega, wlD_off he, rfl⟩
          · rw [if_pos he] at hr2
            have d4 : ((wlD D 1 (headB 1 1)).2 != 0) = true := bnei_yes he
            simp (disch := first | assumption | omega | (simp only [LN] <;> omega) | (simp (disch := first | assumption | omega | (simp only [LN] <;> omega)) only [row_alloc, row_set]; assumption)) only [W_block, P3, ↓reduceIte, reduceAdd, reduceEqDiff, reduceCtorEq, initFr, reduceLT, clsA, reduceLeDiff, reduceMul, reduceSub, reduceIte, d4, q0, q1]
            have c := ((Chg.refl [K.n, K.n + 1] Z2).trans (Chg.set Z2 l0 (.cells true false 1 [.pointer none] 29)) (by simp)).trans (Chg.set (Z2.set K.n (.cells true false 1 [.pointer none] 29)) (b := K.n + 1) (by rw [set_n]; exact l1) (.cells true false 1 [.int .i64 (wlD D 1 (headB 1 1)).2] 30)) (by simp)
            have p0 : ((Z2.set K.n (.cells true false 1 [.pointer none] 29)).set (K.n + 1) (.cells true false 1 [.int .i64 (wlD D 1 (headB 1 1)).2] 30)).get K.n = some (.cells true false 1 [.pointer none] 29) := by
              rw [AHeap.get_set_other _ (by omega) (by rw [set_n]; exact l1)]
              exact AHeap.get_set_same q0 _
            have p1 : ((Z2.set K.n (.cells true false 1 [.pointer none] 29)).set (K.n + 1) (.cells true false 1 [.int .i64 (wlD D 1 (headB 1 1)).2] 30)).get (K.n + 1) = some (.cells true false 1 [.int .i64 (wlD D 1 (headB 1 1)).2] 30) := by
              refine AHeap.get_set_same (o := .cells true false 1 [.int .i64 0] 30) ?_ _
              rw [AHeap.get_set_other _ (by omega) l0]; exact q1
            exact hr2 _ _ ⟨_, resW rfl rfl p0 p1, rfl, hO.ok, v2, ab2, hO.fail c⟩
      · have d1 : (0 : Int) < ((hd.1 : Nat) : Int) := by omega
        rw [if_neg ht] at hk hr2
        simp (disch := first | assumption | omega | (simp only [LN] <;> omega) | (simp (disch := first | assumption | omega | (simp only [LN] <;> omega)) only [row_alloc, row_set]; assumption)) only [f13, W_block, P3, ↓reduceIte, reduceAdd, reduceEqDiff, reduceCtorEq, initFr, reduceLT, clsA, reduceLeDiff, reduceMul, reduceSub, reduceIte, cpre, cpost, g3, gl]
        exact hk _ _ ⟨_, _, _, _, _, _, _, _, _, rfl, hY, by omega, ⟨hle.2.2 ht, by omega⟩, ho, rfl⟩
    · rintro fr Z ⟨z9, z19, z20, z21, v', ab', D', t, f, rfl, hZ, b1, b2, b3, b4⟩
      rw [b4] at hq2
      exact openRecs hZ b1 b2 b3 hq2
end
end Go.AM.Fd

set_option linter.unusedSimpArgs false
set_option linter.unusedVariables false
namespace Go.AM.Fd
open Nat (reduceAdd reduceEqDiff reduceLT reduceLeDiff reduceMul reduceSub)
open Go.Proofs Go.AM.F
theorem perm4 {α : Type} (a b c d e : List α) : (a ++ (b ++ (c ++ (d ++ e)))).Perm (d ++ (c ++ (b ++ (a ++ e)))) := by
  classical exact List.perm_iff_count.2 fun x => by simp only [List.count_append]; omega
section
variable {K : AHeap} {b sb : Nat} {v : Value} {ab : Option Nat} {D : Dk}
set_option maxRecDepth 20000 in
theorem t13 (h : DkR K b sb v ab D) (hs : D.st < 999999) (hm : D.op.length < 999999) : ∃ w K', ARun Go.Proofs.Tryz.prog 0 13 [ptr b 0] K w K' ∧ OpenR (dkT b sb v ab D) K K' b sb (openW D) w := by
  refine walk2 f13_ok f13_n ?_
  intro Q hq1 hq2
  obtain ⟨K1, hK1⟩ : ∃ Y, Y = K.alloc (.cells true false 1 [.pointer none] 29) := ⟨_, rfl⟩
  obtain ⟨K2, hK2⟩ : ∃ Y, Y = K1.alloc (.cells true false 1 [.int .i64 0] 30) := ⟨_, rfl⟩
  have n1 : K1.n = K.n + 1 := by rw [hK1]; rfl
  have n2 : K2.n = K.n + 2 := by rw [hK2, alloc_n, n1]
  have k1 : Keeps K K1 := by rw [hK1]; exact (Keeps.refl K).alloc _
  have k2 : Keeps K1 K2 := by rw [hK2]; exact (Keeps.refl K1).alloc _
  have g0 : K1.get K.n = some (.cells true false 1 [.pointer none] 29) := by rw [hK1]; exact AHeap.get_alloc_new K _
  have g0' := k2.at_ g0
  have g1 : K2.get (K.n + 1) = some (.cells true false 1 [.int .i64 0] 30) := by rw [hK2, ← n1]; exact AHeap.get_alloc_new K1 _
  have h2 := (h.s.keeps k1).keeps k2
  have hd : DkR K2 b sb v ab D := ⟨h2, h.ok⟩
  have u2 := Upd.keeps h.s (k1.trans k2)
  have l0 := AHeap.get_lt g0'
  have l1 := AHeap.get_lt g1
  have fin : ∀ e : Int, ((K2.set K.n (.cells true false 1 [.pointer none] 29)).set (K.n + 1) (.cells true false 1 [.int .i64 e] 30)).get K.n = some (.cells true false 1 [.pointer none] 29) ∧ ((K2.set K.n (.cells true false 1 [.pointer none] 29)).set (K.n + 1) (.cells true false 1 [.int .i64 e] 30)).get (K.n + 1) = some (.cells true false 1 [.int .i64 e] 30) ∧
      Upd (dkT b sb v ab D) (dkT b sb v ab D) K ((K2.set K.n (.cells true false 1 [.pointer none] 29)).set (K.n + 1) (.cells true false 1 [.int .i64 e] 30)) := fun e => by
    refine ⟨?_, ?_, ?_⟩
    · rw [AHeap.get_set_other _ (by omega) (by rw [set_n]; exact l1)]
      exact AHeap.get_set_same g0' _
    · refine AHeap.get_set_same (o := .cells true false 1 [.int .i64 0] 30) ?_ _
      rw [AHeap.get_set_other _ (by omega) l0]; exact g1
    · have c := ((Chg.refl [K.n, K.n + 1] K2).trans (Chg.set K2 l0 (.cells true false 1 [.pointer none] 29)) (by simp)).trans (Chg.set (K2.set K.n (.cells true false 1 [.pointer none] 29)) (b := K.n + 1) (by rw [set_n]; exact l1) (.cells true false 1 [.int .i64 e] 30)) (by simp)
      refine Upd.keeps h.s ⟨by have := (k1.trans k2).n; simp only [set_n]; omega, fun y hy => ?_⟩
      rw [c.get _ (by omega) (by simp; omega)]
      exact (k1.trans k2).get y hy
  have hfb : fillA [.pointer none, .int .i64 0, .int .i64 0, .slice none 0 0, .int .i64 0] [(0, 1, ptr b 0)] = some [ptr b 0, .int .i64 0, .int .i64 0, .slice none 0 0, .int .i64 0] := rfl
  by_cases c0 : D.bl.length < 3 ∨ D.off = true
  case neg =>
    obtain ⟨c1, c2⟩ := not_or.1 c0
    have c3 : D.off = false := by simpa using c2
    have d1 : ¬ ((D.bl.length : Nat) : Int) < 3 := by omega
    refine W_part 4 (fun fr X => ∃ x5 x6 x7 x8 x9 x10 x11 x12 x13 x14 x15 x16 x17 x18 x19 x20 x21 x22 x23 x24 x25 x26 x27 x28, fr = [ptr b 0, ptr K.n 0, ptr (K.n + 1) 0, ptr (K.n + 3) 0, .bool true, x5, x6, x7, x8, x9, x10, x11, x12, x13, x14, x15, x16, x17, x18, x19, x20, x21, x22, x23, x24, x25, x26, x27, x28] ∧ OS (dkT b sb v ab D) K X b sb v ab (.slice none 0 0) [] D ⟨0, 0, [], 0⟩) (by kernel_rfl) ?_ ?_
    · intro Q' hk hex hret
      simp (disch := first | assumption | omega | (simp only [LN] <;> omega) | (simp (disch := first | assumption | omega | (simp only [LN] <;> omega)) only [row_alloc, row_set]; assumption)) only [ f13, P3, ↓reduceIte, reduceAdd, reduceEqDiff, reduceCtorEq, initFr, reduceLT, clsA, reduceLeDiff, reduceMul, reduceSub, reduceIte, cpre]
      rw [← hK1, ← hK2, W_block]
      simp (disch := first | assumption | omega | (simp only [LN] <;> omega) | (simp (disch := first | assumption | omega | (simp only [LN] <;> omega)) only [row_alloc, row_set]; assumption)) only [ P3, ↓reduceIte, reduceAdd, reduceEqDiff, reduceCtorEq, initFr, reduceLT, clsA, reduceLeDiff, reduceMul, reduceSub, reduceIte]
      refine callK (t65 hd) ?_
      rintro _ X ⟨rfl, hX⟩
      rw [hX]
      simp (disch := first | assumption | omega | (simp only [LN] <;> omega) | (simp (disch := first | assumption | omega | (simp only [LN] <;> omega)) only [row_alloc, row_set]; assumption)) only [W_block, P3, ↓reduceIte, reduceAdd, reduceEqDiff, reduceCtorEq, initFr, reduceLT, clsA, reduceLeDiff, reduceMul, reduceSub, reduceIte]
      refine callK (t66 hd) ?_
      rintro _ X ⟨rfl, hX⟩
      rw [hX, c3]
      simp (disch := first | assumption | omega | (simp only [LN] <;> omega) | (simp (disch := first | assumption | omega | (simp only [LN] <;> omega)) only [row_alloc, row_set]; assumption)) only [W_block, P3, ↓reduceIte, reduceAdd, reduceEqDiff, reduceCtorEq, initFr, reduceLT, clsA, reduceLeDiff, reduceMul, reduceSub, reduceIte, hfb]
      obtain ⟨K3, hK3⟩ : ∃ Y, Y = K2.alloc (.cells true false 5 [ptr b 0, .int .i64 0, .int .i64 0, .slice none 0 0, .int .i64 0] 116) := ⟨_, rfl⟩
      have n3 : K3.n = K.n + 3 := by rw [hK3, alloc_n, n2]
      have k3 : Keeps K2 K3 := by rw [hK3]; exact (Keeps.refl K2).alloc _
      have g3 : K3.get (K.n + 2) = some (.cells true false 5 [ptr b 0, .int .i64 0, .int .i64 0, .slice none 0 0, .int .i64 0] 116) := by rw [hK3, ← n2]; exact AHeap.get_alloc_new K2 _
      rw [← hK3, n2]
      obtain ⟨K4, hK4⟩ : ∃ Y, Y = K3.alloc (.cells true false 1 [ptr (K.n + 2) 0] 29) := ⟨_, rfl⟩
      have k4 : Keeps K3 K4 := by rw [hK4]; exact (Keeps.refl K3).alloc _
      have g4 : K4.get (K.n + 3) = some (.cells true false 1 [ptr (K.n + 2) 0] 29) := by rw [hK4, ← n3]; exact AHeap.get_alloc_new K3 _
      rw [← hK4]
      have s0 := Upd.add (t := thB K.n (.cells true false 1 [.pointer none] 29)) (Upd.refl h.s) k1 g0 (by simp [thB])
      have s1 := Upd.add (t := thB (K.n + 1) (.cells true false 1 [.int .i64 0] 30)) s0 k2 g1 (by simp [thB]; omega)
      have s2 := Upd.add (t := thB (K.n + 2) (.cells true false 5 (lgC b (.slice none 0 0) ⟨0, 0, [], 0⟩) 116)) s1 k3 g3 (by simp [thB]; omega)
      have s3 := Upd.add (t := thB (K.n + 3) (.cells true false 1 [ptr (K.n + 2) 0] 29)) s2 k4 g4 (by simp [thB]; omega)
      have s4 := Upd.add (t := thI []) s3 (Keeps.refl K4) (fun z hz => by cases hz) (by simp [thI])
      have s5 := Upd.add (t := thO 38 1 (.slice none 0 0) 0 []) s4 (Keeps.refl K4) (WO.nil _ _ _) (fun z hz => by cases hz)
      refine hk _ _ ⟨_, _, _, _, _, _, _, _, _, _, _, _, _, _, _, _, _, _, _, _, _, _, _, _, rfl, ⟨s5.permR ?_, h.ok, by omega, rfl⟩⟩
      exact perm4 [thO 38 1 (.slice none 0 0) 0 [], thI []] [thB (K.n + 3) (.cells true false 1 [ptr (K.n + 2) 0] 29), thB (K.n + 2) (.cells true false 5 (lgC b (.slice none 0 0) ⟨0, 0, [], 0⟩) 116)] [thB (K.n + 1) (.cells true false 1 [.int .i64 0] 30)] [thB K.n (.cells true false 1 [.pointer none] 29)] (dkT b sb v ab D)
    · rintro fr X ⟨x5, x6, x7, x8, x9, x10, x11, x12, x13, x14, x15, x16, x17, x18, x19, x20, x21, x22, x23, x24, x25, x26, x27, x28, rfl, hO⟩
      exact openHead hO hs hm c3 (by omega) hq2
  simp (disch := first | assumption | omega | (simp only [LN] <;> omega) | (simp (disch := first | assumption | omega | (simp only [LN] <;> omega)) only [row_alloc, row_set]; assumption)) only [ f13, P3, ↓reduceIte, reduceAdd, reduceEqDiff, reduceCtorEq, initFr, reduceLT, clsA, reduceLeDiff, reduceMul, reduceSub, reduceIte]
  rw [← hK1, ← hK2, W_block]
  simp (disch := first | assumption | omega | (simp only [LN] <;> omega) | (simp (disch := first | assumption | omega | (simp only [LN] <;> omega)) only [row_alloc, row_set]; assumption)) only [ P3, ↓reduceIte, reduceAdd, reduceEqDiff, reduceCtorEq, initFr, reduceLT, clsA, reduceLeDiff, reduceMul, reduceSub, reduceIte]
  refine callK (t65 hd) ?_
  rintro _ X ⟨rfl, hX⟩
  rw [hX]
  by_cases c1 : D.bl.length < 3
  · have d1 : ((D.bl.length : Nat) : Int) < 3 := by omega
    have e : openW D = (D, none, 2) := by unfold openW; rw [if_pos c1]
    rw [e] at hq2
    simp (disch := first | assumption | omega | (simp only [LN] <;> omega) | (simp (disch := first | assumption | omega | (simp only [LN] <;> omega)) only [row_alloc, row_set]; assumption)) only [W_block, P3, ↓reduceIte, reduceAdd, reduceEqDiff, reduceCtorEq, initFr, reduceLT, clsA, reduceLeDiff, reduceMul, reduceSub, reduceIte, g0', g1]
    obtain ⟨f1, f2, f3⟩ := fin 2
    exact hq2 _ _ ⟨_, resW rfl rfl f1 f2, rfl, h.ok, v, ab, f3⟩
  · have d1 : ¬ ((D.bl.length : Nat) : Int) < 3 := by omega
    simp (disch := first | assumption | omega | (simp only [LN] <;> omega) | (simp (disch := first | assumption | omega | (simp only [LN] <;> omega)) only [row_alloc, row_set]; assumption)) only [W_block, P3, ↓reduceIte, reduceAdd, reduceEqDiff, reduceCtorEq, initFr, reduceLT, clsA, reduceLeDiff, reduceMul, reduceSub, reduceIte]
    refine callK (t66 hd) ?_
    rintro _ X ⟨rfl, hX⟩
    rw [hX]
    by_cases c2 : D.off = true
    · have e : openW D = (D, none, 140) := by unfold openW; rw [if_neg c1, if_pos c2]
      rw [e] at hq2
      rw [c2]
      simp (disch := first | assumption | omega | (simp only [LN] <;> omega) | (simp (disch := first | assumption | omega | (simp only [LN] <;> omega)) only [row_alloc, row_set]; assumption)) only [W_block, P3, ↓reduceIte, reduceAdd, reduceEqDiff, reduceCtorEq, initFr, reduceLT, clsA, reduceLeDiff, reduceMul, reduceSub, reduceIte, g0', g1]
      obtain ⟨f1, f2, f3⟩ := fin 140
      exact hq2 _ _ ⟨_, resW rfl rfl f1 f2, rfl, h.ok, v, ab, f3⟩
    · exact absurd c0 (not_or.2 ⟨c1, c2⟩)
end
end Go.AM.Fd

set_option linter.unusedSimpArgs false
set_option linter.unusedVariables false
namespace Go.AM.Fd
open Nat (reduceAdd reduceEqDiff reduceLT reduceLeDiff reduceMul reduceSub)
open Go.Proofs Go.AM.F
structure REn (A : List Th) (K X : AHeap) (b : Nat) (vb vo : Value) (inn : Int) (vl : Value) (D : Dk) (L : Lg) : Prop where
  u : Upd A (rlT K.n b vl L ++ ekT b vb vo inn D) K X
  ok : D.ok
  i : ∀ n, D.ar = some n → inn = (n : Nat)
  n3 : 3 ≤ D.bl.length
def ROpenR (A : List Th) (K H : AHeap) (b : Nat) (vb : Value) (res : Dk × Option Lg × Int) (w : Value) : Prop := match res.2.1 with
  | none => w = .tuple #[.pointer none, .int .i64 res.2.2] ∧ ∃ vo' inn', EkR H b vb vo' inn' res.1 ∧ Upd A (ekT b vb vo' inn' res.1) K H
  | some L => ∃ lb vo' inn' vl, w = .tuple #[ptr lb 0, .int .i64 0] ∧ K.n ≤ lb ∧ RlR H lb b vb vo' inn' vl res.1 L ∧ Upd A (rlT lb b vl L ++ ekT b vb vo' inn' res.1) K H
section
variable {A : List Th} {K X : AHeap} {b : Nat} {vb vo vl : Value} {inn : Int} {D : Dk} {L : Lg}
theorem REn.g (h : REn A K X b vb vo inn vl D L) : X.get K.n = some (.cells true false 5 [ptr b 0, .int .i64 (L.turn : Nat), .int .i64 (L.first : Nat), vl, .int .i64 L.br] 133) := h.u.sep.get 0 rfl
theorem REn.rl (h : REn A K X b vb vo inn vl D L) (lok : L.ok) : RlR X K.n b vb vo inn vl D L := ⟨h.u.sep, h.ok, h.i, h.n3, lok⟩
theorem REn.e (h : REn A K X b vb vo inn vl D L) : EkR X b vb vo inn D := ⟨h.u.sep.right, h.ok, h.i⟩
theorem REn.keeps {Y : AHeap} (h : REn A K X b vb vo inn vl D L) (k : Keeps X Y) : REn A K Y b vb vo inn vl D L := ⟨h.u.keeps' k, h.ok, h.i, h.n3⟩
theorem REn.set (h : REn A K X b vb vo inn vl D L) (t f : Nat) : REn A K (X.set K.n (.cells true false 5 (rlC b vl ⟨t, f, L.rs, L.br⟩) 133)) b vb vo inn vl D ⟨t, f, L.rs, L.br⟩ :=
  ⟨Upd.next (l := []) (t' := thB K.n (.cells true false 5 (rlC b vl ⟨t, f, L.rs, L.br⟩) 133)) h.u (Chg.set X (AHeap.get_lt h.g) _) (AHeap.get_set_same h.g _) (by simp [thB]), h.ok, h.i, h.n3⟩
theorem REn.end_ (h : REn A K X b vb vo inn vl D L) : Upd A (ekT b vb vo inn D) K X := h.u.dropL
theorem REn.err (h : REn A K X b vb vo inn vl D L) (e : Int) : ROpenR A K X b vb (D, none, e) (.tuple #[.pointer none, .int .i64 e]) := ⟨rfl, vo, inn, h.e, h.end_⟩
theorem e_str (l : List UInt8) (D : Dk) (i : Nat) (h : askD D (i : Nat) = 0) : (if askD D (i : Nat) = 0 then rdB D ((i : Nat) : Int).toNat else []) = rdB D i := by rw [if_pos h]; rfl
set_option maxRecDepth 20000 in
theorem rlRing {Q : AQ} {x1 x2 x3 x4 x5 x6 x7 x8 x10 x11 x12 x13 x14 x15 x16 x17 x18 x19 x20 x21 x22 x23 x24 x25 x26 x27 : Value} (h : REn A K X b vb vo inn vl D L) (lok : L.ok) (ho : D.off = false)
    (hq2 : ∀ fr H2, (∃ w, resO f14.res fr H2 = some w ∧ ROpenR A K H2 b vb (if anyW D L.next (D.bl.length - 2) = true then (D, none, 151) else (D, some L, 0)) w) → Q .ret fr H2) :
    W Go.Proofs.Tryz.prog 0 (cpost 11 f14.body) Q [ptr b 0, x1, x2, x3, x4, x5, x6, x7, x8, ptr K.n 0, x10, x11, x12, x13, x14, x15, x16, x17, x18, x19, x20, x21, x22, x23, x24, x25, x26, x27] X := by
  have n4 := h.ok.n
  have n3 := h.n3
  have ib := Sl.is h.e.sb
  have lb2 : lenS vb = D.bl.length := by have := Sl.len h.e.sb; simpa using this
  have ge := h.e.g
  have hany : ∀ n, anyW D L.next (n + 1) = (anyW D L.next n || decide (L.next < (recW (rdB D (2 + n))).1)) := fun n => by
    unfold anyW; rw [List.range_succ, List.any_append]; simp
  simp (disch := first | assumption | omega | (simp only [LN] <;> omega) | (simp (disch := first | assumption | omega | (simp only [LN] <;> omega)) only [row_alloc, row_set]; assumption)) only [ f14, P3, ↓reduceIte, reduceAdd, reduceEqDiff, reduceCtorEq, initFr, reduceLT, clsA, reduceLeDiff, reduceMul, reduceSub, reduceIte, cpost]
  rw [W_block]
  refine W_loop2 (fun k fr Y => Y = X ∧ ∃ i y15 y16 y26 y27, fr = [ptr b 0, x1, x2, x3, x4, x5, x6, x7, x8, ptr K.n 0, x10, x11, x12, x13, .int .i64 ((i + 2 : Nat) : Int), y15, y16, x17, x18, x19, x20, x21, x22, x23, x24, x25, y26, y27] ∧ i ≤ D.bl.length - 2 ∧ k = D.bl.length - 2 - i ∧ anyW D L.next i = false) (D.bl.length - 2) ⟨rfl, 0, _, _, _, _, rfl, by omega, rfl, rfl⟩ ?_
  rintro Q2 k fr Y ⟨hY, i, y15, y16, y26, y27, rfl, hi, rfl, hno⟩ hnx hx hret2
  subst hY
  by_cases hlt : i < D.bl.length - 2
  · have d1 : ((i + 2 : Nat) : Int) < ((D.bl.length : Nat) : Int) := by omega
    have hw : IntKind.i64.wrap (((i + 2 : Nat) : Int) + 1) = ((i + 1 + 2 : Nat) : Int) := by rw [wrap_i64 (by omega) (by omega)]; omega
    have ha := askD_in ho (show i + 2 < D.bl.length by omega)
    have es := e_str [] D (i + 2) ha
    have hr := h.ok.rd (show i + 2 < D.bl.length by omega)
    have e2 : 2 + i = i + 2 := by omega
    have ha1 := hany i
    rw [e2, hno, Bool.false_or] at ha1
    simp (disch := first | assumption | omega | (simp only [LN] <;> omega) | (simp (disch := first | assumption | omega | (simp only [LN] <;> omega)) only [row_alloc, row_set]; assumption)) only [W_block, P3, ↓reduceIte, reduceAdd, reduceEqDiff, reduceCtorEq, initFr, reduceLT, clsA, reduceLeDiff, reduceMul, reduceSub, reduceIte, ge, lb2]
    refine callK (t73 h.e ((i + 2 : Nat) : Int)) ?_
    rintro _ X1 ⟨rfl, hX1⟩
    rw [hX1, es, ha]
    simp (disch := first | assumption | omega | (simp only [LN] <;> omega) | (simp (disch := first | assumption | omega | (simp only [LN] <;> omega)) only [row_alloc, row_set]; assumption)) only [W_block, P3, ↓reduceIte, reduceAdd, reduceEqDiff, reduceCtorEq, initFr, reduceLT, clsA, reduceLeDiff, reduceMul, reduceSub, reduceIte]
    refine callK (t80 _ (rdB D (i + 2)) hr) ?_
    rintro _ X1 ⟨rfl, hX1⟩
    rw [hX1]
    simp (disch := first | assumption | omega | (simp only [LN] <;> omega) | (simp (disch := first | assumption | omega | (simp only [LN] <;> omega)) only [row_alloc, row_set]; assumption)) only [W_block, P3, ↓reduceIte, reduceAdd, reduceEqDiff, reduceCtorEq, initFr, reduceLT, clsA, reduceLeDiff, reduceMul, reduceSub, reduceIte]
    refine callK (t79 (h.rl lok)) ?_
    rintro _ X1 ⟨rfl, hX1⟩
    rw [hX1]
    by_cases hg : L.next < (recW (rdB D (i + 2))).1
    · have d2 : ((L.next : Nat) : Int) < (((recW (rdB D (i + 2))).1 : Nat) : Int) := by omega
      rw [decide_eq_true hg] at ha1
      have hall : anyW D L.next (D.bl.length - 2) = true := by
        unfold anyW; rw [List.any_eq_true]
        exact ⟨i, by simpa using hlt, by rw [e2]; simpa using hg⟩
      rw [if_pos hall] at hq2
      simp (disch := first | assumption | omega | (simp only [LN] <;> omega) | (simp (disch := first | assumption | omega | (simp only [LN] <;> omega)) only [row_alloc, row_set]; assumption)) only [W_block, P3, ↓reduceIte, reduceAdd, reduceEqDiff, reduceCtorEq, initFr, reduceLT, clsA, reduceLeDiff, reduceMul, reduceSub, reduceIte]
      exact hret2 _ _ (hq2 _ _ ⟨_, rfl, h.err 151⟩)
    · have d2 : ¬ ((L.next : Nat) : Int) < (((recW (rdB D (i + 2))).1 : Nat) : Int) := by omega
      rw [decide_eq_false hg] at ha1
      simp (disch := first | assumption | omega | (simp only [LN] <;> omega) | (simp (disch := first | assumption | omega | (simp only [LN] <;> omega)) only [row_alloc, row_set]; assumption)) only [W_block, P3, ↓reduceIte, reduceAdd, reduceEqDiff, reduceCtorEq, initFr, reduceLT, clsA, reduceLeDiff, reduceMul, reduceSub, reduceIte]
      rw [hw]
      exact hnx _ _ _ ⟨rfl, i + 1, _, _, _, _, rfl, by omega, rfl, ha1⟩ (by omega)
  · have d1 : ¬ ((i + 2 : Nat) : Int) < ((D.bl.length : Nat) : Int) := by omega
    have e : i = D.bl.length - 2 := by omega
    subst e
    rw [if_neg (by rw [hno]; simp)] at hq2
    simp (disch := first | assumption | omega | (simp only [LN] <;> omega) | (simp (disch := first | assumption | omega | (simp only [LN] <;> omega)) only [row_alloc, row_set]; assumption)) only [W_block, P3, ↓reduceIte, reduceAdd, reduceEqDiff, reduceCtorEq, initFr, reduceLT, clsA, reduceLeDiff, reduceMul, reduceSub, reduceIte, ge, lb2]
    refine hx 2 _ _ (show W Go.Proofs.Tryz.prog 0 _ Q _ _ from ?_)
    simp (disch := first | assumption | omega | (simp only [LN] <;> omega) | (simp (disch := first | assumption | omega | (simp only [LN] <;> omega)) only [row_alloc, row_set]; assumption)) only [W_block, P3, ↓reduceIte, reduceAdd, reduceEqDiff, reduceCtorEq, initFr, reduceLT, clsA, reduceLeDiff, reduceMul, reduceSub, reduceIte]
    exact hq2 _ _ ⟨_, rfl, K.n, vo, inn, vl, rfl, Nat.le_refl _, h.rl lok, h.u⟩
set_option maxRecDepth 20000 in
theorem rlRecs {Q : AQ} {x1 x2 x3 x4 x5 x6 x7 x8 x10 x11 x12 x13 x14 x15 x16 x17 x18 x19 x20 x21 x22 x23 x24 x25 x26 x27 : Value} {t f : Nat} (h : REn A K X b vb vo inn (.slice none 0 0) D ⟨t, f, [], 0⟩) (ht : t ≤ 9000000000000000000) (hf : 1 ≤ f ∧ f ≤ 9000000000000000000) (ho : D.off = false)
    (hq2 : ∀ fr H2, (∃ w, resO f14.res fr H2 = some w ∧ ROpenR A K H2 b vb (open2 D t f) w) → Q .ret fr H2) :
    W Go.Proofs.Tryz.prog 0 (cpost 10 f14.body) Q [ptr b 0, x1, x2, x3, x4, x5, x6, x7, x8, ptr K.n 0, x10, x11, x12, x13, x14, x15, x16, x17, x18, x19, x20, x21, x22, x23, x24, x25, x26, x27] X := by
  have n4 := h.ok.n
  have n3 := h.n3
  have hlok : ∀ rs : List (List UInt8), rs.length ≤ D.bl.length - 2 → (∀ s ∈ rs, s.length ≤ 232) → (⟨t, f, rs, 0⟩ : Lg).ok := fun rs h1 h2 => ⟨ht, hf, by show rs.length ≤ _; omega, h2⟩
  refine W_part 1 (fun fr Y => ∃ y11 y12 y13 y24 y25 vl', fr = [ptr b 0, x1, x2, x3, x4, x5, x6, x7, x8, ptr K.n 0, x10, y11, y12, y13, x14, x15, x16, x17, x18, x19, x20, x21, x22, x23, y24, y25, x26, x27] ∧ REn A K Y b vb vo inn vl' D ⟨t, f, recsW D f (D.bl.length - 2) [], 0⟩ ∧ (⟨t, f, recsW D f (D.bl.length - 2) [], 0⟩ : Lg).ok) (by kernel_rfl) ?_ ?_
  · intro Q' hk hex hret
    simp (disch := first | assumption | omega | (simp only [LN] <;> omega) | (simp (disch := first | assumption | omega | (simp only [LN] <;> omega)) only [row_alloc, row_set]; assumption)) only [ f14, P3, ↓reduceIte, reduceAdd, reduceEqDiff, reduceCtorEq, initFr, reduceLT, clsA, reduceLeDiff, reduceMul, reduceSub, reduceIte, cpre, cpost]
    rw [W_block]
    refine W_loop2 (fun k fr Y => ∃ i y11 y12 y13 y24 y25 vl' rs', fr = [ptr b 0, x1, x2, x3, x4, x5, x6, x7, x8, ptr K.n 0, x10, y11, y12, y13, x14, x15, x16, x17, x18, x19, x20, x21, x22, x23, y24, y25, x26, x27] ∧ REn A K Y b vb vo inn vl' D ⟨t, f, rs', 0⟩ ∧ rs'.length = i ∧ (∀ s ∈ rs', s.length ≤ 232) ∧ i ≤ D.bl.length - 2 ∧ k = D.bl.length - 2 - i ∧ recsW D f (D.bl.length - 2) [] = recsW D f (D.bl.length - 2 - i) rs') (D.bl.length - 2) ⟨0, _, _, _, _, _, _, [], rfl, h, rfl, by simp, by omega, by omega, rfl⟩ ?_
    rintro Q2 k fr Y ⟨i, y11, y12, y13, y24, y25, vl', rs', rfl, hY, hlen, hle, hi, rfl, hrec⟩ hnx hx hret2
    have lok := hlok rs' (by omega) hle
    have hL := hY.rl lok
    have g := hY.g
    have lr := hL.lr
    have ir := Sl.is hL.sl
    simp (disch := first | assumption | omega | (simp only [LN] <;> omega) | (simp (disch := first | assumption | omega | (simp only [LN] <;> omega)) only [row_alloc, row_set]; assumption)) only [W_block, P3, ↓reduceIte, reduceAdd, reduceEqDiff, reduceCtorEq, initFr, reduceLT, clsA, reduceLeDiff, reduceMul, reduceSub, reduceIte, g, lr]
    refine callK (t77 hL) ?_
    rintro _ X1 ⟨rfl, hX1⟩
    rw [hX1]
    by_cases hlt : i < D.bl.length - 2
    · have d1 : ((rs'.length : Nat) : Int) < ((D.bl.length - 2 : Nat) : Int) := by omega
      obtain ⟨j, hj⟩ : ∃ j, D.bl.length - 2 - i = j + 1 := ⟨D.bl.length - 2 - i - 1, by omega⟩
      have hnext : (⟨t, f, rs', 0⟩ : Lg).next = f + rs'.length := rfl
      have hj2 : j = D.bl.length - 2 - (i + 1) := by omega
      rw [hj, recsW_s] at hrec
      have hat : atW D (f + rs'.length) < D.bl.length := by
        have := Nat.mod_lt (f + rs'.length - 1) (show 0 < D.bl.length - 2 by omega)
        unfold atW; omega
      have ha := askD_in ho hat
      have es := e_str [] D _ ha
      have hr := hY.ok.rd hat
      simp (disch := first | assumption | omega | (simp only [LN] <;> omega) | (simp (disch := first | assumption | omega | (simp only [LN] <;> omega)) only [row_alloc, row_set]; assumption)) only [W_block, P3, ↓reduceIte, reduceAdd, reduceEqDiff, reduceCtorEq, initFr, reduceLT, clsA, reduceLeDiff, reduceMul, reduceSub, reduceIte]
      refine ⟨by simp, ?_⟩
      refine callK (t79 hL) ?_
      rintro _ X1 ⟨rfl, hX1⟩
      rw [hX1, hnext]
      simp (disch := first | assumption | omega | (simp only [LN] <;> omega) | (simp (disch := first | assumption | omega | (simp only [LN] <;> omega)) only [row_alloc, row_set]; assumption)) only [W_block, P3, ↓reduceIte, reduceAdd, reduceEqDiff, reduceCtorEq, initFr, reduceLT, clsA, reduceLeDiff, reduceMul, reduceSub, reduceIte]
      refine callK (t78 hL (f + rs'.length) (by omega) (by omega)) ?_
      rintro _ X1 ⟨rfl, hX1⟩
      rw [hX1]
      simp (disch := first | assumption | omega | (simp only [LN] <;> omega) | (simp (disch := first | assumption | omega | (simp only [LN] <;> omega)) only [row_alloc, row_set]; assumption)) only [W_block, P3, ↓reduceIte, reduceAdd, reduceEqDiff, reduceCtorEq, initFr, reduceLT, clsA, reduceLeDiff, reduceMul, reduceSub, reduceIte]
      refine callK (t73 hY.e ((atW D (f + rs'.length) : Nat) : Int)) ?_
      rintro _ X1 ⟨rfl, hX1⟩
      rw [hX1, es, ha]
      simp (disch := first | assumption | omega | (simp only [LN] <;> omega) | (simp (disch := first | assumption | omega | (simp only [LN] <;> omega)) only [row_alloc, row_set]; assumption)) only [W_block, P3, ↓reduceIte, reduceAdd, reduceEqDiff, reduceCtorEq, initFr, reduceLT, clsA, reduceLeDiff, reduceMul, reduceSub, reduceIte]
      refine callK (t80 _ (rdB D (atW D (f + rs'.length))) hr) ?_
      rintro _ X1 ⟨rfl, hX1⟩
      rw [hX1]
      simp (disch := first | assumption | omega | (simp only [LN] <;> omega) | (simp (disch := first | assumption | omega | (simp only [LN] <;> omega)) only [row_alloc, row_set]; assumption)) only [W_block, P3, ↓reduceIte, reduceAdd, reduceEqDiff, reduceCtorEq, initFr, reduceLT, clsA, reduceLeDiff, reduceMul, reduceSub, reduceIte]
      refine callK (t79 hL) ?_
      rintro _ X1 ⟨rfl, hX1⟩
      rw [hX1, hnext]
      have hrl := recW_le (rdB D (atW D (f + rs'.length)))
      by_cases hk1 : (recW (rdB D (atW D (f + rs'.length)))).1 = f + rs'.length
      · have d2 : ((((recW (rdB D (atW D (f + rs'.length)))).1 : Nat) : Int) != ((f + rs'.length : Nat) : Int)) = false := bnei_no (by rw [hk1])
        rw [if_pos hk1] at hrec
        generalize (recW (rdB D (atW D (f + rs'.length)))).2 = l at *
        have hfy : ∀ s : ByteArray, fillA [.string ByteArray.empty] [(0, 1, .string s)] = some [.string s] := fun s => rfl
        simp (disch := first | assumption | omega | (simp only [LN] <;> omega) | (simp (disch := first | assumption | omega | (simp only [LN] <;> omega)) only [row_alloc, row_set]; assumption)) only [W_block, P3, ↓reduceIte, reduceAdd, reduceEqDiff, reduceCtorEq, initFr, reduceLT, clsA, reduceLeDiff, reduceMul, reduceSub, reduceIte, d2, g, hfy]
        have kk3 := (Keeps.refl Y).alloc (.cells true false 1 [.string ⟨l.toArray⟩] 9)
        refine appG (bytes := 16) (hL.a.keeps kk3) ⟨_, _, rfl⟩ (elems_new (n := 1) rfl rfl) rfl (by show (rs'.length + 1) * 16 ≤ 140737488355328 ∧ rs'.length + 1 ≤ 140737488355328; omega) ?_
        rintro vl2 K4 hap hch hbl
        generalize Y.alloc (.cells true false 1 [.string ⟨l.toArray⟩] 9) = X3 at *
        have c4 : Chg (blkL vl') Y K4 := (kk3.chg _).trans hch (fun z hz => .inl hz)
        have g4 := c4.at_ g hL.ln
        have lb4 := AHeap.get_lt g4
        obtain ⟨av, hav⟩ := hap.shape
        have orv : vl2.oneCell' = true := by rw [hav]; rfl
        simp (disch := first | assumption | omega | (simp only [LN] <;> omega) | (simp (disch := first | assumption | omega | (simp only [LN] <;> omega)) only [row_alloc, row_set]; assumption)) only [W_block, P3, ↓reduceIte, reduceAdd, reduceEqDiff, reduceCtorEq, initFr, reduceLT, clsA, reduceLeDiff, reduceMul, reduceSub, reduceIte, g4, orv]
        have R := RlR.recs (L' := ⟨t, f, rs' ++ [l], 0⟩) hY.u ⟨_, g4⟩ c4 (by
          simp only [List.length_append, List.length_cons, List.length_nil, List.map_append]
          exact hap) (fun z hz => by
          rcases hbl with h5 | h5
          · exact .inl (by rw [mem_blkL, ← h5]; exact mem_blkL.1 hz)
          · have : z = X3.n := by have := mem_blkL.1 hz; rw [h5] at this; cases this; rfl
            exact .inr (by have := kk3.n; omega))
        exact hnx _ _ _ ⟨i + 1, _, _, _, _, _, vl2, rs' ++ [l], rfl, ⟨R, hY.ok, hY.i, hY.n3⟩, by simp [hlen], fun s hs => by
          rcases List.mem_append.1 hs with hs | hs
          · exact hle s hs
          · rw [List.mem_singleton.1 hs]; exact hrl.2, by omega, rfl, by rw [hrec, hj2]⟩ (by omega)
      · have d2 : ((((recW (rdB D (atW D (f + rs'.length)))).1 : Nat) : Int) != ((f + rs'.length : Nat) : Int)) = true := bnei_yes (by omega)
        rw [if_neg hk1] at hrec
        rw [hrec] at hk
        simp (disch := first | assumption | omega | (simp only [LN] <;> omega) | (simp (disch := first | assumption | omega | (simp only [LN] <;> omega)) only [row_alloc, row_set]; assumption)) only [W_block, P3, ↓reduceIte, reduceAdd, reduceEqDiff, reduceCtorEq, initFr, reduceLT, clsA, reduceLeDiff, reduceMul, reduceSub, reduceIte, d2]
        refine hx 0 _ _ ?_
        exact hk _ _ ⟨_, _, _, _, _, _, rfl, hY, lok⟩
    · have d1 : ¬ ((rs'.length : Nat) : Int) < ((D.bl.length - 2 : Nat) : Int) := by omega
      have e : i = D.bl.length - 2 := by omega
      subst e
      rw [Nat.sub_self, recsW_0] at hrec
      rw [hrec] at hk
      simp (disch := first | assumption | omega | (simp only [LN] <;> omega) | (simp (disch := first | assumption | omega | (simp only [LN] <;> omega)) only [row_alloc, row_set]; assumption)) only [W_block, P3, ↓reduceIte, reduceAdd, reduceEqDiff, reduceCtorEq, initFr, reduceLT, clsA, reduceLeDiff, reduceMul, reduceSub, reduceIte]
      refine ⟨by simp, ?_⟩
      refine hx 0 _ _ ?_
      exact hk _ _ ⟨_, _, _, _, _, _, rfl, hY, lok⟩
  · rintro fr Y ⟨y11, y12, y13, y24, y25, vl', rfl, hY, lok⟩
    exact rlRing hY lok ho hq2
end
end Go.AM.Fd

set_option linter.unusedSimpArgs false
set_option linter.unusedVariables false
namespace Go.AM.Fd
open Nat (reduceAdd reduceEqDiff reduceLT reduceLeDiff reduceMul reduceSub)
open Go.Proofs Go.AM.F
section
variable {K : AHeap} {b : Nat} {vb vo : Value} {inn : Int} {D : Dk}
set_option maxRecDepth 20000 in
theorem t14 (h : EkR K b vb vo inn D) (hs : D.st < 999999) (hm : D.op.length < 999999) : ∃ w K', ARun Go.Proofs.Tryz.prog 0 14 [ptr b 0] K w K' ∧ ROpenR (ekT b vb vo inn D) K K' b vb (openW D) w := by
  refine walk2 f14_ok f14_n ?_
  intro Q hq1 hq2
  have g := h.g
  have ib := Sl.is h.sb
  have lb2 : lenS vb = D.bl.length := by have := Sl.len h.sb; simpa using this
  by_cases c1 : D.bl.length < 3
  · have d1 : ((D.bl.length : Nat) : Int) < 3 := by omega
    have e : openW D = (D, none, 2) := by unfold openW; rw [if_pos c1]
    rw [e] at hq2
    simp (disch := first | assumption | omega | (simp only [LN] <;> omega) | (simp (disch := first | assumption | omega | (simp only [LN] <;> omega)) only [row_alloc, row_set]; assumption)) only [f14, W_block, P3, ↓reduceIte, reduceAdd, reduceEqDiff, reduceCtorEq, initFr, reduceLT, clsA, reduceLeDiff, reduceMul, reduceSub, reduceIte, g, lb2]
    exact hq2 _ _ ⟨_, rfl, rfl, vo, inn, h, Upd.refl h.s⟩
  by_cases c2 : D.off = true
  · have d1 : ¬ ((D.bl.length : Nat) : Int) < 3 := by omega
    have e : openW D = (D, none, 140) := by unfold openW; rw [if_neg c1, if_pos c2]
    rw [e] at hq2
    simp (disch := first | assumption | omega | (simp only [LN] <;> omega) | (simp (disch := first | assumption | omega | (simp only [LN] <;> omega)) only [row_alloc, row_set]; assumption)) only [f14, W_block, P3, ↓reduceIte, reduceAdd, reduceEqDiff, reduceCtorEq, initFr, reduceLT, clsA, reduceLeDiff, reduceMul, reduceSub, reduceIte, g, lb2, c2]
    exact hq2 _ _ ⟨_, rfl, rfl, vo, inn, h, Upd.refl h.s⟩
  have c3 : D.off = false := by simpa using c2
  have d1 : ¬ ((D.bl.length : Nat) : Int) < 3 := by omega
  have a0 := askD_in c3 (show 0 < D.bl.length by omega)
  have a1 := askD_in c3 (show 1 < D.bl.length by omega)
  have e0 := e_str [] D 0 a0
  have e1 := e_str [] D 1 a1
  have r0 := h.ok.rd (show 0 < D.bl.length by omega)
  have r1 := h.ok.rd (show 1 < D.bl.length by omega)
  have hop : openW D = if (headsW D).1 = 0 then (if (zeroW (rdB D 0) && zeroW (rdB D 1)) = false then (D, none, 151) else if (wlD D 1 (headB 1 1)).2 ≠ 0 then ((wlD D 1 (headB 1 1)).1, none, (wlD D 1 (headB 1 1)).2) else open2 (wlD D 1 (headB 1 1)).1 1 1) else open2 D (headsW D).1 (headsW D).2 := by
    unfold openW; rw [if_neg c1, if_neg c2]
  have hle := hdW_le D 2
  rw [hdW_2] at hle
  refine W_part 9 (fun fr X => ∃ x1 x2 x5 x6 x7 x8 x10 x11 x12 x13 x14 x15 x16 x17 x18 x19 x20 x21 x22 x23 x24 x25 x26 x27, fr = [ptr b 0, x1, x2, .string ⟨(rdB D 0).toArray⟩, .string ⟨(rdB D 1).toArray⟩, x5, x6, x7, x8, ptr K.n 0, x10, x11, x12, x13, x14, x15, x16, x17, x18, x19, x20, x21, x22, x23, x24, x25, x26, x27] ∧ REn (ekT b vb vo inn D) K X b vb vo inn (.slice none 0 0) D ⟨(headsW D).1, (headsW D).2, [], 0⟩) (by kernel_rfl) ?_ ?_
  · intro Q' hk hex hret
    simp (disch := first | assumption | omega | (simp only [LN] <;> omega) | (simp (disch := first | assumption | omega | (simp only [LN] <;> omega)) only [row_alloc, row_set]; assumption)) only [f14, W_block, P3, ↓reduceIte, reduceAdd, reduceEqDiff, reduceCtorEq, initFr, reduceLT, clsA, reduceLeDiff, reduceMul, reduceSub, reduceIte, cpre, g, lb2, c3]
    refine callK (t73 h ((0 : Nat) : Int)) ?_
    rintro _ X1 ⟨rfl, hX1⟩
    rw [hX1, e0, a0]
    simp (disch := first | assumption | omega | (simp only [LN] <;> omega) | (simp (disch := first | assumption | omega | (simp only [LN] <;> omega)) only [row_alloc, row_set]; assumption)) only [W_block, P3, ↓reduceIte, reduceAdd, reduceEqDiff, reduceCtorEq, initFr, reduceLT, clsA, reduceLeDiff, reduceMul, reduceSub, reduceIte]
    refine callK (t73 h ((1 : Nat) : Int)) ?_
    rintro _ X1 ⟨rfl, hX1⟩
    rw [hX1, e1, a1]
    simp (disch := first | assumption | omega | (simp only [LN] <;> omega) | (simp (disch := first | assumption | omega | (simp only [LN] <;> omega)) only [row_alloc, row_set]; assumption)) only [W_block, P3, ↓reduceIte, reduceAdd, reduceEqDiff, reduceCtorEq, initFr, reduceLT, clsA, reduceLeDiff, reduceMul, reduceSub, reduceIte]
    refine callK (t74 _ (rdB D 0) r0) ?_
    rintro _ X1 ⟨rfl, hX1⟩
    rw [hX1]
    simp (disch := first | assumption | omega | (simp only [LN] <;> omega) | (simp (disch := first | assumption | omega | (simp only [LN] <;> omega)) only [row_alloc, row_set]; assumption)) only [W_block, P3, ↓reduceIte, reduceAdd, reduceEqDiff, reduceCtorEq, initFr, reduceLT, clsA, reduceLeDiff, reduceMul, reduceSub, reduceIte]
    refine callK (t74 _ (rdB D 1) r1) ?_
    rintro _ X1 ⟨rfl, hX1⟩
    rw [hX1]
    have hfb : ∀ p q : Int, fillA [.pointer none, .int .i64 0, .int .i64 0, .slice none 0 0, .int .i64 0] [(0, 1, ptr b 0), (1, 1, .int .i64 p), (2, 1, .int .i64 q)] = some [ptr b 0, .int .i64 p, .int .i64 q, .slice none 0 0, .int .i64 0] := fun p q => rfl
    have hhs : headsW D = if (headW (rdB D 0)).1 < (headW (rdB D 1)).1 then headW (rdB D 1) else headW (rdB D 0) := rfl
    generalize headW (rdB D 0) = p0 at *
    generalize headW (rdB D 1) = p1 at *
    obtain ⟨K1, hK1⟩ : ∃ Y, Y = K.alloc (.cells true false 5 [ptr b 0, .int .i64 (p0.1 : Nat), .int .i64 (p0.2 : Nat), .slice none 0 0, .int .i64 0] 133) := ⟨_, rfl⟩
    have k1 : Keeps K K1 := by rw [hK1]; exact (Keeps.refl K).alloc _
    have g1 : K1.get K.n = some (.cells true false 5 [ptr b 0, .int .i64 (p0.1 : Nat), .int .i64 (p0.2 : Nat), .slice none 0 0, .int .i64 0] 133) := by rw [hK1]; exact AHeap.get_alloc_new K _
    have s0 := Upd.add (t := thA 9 1 (.slice none 0 0) 0 []) (Upd.refl h.s) (Keeps.refl K) (.inl ⟨rfl, rfl, rfl⟩) (fun z hz => by cases hz)
    have s1 := Upd.add (t := thB K.n (.cells true false 5 (rlC b (.slice none 0 0) ⟨p0.1, p0.2, [], 0⟩) 133)) s0 k1 g1 (by simp [thB])
    have hE : REn (ekT b vb vo inn D) K K1 b vb vo inn (.slice none 0 0) D ⟨p0.1, p0.2, [], 0⟩ := ⟨s1, h.ok, h.i, by omega⟩
    simp (disch := first | assumption | omega | (simp only [LN] <;> omega) | (simp (disch := first | assumption | omega | (simp only [LN] <;> omega)) only [row_alloc, row_set]; assumption)) only [W_block, P3, ↓reduceIte, reduceAdd, reduceEqDiff, reduceCtorEq, initFr, reduceLT, clsA, reduceLeDiff, reduceMul, reduceSub, reduceIte, hfb]
    rw [← hK1]
    by_cases hgt : p0.1 < p1.1
    · rw [if_pos hgt] at hhs
      have d2 : ((p0.1 : Nat) : Int) < ((p1.1 : Nat) : Int) := by omega
      have hE2 := hE.set p1.1 p1.2
      rw [hhs] at hk
      simp (disch := first | assumption | omega | (simp only [LN] <;> omega) | (simp (disch := first | assumption | omega | (simp only [LN] <;> omega)) only [row_alloc, row_set]; assumption)) only [W_block, P3, ↓reduceIte, reduceAdd, reduceEqDiff, reduceCtorEq, initFr, reduceLT, clsA, reduceLeDiff, reduceMul, reduceSub, reduceIte, g1]
      exact hk _ _ ⟨_, _, _, _, _, _, _, _, _, _, _, _, _, _, _, _, _, _, _, _, _, _, _, _, rfl, hE2⟩
    · rw [if_neg hgt] at hhs
      have d2 : ¬ ((p0.1 : Nat) : Int) < ((p1.1 : Nat) : Int) := by omega
      rw [hhs] at hk
      simp (disch := first | assumption | omega | (simp only [LN] <;> omega) | (simp (disch := first | assumption | omega | (simp only [LN] <;> omega)) only [row_alloc, row_set]; assumption)) only [W_block, P3, ↓reduceIte, reduceAdd, reduceEqDiff, reduceCtorEq, initFr, reduceLT, clsA, reduceLeDiff, reduceMul, reduceSub, reduceIte, g1]
      exact hk _ _ ⟨_, _, _, _, _, _, _, _, _, _, _, _, _, _, _, _, _, _, _, _, _, _, _, _, rfl, hE⟩
  · rintro fr X ⟨x1, x2, x5, x6, x7, x8, x10, x11, x12, x13, x14, x15, x16, x17, x18, x19, x20, x21, x22, x23, x24, x25, x26, x27, rfl, hX⟩
    rw [hop] at hq2
    generalize headsW D = hd at *
    have gX := hX.g
    refine W_part 1 (fun fr Z => ∃ y1 y2 y10 y11 y12 y13 y20 y21 y22 y23 vo' inn' D' t f, fr = [ptr b 0, y1, y2, .string ⟨(rdB D 0).toArray⟩, .string ⟨(rdB D 1).toArray⟩, x5, x6, x7, x8, ptr K.n 0, y10, y11, y12, y13, x14, x15, x16, x17, x18, x19, y20, y21, y22, y23, x24, x25, x26, x27] ∧ REn (ekT b vb vo inn D) K Z b vb vo' inn' (.slice none 0 0) D' ⟨t, f, [], 0⟩ ∧ t ≤ 9000000000000000000 ∧ (1 ≤ f ∧ f ≤ 9000000000000000000) ∧ D'.off = false ∧ (if hd.1 = 0 then (if (zeroW (rdB D 0) && zeroW (rdB D 1)) = false then (D, none, 151) else if (wlD D 1 (headB 1 1)).2 ≠ 0 then ((wlD D 1 (headB 1 1)).1, none, (wlD D 1 (headB 1 1)).2) else open2 (wlD D 1 (headB 1 1)).1 1 1) else open2 D hd.1 hd.2) = open2 D' t f) (by kernel_rfl) ?_ ?_
    · intro Q' hk hex hret
      have hr2 := fun fr H2 h => hret fr H2 (hq2 fr H2 h)
      by_cases ht : hd.1 = 0
      · have d1 : (((hd.1 : Nat) : Int) == 0) = true := by rw [ht]; rfl
        rw [if_pos ht] at hk hr2
        simp (disch := first | assumption | omega | (simp only [LN] <;> omega) | (simp (disch := first | assumption | omega | (simp only [LN] <;> omega)) only [row_alloc, row_set]; assumption)) only [f14, W_block, P3, ↓reduceIte, reduceAdd, reduceEqDiff, reduceCtorEq, initFr, reduceLT, clsA, reduceLeDiff, reduceMul, reduceSub, reduceIte, cpre, cpost, gX, d1]
        refine callK (t75 _ (rdB D 0) (by omega)) ?_
        rintro _ X1 ⟨rfl, hX1⟩
        rw [hX1]
        have z0 : ((rdB D 0).all fun x => x == 0) = zeroW (rdB D 0) := rfl
        have z1 : ((rdB D 1).all fun x => x == 0) = zeroW (rdB D 1) := rfl
        rw [z0]
        have fail : ∀ (Q2 : Prop), zeroW (rdB D 0) = false ∨ zeroW (rdB D 1) = false → (zeroW (rdB D 0) && zeroW (rdB D 1)) = false := fun _ h => by rcases h with h | h <;> simp [h]
        cases q0 : zeroW (rdB D 0) with
        | false =>
          rw [q0, Bool.false_and, if_pos rfl] at hr2
          simp (disch := first | assumption | omega | (simp only [LN] <;> omega) | (simp (disch := first | assumption | omega | (simp only [LN] <;> omega)) only [row_alloc, row_set]; assumption)) only [W_block, P3, ↓reduceIte, reduceAdd, reduceEqDiff, reduceCtorEq, initFr, reduceLT, clsA, reduceLeDiff, reduceMul, reduceSub, reduceIte]
          exact hr2 _ _ ⟨_, rfl, hX.err 151⟩
        | true =>
          simp (disch := first | assumption | omega | (simp only [LN] <;> omega) | (simp (disch := first | assumption | omega | (simp only [LN] <;> omega)) only [row_alloc, row_set]; assumption)) only [W_block, P3, ↓reduceIte, reduceAdd, reduceEqDiff, reduceCtorEq, initFr, reduceLT, clsA, reduceLeDiff, reduceMul, reduceSub, reduceIte]
          refine callK (t75 _ (rdB D 1) (by omega)) ?_
          rintro _ X1 ⟨rfl, hX1⟩
          rw [hX1, z1]
          cases q1 : zeroW (rdB D 1) with
          | false =>
            rw [q0, q1, Bool.and_false, if_pos rfl] at hr2
            simp (disch := first | assumption | omega | (simp only [LN] <;> omega) | (simp (disch := first | assumption | omega | (simp only [LN] <;> omega)) only [row_alloc, row_set]; assumption)) only [W_block, P3, ↓reduceIte, reduceAdd, reduceEqDiff, reduceCtorEq, initFr, reduceLT, clsA, reduceLeDiff, reduceMul, reduceSub, reduceIte]
            exact hr2 _ _ ⟨_, rfl, hX.err 151⟩
          | true =>
            rw [q0, q1, Bool.and_true, if_neg (by simp)] at hr2 hk
            simp (disch := first | assumption | omega | (simp only [LN] <;> omega) | (simp (disch := first | assumption | omega | (simp only [LN] <;> omega)) only [row_alloc, row_set]; assumption)) only [W_block, P3, ↓reduceIte, reduceAdd, reduceEqDiff, reduceCtorEq, initFr, reduceLT, clsA, reduceLeDiff, reduceMul, reduceSub, reduceIte]
            refine callK (t33 _ 1 1 (by omega) (by omega)) ?_
            rintro _ X1 ⟨rfl, hX1⟩
            rw [hX1]
            simp (disch := first | assumption | omega | (simp only [LN] <;> omega) | (simp (disch := first | assumption | omega | (simp only [LN] <;> omega)) only [row_alloc, row_set]; assumption)) only [W_block, P3, ↓reduceIte, reduceAdd, reduceEqDiff, reduceCtorEq, initFr, reduceLT, clsA, reduceLeDiff, reduceMul, reduceSub, reduceIte]
            refine callK (t24 hX.e (by omega) (by omega) ((1 : Nat) : Int) (headB 1 1)) ?_
            rintro _ X2 ⟨rfl, vo2, in2, e2, u2⟩
            obtain ⟨o1, o2, o3, o4⟩ := wlD_ok h.ok hs hm 1 (headB 1 1)
            have U2 := hX.u.trans (u2.extR hX.u.sep)
            have h2 : REn (ekT b vb vo inn D) K X2 b vb vo2 in2 (.slice none 0 0) (wrD D 1 (headB 1 1)).1 ⟨hd.1, hd.2, [], 0⟩ := ⟨U2, e2.ok, e2.i, by rw [wrD_bl]; exact hX.n3⟩
            have g2 := h2.g
            by_cases he : (wrD D 1 (headB 1 1)).2 = 0
            · have ew : wlD D 1 (headB 1 1) = syD (wrD D 1 (headB 1 1)).1 := by unfold wlD; exact if_pos he
              have d2 : ((wrD D 1 (headB 1 1)).2 == 0) = true := beqi_yes he
              have hoff := wlD_off (D := D) (i := 1) (l := headB 1 1)
              rw [ew] at hk hr2 o1 o2 hoff
              simp (disch := first | assumption | omega | (simp only [LN] <;> omega) | (simp (disch := first | assumption | omega | (simp only [LN] <;> omega)) only [row_alloc, row_set]; assumption)) only [W_block, P3, ↓reduceIte, reduceAdd, reduceEqDiff, reduceCtorEq, initFr, reduceLT, clsA, reduceLeDiff, reduceMul, reduceSub, reduceIte, d2]
              refine callK (t76 h2.e o4) ?_
              rintro _ X4 ⟨rfl, vo4, in4, e4, u4⟩
              have U4 := h2.u.trans (u4.extR h2.u.sep)
              have h4 : REn (ekT b vb vo inn D) K X4 b vb vo4 in4 (.slice none 0 0) (syD (wrD D 1 (headB 1 1)).1).1 ⟨hd.1, hd.2, [], 0⟩ := ⟨U4, o1, e4.i, by rw [o2]; exact hX.n3⟩
              have g4 := h4.g
              by_cases he2 : (syD (wrD D 1 (headB 1 1)).1).2 = 0
              · have d3 : ((syD (wrD D 1 (headB 1 1)).1).2 != 0) = false := bnei_no he2
                rw [if_neg (by simp [he2])] at hk
                have h5 := h4.set 1 1
                simp (disch := first | assumption | omega | (simp only [LN] <;> omega) | (simp (disch := first | assumption | omega | (simp only [LN] <;> omega)) only [row_alloc, row_set]; assumption)) only [W_block, P3, ↓reduceIte, reduceAdd, reduceEqDiff, reduceCtorEq, initFr, reduceLT, clsA, reduceLeDiff, reduceMul, reduceSub, reduceIte, d3, g4]
                exact hk _ _ ⟨_, _, _, _, _, _, _, _, _, _, _, _, _, _, _, rfl, h5, by omega, by omega, hoff he2, rfl⟩
              · have d3 : ((syD (wrD D 1 (headB 1 1)).1).2 != 0) = true := bnei_yes he2
                rw [if_pos he2] at hr2
                simp (disch := first | assumption | omega | (simp only [LN] <;> omega) | (simp (disch := first | assumption | omega | (simp only [LN] <;> omega)) only [row_alloc, row_set]; assumption)) only [W_block, P3, ↓reduceIte, reduceAdd, reduceEqDiff, reduceCtorEq, initFr, reduceLT, clsA, reduceLeDiff, reduceMul, reduceSub, reduceIte, d3]
                exact hr2 _ _ ⟨_, rfl, h4.err _⟩
            · have ew : wlD D 1 (headB 1 1) = wrD D 1 (headB 1 1) := by unfold wlD; exact if_neg he
              have d2 : ((wrD D 1 (headB 1 1)).2 == 0) = false := beqi_no he
              have d3 : ((wrD D 1 (headB 1 1)).2 != 0) = true := bnei_yes he
              rw [ew, if_pos he] at hr2
              simp (disch := first | assumption | omega | (simp only [LN] <;> omega) | (simp (disch := first | assumption | omega | (simp only [LN] <;> omega)) only [row_alloc, row_set]; assumption)) only [W_block, P3, ↓reduceIte, reduceAdd, reduceEqDiff, reduceCtorEq, initFr, reduceLT, clsA, reduceLeDiff, reduceMul, reduceSub, reduceIte, d2, d3]
              exact hr2 _ _ ⟨_, rfl, h2.err _⟩
      · have d1 : (((hd.1 : Nat) : Int) == 0) = false := beqi_no (by omega)
        rw [if_neg ht] at hk hr2
        simp (disch := first | assumption | omega | (simp only [LN] <;> omega) | (simp (disch := first | assumption | omega | (simp only [LN] <;> omega)) only [row_alloc, row_set]; assumption)) only [f14, W_block, P3, ↓reduceIte, reduceAdd, reduceEqDiff, reduceCtorEq, initFr, reduceLT, clsA, reduceLeDiff, reduceMul, reduceSub, reduceIte, cpre, cpost, gX, d1]
        exact hk _ _ ⟨_, _, _, _, _, _, _, _, _, _, _, _, _, _, _, rfl, hX, by omega, ⟨hle.2.2 ht, by omega⟩, c3, rfl⟩
    · rintro fr Z ⟨y1, y2, y10, y11, y12, y13, y20, y21, y22, y23, vo', inn', D', t, f, rfl, hZ, b1, b2, b3, b4⟩
      rw [b4] at hq2
      exact rlRecs hZ b1 b2 b3 hq2
end
end Go.AM.Fd

set_option linter.unusedSimpArgs false
set_option linter.unusedVariables false
namespace Go.AM
open Nat (reduceAdd reduceEqDiff reduceLT reduceLeDiff reduceMul reduceSub)
def mutL (o i ix ik ic : Nat) : ACode := .loop (.seq (.seq (.reg [
    ⟨.mov (.fr ik), .tm, none⟩,
    ⟨.mov (.fr ix), .tm, none⟩,
    ⟨.len false (.tm 0), .tm, none⟩,
    ⟨.bin .lss (.tm 2) (.tm 0), .fr ic, none⟩]) <|
    .cond (.fr ic)
      (.skip)
      (.exit o)) <|
    .seq (.block i (.reg [
      ⟨.mov (.fr ix), .tm, none⟩,
      ⟨.mov (.fr ik), .tm, none⟩,
      ⟨.mov (.fr ix), .tm, none⟩,
      ⟨.mov (.fr ik), .tm, none⟩,
      ⟨.iaddr 1 (.tm 1) (.tm 0), .tm, none⟩,
      ⟨.load1 (.tm 0), .tm, none⟩,
      ⟨.bin .add (.tm 0) (.c (.int .u8 1)), .tm, none⟩,
      ⟨.iaddr 1 (.tm 6) (.tm 5), .tm, none⟩,
      ⟨.store1 (.tm 0) (.tm 1), .no, none⟩])) <|
    .reg [
    ⟨.mov (.fr ik), .tm, none⟩,
    ⟨.bin .add (.tm 0) (.c (.int .i64 1)), .tm, none⟩,
    ⟨.mov (.tm 0), .fr ik, none⟩])
variable {P : Program} {ng : Nat} {H : AHeap} {Q : AQ} {fr : List Value}
theorem getD_set_same {l : List Value} {i : Nat} (h : i < l.length) (v : Value) : (l.set i v).getD i undef = v := by
  rw [List.getD_eq_getElem?_getD, List.getElem?_set_self h]; rfl
theorem getD_set_other {l : List Value} {i j : Nat} (h : i ≠ j) (v : Value) : (l.set i v).getD j undef = l.getD j undef := by
  rw [List.getD_eq_getElem?_getD, List.getD_eq_getElem?_getD, List.getElem?_set_ne h]
theorem W_mut (o i ix ik ic : Nat) {v : Value} {e : Nat} {l : List UInt8} (hx : fr.getD ix undef = v) (hk : fr.getD ik undef = .int .i64 0) (hik : ik < fr.length) (hic : ic < fr.length) (h1 : ik ≠ ix) (h2 : ic ≠ ix) (h3 : ic ≠ ik)
    (ha : AP H e 1 v l.length (cellsOf l)) (hl : l.length ≤ 1000000000)
    (hq : ∀ H' l', l'.length = l.length → AP H' e 1 v l.length (cellsOf l') → Chg (blkL v) H H' → Q (.exit o) ((fr.set ik (.int .i64 (l.length : Nat))).set ic (.bool false)) H') : W P ng (mutL o i ix ik ic) Q fr H := by
  have his := ha.bs.sl.is
  have hlen := ha.bs.sl.len
  rw [List.length_map] at hlen
  have hF0 : fr = (fr.set ik (.int .i64 ((0 : Nat) : Int))).set ic (fr.getD ic undef) := by
    apply List.ext_getElem?
    intro j
    rw [List.getElem?_set, List.getElem?_set]
    by_cases e1 : ic = j
    · subst e1
      simp only [if_true, List.length_set, hic]
      rw [List.getD_eq_getElem?_getD, List.getElem?_eq_getElem hic]; rfl
    · simp only [e1, if_false]
      by_cases e2 : ik = j
      · subst e2
        simp only [if_true, hik]
        rw [List.getD_eq_getElem?_getD, List.getElem?_eq_getElem hik] at hk
        rw [List.getElem?_eq_getElem hik]
        exact congrArg some hk
      · simp only [e2, if_false]
  refine W_loop2 (fun q f K => ∃ (j : Nat) (l' : List UInt8) (b : Value), j ≤ l.length ∧ q = l.length - j ∧ l'.length = l.length ∧ AP K e 1 v l.length (cellsOf l') ∧ Chg (blkL v) H K ∧ f = (fr.set ik (.int .i64 (j : Nat))).set ic b) l.length ⟨0, l, _, by omega, rfl, rfl, ha, Chg.refl _ _, hF0⟩ ?_
  rintro Q' q f K ⟨j, l', b, hj, rfl, hl', aK, cK, rfl⟩ hnx hex hrt
  have fx : ∀ a b : Value, ((fr.set ik a).set ic b).getD ix undef = v := fun a b => by rw [getD_set_other h2, getD_set_other h1, hx]
  have fk : ∀ a b : Value, ((fr.set ik a).set ic b).getD ik undef = a := fun a b => by rw [getD_set_other h3, getD_set_same hik]
  have fc : ∀ a b : Value, ((fr.set ik a).set ic b).getD ic undef = b := fun a b => getD_set_same (by rw [List.length_set]; exact hic) b
  have sc : ∀ a b c : Value, ((fr.set ik a).set ic b).set ic c = (fr.set ik a).set ic c := fun a b c => by rw [List.set_set]
  have sk : ∀ a b c : Value, ((fr.set ik a).set ic b).set ik c = (fr.set ik c).set ic b := fun a b c => by rw [List.set_comm _ _ h3, List.set_set]
  by_cases hc : j < l.length
  · rcases aK with ⟨_, h0', _⟩ | ⟨bb, room, rfl, h1', gy⟩
    · omega
    have hj' : j < l'.length := by omega
    have py := AHeap.get_lt gy
    simp (disch := first | assumption | omega | (simp only [LN] <;> omega) | (simp (disch := first | assumption | omega | (simp only [LN] <;> omega)) only [row_alloc, row_set]; assumption)) only [W_block, P3, ↓reduceIte, reduceAdd, reduceEqDiff, reduceCtorEq, initFr, reduceLT, clsA, reduceLeDiff, reduceMul, reduceSub, reduceIte, fx, fk, fc, sc, sk, gy, cells_get hj', inc_byte, cellsOf_length, cells_set, wrap_succ (n := j) (by omega)]
    refine hnx _ _ _ ⟨j + 1, l'.set j (UInt8.ofNat (l'[j].toNat + 1)), _, by omega, rfl, by rw [List.length_set]; exact hl', .inr ⟨bb, room, rfl, by rw [cellsOf_length, List.length_set]; omega, AHeap.get_set_same gy _⟩, ?_, rfl⟩ (by omega)
    exact cK.trans (Chg.set K py _) (fun x hx => .inl (by simp at hx; subst hx; exact mem_blkL.2 rfl))
  · have : j = l.length := by omega
    subst this
    simp (disch := first | assumption | omega | (simp only [LN] <;> omega) | (simp (disch := first | assumption | omega | (simp only [LN] <;> omega)) only [row_alloc, row_set]; assumption)) only [W_block, P3, ↓reduceIte, reduceAdd, reduceEqDiff, reduceCtorEq, initFr, reduceLT, clsA, reduceLeDiff, reduceMul, reduceSub, reduceIte, fx, fk, fc, sc, sk]
    exact hex _ _ _ (hq _ _ hl' aK cK)
end Go.AM

set_option linter.unusedSimpArgs false
set_option linter.unusedVariables false
namespace Go.AM.Fd
open Nat (reduceAdd reduceEqDiff reduceLT reduceLeDiff reduceMul reduceSub)
open Go.Proofs Go.AM.F
section
variable {K : AHeap} {b sb e : Nat} {v vb vo : Value} {ab : Option Nat} {inn : Int} {D : Dk}
theorem t15 (h : DkR K b sb v ab D) (he : EkR K e vb vo inn D) : ∃ w K', ARun Go.Proofs.Tryz.prog 0 15 [ptr b 0, ptr e 0] K w K' ∧ w = .bool true ∧ Keeps K K' := by
  refine walk2 f15_ok f15_n ?_
  intro Q hq1 hq2
  have g := he.g
  have n4 := he.ok.n
  have le := he.lt
  have ib := Sl.is he.sb
  have lb2 : lenS vb = D.bl.length := by have := Sl.len he.sb; simpa using this
  obtain ⟨av, hav⟩ := he.oo.shape
  have io : isS vo = true := by rw [hav]; rfl
  have lo : lenS vo = D.op.length := by rw [hav]; rfl
  clear hav
  simp (disch := first | assumption | omega | (simp only [LN] <;> omega) | (simp (disch := first | assumption | omega | (simp only [LN] <;> omega)) only [row_alloc, row_set]; assumption)) only [f15, W_block, P3, ↓reduceIte, reduceAdd, reduceEqDiff, reduceCtorEq, initFr, reduceLT, clsA, reduceLeDiff, reduceMul, reduceSub, reduceIte]
  refine callK (t81 h) ?_
  rintro _ X ⟨rfl, hX⟩
  rw [hX]
  simp (disch := first | assumption | omega | (simp only [LN] <;> omega) | (simp (disch := first | assumption | omega | (simp only [LN] <;> omega)) only [row_alloc, row_set]; assumption)) only [W_block, P3, ↓reduceIte, reduceAdd, reduceEqDiff, reduceCtorEq, initFr, reduceLT, clsA, reduceLeDiff, reduceMul, reduceSub, reduceIte, g]
  refine callK (t66 h) ?_
  rintro _ X ⟨rfl, hX⟩
  rw [hX]
  have hoff : D.off = true ∨ D.off = false := by cases D.off <;> simp
  have key : ∀ off : Bool, D.off = off → True := fun _ _ => trivial
  rcases hoff with ho | ho
  all_goals
    rw [ho] at g
    rw [ho]
    simp (disch := first | assumption | omega | (simp only [LN] <;> omega) | (simp (disch := first | assumption | omega | (simp only [LN] <;> omega)) only [row_alloc, row_set]; assumption)) only [W_block, P3, ↓reduceIte, reduceAdd, reduceEqDiff, reduceCtorEq, initFr, reduceLT, clsA, reduceLeDiff, reduceMul, reduceSub, reduceIte, g]
    refine callK (t82 h) ?_
    rintro _ X ⟨rfl, hX⟩
    rw [hX]
    simp (disch := first | assumption | omega | (simp only [LN] <;> omega) | (simp (disch := first | assumption | omega | (simp only [LN] <;> omega)) only [row_alloc, row_set]; assumption)) only [ P3, ↓reduceIte, reduceAdd, reduceEqDiff, reduceCtorEq, initFr, reduceLT, clsA, reduceLeDiff, reduceMul, reduceSub, reduceIte, g, lo]
    rw [W_block]
    refine W_loop2 (fun k fr Y => Keeps K Y ∧ ∃ i y4 y5 y6 y7 y9 y10, fr = [ptr b 0, ptr e 0, .bool false, .int .i64 (i : Nat), y4, y5, y6, y7, .bool false, y9, y10] ∧ i ≤ D.bl.length ∧ k = D.bl.length - i) D.bl.length ⟨Keeps.refl K, 0, _, _, _, _, _, _, rfl, by omega, by omega⟩ ?_
    rintro Q2 k fr Y ⟨kY, i, y4, y5, y6, y7, y9, y10, rfl, hi, rfl⟩ hnx hx hret2
    have g2 := kY.at_ g
    have h2 : DkR Y b sb v ab D := ⟨h.s.keeps kY, h.ok⟩
    have he2 : EkR Y e vb vo inn D := ⟨he.s.keeps kY, he.ok, he.i⟩
    by_cases hlt : i < D.bl.length
    · have d1 : (i : Int) < ((D.bl.length : Nat) : Int) := by omega
      have hw : IntKind.i64.wrap ((i : Int) + 1) = ((i + 1 : Nat) : Int) := by rw [wrap_i64 (by omega) (by omega)]; simp
      simp (disch := first | assumption | omega | (simp only [LN] <;> omega) | (simp (disch := first | assumption | omega | (simp only [LN] <;> omega)) only [row_alloc, row_set]; assumption)) only [W_block, P3, ↓reduceIte, reduceAdd, reduceEqDiff, reduceCtorEq, initFr, reduceLT, clsA, reduceLeDiff, reduceMul, reduceSub, reduceIte, g2, lb2]
      refine callK (t67 h2 ((i : Nat) : Int)) ?_
      rintro _ Y2 ⟨k2, x, rfl, hx1, hx2⟩
      simp (disch := first | assumption | omega | (simp only [LN] <;> omega) | (simp (disch := first | assumption | omega | (simp only [LN] <;> omega)) only [row_alloc, row_set]; assumption)) only [W_block, P3, ↓reduceIte, reduceAdd, reduceEqDiff, reduceCtorEq, initFr, reduceLT, clsA, reduceLeDiff, reduceMul, reduceSub, reduceIte]
      refine callK (t73 (⟨he2.s.keeps k2, he2.ok, he2.i⟩ : EkR Y2 e vb vo inn D) ((i : Nat) : Int)) ?_
      rintro _ Y3 ⟨rfl, hY3⟩
      rw [hY3]
      have d2 : (askD D ((i : Nat) : Int) != askD D ((i : Nat) : Int)) = false := bnei_no rfl
      by_cases ha : askD D ((i : Nat) : Int) = 0
      · obtain ⟨bx, vb2, rfl, hvb2⟩ := hx2 ha
        have e1 := a_b2sB bx
        rw [if_pos ha]
        simp (disch := first | assumption | omega | (simp only [LN] <;> omega) | (simp (disch := first | assumption | omega | (simp only [LN] <;> omega)) only [row_alloc, row_set]; assumption)) only [W_block, P3, ↓reduceIte, reduceAdd, reduceEqDiff, reduceCtorEq, initFr, reduceLT, clsA, reduceLeDiff, reduceMul, reduceSub, reduceIte, d2, e1]
        rw [hw]
        exact hnx _ _ _ ⟨kY.trans k2, i + 1, _, _, _, _, _, _, rfl, by omega, rfl⟩ (by omega)
      · have hxe := hx1 ha
        subst hxe
        have e1 := a_b2sB (H := Y2) (v := .slice none 0 0) (l := []) ⟨⟨_, _, rfl⟩, rfl⟩
        rw [if_neg ha]
        simp (disch := first | assumption | omega | (simp only [LN] <;> omega) | (simp (disch := first | assumption | omega | (simp only [LN] <;> omega)) only [row_alloc, row_set]; assumption)) only [W_block, P3, ↓reduceIte, reduceAdd, reduceEqDiff, reduceCtorEq, initFr, reduceLT, clsA, reduceLeDiff, reduceMul, reduceSub, reduceIte, d2, e1]
        rw [hw]
        exact hnx _ _ _ ⟨kY.trans k2, i + 1, _, _, _, _, _, _, rfl, by omega, rfl⟩ (by omega)
    · have d1 : ¬ (i : Int) < ((D.bl.length : Nat) : Int) := by omega
      simp (disch := first | assumption | omega | (simp only [LN] <;> omega) | (simp (disch := first | assumption | omega | (simp only [LN] <;> omega)) only [row_alloc, row_set]; assumption)) only [W_block, P3, ↓reduceIte, reduceAdd, reduceEqDiff, reduceCtorEq, initFr, reduceLT, clsA, reduceLeDiff, reduceMul, reduceSub, reduceIte, g2, lb2]
      refine hx 0 _ _ (show W Go.Proofs.Tryz.prog 0 _ Q _ _ from ?_)
      simp (disch := first | assumption | omega | (simp only [LN] <;> omega) | (simp (disch := first | assumption | omega | (simp only [LN] <;> omega)) only [row_alloc, row_set]; assumption)) only [W_block, P3, ↓reduceIte, reduceAdd, reduceEqDiff, reduceCtorEq, initFr, reduceLT, clsA, reduceLeDiff, reduceMul, reduceSub, reduceIte]
      exact hq2 _ _ ⟨_, rfl, rfl, kY⟩
theorem t16 {lb le2 : Nat} {rv vl : Value} {items : List (Value × List UInt8)} {L : Lg} (h : LgR K lb b sb v ab rv items D L) (he : RlR K le2 e vb vo inn vl D L) : ∃ w K', ARun Go.Proofs.Tryz.prog 0 16 [ptr lb 0, ptr le2 0] K w K' ∧ w = .bool true ∧ Keeps K K' := by
  refine walk2 f16_ok f16_n ?_
  intro Q hq1 hq2
  have g := he.g
  have le := he.lt
  have lok := h.lok
  have d0 : (((L.first : Nat) : Int) != ((L.first : Nat) : Int)) = false := bnei_no rfl
  have d1 : (((L.next : Nat) : Int) != ((L.next : Nat) : Int)) = false := bnei_no rfl
  have d2 : (((D.bl.length - 2 : Nat) : Int) != ((D.bl.length - 2 : Nat) : Int)) = false := bnei_no rfl
  have d3 : (L.br != L.br) = false := bnei_no rfl
  simp (disch := first | assumption | omega | (simp only [LN] <;> omega) | (simp (disch := first | assumption | omega | (simp only [LN] <;> omega)) only [row_alloc, row_set]; assumption)) only [f16, W_block, P3, ↓reduceIte, reduceAdd, reduceEqDiff, reduceCtorEq, initFr, reduceLT, clsA, reduceLeDiff, reduceMul, reduceSub, reduceIte]
  refine callK (t27 h) ?_
  rintro _ X ⟨rfl, hX⟩
  rw [hX]
  simp (disch := first | assumption | omega | (simp only [LN] <;> omega) | (simp (disch := first | assumption | omega | (simp only [LN] <;> omega)) only [row_alloc, row_set]; assumption)) only [W_block, P3, ↓reduceIte, reduceAdd, reduceEqDiff, reduceCtorEq, initFr, reduceLT, clsA, reduceLeDiff, reduceMul, reduceSub, reduceIte, g, d0]
  refine callK (t28 h) ?_
  rintro _ X ⟨rfl, hX⟩
  rw [hX]
  simp (disch := first | assumption | omega | (simp only [LN] <;> omega) | (simp (disch := first | assumption | omega | (simp only [LN] <;> omega)) only [row_alloc, row_set]; assumption)) only [W_block, P3, ↓reduceIte, reduceAdd, reduceEqDiff, reduceCtorEq, initFr, reduceLT, clsA, reduceLeDiff, reduceMul, reduceSub, reduceIte]
  refine callK (t79 he) ?_
  rintro _ X ⟨rfl, hX⟩
  rw [hX]
  simp (disch := first | assumption | omega | (simp only [LN] <;> omega) | (simp (disch := first | assumption | omega | (simp only [LN] <;> omega)) only [row_alloc, row_set]; assumption)) only [W_block, P3, ↓reduceIte, reduceAdd, reduceEqDiff, reduceCtorEq, initFr, reduceLT, clsA, reduceLeDiff, reduceMul, reduceSub, reduceIte, d1]
  refine callK (t29 h) ?_
  rintro _ X ⟨rfl, hX⟩
  rw [hX]
  simp (disch := first | assumption | omega | (simp only [LN] <;> omega) | (simp (disch := first | assumption | omega | (simp only [LN] <;> omega)) only [row_alloc, row_set]; assumption)) only [W_block, P3, ↓reduceIte, reduceAdd, reduceEqDiff, reduceCtorEq, initFr, reduceLT, clsA, reduceLeDiff, reduceMul, reduceSub, reduceIte]
  refine callK (t77 he) ?_
  rintro _ X ⟨rfl, hX⟩
  rw [hX]
  simp (disch := first | assumption | omega | (simp only [LN] <;> omega) | (simp (disch := first | assumption | omega | (simp only [LN] <;> omega)) only [row_alloc, row_set]; assumption)) only [W_block, P3, ↓reduceIte, reduceAdd, reduceEqDiff, reduceCtorEq, initFr, reduceLT, clsA, reduceLeDiff, reduceMul, reduceSub, reduceIte, d2]
  refine callK (t30 h) ?_
  rintro _ X ⟨rfl, hX⟩
  rw [hX]
  have hnx : L.next = L.first + L.rs.length := rfl
  have hw0 : IntKind.i64.wrap (((L.first : Nat) : Int) - 1) = ((L.first : Nat) : Int) - 1 := by have := lok.f; rw [wrap_i64 (by omega) (by omega)]
  simp (disch := first | assumption | omega | (simp only [LN] <;> omega) | (simp (disch := first | assumption | omega | (simp only [LN] <;> omega)) only [row_alloc, row_set]; assumption)) only [W_block, P3, ↓reduceIte, reduceAdd, reduceEqDiff, reduceCtorEq, initFr, reduceLT, clsA, reduceLeDiff, reduceMul, reduceSub, reduceIte, g, d3]
  rw [hw0]
  refine W_loop2 (fun n fr Y => Keeps K Y ∧ ∃ (j : Nat) (k : Int) (y4 y5 y6 y7 y9 y10 y11 : Value), k = ((L.first : Nat) : Int) - 1 + j ∧ fr = [ptr lb 0, ptr le2 0, .bool false, .int .i64 k, y4, y5, y6, y7, .bool false, y9, y10, y11] ∧ j ≤ L.rs.length + 2 ∧ n = L.rs.length + 2 - j) (L.rs.length + 2) ⟨Keeps.refl K, 0, _, _, _, _, _, _, _, _, by simp, rfl, by omega, by omega⟩ ?_
  rintro Q2 n fr Y ⟨kY, j, k, y4, y5, y6, y7, y9, y10, y11, hkj, rfl, hj, rfl⟩ hnx2 hx hret2
  have g2 := kY.at_ g
  have h2 := h.keeps kY
  have he2 := he.keeps kY
  have ir := Sl.is he2.sl
  have lr := he2.lr
  have lf := lok.f
  have lrr := lok.r
  simp (disch := first | assumption | omega | (simp only [LN] <;> omega) | (simp (disch := first | assumption | omega | (simp only [LN] <;> omega)) only [row_alloc, row_set]; assumption)) only [W_block, P3, ↓reduceIte, reduceAdd, reduceEqDiff, reduceCtorEq, initFr, reduceLT, clsA, reduceLeDiff, reduceMul, reduceSub, reduceIte]
  refine callK (t79 he2) ?_
  rintro _ X ⟨rfl, hX⟩
  rw [hX]
  by_cases hlt : j < L.rs.length + 2
  · have e1 : k ≤ ((L.next : Nat) : Int) := by omega
    have hw : IntKind.i64.wrap (k + 1) = k + 1 := wrap_i64 (by omega) (by omega)
    simp (disch := first | assumption | omega | (simp only [LN] <;> omega) | (simp (disch := first | assumption | omega | (simp only [LN] <;> omega)) only [row_alloc, row_set]; assumption)) only [W_block, P3, ↓reduceIte, reduceAdd, reduceEqDiff, reduceCtorEq, initFr, reduceLT, clsA, reduceLeDiff, reduceMul, reduceSub, reduceIte]
    refine callK (t26 h2 k (by omega) (by omega)) ?_
    rintro _ Y2 ⟨k2, y, rfl, ap, fy⟩
    have kk2 := kY.trans k2
    have g3 := kk2.at_ g
    have he3 := he.keeps kk2
    by_cases hr : ((L.first : Nat) : Int) ≤ k ∧ k < ((L.next : Nat) : Int)
    · obtain ⟨hr1, hr2⟩ := hr
      rw [if_pos ⟨hr1, hr2⟩] at ap
      rw [decide_eq_true ⟨hr1, hr2⟩]
      have hi : k.toNat - L.first < L.rs.length := by omega
      obtain ⟨na, ra⟩ := Sl.at_ he3.sl (by omega) (i := k.toNat - L.first) (by simpa using hi)
      simp only [List.getElem_map] at ra
      have hgd : L.rs.getD (k.toNat - L.first) [] = L.rs[k.toNat - L.first] := by simp [List.getD, List.getElem?_eq_getElem hi]
      rw [hgd] at ap
      have hlen : L.rs[k.toNat - L.first].length ≤ 232 := lrr.2 _ (List.getElem_mem hi)
      generalize L.rs[k.toNat - L.first] = l at *
      have hwd : IntKind.i64.wrap (k - ((L.first : Nat) : Int)) = ((k.toNat - L.first : Nat) : Int) := by rw [wrap_i64 (by omega) (by omega)]; omega
      have hlt2 : ((k.toNat - L.first : Nat) : Int) < ((lenS vl : Nat) : Int) := by rw [lr]; omega
      have h0 : (0 : Int) ≤ ((k.toNat - L.first : Nat) : Int) := by omega
      have e2 := a_b2sB ap.bs
      simp (disch := first | assumption | omega | (simp only [LN] <;> omega) | (simp (disch := first | assumption | omega | (simp only [LN] <;> omega)) only [row_alloc, row_set]; assumption)) only [W_block, P3, ↓reduceIte, reduceAdd, reduceEqDiff, reduceCtorEq, initFr, reduceLT, clsA, reduceLeDiff, reduceMul, reduceSub, reduceIte, g3]
      refine callK (t79 he3) ?_
      rintro _ X ⟨rfl, hX⟩
      rw [hX]
      simp (disch := first | assumption | omega | (simp only [LN] <;> omega) | (simp (disch := first | assumption | omega | (simp only [LN] <;> omega)) only [row_alloc, row_set]; assumption)) only [W_block, P3, ↓reduceIte, reduceAdd, reduceEqDiff, reduceCtorEq, initFr, reduceLT, clsA, reduceLeDiff, reduceMul, reduceSub, reduceIte, g3, hwd, na, ra, e2, sV]
      refine W_mut 2 3 4 7 11 rfl rfl (by simp) (by simp) (by decide) (by decide) (by decide) ap (by omega) ?_
      intro Y3 l' hl' ap' c3
      have k3 : Keeps K Y3 := kk2.chg_trans c3 (fun z hz => by have := fy z (mem_blkL.1 hz); have := kY.n; omega)
      show W Go.Proofs.Tryz.prog 0 _ Q2 [ptr lb 0, ptr le2 0, .bool false, .int .i64 k, y, _, _, _, .bool false, _, _, .bool false] Y3
      simp (disch := first | assumption | omega | (simp only [LN] <;> omega) | (simp (disch := first | assumption | omega | (simp only [LN] <;> omega)) only [row_alloc, row_set]; assumption)) only [W_block, P3, ↓reduceIte, reduceAdd, reduceEqDiff, reduceCtorEq, initFr, reduceLT, clsA, reduceLeDiff, reduceMul, reduceSub, reduceIte, hw]
      exact hnx2 _ _ _ ⟨k3, j + 1, k + 1, _, _, _, _, _, _, _, by omega, rfl, by omega, rfl⟩ (by omega)
    · rw [if_neg hr] at ap
      rw [decide_eq_false hr]
      have iy := ap.bs.isS
      have ly : lenS y = 0 := ap.bs.lenS
      have d5 : ¬ (0 : Int) < ((0 : Nat) : Int) := by omega
      by_cases c1 : ((L.first : Nat) : Int) ≤ k
      · have c2 : ¬ k < ((L.next : Nat) : Int) := fun c => hr ⟨c1, c⟩
        simp (disch := first | assumption | omega | (simp only [LN] <;> omega) | (simp (disch := first | assumption | omega | (simp only [LN] <;> omega)) only [row_alloc, row_set]; assumption)) only [W_block, P3, ↓reduceIte, reduceAdd, reduceEqDiff, reduceCtorEq, initFr, reduceLT, clsA, reduceLeDiff, reduceMul, reduceSub, reduceIte, g3]
        refine callK (t79 he3) ?_
        rintro _ X ⟨rfl, hX⟩
        rw [hX]
        simp (disch := first | assumption | omega | (simp only [LN] <;> omega) | (simp (disch := first | assumption | omega | (simp only [LN] <;> omega)) only [row_alloc, row_set]; assumption)) only [W_block, P3, ↓reduceIte, reduceAdd, reduceEqDiff, reduceCtorEq, initFr, reduceLT, clsA, reduceLeDiff, reduceMul, reduceSub, reduceIte, g3, ly]
        refine W_mut 2 3 4 7 11 rfl rfl (by simp) (by simp) (by decide) (by decide) (by decide) ap (by simp) ?_
        intro Y3 l' hl' ap' c3
        have k3 : Keeps K Y3 := kk2.chg_trans c3 (fun z hz => by have := fy z (mem_blkL.1 hz); have := kY.n; omega)
        show W Go.Proofs.Tryz.prog 0 _ Q2 [ptr lb 0, ptr le2 0, .bool false, .int .i64 k, y, _, _, _, .bool false, _, _, .bool false] Y3
        simp (disch := first | assumption | omega | (simp only [LN] <;> omega) | (simp (disch := first | assumption | omega | (simp only [LN] <;> omega)) only [row_alloc, row_set]; assumption)) only [W_block, P3, ↓reduceIte, reduceAdd, reduceEqDiff, reduceCtorEq, initFr, reduceLT, clsA, reduceLeDiff, reduceMul, reduceSub, reduceIte, hw]
        exact hnx2 _ _ _ ⟨k3, j + 1, k + 1, _, _, _, _, _, _, _, by omega, rfl, by omega, rfl⟩ (by omega)
      · simp (disch := first | assumption | omega | (simp only [LN] <;> omega) | (simp (disch := first | assumption | omega | (simp only [LN] <;> omega)) only [row_alloc, row_set]; assumption)) only [W_block, P3, ↓reduceIte, reduceAdd, reduceEqDiff, reduceCtorEq, initFr, reduceLT, clsA, reduceLeDiff, reduceMul, reduceSub, reduceIte, g3, ly]
        refine W_mut 2 3 4 7 11 rfl rfl (by simp) (by simp) (by decide) (by decide) (by decide) ap (by simp) ?_
        intro Y3 l' hl' ap' c3
        have k3 : Keeps K Y3 := kk2.chg_trans c3 (fun z hz => by have := fy z (mem_blkL.1 hz); have := kY.n; omega)
        show W Go.Proofs.Tryz.prog 0 _ Q2 [ptr lb 0, ptr le2 0, .bool false, .int .i64 k, y, _, _, _, .bool false, _, _, .bool false] Y3
        simp (disch := first | assumption | omega | (simp only [LN] <;> omega) | (simp (disch := first | assumption | omega | (simp only [LN] <;> omega)) only [row_alloc, row_set]; assumption)) only [W_block, P3, ↓reduceIte, reduceAdd, reduceEqDiff, reduceCtorEq, initFr, reduceLT, clsA, reduceLeDiff, reduceMul, reduceSub, reduceIte, hw]
        exact hnx2 _ _ _ ⟨k3, j + 1, k + 1, _, _, _, _, _, _, _, by omega, rfl, by omega, rfl⟩ (by omega)
  · have e1 : ¬ k ≤ ((L.next : Nat) : Int) := by omega
    simp (disch := first | assumption | omega | (simp only [LN] <;> omega) | (simp (disch := first | assumption | omega | (simp only [LN] <;> omega)) only [row_alloc, row_set]; assumption)) only [W_block, P3, ↓reduceIte, reduceAdd, reduceEqDiff, reduceCtorEq, initFr, reduceLT, clsA, reduceLeDiff, reduceMul, reduceSub, reduceIte]
    refine hx 0 _ _ (show W Go.Proofs.Tryz.prog 0 _ Q _ _ from ?_)
    simp (disch := first | assumption | omega | (simp only [LN] <;> omega) | (simp (disch := first | assumption | omega | (simp only [LN] <;> omega)) only [row_alloc, row_set]; assumption)) only [W_block, P3, ↓reduceIte, reduceAdd, reduceEqDiff, reduceCtorEq, initFr, reduceLT, clsA, reduceLeDiff, reduceMul, reduceSub, reduceIte]
    exact hq2 _ _ ⟨_, rfl, rfl, kY⟩
end
end Go.AM.Fd

set_option maxRecDepth 100000
set_option maxHeartbeats 0
namespace Go.AM.F
def Z88E : List Value := [(.int .u8 0), (.slice none 0 0), (.int .i64 0), (.slice none 0 0), (.int .u8 0), (.slice none 0 0), (.int .i64 0), (.slice none 0 0), (.int .u8 0), (.slice none 0 0), (.int .i64 0), (.slice none 0 0), (.int .u8 0), (.slice none 0 0), (.int .i64 0), (.slice none 0 0), (.int .u8 0), (.slice none 0 0), (.int .i64 0), (.slice none 0 0), (.int .u8 0), (.slice none 0 0), (.int .i64 0), (.slice none 0 0), (.int .u8 0), (.slice none 0 0), (.int .i64 0), (.slice none 0 0), (.int .u8 0), (.slice none 0 0), (.int .i64 0), (.slice none 0 0), (.int .u8 0), (.slice none 0 0), (.int .i64 0), (.slice none 0 0), (.int .u8 0), (.slice none 0 0), (.int .i64 0), (.slice none 0 0), (.int .u8 0), (.slice none 0 0), (.int .i64 0), (.slice none 0 0), (.int .u8 0), (.slice none 0 0), (.int .i64 0), (.slice none 0 0), (.int .u8 0), (.slice none 0 0), (.int .i64 0), (.slice none 0 0), (.int .u8 0), (.slice none 0 0), (.int .i64 0), (.slice none 0 0), (.int .u8 0), (.slice none 0 0), (.int .i64 0), (.slice none 0 0), (.int .u8 0), (.slice none 0 0), (.int .i64 0), (.slice none 0 0), (.int .u8 0), (.slice none 0 0), (.int .i64 0), (.slice none 0 0), (.int .u8 0), (.slice none 0 0), (.int .i64 0), (.slice none 0 0), (.int .u8 0), (.slice none 0 0), (.int .i64 0), (.slice none 0 0), (.int .u8 0), (.slice none 0 0), (.int .i64 0), (.slice none 0 0), (.int .u8 0), (.slice none 0 0), (.int .i64 0), (.slice none 0 0), (.int .u8 0), (.slice none 0 0), (.int .i64 0), (.slice none 0 0)]
def Z32E : List Value := [(.int .u8 0), (.slice none 0 0), (.int .i64 0), (.slice none 0 0), (.int .u8 0), (.slice none 0 0), (.int .i64 0), (.slice none 0 0), (.int .u8 0), (.slice none 0 0), (.int .i64 0), (.slice none 0 0), (.int .u8 0), (.slice none 0 0), (.int .i64 0), (.slice none 0 0), (.int .u8 0), (.slice none 0 0), (.int .i64 0), (.slice none 0 0), (.int .u8 0), (.slice none 0 0), (.int .i64 0), (.slice none 0 0), (.int .u8 0), (.slice none 0 0), (.int .i64 0), (.slice none 0 0), (.int .u8 0), (.slice none 0 0), (.int .i64 0), (.slice none 0 0)]
def zclE : TypeId → List Value
 | 40 => [(.int .u8 0), (.slice none 0 0), (.int .i64 0), (.slice none 0 0)]
 | 5 => [(.int .u8 0)]
 | _ => []
def zvlE : TypeId → Value
 | _ => undef
def zklE : TypeId → List Nat
 | _ => []
def zrlE : Nat → TypeId → List Value
 | 1, 5 => [(.int .u8 0)]
 | 22, 40 => Z88E
 | 8, 40 => Z32E
 | 4, 3 => [(.int .i64 0), (.int .i64 0), (.int .i64 0), (.int .i64 0)]
 | 3, 38 => [(.slice none 0 0), (.slice none 0 0), (.slice none 0 0)]
 | _, _ => []
noncomputable def f3 : AFunc := by
 refine (fun (_ : Cz zclE zvlE zklE zrlE Go.Proofs.Tryz.prog 0 [0, 1, 4, 5, 6, 7, 8, 9, 10, 11, 12, 13, 19, 38, 66, 74, 83, 84, 96, 101, 115] 3 ?a) => ?a) ?h
 case h =>
 intro zc zv zk zr hc hv hk hr
 conv => lhs; cbv; try simp only [hc, hv, hk, hr, zclE, zvlE, zklE, zrlE]
theorem f3_ok : compF Go.Proofs.Tryz.prog 0 [0, 1, 4, 5, 6, 7, 8, 9, 10, 11, 12, 13, 19, 38, 66, 74, 83, 84, 96, 101, 115] 3 = some f3 := by kernel_rfl
theorem f3_n : argsOK Go.Proofs.Tryz.prog 3 2 = true := by kernel_rfl
noncomputable def f4 : AFunc := by
 refine (fun (_ : Cz zclE zvlE zklE zrlE Go.Proofs.Tryz.prog 0 [0, 2, 4, 5, 7, 8, 10, 11, 12, 13, 14] 4 ?a) => ?a) ?h
 case h =>
 intro zc zv zk zr hc hv hk hr
 conv => lhs; cbv; try simp only [hc, hv, hk, hr, zclE, zvlE, zklE, zrlE]
noncomputable def f9 : AFunc := by
 refine (fun (_ : Cz zclE zvlE zklE zrlE Go.Proofs.Tryz.prog 0 [0, 2, 3, 4, 7, 11, 33] 9 ?a) => ?a) ?h
 case h =>
 intro zc zv zk zr hc hv hk hr
 conv => lhs; cbv; try simp only [hc, hv, hk, hr, zclE, zvlE, zklE, zrlE]
theorem f9_ok : compF Go.Proofs.Tryz.prog 0 [0, 2, 3, 4, 7, 11, 33] 9 = some f9 := by kernel_rfl
theorem f9_n : argsOK Go.Proofs.Tryz.prog 9 1 = true := by kernel_rfl
noncomputable def f10 : AFunc := by
 refine (fun (_ : Cz zclE zvlE zklE zrlE Go.Proofs.Tryz.prog 0 [0, 1, 2, 3, 4, 5, 6, 7, 8, 20, 22, 30] 10 ?a) => ?a) ?h
 case h =>
 intro zc zv zk zr hc hv hk hr
 conv => lhs; cbv; try simp only [hc, hv, hk, hr, zclE, zvlE, zklE, zrlE]
theorem f10_ok : compF Go.Proofs.Tryz.prog 0 [0, 1, 2, 3, 4, 5, 6, 7, 8, 20, 22, 30] 10 = some f10 := by kernel_rfl
theorem f10_n : argsOK Go.Proofs.Tryz.prog 10 0 = true := by kernel_rfl
noncomputable def f25 : AFunc := by
 refine (fun (_ : Cz zclE zvlE zklE zrlE Go.Proofs.Tryz.prog 0 [0, 1, 2, 5, 6, 7, 8, 9, 10, 11, 15, 43] 25 ?a) => ?a) ?h
 case h =>
 intro zc zv zk zr hc hv hk hr
 conv => lhs; cbv; try simp only [hc, hv, hk, hr, zclE, zvlE, zklE, zrlE]
theorem f25_ok : compF Go.Proofs.Tryz.prog 0 [0, 1, 2, 5, 6, 7, 8, 9, 10, 11, 15, 43] 25 = some f25 := by kernel_rfl
theorem f25_n : argsOK Go.Proofs.Tryz.prog 25 3 = true := by kernel_rfl
noncomputable def f88 : AFunc := by
 refine (fun (_ : Cz zclE zvlE zklE zrlE Go.Proofs.Tryz.prog 0 [0, 1, 4, 10] 88 ?a) => ?a) ?h
 case h =>
 intro zc zv zk zr hc hv hk hr
 conv => lhs; cbv; try simp only [hc, hv, hk, hr, zclE, zvlE, zklE, zrlE]
theorem f88_ok : compF Go.Proofs.Tryz.prog 0 [0, 1, 4, 10] 88 = some f88 := by kernel_rfl
theorem f88_n : argsOK Go.Proofs.Tryz.prog 88 2 = true := by kernel_rfl
end Go.AM.F

set_option linter.unusedSimpArgs false
set_option linter.unusedVariables false
namespace Go.AM
open Nat (reduceAdd reduceEqDiff reduceLT reduceLeDiff reduceMul reduceSub)
theorem Upd.side {A A' : List Th} {K K1 K2 : AHeap} {S : List Nat} (u : Upd A A' K K1) (c : Chg S K1 K2) (h : ∀ z ∈ S, K.n ≤ z ∧ z ∉ fp A') : Upd A A' K K2 :=
  ⟨u.sep.chg c fun y hy hy2 => (h y hy2).2 hy, u.chg.trans c fun z hz => .inr (h z hz).1, u.fr⟩
theorem Upd.new {A A' : List Th} {K K1 : AHeap} (u : Upd A A' K K1) {y : Nat} (h1 : y ∉ fp A) (h2 : y < K.n) : y ∉ fp A' := fun h => by
  rcases u.fr y h with h | h
  · exact h1 h
  · omega
end Go.AM
namespace Go.AM.Fd
open Nat (reduceAdd reduceEqDiff reduceLT reduceLeDiff reduceMul reduceSub)
open Go.Proofs Go.AM.F
abbrev pT (lb b sb : Nat) (v : Value) (ab : Option Nat) (rv : Value) (items : List (Value × List UInt8)) (D : Dk) (L : Lg) : List Th := lgT lb b rv items L ++ dkT b sb v ab D
abbrev qT (le e : Nat) (vb vo : Value) (inn : Int) (vl : Value) (D : Dk) (L : Lg) : List Th := rlT le e vl L ++ ekT e vb vo inn D
structure T2 (A : List Th) (H K : AHeap) (lb b sb : Nat) (v : Value) (ab : Option Nat) (rv : Value) (items : List (Value × List UInt8)) (le e : Nat) (vb vo : Value) (inn : Int) (vl : Value) (D : Dk) (L : Lg) : Prop where
  u : Upd A (pT lb b sb v ab rv items D L ++ qT le e vb vo inn vl D L) H K
  ok : D.ok
  n3 : 3 ≤ D.bl.length
  it : items.map (·.2) = L.rs
  lok : L.ok
  i : ∀ n, D.ar = some n → inn = (n : Nat)
def nearW (L : Lg) (n : Int) : Int := if -50 ≤ n ∧ n ≤ 50 then L.first + n else n
section
variable {A : List Th} {H K : AHeap} {lb b sb le e : Nat} {v rv vb vo vl : Value} {ab : Option Nat} {items : List (Value × List UInt8)} {inn : Int} {D : Dk} {L : Lg}
theorem T2.lg (h : T2 A H K lb b sb v ab rv items le e vb vo inn vl D L) : LgR K lb b sb v ab rv items D L := ⟨h.u.sep.left, h.ok, h.n3, h.it, h.lok⟩
theorem T2.rl (h : T2 A H K lb b sb v ab rv items le e vb vo inn vl D L) : RlR K le e vb vo inn vl D L := ⟨h.u.sep.right, h.ok, h.i, h.n3, h.lok⟩
theorem T2.keeps {K' : AHeap} (h : T2 A H K lb b sb v ab rv items le e vb vo inn vl D L) (k : Keeps K K') : T2 A H K' lb b sb v ab rv items le e vb vo inn vl D L := ⟨h.u.keeps' k, h.ok, h.n3, h.it, h.lok, h.i⟩
theorem t88 (h : RlR K le e vb vo inn vl D L) (n : Int) : ∃ w K', ARun Go.Proofs.Tryz.prog 0 88 [ptr le 0, .int .i64 n] K w K' ∧ w = .int .i64 (nearW L n) ∧ K' = K := by
  refine walk2 f88_ok f88_n ?_
  intro Q hq1 hq2
  have g := h.g
  have lok := h.lok.f
  by_cases c1 : -50 ≤ n
  · by_cases c2 : n ≤ 50
    · have hw : IntKind.i64.wrap (((L.first : Nat) : Int) + n) = nearW L n := by unfold nearW; rw [if_pos ⟨c1, c2⟩, wrap_i64 (by omega) (by omega)]
      simp (disch := first | assumption | omega | (simp only [LN] <;> omega) | (simp (disch := first | assumption | omega | (simp only [LN] <;> omega)) only [row_alloc, row_set]; assumption)) only [f88, W_block, P3, ↓reduceIte, reduceAdd, reduceEqDiff, reduceCtorEq, initFr, reduceLT, clsA, reduceLeDiff, reduceMul, reduceSub, reduceIte, g, hw]
      exact hq2 _ _ ⟨_, rfl, rfl, rfl⟩
    · have e : nearW L n = n := by unfold nearW; rw [if_neg (by omega)]
      rw [e] at hq2
      simp (disch := first | assumption | omega | (simp only [LN] <;> omega) | (simp (disch := first | assumption | omega | (simp only [LN] <;> omega)) only [row_alloc, row_set]; assumption)) only [f88, W_block, P3, ↓reduceIte, reduceAdd, reduceEqDiff, reduceCtorEq, initFr, reduceLT, clsA, reduceLeDiff, reduceMul, reduceSub, reduceIte, g]
      exact hq2 _ _ ⟨_, rfl, rfl, rfl⟩
  · have e : nearW L n = n := by unfold nearW; rw [if_neg (by omega)]
    rw [e] at hq2
    simp (disch := first | assumption | omega | (simp only [LN] <;> omega) | (simp (disch := first | assumption | omega | (simp only [LN] <;> omega)) only [row_alloc, row_set]; assumption)) only [f88, W_block, P3, ↓reduceIte, reduceAdd, reduceEqDiff, reduceCtorEq, initFr, reduceLT, clsA, reduceLeDiff, reduceMul, reduceSub, reduceIte, g]
    exact hq2 _ _ ⟨_, rfl, rfl, rfl⟩
def doesW (D : Dk) (L : Lg) (kd : Nat) (l : List UInt8) (n : Int) : Dk × Lg × Int := if kd % 9 = 4 then truncW D L (nearW L n) else appW D L l
theorem T2.far (h : T2 [] H K lb b sb v ab rv items le e vb vo inn vl D L) {z : Nat} (hz : z ∈ fp (pT lb b sb v ab rv items D L ++ qT le e vb vo inn vl D L)) : H.n ≤ z ∧ z < K.n := by
  refine ⟨?_, h.u.sep.lt hz⟩
  rcases h.u.fr z hz with h1 | h1
  · cases h1
  · exact h1
theorem t25 (h : T2 [] H K lb b sb v ab rv items le e vb vo inn vl D L) (hs : D.st < 999999) (hm : D.op.length < 999999) (hT : L.turn < 8999999999999999999) (hF : L.next ≤ 9000000000000000000)
    {kd : Nat} {x fx : Value} {l fs : List UInt8} {n : Int} (hx : BS K x l) (hfx : BS K fx fs) (hl : l.length ≤ 1000000) (hk : kd < 256) (hxH : ∀ z ∈ tb x, z < H.n) :
    ∃ w K', ARun Go.Proofs.Tryz.prog 0 25 [ptr lb 0, ptr le 0, .agg #[.int .u8 (kd : Nat), x, .int .i64 n, fx]] K w K' ∧ w = .bool true ∧ ∃ v' ab' rv' items' vo' inn' vl', T2 [] H K' lb b sb v' ab' rv' items' le e vb vo' inn' vl' (doesW D L kd l n).1 (doesW D L kd l n).2.1 := by
  refine walk2 f25_ok f25_n ?_
  intro Q hq1 hq2
  have ix := hx.isS
  have ifx := hfx.isS
  have ox := one_isS ix
  have ofx := one_isS ifx
  have oo : [Value.int .u8 (kd : Nat), x, .int .i64 n, fx].all Value.oneCell' = true := by simp only [List.all_cons, ox, ofx]; rfl
  have hrem : binA .rem (.int .u8 (kd : Nat)) (.int .u8 9) = some (.int .u8 ((kd % 9 : Nat) : Int)) := b_remn (kd := .u8) (n := kd) (m := 9) (by omega)
  obtain ⟨K1, hK1⟩ : ∃ Y, Y = K.alloc (.cells true false 4 [.int .u8 (kd : Nat), x, .int .i64 n, fx] 40) := ⟨_, rfl⟩
  have k1 : Keeps K K1 := by rw [hK1]; exact (Keeps.refl K).alloc _
  have g1 : K1.get K.n = some (.cells true false 4 [.int .u8 (kd : Nat), x, .int .i64 n, fx] 40) := by rw [hK1]; exact AHeap.get_alloc_new K _
  have h1 := h.keeps k1
  by_cases hc : kd % 9 = 4
  · have ed : doesW D L kd l n = truncW D L (nearW L n) := by unfold doesW; rw [if_pos hc]
    rw [ed] at hq2
    have d1 : (((kd % 9 : Nat) : Int) == 4) = true := beqi_yes (by omega)
    simp (disch := first | assumption | omega | (simp only [LN] <;> omega) | (simp (disch := first | assumption | omega | (simp only [LN] <;> omega)) only [row_alloc, row_set]; assumption)) only [f25, W_block, P3, ↓reduceIte, reduceAdd, reduceEqDiff, reduceCtorEq, initFr, reduceLT, clsA, reduceLeDiff, reduceMul, reduceSub, reduceIte, oo]
    rw [← hK1]
    simp (disch := first | assumption | omega | (simp only [LN] <;> omega) | (simp (disch := first | assumption | omega | (simp only [LN] <;> omega)) only [row_alloc, row_set]; assumption)) only [W_block, P3, ↓reduceIte, reduceAdd, reduceEqDiff, reduceCtorEq, initFr, reduceLT, clsA, reduceLeDiff, reduceMul, reduceSub, reduceIte, g1, hrem, d1]
    refine callK (t88 h1.rl n) ?_
    rintro _ X ⟨rfl, hX⟩
    rw [hX]
    simp (disch := first | assumption | omega | (simp only [LN] <;> omega) | (simp (disch := first | assumption | omega | (simp only [LN] <;> omega)) only [row_alloc, row_set]; assumption)) only [W_block, P3, ↓reduceIte, reduceAdd, reduceEqDiff, reduceCtorEq, initFr, reduceLT, clsA, reduceLeDiff, reduceMul, reduceSub, reduceIte]
    refine callK (t32 h1.lg hs hm hT hF (nearW L n)) ?_
    rintro _ K3 ⟨rfl, v3, ab3, rv3, it3, h3, u3⟩
    have U3 := h1.u.trans (u3.ext h1.u.sep)
    simp (disch := first | assumption | omega | (simp only [LN] <;> omega) | (simp (disch := first | assumption | omega | (simp only [LN] <;> omega)) only [row_alloc, row_set]; assumption)) only [W_block, P3, ↓reduceIte, reduceAdd, reduceEqDiff, reduceCtorEq, initFr, reduceLT, clsA, reduceLeDiff, reduceMul, reduceSub, reduceIte]
    refine callK (t89 ⟨U3.sep.right, h.ok, h.i, h.n3, h.lok⟩ hs hm hT hF (nearW L n)) ?_
    rintro _ K4 ⟨rfl, vo4, in4, vl4, h4, u4⟩
    have U4 := U3.trans (u4.extR U3.sep)
    have d2 : ((truncW D L (nearW L n)).2.2 == (truncW D L (nearW L n)).2.2) = true := beqi_yes rfl
    simp (disch := first | assumption | omega | (simp only [LN] <;> omega) | (simp (disch := first | assumption | omega | (simp only [LN] <;> omega)) only [row_alloc, row_set]; assumption)) only [W_block, P3, ↓reduceIte, reduceAdd, reduceEqDiff, reduceCtorEq, initFr, reduceLT, clsA, reduceLeDiff, reduceMul, reduceSub, reduceIte, d2]
    exact hq2 _ _ ⟨_, rfl, rfl, v3, ab3, rv3, it3, vo4, in4, vl4, U4, h3.ok, h3.n3, h3.it, h3.lok, h4.i⟩
  · have ed : doesW D L kd l n = appW D L l := by unfold doesW; rw [if_neg hc]
    rw [ed] at hq2
    have d1 : (((kd % 9 : Nat) : Int) == 4) = false := beqi_no (by omega)
    simp (disch := first | assumption | omega | (simp only [LN] <;> omega) | (simp (disch := first | assumption | omega | (simp only [LN] <;> omega)) only [row_alloc, row_set]; assumption)) only [f25, W_block, P3, ↓reduceIte, reduceAdd, reduceEqDiff, reduceCtorEq, initFr, reduceLT, clsA, reduceLeDiff, reduceMul, reduceSub, reduceIte, oo]
    rw [← hK1]
    have e1 := a_b2sB (hx.keeps k1)
    have e2 := a_s2bl (H := K1) 5 l
    simp (disch := first | assumption | omega | (simp only [LN] <;> omega) | (simp (disch := first | assumption | omega | (simp only [LN] <;> omega)) only [row_alloc, row_set]; assumption)) only [W_block, P3, ↓reduceIte, reduceAdd, reduceEqDiff, reduceCtorEq, initFr, reduceLT, clsA, reduceLeDiff, reduceMul, reduceSub, reduceIte, g1, hrem, d1, e1, e2]
    obtain ⟨K2, hK2⟩ : ∃ Y, Y = K1.alloc (.cells true true 1 (cellsOf l) 5) := ⟨_, rfl⟩
    have k2 : Keeps K1 K2 := by rw [hK2]; exact (Keeps.refl K1).alloc _
    have by2 : BS K2 (slc K1.n 0 l.length l.length) l := by rw [hK2]; exact bs_new K1 _ true l
    have gy2 : K2.get K1.n = some (.cells true true 1 (cellsOf l) 5) := by rw [hK2]; exact AHeap.get_alloc_new K1 _
    have n1 : K1.n = K.n + 1 := by rw [hK1]; rfl
    have n2 : K2.n = K1.n + 1 := by rw [hK2]; rfl
    have h2 := h1.keeps k2
    have hHn := h.u.chg.n
    have fp1 : ∀ z ∈ fp (pT lb b sb v ab rv items D L), H.n ≤ z ∧ z < K.n := fun z hz => h.far (by rw [fp_app]; exact List.mem_append_left _ hz)
    have fp2 : ∀ z ∈ fp (qT le e vb vo inn vl D L), H.n ≤ z ∧ z < K.n := fun z hz => h.far (by rw [fp_app]; exact List.mem_append_right _ hz)
    rw [← hK2]
    refine callK (t31 h2.lg hs hm by2 hl) ?_
    rintro _ K3 ⟨rfl, v3, ab3, rv3, it3, h3, u3⟩
    have U3 := h2.u.trans (u3.ext h2.u.sep)
    have g3 := u3.chg.at_ (k2.at_ g1) (fun hz => by have := fp1 _ hz; omega)
    have gy3 := u3.chg.at_ gy2 (fun hz => by have := fp1 _ hz; omega)
    have ny3 : K1.n ∉ fp (pT lb b sb v3 ab3 rv3 it3 (appW D L l).1 (appW D L l).2.1) := Upd.new u3 (fun hz => by have := fp1 _ hz; omega) (by omega)
    have bx3 : BS K3 x l := ((hx.keeps k1).keeps k2).chgT u3.chg (fun z hz hz2 => by have := fp1 _ hz2; have := hxH z hz; omega)
    have ay3 : AP K3 5 1 (slc K1.n 0 l.length l.length) l.length (cellsOf l) := .inr ⟨K1.n, true, rfl, by simp [cellsOf], gy3⟩
    have e3 := a_b2sB bx3
    have e4 := a_b2sB ay3.bs
    simp (disch := first | assumption | omega | (simp only [LN] <;> omega) | (simp (disch := first | assumption | omega | (simp only [LN] <;> omega)) only [row_alloc, row_set]; assumption)) only [W_block, P3, ↓reduceIte, reduceAdd, reduceEqDiff, reduceCtorEq, initFr, reduceLT, clsA, reduceLeDiff, reduceMul, reduceSub, reduceIte, g3, e3, e4]
    refine W_mut 0 1 6 9 11 rfl rfl (by simp) (by simp) (by decide) (by decide) (by decide) ay3 (by omega) ?_
    intro K4 l' hl' ap' c4
    replace c4 : Chg [K1.n] K3 K4 := c4
    have U4 := U3.side c4 (fun z hz => by
      rw [List.mem_singleton] at hz; subst hz
      refine ⟨by omega, fun hz2 => ?_⟩
      rw [fp_app] at hz2
      rcases List.mem_append.1 hz2 with hz2 | hz2
      · exact ny3 hz2
      · have := fp2 _ hz2; omega)
    have g4 := c4.at_ g3 (by simp; omega)
    have bx4 : BS K4 x l := bx3.chgT c4 (fun z hz hz2 => by rw [List.mem_singleton] at hz2; have := hxH z hz; omega)
    have e5 := a_b2sB bx4
    show W Go.Proofs.Tryz.prog 0 _ Q [ptr lb 0, ptr le 0, _, ptr K.n 0, _, _, slc K1.n 0 l.length l.length, .int .i64 (appW D L l).2.2, .bool true, _, _, _] K4
    simp (disch := first | assumption | omega | (simp only [LN] <;> omega) | (simp (disch := first | assumption | omega | (simp only [LN] <;> omega)) only [row_alloc, row_set]; assumption)) only [W_block, P3, ↓reduceIte, reduceAdd, reduceEqDiff, reduceCtorEq, initFr, reduceLT, clsA, reduceLeDiff, reduceMul, reduceSub, reduceIte, g4, e5]
    refine callK (t90 ⟨U4.sep.right, h.ok, h.i, h.n3, h.lok⟩ hs hm l hl) ?_
    rintro _ K5 ⟨rfl, vo5, in5, vl5, h5, u5⟩
    have U5 := U4.trans (u5.extR U4.sep)
    have d2 : ((appW D L l).2.2 == (appW D L l).2.2) = true := beqi_yes rfl
    simp (disch := first | assumption | omega | (simp only [LN] <;> omega) | (simp (disch := first | assumption | omega | (simp only [LN] <;> omega)) only [row_alloc, row_set]; assumption)) only [W_block, P3, ↓reduceIte, reduceAdd, reduceEqDiff, reduceCtorEq, initFr, reduceLT, clsA, reduceLeDiff, reduceMul, reduceSub, reduceIte, d2]
    exact hq2 _ _ ⟨_, rfl, rfl, v3, ab3, rv3, it3, vo5, in5, vl5, U5, h3.ok, h3.n3, h3.it, h3.lok, h5.i⟩
end
end Go.AM.Fd

set_option linter.unusedSimpArgs false
set_option linter.unusedVariables false
namespace Go.AM.Fd
open Go.Proofs Go.AM.F
structure D2 (H K : AHeap) (b sb : Nat) (v : Value) (ab : Option Nat) (e : Nat) (vb vo : Value) (inn : Int) (D : Dk) : Prop where
  u : Upd [] (dkT b sb v ab D ++ ekT e vb vo inn D) H K
  ok : D.ok
  i : ∀ n, D.ar = some n → inn = (n : Nat)
theorem perm22 {α : Type} (a b c d : List α) : ((a ++ b) ++ (c ++ d)).Perm ((a ++ c) ++ (b ++ d)) := by
  classical exact List.perm_iff_count.2 fun x => by simp only [List.count_append]; omega
section
variable {H K : AHeap} {lb b sb le e : Nat} {v rv vb vo vl : Value} {ab : Option Nat} {items : List (Value × List UInt8)} {inn : Int} {D : Dk} {L : Lg}
theorem T2.d2 (h : T2 [] H K lb b sb v ab rv items le e vb vo inn vl D L) : D2 H K b sb v ab e vb vo inn D :=
  ⟨(h.u.permR (perm22 _ _ _ _)).dropL, h.ok, h.i⟩
theorem D2.dk (h : D2 H K b sb v ab e vb vo inn D) : DkR K b sb v ab D := ⟨h.u.sep.left, h.ok⟩
theorem D2.ek (h : D2 H K b sb v ab e vb vo inn D) : EkR K e vb vo inn D := ⟨h.u.sep.right, h.ok, h.i⟩
theorem D2.keeps {K' : AHeap} (h : D2 H K b sb v ab e vb vo inn D) (k : Keeps K K') : D2 H K' b sb v ab e vb vo inn D := ⟨h.u.keeps' k, h.ok, h.i⟩
theorem D2.kp (h : D2 H K b sb v ab e vb vo inn D) : Keeps H K := ⟨h.u.chg.n, fun y hy => h.u.chg.get y hy (by simp [fp])⟩
theorem D2.far (h : D2 H K b sb v ab e vb vo inn D) {z : Nat} (hz : z ∈ fp (dkT b sb v ab D ++ ekT e vb vo inn D)) : H.n ≤ z := by
  rcases h.u.fr z hz with h1 | h1
  · cases h1
  · exact h1
def SW (H K : AHeap) (b sb e : Nat) (vb : Value) (D : Dk) (lo : Option Lg) (p5 p7 : Value) (er : Int) : Prop := match lo with
  | none => er ≠ 0 ∧ p5 = .pointer none ∧ p7 = .pointer none ∧ ∃ v ab vo inn, D2 H K b sb v ab e vb vo inn D
  | some L => er = 0 ∧ ∃ lb le v ab rv items vo inn vl, p5 = ptr lb 0 ∧ p7 = ptr le 0 ∧ T2 [] H K lb b sb v ab rv items le e vb vo inn vl D L
theorem SW.d2 {lo : Option Lg} {p5 p7 : Value} {er : Int} (h : SW H K b sb e vb D lo p5 p7 er) : ∃ v ab vo inn, D2 H K b sb v ab e vb vo inn D := by
  cases lo with
  | none => exact h.2.2.2
  | some L =>
    obtain ⟨_, lb, le, v, ab, rv, items, vo, inn, vl, _, _, t⟩ := h
    exact ⟨v, ab, vo, inn, t.d2⟩
theorem SW.keeps {K' : AHeap} {lo : Option Lg} {p5 p7 : Value} {er : Int} (h : SW H K b sb e vb D lo p5 p7 er) (k : Keeps K K') : SW H K' b sb e vb D lo p5 p7 er := by
  cases lo with
  | none =>
    obtain ⟨h1, h2, h3, v, ab, vo, inn, d⟩ := h
    exact ⟨h1, h2, h3, v, ab, vo, inn, d.keeps k⟩
  | some L =>
    obtain ⟨h0, lb, le, v, ab, rv, items, vo, inn, vl, h1, h2, t⟩ := h
    exact ⟨h0, lb, le, v, ab, rv, items, vo, inn, vl, h1, h2, t.keeps k⟩
def ErOk (r : Dk × Option Lg × Int) : Prop := match r.2.1 with | none => r.2.2 ≠ 0 | some _ => r.2.2 = 0
theorem open2_er (D : Dk) (t f : Nat) : ErOk (open2 D t f) := by
  unfold open2
  split
  · exact (by decide : (151 : Int) ≠ 0)
  · exact rfl
theorem openW_er (D : Dk) : ErOk (openW D) := by
  unfold openW
  split
  · exact (by decide : (2 : Int) ≠ 0)
  · split
    · exact (by decide : (140 : Int) ≠ 0)
    · split
      · split
        · exact (by decide : (151 : Int) ≠ 0)
        · split
          · rename_i h; exact h
          · exact open2_er _ _ _
      · exact open2_er _ _ _
theorem SW.open1 (h : D2 H K b sb v ab e vb vo inn D) {w : Value} {K1 : AHeap} (ho : OpenR (dkT b sb v ab D) K K1 b sb (openW D) w) : ∃ p, w = .tuple #[p, .int .i64 (openW D).2.2] ∧ EkR K1 e vb vo inn D ∧ Keeps H K1 ∧
    ∀ {w2 : Value} {K2 : AHeap}, ROpenR (ekT e vb vo inn D) K1 K2 e vb (openW D) w2 → ∃ p2, w2 = .tuple #[p2, .int .i64 (openW D).2.2] ∧ SW H K2 b sb e vb (openW D).1 (openW D).2.1 p p2 (openW D).2.2 := by
  have her := openW_er D
  unfold OpenR at ho
  unfold ErOk at her
  cases hl : (openW D).2.1 with
  | none =>
    rw [hl] at ho her
    obtain ⟨rfl, o1, v', ab', u1⟩ := ho
    have U1 := h.u.trans (u1.ext h.u.sep)
    refine ⟨_, rfl, ⟨U1.sep.right, h.ok, h.i⟩, ⟨U1.chg.n, fun y hy => U1.chg.get y hy (by simp [fp])⟩, fun {w2 K2} h2 => ?_⟩
    unfold ROpenR at h2
    rw [hl] at h2
    obtain ⟨rfl, vo', inn', e2, u2⟩ := h2
    exact ⟨_, rfl, her, rfl, rfl, v', ab', vo', inn', U1.trans (u2.extR U1.sep), o1, e2.i⟩
  | some L =>
    rw [hl] at ho her
    obtain ⟨lb, v', ab', rv, items, rfl, hlb, h1, u1⟩ := ho
    have U1 := h.u.trans (u1.ext h.u.sep)
    rw [her]
    refine ⟨_, rfl, ⟨U1.sep.right, h.ok, h.i⟩, ⟨U1.chg.n, fun y hy => U1.chg.get y hy (by simp [fp])⟩, fun {w2 K2} h2 => ?_⟩
    unfold ROpenR at h2
    rw [hl] at h2
    obtain ⟨le, vo', inn', vl, rfl, hle, r2, u2⟩ := h2
    exact ⟨_, rfl, rfl, lb, le, v', ab', rv, items, vo', inn', vl, rfl, rfl, U1.trans (u2.extR U1.sep), h1.ok, h1.n3, h1.it, h1.lok, r2.i⟩
end
end Go.AM.Fd

set_option linter.unusedSimpArgs false
set_option linter.unusedVariables false
namespace Go.AM.Fd
open Go.Proofs Go.AM.F
structure Bnd (D : Dk) (lo : Option Lg) (m : Nat) : Prop where
  s : D.st ≤ 3 * m
  o : D.op.length ≤ 3 * m
  l : ∀ L, lo = some L → L.turn ≤ 4611686018427387904 + m ∧ L.next ≤ 4611686018427392000 + m
theorem wrD_b (D : Dk) (i : Int) (b : List UInt8) : (wrD D i b).1.st ≤ D.st + 1 ∧ (wrD D i b).1.op.length ≤ D.op.length + 1 := by
  unfold wrD
  split
  · exact ⟨by simp, by simp⟩
  · split
    · exact ⟨by simp, by simp⟩
    · obtain ⟨_, b2, b3⟩ := stepD_bl ⟨D.bl, D.op ++ [(i.toNat, padB b)], D.st, D.ar, D.off⟩
      refine ⟨by simp only [b3]; exact Nat.le_refl _, by simp only [b2]; simp⟩
theorem syD_b (D : Dk) : (syD D).1.st ≤ D.st + 1 ∧ (syD D).1.op.length ≤ D.op.length := by
  obtain ⟨_, b2, b3⟩ := stepD_bl D
  unfold syD
  split
  · exact ⟨by simp, by simp⟩
  · split
    · exact ⟨by simp only [b3]; omega, by simp only [b2]; omega⟩
    · exact ⟨by simp only [settD, b3]; omega, by simp [settD]⟩
theorem wlD_b (D : Dk) (i : Nat) (b : List UInt8) : (wlD D i b).1.st ≤ D.st + 2 ∧ (wlD D i b).1.op.length ≤ D.op.length + 1 := by
  have h1 := wrD_b D (i : Nat) b
  have h2 := syD_b (wrD D (i : Nat) b).1
  unfold wlD
  split
  · exact ⟨by omega, by omega⟩
  · exact ⟨by omega, by omega⟩
theorem open2_b {D : Dk} (h : D.ok) {t f m : Nat} (ht : t ≤ 4611686018427387904) (hf : f ≤ 4611686018427387904) (hs : D.st ≤ 3 * m) (ho : D.op.length ≤ 3 * m) : Bnd (open2 D t f).1 (open2 D t f).2.1 m := by
  have h1 := recsW_len D f (D.bl.length - 2) []
  have h2 := h.n
  unfold open2
  split
  · exact ⟨hs, ho, fun L hL => by cases hL⟩
  · refine ⟨hs, ho, fun L hL => ?_⟩
    cases hL
    simp only [Lg.next]
    simp at h1
    omega
theorem openW_b {D : Dk} (h : D.ok) {m : Nat} (hs : D.st ≤ 3 * m + 1) (ho : D.op.length ≤ 3 * m + 1) (hs2 : D.st < 999999) (ho2 : D.op.length < 999999) : Bnd (openW D).1 (openW D).2.1 (m + 1) := by
  have hw := wlD_b D 1 (headB 1 1)
  have hok := (wlD_ok h hs2 ho2 1 (headB 1 1)).1
  have hh := hdW_le D 2
  rw [hdW_2] at hh
  unfold openW
  split
  · exact ⟨by simp only; omega, by simp only; omega, fun L hL => by cases hL⟩
  · split
    · exact ⟨by simp only; omega, by simp only; omega, fun L hL => by cases hL⟩
    · split
      · split
        · exact ⟨by simp only; omega, by simp only; omega, fun L hL => by cases hL⟩
        · split
          · exact ⟨by simp only; omega, by simp only; omega, fun L hL => by cases hL⟩
          · exact open2_b hok (by omega) (by omega) (by omega) (by omega)
      · exact open2_b h hh.1 hh.2.1 (by omega) (by omega)
theorem doesW_b {D : Dk} {L : Lg} {m : Nat} (h : Bnd D (some L) m) (kd : Nat) (l : List UInt8) (n : Int) : Bnd (doesW D L kd l n).1 (some (doesW D L kd l n).2.1) (m + 1) := by
  obtain ⟨h1, h2⟩ := h.l L rfl
  have hs := h.s
  have ho := h.o
  unfold doesW
  split
  · unfold truncW
    split
    · exact ⟨by simp only; omega, by simp only; omega, fun L hL => by cases hL; exact ⟨Nat.le_trans h1 (by omega), Nat.le_trans h2 (by omega)⟩⟩
    · split
      · exact ⟨by simp only; omega, by simp only; omega, fun L hL => by cases hL; exact ⟨Nat.le_trans h1 (by omega), Nat.le_trans h2 (by omega)⟩⟩
      · rename_i hr
        have hw := wlD_b D ((L.turn + 1) % 2) (headB (L.turn + 1) (nearW L n).toNat)
        refine ⟨by simp only; omega, by simp only; omega, fun L' hL => ?_⟩
        simp only [Option.some.injEq] at hL
        subst hL
        simp only [not_or, Int.not_lt] at hr
        have hn : L.next = L.first + L.rs.length := rfl
        split
        · refine ⟨by simp only; omega, ?_⟩
          simp only [Lg.next, List.length_drop]
          omega
        · refine ⟨by simp only; omega, ?_⟩
          simp only [Lg.next]
          omega
  · unfold appW
    split
    · exact ⟨by simp only; omega, by simp only; omega, fun L hL => by cases hL; exact ⟨Nat.le_trans h1 (by omega), Nat.le_trans h2 (by omega)⟩⟩
    · split
      · exact ⟨by simp only; omega, by simp only; omega, fun L hL => by cases hL; exact ⟨Nat.le_trans h1 (by omega), Nat.le_trans h2 (by omega)⟩⟩
      · split
        · exact ⟨by simp only; omega, by simp only; omega, fun L hL => by cases hL; exact ⟨Nat.le_trans h1 (by omega), Nat.le_trans h2 (by omega)⟩⟩
        · have hw := wlD_b D (atW D L.next) (recB L.next l)
          have hn : L.next = L.first + L.rs.length := rfl
          refine ⟨by simp only; omega, by simp only; omega, fun L' hL => ?_⟩
          simp only [Option.some.injEq] at hL
          subst hL
          split
          · refine ⟨by simp only; omega, ?_⟩
            simp only [Lg.next, List.length_append, List.length_cons, List.length_nil]
            omega
          · refine ⟨by simp only; omega, ?_⟩
            simp only [Lg.next]
            omega
theorem failD_b {D : Dk} {lo : Option Lg} {m : Nat} (h : Bnd D lo m) (n : Int) : Bnd (failD D n) lo (m + 1) := ⟨by have := h.s; show D.st ≤ _; omega, by have := h.o; show D.op.length ≤ _; omega, fun L hL => by have := h.l L hL; omega⟩
theorem onD_b (D : Dk) (fs : List UInt8) : (onD (crashD D) fs).st = D.st ∧ (onD (crashD D) fs).op.length ≤ D.op.length := by
  have : onD (crashD D) fs = ⟨onB D.bl fs D.op 0, [], D.st, none, false⟩ := by unfold onD; exact if_pos rfl
  rw [this]
  exact ⟨rfl, by simp⟩
end Go.AM.Fd

set_option linter.unusedSimpArgs false
set_option linter.unusedVariables false
namespace Go.AM
inductive CKd
  | int (k : IntKind)
  | bool
  | str
  | sl (t : TypeId)
def ckFs (P : Program) (f : TypeId → Option (List CKd)) : List Field → Nat → Option (List CKd)
  | [], _ => some []
  | fd :: r, off => if fd.offset = off then match f fd.type with
    | some l => if P.cellsOf fd.type = l.length then (ckFs P f r (off + l.length)).map (l ++ ·) else none
    | none => none
    else none
def ckT (P : Program) : Nat → TypeId → Option (List CKd)
  | 0, _ => none
  | d + 1, t => match P.underlying t with
    | some .bool => some [.bool]
    | some (.int k) => some [.int k]
    | some .string => some [.str]
    | some (.slice _) => some [.sl t]
    | some (.struct fs) => match ckFs P (ckT P d) fs.toList 0 with
      | some l => if P.cellsOf t = l.length then some l else none
      | none => none
    | some (.array n e) => match ckT P d e with
      | some l => if P.cellsOf e = l.length ∧ P.cellsOf t = n * l.length then some (List.replicate n l).flatten else none
      | none => none
    | _ => none
def fits (P : Program) (G : Gf) : CKd → Value → Prop
  | .int k, v => ∃ n, v = .int k n ∧ (Lit.int k n).wf = true
  | .bool, v => ∃ b, v = .bool b
  | .str, v => ∃ s, v = .string s ∧ s.size ≤ maxLen ∧ s.size ≤ reachBytes
  | .sl t, v => AR P G t [v]
def fitsL (P : Program) (G : Gf) : List CKd → List Value → Prop
  | [], [] => True
  | k :: ks, v :: vs => fits P G k v ∧ fitsL P G ks vs
  | _, _ => False
section
variable {P : Program} {G : Gf}
theorem fitsL.len : ∀ {ks : List CKd} {cs : List Value}, fitsL P G ks cs → cs.length = ks.length
  | [], [], _ => rfl
  | _ :: ks, _ :: cs, h => by simp [fitsL.len h.2]
theorem fitsL.inv {k : CKd} {ks : List CKd} {cs : List Value} (h : fitsL P G (k :: ks) cs) : ∃ v vs, cs = v :: vs ∧ fits P G k v ∧ fitsL P G ks vs := by
  cases cs with
  | nil => exact h.elim
  | cons v vs => exact ⟨v, vs, rfl, h.1, h.2⟩
theorem fitsL.end_ {cs : List Value} (h : fitsL P G [] cs) : cs = [] := by
  cases cs with
  | nil => rfl
  | cons v vs => exact h.elim
theorem fitsL.app : ∀ {a b : List CKd} {c d : List Value}, fitsL P G a c → fitsL P G b d → fitsL P G (a ++ b) (c ++ d)
  | [], _, [], _, _, h => h
  | _ :: _, _, _ :: _, _, h, k => ⟨h.1, fitsL.app h.2 k⟩
theorem fitsL.split : ∀ {a b : List CKd} {cs : List Value}, fitsL P G (a ++ b) cs → fitsL P G a (cs.take a.length) ∧ fitsL P G b (cs.drop a.length)
  | [], b, cs, h => ⟨by simp [fitsL], by simpa using h⟩
  | k :: a, b, v :: cs, h => by
    have := fitsL.split (a := a) (b := b) (cs := cs) h.2
    exact ⟨⟨h.1, this.1⟩, this.2⟩
theorem fitsL.mono {G' : Gf} (hg : ∀ b o, G b = some o → G' b = some o) : ∀ {ks : List CKd} {cs : List Value}, fitsL P G ks cs → fitsL P G' ks cs
  | [], [], _ => trivial
  | .int _ :: _, _ :: _, h => ⟨h.1, h.2.mono hg⟩
  | .bool :: _, _ :: _, h => ⟨h.1, h.2.mono hg⟩
  | .str :: _, _ :: _, h => ⟨h.1, h.2.mono hg⟩
  | .sl t :: _, v :: _, h => ⟨AR.mono hg (show AR P G t [v] from h.1), h.2.mono hg⟩
theorem fitsL.u8 : ∀ {n : Nat} {cs : List Value}, fitsL P G (List.replicate n (.int .u8)) cs → ∃ l : List UInt8, l.length = n ∧ cs = cellsOf l
  | 0, [], _ => ⟨[], rfl, rfl⟩
  | n + 1, v :: cs, h => by
    obtain ⟨⟨m, rfl, hw⟩, h2⟩ := h
    obtain ⟨l, h3, rfl⟩ := fitsL.u8 h2
    simp only [Lit.wf, Bool.and_eq_true, decide_eq_true_eq, IntKind.min, IntKind.max, IntKind.signed, IntKind.bits] at hw
    obtain ⟨m, rfl⟩ : ∃ k : Nat, m = k := ⟨m.toNat, by simp at hw; omega⟩
    have hm : m % 256 = m := by simp at hw; omega
    exact ⟨UInt8.ofNat m :: l, by simp [h3], by simp [cellsOf, hm]⟩
theorem fits_u {k : IntKind} (hk : k.signed = false) {v : Value} (h : fits P G (.int k) v) : ∃ n : Nat, v = .int k n ∧ n < 2 ^ k.bits := by
  obtain ⟨n, rfl, hw⟩ := h
  simp only [Lit.wf, Bool.and_eq_true, decide_eq_true_eq, IntKind.min, IntKind.max, hk, Bool.false_eq_true, if_false] at hw
  refine ⟨n.toNat, by rw [Int.toNat_of_nonneg hw.1], ?_⟩
  have h1 := hw.1
  have h2 := hw.2
  have : (n.toNat : Int) < ((2 ^ k.bits : Nat) : Int) := by
    rw [Int.toNat_of_nonneg h1]
    push_cast
    omega
  exact Int.ofNat_lt.1 this
theorem fits_u8 {v : Value} (h : fits P G (.int .u8) v) : ∃ n : Nat, v = .int .u8 n ∧ n < 256 := fits_u rfl h
theorem fitsL_fields {f : TypeId → Option (List CKd)} {cs : List Value} : ∀ (fs : List Field) (off : Nat) (ks : List CKd), ckFs P f fs off = some ks → cs.length = off + ks.length →
    (∀ fd ∈ fs, ∀ l, f fd.type = some l → P.cellsOf fd.type = l.length → fitsL P G l ((cs.drop fd.offset).take (P.cellsOf fd.type))) → fitsL P G ks (cs.drop off)
  | [], off, ks, h, hl, _ => by
    simp only [ckFs, Option.some.injEq] at h; subst h
    rw [List.drop_of_length_le (by simp at hl; omega)]; trivial
  | fd :: fs, off, ks, h, hl, hf => by
    simp only [ckFs] at h
    split at h
    · rename_i h1
      split at h
      · rename_i l h2
        split at h
        · rename_i h3
          simp only [Option.map_eq_some_iff] at h
          obtain ⟨r, h4, rfl⟩ := h
          have h5 := hf fd (by simp) l h2 h3
          have h6 := fitsL_fields fs (off + l.length) r h4 (by rw [hl, List.length_append]; omega) (fun x hx => hf x (by simp [hx]))
          rw [h1, h3] at h5
          have := h5.app h6
          rwa [← List.drop_drop, List.take_append_drop] at this
        · cases h
      · cases h
    · cases h
theorem fitsL_rep {l : List CKd} {cs : List Value} : ∀ (n : Nat), (∀ i, i < n → fitsL P G l ((cs.drop (i * l.length)).take l.length)) → fitsL P G (List.replicate n l).flatten (cs.take (n * l.length))
  | 0, _ => by simp [fitsL]
  | n + 1, h => by
    have h1 := fitsL_rep n (fun i hi => h i (by omega))
    rw [List.replicate_succ', List.flatten_append, Nat.add_mul, Nat.one_mul, List.take_add]
    simpa using h1.app (h n (by omega))
theorem AR.flat : ∀ {d : Nat} {t : TypeId} {ks : List CKd} {cs : List Value}, ckT P d t = some ks → AR P G t cs → fitsL P G ks cs
  | 0, t, ks, cs, h, _ => by simp [ckT] at h
  | d + 1, t, ks, cs, h, ha => by
    have ha0 := ha
    cases ha with
    | bool hu => simp only [ckT, hu, Option.some.injEq] at h; subst h; exact ⟨⟨_, rfl⟩, trivial⟩
    | int hu hw => simp only [ckT, hu, Option.some.injEq] at h; subst h; exact ⟨⟨_, rfl, hw⟩, trivial⟩
    | str hu hs => simp only [ckT, hu, Option.some.injEq] at h; subst h; exact ⟨⟨_, rfl, hs⟩, trivial⟩
    | nil hu => simp only [ckT, hu, Option.some.injEq] at h; subst h; exact ⟨ha0, trivial⟩
    | zero hu _ => simp only [ckT, hu, Option.some.injEq] at h; subst h; exact ⟨ha0, trivial⟩
    | sl hu => simp only [ckT, hu, Option.some.injEq] at h; subst h; exact ⟨ha0, trivial⟩
    | struct hu hl hf =>
      rename_i fs
      simp only [ckT, hu] at h
      split at h
      · rename_i l h1
        split at h
        · rename_i h2
          simp only [Option.some.injEq] at h; subst h
          have := fitsL_fields (cs := cs) (G := G) fs.toList 0 _ h1 (by rw [hl, h2]; omega) (fun fd hfd l hl' hz => by
            obtain ⟨i, hi, hfi⟩ := List.mem_iff_getElem.1 hfd
            have hi' : i < fs.size := by simpa using hi
            exact (hf i fd (by rw [Array.getElem?_eq_getElem hi', ← hfi]; simp)).flat hl')
          simpa using this
        · cases h
      · cases h
    | array hu hl hi =>
      rename_i e n
      simp only [ckT, hu] at h
      split at h
      · rename_i l h1
        split at h
        · rename_i h2
          simp only [Option.some.injEq] at h; subst h
          have := fitsL_rep (P := P) (G := G) (l := l) (cs := cs) n (fun i hin => by
            have := hi i hin
            rw [h2.1] at this
            exact this.flat h1)
          rwa [List.take_of_length_le (by rw [hl, h2.2]; omega)] at this
        · cases h
      · cases h
end
end Go.AM

set_option linter.unusedSimpArgs false
set_option linter.unusedVariables false
namespace Go.AM.Fd
open Nat (reduceAdd reduceEqDiff reduceLT reduceLeDiff reduceMul reduceSub)
open Go.Proofs Go.AM.F
structure CW where
  k : Nat
  b : Value
  l : List UInt8
  n : Int
  f : Value
  fs : List UInt8
def cwRow (p : CW) : List Value := [.int .u8 (p.k : Nat), p.b, .int .i64 p.n, p.f]
structure CwO (H : AHeap) (p : CW) : Prop where
  k : p.k < 256
  b : BS H p.b p.l
  f : BS H p.f p.fs
  n : p.n ≤ 9223372036854775807
  bl : ∀ z ∈ tb p.b, z < H.n
  fl : ∀ z ∈ tb p.f, z < H.n
structure CwL (H : AHeap) (v : Value) (l : List CW) : Prop where
  s : Sl H 4 v (l.map cwRow)
  c : ∀ p ∈ l, CwO H p
theorem bs_lt {H : AHeap} {x : Value} {l : List UInt8} (h : BS H x l) : ∀ z ∈ tb x, z < H.n := by
  intro z hz
  have h1 := h.el
  obtain ⟨a, k, rfl⟩ := h.sh
  match a, h1, hz with
  | none, h1, hz => cases hz
  | some ⟨b, o, some sp⟩, h1, hz => cases hz
  | some ⟨b, o, none⟩, h1, hz =>
    have : z = b := by simpa [tb] using hz
    subst this
    simp only [elemsA] at h1
    cases hg : H.get z with
    | none => rw [hg] at h1; cases h1
    | some o => exact AHeap.get_lt hg
theorem call_of {H : AHeap} {cells : List Value} (h : AR Go.Proofs.Tryz.prog H.get 40 cells) : ∃ p, cells = cwRow p ∧ CwO H p := by
  have h1 := h.flat (d := 5) (ks := [.int .u8, .sl 38, .int .i64, .sl 38]) (by kernel_rfl)
  obtain ⟨_, as1, rfl, ha, h2⟩ := h1.inv
  obtain ⟨b, bs, rfl, hb, h3⟩ := h2.inv
  obtain ⟨_, cs, rfl, ⟨n, rfl, hn⟩, h4⟩ := h3.inv
  obtain ⟨d, ds, rfl, hd, h5⟩ := h4.inv
  have := h5.end_; subst this
  obtain ⟨k, rfl, hk⟩ := fits_u8 ha
  obtain ⟨l, hl⟩ := AR.bs (P := Go.Proofs.Tryz.prog) (t := 38) (e := 5) (by kernel_rfl) (by kernel_rfl) (by kernel_rfl) (show AR Go.Proofs.Tryz.prog H.get 38 [b] from hb)
  obtain ⟨fs, hf⟩ := AR.bs (P := Go.Proofs.Tryz.prog) (t := 38) (e := 5) (by kernel_rfl) (by kernel_rfl) (by kernel_rfl) (show AR Go.Proofs.Tryz.prog H.get 38 [d] from hd)
  have hn2 : n ≤ 9223372036854775807 := by
    simp only [Lit.wf, Bool.and_eq_true, decide_eq_true_eq, IntKind.min, IntKind.max, IntKind.signed, IntKind.bits] at hn
    simp at hn; omega
  exact ⟨⟨k, b, l, n, d, fs⟩, rfl, hk, hl, hf, hn2, bs_lt hl, bs_lt hf⟩
theorem av_calls {H : AHeap} {v : Value} (h : AV Go.Proofs.Tryz.prog H.get 22 v) : ∃ l : List CW, CwL H v l := by
  have h1 := h.2.2 (by kernel_rfl)
  have hc : v.cells.toList = [v] := by rw [cells_one h1]
  have h2 := h.1
  rw [hc] at h2
  obtain ⟨rows, hr, hrow⟩ := h2.rows (e := 40) (esz := 4) (by kernel_rfl) (by kernel_rfl)
  obtain ⟨l, rfl, hl⟩ := list_choose (f := cwRow) (Q := CwO H) (l := rows) (fun r hm => call_of (hrow r hm))
  exact ⟨l, hr, hl⟩
theorem CwO.keeps {H K : AHeap} {p : CW} (h : CwO H p) (k : Keeps H K) : CwO K p := ⟨h.k, h.b.keeps k, h.f.keeps k, h.n, fun z hz => Nat.lt_of_lt_of_le (h.bl z hz) k.n, fun z hz => Nat.lt_of_lt_of_le (h.fl z hz) k.n⟩
theorem CwL.keeps {H K : AHeap} {v : Value} {l : List CW} (h : CwL H v l) (k : Keeps H K) : CwL K v l := ⟨h.s.keeps k, fun p hp => (h.c p hp).keeps k⟩
theorem CwL.at_ {H : AHeap} {v : Value} {l : List CW} (h : CwL H v l) {i : Nat} (hi : i < l.length) : nnS v = true ∧ rowA H 4 v i = some (cwRow l[i]) := by
  have := Sl.at_ h.s (by omega) (i := i) (by simpa using hi)
  simpa using this
theorem t9 {H : AHeap} {v : Value} {l : List CW} (h : CwL H v l) : ∃ w K, ARun Go.Proofs.Tryz.prog 0 9 [v] H w K ∧ (∃ b, w = .bool b ∧ (b = false → l.length ≤ 60 ∧ ∀ p ∈ l, p.l.length ≤ 6000 ∧ p.fs.length ≤ 6000)) ∧ K = H := by
  refine walk2 f9_ok f9_n ?_
  intro Q hq1 hq2
  have isv := Sl.is h.s
  have lv : lenS v = l.length := by have := Sl.len h.s; simpa using this
  by_cases h60 : (60 : Int) < ((l.length : Nat) : Int)
  · simp (disch := first | assumption | omega | (simp only [LN] <;> omega) | (simp (disch := first | assumption | omega | (simp only [LN] <;> omega)) only [row_alloc, row_set]; assumption)) only [f9, W_block, P3, ↓reduceIte, reduceAdd, reduceEqDiff, reduceCtorEq, initFr, reduceLT, clsA, reduceLeDiff, reduceMul, reduceSub, reduceIte, isv, lv, h60]
    exact hq2 _ _ ⟨_, rfl, ⟨true, rfl, fun e => by cases e⟩, rfl⟩
  simp (disch := first | assumption | omega | (simp only [LN] <;> omega) | (simp (disch := first | assumption | omega | (simp only [LN] <;> omega)) only [row_alloc, row_set]; assumption)) only [ f9, P3, ↓reduceIte, reduceAdd, reduceEqDiff, reduceCtorEq, initFr, reduceLT, clsA, reduceLeDiff, reduceMul, reduceSub, reduceIte, isv, lv, h60]
  rw [W_block]
  refine W_loop2 (fun q fr K => ∃ i tot x5 x6, fr = [v, .bool false, .int .i64 (tot : Nat), .int .i64 ((i : Nat) : Int), .bool false, x5, x6] ∧ K = H ∧ tot ≤ 12000 ∧ (∀ j, (hj : j < l.length) → j < i → l[j].l.length ≤ 6000 ∧ l[j].fs.length ≤ 6000) ∧ i ≤ l.length ∧ q = l.length - i) l.length
    ⟨0, 0, _, _, rfl, rfl, by omega, fun j _ hj => absurd hj (by omega), by omega, rfl⟩ ?_
  rintro Q' q fr K ⟨i, tot, x5, x6, rfl, rfl, htot, hall, hi, rfl⟩ hn' hx' hret
  by_cases hlt : i < l.length
  · obtain ⟨nn, ra⟩ := h.at_ hlt
    have e0 : (0 : Int) ≤ (i : Int) := by omega
    have e1 : (i : Int) < ((l.length : Nat) : Int) := by omega
    have hw : IntKind.i64.wrap ((i : Int) + 1) = ((i + 1 : Nat) : Int) := by rw [wrap_i64 (by omega) (by omega)]; simp
    have oc := h.c _ (List.getElem_mem hlt)
    obtain ⟨P, eP⟩ : ∃ P, l[i] = P := ⟨_, rfl⟩
    have hallP : ∀ (hP : P.l.length ≤ 6000 ∧ P.fs.length ≤ 6000), ∀ j, (hj : j < l.length) → j < i + 1 → l[j].l.length ≤ 6000 ∧ l[j].fs.length ≤ 6000 := fun hP j hj hji => by
      rcases Nat.lt_or_ge j i with h | h
      · exact hall j hj h
      · have : j = i := by omega
        subst this
        rw [eP]; exact hP
    rw [eP] at oc ra
    have m1 : (cwRow P)[1]? = some P.b := rfl
    have m3 : (cwRow P)[3]? = some P.f := rfl
    have isa := oc.b.isS
    have isb := oc.f.isS
    have la : lenS P.b = P.l.length := oc.b.lenS
    have lb : lenS P.f = P.fs.length := oc.f.lenS
    have hs : IntKind.i64.wrap (6000 - ((tot : Nat) : Int)) = 6000 - ((tot : Nat) : Int) := wrap_i64 (by omega) (by omega)
    by_cases c1 : 6000 - ((tot : Nat) : Int) < ((P.l.length : Nat) : Int)
    · simp (disch := first | assumption | omega | (simp only [LN] <;> omega) | (simp (disch := first | assumption | omega | (simp only [LN] <;> omega)) only [row_alloc, row_set]; assumption)) only [W_block, P3, ↓reduceIte, reduceAdd, reduceEqDiff, reduceCtorEq, initFr, reduceLT, clsA, reduceLeDiff, reduceMul, reduceSub, reduceIte, isv, lv, e0, e1, nn, ra, a_load1v, m1, m3, isa, isb, la, lb, hs, c1]
      exact hret _ _ (hq2 _ _ ⟨_, rfl, ⟨true, rfl, fun e => by cases e⟩, rfl⟩)
    by_cases c2 : 6000 - ((tot : Nat) : Int) < ((P.fs.length : Nat) : Int)
    · simp (disch := first | assumption | omega | (simp only [LN] <;> omega) | (simp (disch := first | assumption | omega | (simp only [LN] <;> omega)) only [row_alloc, row_set]; assumption)) only [W_block, P3, ↓reduceIte, reduceAdd, reduceEqDiff, reduceCtorEq, initFr, reduceLT, clsA, reduceLeDiff, reduceMul, reduceSub, reduceIte, isv, lv, e0, e1, nn, ra, a_load1v, m1, m3, isa, isb, la, lb, hs, c1, c2]
      exact hret _ _ (hq2 _ _ ⟨_, rfl, ⟨true, rfl, fun e => by cases e⟩, rfl⟩)
    have ht1 : IntKind.i64.wrap (((tot : Nat) : Int) + ((P.l.length : Nat) : Int)) = ((tot + P.l.length : Nat) : Int) := by rw [wrap_i64 (by omega) (by omega)]; simp
    have ht2 : IntKind.i64.wrap (((tot + P.l.length : Nat) : Int) + ((P.fs.length : Nat) : Int)) = ((tot + P.l.length + P.fs.length : Nat) : Int) := by rw [wrap_i64 (by omega) (by omega)]; simp
    simp (disch := first | assumption | omega | (simp only [LN] <;> omega) | (simp (disch := first | assumption | omega | (simp only [LN] <;> omega)) only [row_alloc, row_set]; assumption)) only [W_block, P3, ↓reduceIte, reduceAdd, reduceEqDiff, reduceCtorEq, initFr, reduceLT, clsA, reduceLeDiff, reduceMul, reduceSub, reduceIte, isv, lv, e0, e1, nn, ra, a_load1v, m1, m3, isa, isb, la, lb, hs, c1, c2, hw, ht1, ht2]
    exact hn' _ _ _ ⟨i + 1, tot + P.l.length + P.fs.length, _, _, rfl, rfl, by omega, hallP ⟨by omega, by omega⟩, by omega, rfl⟩ (by omega)
  · have e1 : ¬ (i : Int) < ((l.length : Nat) : Int) := by omega
    simp (disch := first | assumption | omega | (simp only [LN] <;> omega) | (simp (disch := first | assumption | omega | (simp only [LN] <;> omega)) only [row_alloc, row_set]; assumption)) only [W_block, P3, ↓reduceIte, reduceAdd, reduceEqDiff, reduceCtorEq, initFr, reduceLT, clsA, reduceLeDiff, reduceMul, reduceSub, reduceIte, isv, lv, e1]
    refine hx' 0 _ _ (show W Go.Proofs.Tryz.prog 0 _ Q _ _ from ?_)
    simp (disch := first | assumption | omega | (simp only [LN] <;> omega) | (simp (disch := first | assumption | omega | (simp only [LN] <;> omega)) only [row_alloc, row_set]; assumption)) only [W_block, P3, ↓reduceIte, reduceAdd, reduceEqDiff, reduceCtorEq, initFr, reduceLT, clsA, reduceLeDiff, reduceMul, reduceSub, reduceIte]
    exact hq2 _ _ ⟨_, rfl, ⟨_, rfl, fun _ => ⟨by omega, fun p hp => by
      obtain ⟨j, hj, rfl⟩ := List.mem_iff_getElem.1 hp
      exact hall j hj (by omega)⟩⟩, rfl⟩
end Go.AM.Fd

set_option linter.unusedSimpArgs false
set_option linter.unusedVariables false
namespace Go.AM.Fd
open Nat (reduceAdd reduceEqDiff reduceLT reduceLeDiff reduceMul reduceSub)
open Go.Proofs Go.AM.F
section
variable {H K : AHeap} {b sb e : Nat} {vb : Value} {D : Dk} {lo : Option Lg} {p5 p7 : Value} {er n : Int} {v : Value} {l : List CW}
theorem walLoop {Q : AQ} {x9 x10 x11 x12 x13 x14 x15 x16 x17 x18 x19 x20 : Value} (h : SW H K b sb e vb D lo p5 p7 er) (hb : Bnd D lo 1) (hc : CwL H v l) (hl : l.length ≤ 60) (hll : ∀ p ∈ l, p.l.length ≤ 6000 ∧ p.fs.length ≤ 6000)
    (hW : ∀ K, ∃ w K', ARun Go.Proofs.Tryz.prog 0 10 [] K w K' ∧ w = .bool true) (hq2 : ∀ fr H2, (∃ w, resO f3.res fr H2 = some w ∧ w = .bool true) → Q .ret fr H2) :
    W Go.Proofs.Tryz.prog 0 (cpost 5 f3.body) Q [.int .i64 n, v, .bool false, ptr b 0, ptr e 0, p5, .int .i64 er, p7, .int .i64 er, x9, x10, x11, x12, x13, x14, x15, x16, x17, x18, x19, x20] K := by
  have isv := Sl.is hc.s
  have lv : lenS v = l.length := by have := Sl.len hc.s; simpa using this
  simp (disch := first | assumption | omega | (simp only [LN] <;> omega) | (simp (disch := first | assumption | omega | (simp only [LN] <;> omega)) only [row_alloc, row_set]; assumption)) only [ f3, P3, ↓reduceIte, reduceAdd, reduceEqDiff, reduceCtorEq, initFr, reduceLT, clsA, reduceLeDiff, reduceMul, reduceSub, reduceIte, cpost]
  rw [W_block]
  refine W_loop2 (fun q fr K => ∃ i D lo p5 p7 er y10 y11 y13 y14 y15 y16 y17 y18 y19 y20, fr = [.int .i64 n, v, .bool false, ptr b 0, ptr e 0, p5, .int .i64 er, p7, .int .i64 er, .int .i64 ((i : Nat) : Int), y10, y11, x12, y13, y14, y15, y16, y17, y18, y19, y20] ∧ SW H K b sb e vb D lo p5 p7 er ∧ Bnd D lo (i + 1) ∧ i ≤ l.length ∧ q = l.length - i) l.length
    ⟨0, D, lo, p5, p7, er, _, _, _, _, _, _, _, _, _, _, rfl, h, hb, by omega, rfl⟩ ?_
  clear h hb
  rintro Q2 q fr K1 ⟨i, D, lo, p5, p7, er, y10, y11, y13, y14, y15, y16, y17, y18, y19, y20, rfl, h, hb, hi, rfl⟩ hnx hx hret
  by_cases hlt : i < l.length
  · have e1 : (i : Int) < ((l.length : Nat) : Int) := by omega
    have e0 : (0 : Int) ≤ (i : Int) := by omega
    have hw : IntKind.i64.wrap ((i : Int) + 1) = ((i + 1 : Nat) : Int) := by rw [wrap_i64 (by omega) (by omega)]; simp
    obtain ⟨nn, ra0⟩ := hc.at_ hlt
    have mem := List.getElem_mem hlt
    have oc0 := hc.c _ mem
    have hle := hll _ mem
    simp (disch := first | assumption | omega | (simp only [LN] <;> omega) | (simp (disch := first | assumption | omega | (simp only [LN] <;> omega)) only [row_alloc, row_set]; assumption)) only [ P3, ↓reduceIte, reduceAdd, reduceEqDiff, reduceCtorEq, initFr, reduceLT, clsA, reduceLeDiff, reduceMul, reduceSub, reduceIte, isv, lv]
    rw [W_block]
    refine W_part 1 (fun fr K2 => ∃ z13 z14, fr = [.int .i64 n, v, .bool false, ptr b 0, ptr e 0, p5, .int .i64 er, p7, .int .i64 er, .int .i64 ((i : Nat) : Int), y10, y11, x12, z13, z14, y15, y16, y17, y18, y19, y20] ∧ SW H K2 b sb e vb D lo p5 p7 er) (by kernel_rfl) ?_ ?_
    · intro Q3 hk3 hex3 hret3
      obtain ⟨v0, ab0, vo0, in0, d⟩ := h.d2
      have d0 : (er != er) = false := bnei_no rfl
      simp (disch := first | assumption | omega | (simp only [LN] <;> omega) | (simp (disch := first | assumption | omega | (simp only [LN] <;> omega)) only [row_alloc, row_set]; assumption)) only [W_block, P3, ↓reduceIte, reduceAdd, reduceEqDiff, reduceCtorEq, initFr, reduceLT, clsA, reduceLeDiff, reduceMul, reduceSub, reduceIte, cpre, d0]
      refine callK (t15 d.dk d.ek) ?_
      rintro _ K2 ⟨rfl, k2⟩
      have h2 := h.keeps k2
      cases lo with
      | none =>
        obtain ⟨q1, rfl, rfl, _⟩ := id h2
        have d1 : (er == 0) = false := beqi_no q1
        simp (disch := first | assumption | omega | (simp only [LN] <;> omega) | (simp (disch := first | assumption | omega | (simp only [LN] <;> omega)) only [row_alloc, row_set]; assumption)) only [W_block, P3, ↓reduceIte, reduceAdd, reduceEqDiff, reduceCtorEq, initFr, reduceLT, clsA, reduceLeDiff, reduceMul, reduceSub, reduceIte, d1]
        exact hk3 _ _ ⟨_, _, rfl, h2⟩
      | some L =>
        obtain ⟨rfl, lb, le, va, ab, rv, items, vo, inn, vl, rfl, rfl, t⟩ := id h2
        simp (disch := first | assumption | omega | (simp only [LN] <;> omega) | (simp (disch := first | assumption | omega | (simp only [LN] <;> omega)) only [row_alloc, row_set]; assumption)) only [W_block, P3, ↓reduceIte, reduceAdd, reduceEqDiff, reduceCtorEq, initFr, reduceLT, clsA, reduceLeDiff, reduceMul, reduceSub, reduceIte]
        refine callK (t16 t.lg t.rl) ?_
        rintro _ K3 ⟨rfl, k3⟩
        simp (disch := first | assumption | omega | (simp only [LN] <;> omega) | (simp (disch := first | assumption | omega | (simp only [LN] <;> omega)) only [row_alloc, row_set]; assumption)) only [W_block, P3, ↓reduceIte, reduceAdd, reduceEqDiff, reduceCtorEq, initFr, reduceLT, clsA, reduceLeDiff, reduceMul, reduceSub, reduceIte]
        exact hk3 _ _ ⟨_, _, rfl, h2.keeps k3⟩
    · rintro fr K2 ⟨z13, z14, rfl, h2⟩
      obtain ⟨v0, ab0, vo0, in0, d⟩ := h2.d2
      have oc := oc0.keeps d.kp
      have ra : rowA K2 4 v i = some (cwRow l[i]) := ((hc.keeps d.kp).at_ hlt).2
      obtain ⟨P, eP⟩ : ∃ P, l[i] = P := ⟨_, rfl⟩
      rw [eP] at ra oc oc0 hle
      have hrem : binA .rem (.int .u8 (P.k : Nat)) (.int .u8 9) = some (.int .u8 ((P.k % 9 : Nat) : Int)) := b_remn (kd := .u8) (n := P.k) (m := 9) (by omega)
      have isb := oc.b.isS
      have isf := oc.f.isS
      have ob := one_isS isb
      have of_ := one_isS isf
      have oo : (cwRow P).all Value.oneCell' = true := by simp only [cwRow, List.all_cons, ob, of_]; rfl
      obtain ⟨K3, hK3⟩ : ∃ Y, Y = K2.alloc (.cells true false 4 [.int .u8 (P.k : Nat), P.b, .int .i64 P.n, P.f] 40) := ⟨_, rfl⟩
      have k3 : Keeps K2 K3 := by rw [hK3]; exact (Keeps.refl K2).alloc _
      have g3 : K3.get K2.n = some (.cells true false 4 [.int .u8 (P.k : Nat), P.b, .int .i64 P.n, P.f] 40) := by rw [hK3]; exact AHeap.get_alloc_new K2 _
      have cr : cwRow P = [.int .u8 (P.k : Nat), P.b, .int .i64 P.n, P.f] := rfl
      rw [cr] at ra oo
      simp (disch := first | assumption | omega | (simp only [LN] <;> omega) | (simp (disch := first | assumption | omega | (simp only [LN] <;> omega)) only [row_alloc, row_set]; assumption)) only [cpost, W_block, P3, ↓reduceIte, reduceAdd, reduceEqDiff, reduceCtorEq, initFr, reduceLT, clsA, reduceLeDiff, reduceMul, reduceSub, reduceIte, isv, lv, nn, ra, oo]
      rw [← hK3]
      have h3 := h2.keeps k3
      have oc3 := oc.keeps k3
      simp (disch := first | assumption | omega | (simp only [LN] <;> omega) | (simp (disch := first | assumption | omega | (simp only [LN] <;> omega)) only [row_alloc, row_set]; assumption)) only [W_block, P3, ↓reduceIte, reduceAdd, reduceEqDiff, reduceCtorEq, initFr, reduceLT, clsA, reduceLeDiff, reduceMul, reduceSub, reduceIte, g3, hrem]
      have hbs := hb.s
      have hbo := hb.o
      have hr6 : binA .rem (.int .i64 P.n) (.int .i64 6) = some (.int .i64 (P.n.tmod 6)) := b_rem _ _ _ (by decide)
      have hn6 : P.n.tmod 6 ≤ 9223372036854775807 := by have := Int.tmod_lt_of_pos P.n (show (0 : Int) < 6 by omega); omega
      have n3 : K3.n = K2.n + 1 := by rw [hK3]; rfl
      by_cases c5 : P.k % 9 = 5
      · have d5 : (((P.k % 9 : Nat) : Int) == 5) = true := beqi_yes (by omega)
        simp (disch := first | assumption | omega | (simp only [LN] <;> omega) | (simp (disch := first | assumption | omega | (simp only [LN] <;> omega)) only [row_alloc, row_set]; assumption)) only [W_block, P3, ↓reduceIte, reduceAdd, reduceEqDiff, reduceCtorEq, initFr, reduceLT, clsA, reduceLeDiff, reduceMul, reduceSub, reduceIte, d5, g3, hr6]
        cases lo with
        | none =>
          obtain ⟨q1, rfl, rfl, va, ab, vo, inn, d2⟩ := id h2
          have d3 := d2.keeps k3
          have nfp : ∀ z ∈ fp (dkT b sb va ab D), z < K2.n := fun z hz => d2.u.sep.lt (by rw [fp_app]; exact List.mem_append_left _ hz)
          refine callK (t17 d3.dk (P.n.tmod 6)) ?_
          rintro w1 Z1 ⟨ab', u1⟩
          have U1 := d3.u.trans (u1.ext d3.u.sep)
          have g4 := u1.chg.at_ g3 (fun hz => by have := nfp _ hz; omega)
          simp (disch := first | assumption | omega | (simp only [LN] <;> omega) | (simp (disch := first | assumption | omega | (simp only [LN] <;> omega)) only [row_alloc, row_set]; assumption)) only [W_block, P3, ↓reduceIte, reduceAdd, reduceEqDiff, reduceCtorEq, initFr, reduceLT, clsA, reduceLeDiff, reduceMul, reduceSub, reduceIte, g4, hr6]
          refine callK (t18 ⟨U1.sep.right, d3.ok, d3.i⟩ (P.n.tmod 6) hn6) ?_
          rintro w2 Z2 ⟨inn', e2, u2⟩
          have U2 := U1.trans (u2.extR U1.sep)
          simp (disch := first | assumption | omega | (simp only [LN] <;> omega) | (simp (disch := first | assumption | omega | (simp only [LN] <;> omega)) only [row_alloc, row_set]; assumption)) only [W_block, P3, ↓reduceIte, reduceAdd, reduceEqDiff, reduceCtorEq, initFr, reduceLT, clsA, reduceLeDiff, reduceMul, reduceSub, reduceIte]
          rw [hw]
          exact hnx _ _ _ ⟨i + 1, failD D (P.n.tmod 6), none, _, _, er, _, _, _, _, _, _, _, _, _, _, rfl, ⟨q1, rfl, rfl, va, ab', vo, inn', U2, e2.ok, e2.i⟩, failD_b hb _, by omega, rfl⟩ (by omega)
        | some L =>
          obtain ⟨rfl, lb, le, va, ab, rv, items, vo, inn, vl, rfl, rfl, t⟩ := id h2
          have t3 := t.keeps k3
          have nfp : ∀ z ∈ fp (dkT b sb va ab D), z < K2.n := fun z hz => t.lg.d.s.lt hz
          refine callK (t17 t3.lg.d (P.n.tmod 6)) ?_
          rintro w1 Z1 ⟨ab', u1⟩
          have U1 := t3.u.trans ((u1.extR t3.u.sep.left).ext t3.u.sep)
          have g4 := u1.chg.at_ g3 (fun hz => by have := nfp _ hz; omega)
          simp (disch := first | assumption | omega | (simp only [LN] <;> omega) | (simp (disch := first | assumption | omega | (simp only [LN] <;> omega)) only [row_alloc, row_set]; assumption)) only [W_block, P3, ↓reduceIte, reduceAdd, reduceEqDiff, reduceCtorEq, initFr, reduceLT, clsA, reduceLeDiff, reduceMul, reduceSub, reduceIte, g4, hr6]
          refine callK (t18 ⟨U1.sep.right.right, t3.ok, t3.i⟩ (P.n.tmod 6) hn6) ?_
          rintro w2 Z2 ⟨inn', e2, u2⟩
          have U2 := U1.trans ((u2.extR U1.sep.right).extR U1.sep)
          simp (disch := first | assumption | omega | (simp only [LN] <;> omega) | (simp (disch := first | assumption | omega | (simp only [LN] <;> omega)) only [row_alloc, row_set]; assumption)) only [W_block, P3, ↓reduceIte, reduceAdd, reduceEqDiff, reduceCtorEq, initFr, reduceLT, clsA, reduceLeDiff, reduceMul, reduceSub, reduceIte]
          rw [hw]
          exact hnx _ _ _ ⟨i + 1, failD D (P.n.tmod 6), some L, _, _, 0, _, _, _, _, _, _, _, _, _, _, rfl, ⟨rfl, lb, le, va, ab', rv, items, vo, inn', vl, rfl, rfl, U2, e2.ok, t3.n3, t3.it, t3.lok, e2.i⟩, failD_b hb _, by omega, rfl⟩ (by omega)
      have d5 : (((P.k % 9 : Nat) : Int) == 5) = false := beqi_no (by omega)
      by_cases c6 : P.k % 9 = 6
      · have d6 : (((P.k % 9 : Nat) : Int) == 6) = true := beqi_yes (by omega)
        have d8 : (((P.k % 9 : Nat) : Int) == 8) = false := beqi_no (by omega)
        obtain ⟨va, ab, vo, inn, d2⟩ := h2.d2
        have d3 := d2.keeps k3
        have nf1 : ∀ z ∈ fp (dkT b sb va ab D), z < K2.n := fun z hz => d2.u.sep.lt (by rw [fp_app]; exact List.mem_append_left _ hz)
        have nf2 : ∀ z ∈ fp (ekT e vb vo inn D), z < K2.n := fun z hz => d2.u.sep.lt (by rw [fp_app]; exact List.mem_append_right _ hz)
        simp (disch := first | assumption | omega | (simp only [LN] <;> omega) | (simp (disch := first | assumption | omega | (simp only [LN] <;> omega)) only [row_alloc, row_set]; assumption)) only [W_block, P3, ↓reduceIte, reduceAdd, reduceEqDiff, reduceCtorEq, initFr, reduceLT, clsA, reduceLeDiff, reduceMul, reduceSub, reduceIte, d5, d6]
        refine callK (t19 d3.dk) ?_
        rintro w1 Z1 u1
        have U1 := d3.u.trans (u1.ext d3.u.sep)
        have g4 := u1.chg.at_ g3 (fun hz => by have := nf1 _ hz; omega)
        simp (disch := first | assumption | omega | (simp only [LN] <;> omega) | (simp (disch := first | assumption | omega | (simp only [LN] <;> omega)) only [row_alloc, row_set]; assumption)) only [W_block, P3, ↓reduceIte, reduceAdd, reduceEqDiff, reduceCtorEq, initFr, reduceLT, clsA, reduceLeDiff, reduceMul, reduceSub, reduceIte]
        refine callK (t20 ⟨U1.sep.right, d3.ok, d3.i⟩) ?_
        rintro w2 Z2 ⟨e2, u2⟩
        have U2 := U1.trans (u2.extR U1.sep)
        have g5 := u2.chg.at_ g4 (fun hz => by have := nf2 _ hz; omega)
        have d4 : D2 H Z2 b sb va none e vb vo inn (crashD D) := ⟨U2, e2.ok, e2.i⟩
        simp (disch := first | assumption | omega | (simp only [LN] <;> omega) | (simp (disch := first | assumption | omega | (simp only [LN] <;> omega)) only [row_alloc, row_set]; assumption)) only [W_block, P3, ↓reduceIte, reduceAdd, reduceEqDiff, reduceCtorEq, initFr, reduceLT, clsA, reduceLeDiff, reduceMul, reduceSub, reduceIte, g5]
        refine callK (t21 d4.dk (oc0.f.keeps d4.kp) (fun y hy hy2 => by have := d4.far (by rw [fp_app]; exact List.mem_append_left _ hy2); have := oc0.fl y hy; omega)) ?_
        rintro w3 Z3 ⟨v6, u3⟩
        have U3 := d4.u.trans (u3.ext d4.u.sep)
        have kH3 : Keeps H Z3 := ⟨U3.chg.n, fun y hy => U3.chg.get y hy (by simp [fp])⟩
        have g6 := u3.chg.at_ g5 (fun hz => by have := Upd.new u1 (fun h => by have := nf1 _ h; omega) (by omega) hz; exact this)
        simp (disch := first | assumption | omega | (simp only [LN] <;> omega) | (simp (disch := first | assumption | omega | (simp only [LN] <;> omega)) only [row_alloc, row_set]; assumption)) only [W_block, P3, ↓reduceIte, reduceAdd, reduceEqDiff, reduceCtorEq, initFr, reduceLT, clsA, reduceLeDiff, reduceMul, reduceSub, reduceIte, g6]
        refine callK (t22 ⟨U3.sep.right, e2.ok, e2.i⟩ (oc0.f.keeps kH3) (fun y hy hy2 => by have := d4.far (by rw [fp_app]; exact List.mem_append_right _ hy2); have := oc0.fl y hy; omega)) ?_
        rintro w4 Z4 ⟨vo7, e4, u4⟩
        have U4 := U3.trans (u4.extR U3.sep)
        have d7 : D2 H Z4 b sb v6 none e vb vo7 inn (onD (crashD D) P.fs) := ⟨U4, e4.ok, e4.i⟩
        have hob := onD_b D P.fs
        have bn : (onD (crashD D) P.fs).st < 999999 ∧ (onD (crashD D) P.fs).op.length < 999999 := ⟨by omega, by omega⟩
        simp (disch := first | assumption | omega | (simp only [LN] <;> omega) | (simp (disch := first | assumption | omega | (simp only [LN] <;> omega)) only [row_alloc, row_set]; assumption)) only [W_block, P3, ↓reduceIte, reduceAdd, reduceEqDiff, reduceCtorEq, initFr, reduceLT, clsA, reduceLeDiff, reduceMul, reduceSub, reduceIte, d8]
        refine callK (t13 d7.dk (by have := bn.1; omega) (by have := bn.2; omega)) ?_
        rintro w1 Z1 ho
        obtain ⟨p, rfl, ek1, kz1, fin⟩ := SW.open1 d7 ho
        simp (disch := first | assumption | omega | (simp only [LN] <;> omega) | (simp (disch := first | assumption | omega | (simp only [LN] <;> omega)) only [row_alloc, row_set]; assumption)) only [ P3, ↓reduceIte, reduceAdd, reduceEqDiff, reduceCtorEq, initFr, reduceLT, clsA, reduceLeDiff, reduceMul, reduceSub, reduceIte]
        refine callK (t14 ek1 (by have := bn.1; omega) (by have := bn.2; omega)) ?_
        rintro w2 Z2 ho2
        obtain ⟨p2, rfl, sw2⟩ := fin ho2
        simp (disch := first | assumption | omega | (simp only [LN] <;> omega) | (simp (disch := first | assumption | omega | (simp only [LN] <;> omega)) only [row_alloc, row_set]; assumption)) only [W_block, P3, ↓reduceIte, reduceAdd, reduceEqDiff, reduceCtorEq, initFr, reduceLT, clsA, reduceLeDiff, reduceMul, reduceSub, reduceIte]
        rw [hw]
        exact hnx _ _ _ ⟨i + 1, _, _, _, _, _, _, _, _, _, _, _, _, _, _, _, rfl, sw2, openW_b e4.ok (by omega) (by omega) bn.1 bn.2, by omega, rfl⟩ (by omega)
      have d6 : (((P.k % 9 : Nat) : Int) == 6) = false := beqi_no (by omega)
      by_cases c7 : P.k % 9 = 7
      · have d7 : (((P.k % 9 : Nat) : Int) == 7) = true := beqi_yes (by omega)
        have d8 : (((P.k % 9 : Nat) : Int) == 8) = false := beqi_no (by omega)
        obtain ⟨va, ab, vo, inn, d2⟩ := h2.d2
        have d3 := d2.keeps k3
        have bn : D.st < 999999 ∧ D.op.length < 999999 := ⟨by omega, by omega⟩
        simp (disch := first | assumption | omega | (simp only [LN] <;> omega) | (simp (disch := first | assumption | omega | (simp only [LN] <;> omega)) only [row_alloc, row_set]; assumption)) only [W_block, P3, ↓reduceIte, reduceAdd, reduceEqDiff, reduceCtorEq, initFr, reduceLT, clsA, reduceLeDiff, reduceMul, reduceSub, reduceIte, d5, d6, d7, d8]
        refine callK (t13 d3.dk (by have := bn.1; omega) (by have := bn.2; omega)) ?_
        rintro w1 Z1 ho
        obtain ⟨p, rfl, ek1, kz1, fin⟩ := SW.open1 d3 ho
        simp (disch := first | assumption | omega | (simp only [LN] <;> omega) | (simp (disch := first | assumption | omega | (simp only [LN] <;> omega)) only [row_alloc, row_set]; assumption)) only [ P3, ↓reduceIte, reduceAdd, reduceEqDiff, reduceCtorEq, initFr, reduceLT, clsA, reduceLeDiff, reduceMul, reduceSub, reduceIte]
        refine callK (t14 ek1 (by have := bn.1; omega) (by have := bn.2; omega)) ?_
        rintro w2 Z2 ho2
        obtain ⟨p2, rfl, sw2⟩ := fin ho2
        simp (disch := first | assumption | omega | (simp only [LN] <;> omega) | (simp (disch := first | assumption | omega | (simp only [LN] <;> omega)) only [row_alloc, row_set]; assumption)) only [W_block, P3, ↓reduceIte, reduceAdd, reduceEqDiff, reduceCtorEq, initFr, reduceLT, clsA, reduceLeDiff, reduceMul, reduceSub, reduceIte]
        rw [hw]
        exact hnx _ _ _ ⟨i + 1, _, _, _, _, _, _, _, _, _, _, _, _, _, _, _, rfl, sw2, openW_b d3.ok (by omega) (by omega) bn.1 bn.2, by omega, rfl⟩ (by omega)
      have d7 : (((P.k % 9 : Nat) : Int) == 7) = false := beqi_no (by omega)
      by_cases c8 : P.k % 9 = 8
      · have d8 : (((P.k % 9 : Nat) : Int) == 8) = true := beqi_yes (by omega)
        obtain ⟨va, ab, vo, inn, d2⟩ := h2.d2
        have d3 := d2.keeps k3
        have nf1 : ∀ z ∈ fp (dkT b sb va ab D), z < K2.n := fun z hz => d2.u.sep.lt (by rw [fp_app]; exact List.mem_append_left _ hz)
        have hwb := wrD_b D P.n P.l
        have bn : (wrD D P.n P.l).1.st < 999999 ∧ (wrD D P.n P.l).1.op.length < 999999 := ⟨by omega, by omega⟩
        simp (disch := first | assumption | omega | (simp only [LN] <;> omega) | (simp (disch := first | assumption | omega | (simp only [LN] <;> omega)) only [row_alloc, row_set]; assumption)) only [W_block, P3, ↓reduceIte, reduceAdd, reduceEqDiff, reduceCtorEq, initFr, reduceLT, clsA, reduceLeDiff, reduceMul, reduceSub, reduceIte, d5, d6, d7, d8, g3]
        refine callK (t23 d3.dk (by omega) (by omega) P.n (oc0.b.keeps d3.kp)) ?_
        rintro w1 Z1 ⟨rfl, v4, ab4, u1⟩
        have U1 := d3.u.trans (u1.ext d3.u.sep)
        have g4 := u1.chg.at_ g3 (fun hz => by have := nf1 _ hz; omega)
        have kH1 : Keeps H Z1 := ⟨U1.chg.n, fun y hy => U1.chg.get y hy (by simp [fp])⟩
        have eb := a_b2sB (oc0.b.keeps kH1)
        simp (disch := first | assumption | omega | (simp only [LN] <;> omega) | (simp (disch := first | assumption | omega | (simp only [LN] <;> omega)) only [row_alloc, row_set]; assumption)) only [W_block, P3, ↓reduceIte, reduceAdd, reduceEqDiff, reduceCtorEq, initFr, reduceLT, clsA, reduceLeDiff, reduceMul, reduceSub, reduceIte, g4, eb]
        refine callK (t24 ⟨U1.sep.right, d3.ok, d3.i⟩ (by omega) (by omega) P.n P.l) ?_
        rintro w2 Z2 ⟨rfl, vo5, in5, e5, u2⟩
        have U2 := U1.trans (u2.extR U1.sep)
        have d8' : D2 H Z2 b sb v4 ab4 e vb vo5 in5 (wrD D P.n P.l).1 := ⟨U2, e5.ok, e5.i⟩
        simp (disch := first | assumption | omega | (simp only [LN] <;> omega) | (simp (disch := first | assumption | omega | (simp only [LN] <;> omega)) only [row_alloc, row_set]; assumption)) only [W_block, P3, ↓reduceIte, reduceAdd, reduceEqDiff, reduceCtorEq, initFr, reduceLT, clsA, reduceLeDiff, reduceMul, reduceSub, reduceIte]
        refine callK (t13 d8'.dk (by have := bn.1; omega) (by have := bn.2; omega)) ?_
        rintro w1 Z1 ho
        obtain ⟨p, rfl, ek1, kz1, fin⟩ := SW.open1 d8' ho
        simp (disch := first | assumption | omega | (simp only [LN] <;> omega) | (simp (disch := first | assumption | omega | (simp only [LN] <;> omega)) only [row_alloc, row_set]; assumption)) only [ P3, ↓reduceIte, reduceAdd, reduceEqDiff, reduceCtorEq, initFr, reduceLT, clsA, reduceLeDiff, reduceMul, reduceSub, reduceIte]
        refine callK (t14 ek1 (by have := bn.1; omega) (by have := bn.2; omega)) ?_
        rintro w2 Z2 ho2
        obtain ⟨p2, rfl, sw2⟩ := fin ho2
        simp (disch := first | assumption | omega | (simp only [LN] <;> omega) | (simp (disch := first | assumption | omega | (simp only [LN] <;> omega)) only [row_alloc, row_set]; assumption)) only [W_block, P3, ↓reduceIte, reduceAdd, reduceEqDiff, reduceCtorEq, initFr, reduceLT, clsA, reduceLeDiff, reduceMul, reduceSub, reduceIte]
        rw [hw]
        exact hnx _ _ _ ⟨i + 1, _, _, _, _, _, _, _, _, _, _, _, _, _, _, _, rfl, sw2, openW_b e5.ok (by omega) (by omega) bn.1 bn.2, by omega, rfl⟩ (by omega)
      have d8 : (((P.k % 9 : Nat) : Int) == 8) = false := beqi_no (by omega)
      cases lo with
      | none =>
        obtain ⟨q1, rfl, rfl, va, ab, vo, inn, d2⟩ := id h2
        have e9 : (er == 0) = false := beqi_no q1
        simp (disch := first | assumption | omega | (simp only [LN] <;> omega) | (simp (disch := first | assumption | omega | (simp only [LN] <;> omega)) only [row_alloc, row_set]; assumption)) only [W_block, P3, ↓reduceIte, reduceAdd, reduceEqDiff, reduceCtorEq, initFr, reduceLT, clsA, reduceLeDiff, reduceMul, reduceSub, reduceIte, d5, d6, d7, d8, e9]
        rw [hw]
        exact hnx _ _ _ ⟨i + 1, D, none, _, _, er, _, _, _, _, _, _, _, _, _, _, rfl, ⟨q1, rfl, rfl, va, ab, vo, inn, d2.keeps k3⟩, ⟨by omega, by omega, fun L hL => by cases hL⟩, by omega, rfl⟩ (by omega)
      | some L =>
        obtain ⟨rfl, lb, le, va, ab, rv, items, vo, inn, vl, rfl, rfl, t⟩ := id h2
        obtain ⟨b1, b2⟩ := hb.l L rfl
        have t3 := t.keeps k3
        simp (disch := first | assumption | omega | (simp only [LN] <;> omega) | (simp (disch := first | assumption | omega | (simp only [LN] <;> omega)) only [row_alloc, row_set]; assumption)) only [W_block, P3, ↓reduceIte, reduceAdd, reduceEqDiff, reduceCtorEq, initFr, reduceLT, clsA, reduceLeDiff, reduceMul, reduceSub, reduceIte, d5, d6, d7, d8, g3]
        refine callK (t25 t3 (by omega) (by omega) (by omega) (by omega) oc3.b oc3.f (by omega) oc0.k oc0.bl) ?_
        rintro w2 Z2 ⟨rfl, va', ab', rv', items', vo', inn', vl', t4⟩
        simp (disch := first | assumption | omega | (simp only [LN] <;> omega) | (simp (disch := first | assumption | omega | (simp only [LN] <;> omega)) only [row_alloc, row_set]; assumption)) only [W_block, P3, ↓reduceIte, reduceAdd, reduceEqDiff, reduceCtorEq, initFr, reduceLT, clsA, reduceLeDiff, reduceMul, reduceSub, reduceIte]
        rw [hw]
        exact hnx _ _ _ ⟨i + 1, _, some (doesW D L P.k P.l P.n).2.1, _, _, 0, _, _, _, _, _, _, _, _, _, _, rfl, ⟨rfl, lb, le, va', ab', rv', items', vo', inn', vl', rfl, rfl, t4⟩, doesW_b hb _ _ _, by omega, rfl⟩ (by omega)
  · have e1 : ¬ (i : Int) < ((l.length : Nat) : Int) := by omega
    simp (disch := first | assumption | omega | (simp only [LN] <;> omega) | (simp (disch := first | assumption | omega | (simp only [LN] <;> omega)) only [row_alloc, row_set]; assumption)) only [W_block, P3, ↓reduceIte, reduceAdd, reduceEqDiff, reduceCtorEq, initFr, reduceLT, clsA, reduceLeDiff, reduceMul, reduceSub, reduceIte, isv, lv]
    refine hx 0 _ _ (show W Go.Proofs.Tryz.prog 0 _ Q _ _ from ?_)
    obtain ⟨v0, ab0, vo0, in0, d⟩ := h.d2
    have d0 : (er == er) = true := beqi_yes rfl
    simp (disch := first | assumption | omega | (simp only [LN] <;> omega) | (simp (disch := first | assumption | omega | (simp only [LN] <;> omega)) only [row_alloc, row_set]; assumption)) only [W_block, P3, ↓reduceIte, reduceAdd, reduceEqDiff, reduceCtorEq, initFr, reduceLT, clsA, reduceLeDiff, reduceMul, reduceSub, reduceIte, d0]
    refine callK (t15 d.dk d.ek) ?_
    rintro _ K2 ⟨rfl, k2⟩
    have h2 := h.keeps k2
    cases lo with
    | none =>
      obtain ⟨q1, rfl, rfl, _⟩ := id h2
      have d1 : (er != 0) = true := bnei_yes q1
      simp (disch := first | assumption | omega | (simp only [LN] <;> omega) | (simp (disch := first | assumption | omega | (simp only [LN] <;> omega)) only [row_alloc, row_set]; assumption)) only [W_block, P3, ↓reduceIte, reduceAdd, reduceEqDiff, reduceCtorEq, initFr, reduceLT, clsA, reduceLeDiff, reduceMul, reduceSub, reduceIte, d1]
      refine callK (hW K2) ?_
      rintro _ K3 rfl
      simp (disch := first | assumption | omega | (simp only [LN] <;> omega) | (simp (disch := first | assumption | omega | (simp only [LN] <;> omega)) only [row_alloc, row_set]; assumption)) only [W_block, P3, ↓reduceIte, reduceAdd, reduceEqDiff, reduceCtorEq, initFr, reduceLT, clsA, reduceLeDiff, reduceMul, reduceSub, reduceIte]
      exact hq2 _ _ ⟨_, rfl, rfl⟩
    | some L =>
      obtain ⟨rfl, lb, le, va, ab, rv, items, vo, inn, vl, rfl, rfl, t⟩ := id h2
      simp (disch := first | assumption | omega | (simp only [LN] <;> omega) | (simp (disch := first | assumption | omega | (simp only [LN] <;> omega)) only [row_alloc, row_set]; assumption)) only [W_block, P3, ↓reduceIte, reduceAdd, reduceEqDiff, reduceCtorEq, initFr, reduceLT, clsA, reduceLeDiff, reduceMul, reduceSub, reduceIte]
      refine callK (t16 t.lg t.rl) ?_
      rintro _ K3 ⟨rfl, k3⟩
      simp (disch := first | assumption | omega | (simp only [LN] <;> omega) | (simp (disch := first | assumption | omega | (simp only [LN] <;> omega)) only [row_alloc, row_set]; assumption)) only [W_block, P3, ↓reduceIte, reduceAdd, reduceEqDiff, reduceCtorEq, initFr, reduceLT, clsA, reduceLeDiff, reduceMul, reduceSub, reduceIte]
      refine callK (hW K3) ?_
      rintro _ K4 rfl
      simp (disch := first | assumption | omega | (simp only [LN] <;> omega) | (simp (disch := first | assumption | omega | (simp only [LN] <;> omega)) only [row_alloc, row_set]; assumption)) only [W_block, P3, ↓reduceIte, reduceAdd, reduceEqDiff, reduceCtorEq, initFr, reduceLT, clsA, reduceLeDiff, reduceMul, reduceSub, reduceIte]
      exact hq2 _ _ ⟨_, rfl, rfl⟩
end
end Go.AM.Fd

set_option linter.unusedSimpArgs false
set_option linter.unusedVariables false
namespace Go.AM.Fd
open Nat (reduceAdd reduceEqDiff reduceLT reduceLeDiff reduceMul reduceSub)
open Go.Proofs Go.AM.F
theorem Sep.join2 {H K1 K2 : AHeap} {A B : List Th} (h1 : Sep K1 A) (k : Keeps K1 K2) (h2 : Sep K2 B) (hB : ∀ y ∈ fp B, K1.n ≤ y) : Sep K2 (A ++ B) := by
  have h1' := h1.keeps k
  refine ⟨fun t ht => ?_, List.pairwise_append.2 ⟨h1'.ap, h2.ap, fun a ha b hb y hy hy2 => ?_⟩⟩
  · rcases List.mem_append.1 ht with h | h
    · exact h1'.all t h
    · exact h2.all t h
  · have := hB y (mem_fp.2 ⟨b, hb, hy2⟩)
    have := h1.lt (mem_fp.2 ⟨a, ha, hy⟩)
    omega
theorem t3 {H : AHeap} {v : Value} {l : List CW} (hc : CwL H v l) (n : Int) (hW : ∀ K, ∃ w K', ARun Go.Proofs.Tryz.prog 0 10 [] K w K' ∧ w = .bool true) : ∃ w K, ARun Go.Proofs.Tryz.prog 0 3 [.int .i64 n, v] H w K ∧ w = .bool true := by
  refine walk2 f3_ok f3_n ?_
  intro Q hq1 hq2
  refine W_part 5 (fun fr K => ∃ b e p5 er p7 y9 y10 y11 y12 y13 y14 y15 y16 y17 y18 y19 y20 sb vb D lo, fr = [.int .i64 n, v, .bool false, ptr b 0, ptr e 0, p5, .int .i64 er, p7, .int .i64 er, y9, y10, y11, y12, y13, y14, y15, y16, y17, y18, y19, y20] ∧ SW H K b sb e vb D lo p5 p7 er ∧ Bnd D lo 1 ∧ l.length ≤ 60 ∧ ∀ p ∈ l, p.l.length ≤ 6000 ∧ p.fs.length ≤ 6000) (by kernel_rfl) ?_ ?_
  rotate_left
  · rintro fr K ⟨b, e, p5, er, p7, y9, y10, y11, y12, y13, y14, y15, y16, y17, y18, y19, y20, sb, vb, D, lo, rfl, sw, bnd, hl, hll⟩
    exact walLoop sw bnd hc hl hll hW hq2
  intro Q' hk hex hret
  replace hq2 := fun fr H2 h => hret fr H2 (hq2 fr H2 h)
  simp (disch := first | assumption | omega | (simp only [LN] <;> omega) | (simp (disch := first | assumption | omega | (simp only [LN] <;> omega)) only [row_alloc, row_set]; assumption)) only [f3, W_block, P3, ↓reduceIte, reduceAdd, reduceEqDiff, reduceCtorEq, initFr, reduceLT, clsA, reduceLeDiff, reduceMul, reduceSub, reduceIte, cpre]
  refine callK (t9 hc) ?_
  rintro _ X ⟨⟨bb, rfl, hbb⟩, hX⟩
  rw [hX]
  cases bb with
  | true =>
    simp (disch := first | assumption | omega | (simp only [LN] <;> omega) | (simp (disch := first | assumption | omega | (simp only [LN] <;> omega)) only [row_alloc, row_set]; assumption)) only [W_block, P3, ↓reduceIte, reduceAdd, reduceEqDiff, reduceCtorEq, initFr, reduceLT, clsA, reduceLeDiff, reduceMul, reduceSub, reduceIte]
    refine callK (hW H) ?_
    rintro _ K3 rfl
    simp (disch := first | assumption | omega | (simp only [LN] <;> omega) | (simp (disch := first | assumption | omega | (simp only [LN] <;> omega)) only [row_alloc, row_set]; assumption)) only [W_block, P3, ↓reduceIte, reduceAdd, reduceEqDiff, reduceCtorEq, initFr, reduceLT, clsA, reduceLeDiff, reduceMul, reduceSub, reduceIte]
    exact hq2 _ _ ⟨_, rfl, rfl⟩
  | false =>
    obtain ⟨hl, hll⟩ := hbb rfl
    by_cases hn : (40 : Int) < n
    · simp (disch := first | assumption | omega | (simp only [LN] <;> omega) | (simp (disch := first | assumption | omega | (simp only [LN] <;> omega)) only [row_alloc, row_set]; assumption)) only [W_block, P3, ↓reduceIte, reduceAdd, reduceEqDiff, reduceCtorEq, initFr, reduceLT, clsA, reduceLeDiff, reduceMul, reduceSub, reduceIte]
      refine callK (hW H) ?_
      rintro _ K3 rfl
      simp (disch := first | assumption | omega | (simp only [LN] <;> omega) | (simp (disch := first | assumption | omega | (simp only [LN] <;> omega)) only [row_alloc, row_set]; assumption)) only [W_block, P3, ↓reduceIte, reduceAdd, reduceEqDiff, reduceCtorEq, initFr, reduceLT, clsA, reduceLeDiff, reduceMul, reduceSub, reduceIte]
      exact hq2 _ _ ⟨_, rfl, rfl⟩
    · simp (disch := first | assumption | omega | (simp only [LN] <;> omega) | (simp (disch := first | assumption | omega | (simp only [LN] <;> omega)) only [row_alloc, row_set]; assumption)) only [W_block, P3, ↓reduceIte, reduceAdd, reduceEqDiff, reduceCtorEq, initFr, reduceLT, clsA, reduceLeDiff, reduceMul, reduceSub, reduceIte]
      refine callK (t11 H n) ?_
      rintro _ K1 ⟨k1, b, sb, rfl, hd, hfd⟩
      simp (disch := first | assumption | omega | (simp only [LN] <;> omega) | (simp (disch := first | assumption | omega | (simp only [LN] <;> omega)) only [row_alloc, row_set]; assumption)) only [W_block, P3, ↓reduceIte, reduceAdd, reduceEqDiff, reduceCtorEq, initFr, reduceLT, clsA, reduceLeDiff, reduceMul, reduceSub, reduceIte]
      refine callK (t12 K1 n) ?_
      rintro _ K2 ⟨k2, e, vb, rfl, he, hfe⟩
      have d : D2 H K2 b sb (.slice none 0 0) none e vb (.slice none 0 0) 0 (newD n) := by
        refine ⟨⟨Sep.join2 (H := H) hd.s k2 he.s hfe, (k1.trans k2).chg _, fun y hy => .inr ?_⟩, hd.ok, he.i⟩
        rw [fp_app] at hy
        rcases List.mem_append.1 hy with hy | hy
        · exact hfd y hy
        · have := hfe y hy; have := k1.n; omega
      have bn : (newD n).st < 999999 ∧ (newD n).op.length < 999999 := ⟨by show 0 < 999999; omega, by show 0 < 999999; omega⟩
      simp (disch := first | assumption | omega | (simp only [LN] <;> omega) | (simp (disch := first | assumption | omega | (simp only [LN] <;> omega)) only [row_alloc, row_set]; assumption)) only [W_block, P3, ↓reduceIte, reduceAdd, reduceEqDiff, reduceCtorEq, initFr, reduceLT, clsA, reduceLeDiff, reduceMul, reduceSub, reduceIte]
      refine callK (t13 d.dk bn.1 bn.2) ?_
      rintro w1 Z1 ho
      obtain ⟨p, rfl, ek1, kz1, fin⟩ := SW.open1 d ho
      simp (disch := first | assumption | omega | (simp only [LN] <;> omega) | (simp (disch := first | assumption | omega | (simp only [LN] <;> omega)) only [row_alloc, row_set]; assumption)) only [ P3, ↓reduceIte, reduceAdd, reduceEqDiff, reduceCtorEq, initFr, reduceLT, clsA, reduceLeDiff, reduceMul, reduceSub, reduceIte]
      refine callK (t14 ek1 bn.1 bn.2) ?_
      rintro w2 Z2 ho2
      obtain ⟨p2, rfl, sw2⟩ := fin ho2
      have bnd := openW_b (m := 0) hd.ok (by show 0 ≤ _; omega) (by show 0 ≤ _; omega) bn.1 bn.2
      simp (disch := first | assumption | omega | (simp only [LN] <;> omega) | (simp (disch := first | assumption | omega | (simp only [LN] <;> omega)) only [row_alloc, row_set]; assumption)) only [ P3, ↓reduceIte, reduceAdd, reduceEqDiff, reduceCtorEq, initFr, reduceLT, clsA, reduceLeDiff, reduceMul, reduceSub, reduceIte]
      exact hk _ _ ⟨b, e, p, _, p2, _, _, _, _, _, _, _, _, _, _, _, _, sb, vb, _, _, rfl, sw2, bnd, hl, hll⟩
end Go.AM.Fd

set_option linter.unusedSimpArgs false
set_option linter.unusedVariables false
namespace Go.AM.Fd
open Go.Proofs Go.AM.F
structure Free (D : Dk) : Prop where
  a : D.ar = none
  o : D.off = false
theorem wl_free {D : Dk} (h : Free D) {i : Nat} (hi : i < D.bl.length) {b : List UInt8} (hb : b.length ≤ 256) : wlD D i b = (⟨setl D.bl (D.op ++ [(i, padB b)]), [], D.st + 2, none, false⟩, 0) := by
  obtain ⟨bl, op, st, ar, off⟩ := D
  obtain ⟨h1, h2⟩ := h
  simp only at h1 h2 hi
  subst h1 h2
  have ha := askD_in (D := ⟨bl, op, st, none, false⟩) rfl hi
  have hw : wrD ⟨bl, op, st, none, false⟩ ((i : Nat) : Int) b = (⟨bl, op ++ [(i, padB b)], st + 1, none, false⟩, 0) := by
    unfold wrD
    rw [if_neg (by rw [ha]; simp), if_neg (by omega)]
    simp [stepD]
  unfold wlD
  rw [hw]
  simp [syD, stepD, settD]
theorem app_free {D : Dk} {L : Lg} (h : Free D) (n3 : 3 ≤ D.bl.length) (hb : L.br = 0) (hr : L.rs.length < D.bl.length - 2) {l : List UInt8} (hl : l.length ≤ 232) :
    (appW D L l).2 = (⟨L.turn, L.first, L.rs ++ [l], 0⟩, 0) ∧ Free (appW D L l).1 ∧ (appW D L l).1.bl.length = D.bl.length ∧ (appW D L l).1.st = D.st + 2 ∧ (appW D L l).1.op = [] := by
  have hm := Nat.mod_lt (L.next - 1) (show 0 < D.bl.length - 2 by omega)
  have e := wl_free h (i := atW D L.next) (by unfold atW; omega) (b := recB L.next l) (by rw [recB_len _ hl]; omega)
  unfold appW
  rw [if_neg (by simp [hb]), if_neg (by omega), if_neg (by omega), e]
  exact ⟨rfl, ⟨rfl, rfl⟩, setl_len _ _, rfl, rfl⟩
theorem trunc_free {D : Dk} {L : Lg} (h : Free D) (n3 : 3 ≤ D.bl.length) (hb : L.br = 0) {k : Nat} (h1 : L.first ≤ k) (h2 : k ≤ L.next) :
    (truncW D L (k : Nat)).2 = (⟨L.turn + 1, k, L.rs.drop (k - L.first), 0⟩, 0) ∧ Free (truncW D L (k : Nat)).1 ∧ (truncW D L (k : Nat)).1.bl.length = D.bl.length ∧ (truncW D L (k : Nat)).1.st = D.st + 2 ∧ (truncW D L (k : Nat)).1.op = [] := by
  have e := wl_free h (i := (L.turn + 1) % 2) (by omega) (b := headB (L.turn + 1) k) (by rw [headB_len]; omega)
  unfold truncW
  rw [if_neg (by simp [hb]), if_neg (by omega)]
  have tn : ((k : Nat) : Int).toNat = k := rfl
  rw [tn, e]
  exact ⟨rfl, ⟨rfl, rfl⟩, setl_len _ _, rfl, rfl⟩
theorem hz1 : headW zB = (0, 0) := by kernel_rfl
theorem hz2 : recW zB = (0, []) := by kernel_rfl
theorem hz3 : zeroW zB = true := by kernel_rfl
def D1W (x : List UInt8) : Dk := ⟨[zB, x, zB, zB, zB], [], 2, none, false⟩
theorem open5 : openW (newD 5) = (D1W (padB (headB 1 1)), some ⟨1, 1, [], 0⟩, 0) := by
  have hn : newD 5 = ⟨[zB, zB, zB, zB, zB], [], 0, none, false⟩ := rfl
  have e := wl_free (D := ⟨[zB, zB, zB, zB, zB], [], 0, none, false⟩) ⟨rfl, rfl⟩ (i := 1) (by simp) (b := headB 1 1) (by rw [headB_len]; omega)
  have e2 : setl [zB, zB, zB, zB, zB] ([] ++ [(1, padB (headB 1 1))]) = [zB, padB (headB 1 1), zB, zB, zB] := rfl
  simp only [e2] at e
  rw [hn]
  generalize padB (headB 1 1) = x at *
  have r0 : rdB ⟨[zB, zB, zB, zB, zB], [], 0, none, false⟩ 0 = zB := rfl
  have r1 : rdB ⟨[zB, zB, zB, zB, zB], [], 0, none, false⟩ 1 = zB := rfl
  have hh : headsW ⟨[zB, zB, zB, zB, zB], [], 0, none, false⟩ = (0, 0) := by unfold headsW; rw [r0, r1, hz1]; rfl
  unfold openW
  rw [if_neg (by simp), if_neg (by simp), hh, if_pos rfl, r0, r1, hz3, if_neg (by simp), e, if_neg (by simp)]
  show open2 (D1W x) 1 1 = _
  have a2 : rdB (D1W x) 2 = zB := rfl
  have a3 : rdB (D1W x) 3 = zB := rfl
  have a4 : rdB (D1W x) 4 = zB := rfl
  have at1 : atW (D1W x) (1 + ([] : List (List UInt8)).length) = 2 := rfl
  have hr : recsW (D1W x) 1 3 [] = [] := by rw [recsW_s, at1, a2, hz2]; rfl
  have hl : (D1W x).bl.length - 2 = 3 := rfl
  have ha : anyW (D1W x) 1 3 = false := by
    unfold anyW
    rw [show List.range 3 = [0, 1, 2] from rfl]
    simp only [List.any_cons, List.any_nil, Nat.add_zero, a2, a3, a4, hz2]
    rfl
  unfold open2
  rw [hl, hr]
  simp only [List.length_nil, Nat.add_zero, ha]
  rfl
end Go.AM.Fd
