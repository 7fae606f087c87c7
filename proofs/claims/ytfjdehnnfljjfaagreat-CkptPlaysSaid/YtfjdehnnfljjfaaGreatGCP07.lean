/- Part of the proof. -/
import Derived.Test.YtfjdehnnfljjfaaGreatGCP06
set_option linter.unusedSimpArgs false
set_option linter.unusedVariables false
set_option linter.unusedSimpArgs false
set_option linter.unusedVariables false
namespace Go.AM.Fd
open Nat (reduceAdd reduceEqDiff reduceLT reduceLeDiff reduceMul reduceSub)
open Go.Proofs Go.AM.F
theorem call_of16 {H : AHeap} {cells : List Value} (h : AR Go.Proofs.Tryz.prog H.get 70 cells) : ∃ p, cells = cwRow p ∧ CwO H p := by
  have h1 := h.flat (d := 5) (ks := [.int .u8, .sl 38, .int .i64, .sl 38]) (by kernel_rfl)
  obtain ⟨_, as1, rfl, ha, h2⟩ := h1.inv
  obtain ⟨b, bs, rfl, hb, h3⟩ := h2.inv
  obtain ⟨_, cs, rfl, ⟨n, rfl, hn⟩, h4⟩ := h3.inv
  obtain ⟨d, ds, rfl, hd, h5⟩ := h4.inv
  have := h5.end_; subst this
  obtain ⟨k, rfl, hk⟩ := fits_u8 ha
  obtain ⟨l, hl⟩ := AR.bs (P := Go.Proofs.Tryz.prog) (t := 38) (e := 5) (by kernel_rfl) (by kernel_rfl) (by kernel_rfl) (show AR Go.Proofs.Tryz.prog H.get 38 [b] from hb)
  obtain ⟨fs, hf⟩ := AR.bs (P := Go.Proofs.Tryz.prog) (t := 38) (e := 5) (by kernel_rfl) (by kernel_rfl) (by kernel_rfl) (show AR Go.Proofs.Tryz.prog H.get 38 [d] from hd)
  have hn2 : n ≤ 9223372036854775807 := by
    simp only [Lit.wf, Bool.and_eq_true, decide_eq_true_eq, IntKind.min, IntKind.max, IntKind.signed, IntKind.bits] at hn
    simp at hn; omega
  exact ⟨⟨k, b, l, n, d, fs⟩, rfl, hk, hl, hf, hn2, bs_lt hl, bs_lt hf⟩
theorem av_calls16 {H : AHeap} {v : Value} (h : AV Go.Proofs.Tryz.prog H.get 60 v) : ∃ l : List CW, CwL H v l := by
  have h1 := h.2.2 (by kernel_rfl)
  have hc : v.cells.toList = [v] := by rw [cells_one h1]
  have h2 := h.1
  rw [hc] at h2
  obtain ⟨rows, hr, hrow⟩ := h2.rows (e := 70) (esz := 4) (by kernel_rfl) (by kernel_rfl)
  obtain ⟨l, rfl, hl⟩ := list_choose (f := cwRow) (Q := CwO H) (l := rows) (fun r hm => call_of16 (hrow r hm))
  exact ⟨l, hr, hl⟩
theorem t37 {H : AHeap} {v : Value} {l : List CW} (h : CwL H v l) : ∃ w K, ARun Go.Proofs.Tryz.prog 0 37 [v] H w K ∧ (∃ b, w = .bool b ∧ (b = false → l.length ≤ 60 ∧ ∀ p ∈ l, p.l.length ≤ 6000 ∧ p.fs.length ≤ 6000)) ∧ K = H := by
  refine walk2 f37_ok f37_n ?_
  intro Q hq1 hq2
  have isv := Sl.is h.s
  have lv : lenS v = l.length := by have := Sl.len h.s; simpa using this
  by_cases h60 : (60 : Int) < ((l.length : Nat) : Int)
  · simp (disch := first | assumption | omega | (simp only [LN] <;> omega) | (simp (disch := first | assumption | omega | (simp only [LN] <;> omega)) only [row_alloc, row_set]; assumption)) only [f37, W_block, P3, ↓reduceIte, reduceAdd, reduceEqDiff, reduceCtorEq, initFr, reduceLT, clsA, reduceLeDiff, reduceMul, reduceSub, reduceIte, isv, lv, h60]
    exact hq2 _ _ ⟨_, rfl, ⟨true, rfl, fun e => by cases e⟩, rfl⟩
  simp (disch := first | assumption | omega | (simp only [LN] <;> omega) | (simp (disch := first | assumption | omega | (simp only [LN] <;> omega)) only [row_alloc, row_set]; assumption)) only [ f37, P3, ↓reduceIte, reduceAdd, reduceEqDiff, reduceCtorEq, initFr, reduceLT, clsA, reduceLeDiff, reduceMul, reduceSub, reduceIte, isv, lv, h60]
  rw [W_block]
  refine W_loop2 (fun q fr K => ∃ i tot x5 x6, fr = [v, .bool false, .int .i64 (tot : Nat), .int .i64 ((i : Nat) : Int), .bool false, x5, x6] ∧ K = H ∧ tot ≤ 12000 ∧ (∀ j, (hj : j < l.length) → j < i → l[j].l.length ≤ 6000 ∧ l[j].fs.length ≤ 6000) ∧ i ≤ l.length ∧ q = l.length - i) l.length
    ⟨0, 0, _, _, rfl, rfl, by omega, fun j _ hj => absurd hj (by omega), by omega, rfl⟩ ?_
  rintro Q' q fr K ⟨i, tot, x5, x6, rfl, rfl, htot, hall, hi, rfl⟩ hn' hx' hret
  by_cases hlt : i < l.length
  · obtain ⟨nn, ra⟩ := h.at_ hlt
    have e0 : (0 : Int) ≤ (i : Int) := by omega
    have e1 : (i : Int) < ((l.length : Nat) : Int) := by omega
    have hw : IntKind.i64.wrap ((i : Int) + 1) = ((i + 1 : Nat) : Int) := by rw [wrap_i64 (by omega) (by omega)]; simp
    have oc := h.c _ (List.getElem_mem hlt)
    obtain ⟨P, eP⟩ : ∃ P, l[i] = P := ⟨_, rfl⟩
    have hallP : ∀ (hP : P.l.length ≤ 6000 ∧ P.fs.length ≤ 6000), ∀ j, (hj : j < l.length) → j < i + 1 → l[j].l.length ≤ 6000 ∧ l[j].fs.length ≤ 6000 := fun hP j hj hji => by
      rcases Nat.lt_or_ge j i with h | h
      · exact hall j hj h
      · have : j = i := by omega
        subst this
        rw [eP]; exact hP
    rw [eP] at oc ra
    have m1 : (cwRow P)[1]? = some P.b := rfl
    have m3 : (cwRow P)[3]? = some P.f := rfl
    have isa := oc.b.isS
    have isb := oc.f.isS
    have la : lenS P.b = P.l.length := oc.b.lenS
    have lb : lenS P.f = P.fs.length := oc.f.lenS
    have hs : IntKind.i64.wrap (6000 - ((tot : Nat) : Int)) = 6000 - ((tot : Nat) : Int) := wrap_i64 (by omega) (by omega)
    by_cases c1 : 6000 - ((tot : Nat) : Int) < ((P.l.length : Nat) : Int)
    · simp (disch := first | assumption | omega | (simp only [LN] <;> omega) | (simp (disch := first | assumption | omega | (simp only [LN] <;> omega)) only [row_alloc, row_set]; assumption)) only [W_block, P3, ↓reduceIte, reduceAdd, reduceEqDiff, reduceCtorEq, initFr, reduceLT, clsA, reduceLeDiff, reduceMul, reduceSub, reduceIte, isv, lv, e0, e1, nn, ra, a_load1v, m1, m3, isa, isb, la, lb, hs, c1]
      exact hret _ _ (hq2 _ _ ⟨_, rfl, ⟨true, rfl, fun e => by cases e⟩, rfl⟩)
    by_cases c2 : 6000 - ((tot : Nat) : Int) < ((P.fs.length : Nat) : Int)
    · simp (disch := first | assumption | omega | (simp only [LN] <;> omega) | (simp (disch := first | assumption | omega | (simp only [LN] <;> omega)) only [row_alloc, row_set]; assumption)) only [W_block, P3, ↓reduceIte, reduceAdd, reduceEqDiff, reduceCtorEq, initFr, reduceLT, clsA, reduceLeDiff, reduceMul, reduceSub, reduceIte, isv, lv, e0, e1, nn, ra, a_load1v, m1, m3, isa, isb, la, lb, hs, c1, c2]
      exact hret _ _ (hq2 _ _ ⟨_, rfl, ⟨true, rfl, fun e => by cases e⟩, rfl⟩)
    have ht1 : IntKind.i64.wrap (((tot : Nat) : Int) + ((P.l.length : Nat) : Int)) = ((tot + P.l.length : Nat) : Int) := by rw [wrap_i64 (by omega) (by omega)]; simp
    have ht2 : IntKind.i64.wrap (((tot + P.l.length : Nat) : Int) + ((P.fs.length : Nat) : Int)) = ((tot + P.l.length + P.fs.length : Nat) : Int) := by rw [wrap_i64 (by omega) (by omega)]; simp
    simp (disch := first | assumption | omega | (simp only [LN] <;> omega) | (simp (disch := first | assumption | omega | (simp only [LN] <;> omega)) only [row_alloc, row_set]; assumption)) only [W_block, P3, ↓reduceIte, reduceAdd, reduceEqDiff, reduceCtorEq, initFr, reduceLT, clsA, reduceLeDiff, reduceMul, reduceSub, reduceIte, isv, lv, e0, e1, nn, ra, a_load1v, m1, m3, isa, isb, la, lb, hs, c1, c2, hw, ht1, ht2]
    exact hn' _ _ _ ⟨i + 1, tot + P.l.length + P.fs.length, _, _, rfl, rfl, by omega, hallP ⟨by omega, by omega⟩, by omega, rfl⟩ (by omega)
  · have e1 : ¬ (i : Int) < ((l.length : Nat) : Int) := by omega
    simp (disch := first | assumption | omega | (simp only [LN] <;> omega) | (simp (disch := first | assumption | omega | (simp only [LN] <;> omega)) only [row_alloc, row_set]; assumption)) only [W_block, P3, ↓reduceIte, reduceAdd, reduceEqDiff, reduceCtorEq, initFr, reduceLT, clsA, reduceLeDiff, reduceMul, reduceSub, reduceIte, isv, lv, e1]
    refine hx' 0 _ _ (show W Go.Proofs.Tryz.prog 0 _ Q _ _ from ?_)
    simp (disch := first | assumption | omega | (simp only [LN] <;> omega) | (simp (disch := first | assumption | omega | (simp only [LN] <;> omega)) only [row_alloc, row_set]; assumption)) only [W_block, P3, ↓reduceIte, reduceAdd, reduceEqDiff, reduceCtorEq, initFr, reduceLT, clsA, reduceLeDiff, reduceMul, reduceSub, reduceIte]
    exact hq2 _ _ ⟨_, rfl, ⟨_, rfl, fun _ => ⟨by omega, fun p hp => by
      obtain ⟨j, hj, rfl⟩ := List.mem_iff_getElem.1 hp
      exact hall j hj (by omega)⟩⟩, rfl⟩
end Go.AM.Fd

set_option linter.unusedSimpArgs false
set_option linter.unusedVariables false
namespace Go.AM.Fd
open Nat (reduceAdd reduceEqDiff reduceLT reduceLeDiff reduceMul reduceSub)
open Go.Proofs Go.AM.F
theorem Sep.join2 {H K1 K2 : AHeap} {A B : List Th} (h1 : Sep K1 A) (k : Keeps K1 K2) (h2 : Sep K2 B) (hB : ∀ y ∈ fp B, K1.n ≤ y) : Sep K2 (A ++ B) := by
  have h1' := h1.keeps k
  refine ⟨fun t ht => ?_, List.pairwise_append.2 ⟨h1'.ap, h2.ap, fun a ha b hb y hy hy2 => ?_⟩⟩
  · rcases List.mem_append.1 ht with h | h
    · exact h1'.all t h
    · exact h2.all t h
  · have := hB y (mem_fp.2 ⟨b, hb, hy2⟩)
    have := h1.lt (mem_fp.2 ⟨a, ha, hy⟩)
    omega
end Go.AM.Fd

set_option linter.unusedSimpArgs false
set_option linter.unusedVariables false
namespace Go.AM.Fd
open Go.Proofs Go.AM.F
structure Free (D : Dk) : Prop where
  a : D.ar = none
  o : D.off = false
theorem wl_free {D : Dk} (h : Free D) {i : Nat} (hi : i < D.bl.length) {b : List UInt8} (hb : b.length ≤ 256) : wlD D i b = (⟨setl D.bl (D.op ++ [(i, padB b)]), [], D.st + 2, none, false⟩, 0) := by
  obtain ⟨bl, op, st, ar, off⟩ := D
  obtain ⟨h1, h2⟩ := h
  simp only at h1 h2 hi
  subst h1 h2
  have ha := askD_in (D := ⟨bl, op, st, none, false⟩) rfl hi
  have hw : wrD ⟨bl, op, st, none, false⟩ ((i : Nat) : Int) b = (⟨bl, op ++ [(i, padB b)], st + 1, none, false⟩, 0) := by
    unfold wrD
    rw [if_neg (by rw [ha]; simp), if_neg (by omega)]
    simp [stepD]
  unfold wlD
  rw [hw]
  simp [syD, stepD, settD]
theorem app_free {D : Dk} {L : Lg} (h : Free D) (n3 : 3 ≤ D.bl.length) (hb : L.br = 0) (hr : L.rs.length < D.bl.length - 2) {l : List UInt8} (hl : l.length ≤ 232) :
    (appW D L l).2 = (⟨L.turn, L.first, L.rs ++ [l], 0⟩, 0) ∧ Free (appW D L l).1 ∧ (appW D L l).1.bl.length = D.bl.length ∧ (appW D L l).1.st = D.st + 2 ∧ (appW D L l).1.op = [] := by
  have hm := Nat.mod_lt (L.next - 1) (show 0 < D.bl.length - 2 by omega)
  have e := wl_free h (i := atW D L.next) (by unfold atW; omega) (b := recB L.next l) (by rw [recB_len _ hl]; omega)
  unfold appW
  rw [if_neg (by simp [hb]), if_neg (by omega), if_neg (by omega), e]
  exact ⟨rfl, ⟨rfl, rfl⟩, setl_len _ _, rfl, rfl⟩
theorem trunc_free {D : Dk} {L : Lg} (h : Free D) (n3 : 3 ≤ D.bl.length) (hb : L.br = 0) {k : Nat} (h1 : L.first ≤ k) (h2 : k ≤ L.next) :
    (truncW D L (k : Nat)).2 = (⟨L.turn + 1, k, L.rs.drop (k - L.first), 0⟩, 0) ∧ Free (truncW D L (k : Nat)).1 ∧ (truncW D L (k : Nat)).1.bl.length = D.bl.length ∧ (truncW D L (k : Nat)).1.st = D.st + 2 ∧ (truncW D L (k : Nat)).1.op = [] := by
  have e := wl_free h (i := (L.turn + 1) % 2) (by omega) (b := headB (L.turn + 1) k) (by rw [headB_len]; omega)
  unfold truncW
  rw [if_neg (by simp [hb]), if_neg (by omega)]
  have tn : ((k : Nat) : Int).toNat = k := rfl
  rw [tn, e]
  exact ⟨rfl, ⟨rfl, rfl⟩, setl_len _ _, rfl, rfl⟩
theorem hz1 : headW zB = (0, 0) := by kernel_rfl
theorem hz2 : recW zB = (0, []) := by kernel_rfl
theorem hz3 : zeroW zB = true := by kernel_rfl
end Go.AM.Fd

set_option linter.unusedSimpArgs false
set_option linter.unusedVariables false
namespace Go.AM.Fd
open Go.Proofs Go.AM.F
def D1V (x : List UInt8) : Dk := ⟨[zB, x, zB, zB], [], 2, none, false⟩
theorem open4 : openW (newD 4) = (D1V (padB (headB 1 1)), some ⟨1, 1, [], 0⟩, 0) := by
  have hn : newD 4 = ⟨[zB, zB, zB, zB], [], 0, none, false⟩ := rfl
  have e := wl_free (D := ⟨[zB, zB, zB, zB], [], 0, none, false⟩) ⟨rfl, rfl⟩ (i := 1) (by simp) (b := headB 1 1) (by rw [headB_len]; omega)
  have e2 : setl [zB, zB, zB, zB] ([] ++ [(1, padB (headB 1 1))]) = [zB, padB (headB 1 1), zB, zB] := rfl
  simp only [e2] at e
  rw [hn]
  generalize padB (headB 1 1) = x at *
  have r0 : rdB ⟨[zB, zB, zB, zB], [], 0, none, false⟩ 0 = zB := rfl
  have r1 : rdB ⟨[zB, zB, zB, zB], [], 0, none, false⟩ 1 = zB := rfl
  have hh : headsW ⟨[zB, zB, zB, zB], [], 0, none, false⟩ = (0, 0) := by unfold headsW; rw [r0, r1, hz1]; rfl
  unfold openW
  rw [if_neg (by simp), if_neg (by simp), hh, if_pos rfl, r0, r1, hz3, if_neg (by simp), e, if_neg (by simp)]
  show open2 (D1V x) 1 1 = _
  have a2 : rdB (D1V x) 2 = zB := rfl
  have a3 : rdB (D1V x) 3 = zB := rfl
  have at1 : atW (D1V x) (1 + ([] : List (List UInt8)).length) = 2 := rfl
  have hr : recsW (D1V x) 1 2 [] = [] := by rw [recsW_s, at1, a2, hz2]; rfl
  have hl : (D1V x).bl.length - 2 = 2 := rfl
  have ha : anyW (D1V x) 1 2 = false := by
    unfold anyW
    rw [show List.range 2 = [0, 1] from rfl]
    simp only [List.any_cons, List.any_nil, Nat.add_zero, a2, a3, hz2]
    rfl
  unfold open2
  rw [hl, hr]
  simp only [List.length_nil, Nat.add_zero, ha]
  rfl
theorem save_1 {D : Dk} (h : Free D) (hn : D.bl.length = 4) {t f : Nat} {rs : List (List UInt8)} (hr : rs.length < 2) {l : List UInt8} (hl : l.length ≤ 232) :
    (saveW D ⟨t, f, rs, 0⟩ l).2 = (⟨t, f, rs ++ [l], 0⟩, 0) ∧ Free (saveW D ⟨t, f, rs, 0⟩ l).1 ∧ (saveW D ⟨t, f, rs, 0⟩ l).1.bl.length = 4 ∧ (saveW D ⟨t, f, rs, 0⟩ l).1.st = D.st + 2 ∧ (saveW D ⟨t, f, rs, 0⟩ l).1.op = [] := by
  have e : saveW D ⟨t, f, rs, 0⟩ l = appW D ⟨t, f, rs, 0⟩ l := saveW_a (fun q => by have := q.1; rw [hn] at this; simp only at this; omega)
  rw [e]
  obtain ⟨a, b, c, d, e'⟩ := app_free (L := ⟨t, f, rs, 0⟩) h (by omega) rfl (by show rs.length < _; omega) hl
  exact ⟨a, b, by rw [c, hn], d, e'⟩
theorem save_2 {D : Dk} (h : Free D) (hn : D.bl.length = 4) {t f : Nat} {x y : List UInt8} {l : List UInt8} (hl : l.length ≤ 232) :
    (saveW D ⟨t, f, [x, y], 0⟩ l).2 = (⟨t + 1, f + 1, [y, l], 0⟩, 0) ∧ Free (saveW D ⟨t, f, [x, y], 0⟩ l).1 ∧ (saveW D ⟨t, f, [x, y], 0⟩ l).1.bl.length = 4 := by
  have e := saveW_t (D := D) (L := ⟨t, f, [x, y], 0⟩) (l := l) ⟨by rw [hn]; rfl, by omega, hl⟩
  have hk : (((⟨t, f, [x, y], 0⟩ : Lg).next : Nat) : Int) - 1 = ((f + 1 : Nat) : Int) := by
    show ((f + 2 : Nat) : Int) - 1 = _
    omega
  rw [hk] at e
  obtain ⟨a, b, c, d, e'⟩ := trunc_free (L := ⟨t, f, [x, y], 0⟩) h (by omega) rfl (k := f + 1) (by show f ≤ f + 1; omega) (by show f + 1 ≤ f + 2; omega)
  have hd : ([x, y] : List (List UInt8)).drop (f + 1 - f) = [y] := by rw [Nat.add_sub_cancel_left]; rfl
  simp only [hd] at a
  rw [a] at e
  rw [if_neg (by simp)] at e
  generalize (truncW D ⟨t, f, [x, y], 0⟩ ((f + 1 : Nat) : Int)).1 = D2 at *
  obtain ⟨a1, a2, a3, _, _⟩ := app_free (L := ⟨t + 1, f + 1, [y], 0⟩) b (by omega) rfl (by show 1 < _; omega) hl
  rw [e]
  exact ⟨a1, a2, by rw [a3, c, hn]⟩
end Go.AM.Fd

set_option linter.unusedSimpArgs false
set_option linter.unusedVariables false
namespace Go.AM.Fd
open Go.Proofs Go.AM.F
structure CkS (A : List Th) (K0 K : AHeap) (c lb b sb : Nat) (v : Value) (ab : Option Nat) (rv : Value) (items : List (Value × List UInt8)) (D : Dk) (L : Lg) : Prop where
  u : Upd A (thB c (ckC lb) :: (lgT lb b rv items L ++ dkT b sb v ab D)) K0 K
  ok : D.ok
  n3 : 3 ≤ D.bl.length
  it : items.map (·.2) = L.rs
  lok : L.ok
section
variable {A : List Th} {K0 K : AHeap} {c lb b sb : Nat} {v rv : Value} {ab : Option Nat} {items : List (Value × List UInt8)} {D : Dk} {L : Lg}
theorem CkS.lg (h : CkS A K0 K c lb b sb v ab rv items D L) : LgR K lb b sb v ab rv items D L := ⟨Sep.right (A := [thB c (ckC lb)]) h.u.sep, h.ok, h.n3, h.it, h.lok⟩
theorem CkS.gc (h : CkS A K0 K c lb b sb v ab rv items D L) : K.get c = some (ckC lb) := h.u.sep.get 0 rfl
theorem CkS.keeps {K' : AHeap} (h : CkS A K0 K c lb b sb v ab rv items D L) (k : Keeps K K') : CkS A K0 K' c lb b sb v ab rv items D L := ⟨h.u.keeps' k, h.ok, h.n3, h.it, h.lok⟩
theorem CkS.cf (h : CkS A K0 K c lb b sb v ab rv items D L) : c ∉ fp (lgT lb b rv items L ++ dkT b sb v ab D) := fun hz => by
  obtain ⟨x, hx, h1⟩ := mem_fp.1 hz
  exact (List.pairwise_cons.1 h.u.sep.ap).1 x hx c (by simp [thB]) h1
theorem CkS.save (h : CkS A K0 K c lb b sb v ab rv items D L) (hs : D.st < 999990) (hm : D.op.length < 999990) (hT : L.turn < 8999999999999999999) (hF : L.next ≤ 9000000000000000000) {x : Value} {l : List UInt8} (hx : BS K x l) (hl : l.length ≤ 1000000)
    (hxf : ∀ z ∈ tb x, z ∉ fp (lgT lb b rv items L ++ dkT b sb v ab D)) : ∃ w K', ARun Go.Proofs.Tryz.prog 0 45 [ptr c 0, x] K w K' ∧ w = .int .i64 (saveW D L l).2.2 ∧ ∃ v' ab' rv' items', CkS A K0 K' c lb b sb v' ab' rv' items' (saveW D L l).1 (saveW D L l).2.1 := by
  obtain ⟨w, K', r, rfl, v', ab', rv', items', h2, u2⟩ := t45 h.lg h.gc hs hm hT hF hx hl h.cf hxf
  exact ⟨_, K', r, rfl, v', ab', rv', items', h.u.trans (u2.extR (A := [thB c (ckC lb)]) h.u.sep), h2.ok, h2.n3, h2.it, h2.lok⟩
theorem CkS.check (h : CkS A K0 K c lb b sb v ab rv items D L) (hs : D.st < 999999) (hm : D.op.length < 999999) (hT : L.turn < 8999999999999999999) (hF : L.next ≤ 9000000000000000000) : ∃ w K', ARun Go.Proofs.Tryz.prog 0 43 [ptr c 0] K w K' ∧ w = .int .i64 (checkW D L).2.2 ∧ ∃ v' ab' rv' items', CkS A K0 K' c lb b sb v' ab' rv' items' (checkW D L).1 (checkW D L).2.1 := by
  obtain ⟨w, K', r, rfl, v', ab', rv', items', h2, u2⟩ := t43 h.lg h.gc hs hm hT hF
  exact ⟨_, K', r, rfl, v', ab', rv', items', h.u.trans (u2.extR (A := [thB c (ckC lb)]) h.u.sep), h2.ok, h2.n3, h2.it, h2.lok⟩
end
end Go.AM.Fd

set_option linter.unusedSimpArgs false
set_option linter.unusedVariables false
namespace Go.AM.Fd
open Nat (reduceAdd reduceEqDiff reduceLT reduceLeDiff reduceMul reduceSub)
open Go.Proofs Go.AM.F
set_option maxRecDepth 20000 in
theorem t38 (K : AHeap) : ∃ w K', ARun Go.Proofs.Tryz.prog 0 38 [] K w K' ∧ w = .bool true := by
  refine walk2 f38_ok f38_n ?_
  intro Q hq1 hq2
  simp (disch := first | assumption | omega | (simp only [LN] <;> omega) | (simp (disch := first | assumption | omega | (simp only [LN] <;> omega)) only [row_alloc, row_set]; assumption)) only [f38, W_block, P3, ↓reduceIte, reduceAdd, reduceEqDiff, reduceCtorEq, initFr, reduceLT, clsA, reduceLeDiff, reduceMul, reduceSub, reduceIte]
  refine callK (t11 K 4) ?_
  rintro _ K1 ⟨k1, b, sb, rfl, hd, hfd⟩
  simp (disch := first | assumption | omega | (simp only [LN] <;> omega) | (simp (disch := first | assumption | omega | (simp only [LN] <;> omega)) only [row_alloc, row_set]; assumption)) only [W_block, P3, ↓reduceIte, reduceAdd, reduceEqDiff, reduceCtorEq, initFr, reduceLT, clsA, reduceLeDiff, reduceMul, reduceSub, reduceIte]
  refine callK (t39 hd (by show 0 < 999999; omega) (by show 0 < 999999; omega)) ?_
  rintro _ K2 ho
  have e4 := open4
  generalize padB (headB 1 1) = x0 at *
  unfold CkOpenR at ho
  rw [e4] at ho
  obtain ⟨c, lb, v0, ab0, rv0, it0, rfl, hL, u0⟩ := ho
  have s0 : CkS _ K1 K2 c lb b sb v0 ab0 rv0 it0 (D1V x0) ⟨1, 1, [], 0⟩ := ⟨u0, hL.ok, hL.n3, hL.it, hL.lok⟩
  have hD : Free (D1V x0) ∧ (D1V x0).bl.length = 4 ∧ (D1V x0).st = 2 ∧ (D1V x0).op = [] := ⟨⟨rfl, rfl⟩, rfl, rfl, rfl⟩
  clear u0 hL e4
  generalize D1V x0 = D at *
  obtain ⟨hf, h4, hst, hop⟩ := hD
  have hf1 : fillA [.int .u8 0] [(0, 1, .int .u8 97)] = some [.int .u8 97] := rfl
  simp (disch := first | assumption | omega | (simp only [LN] <;> omega) | (simp (disch := first | assumption | omega | (simp only [LN] <;> omega)) only [row_alloc, row_set]; assumption)) only [W_block, P3, ↓reduceIte, reduceAdd, reduceEqDiff, reduceCtorEq, initFr, reduceLT, clsA, reduceLeDiff, reduceMul, reduceSub, reduceIte, hf1]
  obtain ⟨X1, hX1⟩ : ∃ Y, Y = K2.alloc (.cells true false 1 [.int .u8 97] 5) := ⟨_, rfl⟩
  have ka1 : Keeps K2 X1 := by rw [hX1]; exact (Keeps.refl _).alloc _
  have gx1 : X1.get K2.n = some (.cells true false 1 [.int .u8 97] 5) := by rw [hX1]; exact AHeap.get_alloc_new K2 _
  rw [← hX1]
  have mk1 : asem (.mark (slc K2.n 0 1 1)) X1 = some (slc K2.n 0 1 1, X1) := by simp only [asem, slc, gx1]
  have bx1 : BS X1 (slc K2.n 0 1 1) [97] := ⟨⟨_, _, rfl⟩, by simp only [elemsA, slc, gx1]; rfl⟩
  obtain ⟨a1, f1, n1, r1⟩ := save_1 (t := 1) (f := 1) (rs := []) hf h4 (by simp) (l := [97]) (by simp)
  simp (disch := first | assumption | omega | (simp only [LN] <;> omega) | (simp (disch := first | assumption | omega | (simp only [LN] <;> omega)) only [row_alloc, row_set]; assumption)) only [W_block, P3, ↓reduceIte, reduceAdd, reduceEqDiff, reduceCtorEq, initFr, reduceLT, clsA, reduceLeDiff, reduceMul, reduceSub, reduceIte, mk1]
  refine callK ((s0.keeps ka1).save (by omega) (by simp only [hop]; simp) (by show 1 < _; omega) (by show 1 + 0 ≤ _; omega) bx1 (by simp) (fun z hz hz2 => by
    have : z = K2.n := by simpa [tb, slc] using hz
    have := s0.lg.s.lt hz2
    omega)) ?_
  rintro _ W1 ⟨rfl, v1, ab1, rv1, it1, s1⟩
  rw [a1] at s1 ⊢
  have t1 : CkS _ K1 W1 c lb b sb v1 ab1 rv1 it1 _ ⟨1, 1, [[97]], 0⟩ := s1
  generalize (saveW D ⟨1, 1, [], 0⟩ [97]).1 = E1 at *
  have hf2 : fillA [.int .u8 0] [(0, 1, .int .u8 98)] = some [.int .u8 98] := rfl
  simp (disch := first | assumption | omega | (simp only [LN] <;> omega) | (simp (disch := first | assumption | omega | (simp only [LN] <;> omega)) only [row_alloc, row_set]; assumption)) only [W_block, P3, ↓reduceIte, reduceAdd, reduceEqDiff, reduceCtorEq, initFr, reduceLT, clsA, reduceLeDiff, reduceMul, reduceSub, reduceIte, hf2]
  obtain ⟨X2, hX2⟩ : ∃ Y, Y = W1.alloc (.cells true false 1 [.int .u8 98] 5) := ⟨_, rfl⟩
  have ka2 : Keeps W1 X2 := by rw [hX2]; exact (Keeps.refl _).alloc _
  have gx2 : X2.get W1.n = some (.cells true false 1 [.int .u8 98] 5) := by rw [hX2]; exact AHeap.get_alloc_new W1 _
  rw [← hX2]
  have mk2 : asem (.mark (slc W1.n 0 1 1)) X2 = some (slc W1.n 0 1 1, X2) := by simp only [asem, slc, gx2]
  have bx2 : BS X2 (slc W1.n 0 1 1) [98] := ⟨⟨_, _, rfl⟩, by simp only [elemsA, slc, gx2]; rfl⟩
  obtain ⟨a2, f2, n2, r2⟩ := save_1 (t := 1) (f := 1) (rs := [[97]]) f1 n1 (by simp) (l := [98]) (by simp)
  simp (disch := first | assumption | omega | (simp only [LN] <;> omega) | (simp (disch := first | assumption | omega | (simp only [LN] <;> omega)) only [row_alloc, row_set]; assumption)) only [W_block, P3, ↓reduceIte, reduceAdd, reduceEqDiff, reduceCtorEq, initFr, reduceLT, clsA, reduceLeDiff, reduceMul, reduceSub, reduceIte, mk2]
  refine callK ((t1.keeps ka2).save (by omega) (by simp only [r1.2]; simp) (by show 1 < _; omega) (by show 1 + 1 ≤ _; omega) bx2 (by simp) (fun z hz hz2 => by
    have : z = W1.n := by simpa [tb, slc] using hz
    have := t1.lg.s.lt hz2
    omega)) ?_
  rintro _ W2 ⟨rfl, v2, ab2, rv2, it2, s2⟩
  rw [a2] at s2 ⊢
  have t2 : CkS _ K1 W2 c lb b sb v2 ab2 rv2 it2 _ ⟨1, 1, [[97], [98]], 0⟩ := s2
  generalize (saveW E1 ⟨1, 1, [[97]], 0⟩ [98]).1 = E2 at *
  have hf3 : fillA [.int .u8 0] [(0, 1, .int .u8 99)] = some [.int .u8 99] := rfl
  simp (disch := first | assumption | omega | (simp only [LN] <;> omega) | (simp (disch := first | assumption | omega | (simp only [LN] <;> omega)) only [row_alloc, row_set]; assumption)) only [W_block, P3, ↓reduceIte, reduceAdd, reduceEqDiff, reduceCtorEq, initFr, reduceLT, clsA, reduceLeDiff, reduceMul, reduceSub, reduceIte, hf3]
  obtain ⟨X3, hX3⟩ : ∃ Y, Y = W2.alloc (.cells true false 1 [.int .u8 99] 5) := ⟨_, rfl⟩
  have ka3 : Keeps W2 X3 := by rw [hX3]; exact (Keeps.refl _).alloc _
  have gx3 : X3.get W2.n = some (.cells true false 1 [.int .u8 99] 5) := by rw [hX3]; exact AHeap.get_alloc_new W2 _
  rw [← hX3]
  have mk3 : asem (.mark (slc W2.n 0 1 1)) X3 = some (slc W2.n 0 1 1, X3) := by simp only [asem, slc, gx3]
  have bx3 : BS X3 (slc W2.n 0 1 1) [99] := ⟨⟨_, _, rfl⟩, by simp only [elemsA, slc, gx3]; rfl⟩
  obtain ⟨a3, f3, n3⟩ := save_2 (t := 1) (f := 1) (x := [97]) (y := [98]) f2 n2 (l := [99]) (by simp)
  simp (disch := first | assumption | omega | (simp only [LN] <;> omega) | (simp (disch := first | assumption | omega | (simp only [LN] <;> omega)) only [row_alloc, row_set]; assumption)) only [W_block, P3, ↓reduceIte, reduceAdd, reduceEqDiff, reduceCtorEq, initFr, reduceLT, clsA, reduceLeDiff, reduceMul, reduceSub, reduceIte, mk3]
  refine callK ((t2.keeps ka3).save (by omega) (by simp only [r2.2]; simp) (by show 1 < _; omega) (by show 1 + 2 ≤ _; omega) bx3 (by simp) (fun z hz hz2 => by
    have : z = W2.n := by simpa [tb, slc] using hz
    have := t2.lg.s.lt hz2
    omega)) ?_
  rintro _ W3 ⟨rfl, v3, ab3, rv3, it3, s3⟩
  rw [a3] at s3 ⊢
  have t3 : CkS _ K1 W3 c lb b sb v3 ab3 rv3 it3 _ ⟨2, 2, [[98], [99]], 0⟩ := s3
  generalize (saveW E2 ⟨1, 1, [[97], [98]], 0⟩ [99]).1 = E3 at *
  simp (disch := first | assumption | omega | (simp only [LN] <;> omega) | (simp (disch := first | assumption | omega | (simp only [LN] <;> omega)) only [row_alloc, row_set]; assumption)) only [W_block, P3, ↓reduceIte, reduceAdd, reduceEqDiff, reduceCtorEq, initFr, reduceLT, clsA, reduceLeDiff, reduceMul, reduceSub, reduceIte]
  refine callK (t47 t3.lg t3.gc) ?_
  rintro _ V1 ⟨kv1, y1, rfl, ap1, fy1⟩
  have p0 : pastW ⟨2, 2, [[98], [99]], 0⟩ 0 = some [99] := rfl
  have p1 : pastW ⟨2, 2, [[98], [99]], 0⟩ 1 = some [98] := rfl
  have p2 : pastW ⟨2, 2, [[98], [99]], 0⟩ 2 = none := rfl
  rw [p0] at ap1 ⊢
  have ap1' : AP V1 5 1 y1 ([99] : List UInt8).length (cellsOf [99]) := ap1
  have q1 := t3.keeps kv1
  simp (disch := first | assumption | omega | (simp only [LN] <;> omega) | (simp (disch := first | assumption | omega | (simp only [LN] <;> omega)) only [row_alloc, row_set]; assumption)) only [W_block, P3, ↓reduceIte, reduceAdd, reduceEqDiff, reduceCtorEq, initFr, reduceLT, clsA, reduceLeDiff, reduceMul, reduceSub, reduceIte]
  refine callK (t48 q1.lg q1.gc 1 (by omega)) ?_
  rintro _ V2 ⟨kv2, y2, rfl, ap2, fy2⟩
  rw [p1] at ap2 ⊢
  have ap2' : AP V2 5 1 y2 ([98] : List UInt8).length (cellsOf [98]) := ap2
  have q2 := q1.keeps kv2
  simp (disch := first | assumption | omega | (simp only [LN] <;> omega) | (simp (disch := first | assumption | omega | (simp only [LN] <;> omega)) only [row_alloc, row_set]; assumption)) only [W_block, P3, ↓reduceIte, reduceAdd, reduceEqDiff, reduceCtorEq, initFr, reduceLT, clsA, reduceLeDiff, reduceMul, reduceSub, reduceIte]
  refine callK (t48 q2.lg q2.gc 2 (by omega)) ?_
  rintro _ V3 ⟨kv3, y3, rfl, ap3, fy3⟩
  rw [p2]
  have b1 : asem (.b2s y1) V3 = some (.string ⟨#[99]⟩, V3) := a_b2sB ((ap1'.bs.keeps kv2).keeps kv3)
  have b2 : asem (.b2s y2) V3 = some (.string ⟨#[98]⟩, V3) := a_b2sB (ap2'.bs.keeps kv3)
  have z1 : (if (some [99] : Option (List UInt8)).isSome = true then (((⟨2, 2, [[98], [99]], 0⟩ : Lg).next : Nat) : Int) - 1 else 0) = 3 := rfl
  have z2 : (some [99] : Option (List UInt8)).isSome = true := rfl
  have z3 : (some [98] : Option (List UInt8)).isSome = true := rfl
  have z4 : (none : Option (List UInt8)).isSome = false := rfl
  rw [z1, z2, z3, z4]
  simp (disch := first | assumption | omega | (simp only [LN] <;> omega) | (simp (disch := first | assumption | omega | (simp only [LN] <;> omega)) only [row_alloc, row_set]; assumption)) only [W_block, P3, ↓reduceIte, reduceAdd, reduceEqDiff, reduceCtorEq, initFr, reduceLT, clsA, reduceLeDiff, reduceMul, reduceSub, reduceIte, b1, b2]
  exact hq2 _ _ ⟨_, rfl, rfl⟩
end Go.AM.Fd

set_option linter.unusedSimpArgs false
set_option linter.unusedVariables false
namespace Go.AM.Fd
open Go.Proofs Go.AM.F
structure RkS (A : List Th) (K0 K : AHeap) (c lb b : Nat) (vb vo : Value) (inn : Int) (vl : Value) (D : Dk) (L : Lg) : Prop where
  u : Upd A (thB c (rkC lb) :: (rlT lb b vl L ++ ekT b vb vo inn D)) K0 K
  ok : D.ok
  i : ∀ n, D.ar = some n → inn = (n : Nat)
  n3 : 3 ≤ D.bl.length
  lok : L.ok
section
variable {A : List Th} {K0 K : AHeap} {c lb b : Nat} {vb vo vl : Value} {inn : Int} {D : Dk} {L : Lg}
theorem RkS.rl (h : RkS A K0 K c lb b vb vo inn vl D L) : RlR K lb b vb vo inn vl D L := ⟨Sep.right (A := [thB c (rkC lb)]) h.u.sep, h.ok, h.i, h.n3, h.lok⟩
theorem RkS.gc (h : RkS A K0 K c lb b vb vo inn vl D L) : K.get c = some (rkC lb) := h.u.sep.get 0 rfl
theorem RkS.cf (h : RkS A K0 K c lb b vb vo inn vl D L) : c ∉ fp (rlT lb b vl L ++ ekT b vb vo inn D) := fun hz => by
  obtain ⟨x, hx, h1⟩ := mem_fp.1 hz
  exact (List.pairwise_cons.1 h.u.sep.ap).1 x hx c (by simp [thB]) h1
theorem RkS.save (h : RkS A K0 K c lb b vb vo inn vl D L) (hs : D.st < 999990) (hm : D.op.length < 999990) (hT : L.turn < 8999999999999999999) (hF : L.next ≤ 9000000000000000000) {l : List UInt8} (hl : l.length ≤ 1000000) : ∃ w K', ARun Go.Proofs.Tryz.prog 0 46 [ptr c 0, .string ⟨l.toArray⟩] K w K' ∧ w = .int .i64 (saveW D L l).2.2 ∧ ∃ vo' inn' vl', RkS A K0 K' c lb b vb vo' inn' vl' (saveW D L l).1 (saveW D L l).2.1 := by
  obtain ⟨w, K', r, rfl, vo', inn', vl', h2, u2⟩ := t46 h.rl h.gc hs hm hT hF hl h.cf
  exact ⟨_, K', r, rfl, vo', inn', vl', h.u.trans (u2.extR (A := [thB c (rkC lb)]) h.u.sep), h2.ok, h2.i, h2.n3, h2.lok⟩
theorem RkS.check (h : RkS A K0 K c lb b vb vo inn vl D L) (hs : D.st < 999999) (hm : D.op.length < 999999) (hT : L.turn < 8999999999999999999) (hF : L.next ≤ 9000000000000000000) : ∃ w K', ARun Go.Proofs.Tryz.prog 0 44 [ptr c 0] K w K' ∧ w = .int .i64 (checkW D L).2.2 ∧ ∃ vo' inn' vl', RkS A K0 K' c lb b vb vo' inn' vl' (checkW D L).1 (checkW D L).2.1 := by
  obtain ⟨w, K', r, rfl, vo', inn', vl', h2, u2⟩ := t44 h.rl h.gc hs hm hT hF
  exact ⟨_, K', r, rfl, vo', inn', vl', h.u.trans (u2.extR (A := [thB c (rkC lb)]) h.u.sep), h2.ok, h2.i, h2.n3, h2.lok⟩
end
end Go.AM.Fd

set_option linter.unusedSimpArgs false
set_option linter.unusedVariables false
namespace Go.AM.Fd
open Go.Proofs Go.AM.F
abbrev cT (c lb b sb : Nat) (v : Value) (ab : Option Nat) (rv : Value) (items : List (Value × List UInt8)) (D : Dk) (L : Lg) : List Th := thB c (ckC lb) :: (lgT lb b rv items L ++ dkT b sb v ab D)
abbrev kT (d le e : Nat) (vb vo : Value) (inn : Int) (vl : Value) (D : Dk) (L : Lg) : List Th := thB d (rkC le) :: (rlT le e vl L ++ ekT e vb vo inn D)
structure T3 (A : List Th) (H K : AHeap) (c lb b sb : Nat) (v : Value) (ab : Option Nat) (rv : Value) (items : List (Value × List UInt8)) (d le e : Nat) (vb vo : Value) (inn : Int) (vl : Value) (D : Dk) (L : Lg) : Prop where
  u : Upd A (cT c lb b sb v ab rv items D L ++ kT d le e vb vo inn vl D L) H K
  ok : D.ok
  n3 : 3 ≤ D.bl.length
  it : items.map (·.2) = L.rs
  lok : L.ok
  i : ∀ n, D.ar = some n → inn = (n : Nat)
section
variable {A : List Th} {H K : AHeap} {c lb b sb d le e : Nat} {v rv vb vo vl : Value} {ab : Option Nat} {items : List (Value × List UInt8)} {inn : Int} {D : Dk} {L : Lg}
theorem T3.ck (h : T3 A H K c lb b sb v ab rv items d le e vb vo inn vl D L) : CkS (cT c lb b sb v ab rv items D L) K K c lb b sb v ab rv items D L := ⟨Upd.refl h.u.sep.left, h.ok, h.n3, h.it, h.lok⟩
theorem T3.rk (h : T3 A H K c lb b sb v ab rv items d le e vb vo inn vl D L) : RkS (kT d le e vb vo inn vl D L) K K d le e vb vo inn vl D L := ⟨Upd.refl h.u.sep.right, h.ok, h.i, h.n3, h.lok⟩
theorem T3.keeps {K' : AHeap} (h : T3 A H K c lb b sb v ab rv items d le e vb vo inn vl D L) (k : Keeps K K') : T3 A H K' c lb b sb v ab rv items d le e vb vo inn vl D L := ⟨h.u.keeps' k, h.ok, h.n3, h.it, h.lok, h.i⟩
theorem T3.far (h : T3 [] H K c lb b sb v ab rv items d le e vb vo inn vl D L) {z : Nat} (hz : z ∈ fp (cT c lb b sb v ab rv items D L ++ kT d le e vb vo inn vl D L)) : H.n ≤ z ∧ z < K.n := by
  refine ⟨?_, h.u.sep.lt hz⟩
  rcases h.u.fr z hz with h1 | h1
  · cases h1
  · exact h1
theorem T3.d2 (h : T3 [] H K c lb b sb v ab rv items d le e vb vo inn vl D L) : D2 H K b sb v ab e vb vo inn D := by
  have p : (cT c lb b sb v ab rv items D L ++ kT d le e vb vo inn vl D L).Perm ((thB c (ckC lb) :: (lgT lb b rv items L ++ (thB d (rkC le) :: rlT le e vl L))) ++ (dkT b sb v ab D ++ ekT e vb vo inn D)) := by
    have := perm22 (thB c (ckC lb) :: lgT lb b rv items L) (dkT b sb v ab D) (thB d (rkC le) :: rlT le e vl L) (ekT e vb vo inn D)
    simpa using this
  exact ⟨(h.u.permR p).dropL, h.ok, h.i⟩
def S3 (H K : AHeap) (b sb e : Nat) (vb : Value) (D : Dk) (lo : Option Lg) (p5 p7 : Value) (er : Int) : Prop := match lo with
  | none => er ≠ 0 ∧ p5 = .pointer none ∧ p7 = .pointer none ∧ ∃ v ab vo inn, D2 H K b sb v ab e vb vo inn D
  | some L => er = 0 ∧ ∃ c lb d le v ab rv items vo inn vl, p5 = ptr c 0 ∧ p7 = ptr d 0 ∧ T3 [] H K c lb b sb v ab rv items d le e vb vo inn vl D L
theorem S3.d2 {lo : Option Lg} {p5 p7 : Value} {er : Int} (h : S3 H K b sb e vb D lo p5 p7 er) : ∃ v ab vo inn, D2 H K b sb v ab e vb vo inn D := by
  cases lo with
  | none => exact h.2.2.2
  | some L =>
    obtain ⟨_, c, lb, d, le, v, ab, rv, items, vo, inn, vl, _, _, t⟩ := h
    exact ⟨v, ab, vo, inn, t.d2⟩
theorem S3.keeps {K' : AHeap} {lo : Option Lg} {p5 p7 : Value} {er : Int} (h : S3 H K b sb e vb D lo p5 p7 er) (k : Keeps K K') : S3 H K' b sb e vb D lo p5 p7 er := by
  cases lo with
  | none =>
    obtain ⟨h1, h2, h3, v, ab, vo, inn, d⟩ := h
    exact ⟨h1, h2, h3, v, ab, vo, inn, d.keeps k⟩
  | some L =>
    obtain ⟨h0, c, lb, d, le, v, ab, rv, items, vo, inn, vl, h1, h2, t⟩ := h
    exact ⟨h0, c, lb, d, le, v, ab, rv, items, vo, inn, vl, h1, h2, t.keeps k⟩
theorem S3.open1 (h : D2 H K b sb v ab e vb vo inn D) {w : Value} {K1 : AHeap} (ho : CkOpenR (dkT b sb v ab D) K K1 b sb (openW D) w) : ∃ p, w = .tuple #[p, .int .i64 (openW D).2.2] ∧ EkR K1 e vb vo inn D ∧ Keeps H K1 ∧
    ∀ {w2 : Value} {K2 : AHeap}, RkOpenR (ekT e vb vo inn D) K1 K2 e vb (openW D) w2 → ∃ p2, w2 = .tuple #[p2, .int .i64 (openW D).2.2] ∧ S3 H K2 b sb e vb (openW D).1 (openW D).2.1 p p2 (openW D).2.2 := by
  have her := openW_er D
  unfold CkOpenR at ho
  unfold ErOk at her
  cases hl : (openW D).2.1 with
  | none =>
    rw [hl] at ho her
    obtain ⟨rfl, o1, v', ab', u1⟩ := ho
    have U1 := h.u.trans (u1.ext h.u.sep)
    refine ⟨_, rfl, ⟨U1.sep.right, h.ok, h.i⟩, ⟨U1.chg.n, fun y hy => U1.chg.get y hy (by simp [fp])⟩, fun {w2 K2} h2 => ?_⟩
    unfold RkOpenR at h2
    rw [hl] at h2
    obtain ⟨rfl, vo', inn', e2, u2⟩ := h2
    exact ⟨_, rfl, her, rfl, rfl, v', ab', vo', inn', U1.trans (u2.extR U1.sep), o1, e2.i⟩
  | some L =>
    rw [hl] at ho her
    obtain ⟨c, lb, v', ab', rv, items, rfl, h1, u1⟩ := ho
    have U1 := h.u.trans (u1.ext h.u.sep)
    rw [her]
    refine ⟨_, rfl, ⟨U1.sep.right, h.ok, h.i⟩, ⟨U1.chg.n, fun y hy => U1.chg.get y hy (by simp [fp])⟩, fun {w2 K2} h2 => ?_⟩
    unfold RkOpenR at h2
    rw [hl] at h2
    obtain ⟨d, le, vo', inn', vl, rfl, r2, u2⟩ := h2
    exact ⟨_, rfl, rfl, c, lb, d, le, v', ab', rv, items, vo', inn', vl, rfl, rfl, U1.trans (u2.extR U1.sep), h1.ok, h1.n3, h1.it, h1.lok, r2.i⟩
theorem truncW_bl {D : Dk} {L : Lg} {m : Nat} {lo : Lg} (h1 : L.turn ≤ 4611686018427387904 + m ∧ L.next ≤ 4611686018427392000 + m) (k : Int) : (truncW D L k).2.1.turn ≤ 4611686018427387904 + (m + 1) ∧ (truncW D L k).2.1.next ≤ 4611686018427392000 + (m + 1) := by
  obtain ⟨h1, h2⟩ := h1
  unfold truncW
  split
  · exact ⟨by simp only; omega, by simp only; omega⟩
  · split
    · exact ⟨by simp only; omega, by simp only; omega⟩
    · rename_i hr
      simp only [not_or, Int.not_lt] at hr
      have hn : L.next = L.first + L.rs.length := rfl
      split
      · simp only [Lg.next, List.length_drop]
        omega
      · simp only [Lg.next]
        omega
theorem appW_bl {D : Dk} {L : Lg} {m : Nat} (h1 : L.turn ≤ 4611686018427387904 + m ∧ L.next ≤ 4611686018427392000 + m) (l : List UInt8) : (appW D L l).2.1.turn ≤ 4611686018427387904 + (m + 1) ∧ (appW D L l).2.1.next ≤ 4611686018427392000 + (m + 1) := by
  obtain ⟨h1, h2⟩ := h1
  unfold appW
  split
  · exact ⟨by simp only; omega, by simp only; omega⟩
  · split
    · exact ⟨by simp only; omega, by simp only; omega⟩
    · split
      · exact ⟨by simp only; omega, by simp only; omega⟩
      · have hn : L.next = L.first + L.rs.length := rfl
        split
        · simp only [Lg.next, List.length_append, List.length_cons, List.length_nil]
          omega
        · simp only [Lg.next]
          omega
theorem appW_b (D : Dk) (L : Lg) (l : List UInt8) : (appW D L l).1.st ≤ D.st + 2 ∧ (appW D L l).1.op.length ≤ D.op.length + 1 := by
  unfold appW
  split
  · exact ⟨by simp, by simp⟩
  · split
    · exact ⟨by simp, by simp⟩
    · split
      · exact ⟨by simp, by simp⟩
      · exact wlD_b _ _ _
structure Bnd4 (D : Dk) (lo : Option Lg) (m : Nat) : Prop where
  s : D.st ≤ 4 * m
  o : D.op.length ≤ 4 * m
  l : ∀ L, lo = some L → L.turn ≤ 4611686018427387904 + 2 * m ∧ L.next ≤ 4611686018427392000 + 2 * m
theorem saveW_bl {D : Dk} {L : Lg} {m : Nat} (h : Bnd4 D (some L) m) (l : List UInt8) : Bnd4 (saveW D L l).1 (some (saveW D L l).2.1) (m + 1) := by
  obtain ⟨hs, ho, hl⟩ := h
  have h1 := hl L rfl
  have t1 := truncW_b D L (((L.next : Nat) : Int) - 1)
  have t2 := truncW_bl (D := D) (lo := L) h1 (((L.next : Nat) : Int) - 1)
  have a1 := appW_b D L l
  have a2 := appW_bl (D := D) h1 l
  have b1 := appW_b (truncW D L (((L.next : Nat) : Int) - 1)).1 (truncW D L (((L.next : Nat) : Int) - 1)).2.1 l
  have b2 := appW_bl (D := (truncW D L (((L.next : Nat) : Int) - 1)).1) t2 l
  unfold saveW
  split
  · exact ⟨by simp only; omega, by simp only; omega, fun L' hL => by cases hL; exact ⟨Nat.le_trans (by first | exact h1.1 | exact t2.1 | exact a2.1 | exact b2.1) (by omega), Nat.le_trans (by first | exact h1.2 | exact t2.2 | exact a2.2 | exact b2.2) (by omega)⟩⟩
  · split
    · exact ⟨by simp only; omega, by simp only; omega, fun L' hL => by cases hL; exact ⟨Nat.le_trans (by first | exact h1.1 | exact t2.1 | exact a2.1 | exact b2.1) (by omega), Nat.le_trans (by first | exact h1.2 | exact t2.2 | exact a2.2 | exact b2.2) (by omega)⟩⟩
    · split
      · split
        · exact ⟨by omega, by omega, fun L' hL => by cases hL; exact ⟨Nat.le_trans (by first | exact h1.1 | exact t2.1 | exact a2.1 | exact b2.1) (by omega), Nat.le_trans (by first | exact h1.2 | exact t2.2 | exact a2.2 | exact b2.2) (by omega)⟩⟩
        · exact ⟨by omega, by omega, fun L' hL => by cases hL; exact ⟨Nat.le_trans (by first | exact h1.1 | exact t2.1 | exact a2.1 | exact b2.1) (by omega), Nat.le_trans (by first | exact h1.2 | exact t2.2 | exact a2.2 | exact b2.2) (by omega)⟩⟩
      · exact ⟨by omega, by omega, fun L' hL => by cases hL; exact ⟨Nat.le_trans (by first | exact h1.1 | exact t2.1 | exact a2.1 | exact b2.1) (by omega), Nat.le_trans (by first | exact h1.2 | exact t2.2 | exact a2.2 | exact b2.2) (by omega)⟩⟩
theorem checkW_bl {D : Dk} {L : Lg} {m : Nat} (h : Bnd4 D (some L) m) : Bnd4 (checkW D L).1 (some (checkW D L).2.1) (m + 1) := by
  obtain ⟨hs, ho, hl⟩ := h
  have h1 := hl L rfl
  have t1 := truncW_b D L (((L.next : Nat) : Int) - 1)
  have t2 := truncW_bl (D := D) (lo := L) h1 (((L.next : Nat) : Int) - 1)
  unfold checkW
  split
  · exact ⟨by omega, by omega, fun L' hL => by cases hL; exact ⟨Nat.le_trans (by first | exact h1.1 | exact t2.1 | exact a2.1 | exact b2.1) (by omega), Nat.le_trans (by first | exact h1.2 | exact t2.2 | exact a2.2 | exact b2.2) (by omega)⟩⟩
  · exact ⟨by simp only; omega, by simp only; omega, fun L' hL => by cases hL; exact ⟨Nat.le_trans (by first | exact h1.1 | exact t2.1 | exact a2.1 | exact b2.1) (by omega), Nat.le_trans (by first | exact h1.2 | exact t2.2 | exact a2.2 | exact b2.2) (by omega)⟩⟩
theorem openW_b4 {D : Dk} (h : D.ok) {m : Nat} (hs : D.st ≤ 4 * m) (ho : D.op.length ≤ 4 * m) (hs2 : D.st < 999999) (ho2 : D.op.length < 999999) : Bnd4 (openW D).1 (openW D).2.1 (m + 1) := by
  obtain ⟨a, b⟩ : ∃ m2, D.st ≤ 3 * m2 + 1 ∧ D.op.length ≤ 3 * m2 + 1 ∧ 3 * (m2 + 1) ≤ 4 * (m + 1) ∧ m2 + 1 ≤ 2 * (m + 1) := ⟨(4 * m + 1) / 3, by omega, by omega, by omega, by omega⟩
  obtain ⟨s, o, l⟩ := openW_b h b.1 b.2.1 hs2 ho2
  exact ⟨by omega, by omega, fun L hL => by have := l L hL; omega⟩
theorem failD_b4 {D : Dk} {lo : Option Lg} {m : Nat} (h : Bnd4 D lo m) (n : Int) : Bnd4 (failD D n) lo (m + 1) := ⟨by have := h.s; show D.st ≤ _; omega, by have := h.o; show D.op.length ≤ _; omega, fun L hL => by have := h.l L hL; omega⟩
end
end Go.AM.Fd

set_option linter.unusedSimpArgs false
set_option linter.unusedVariables false
namespace Go.AM.Fd
open Nat (reduceAdd reduceEqDiff reduceLT reduceLeDiff reduceMul reduceSub)
open Go.Proofs Go.AM.F
theorem tb_reads (x : Value) (H : AHeap) : touchA (.b2s x) H = tb x := by
  show readsA (.b2s x) = tb x
  cases x with
  | slice a k c =>
    cases a with
    | none => rfl
    | some a => obtain ⟨b, o, s⟩ := a; cases s <;> rfl
  | _ => rfl
theorem older_of {l : List Nat} {H : AHeap} (h : ∀ z ∈ l, z < H.n) : olderB l H := by
  induction l with
  | nil => trivial
  | cons a l ih => exact ⟨h a List.mem_cons_self, ih fun z hz => h z (List.mem_cons_of_mem _ hz)⟩
theorem keepsB_of {l : List Nat} {H K : AHeap} (h : ∀ z ∈ l, K.get z = H.get z) : keepsB l H K := by
  induction l with
  | nil => trivial
  | cons a l ih => exact ⟨h a List.mem_cons_self, ih fun z hz => h z (List.mem_cons_of_mem _ hz)⟩
theorem tb_touch {x : Value} {K Z : AHeap} (h1 : ∀ z ∈ tb x, z < K.n) (h2 : ∀ z ∈ tb x, Z.get z = K.get z) : olderB (touchA (.b2s x) Z) K ∧ keepsB (touchA (.b2s x) Z) K Z := by
  rw [tb_reads]
  exact ⟨older_of h1, keepsB_of h2⟩
section
variable {H K : AHeap} {b sb e : Nat} {vb : Value} {D : Dk} {lo : Option Lg} {p5 p7 : Value} {er n : Int} {v : Value} {l : List CW}
theorem ckptLoop {Q : AQ} {x9 x10 x11 x12 x13 x14 x15 x16 x17 x18 x19 x20 x21 x22 x23 x24 x25 x26 : Value} (h : S3 H K b sb e vb D lo p5 p7 er) (hb : Bnd4 D lo 1) (hc : CwL H v l) (hl : l.length ≤ 60) (hll : ∀ p ∈ l, p.l.length ≤ 6000 ∧ p.fs.length ≤ 6000)
    (hq2 : ∀ fr H2, (∃ w, resO f5.res fr H2 = some w ∧ w = .bool true) → Q .ret fr H2) :
    W Go.Proofs.Tryz.prog 0 (cpost 5 f5.body) Q [.int .i64 n, v, .bool false, ptr b 0, ptr e 0, p5, .int .i64 er, p7, .int .i64 er, x9, x10, x11, x12, x13, x14, x15, x16, x17, x18, x19, x20, x21, x22, x23, x24, x25, x26] K := by
  have isv := Sl.is hc.s
  have lv : lenS v = l.length := by have := Sl.len hc.s; simpa using this
  simp (disch := first | assumption | omega | (simp only [LN] <;> omega) | (simp (disch := first | assumption | omega | (simp only [LN] <;> omega)) only [row_alloc, row_set]; assumption)) only [ f5, P3, ↓reduceIte, reduceAdd, reduceEqDiff, reduceCtorEq, initFr, reduceLT, clsA, reduceLeDiff, reduceMul, reduceSub, reduceIte, cpost]
  rw [W_block]
  refine W_loop2 (fun q fr K => ∃ i D lo p5 p7 er, ∃ y10 y11 y12 y13 y14 y15 y16 y17 y18 y19 y20 y21 y22 y23 y24 y25 y26, fr = [.int .i64 n, v, .bool false, ptr b 0, ptr e 0, p5, .int .i64 er, p7, .int .i64 er, .int .i64 ((i : Nat) : Int), y10, y11, y12, y13, y14, y15, y16, y17, y18, y19, y20, y21, y22, y23, y24, y25, y26] ∧ S3 H K b sb e vb D lo p5 p7 er ∧ Bnd4 D lo (i + 1) ∧ i ≤ l.length ∧ q = l.length - i) l.length
    ⟨0, D, lo, p5, p7, er, _, _, _, _, _, _, _, _, _, _, _, _, _, _, _, _, _, rfl, h, hb, by omega, rfl⟩ ?_
  clear h hb
  rintro Q2 q fr K1 ⟨i, D, lo, p5, p7, er, y10, y11, y12, y13, y14, y15, y16, y17, y18, y19, y20, y21, y22, y23, y24, y25, y26, rfl, h, hb, hi, rfl⟩ hnx hx hret
  by_cases hlt : i < l.length
  · have e1 : (i : Int) < ((l.length : Nat) : Int) := by omega
    have e0 : (0 : Int) ≤ (i : Int) := by omega
    have hw : IntKind.i64.wrap ((i : Int) + 1) = ((i + 1 : Nat) : Int) := by rw [wrap_i64 (by omega) (by omega)]; simp
    obtain ⟨nn, ra0⟩ := hc.at_ hlt
    have mem := List.getElem_mem hlt
    have oc0 := hc.c _ mem
    have hle := hll _ mem
    simp (disch := first | assumption | omega | (simp only [LN] <;> omega) | (simp (disch := first | assumption | omega | (simp only [LN] <;> omega)) only [row_alloc, row_set]; assumption)) only [ P3, ↓reduceIte, reduceAdd, reduceEqDiff, reduceCtorEq, initFr, reduceLT, clsA, reduceLeDiff, reduceMul, reduceSub, reduceIte, isv, lv]
    rw [W_block]
    refine W_part 1 (fun fr K2 => ∃ z16 z17, fr = [.int .i64 n, v, .bool false, ptr b 0, ptr e 0, p5, .int .i64 er, p7, .int .i64 er, .int .i64 ((i : Nat) : Int), y10, y11, y12, y13, y14, y15, z16, z17, y18, y19, y20, y21, y22, y23, y24, y25, y26] ∧ S3 H K2 b sb e vb D lo p5 p7 er) (by kernel_rfl) ?_ ?_
    · intro Q3 hk3 hex3 hret3
      obtain ⟨v0, ab0, vo0, in0, d⟩ := h.d2
      have d0 : (er != er) = false := bnei_no rfl
      simp (disch := first | assumption | omega | (simp only [LN] <;> omega) | (simp (disch := first | assumption | omega | (simp only [LN] <;> omega)) only [row_alloc, row_set]; assumption)) only [W_block, P3, ↓reduceIte, reduceAdd, reduceEqDiff, reduceCtorEq, initFr, reduceLT, clsA, reduceLeDiff, reduceMul, reduceSub, reduceIte, cpre, d0]
      refine callK (t41 d.dk d.ek) ?_
      rintro _ K2 ⟨rfl, k2⟩
      have h2 := h.keeps k2
      cases lo with
      | none =>
        obtain ⟨q1, rfl, rfl, _⟩ := id h2
        have d1 : (er == 0) = false := beqi_no q1
        simp (disch := first | assumption | omega | (simp only [LN] <;> omega) | (simp (disch := first | assumption | omega | (simp only [LN] <;> omega)) only [row_alloc, row_set]; assumption)) only [W_block, P3, ↓reduceIte, reduceAdd, reduceEqDiff, reduceCtorEq, initFr, reduceLT, clsA, reduceLeDiff, reduceMul, reduceSub, reduceIte, d1]
        exact hk3 _ _ ⟨_, _, rfl, h2⟩
      | some L =>
        obtain ⟨rfl, c, lb, d', le, va, ab, rv, items, vo, inn, vl, rfl, rfl, t⟩ := id h2
        simp (disch := first | assumption | omega | (simp only [LN] <;> omega) | (simp (disch := first | assumption | omega | (simp only [LN] <;> omega)) only [row_alloc, row_set]; assumption)) only [W_block, P3, ↓reduceIte, reduceAdd, reduceEqDiff, reduceCtorEq, initFr, reduceLT, clsA, reduceLeDiff, reduceMul, reduceSub, reduceIte]
        refine callK (t42 t.ck.lg t.ck.gc t.rk.rl t.rk.gc) ?_
        rintro _ K3 ⟨rfl, k3⟩
        simp (disch := first | assumption | omega | (simp only [LN] <;> omega) | (simp (disch := first | assumption | omega | (simp only [LN] <;> omega)) only [row_alloc, row_set]; assumption)) only [W_block, P3, ↓reduceIte, reduceAdd, reduceEqDiff, reduceCtorEq, initFr, reduceLT, clsA, reduceLeDiff, reduceMul, reduceSub, reduceIte]
        exact hk3 _ _ ⟨_, _, rfl, h2.keeps k3⟩
    · rintro fr K2 ⟨z16, z17, rfl, h2⟩
      obtain ⟨v0, ab0, vo0, in0, d⟩ := h2.d2
      have oc := oc0.keeps d.kp
      have ra : rowA K2 4 v i = some (cwRow l[i]) := ((hc.keeps d.kp).at_ hlt).2
      obtain ⟨P, eP⟩ : ∃ P, l[i] = P := ⟨_, rfl⟩
      rw [eP] at ra oc oc0 hle
      have hrem : binA .rem (.int .u8 (P.k : Nat)) (.int .u8 8) = some (.int .u8 ((P.k % 8 : Nat) : Int)) := b_remn (kd := .u8) (n := P.k) (m := 8) (by omega)
      have isb := oc.b.isS
      have isf := oc.f.isS
      have ob := one_isS isb
      have of_ := one_isS isf
      have oo : (cwRow P).all Value.oneCell' = true := by simp only [cwRow, List.all_cons, ob, of_]; rfl
      obtain ⟨K3, hK3⟩ : ∃ Y, Y = K2.alloc (.cells true false 4 [.int .u8 (P.k : Nat), P.b, .int .i64 P.n, P.f] 70) := ⟨_, rfl⟩
      have k3 : Keeps K2 K3 := by rw [hK3]; exact (Keeps.refl K2).alloc _
      have g3 : K3.get K2.n = some (.cells true false 4 [.int .u8 (P.k : Nat), P.b, .int .i64 P.n, P.f] 70) := by rw [hK3]; exact AHeap.get_alloc_new K2 _
      have cr : cwRow P = [.int .u8 (P.k : Nat), P.b, .int .i64 P.n, P.f] := rfl
      rw [cr] at ra oo
      simp (disch := first | assumption | omega | (simp only [LN] <;> omega) | (simp (disch := first | assumption | omega | (simp only [LN] <;> omega)) only [row_alloc, row_set]; assumption)) only [cpost, W_block, P3, ↓reduceIte, reduceAdd, reduceEqDiff, reduceCtorEq, initFr, reduceLT, clsA, reduceLeDiff, reduceMul, reduceSub, reduceIte, isv, lv, nn, ra, oo]
      rw [← hK3]
      have h3 := h2.keeps k3
      have oc3 := oc.keeps k3
      simp (disch := first | assumption | omega | (simp only [LN] <;> omega) | (simp (disch := first | assumption | omega | (simp only [LN] <;> omega)) only [row_alloc, row_set]; assumption)) only [W_block, P3, ↓reduceIte, reduceAdd, reduceEqDiff, reduceCtorEq, initFr, reduceLT, clsA, reduceLeDiff, reduceMul, reduceSub, reduceIte, g3, hrem]
      have hbs := hb.s
      have hbo := hb.o
      have hr8 : binA .rem (.int .i64 P.n) (.int .i64 8) = some (.int .i64 (P.n.tmod 8)) := b_rem _ _ _ (by decide)
      have hn8 : P.n.tmod 8 ≤ 9223372036854775807 := by have := Int.tmod_lt_of_pos P.n (show (0 : Int) < 8 by omega); omega
      have n3 : K3.n = K2.n + 1 := by rw [hK3]; rfl
      by_cases c5 : P.k % 8 = 5
      · have d5 : (((P.k % 8 : Nat) : Int) == 5) = true := beqi_yes (by omega)
        simp (disch := first | assumption | omega | (simp only [LN] <;> omega) | (simp (disch := first | assumption | omega | (simp only [LN] <;> omega)) only [row_alloc, row_set]; assumption)) only [W_block, P3, ↓reduceIte, reduceAdd, reduceEqDiff, reduceCtorEq, initFr, reduceLT, clsA, reduceLeDiff, reduceMul, reduceSub, reduceIte, d5, g3, hr8]
        cases lo with
        | none =>
          obtain ⟨q1, rfl, rfl, va, ab, vo, inn, d2⟩ := id h2
          have d3 := d2.keeps k3
          have nfp : ∀ z ∈ fp (dkT b sb va ab D), z < K2.n := fun z hz => d2.u.sep.lt (by rw [fp_app]; exact List.mem_append_left _ hz)
          refine callK (t17 d3.dk (P.n.tmod 8)) ?_
          rintro w1 Z1 ⟨ab', u1⟩
          have U1 := d3.u.trans (u1.ext d3.u.sep)
          have g4 := u1.chg.at_ g3 (fun hz => by have := nfp _ hz; omega)
          simp (disch := first | assumption | omega | (simp only [LN] <;> omega) | (simp (disch := first | assumption | omega | (simp only [LN] <;> omega)) only [row_alloc, row_set]; assumption)) only [W_block, P3, ↓reduceIte, reduceAdd, reduceEqDiff, reduceCtorEq, initFr, reduceLT, clsA, reduceLeDiff, reduceMul, reduceSub, reduceIte, g4, hr8]
          refine callK (t18 ⟨U1.sep.right, d3.ok, d3.i⟩ (P.n.tmod 8) hn8) ?_
          rintro w2 Z2 ⟨inn', e2, u2⟩
          have U2 := U1.trans (u2.extR U1.sep)
          simp (disch := first | assumption | omega | (simp only [LN] <;> omega) | (simp (disch := first | assumption | omega | (simp only [LN] <;> omega)) only [row_alloc, row_set]; assumption)) only [W_block, P3, ↓reduceIte, reduceAdd, reduceEqDiff, reduceCtorEq, initFr, reduceLT, clsA, reduceLeDiff, reduceMul, reduceSub, reduceIte]
          rw [hw]
          exact hnx _ _ _ ⟨i + 1, failD D (P.n.tmod 8), none, _, _, er, _, _, _, _, _, _, _, _, _, _, _, _, _, _, _, _, _, rfl, ⟨q1, rfl, rfl, va, ab', vo, inn', U2, e2.ok, e2.i⟩, failD_b4 hb _, by omega, rfl⟩ (by omega)
        | some L =>
          obtain ⟨rfl, c, lb, d', le, va, ab, rv, items, vo, inn, vl, rfl, rfl, t⟩ := id h2
          have t3 := t.keeps k3
          have nfp : ∀ z ∈ fp (dkT b sb va ab D), z < K2.n := fun z hz => t.ck.lg.d.s.lt hz
          refine callK (t17 t3.ck.lg.d (P.n.tmod 8)) ?_
          rintro w1 Z1 ⟨ab', u1⟩
          have U1 := t3.u.trans ((u1.extR (A := thB c (ckC lb) :: lgT lb b rv items L) t3.u.sep.left).ext t3.u.sep)
          have g4 := u1.chg.at_ g3 (fun hz => by have := nfp _ hz; omega)
          simp (disch := first | assumption | omega | (simp only [LN] <;> omega) | (simp (disch := first | assumption | omega | (simp only [LN] <;> omega)) only [row_alloc, row_set]; assumption)) only [W_block, P3, ↓reduceIte, reduceAdd, reduceEqDiff, reduceCtorEq, initFr, reduceLT, clsA, reduceLeDiff, reduceMul, reduceSub, reduceIte, g4, hr8]
          have hE : Sep Z1 ((thB d' (rkC le) :: rlT le e vl L) ++ ekT e vb vo inn D) := U1.sep.right
          refine callK (t18 ⟨hE.right, t3.ok, t3.i⟩ (P.n.tmod 8) hn8) ?_
          rintro w2 Z2 ⟨inn', e2, u2⟩
          have U2 := U1.trans ((u2.extR hE).extR U1.sep)
          simp (disch := first | assumption | omega | (simp only [LN] <;> omega) | (simp (disch := first | assumption | omega | (simp only [LN] <;> omega)) only [row_alloc, row_set]; assumption)) only [W_block, P3, ↓reduceIte, reduceAdd, reduceEqDiff, reduceCtorEq, initFr, reduceLT, clsA, reduceLeDiff, reduceMul, reduceSub, reduceIte]
          rw [hw]
          exact hnx _ _ _ ⟨i + 1, failD D (P.n.tmod 8), some L, _, _, 0, _, _, _, _, _, _, _, _, _, _, _, _, _, _, _, _, _, rfl, ⟨rfl, c, lb, d', le, va, ab', rv, items, vo, inn', vl, rfl, rfl, U2, e2.ok, t3.n3, t3.it, t3.lok, e2.i⟩, failD_b4 hb _, by omega, rfl⟩ (by omega)
      have d5 : (((P.k % 8 : Nat) : Int) == 5) = false := beqi_no (by omega)
      by_cases c6 : P.k % 8 = 6
      · have d6 : (((P.k % 8 : Nat) : Int) == 6) = true := beqi_yes (by omega)
        obtain ⟨va, ab, vo, inn, d2⟩ := h2.d2
        have d3 := d2.keeps k3
        have nf1 : ∀ z ∈ fp (dkT b sb va ab D), z < K2.n := fun z hz => d2.u.sep.lt (by rw [fp_app]; exact List.mem_append_left _ hz)
        have nf2 : ∀ z ∈ fp (ekT e vb vo inn D), z < K2.n := fun z hz => d2.u.sep.lt (by rw [fp_app]; exact List.mem_append_right _ hz)
        simp (disch := first | assumption | omega | (simp only [LN] <;> omega) | (simp (disch := first | assumption | omega | (simp only [LN] <;> omega)) only [row_alloc, row_set]; assumption)) only [W_block, P3, ↓reduceIte, reduceAdd, reduceEqDiff, reduceCtorEq, initFr, reduceLT, clsA, reduceLeDiff, reduceMul, reduceSub, reduceIte, d5, d6, g3, hrem]
        refine callK (t19 d3.dk) ?_
        rintro w1 Z1 u1
        have U1 := d3.u.trans (u1.ext d3.u.sep)
        have g4 := u1.chg.at_ g3 (fun hz => by have := nf1 _ hz; omega)
        simp (disch := first | assumption | omega | (simp only [LN] <;> omega) | (simp (disch := first | assumption | omega | (simp only [LN] <;> omega)) only [row_alloc, row_set]; assumption)) only [W_block, P3, ↓reduceIte, reduceAdd, reduceEqDiff, reduceCtorEq, initFr, reduceLT, clsA, reduceLeDiff, reduceMul, reduceSub, reduceIte]
        refine callK (t20 ⟨U1.sep.right, d3.ok, d3.i⟩) ?_
        rintro w2 Z2 ⟨e2, u2⟩
        have U2 := U1.trans (u2.extR U1.sep)
        have g5 := u2.chg.at_ g4 (fun hz => by have := nf2 _ hz; omega)
        have d4 : D2 H Z2 b sb va none e vb vo inn (crashD D) := ⟨U2, e2.ok, e2.i⟩
        simp (disch := first | assumption | omega | (simp only [LN] <;> omega) | (simp (disch := first | assumption | omega | (simp only [LN] <;> omega)) only [row_alloc, row_set]; assumption)) only [W_block, P3, ↓reduceIte, reduceAdd, reduceEqDiff, reduceCtorEq, initFr, reduceLT, clsA, reduceLeDiff, reduceMul, reduceSub, reduceIte, g5]
        refine callK (t21 d4.dk (oc0.f.keeps d4.kp) (fun y hy hy2 => by have := d4.far (by rw [fp_app]; exact List.mem_append_left _ hy2); have := oc0.fl y hy; omega)) ?_
        rintro w3 Z3 ⟨v6, u3⟩
        have U3 := d4.u.trans (u3.ext d4.u.sep)
        have kH3 : Keeps H Z3 := ⟨U3.chg.n, fun y hy => U3.chg.get y hy (by simp [fp])⟩
        have g6 := u3.chg.at_ g5 (fun hz => by have := Upd.new u1 (fun h => by have := nf1 _ h; omega) (by omega) hz; exact this)
        simp (disch := first | assumption | omega | (simp only [LN] <;> omega) | (simp (disch := first | assumption | omega | (simp only [LN] <;> omega)) only [row_alloc, row_set]; assumption)) only [W_block, P3, ↓reduceIte, reduceAdd, reduceEqDiff, reduceCtorEq, initFr, reduceLT, clsA, reduceLeDiff, reduceMul, reduceSub, reduceIte, g6]
        refine callK (t22 ⟨U3.sep.right, e2.ok, e2.i⟩ (oc0.f.keeps kH3) (fun y hy hy2 => by have := d4.far (by rw [fp_app]; exact List.mem_append_right _ hy2); have := oc0.fl y hy; omega)) ?_
        rintro w4 Z4 ⟨vo7, e4, u4⟩
        have U4 := U3.trans (u4.extR U3.sep)
        have d7 : D2 H Z4 b sb v6 none e vb vo7 inn (onD (crashD D) P.fs) := ⟨U4, e4.ok, e4.i⟩
        have hob := onD_b D P.fs
        have bn : (onD (crashD D) P.fs).st < 999999 ∧ (onD (crashD D) P.fs).op.length < 999999 := ⟨by omega, by omega⟩
        simp (disch := first | assumption | omega | (simp only [LN] <;> omega) | (simp (disch := first | assumption | omega | (simp only [LN] <;> omega)) only [row_alloc, row_set]; assumption)) only [W_block, P3, ↓reduceIte, reduceAdd, reduceEqDiff, reduceCtorEq, initFr, reduceLT, clsA, reduceLeDiff, reduceMul, reduceSub, reduceIte]
        refine callK (t39 d7.dk (by have := bn.1; omega) (by have := bn.2; omega)) ?_
        rintro w1 Z1 ho
        obtain ⟨p, rfl, ek1, kz1, fin⟩ := S3.open1 d7 ho
        simp (disch := first | assumption | omega | (simp only [LN] <;> omega) | (simp (disch := first | assumption | omega | (simp only [LN] <;> omega)) only [row_alloc, row_set]; assumption)) only [ P3, ↓reduceIte, reduceAdd, reduceEqDiff, reduceCtorEq, initFr, reduceLT, clsA, reduceLeDiff, reduceMul, reduceSub, reduceIte]
        refine callK (t40 ek1 (by have := bn.1; omega) (by have := bn.2; omega)) ?_
        rintro w2 Z2 ho2
        obtain ⟨p2, rfl, sw2⟩ := fin ho2
        simp (disch := first | assumption | omega | (simp only [LN] <;> omega) | (simp (disch := first | assumption | omega | (simp only [LN] <;> omega)) only [row_alloc, row_set]; assumption)) only [W_block, P3, ↓reduceIte, reduceAdd, reduceEqDiff, reduceCtorEq, initFr, reduceLT, clsA, reduceLeDiff, reduceMul, reduceSub, reduceIte]
        rw [hw]
        exact hnx _ _ _ ⟨i + 1, _, _, _, _, _, _, _, _, _, _, _, _, _, _, _, _, _, _, _, _, _, _, rfl, sw2, openW_b4 e4.ok (by omega) (by omega) bn.1 bn.2, by omega, rfl⟩ (by omega)
      have d6 : (((P.k % 8 : Nat) : Int) == 6) = false := beqi_no (by omega)
      by_cases c7 : P.k % 8 = 7
      · have d7 : (((P.k % 8 : Nat) : Int) == 7) = true := beqi_yes (by omega)
        obtain ⟨va, ab, vo, inn, d2⟩ := h2.d2
        have d3 := d2.keeps k3
        have bn : D.st < 999999 ∧ D.op.length < 999999 := ⟨by omega, by omega⟩
        simp (disch := first | assumption | omega | (simp only [LN] <;> omega) | (simp (disch := first | assumption | omega | (simp only [LN] <;> omega)) only [row_alloc, row_set]; assumption)) only [W_block, P3, ↓reduceIte, reduceAdd, reduceEqDiff, reduceCtorEq, initFr, reduceLT, clsA, reduceLeDiff, reduceMul, reduceSub, reduceIte, d5, d6, d7, g3, hrem]
        refine callK (t39 d3.dk (by have := bn.1; omega) (by have := bn.2; omega)) ?_
        rintro w1 Z1 ho
        obtain ⟨p, rfl, ek1, kz1, fin⟩ := S3.open1 d3 ho
        simp (disch := first | assumption | omega | (simp only [LN] <;> omega) | (simp (disch := first | assumption | omega | (simp only [LN] <;> omega)) only [row_alloc, row_set]; assumption)) only [ P3, ↓reduceIte, reduceAdd, reduceEqDiff, reduceCtorEq, initFr, reduceLT, clsA, reduceLeDiff, reduceMul, reduceSub, reduceIte]
        refine callK (t40 ek1 (by have := bn.1; omega) (by have := bn.2; omega)) ?_
        rintro w2 Z2 ho2
        obtain ⟨p2, rfl, sw2⟩ := fin ho2
        simp (disch := first | assumption | omega | (simp only [LN] <;> omega) | (simp (disch := first | assumption | omega | (simp only [LN] <;> omega)) only [row_alloc, row_set]; assumption)) only [W_block, P3, ↓reduceIte, reduceAdd, reduceEqDiff, reduceCtorEq, initFr, reduceLT, clsA, reduceLeDiff, reduceMul, reduceSub, reduceIte]
        rw [hw]
        exact hnx _ _ _ ⟨i + 1, _, _, _, _, _, _, _, _, _, _, _, _, _, _, _, _, _, _, _, _, _, _, rfl, sw2, openW_b4 d3.ok (by omega) (by omega) bn.1 bn.2, by omega, rfl⟩ (by omega)
      have d7 : (((P.k % 8 : Nat) : Int) == 7) = false := beqi_no (by omega)
      cases lo with
      | none =>
        obtain ⟨q1, rfl, rfl, va, ab, vo, inn, d2⟩ := id h2
        have e9 : (er != 0) = true := bnei_yes q1
        simp (disch := first | assumption | omega | (simp only [LN] <;> omega) | (simp (disch := first | assumption | omega | (simp only [LN] <;> omega)) only [row_alloc, row_set]; assumption)) only [W_block, P3, ↓reduceIte, reduceAdd, reduceEqDiff, reduceCtorEq, initFr, reduceLT, clsA, reduceLeDiff, reduceMul, reduceSub, reduceIte, d5, d6, d7, e9]
        rw [hw]
        exact hnx _ _ _ ⟨i + 1, D, none, _, _, er, _, _, _, _, _, _, _, _, _, _, _, _, _, _, _, _, _, rfl, ⟨q1, rfl, rfl, va, ab, vo, inn, d2.keeps k3⟩, ⟨by omega, by omega, fun L hL => by cases hL⟩, by omega, rfl⟩ (by omega)
      | some L =>
        obtain ⟨rfl, c, lb, d', le, va, ab, rv, items, vo, inn, vl, rfl, rfl, t⟩ := id h2
        obtain ⟨b1, b2⟩ := hb.l L rfl
        have t3 := t.keeps k3
        have e9 : ((0 : Int) != 0) = false := rfl
        have fp1 : ∀ z ∈ fp (cT c lb b sb va ab rv items D L), H.n ≤ z ∧ z < K2.n := fun z hz => t.far (by rw [fp_app]; exact List.mem_append_left _ hz)
        have fp2 : ∀ z ∈ fp (kT d' le e vb vo inn vl D L), H.n ≤ z ∧ z < K2.n := fun z hz => t.far (by rw [fp_app]; exact List.mem_append_right _ hz)
        by_cases c4 : P.k % 8 = 4
        · have d4 : (((P.k % 8 : Nat) : Int) == 4) = true := beqi_yes (by omega)
          simp (disch := first | assumption | omega | (simp only [LN] <;> omega) | (simp (disch := first | assumption | omega | (simp only [LN] <;> omega)) only [row_alloc, row_set]; assumption)) only [W_block, P3, ↓reduceIte, reduceAdd, reduceEqDiff, reduceCtorEq, initFr, reduceLT, clsA, reduceLeDiff, reduceMul, reduceSub, reduceIte, d5, d6, d7, e9, g3, hrem, d4]
          refine callK (t3.ck.check (by omega) (by omega) (by omega) (by omega)) ?_
          rintro _ Z1 ⟨rfl, va1, ab1, rv1, it1, s1⟩
          have U1 := t3.u.trans (s1.u.ext t3.u.sep)
          simp (disch := first | assumption | omega | (simp only [LN] <;> omega) | (simp (disch := first | assumption | omega | (simp only [LN] <;> omega)) only [row_alloc, row_set]; assumption)) only [W_block, P3, ↓reduceIte, reduceAdd, reduceEqDiff, reduceCtorEq, initFr, reduceLT, clsA, reduceLeDiff, reduceMul, reduceSub, reduceIte]
          have rk1 : RkS (kT d' le e vb vo inn vl D L) Z1 Z1 d' le e vb vo inn vl D L := ⟨Upd.refl U1.sep.right, t3.ok, t3.i, t3.n3, t3.lok⟩
          refine callK (rk1.check (by omega) (by omega) (by omega) (by omega)) ?_
          rintro _ Z2 ⟨rfl, vo2, in2, vl2, s2⟩
          have U2 := U1.trans (s2.u.extR U1.sep)
          have d8 : ((checkW D L).2.2 != (checkW D L).2.2) = false := bnei_no rfl
          simp (disch := first | assumption | omega | (simp only [LN] <;> omega) | (simp (disch := first | assumption | omega | (simp only [LN] <;> omega)) only [row_alloc, row_set]; assumption)) only [W_block, P3, ↓reduceIte, reduceAdd, reduceEqDiff, reduceCtorEq, initFr, reduceLT, clsA, reduceLeDiff, reduceMul, reduceSub, reduceIte, d8]
          rw [hw]
          exact hnx _ _ _ ⟨i + 1, _, some (checkW D L).2.1, _, _, 0, _, _, _, _, _, _, _, _, _, _, _, _, _, _, _, _, _, rfl, ⟨rfl, c, lb, d', le, va1, ab1, rv1, it1, vo2, in2, vl2, rfl, rfl, U2, s1.ok, s1.n3, s1.it, s1.lok, s2.i⟩, checkW_bl hb, by omega, rfl⟩ (by omega)
        · have d4 : (((P.k % 8 : Nat) : Int) == 4) = false := beqi_no (by omega)
          have e1 := a_b2sB oc3.b
          have e2 := a_s2bl (H := K3) 5 P.l
          simp (disch := first | assumption | omega | (simp only [LN] <;> omega) | (simp (disch := first | assumption | omega | (simp only [LN] <;> omega)) only [row_alloc, row_set]; assumption)) only [W_block, P3, ↓reduceIte, reduceAdd, reduceEqDiff, reduceCtorEq, initFr, reduceLT, clsA, reduceLeDiff, reduceMul, reduceSub, reduceIte, d5, d6, d7, e9, g3, hrem, d4, e1, e2]
          obtain ⟨K4, hK4⟩ : ∃ Y, Y = K3.alloc (.cells true true 1 (cellsOf P.l) 5) := ⟨_, rfl⟩
          have k4 : Keeps K3 K4 := by rw [hK4]; exact (Keeps.refl K3).alloc _
          have by4 : BS K4 (slc K3.n 0 P.l.length P.l.length) P.l := by rw [hK4]; exact bs_new K3 _ true P.l
          have gy4 : K4.get K3.n = some (.cells true true 1 (cellsOf P.l) 5) := by rw [hK4]; exact AHeap.get_alloc_new K3 _
          have n4 : K4.n = K3.n + 1 := by rw [hK4]; rfl
          rw [← hK4]
          have t4 := t3.keeps k4
          have hHn : H.n ≤ K2.n := d.kp.n
          refine callK (t4.ck.save (by omega) (by omega) (by omega) (by omega) by4 (by omega) (fun z hz hz2 => by
            have : z = K3.n := by simpa [tb, slc] using hz
            have := fp1 z (by simp only [fp, List.flatMap_cons, List.mem_append] at hz2 ⊢; exact .inr hz2)
            omega)) ?_
          rintro _ Z1 ⟨rfl, va1, ab1, rv1, it1, s1⟩
          have U1 := t4.u.trans (s1.u.ext t4.u.sep)
          have gx1 := s1.u.chg.at_ (k4.at_ g3) (fun hz => by have := fp1 _ hz; omega)
          have gy1 := s1.u.chg.at_ gy4 (fun hz => by have := fp1 _ hz; omega)
          have kH1 : Keeps H Z1 := ⟨U1.chg.n, fun y hy => U1.chg.get y hy (by simp [fp])⟩
          have bx1 := oc0.b.keeps kH1
          have e3 := a_b2sB bx1
          have gk2 : some (AO.cells true false 4 [.int .u8 (P.k : Nat), P.b, .int .i64 P.n, P.f] 70) = K4.get K2.n := (k4.at_ g3).symm
          have tob := tb_touch (x := P.b) (K := K4) (Z := Z1) (fun z hz => by have := oc0.bl z hz; have := d.kp.n; omega) (fun z hz => s1.u.chg.get z (by have := oc0.bl z hz; have := d.kp.n; omega) (fun hz2 => by have := oc0.bl z hz; have := fp1 _ hz2; omega))
          simp (disch := first | assumption | omega | (simp only [LN] <;> omega) | (simp (disch := first | assumption | omega | (simp only [LN] <;> omega)) only [row_alloc, row_set]; assumption)) only [W_block, P3, ↓reduceIte, reduceAdd, reduceEqDiff, reduceCtorEq, initFr, reduceLT, clsA, reduceLeDiff, reduceMul, reduceSub, reduceIte, gx1, e3]
          refine ⟨gk2, tob, ?_⟩
          have rk1 : RkS (kT d' le e vb vo inn vl D L) Z1 Z1 d' le e vb vo inn vl D L := ⟨Upd.refl U1.sep.right, t3.ok, t3.i, t3.n3, t3.lok⟩
          refine callK (rk1.save (by omega) (by omega) (by omega) (by omega) (by omega)) ?_
          rintro _ Z2 ⟨rfl, vo2, in2, vl2, s2⟩
          have U2 := U1.trans (s2.u.extR U1.sep)
          have gx2 := s2.u.chg.at_ gx1 (fun hz => by have := fp2 _ hz; omega)
          have gy2 := s2.u.chg.at_ gy1 (fun hz => by have := fp2 _ hz; omega)
          have kH2 : Keeps H Z2 := ⟨U2.chg.n, fun y hy => U2.chg.get y hy (by simp [fp])⟩
          have bx2 := oc0.b.keeps kH2
          have ay2 : AP Z2 5 1 (slc K3.n 0 P.l.length P.l.length) P.l.length (cellsOf P.l) := .inr ⟨K3.n, true, rfl, by simp [cellsOf], gy2⟩
          have e4 := a_b2sB bx2
          have e5 := a_b2sB ay2.bs
          have d8 : ((saveW D L P.l).2.2 != (saveW D L P.l).2.2) = false := bnei_no rfl
          simp (disch := first | assumption | omega | (simp only [LN] <;> omega) | (simp (disch := first | assumption | omega | (simp only [LN] <;> omega)) only [row_alloc, row_set]; assumption)) only [W_block, P3, ↓reduceIte, reduceAdd, reduceEqDiff, reduceCtorEq, initFr, reduceLT, clsA, reduceLeDiff, reduceMul, reduceSub, reduceIte, gx2, e4, e5, d8]
          refine W_mut 3 4 11 14 26 rfl rfl (by simp) (by simp) (by decide) (by decide) (by decide) ay2 (by omega) ?_
          intro Z3 l' hl' ap' c3
          replace c3 : Chg [K3.n] Z2 Z3 := c3
          have nz1 : K3.n ∉ fp (cT c lb b sb va1 ab1 rv1 it1 (saveW D L P.l).1 (saveW D L P.l).2.1) := fun hz => Upd.new s1.u (fun h => by have := fp1 _ h; omega) (by omega) hz
          have nz2 : K3.n ∉ fp (kT d' le e vb vo2 in2 vl2 (saveW D L P.l).1 (saveW D L P.l).2.1) := fun hz => Upd.new s2.u (fun h => by have := fp2 _ h; omega) (by have := s1.u.chg.n; omega) hz
          have U3 := U2.side c3 (fun z hz => by
            rw [List.mem_singleton] at hz; subst hz
            refine ⟨by omega, fun hz2 => ?_⟩
            rw [fp_app] at hz2
            rcases List.mem_append.1 hz2 with hz2 | hz2
            · exact nz1 hz2
            · exact nz2 hz2)
          show W Go.Proofs.Tryz.prog 0 _ Q2 [.int .i64 n, v, .bool false, ptr b 0, ptr e 0, ptr c 0, .int .i64 0, ptr d' 0, .int .i64 0, .int .i64 ((i : Nat) : Int), _, _, _, _, _, _, _, _, _, _, _, _, _, _, _, _, _] Z3
          simp (disch := first | assumption | omega | (simp only [LN] <;> omega) | (simp (disch := first | assumption | omega | (simp only [LN] <;> omega)) only [row_alloc, row_set]; assumption)) only [W_block, P3, ↓reduceIte, reduceAdd, reduceEqDiff, reduceCtorEq, initFr, reduceLT, clsA, reduceLeDiff, reduceMul, reduceSub, reduceIte]
          rw [hw]
          exact hnx _ _ _ ⟨i + 1, _, some (saveW D L P.l).2.1, _, _, 0, _, _, _, _, _, _, _, _, _, _, _, _, _, _, _, _, _, rfl, ⟨rfl, c, lb, d', le, va1, ab1, rv1, it1, vo2, in2, vl2, rfl, rfl, U3, s1.ok, s1.n3, s1.it, s1.lok, s2.i⟩, saveW_bl hb _, by omega, rfl⟩ (by omega)
  · have e1 : ¬ (i : Int) < ((l.length : Nat) : Int) := by omega
    simp (disch := first | assumption | omega | (simp only [LN] <;> omega) | (simp (disch := first | assumption | omega | (simp only [LN] <;> omega)) only [row_alloc, row_set]; assumption)) only [W_block, P3, ↓reduceIte, reduceAdd, reduceEqDiff, reduceCtorEq, initFr, reduceLT, clsA, reduceLeDiff, reduceMul, reduceSub, reduceIte, isv, lv]
    refine hx 0 _ _ (show W Go.Proofs.Tryz.prog 0 _ Q _ _ from ?_)
    obtain ⟨v0, ab0, vo0, in0, d⟩ := h.d2
    have d0 : (er == er) = true := beqi_yes rfl
    simp (disch := first | assumption | omega | (simp only [LN] <;> omega) | (simp (disch := first | assumption | omega | (simp only [LN] <;> omega)) only [row_alloc, row_set]; assumption)) only [W_block, P3, ↓reduceIte, reduceAdd, reduceEqDiff, reduceCtorEq, initFr, reduceLT, clsA, reduceLeDiff, reduceMul, reduceSub, reduceIte, d0]
    refine callK (t41 d.dk d.ek) ?_
    rintro _ K2 ⟨rfl, k2⟩
    have h2 := h.keeps k2
    cases lo with
    | none =>
      obtain ⟨q1, rfl, rfl, _⟩ := id h2
      have d1 : (er != 0) = true := bnei_yes q1
      simp (disch := first | assumption | omega | (simp only [LN] <;> omega) | (simp (disch := first | assumption | omega | (simp only [LN] <;> omega)) only [row_alloc, row_set]; assumption)) only [W_block, P3, ↓reduceIte, reduceAdd, reduceEqDiff, reduceCtorEq, initFr, reduceLT, clsA, reduceLeDiff, reduceMul, reduceSub, reduceIte, d1]
      refine callK (t38 K2) ?_
      rintro _ K3 rfl
      simp (disch := first | assumption | omega | (simp only [LN] <;> omega) | (simp (disch := first | assumption | omega | (simp only [LN] <;> omega)) only [row_alloc, row_set]; assumption)) only [W_block, P3, ↓reduceIte, reduceAdd, reduceEqDiff, reduceCtorEq, initFr, reduceLT, clsA, reduceLeDiff, reduceMul, reduceSub, reduceIte]
      exact hq2 _ _ ⟨_, rfl, rfl⟩
    | some L =>
      obtain ⟨rfl, c, lb, d', le, va, ab, rv, items, vo, inn, vl, rfl, rfl, t⟩ := id h2
      simp (disch := first | assumption | omega | (simp only [LN] <;> omega) | (simp (disch := first | assumption | omega | (simp only [LN] <;> omega)) only [row_alloc, row_set]; assumption)) only [W_block, P3, ↓reduceIte, reduceAdd, reduceEqDiff, reduceCtorEq, initFr, reduceLT, clsA, reduceLeDiff, reduceMul, reduceSub, reduceIte]
      refine callK (t42 t.ck.lg t.ck.gc t.rk.rl t.rk.gc) ?_
      rintro _ K3 ⟨rfl, k3⟩
      simp (disch := first | assumption | omega | (simp only [LN] <;> omega) | (simp (disch := first | assumption | omega | (simp only [LN] <;> omega)) only [row_alloc, row_set]; assumption)) only [W_block, P3, ↓reduceIte, reduceAdd, reduceEqDiff, reduceCtorEq, initFr, reduceLT, clsA, reduceLeDiff, reduceMul, reduceSub, reduceIte]
      refine callK (t38 K3) ?_
      rintro _ K4 rfl
      simp (disch := first | assumption | omega | (simp only [LN] <;> omega) | (simp (disch := first | assumption | omega | (simp only [LN] <;> omega)) only [row_alloc, row_set]; assumption)) only [W_block, P3, ↓reduceIte, reduceAdd, reduceEqDiff, reduceCtorEq, initFr, reduceLT, clsA, reduceLeDiff, reduceMul, reduceSub, reduceIte]
      exact hq2 _ _ ⟨_, rfl, rfl⟩
end
end Go.AM.Fd

set_option linter.unusedSimpArgs false
set_option linter.unusedVariables false
namespace Go.AM.Fd
open Nat (reduceAdd reduceEqDiff reduceLT reduceLeDiff reduceMul reduceSub)
open Go.Proofs Go.AM.F
theorem t5 {H : AHeap} {v : Value} {l : List CW} (hc : CwL H v l) (n : Int) : ∃ w K, ARun Go.Proofs.Tryz.prog 0 5 [.int .i64 n, v] H w K ∧ w = .bool true := by
  refine walk2 f5_ok f5_n ?_
  intro Q hq1 hq2
  refine W_part 5 (fun fr K => ∃ b e p5 er p7 y9 y10 y11 y12 y13 y14 y15 y16 y17 y18 y19 y20 y21 y22 y23 y24 y25 y26 sb vb D lo, fr = [.int .i64 n, v, .bool false, ptr b 0, ptr e 0, p5, .int .i64 er, p7, .int .i64 er, y9, y10, y11, y12, y13, y14, y15, y16, y17, y18, y19, y20, y21, y22, y23, y24, y25, y26] ∧ S3 H K b sb e vb D lo p5 p7 er ∧ Bnd4 D lo 1 ∧ l.length ≤ 60 ∧ ∀ p ∈ l, p.l.length ≤ 6000 ∧ p.fs.length ≤ 6000) (by kernel_rfl) ?_ ?_
  rotate_left
  · rintro fr K ⟨b, e, p5, er, p7, y9, y10, y11, y12, y13, y14, y15, y16, y17, y18, y19, y20, y21, y22, y23, y24, y25, y26, sb, vb, D, lo, rfl, sw, bnd, hl, hll⟩
    exact ckptLoop sw bnd hc hl hll hq2
  intro Q' hk hex hret
  replace hq2 := fun fr H2 h => hret fr H2 (hq2 fr H2 h)
  simp (disch := first | assumption | omega | (simp only [LN] <;> omega) | (simp (disch := first | assumption | omega | (simp only [LN] <;> omega)) only [row_alloc, row_set]; assumption)) only [f5, W_block, P3, ↓reduceIte, reduceAdd, reduceEqDiff, reduceCtorEq, initFr, reduceLT, clsA, reduceLeDiff, reduceMul, reduceSub, reduceIte, cpre]
  refine callK (t37 hc) ?_
  rintro _ X ⟨⟨bb, rfl, hbb⟩, hX⟩
  rw [hX]
  cases bb with
  | true =>
    simp (disch := first | assumption | omega | (simp only [LN] <;> omega) | (simp (disch := first | assumption | omega | (simp only [LN] <;> omega)) only [row_alloc, row_set]; assumption)) only [W_block, P3, ↓reduceIte, reduceAdd, reduceEqDiff, reduceCtorEq, initFr, reduceLT, clsA, reduceLeDiff, reduceMul, reduceSub, reduceIte]
    refine callK (t38 H) ?_
    rintro _ K3 rfl
    simp (disch := first | assumption | omega | (simp only [LN] <;> omega) | (simp (disch := first | assumption | omega | (simp only [LN] <;> omega)) only [row_alloc, row_set]; assumption)) only [W_block, P3, ↓reduceIte, reduceAdd, reduceEqDiff, reduceCtorEq, initFr, reduceLT, clsA, reduceLeDiff, reduceMul, reduceSub, reduceIte]
    exact hq2 _ _ ⟨_, rfl, rfl⟩
  | false =>
    obtain ⟨hl, hll⟩ := hbb rfl
    by_cases hn : (30 : Int) < n
    · simp (disch := first | assumption | omega | (simp only [LN] <;> omega) | (simp (disch := first | assumption | omega | (simp only [LN] <;> omega)) only [row_alloc, row_set]; assumption)) only [W_block, P3, ↓reduceIte, reduceAdd, reduceEqDiff, reduceCtorEq, initFr, reduceLT, clsA, reduceLeDiff, reduceMul, reduceSub, reduceIte]
      refine callK (t38 H) ?_
      rintro _ K3 rfl
      simp (disch := first | assumption | omega | (simp only [LN] <;> omega) | (simp (disch := first | assumption | omega | (simp only [LN] <;> omega)) only [row_alloc, row_set]; assumption)) only [W_block, P3, ↓reduceIte, reduceAdd, reduceEqDiff, reduceCtorEq, initFr, reduceLT, clsA, reduceLeDiff, reduceMul, reduceSub, reduceIte]
      exact hq2 _ _ ⟨_, rfl, rfl⟩
    · simp (disch := first | assumption | omega | (simp only [LN] <;> omega) | (simp (disch := first | assumption | omega | (simp only [LN] <;> omega)) only [row_alloc, row_set]; assumption)) only [W_block, P3, ↓reduceIte, reduceAdd, reduceEqDiff, reduceCtorEq, initFr, reduceLT, clsA, reduceLeDiff, reduceMul, reduceSub, reduceIte]
      refine callK (t11 H n) ?_
      rintro _ K1 ⟨k1, b, sb, rfl, hd, hfd⟩
      simp (disch := first | assumption | omega | (simp only [LN] <;> omega) | (simp (disch := first | assumption | omega | (simp only [LN] <;> omega)) only [row_alloc, row_set]; assumption)) only [W_block, P3, ↓reduceIte, reduceAdd, reduceEqDiff, reduceCtorEq, initFr, reduceLT, clsA, reduceLeDiff, reduceMul, reduceSub, reduceIte]
      refine callK (t12 K1 n) ?_
      rintro _ K2 ⟨k2, e, vb, rfl, he, hfe⟩
      have d : D2 H K2 b sb (.slice none 0 0) none e vb (.slice none 0 0) 0 (newD n) := by
        refine ⟨⟨Sep.join2 (H := H) hd.s k2 he.s hfe, (k1.trans k2).chg _, fun y hy => .inr ?_⟩, hd.ok, he.i⟩
        rw [fp_app] at hy
        rcases List.mem_append.1 hy with hy | hy
        · exact hfd y hy
        · have := hfe y hy; have := k1.n; omega
      have bn : (newD n).st < 999999 ∧ (newD n).op.length < 999999 := ⟨by show 0 < 999999; omega, by show 0 < 999999; omega⟩
      simp (disch := first | assumption | omega | (simp only [LN] <;> omega) | (simp (disch := first | assumption | omega | (simp only [LN] <;> omega)) only [row_alloc, row_set]; assumption)) only [W_block, P3, ↓reduceIte, reduceAdd, reduceEqDiff, reduceCtorEq, initFr, reduceLT, clsA, reduceLeDiff, reduceMul, reduceSub, reduceIte]
      refine callK (t39 d.dk bn.1 bn.2) ?_
      rintro w1 Z1 ho
      obtain ⟨p, rfl, ek1, kz1, fin⟩ := S3.open1 d ho
      simp (disch := first | assumption | omega | (simp only [LN] <;> omega) | (simp (disch := first | assumption | omega | (simp only [LN] <;> omega)) only [row_alloc, row_set]; assumption)) only [ P3, ↓reduceIte, reduceAdd, reduceEqDiff, reduceCtorEq, initFr, reduceLT, clsA, reduceLeDiff, reduceMul, reduceSub, reduceIte]
      refine callK (t40 ek1 bn.1 bn.2) ?_
      rintro w2 Z2 ho2
      obtain ⟨p2, rfl, sw2⟩ := fin ho2
      have bnd := openW_b4 (m := 0) hd.ok (by show 0 ≤ _; omega) (by show 0 ≤ _; omega) bn.1 bn.2
      simp (disch := first | assumption | omega | (simp only [LN] <;> omega) | (simp (disch := first | assumption | omega | (simp only [LN] <;> omega)) only [row_alloc, row_set]; assumption)) only [ P3, ↓reduceIte, reduceAdd, reduceEqDiff, reduceCtorEq, initFr, reduceLT, clsA, reduceLeDiff, reduceMul, reduceSub, reduceIte]
      exact hk _ _ ⟨b, e, p, _, p2, _, _, _, _, _, _, _, _, _, _, _, _, _, _, _, _, _, _, sb, vb, _, _, rfl, sw2, bnd, hl, hll⟩
theorem lawCkPlays : ∀ H args, NoOwn H → AVs Go.Proofs.Tryz.prog H.get [3, 60] args → ∃ H', ARun Go.Proofs.Tryz.prog 0 5 args H (.bool true) H' := by
  intro H args _ h
  match args, h with
  | [e, v], ⟨h1, h2, _⟩ =>
    obtain ⟨n, rfl, _⟩ := h1.int_inv (k := .i64) (by kernel_rfl)
    obtain ⟨l, hc⟩ := av_calls16 h2
    obtain ⟨_, K, r, rfl⟩ := t5 hc n
    exact ⟨K, r⟩
end Go.AM.Fd
