/- Part of the proof. -/
import Derived.Test.YtlmikadohcdclaaRqG
import Derived.Test.YtlmikadohcdclaaRqA
set_option linter.unusedSimpArgs false
set_option linter.unusedVariables false
namespace Go.AM.Rp
open Go.Proofs

/-! ### The document's sender -/
structure SfV (H : AHeap) (s : Nat) (v : Value) (l : List Lg) (a : Nat) : Prop where
  g : H.get s = some (.cells true false 2 [v, .int .i64 ((a : Int) - 1)] 99)
  ap : AP H 72 70 v l.length (FL l)
  ne : blk v ≠ some s
  ok : Ok64 l
theorem SfV.keeps {H K : AHeap} {s : Nat} {v : Value} {l : List Lg} {a : Nat} (h : SfV H s v l a) (k : Keeps H K) : SfV K s v l a := ⟨k.at_ h.g, h.ap.keeps k, h.ne, h.ok⟩
theorem SfV.sl {H : AHeap} {s : Nat} {v : Value} {l : List Lg} {a : Nat} (h : SfV H s v l a) : Sl H 70 v (l.map LC) := by
  refine AP.sl (e := 72) (n := l.length) ?_ ?_ (by rw [List.length_map])
  · rw [show (l.map LC).flatten = FL l by rw [FL, List.flatMap_def]]; exact h.ap
  · intro r hr; simp at hr; obtain ⟨y, hy, rfl⟩ := hr; exact LC_len (h.ok y hy)
theorem flP' (e c be b : Int) : fillA Z78 [(0, 1, .int .u8 2), (1, 1, .int .i64 e), (2, 1, .int .i64 c), (3, 1, .int .i64 be), (4, 1, .int .i64 b)] = some (Mz (pre ⟨2, e, c, be, b, S0, ⟨0, 0, 0, 0, []⟩⟩ rfl)) := by kernel_rfl

/-- Send, the document's. -/
theorem t42 {H : AHeap} {s : Nat} {v : Value} {l : List Lg} {a : Nat} (h : SfV H s v l a) (hl : l.length ≤ 100) (ha : a ≤ l.length) :
    ∃ w H', ARun Try.prog 0 42 [ptr s 0] H w H' ∧ Keeps H H' ∧ ∃ u, w = .tuple #[.agg (GC (sendR l a).1 u).toArray, .bool (sendR l a).2] ∧ TB H' u (sendR l a).1.d.l ∧ Fresh H.n u := by
  refine walk2 f42_ok f42_n ?_
  intro Q hq1 hq2
  have hg := h.g
  have ls := AHeap.get_lt hg
  have hsl := h.sl
  have his := hsl.is
  have hlen := hsl.len
  rw [List.length_map] at hlen
  have z78 : Z78.all Value.oneCell' = true := rfl
  have zl : Z78.length = 78 := rfl
  have zl7 : Z70.length = 70 := rfl
  have kz := (Keeps.refl H).alloc (.cells true false 78 Z78 38)
  have hsub : IntKind.i64.wrap ((l.length : Int) - 1) = (l.length : Int) - 1 := wrap_i64 (by omega) (by omega)
  unfold sendR at hq2
  by_cases h0 : a = l.length
  · simp only [h0, if_true] at hq2
    have fin : ∀ fr, fr.getD 1 undef = ptr H.n 0 → fr.getD 2 undef = .bool false → Q .ret fr (H.alloc (.cells true false 78 Z78 38)) := fun fr e1 e2 =>
      hq2 _ _ ⟨_, resCn 78 2 1 e1 (full (AHeap.get_alloc_new H _) rfl), kz, .slice none 0 0, by rw [e2]; rfl, ⟨none, 0, rfl, fun h => absurd rfl h⟩, fun b hb => by cases hb⟩
    by_cases hn : l.length = 0
    · simp (disch := (first | assumption | omega | (simp only [alloc_n, set_n] <;> omega) | (simp (disch := (first | assumption | omega | (simp only [alloc_n, set_n] <;> omega))) only [row_alloc, row_set]; assumption))) only [f42, W_block, ANs, A3s, AOp.map, ↓reduceIte, Nat.reduceAdd, Nat.reduceEqDiff, reduceCtorEq, initFr, Nat.reduceLT, clsA, List.take, List.drop, Nat.reduceLeDiff, Nat.reduceMul, Nat.reduceSub, reduceIte, ANc, A3c, z78, hg, his, hlen, fl78n]
      exact fin _ rfl rfl
    · simp (disch := (first | assumption | omega | (simp only [alloc_n, set_n] <;> omega) | (simp (disch := (first | assumption | omega | (simp only [alloc_n, set_n] <;> omega))) only [row_alloc, row_set]; assumption))) only [f42, W_block, ANs, A3s, AOp.map, ↓reduceIte, Nat.reduceAdd, Nat.reduceEqDiff, reduceCtorEq, initFr, Nat.reduceLT, clsA, List.take, List.drop, Nat.reduceLeDiff, Nat.reduceMul, Nat.reduceSub, reduceIte, ANc, A3c, z78, hg, his, hlen, fl78n, hsub]
      exact fin _ rfl rfl
  simp only [h0, if_false] at hq2
  have hn : ¬ l.length = 0 := by omega
  have hls : lst l = l[l.length - 1] := by unfold lst; rw [List.getD_eq_getElem?_getD, List.getElem?_eq_getElem (by omega)]; rfl
  have hly : (lst l).s.t.length = 64 := by rw [hls]; exact h.ok _ (List.getElem_mem _)
  obtain ⟨nn, hrow⟩ := hsl.at_ (by omega) (i := l.length - 1) (by simp; omega)
  rw [List.getElem_map, ← hls] at hrow
  have hto : ((l.length : Int) - 1).toNat = l.length - 1 := by omega
  have hbn : bn v ≤ H.n := AP.bn h.ap
  have hbs : bn v ≠ s + 1 := by
    unfold bn; intro e; apply h.ne
    cases hb : blk v with
    | none => rw [hb] at e; simp at e
    | some b => rw [hb] at e; simp at e; rw [e]
  generalize hy : lst l = y at *
  have ly := LC_len hly
  have lss : ((LC y).drop 2).take 68 = SC y.s := by
    show (SC y.s).take 68 = _; rw [List.take_of_length_le (by rw [SC_len hly]; omega)]
  by_cases h1 : 0 < a
  · simp only [h1, if_true] at hq2
    have hak : ackL l a = l[a - 1] := by unfold ackL; rw [if_neg (by omega), List.getD_eq_getElem?_getD, List.getElem?_eq_getElem (by omega)]; rfl
    have hlb : (ackL l a).s.t.length = 64 := by rw [hak]; exact h.ok _ (List.getElem_mem _)
    obtain ⟨_, hrow2⟩ := hsl.at_ (by omega) (i := a - 1) (by simp; omega)
    rw [List.getElem_map, ← hak] at hrow2
    have hto2 : ((a : Int) - 1).toNat = a - 1 := by omega
    generalize ackL l a = z at *
    have lz := LC_len hlb
    have lzs : ((LC z).drop 2).take 68 = SC z.s := by
      show (SC z.s).take 68 = _; rw [List.take_of_length_le (by rw [SC_len hlb]; omega)]
    simp (disch := (first | assumption | omega | (simp only [alloc_n, set_n] <;> omega) | (simp (disch := (first | assumption | omega | (simp only [alloc_n, set_n] <;> omega))) only [row_alloc, row_set]; assumption))) only [f42, W_block, ANs, A3s, AOp.map, ↓reduceIte, Nat.reduceAdd, Nat.reduceEqDiff, reduceCtorEq, initFr, Nat.reduceLT, clsA, List.take, List.drop, Nat.reduceLeDiff, Nat.reduceMul, Nat.reduceSub, reduceIte, ANc, A3c, z78, z70, hg, his, hlen, hsub, hto, hto2, LC_one, LC_0, LC_1, lss, lzs, flP']
    have kk := (kz.alloc (.cells true false 70 (LC y) 72)).alloc (.cells true false 70 (LC z) 72)
    refine callK (t14g (pre ⟨2, y.e, y.c, z.e, z.c, S0, ⟨0, 0, 0, 0, []⟩⟩ rfl) (s := z.s) (t := y.s) hlb hly) ?_
    rintro _ K ⟨k1, w, rfl, tw, fw⟩
    have gz : K.get H.n = some (.cells true false 78 Z78 38) := k1.at_ (by rw [g_old _ (by simp [alloc_n]; omega), g_old _ (by simp [alloc_n]), g_new _ rfl])
    have lg := GC_len (m := ⟨2, y.e, y.c, z.e, z.c, S0, diffD z.s y.s⟩) rfl w
    have og := GC_one ⟨2, y.e, y.c, z.e, z.c, S0, diffD z.s y.s⟩ tw.one
    have hGP : MP (pre ⟨2, y.e, y.c, z.e, z.c, S0, ⟨0, 0, 0, 0, []⟩⟩ rfl) (diffD z.s y.s) w = GC ⟨2, y.e, y.c, z.e, z.c, S0, diffD z.s y.s⟩ w := rfl
    simp (disch := (first | assumption | omega | (simp only [alloc_n, set_n] <;> omega) | (simp (disch := (first | assumption | omega | (simp only [alloc_n, set_n] <;> omega))) only [row_alloc, row_set]; assumption))) only [W_block, ANs, A3s, AOp.map, ↓reduceIte, Nat.reduceAdd, Nat.reduceEqDiff, reduceCtorEq, initFr, Nat.reduceLT, clsA, List.take, List.drop, Nat.reduceLeDiff, Nat.reduceMul, Nat.reduceSub, reduceIte, ANc, A3c, gz, hGP, og]
    have kF : Keeps H (K.set H.n (.cells true false 78 (GC ⟨2, y.e, y.c, z.e, z.c, S0, diffD z.s y.s⟩ w) 38)) := (kk.trans k1).chg_trans (Chg.set K (AHeap.get_lt gz) _) (by simp)
    refine hq2 _ _ ⟨_, resCn 78 2 1 (b := H.n) rfl (full (get1 gz _) lg), kF, w, rfl, tw.chgL (fun hne b hb => by
      have := fw b (mem_blkL.1 hb)
      simp only [alloc_n] at this
      exact g_sets _ (by omega) (AHeap.get_lt gz)), fun b hb => by
      have := fw b hb
      simp only [alloc_n] at this
      omega⟩
  · simp only [h1, if_false] at hq2
    have lg := GC_len (m := { G0 with k := 1, e := y.e, c := y.c, s := y.s }) hly (.slice none 0 0)
    have og := GC_one { G0 with k := 1, e := y.e, c := y.c, s := y.s } (v := .slice none 0 0) rfl
    simp (disch := (first | assumption | omega | (simp only [alloc_n, set_n] <;> omega) | (simp (disch := (first | assumption | omega | (simp only [alloc_n, set_n] <;> omega))) only [row_alloc, row_set]; assumption))) only [f42, W_block, ANs, A3s, AOp.map, ↓reduceIte, Nat.reduceAdd, Nat.reduceEqDiff, reduceCtorEq, initFr, Nat.reduceLT, clsA, List.take, List.drop, Nat.reduceLeDiff, Nat.reduceMul, Nat.reduceSub, reduceIte, ANc, A3c, z78, z70, hg, his, hlen, hsub, hto, LC_one, LC_0, LC_1, lss, flW y.e y.c hly, og]
    refine hq2 _ _ ⟨_, resCn 78 2 1 (b := H.n) rfl ?_, ?_, .slice none 0 0, rfl, ⟨none, 0, rfl, fun h => absurd rfl h⟩, fun b hb => by cases hb⟩
    · simp (disch := (first | assumption | omega | (simp only [alloc_n, set_n] <;> omega) | (simp (disch := (first | assumption | omega | (simp only [alloc_n, set_n] <;> omega))) only [row_alloc, row_set]; assumption))) only [W_block, ANs, A3s, AOp.map, ↓reduceIte, Nat.reduceAdd, Nat.reduceEqDiff, reduceCtorEq, initFr, Nat.reduceLT, clsA, List.take, List.drop, Nat.reduceLeDiff, Nat.reduceMul, Nat.reduceSub, reduceIte, ANc, A3c]
    · exact ((Keeps.refl H).alloc _).alloc _

/-- Hear, the document's sender. -/
theorem t39 {H : AHeap} {s : Nat} {u v : Value} {l : List Lg} {a : Nat} {m : Msg} (h : SfV H s u l a) (hr : Rise l) (hl : l.length ≤ 100) (ha : a ≤ l.length) (hs : m.s.t.length = 64) (ht : TB H v m.d.l) (hml : m.d.l.length ≤ 100000) :
    ∃ w H', ARun Try.prog 0 39 [ptr s 0, .agg (GC m v).toArray] H w H' ∧ w = .int .i64 (hearS l a m).1 ∧ SfV H' s u l (hearS l a m).2 ∧ Chg [s] H H' := by
  refine walk2 f39_ok f39_n ?_
  intro Q hq1 hq2
  have hg := h.g
  have ls := AHeap.get_lt hg
  have ml := GC_len hs v
  have mo := GC_one m ht.one
  have hsl := h.sl
  have his := hsl.is
  have hlen := hsl.len
  rw [List.length_map] at hlen
  have hbs : bn u ≠ s + 1 := by
    unfold bn; intro e; apply h.ne
    cases hb : blk u with
    | none => rw [hb] at e; simp at e
    | some b => rw [hb] at e; simp at e; rw [e]
  simp (disch := (first | assumption | omega | (simp only [alloc_n, set_n] <;> omega) | (simp (disch := (first | assumption | omega | (simp only [alloc_n, set_n] <;> omega))) only [row_alloc, row_set]; assumption))) only [f39, W_block, ANs, A3s, AOp.map, ↓reduceIte, Nat.reduceAdd, Nat.reduceEqDiff, reduceCtorEq, initFr, Nat.reduceLT, clsA, List.take, List.drop, Nat.reduceLeDiff, Nat.reduceMul, Nat.reduceSub, reduceIte, ANc, A3c, mo]
  have ka := (Keeps.refl H).alloc (.cells true false 78 (GC m v) 38)
  refine callK (t61 (m := m) (v := v) hs (ht.keeps ka) hml) ?_
  rintro _ K ⟨rfl, kK⟩
  have nK := kK.n
  rw [alloc_n] at nK
  have kk := ka.trans kK
  have hu := kk.at_ hg
  have gm : K.get H.n = some (.cells true false 78 (GC m v) 38) := kK.at_ (AHeap.get_alloc_new H _)
  have upd : ∀ {X : AHeap} {a' : Nat}, Chg [s] H X → X.get s = some (.cells true false 2 [u, .int .i64 ((a' : Int) - 1)] 99) → SfV X s u l a' := fun c g => ⟨g, h.ap.chg c (by intro z hz e; simp at e; subst e; exact h.ne (mem_blkL.1 hz)), h.ne, h.ok⟩
  unfold hearS at hq2
  cases hmay : mayB m
  · simp only [hmay, true_or, if_true] at hq2
    simp (disch := (first | assumption | omega | (simp only [alloc_n, set_n] <;> omega) | (simp (disch := (first | assumption | omega | (simp only [alloc_n, set_n] <;> omega))) only [row_alloc, row_set, Keeps.row kK]; assumption))) only [Keeps.get kK, Keeps.row kK, W_block, ANs, A3s, AOp.map, ↓reduceIte, Nat.reduceAdd, Nat.reduceEqDiff, reduceCtorEq, initFr, Nat.reduceLT, clsA, List.take, List.drop, Nat.reduceLeDiff, Nat.reduceMul, Nat.reduceSub, reduceIte, ANc, A3c, GC_0]
    exact hq2 _ _ ⟨_, rfl, rfl, h.keeps kk, kk.chg _⟩
  by_cases hk : m.k < 3
  · simp only [hk, or_true, if_true] at hq2
    simp (disch := (first | assumption | omega | (simp only [alloc_n, set_n] <;> omega) | (simp (disch := (first | assumption | omega | (simp only [alloc_n, set_n] <;> omega))) only [row_alloc, row_set, Keeps.row kK]; assumption))) only [Keeps.get kK, Keeps.row kK, W_block, ANs, A3s, AOp.map, ↓reduceIte, Nat.reduceAdd, Nat.reduceEqDiff, reduceCtorEq, initFr, Nat.reduceLT, clsA, List.take, List.drop, Nat.reduceLeDiff, Nat.reduceMul, Nat.reduceSub, reduceIte, ANc, A3c, GC_0]
    exact hq2 _ _ ⟨_, rfl, rfl, h.keeps kk, kk.chg _⟩
  simp only [hmay, hk, Bool.true_eq_false, or_self, if_false] at hq2
  by_cases hk4 : m.k = 4
  · simp only [hk4, if_true] at hq2
    simp (disch := (first | assumption | omega | (simp only [alloc_n, set_n] <;> omega) | (simp (disch := (first | assumption | omega | (simp only [alloc_n, set_n] <;> omega))) only [row_alloc, row_set, Keeps.row kK]; assumption))) only [Keeps.get kK, Keeps.row kK, W_block, ANs, A3s, AOp.map, ↓reduceIte, Nat.reduceAdd, Nat.reduceEqDiff, reduceCtorEq, initFr, Nat.reduceLT, clsA, List.take, List.drop, Nat.reduceLeDiff, Nat.reduceMul, Nat.reduceSub, reduceIte, ANc, A3c, GC_0, hg]
    have c := (kk.chg [s]).set' (b := s) (.inr (by simp)) (by omega) (.cells true false 2 [u, .int .i64 (-1)] 99)
    exact hq2 _ _ ⟨_, rfl, rfl, upd c (get1 hu _), c⟩
  simp only [hk4, if_false] at hq2
  simp (disch := (first | assumption | omega | (simp only [alloc_n, set_n] <;> omega) | (simp (disch := (first | assumption | omega | (simp only [alloc_n, set_n] <;> omega))) only [row_alloc, row_set, Keeps.row kK]; assumption))) only [Keeps.get kK, Keeps.row kK, W_block, ANs, A3s, AOp.map, ↓reduceIte, Nat.reduceAdd, Nat.reduceEqDiff, reduceCtorEq, initFr, Nat.reduceLT, clsA, List.take, List.drop, Nat.reduceLeDiff, Nat.reduceMul, Nat.reduceSub, reduceIte, ANc, A3c, GC_0]
  refine W_loop2 (fun q fr X => ∃ (i a' : Nat) (y7 y8 : Value), q = l.length - i ∧ i ≤ l.length ∧ Chg [s] K X ∧ X.get s = some (.cells true false 2 [u, .int .i64 ((a' : Int) - 1)] 99) ∧
    a' = (match l.findIdx? (keyIs m.e m.c) with | some k => if k < i then max a (k + 1) else a | none => a) ∧ fr = [ptr s 0, .agg (GC m v).toArray, ptr H.n 0, .int .i64 0, .int .i64 i, .bool false, .bool false, y7, y8]) l.length
    ⟨0, a, _, _, rfl, by omega, Chg.refl _ _, hu, by cases l.findIdx? (keyIs m.e m.c) <;> simp, rfl⟩ ?_
  rintro Q' q fr X ⟨i, a', y7, y8, rfl, hi, cX, gX, ha', rfl⟩ hn he hrt
  have lX := AHeap.get_lt gX
  have gmX : X.get H.n = some (.cells true false 78 (GC m v) 38) := cX.at_ gm (by simp; omega)
  have cHX : Chg [s] H X := (kk.chg [s]).trans cX (fun z hz => .inl hz)
  have hX := upd cHX gX
  by_cases hlt : i < l.length
  case neg =>
    simp (disch := (first | assumption | omega | (simp only [alloc_n, set_n] <;> omega) | (simp (disch := (first | assumption | omega | (simp only [alloc_n, set_n] <;> omega))) only [row_alloc, row_set]; assumption))) only [W_block, ANs, A3s, AOp.map, ↓reduceIte, Nat.reduceAdd, Nat.reduceEqDiff, reduceCtorEq, initFr, Nat.reduceLT, clsA, List.take, List.drop, Nat.reduceLeDiff, Nat.reduceMul, Nat.reduceSub, reduceIte, ANc, A3c, gX, his, hlen]
    refine he _ _ _ ?_
    simp (disch := (first | assumption | omega | (simp only [alloc_n, set_n] <;> omega) | (simp (disch := (first | assumption | omega | (simp only [alloc_n, set_n] <;> omega))) only [row_alloc, row_set]; assumption))) only [W_block, ANs, A3s, AOp.map, ↓reduceIte, Nat.reduceAdd, Nat.reduceEqDiff, reduceCtorEq, initFr, Nat.reduceLT, clsA, List.take, List.drop, Nat.reduceLeDiff, Nat.reduceMul, Nat.reduceSub, reduceIte, ANc, A3c]
    have hie : i = l.length := by omega
    subst hie
    cases hf : l.findIdx? (keyIs m.e m.c) with
    | none =>
      simp only [hf] at hq2 ha'
      subst ha'
      exact hq2 _ _ ⟨_, rfl, rfl, hX, cHX⟩
    | some k =>
      have hk : k < l.length := (List.findIdx?_eq_some_iff_getElem.1 hf).1
      simp only [hf, hk, if_true] at hq2 ha'
      subst ha'
      exact hq2 _ _ ⟨_, rfl, rfl, hX, cHX⟩
  obtain ⟨nn, hrow⟩ := hX.sl.at_ (by omega) (i := i) (by simp; omega)
  rw [List.getElem_map] at hrow
  have hbX : bn u ≤ X.n := AP.bn hX.ap
  have key : ∀ a'' : Nat, a'' = (match l.findIdx? (keyIs m.e m.c) with | some k => if k < i + 1 then max a (k + 1) else a | none => a) → ∀ X', Chg [s] X X' → X'.get s = some (.cells true false 2 [u, .int .i64 ((a'' : Int) - 1)] 99) → ∀ y7 y8, Q' .normal [ptr s 0, .agg (GC m v).toArray, ptr H.n 0, .int .i64 0, .int .i64 ((i + 1 : Nat) : Int), .bool false, .bool false, y7, y8] X' :=
    fun a'' ha'' X' c g y7 y8 => hn _ _ _ ⟨i + 1, a'', _, _, rfl, by omega, cX.trans c (fun z hz => .inl hz), g, ha'', rfl⟩ (by omega)
  by_cases hm : (l[i]).e = m.e ∧ (l[i]).c = m.c
  · have hf := rise_find hr hlt hm.1 hm.2
    rw [hf] at ha' key
    simp only [Nat.lt_irrefl, if_false] at ha'
    subst ha'
    simp only [Nat.lt_add_one, if_true] at key
    by_cases hb : (i : Int) > (a' : Int) - 1
    · simp (disch := (first | assumption | omega | (simp only [alloc_n, set_n] <;> omega) | (simp (disch := (first | assumption | omega | (simp only [alloc_n, set_n] <;> omega))) only [row_alloc, row_set]; assumption))) only [W_block, ANs, A3s, AOp.map, ↓reduceIte, Nat.reduceAdd, Nat.reduceEqDiff, reduceCtorEq, initFr, Nat.reduceLT, clsA, List.take, List.drop, Nat.reduceLeDiff, Nat.reduceMul, Nat.reduceSub, reduceIte, ANc, A3c, gX, his, hlen, gmX, GC_1, GC_2, LC_0, LC_1, wrap_succ (n := i) (by omega)]
      refine key _ rfl _ (Chg.set X lX _) ?_ _ _
      rw [get1 gX]
      have : ((max a' (i + 1) : Nat) : Int) - 1 = i := by omega
      rw [this]
    · simp (disch := (first | assumption | omega | (simp only [alloc_n, set_n] <;> omega) | (simp (disch := (first | assumption | omega | (simp only [alloc_n, set_n] <;> omega))) only [row_alloc, row_set]; assumption))) only [W_block, ANs, A3s, AOp.map, ↓reduceIte, Nat.reduceAdd, Nat.reduceEqDiff, reduceCtorEq, initFr, Nat.reduceLT, clsA, List.take, List.drop, Nat.reduceLeDiff, Nat.reduceMul, Nat.reduceSub, reduceIte, ANc, A3c, gX, his, hlen, gmX, GC_1, GC_2, LC_0, LC_1, wrap_succ (n := i) (by omega)]
      refine key _ rfl _ (Chg.refl _ _) ?_ _ _
      rw [gX]
      have : max a' (i + 1) = a' := by omega
      rw [this]
  · have hne : ∀ k, l.findIdx? (keyIs m.e m.c) = some k → k ≠ i := by
      intro k hk e
      subst e
      have := (List.findIdx?_eq_some_iff_getElem.1 hk).2.1
      simp [keyIs] at this
      exact hm this
    have ha2 : a' = (match l.findIdx? (keyIs m.e m.c) with | some k => if k < i + 1 then max a (k + 1) else a | none => a) := by
      rw [ha']
      cases hf : l.findIdx? (keyIs m.e m.c) with
      | none => rfl
      | some k =>
        have := hne k hf
        simp only [show (k < i + 1) = (k < i) by apply propext; omega]
    by_cases hb : (i : Int) > (a' : Int) - 1
    · by_cases h1 : (l[i]).e = m.e
      · have h2 : ¬ (l[i]).c = m.c := fun h2 => hm ⟨h1, h2⟩
        simp (disch := (first | assumption | omega | (simp only [alloc_n, set_n] <;> omega) | (simp (disch := (first | assumption | omega | (simp only [alloc_n, set_n] <;> omega))) only [row_alloc, row_set]; assumption))) only [W_block, ANs, A3s, AOp.map, ↓reduceIte, Nat.reduceAdd, Nat.reduceEqDiff, reduceCtorEq, initFr, Nat.reduceLT, clsA, List.take, List.drop, Nat.reduceLeDiff, Nat.reduceMul, Nat.reduceSub, reduceIte, ANc, A3c, gX, his, hlen, gmX, GC_1, GC_2, LC_0, LC_1, wrap_succ (n := i) (by omega)]
        exact key _ ha2 _ (Chg.refl _ _) gX _ _
      · simp (disch := (first | assumption | omega | (simp only [alloc_n, set_n] <;> omega) | (simp (disch := (first | assumption | omega | (simp only [alloc_n, set_n] <;> omega))) only [row_alloc, row_set]; assumption))) only [W_block, ANs, A3s, AOp.map, ↓reduceIte, Nat.reduceAdd, Nat.reduceEqDiff, reduceCtorEq, initFr, Nat.reduceLT, clsA, List.take, List.drop, Nat.reduceLeDiff, Nat.reduceMul, Nat.reduceSub, reduceIte, ANc, A3c, gX, his, hlen, gmX, GC_1, GC_2, LC_0, LC_1, wrap_succ (n := i) (by omega)]
        exact key _ ha2 _ (Chg.refl _ _) gX _ _
    · simp (disch := (first | assumption | omega | (simp only [alloc_n, set_n] <;> omega) | (simp (disch := (first | assumption | omega | (simp only [alloc_n, set_n] <;> omega))) only [row_alloc, row_set]; assumption))) only [W_block, ANs, A3s, AOp.map, ↓reduceIte, Nat.reduceAdd, Nat.reduceEqDiff, reduceCtorEq, initFr, Nat.reduceLT, clsA, List.take, List.drop, Nat.reduceLeDiff, Nat.reduceMul, Nat.reduceSub, reduceIte, ANc, A3c, gX, his, hlen, gmX, GC_1, GC_2, LC_0, LC_1, wrap_succ (n := i) (by omega)]
      exact key _ ha2 _ (Chg.refl _ _) gX _ _
end Go.AM.Rp

namespace Go.AM.Rp
open Go.Proofs

theorem bslR {x : Lg} (h : x.s.t.length = 64) (H : AHeap) : asem (.bslice 72 70 1 Z70 [(0, 70, .agg (LC x).toArray)]) H = some (slc H.n 0 1 1, H.alloc (.cells true false 70 (LC x) 72)) := by
  rw [a_bslice (fl70a h), if_pos ⟨LC_one x, by rw [LC_len h]⟩]

/-- Offer, the document's. -/
theorem t37 {H : AHeap} {s : Nat} {v : Value} {l : List Lg} {a : Nat} {x : Lg} (h : SfV H s v l a) (hx : x.s.t.length = 64) (hl : l.length ≤ 100) (ha : a ≤ 1000) :
    ∃ w H', ARun Try.prog 0 37 [ptr s 0, .agg (LC x).toArray] H w H' ∧ w = .int .i64 (offerR l a x).1 ∧ ∃ v', SfV H' s v' (offerR l a x).2.1 (offerR l a x).2.2 ∧ Chg (s :: blkL v) H H' ∧ ∀ b, blk v' = some b → blk v = some b ∨ H.n ≤ b := by
  refine walk2 f37_ok f37_n ?_
  intro Q hq1 hq2
  have hg := h.g
  have ls := AHeap.get_lt hg
  have lx := LC_len hx
  have hsl := h.sl
  have his := hsl.is
  have hlen := hsl.len
  rw [List.length_map] at hlen
  have hbn : bn v ≤ H.n := AP.bn h.ap
  have hbs := bn_ne h.ne
  have kz := (Keeps.refl H).alloc (.cells true false 70 (LC x) 72)
  have keep : ∀ {X : AHeap}, Keeps H X → ∃ v', SfV X s v' l a ∧ Chg (s :: blkL v) H X ∧ ∀ b, blk v' = some b → blk v = some b ∨ H.n ≤ b := fun k => ⟨v, h.keeps k, k.chg _, fun b hb => .inl hb⟩
  unfold offerR at hq2
  rw [inB2_eq] at hq2
  refine W_cut (fun fr K => Keeps H K ∧ K.get H.n = some (.cells true false 70 (LC x) 72) ∧ ¬ (0 < l.length ∧ cmpL x (lst l) ≤ 0) ∧ (inI x.e && inI x.c) = true ∧ ∃ y4 y5, fr = [ptr s 0, .agg (LC x).toArray, ptr H.n 0, .int .i64 0, y4, y5]) ?_ ?_
  · intro Q2 hm2 he2 hr2
    simp (disch := (first | assumption | omega | (simp only [alloc_n, set_n] <;> omega) | (simp (disch := (first | assumption | omega | (simp only [alloc_n, set_n] <;> omega))) only [row_alloc, row_set]; assumption))) only [f37, W_block, ANs, A3s, AOp.map, ↓reduceIte, Nat.reduceAdd, Nat.reduceEqDiff, reduceCtorEq, initFr, Nat.reduceLT, clsA, List.take, List.drop, Nat.reduceLeDiff, Nat.reduceMul, Nat.reduceSub, reduceIte, ANc, A3c, LC_one, LC_0]
    refine callK (t68 _ x.e) ?_
    rintro _ K ⟨rfl, rfl⟩
    cases e1 : inI x.e
    · simp only [e1, Bool.false_and, if_true] at hq2
      simp (disch := (first | assumption | omega | (simp only [alloc_n, set_n] <;> omega) | (simp (disch := (first | assumption | omega | (simp only [alloc_n, set_n] <;> omega))) only [row_alloc, row_set]; assumption))) only [W_block, ANs, A3s, AOp.map, ↓reduceIte, Nat.reduceAdd, Nat.reduceEqDiff, reduceCtorEq, initFr, Nat.reduceLT, clsA, List.take, List.drop, Nat.reduceLeDiff, Nat.reduceMul, Nat.reduceSub, reduceIte, ANc, A3c]
      exact hr2 _ _ (hq2 _ _ ⟨_, rfl, rfl, keep kz⟩)
    simp (disch := (first | assumption | omega | (simp only [alloc_n, set_n] <;> omega) | (simp (disch := (first | assumption | omega | (simp only [alloc_n, set_n] <;> omega))) only [row_alloc, row_set]; assumption))) only [W_block, ANs, A3s, AOp.map, ↓reduceIte, Nat.reduceAdd, Nat.reduceEqDiff, reduceCtorEq, initFr, Nat.reduceLT, clsA, List.take, List.drop, Nat.reduceLeDiff, Nat.reduceMul, Nat.reduceSub, reduceIte, ANc, A3c, LC_1]
    refine callK (t68 _ x.c) ?_
    rintro _ K ⟨rfl, rfl⟩
    cases e2 : inI x.c
    · simp only [e1, e2, Bool.and_false, if_true] at hq2
      simp (disch := (first | assumption | omega | (simp only [alloc_n, set_n] <;> omega) | (simp (disch := (first | assumption | omega | (simp only [alloc_n, set_n] <;> omega))) only [row_alloc, row_set]; assumption))) only [W_block, ANs, A3s, AOp.map, ↓reduceIte, Nat.reduceAdd, Nat.reduceEqDiff, reduceCtorEq, initFr, Nat.reduceLT, clsA, List.take, List.drop, Nat.reduceLeDiff, Nat.reduceMul, Nat.reduceSub, reduceIte, ANc, A3c]
      exact hr2 _ _ (hq2 _ _ ⟨_, rfl, rfl, keep kz⟩)
    simp only [e1, e2, Bool.and_self, Bool.true_eq_false, if_false] at hq2
    by_cases h0 : 0 < l.length
    case neg =>
      simp (disch := (first | assumption | omega | (simp only [alloc_n, set_n] <;> omega) | (simp (disch := (first | assumption | omega | (simp only [alloc_n, set_n] <;> omega))) only [row_alloc, row_set]; assumption))) only [W_block, ANs, A3s, AOp.map, ↓reduceIte, Nat.reduceAdd, Nat.reduceEqDiff, reduceCtorEq, initFr, Nat.reduceLT, clsA, List.take, List.drop, Nat.reduceLeDiff, Nat.reduceMul, Nat.reduceSub, reduceIte, ANc, A3c, hg, his, hlen]
      exact hm2 _ _ ⟨kz, AHeap.get_alloc_new H _, by omega, by rw [e1, e2]; rfl, _, _, rfl⟩
    obtain ⟨nn, hrow⟩ := hsl.at_ (by omega) (i := l.length - 1) (by simp; omega)
    have hls : lst l = l[l.length - 1] := by unfold lst; rw [List.getD_eq_getElem?_getD, List.getElem?_eq_getElem (by omega)]; rfl
    rw [List.getElem_map, ← hls] at hrow
    have hto : ((l.length : Int) - 1).toNat = l.length - 1 := by omega
    have hsub : IntKind.i64.wrap ((l.length : Int) - 1) = (l.length : Int) - 1 := wrap_i64 (by omega) (by omega)
    simp (disch := (first | assumption | omega | (simp only [alloc_n, set_n] <;> omega) | (simp (disch := (first | assumption | omega | (simp only [alloc_n, set_n] <;> omega))) only [row_alloc, row_set]; assumption))) only [W_block, ANs, A3s, AOp.map, ↓reduceIte, Nat.reduceAdd, Nat.reduceEqDiff, reduceCtorEq, initFr, Nat.reduceLT, clsA, List.take, List.drop, Nat.reduceLeDiff, Nat.reduceMul, Nat.reduceSub, reduceIte, ANc, A3c, hg, his, hlen, hsub, hto]
    refine callK (t69 _ x (lst l)) ?_
    rintro _ K ⟨rfl, kK⟩
    have kk := kz.trans kK
    rw [laterB_eq]
    by_cases hc : cmpL x (lst l) ≤ 0
    · rw [if_pos ⟨h0, hc⟩] at hq2
      simp (disch := (first | assumption | omega | (simp only [alloc_n, set_n] <;> omega) | (simp (disch := (first | assumption | omega | (simp only [alloc_n, set_n] <;> omega))) only [row_alloc, row_set]; assumption))) only [W_block, ANs, A3s, AOp.map, ↓reduceIte, Nat.reduceAdd, Nat.reduceEqDiff, reduceCtorEq, initFr, Nat.reduceLT, clsA, List.take, List.drop, Nat.reduceLeDiff, Nat.reduceMul, Nat.reduceSub, reduceIte, ANc, A3c, hc]
      exact hr2 _ _ (hq2 _ _ ⟨_, rfl, rfl, keep kk⟩)
    · simp (disch := (first | assumption | omega | (simp only [alloc_n, set_n] <;> omega) | (simp (disch := (first | assumption | omega | (simp only [alloc_n, set_n] <;> omega))) only [row_alloc, row_set]; assumption))) only [W_block, ANs, A3s, AOp.map, ↓reduceIte, Nat.reduceAdd, Nat.reduceEqDiff, reduceCtorEq, initFr, Nat.reduceLT, clsA, List.take, List.drop, Nat.reduceLeDiff, Nat.reduceMul, Nat.reduceSub, reduceIte, ANc, A3c, hc]
      exact hm2 _ _ ⟨kk, kK.at_ (AHeap.get_alloc_new H _), fun h => hc h.2, by rw [e1, e2]; rfl, _, _, rfl⟩

  · rintro fr K ⟨kK, gx, hno, hin, y4, y5, rfl⟩
    rw [hin] at hq2
    simp only [Bool.true_eq_false, if_false] at hq2
    rw [if_neg hno] at hq2
    have hK := h.keeps kK
    have gK := hK.g
    have nK := kK.n
    have lK := AHeap.get_lt gK
    have lxK := AHeap.get_lt gx
    simp (disch := (first | assumption | omega | (simp only [alloc_n, set_n] <;> omega) | (simp (disch := (first | assumption | omega | (simp only [alloc_n, set_n] <;> omega))) only [row_alloc, row_set]; assumption))) only [W_block, ANs, A3s, AOp.map, ↓reduceIte, Nat.reduceAdd, Nat.reduceEqDiff, reduceCtorEq, initFr, Nat.reduceLT, clsA, List.take, List.drop, Nat.reduceLeDiff, Nat.reduceMul, Nat.reduceSub, reduceIte, ANc, A3c, gK, gx, bslR hx]
    have kb := (Keeps.refl K).alloc (.cells true false 70 (LC x) 72)
    refine appGD (hK.ap.keeps kb) ⟨_, _, rfl⟩ (elems_new rfl (by rw [lx])) lx (by omega) ?_
    intro v' K2 ap2 c2 hb2
    have hF : FL l ++ LC x = FL (l ++ [x]) := by rw [FL_app]; simp [FL]
    rw [hF] at ap2
    have hk2 : Ok64 (l ++ [x]) := by
      intro y hy
      rcases List.mem_append.1 hy with hy | hy
      · exact h.ok y hy
      · simp at hy; rw [hy]; exact hx
    have gK2 : K2.get s = some (.cells true false 2 [v, .int .i64 ((a : Int) - 1)] 99) := c2.at_ (kb.at_ gK) (by rw [mem_blkL]; exact h.ne)
    have lK2 := AHeap.get_lt gK2
    have hne2 : blk v' ≠ some s := by
      rcases hb2 with e | e
      · rw [e]; exact h.ne
      · rw [e, alloc_n]; intro e; cases e; omega
    obtain ⟨va, hva⟩ := ap2.shape
    have is2 : isS v' = true := by rw [hva]; rfl
    have len2 : lenS v' = l.length + 1 := by rw [hva]; rfl
    have one2 : v'.oneCell' = true := by rw [hva]; rfl
    have cH2 : Chg (s :: blkL v) H K2 := ((kK.trans kb).chg _).trans (c2.mono (T := s :: blkL v) (fun z hz => by simp [hz])) (fun z hz => .inl hz)
    have fr2 : ∀ b, blk v' = some b → blk v = some b ∨ H.n ≤ b := by
      intro b hb
      rcases hb2 with e | e
      · rw [e] at hb; exact .inl hb
      · rw [e, alloc_n] at hb; cases hb; exact .inr (by omega)
    have ap3 := AP.chg1 ap2 (Chg.set K2 lK2 (.cells true false 2 [v', .int .i64 ((a : Int) - 1)] 99)) (bn_ne hne2)
    have gK3 := get1 gK2 (.cells true false 2 [v', .int .i64 ((a : Int) - 1)] 99)
    have cH3 : Chg (s :: blkL v) H (K2.set s (.cells true false 2 [v', .int .i64 ((a : Int) - 1)] 99)) := cH2.set' (.inr (by simp)) lK2 _
    by_cases h8 : 8 < l.length + 1
    · rw [if_pos h8] at hq2
      simp (disch := (first | assumption | omega | (simp only [alloc_n, set_n] <;> omega) | (simp (disch := (first | assumption | omega | (simp only [alloc_n, set_n] <;> omega))) only [row_alloc, row_set]; assumption))) only [W_block, ANs, A3s, AOp.map, ↓reduceIte, Nat.reduceAdd, Nat.reduceEqDiff, reduceCtorEq, initFr, Nat.reduceLT, clsA, List.take, List.drop, Nat.reduceLeDiff, Nat.reduceMul, Nat.reduceSub, reduceIte, ANc, A3c, gK2, is2, len2, one2]
      rcases ap3 with ⟨_, h0, _⟩ | ⟨b, room, rfl, hcl, hgb⟩
      · simp at h0
      have hsl2 : ∀ X : AHeap, X.get b = some (.cells true room 70 (FL (l ++ [x])) 72) → asem (.slsl 70 (slc b 0 (l.length + 1) (l.length + 1)) (some (.int .i64 1)) none none) X = some (slc b (0 + 1 * 70) (l.length + 1 - 1) (l.length + 1 - 1), X) := fun X hX => a_slsl hX (bnd_none _ _) (bnd_none _ _) (bnd_some .i64 1 0 (l.length + 1) (by omega))
      obtain ⟨K3, hK3⟩ : ∃ K3, K3 = K2.set s (.cells true false 2 [slc b 0 (l.length + 1) (l.length + 1), .int .i64 ((a : Int) - 1)] 99) := ⟨_, rfl⟩
      have hgb' : K3.get b = some (.cells true room 70 (FL (l ++ [x])) 72) := by rw [hK3]; exact hgb
      rw [← hK3] at gK3 cH3 ⊢
      have lK3 := AHeap.get_lt gK3
      have n32 : K3.n = K2.n := by rw [hK3]; rfl
      have lb3 := AHeap.get_lt hgb'
      have kE := (Keeps.refl K3).alloc (.cells true false 70 [] 72)
      have hlF : (FL (l ++ [x])).length = (l.length + 1) * 70 := hcl
      have fl0 : fillA [] [] = some [] := rfl
      simp (disch := (first | assumption | omega | (simp only [alloc_n, set_n] <;> omega) | (simp (disch := (first | assumption | omega | (simp only [alloc_n, set_n] <;> omega))) only [row_alloc, row_set]; assumption))) only [W_block, ANs, A3s, AOp.map, ↓reduceIte, Nat.reduceAdd, Nat.reduceEqDiff, reduceCtorEq, initFr, Nat.reduceLT, clsA, List.take, List.drop, Nat.reduceLeDiff, Nat.reduceMul, Nat.reduceSub, reduceIte, ANc, A3c, gK3, fl0, hsl2 (K3.alloc (.cells true false 70 [] 72)) (kE.at_ hgb')]
      have hdr : (FL (l ++ [x])).drop 70 = FL ((l ++ [x]).drop 1) := by
        obtain ⟨y, t, e⟩ : ∃ y t, l ++ [x] = y :: t := by cases l with
          | nil => exact ⟨_, _, rfl⟩
          | cons y t => exact ⟨y, t ++ [x], rfl⟩
        rw [e]
        have := LC_len (hk2 y (by rw [e]; simp))
        show (LC y ++ FL t).drop 70 = FL t
        rw [← this, List.drop_left]
      have hel : elemsA (K3.alloc (.cells true false 70 [] 72)) 70 (slc b (0 + 1 * 70) (l.length + 1 - 1) (l.length + 1 - 1)) = some (FL ((l ++ [x]).drop 1)) := by
        simp only [elemsA, slc, kE.at_ hgb']
        rw [if_pos (by rw [hlF]; omega), Nat.zero_add, Nat.one_mul, hdr, List.take_of_length_le (by rw [← hdr, List.length_drop, hlF]; omega)]
      have hl1 : (FL ((l ++ [x]).drop 1)).length = (l.length + 1 - 1) * 70 := by rw [← hdr, List.length_drop, hlF]; omega
      refine appG (n := 0) (c := []) (.inr ⟨K3.n, false, by rw [hK3]; rfl, rfl, AHeap.get_alloc_new K3 _⟩) ⟨_, _, rfl⟩ hel hl1 (by omega) ?_
      intro w K5 ap5 c5 hb5
      rw [List.nil_append, show 0 + (l.length + 1 - 1) = ((l ++ [x]).drop 1).length by simp] at ap5
      have hne5 : blk w ≠ some s := by
        rcases hb5 with e | e
        · rw [e]; simp [blk, slc]; omega
        · rw [e, alloc_n]; intro e; cases e; omega
      have gs5 : K5.get s = some (.cells true false 2 [slc b 0 (l.length + 1) (l.length + 1), .int .i64 ((a : Int) - 1)] 99) := c5.at_ (kE.at_ gK3) (by simp [mem_blkL, blk, slc]; omega)
      have ls5 := AHeap.get_lt gs5
      obtain ⟨wa, hwa⟩ := ap5.shape
      have one5 : w.oneCell' = true := by rw [hwa]; rfl
      have hs1 : IntKind.i64.wrap ((a : Int) - 1 - 1) = (a : Int) - 1 - 1 := wrap_i64 (by omega) (by omega)
      have hmx : max (-1 : Int) ((a : Int) - 1 - 1) = ((a - 1 : Nat) : Int) - 1 := by omega
      simp (disch := (first | assumption | omega | (simp only [alloc_n, set_n] <;> omega) | (simp (disch := (first | assumption | omega | (simp only [alloc_n, set_n] <;> omega))) only [row_alloc, row_set]; assumption))) only [W_block, ANs, A3s, AOp.map, ↓reduceIte, Nat.reduceAdd, Nat.reduceEqDiff, reduceCtorEq, initFr, Nat.reduceLT, clsA, List.take, List.drop, Nat.reduceLeDiff, Nat.reduceMul, Nat.reduceSub, reduceIte, ANc, A3c, gs5, one5, hs1, hmx]
      have c5H : Chg (s :: blkL v) H K5 := cH3.trans (((kE.chg _).trans (c5.mono (T := [K3.n]) (by intro z hz; simp [mem_blkL, blk, slc] at hz; simp [hz, n32])) (fun z hz => .inl hz))) (fun z hz => by simp at hz; subst hz; right; have := cH3.n; exact this)
      refine hq2 _ _ ⟨_, rfl, rfl, w, ⟨get1 gs5 _, AP.chg1 ap5 (Chg.set K5 ls5 _) (bn_ne hne5), hne5, fun y hy => hk2 y (List.mem_of_mem_drop hy)⟩, c5H.set' (.inr (by simp)) ls5 _, ?_⟩
      intro z hz
      have := cH3.n
      rcases hb5 with e | e
      · rw [e] at hz; simp [blk, slc] at hz; omega
      · rw [e, alloc_n] at hz; cases hz; omega
    · rw [if_neg h8] at hq2
      simp (disch := (first | assumption | omega | (simp only [alloc_n, set_n] <;> omega) | (simp (disch := (first | assumption | omega | (simp only [alloc_n, set_n] <;> omega))) only [row_alloc, row_set]; assumption))) only [W_block, ANs, A3s, AOp.map, ↓reduceIte, Nat.reduceAdd, Nat.reduceEqDiff, reduceCtorEq, initFr, Nat.reduceLT, clsA, List.take, List.drop, Nat.reduceLeDiff, Nat.reduceMul, Nat.reduceSub, reduceIte, ANc, A3c, gK2, is2, len2, one2]
      exact hq2 _ _ ⟨_, rfl, rfl, v', ⟨gK3, by rw [List.length_append]; exact ap3, hne2, hk2⟩, cH3, fr2⟩
end Go.AM.Rp

namespace Go.AM.Rp
open Go.Proofs

/-- Hear, the document's receiver. -/
theorem t40 {H : AHeap} {r : Nat} {x : Option Lg} {m : Msg} {v : Value} (h : RfS H r x) (hx : ∀ y, x = some y → y.s.t.length = 64) (hs : m.s.t.length = 64) (ht : TB H v m.d.l) (hl : m.d.l.length ≤ 100000) :
    ∃ w H', ARun Try.prog 0 40 [ptr r 0, .agg (GC m v).toArray] H w H' ∧ w = .tuple #[.agg (GC (hearR x m).1 (.slice none 0 0)).toArray, .bool (hearR x m).2.1, .int .i64 (hearR x m).2.2.1] ∧ RfS H' r (hearR x m).2.2.2 ∧ Chg [r] H H' := by
  refine walk2 f40_ok f40_n ?_
  intro Q hq1 hq2
  have hg : H.get r = some (.cells true false 71 (RC (x.getD L0) x.isSome) 74) := h
  have lr := AHeap.get_lt hg
  have hx64 : (x.getD L0).s.t.length = 64 := by cases x with
    | none => rfl
    | some y => exact hx y rfl
  have ml := GC_len hs v
  have mo := GC_one m ht.one
  have z78 : Z78.all Value.oneCell' = true := rfl
  have zl : Z78.length = 78 := rfl
  have zl7 : Z70.length = 70 := rfl
  have zl6 : Z68.length = 68 := Z68_len
  have lrc := RC_len hx64 x.isSome
  have kz := ((Keeps.refl H).alloc (.cells true false 78 (GC m v) 38)).alloc (.cells true false 78 Z78 38)
  have gcs : ((GC m v).drop 5).take 68 = SC m.s := by
    show (SC m.s ++ D5 m.d.a m.d.b m.d.c m.d.p v).take 68 = _
    rw [List.take_append_of_le_length (by rw [SC_len hs]; omega), List.take_of_length_le (by rw [SC_len hs]; omega)]
  simp (disch := (first | assumption | omega | (simp only [alloc_n, set_n] <;> omega) | (simp (disch := (first | assumption | omega | (simp only [alloc_n, set_n] <;> omega))) only [row_alloc, row_set]; assumption))) only [f40, W_block, ANs, A3s, AOp.map, ↓reduceIte, Nat.reduceAdd, Nat.reduceEqDiff, reduceCtorEq, initFr, Nat.reduceLT, clsA, List.take, List.drop, Nat.reduceLeDiff, Nat.reduceMul, Nat.reduceSub, reduceIte, ANc, A3c, mo, z78]
  refine callK (t61 (m := m) (v := v) hs (ht.keeps kz) hl) ?_
  rintro _ K ⟨rfl, kK⟩
  have nK := kK.n
  simp only [alloc_n] at nK
  have kk := kz.trans kK
  have gr := kk.at_ hg
  have gm : K.get H.n = some (.cells true false 78 (GC m v) 38) := kK.at_ (by rw [g_old _ (by simp [alloc_n]), g_new _ rfl])
  have gz : K.get (H.n + 1) = some (.cells true false 78 Z78 38) := kK.at_ (g_new _ rfl)
  unfold hearR at hq2
  by_cases hb : mayB m = false ∨ 2 < m.k
  · simp only [hb, if_true] at hq2
    have c := (kk.chg [r]).set' (b := H.n + 1) (.inl (by omega)) (by omega) (.cells true false 78 Z78 38)
    have fin : ∀ fr : List Value, fr.getD 3 undef = ptr (H.n + 1) 0 → fr.getD 4 undef = .bool false → fr.getD 5 undef = .int .i64 2 → Q .ret fr (K.set (H.n + 1) (.cells true false 78 Z78 38)) := fun fr e3 e4 e5 => hq2 _ _ ⟨_, resC3 e3 (full (get1 gz _) zl), by rw [e4, e5, Z78_G], (Chg.set K (by omega) _).at_ gr (by simp; omega), c⟩
    cases hmay : mayB m
    · simp (disch := (first | assumption | omega | (simp only [alloc_n, set_n] <;> omega) | (simp (disch := (first | assumption | omega | (simp only [alloc_n, set_n] <;> omega))) only [row_alloc, row_set]; assumption))) only [W_block, ANs, A3s, AOp.map, ↓reduceIte, Nat.reduceAdd, Nat.reduceEqDiff, reduceCtorEq, initFr, Nat.reduceLT, clsA, List.take, List.drop, Nat.reduceLeDiff, Nat.reduceMul, Nat.reduceSub, reduceIte, ANc, A3c, fl78n, gz, z78]
      exact fin _ rfl rfl rfl
    · have h2 : 2 < m.k := by rcases hb with h | h; rw [hmay] at h; cases h; exact h
      simp (disch := (first | assumption | omega | (simp only [alloc_n, set_n] <;> omega) | (simp (disch := (first | assumption | omega | (simp only [alloc_n, set_n] <;> omega))) only [row_alloc, row_set]; assumption))) only [W_block, ANs, A3s, AOp.map, ↓reduceIte, Nat.reduceAdd, Nat.reduceEqDiff, reduceCtorEq, initFr, Nat.reduceLT, clsA, List.take, List.drop, Nat.reduceLeDiff, Nat.reduceMul, Nat.reduceSub, reduceIte, ANc, A3c, fl78n, gz, gm, GC_0, z78]
      exact fin _ rfl rfl rfl
  simp only [hb, if_false] at hq2
  have hmay : mayB m = true := by cases hm : mayB m; exact absurd (.inl hm) hb; rfl
  have h2 : ¬ 2 < m.k := fun h => hb (.inr h)
  have hk1 : 1 ≤ m.k := by unfold mayB at hmay; simp at hmay; omega
  have ly := LC_len (x := ⟨m.e, m.c, m.s⟩) hs
  have oy := LC_one ⟨m.e, m.c, m.s⟩
  have lack : ∀ e c : Int, (GC { G0 with k := 3, e := e, c := c } (.slice none 0 0)).length = 78 := fun e c => G_len _ rfl _
  have oack : ∀ e c : Int, (GC { G0 with k := 3, e := e, c := c } (.slice none 0 0)).all Value.oneCell' = true := fun e c => GC_one _ rfl
  have lneed : (GC needM (.slice none 0 0)).length = 78 := G_len _ rfl _
  have oneed : (GC needM (.slice none 0 0)).all Value.oneCell' = true := GC_one _ rfl
  have endA : ∀ (X : AHeap) (y : Option Lg) (a : Msg) (f : Bool), Chg [r] H X → X.get r = some (.cells true false 71 (RC (y.getD L0) y.isSome) 74) → X.get (H.n + 1) = some (.cells true false 78 Z78 38) → a.s = S0 →
      (∀ fr : List Value, fr.getD 3 undef = ptr (H.n + 1) 0 → fr.getD 4 undef = .bool f → fr.getD 5 undef = .int .i64 0 → ∃ w, resO f40.res fr (X.set (H.n + 1) (.cells true false 78 (GC a (.slice none 0 0)) 38)) = some w ∧ w = .tuple #[.agg (GC a (.slice none 0 0)).toArray, .bool f, .int .i64 0] ∧ RfS (X.set (H.n + 1) (.cells true false 78 (GC a (.slice none 0 0)) 38)) r y ∧ Chg [r] H (X.set (H.n + 1) (.cells true false 78 (GC a (.slice none 0 0)) 38))) :=
    fun X y a f c g1 g2 ha fr e3 e4 e5 => ⟨_, resC3 e3 (full (get1 g2 _) (G_len a ha _)), by rw [e4, e5], (Chg.set X (AHeap.get_lt g2) _).at_ g1 (by simp; omega), c.set' (.inl (by omega)) (AHeap.get_lt g2) _⟩
  simp (disch := (first | assumption | omega | (simp only [alloc_n, set_n] <;> omega) | (simp (disch := (first | assumption | omega | (simp only [alloc_n, set_n] <;> omega))) only [row_alloc, row_set]; assumption))) only [W_block, ANs, A3s, AOp.map, ↓reduceIte, Nat.reduceAdd, Nat.reduceEqDiff, reduceCtorEq, initFr, Nat.reduceLT, clsA, List.take, List.drop, Nat.reduceLeDiff, Nat.reduceMul, Nat.reduceSub, reduceIte, ANc, A3c, hmay, gm, GC_0, GC_1, GC_2, gcs, z70, fl70s m.e m.c hs, oy, gr, RC_70 hx64]
  have fin2 : ∀ (X : AHeap) (y : Lg) (fr : List Value), y.s.t.length = 64 → Chg [r] H X → X.get r = some (.cells true false 71 (RC y true) 74) → X.get (H.n + 1) = some (.cells true false 78 Z78 38) → fr.getD 0 undef = ptr r 0 → fr.getD 3 undef = ptr (H.n + 1) 0 → 5 < fr.length →
      (∀ fr2 X2, (∃ w, resO f40.res fr2 X2 = some w ∧ w = .tuple #[.agg (GC (ackM y) (.slice none 0 0)).toArray, .bool true, .int .i64 0] ∧ RfS X2 r (some y) ∧ Chg [r] H X2) → Q .ret fr2 X2) →
      W Try.prog 0 (.seq (.reg [⟨.mov (.fr 0), .tm, none⟩, ⟨.callf 70 [(.tm 0)], .tm, none⟩, ⟨.storen 78 (.fr 3) (.tm 0), .no, none⟩, ⟨.mov (.c (.bool true)), .fr 4, none⟩, ⟨.mov (.c (.int .i64 0)), .fr 5, none⟩]) .ret) Q fr X := by
    intro X y fr hy c g1 g2 e0 e3 hfl hq
    have lX := AHeap.get_lt g2
    simp (disch := (first | assumption | omega | (simp only [alloc_n, set_n] <;> omega) | (simp (disch := (first | assumption | omega | (simp only [alloc_n, set_n] <;> omega))) only [row_alloc, row_set]; assumption))) only [W_block, ANs, A3s, AOp.map, ↓reduceIte, Nat.reduceAdd, Nat.reduceEqDiff, reduceCtorEq, initFr, Nat.reduceLT, clsA, List.take, List.drop, Nat.reduceLeDiff, Nat.reduceMul, Nat.reduceSub, reduceIte, ANc, A3c, e0]
    refine callK (t70 g1) ?_
    rintro _ X2 ⟨rfl, k2⟩
    have g12 := k2.at_ g1
    have g22 := k2.at_ g2
    have la := lack y.e y.c
    have oa := oack y.e y.c
    unfold ackM at hq ⊢
    simp (disch := (first | assumption | omega | (simp only [alloc_n, set_n] <;> omega) | (simp (disch := (first | assumption | omega | (simp only [alloc_n, set_n] <;> omega))) only [row_alloc, row_set]; assumption))) only [W_block, ANs, A3s, AOp.map, ↓reduceIte, Nat.reduceAdd, Nat.reduceEqDiff, reduceCtorEq, initFr, Nat.reduceLT, clsA, List.take, List.drop, Nat.reduceLeDiff, Nat.reduceMul, Nat.reduceSub, reduceIte, ANc, A3c, e3, g22, oa]
    have n1 := c.n
    refine hq _ _ ⟨_, resC3 (b := H.n + 1) ?_ (full (get1 g22 _) la), ?_, (Chg.set X2 (AHeap.get_lt g22) _).at_ g12 (by simp; omega), (Chg.keeps' k2 c).set' (.inl (by omega)) (AHeap.get_lt g22) _⟩
    · rw [← e3]; simp [List.getD_eq_getElem?_getD, List.getElem?_set]
    · simp [List.getD_eq_getElem?_getD, List.getElem?_set, hfl, show 4 < fr.length by omega]
  have setY : ∀ (X : AHeap) (x0 : Lg) (b : Bool) (y : Lg), Chg [r] H X → X.get r = some (.cells true false 71 (RC x0 b) 74) → X.get (H.n + 1) = some (.cells true false 78 Z78 38) →
      Chg [r] H (X.set r (.cells true false 71 (RC y true) 74)) ∧ (X.set r (.cells true false 71 (RC y true) 74)).get r = some (.cells true false 71 (RC y true) 74) ∧ (X.set r (.cells true false 71 (RC y true) 74)).get (H.n + 1) = some (.cells true false 78 Z78 38) :=
    fun X x0 b y c g1 g2 => ⟨c.set' (.inr (by simp)) (AHeap.get_lt g1) _, get1 g1 _, (Chg.set X (AHeap.get_lt g1) _).at_ g2 (by simp; omega)⟩
  have kY := (Keeps.refl K).alloc (.cells true false 70 (LC ⟨m.e, m.c, m.s⟩) 72)
  have cY : Chg [r] H (K.alloc (.cells true false 70 (LC ⟨m.e, m.c, m.s⟩) 72)) := (kk.trans kY).chg _
  cases x with
  | none =>
    simp only [Option.getD_none, Option.isSome_none] at gr hg ⊢
    have lrn : (RC L0 false).length = 71 := RC_len rfl false
    by_cases hk : m.k = 1
    · simp only [hk, if_true] at hq2
      have lry : (RC ⟨m.e, m.c, m.s⟩ false).length = 71 := RC_len hs false
      obtain ⟨p1, p2, p3⟩ := setY _ _ _ ⟨m.e, m.c, m.s⟩ cY (kY.at_ gr) (kY.at_ gz)
      rw [set_old _ _ (by omega)] at p1 p2 p3
      simp (disch := (first | assumption | omega | (simp only [alloc_n, set_n] <;> omega) | (simp (disch := (first | assumption | omega | (simp only [alloc_n, set_n] <;> omega))) only [row_alloc, row_set]; assumption))) only [W_block, ANs, A3s, AOp.map, ↓reduceIte, Nat.reduceAdd, Nat.reduceEqDiff, reduceCtorEq, initFr, Nat.reduceLT, clsA, List.take, List.drop, Nat.reduceLeDiff, Nat.reduceMul, Nat.reduceSub, reduceIte, ANc, A3c, gr, gm, gz, GC_0, RC_70 (x := L0) rfl, RC_upd (x := L0) rfl, RC_set70 (x := ⟨m.e, m.c, m.s⟩) hs, oy]
      have := fin2 _ ⟨m.e, m.c, m.s⟩ [ptr r 0, .agg (GC m v).toArray, ptr H.n 0, ptr (H.n + 1) 0, .bool false, .int .i64 0, ptr K.n 0, undef, .bool false, .bool false, .bool false, undef] hs p1 p2 p3 rfl rfl (by simp) hq2
      simp (disch := (first | assumption | omega | (simp only [alloc_n, set_n] <;> omega) | (simp (disch := (first | assumption | omega | (simp only [alloc_n, set_n] <;> omega))) only [row_alloc, row_set]; assumption))) only [W_block, ANs, A3s, AOp.map, ↓reduceIte, Nat.reduceAdd, Nat.reduceEqDiff, reduceCtorEq, initFr, Nat.reduceLT, clsA, List.take, List.drop, Nat.reduceLeDiff, Nat.reduceMul, Nat.reduceSub, reduceIte, ANc, A3c] at this
      exact this
    · simp only [hk, if_false] at hq2
      simp (disch := (first | assumption | omega | (simp only [alloc_n, set_n] <;> omega) | (simp (disch := (first | assumption | omega | (simp only [alloc_n, set_n] <;> omega))) only [row_alloc, row_set]; assumption))) only [W_block, ANs, A3s, AOp.map, ↓reduceIte, Nat.reduceAdd, Nat.reduceEqDiff, reduceCtorEq, initFr, Nat.reduceLT, clsA, List.take, List.drop, Nat.reduceLeDiff, Nat.reduceMul, Nat.reduceSub, reduceIte, ANc, A3c, gr, gm, gz, GC_0, RC_70 (x := L0) rfl, flN, oneed]
      obtain ⟨w, e1, e2, e3, e4⟩ := endA _ none needM false cY (kY.at_ gr) (kY.at_ gz) rfl [ptr r 0, .agg (GC m v).toArray, ptr H.n 0, ptr (H.n + 1) 0, .bool false, .int .i64 0, ptr K.n 0, undef, .bool false, .bool false, .bool true, .bool true] rfl rfl rfl
      rw [set_old _ _ (by omega)] at e1 e3 e4
      exact hq2 _ _ ⟨w, e1, e2, e3, e4⟩
  | some x0 =>
    have h064 : x0.s.t.length = 64 := hx64
    simp only [Option.getD_some, Option.isSome_some] at gr hg ⊢
    have lrn : (RC x0 true).length = 71 := RC_len h064 true
    have rr70 := RC_70 h064 true
    have grY := kY.at_ gr
    have gmY := kY.at_ gm
    have gzY := kY.at_ gz
    have gyY := AHeap.get_alloc_new K (.cells true false 70 (LC ⟨m.e, m.c, m.s⟩) 72)
    generalize hX : K.alloc (.cells true false 70 (LC ⟨m.e, m.c, m.s⟩) 72) = X at *
    simp (disch := (first | assumption | omega | (simp only [alloc_n, set_n] <;> omega) | (simp (disch := (first | assumption | omega | (simp only [alloc_n, set_n] <;> omega))) only [row_alloc, row_set]; assumption))) only [W_block, ANs, A3s, AOp.map, ↓reduceIte, Nat.reduceAdd, Nat.reduceEqDiff, reduceCtorEq, initFr, Nat.reduceLT, clsA, List.take, List.drop, Nat.reduceLeDiff, Nat.reduceMul, Nat.reduceSub, reduceIte, ANc, A3c, grY, gmY, gzY, gyY, rr70, RC_x h064]
    refine callK (t69 _ ⟨m.e, m.c, m.s⟩ x0) ?_
    rintro _ X2 ⟨rfl, k2⟩
    have gr2 := k2.at_ grY
    have gm2 := k2.at_ gmY
    have gz2 := k2.at_ gzY
    have gy2 := k2.at_ gyY
    have c2 := Chg.keeps' k2 cY
    have n2 := c2.n
    have lyy := AHeap.get_lt gy2
    have lzz := AHeap.get_lt gz2
    have lmm := AHeap.get_lt gm2
    rw [laterB_eq]
    by_cases hc : cmpL ⟨m.e, m.c, m.s⟩ x0 ≤ 0
    · simp only [hc, if_true] at hq2
      simp (disch := (first | assumption | omega | (simp only [alloc_n, set_n] <;> omega) | (simp (disch := (first | assumption | omega | (simp only [alloc_n, set_n] <;> omega))) only [row_alloc, row_set]; assumption))) only [W_block, ANs, A3s, AOp.map, ↓reduceIte, Nat.reduceAdd, Nat.reduceEqDiff, reduceCtorEq, initFr, Nat.reduceLT, clsA, List.take, List.drop, Nat.reduceLeDiff, Nat.reduceMul, Nat.reduceSub, reduceIte, ANc, A3c, hc]
      refine callK (t70 gr2) ?_
      rintro _ X3 ⟨rfl, k3⟩
      have gz3 := k3.at_ gz2
      have la := lack x0.e x0.c
      have oa := oack x0.e x0.c
      obtain ⟨w, e1, e2, e3, e4⟩ := endA X3 (some x0) (ackM x0) false (Chg.keeps' k3 c2) (k3.at_ gr2) gz3 rfl [ptr r 0, .agg (GC m v).toArray, ptr H.n 0, ptr (H.n + 1) 0, .bool false, .int .i64 0, ptr K.n 0, undef, .bool false, .bool true, undef, undef] rfl rfl rfl
      unfold ackM at e1 e2 e3 e4 hq2 ⊢
      simp (disch := (first | assumption | omega | (simp only [alloc_n, set_n] <;> omega) | (simp (disch := (first | assumption | omega | (simp only [alloc_n, set_n] <;> omega))) only [row_alloc, row_set]; assumption))) only [W_block, ANs, A3s, AOp.map, ↓reduceIte, Nat.reduceAdd, Nat.reduceEqDiff, reduceCtorEq, initFr, Nat.reduceLT, clsA, List.take, List.drop, Nat.reduceLeDiff, Nat.reduceMul, Nat.reduceSub, reduceIte, ANc, A3c, gz3, oa]
      exact hq2 _ _ ⟨w, e1, e2, e3, e4⟩
    simp only [hc, if_false] at hq2
    by_cases hk : m.k = 1
    · simp only [hk, if_true] at hq2
      have lry : (RC ⟨m.e, m.c, m.s⟩ true).length = 71 := RC_len hs true
      obtain ⟨p1, p2, p3⟩ := setY X2 x0 true ⟨m.e, m.c, m.s⟩ c2 gr2 gz2
      simp (disch := (first | assumption | omega | (simp only [alloc_n, set_n] <;> omega) | (simp (disch := (first | assumption | omega | (simp only [alloc_n, set_n] <;> omega))) only [row_alloc, row_set]; assumption))) only [W_block, ANs, A3s, AOp.map, ↓reduceIte, Nat.reduceAdd, Nat.reduceEqDiff, reduceCtorEq, initFr, Nat.reduceLT, clsA, List.take, List.drop, Nat.reduceLeDiff, Nat.reduceMul, Nat.reduceSub, reduceIte, ANc, A3c, hc, gr2, gm2, gz2, gy2, GC_0, RC_upd h064, RC_set70 (x := ⟨m.e, m.c, m.s⟩) hs, oy]
      have := fin2 _ ⟨m.e, m.c, m.s⟩ [ptr r 0, .agg (GC m v).toArray, ptr H.n 0, ptr (H.n + 1) 0, .bool false, .int .i64 0, ptr K.n 0, undef, .bool false, .bool false, .bool false, undef] hs p1 p2 p3 rfl rfl (by simp) hq2
      simp (disch := (first | assumption | omega | (simp only [alloc_n, set_n] <;> omega) | (simp (disch := (first | assumption | omega | (simp only [alloc_n, set_n] <;> omega))) only [row_alloc, row_set]; assumption))) only [W_block, ANs, A3s, AOp.map, ↓reduceIte, Nat.reduceAdd, Nat.reduceEqDiff, reduceCtorEq, initFr, Nat.reduceLT, clsA, List.take, List.drop, Nat.reduceLeDiff, Nat.reduceMul, Nat.reduceSub, reduceIte, ANc, A3c] at this
      exact this
    simp only [hk, if_false] at hq2
    have hk2 : m.k = 2 := by omega
    by_cases hd : cmpL ⟨m.be, m.b, S0⟩ x0 = 0
    case neg =>
      simp only [ne_eq, hd, not_false_eq_true, if_true] at hq2
      have hd' : ¬ (m.be = x0.e ∧ m.b = x0.c) := fun h => hd (cmpL_eq.2 h)
      by_cases h1 : m.be = x0.e
      · have h2 : ¬ m.b = x0.c := fun h2 => hd' ⟨h1, h2⟩
        simp (disch := (first | assumption | omega | (simp only [alloc_n, set_n] <;> omega) | (simp (disch := (first | assumption | omega | (simp only [alloc_n, set_n] <;> omega))) only [row_alloc, row_set]; assumption))) only [W_block, ANs, A3s, AOp.map, ↓reduceIte, Nat.reduceAdd, Nat.reduceEqDiff, reduceCtorEq, initFr, Nat.reduceLT, clsA, List.take, List.drop, Nat.reduceLeDiff, Nat.reduceMul, Nat.reduceSub, reduceIte, ANc, A3c, hc, gr2, gm2, gz2, gy2, GC_0, GC_3, GC_4, rr70, RC_0, RC_1, flN, oneed]
        obtain ⟨w, e1, e2, e3, e4⟩ := endA X2 (some x0) needM false c2 gr2 gz2 rfl [ptr r 0, .agg (GC m v).toArray, ptr H.n 0, ptr (H.n + 1) 0, .bool false, .int .i64 0, ptr K.n 0, undef, .bool false, .bool false, .bool true, .bool true] rfl rfl rfl
        exact hq2 _ _ ⟨w, e1, e2, e3, e4⟩
      · simp (disch := (first | assumption | omega | (simp only [alloc_n, set_n] <;> omega) | (simp (disch := (first | assumption | omega | (simp only [alloc_n, set_n] <;> omega))) only [row_alloc, row_set]; assumption))) only [W_block, ANs, A3s, AOp.map, ↓reduceIte, Nat.reduceAdd, Nat.reduceEqDiff, reduceCtorEq, initFr, Nat.reduceLT, clsA, List.take, List.drop, Nat.reduceLeDiff, Nat.reduceMul, Nat.reduceSub, reduceIte, ANc, A3c, hc, gr2, gm2, gz2, gy2, GC_0, GC_3, GC_4, rr70, RC_0, RC_1, flN, oneed]
        obtain ⟨w, e1, e2, e3, e4⟩ := endA X2 (some x0) needM false c2 gr2 gz2 rfl [ptr r 0, .agg (GC m v).toArray, ptr H.n 0, ptr (H.n + 1) 0, .bool false, .int .i64 0, ptr K.n 0, undef, .bool false, .bool false, .bool true, .bool true] rfl rfl rfl
        exact hq2 _ _ ⟨w, e1, e2, e3, e4⟩
    simp only [ne_eq, hd, not_true_eq_false, if_false] at hq2
    obtain ⟨h1, h2⟩ := cmpL_eq.1 hd
    simp only at h1 h2
    simp (disch := (first | assumption | omega | (simp only [alloc_n, set_n] <;> omega) | (simp (disch := (first | assumption | omega | (simp only [alloc_n, set_n] <;> omega))) only [row_alloc, row_set]; assumption))) only [W_block, ANs, A3s, AOp.map, ↓reduceIte, Nat.reduceAdd, Nat.reduceEqDiff, reduceCtorEq, initFr, Nat.reduceLT, clsA, List.take, List.drop, Nat.reduceLeDiff, Nat.reduceMul, Nat.reduceSub, reduceIte, ANc, A3c, hc, gr2, gm2, gz2, gy2, GC_0, GC_3, GC_4, rr70, RC_0, RC_1, RC_s h064]
    have kH2 : Keeps H X2 := kk.trans (kY.trans k2)
    refine callK (t11g (pre m hs) (s := x0.s) (d := m.d) h064 (ht.keeps kH2) hl) ?_
    rintro _ X3 ⟨rfl, k3⟩
    have pl := patchR_len h064 m.d
    generalize (patchR x0.s m.d).2 = s' at *
    generalize (patchR x0.s m.d).1 = e' at *
    have gr3 := k3.at_ gr2
    have gz3 := k3.at_ gz2
    have gy3 := k3.at_ gy2
    have n3 := k3.n
    have l68 := SC_len pl
    have lru : (LC ⟨m.e, m.c, m.s⟩).take 2 ++ SC s' ++ (LC ⟨m.e, m.c, m.s⟩).drop 70 = LC ⟨m.e, m.c, s'⟩ := by
      show [.int .i64 m.e, .int .i64 m.c] ++ SC s' ++ (SC m.s).drop 68 = _
      rw [List.drop_of_length_le (by rw [SC_len hs]; omega), List.append_nil]; rfl
    have lys : (LC ⟨m.e, m.c, s'⟩).length = 70 := LC_len (x := ⟨m.e, m.c, s'⟩) pl
    have lry : (RC ⟨m.e, m.c, s'⟩ true).length = 71 := RC_len (x := ⟨m.e, m.c, s'⟩) pl true
    have z68 : Z68.all Value.oneCell' = true := rfl
    have k3' := (Keeps.refl X3).alloc (.cells true false 68 (SC s') 26)
    have c3 : Chg [r] H (X3.alloc (.cells true false 68 (SC s') 26)) := Chg.keeps' k3' (Chg.keeps' k3 c2)
    simp (disch := (first | assumption | omega | (simp only [alloc_n, set_n] <;> omega) | (simp (disch := (first | assumption | omega | (simp only [alloc_n, set_n] <;> omega))) only [row_alloc, row_set]; assumption))) only [W_block, ANs, A3s, AOp.map, ↓reduceIte, Nat.reduceAdd, Nat.reduceEqDiff, reduceCtorEq, initFr, Nat.reduceLT, clsA, List.take, List.drop, Nat.reduceLeDiff, Nat.reduceMul, Nat.reduceSub, reduceIte, ANc, A3c, z68, SC_one, gy3, lru, gr3, gz3, RC_upd h064, RC_set70 (x := ⟨m.e, m.c, s'⟩) pl, LC_one]
    have lr3 := AHeap.get_lt gr3
    have c4 := (Chg.keeps' k3 c2).set' (b := K.n) (.inl (by omega)) (by omega) (.cells true false 70 (LC ⟨m.e, m.c, s'⟩) 72)
    have dX := Chg.set X3 (b := K.n) (by omega) (.cells true false 70 (LC ⟨m.e, m.c, s'⟩) 72)
    obtain ⟨p1, p2, p3⟩ := setY _ x0 true ⟨m.e, m.c, s'⟩ c4 (dX.at_ gr3 (by simp; omega)) (dX.at_ gz3 (by simp; omega))
    have kZ := (Keeps.refl ((X3.set K.n (.cells true false 70 (LC ⟨m.e, m.c, s'⟩) 72)).set r (.cells true false 71 (RC ⟨m.e, m.c, s'⟩ true) 74))).alloc (.cells true false 68 (SC s') 26)
    have := fin2 _ ⟨m.e, m.c, s'⟩ [ptr r 0, .agg (GC m v).toArray, ptr H.n 0, ptr (H.n + 1) 0, .bool false, .int .i64 0, ptr K.n 0, ptr X3.n 0, .bool false, .bool false, .bool true, .bool false] pl (Chg.keeps' kZ p1) (kZ.at_ p2) (kZ.at_ p3) rfl rfl (by simp) hq2
    simp (disch := (first | assumption | omega | (simp only [alloc_n, set_n] <;> omega) | (simp (disch := (first | assumption | omega | (simp only [alloc_n, set_n] <;> omega))) only [row_alloc, row_set]; assumption))) only [W_block, ANs, A3s, AOp.map, ↓reduceIte, Nat.reduceAdd, Nat.reduceEqDiff, reduceCtorEq, initFr, Nat.reduceLT, clsA, List.take, List.drop, Nat.reduceLeDiff, Nat.reduceMul, Nat.reduceSub, reduceIte, ANc, A3c] at this
    exact this
end Go.AM.Rp
