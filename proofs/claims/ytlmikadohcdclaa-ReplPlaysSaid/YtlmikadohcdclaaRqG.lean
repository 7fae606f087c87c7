/- Part of the proof. -/
import Derived.Test.YtlmikadohcdclaaRqA
import Derived.Test.YtlmikadohcdclaaAmS
set_option linter.unusedSimpArgs false
set_option linter.unusedVariables false
namespace Go.AM.Rp
open Go.Proofs

/-! ### Messages with any head -/
structure Pre where
  l : List Value
  len : l.length = 73
  one : l.all Value.oneCell' = true
def MP (p : Pre) (d : D) (v : Value) : List Value := p.l ++ [.int .u64 d.a, .int .u64 d.b, .int .u64 d.c, .int .u32 d.p, v]
theorem MP_at (p : Pre) (d : D) (v : Value) (k : Nat) : (MP p d v)[73 + k]? = ([.int .u64 d.a, .int .u64 d.b, .int .u64 d.c, .int .u32 d.p, v] : List Value)[k]? := by
  rw [MP, List.getElem?_append_right (by rw [p.len]; omega), p.len, Nat.add_sub_cancel_left]
theorem n73 (p : Pre) (d : D) (v : Value) : (MP p d v)[73]? = some (.int .u64 d.a) := MP_at p d v 0
theorem n74 (p : Pre) (d : D) (v : Value) : (MP p d v)[74]? = some (.int .u64 d.b) := MP_at p d v 1
theorem n75 (p : Pre) (d : D) (v : Value) : (MP p d v)[75]? = some (.int .u64 d.c) := MP_at p d v 2
theorem n76 (p : Pre) (d : D) (v : Value) : (MP p d v)[76]? = some (.int .u32 d.p) := MP_at p d v 3
theorem n77 (p : Pre) (d : D) (v : Value) : (MP p d v)[77]? = some v := MP_at p d v 4
theorem MP_len (p : Pre) (d : D) (v : Value) : (MP p d v).length = 78 := by rw [MP, List.length_append, p.len]; rfl
theorem MP_one (p : Pre) (d : D) {v : Value} (h : v.oneCell' = true) : (MP p d v).all Value.oneCell' = true := by
  simp only [MP, List.all_append, p.one, List.all_cons, one_int, h, List.all_nil]; rfl
theorem MP_set (p : Pre) (d : D) (v : Value) (k : Nat) (x : Value) : (MP p d v).set (73 + k) x = p.l ++ ([.int .u64 d.a, .int .u64 d.b, .int .u64 d.c, .int .u32 d.p, v] : List Value).set k x := by
  rw [MP, List.set_append_right _ _ (by rw [p.len]; omega), p.len, Nat.add_sub_cancel_left]
theorem MP_set73 (p : Pre) (d : D) (v : Value) (n : Nat) : (MP p d v).set 73 (.int .u64 n) = MP p { d with a := n } v := MP_set p d v 0 _
theorem MP_set74 (p : Pre) (d : D) (v : Value) (n : Nat) : (MP p d v).set 74 (.int .u64 n) = MP p { d with b := n } v := MP_set p d v 1 _
theorem MP_set75 (p : Pre) (d : D) (v : Value) (n : Nat) : (MP p d v).set 75 (.int .u64 n) = MP p { d with c := n } v := MP_set p d v 2 _
theorem MP_set76 (p : Pre) (d : D) (v : Value) (n : Nat) : (MP p d v).set 76 (.int .u32 n) = MP p { d with p := n } v := MP_set p d v 3 _
theorem MP_set77 (p : Pre) (d : D) (v w : Value) : (MP p d v).set 77 w = MP p d w := MP_set p d v 4 w
theorem MP_l (p : Pre) (a b c q : Nat) (l : List (Int × Int)) (v : Value) : MP p ⟨a, b, c, q, l⟩ v = MP p ⟨a, b, c, q, []⟩ v := rfl
def Mz (p : Pre) : List Value := MP p ⟨0, 0, 0, 0, []⟩ (.slice none 0 0)
def pre (m : Msg) (h : m.s.t.length = 64) : Pre := ⟨.int .u8 m.k :: .int .i64 m.e :: .int .i64 m.c :: .int .i64 m.be :: .int .i64 m.b :: SC m.s, by simp [SC_len h], by simp only [List.all_cons, SC_one, one_int]; rfl⟩
theorem GC_MP (m : Msg) (h : m.s.t.length = 64) (v : Value) : GC m v = MP (pre m h) m.d v := rfl

/-- Patch, the document's. -/
theorem t11g (p : Pre) {H : AHeap} {s : S} {d : D} {v : Value} (hs : s.t.length = 64) (h : TB H v d.l) (hl : d.l.length ≤ 100000) : ∃ r H', ARun Try.prog 0 11 [.agg (SC s).toArray, .agg (MP p d v).toArray] H r H' ∧ r = .tuple #[.agg (SC (patchR s d).2).toArray, .int .i64 (patchR s d).1] ∧ Keeps H H' := by
  refine walk2 f11_ok f11_n ?_
  intro Q hq1 hq2
  have hc5 : (Value.agg (MP p d v).toArray).cells.toList = MP p d v := by simp [Value.cells]
  have hc68 : (Value.agg (SC s).toArray).cells.toList = SC s := by simp [Value.cells]
  obtain ⟨Ha, hHa⟩ : ∃ X, X = H.alloc (.cells true false 68 (SC s) 26) := ⟨_, rfl⟩
  have ka := (Keeps.refl H).alloc (.cells true false 68 (SC s) 26)
  have ga := AHeap.get_alloc_new H (.cells true false 68 (SC s) 26)
  rw [← hHa] at ka ga
  have na : Ha.n = H.n + 1 := by rw [hHa]; rfl
  obtain ⟨Hb, hHb⟩ : ∃ X, X = Ha.alloc (.cells true false 78 (MP p d v) 38) := ⟨_, rfl⟩
  have kb := (Keeps.refl Ha).alloc (.cells true false 78 (MP p d v) 38)
  have gb := AHeap.get_alloc_new Ha (.cells true false 78 (MP p d v) 38)
  rw [← hHb] at kb gb
  have nb : Hb.n = H.n + 2 := by rw [hHb, alloc_n, na]
  obtain ⟨Hc, hHc⟩ : ∃ X, X = Hb.alloc (.cells true false 68 Z68 26) := ⟨_, rfl⟩
  have kc := (Keeps.refl Hb).alloc (.cells true false 68 Z68 26)
  have gc := AHeap.get_alloc_new Hb (.cells true false 68 Z68 26)
  rw [← hHc] at kc gc
  have nc : Hc.n = H.n + 3 := by rw [hHc, alloc_n, nb]
  have ga := kc.at_ (kb.at_ ga)
  have gb := kc.at_ gb
  have kAll := (ka.trans kb).trans kc
  have z68 : Z68.all Value.oneCell' = true := rfl
  simp only [f11, W_block, ANs, AOp.map, ↓reduceIte, Nat.reduceAdd, Nat.reduceEqDiff, reduceCtorEq, initFr, Nat.reduceLT, ANc, hc68, SC_one, hc5, MP_one p d h.one, ← hHa, ← hHb, ← hHc, z68, cellA_of gb, n73, n74, n75, n76, n77]
  obtain ⟨_, H1, r1, rfl, rfl⟩ := t32 (h.keeps kAll) hl
  have k1 := Keeps.refl H1
  refine ⟨_, _, r1, ?_⟩
  unfold patchR at hq1 hq2
  clear hq1
  have ga1 := k1.at_ ga
  have gb1 := k1.at_ gb
  have gc1 := k1.at_ gc
  have n1 := k1.n
  cases hr : riseF (-1) d.l
  · simp only [hr, Bool.false_eq_true, if_false] at hq2
    have st : asem (.storen 68 (ptr Hb.n 0) (.agg Z68.toArray)) H1 = _ := stAll gc1 rfl rfl z68
    simp only [W_block, ANs, AOp.map, ↓reduceIte, Nat.reduceAdd, Nat.reduceEqDiff, reduceCtorEq, initFr, Nat.reduceLT, ANc, fillA, st]
    refine hq2 _ _ ⟨_, resCn 68 5 4 (b := Hb.n) (cs := Z68) rfl (full (get1 gc1 _) rfl), rfl, (kAll.trans k1).chg_trans (Chg.set H1 (AHeap.get_lt gc1) _) (by simp; omega)⟩
  · simp only [hr, if_true] at hq2
    have dc : ∀ X k, cellA (H1.set H.n X) Ha.n k = (MP p d v)[k]? := fun X k => cellA_of ((Chg.set H1 (b := H.n) (AHeap.get_lt ga1) X).at_ gb1 (by simp; omega))
    have s0 : cellA H1 H.n 0 = some (.int .u64 s.a) := by rw [cellA_of ga1]; rfl
    have e1 : asem (.store1 (ptr H.n 0) (.int .u64 (xr 64 s.a d.a))) H1 = some (undef, H1.set H.n (.cells true false 68 (SC { s with a := xr 64 s.a d.a }) 26)) := a_st68 ga1 hs (by omega) rfl
    have e2 : asem (.store1 (ptr H.n 1) (.int .u64 (xr 64 s.b d.b))) (H1.set H.n (.cells true false 68 (SC { s with a := xr 64 s.a d.a }) 26)) = some (undef, H1.set H.n (.cells true false 68 (SC { s with a := xr 64 s.a d.a, b := xr 64 s.b d.b }) 26)) := by
      have := a_st68 (e := 26) (s := { s with a := xr 64 s.a d.a }) (get1 ga1 _) hs (o := 1) (by omega) (x := .int .u64 (xr 64 s.b d.b)) rfl
      rw [set2] at this; exact this
    have e3 : asem (.store1 (ptr H.n 2) (.int .u64 (xr 64 s.c d.c))) (H1.set H.n (.cells true false 68 (SC { s with a := xr 64 s.a d.a, b := xr 64 s.b d.b }) 26)) = some (undef, H1.set H.n (.cells true false 68 (SC { s with a := xr 64 s.a d.a, b := xr 64 s.b d.b, c := xr 64 s.c d.c }) 26)) := by
      have := a_st68 (e := 26) (s := { s with a := xr 64 s.a d.a, b := xr 64 s.b d.b }) (get1 ga1 _) hs (o := 2) (by omega) (x := .int .u64 (xr 64 s.c d.c)) rfl
      rw [set2] at this; exact this
    have e4 : asem (.store1 (ptr H.n 67) (.int .u32 (xr 32 s.p d.p))) (H1.set H.n (.cells true false 68 (SC { s with a := xr 64 s.a d.a, b := xr 64 s.b d.b, c := xr 64 s.c d.c }) 26)) = some (undef, H1.set H.n (.cells true false 68 (SC { s with a := xr 64 s.a d.a, b := xr 64 s.b d.b, c := xr 64 s.c d.c, p := xr 32 s.p d.p }) 26)) := by
      have := a_st68 (e := 26) (s := { s with a := xr 64 s.a d.a, b := xr 64 s.b d.b, c := xr 64 s.c d.c }) (get1 ga1 _) hs (o := 67) (by omega) (x := .int .u32 (xr 32 s.p d.p)) rfl
      rw [set2, SC_set67 (by exact hs)] at this; exact this
    have c1 : cellA (H1.set H.n (.cells true false 68 (SC { s with a := xr 64 s.a d.a }) 26)) H.n 1 = some (.int .u64 s.b) := by rw [cellA_of (get1 ga1 _)]; rfl
    have c2 : cellA (H1.set H.n (.cells true false 68 (SC { s with a := xr 64 s.a d.a, b := xr 64 s.b d.b }) 26)) H.n 2 = some (.int .u64 s.c) := by rw [cellA_of (get1 ga1 _)]; rfl
    have c3 : cellA (H1.set H.n (.cells true false 68 (SC { s with a := xr 64 s.a d.a, b := xr 64 s.b d.b, c := xr 64 s.c d.c }) 26)) H.n 67 = some (.int .u32 s.p) := by rw [cellA_of (get1 ga1 _), SC_67 (by exact hs)]
    have hlen : ∀ X, asem (.len false v) X = some (.int .i64 d.l.length, X) := by obtain ⟨a, k, hv, _⟩ := h; intro X; rw [hv]; rfl
    simp only [W_block, ANs, AOp.map, ↓reduceIte, Nat.reduceAdd, Nat.reduceEqDiff, reduceCtorEq, initFr, Nat.reduceLT, ANc, s0, cellA_of gb1, n73, n74, n75, n76, n77, w_x64, w_x32, e1, c1, dc, n73, n74, n75, n76, n77, e2, c2, e3, c3, e4, hlen]
    have kA1 := kAll.trans k1
    refine W_loop2 (fun q fr H2 => ∃ (i : Nat) (t : List Int) (y7 y8 : Value), fr = [.agg (SC s).toArray, .agg (MP p d v).toArray, ptr H.n 0, ptr Ha.n 0, ptr Hb.n 0, .int .i64 0, .int .i64 i, y7, y8] ∧ i ≤ d.l.length ∧ q = d.l.length - i ∧ Keeps H H2 ∧
      t.length = 64 ∧ patchT s.t d.l = patchT t (d.l.drop i) ∧ H2.get H.n = some (.cells true false 68 (SC ⟨xr 64 s.a d.a, xr 64 s.b d.b, xr 64 s.c d.c, t, xr 32 s.p d.p⟩) 26) ∧ H2.get Hb.n = some (.cells true false 68 Z68 26) ∧ H2.get Ha.n = some (.cells true false 78 (MP p d v) 38)) d.l.length ?_ ?_
    · exact ⟨0, s.t, _, _, rfl, by omega, by omega, kA1.chg_trans (Chg.set H1 (AHeap.get_lt ga1) _) (by simp), hs, by simp, get1 ga1 _, (Chg.set H1 (b := H.n) (AHeap.get_lt ga1) _).at_ gc1 (by simp; omega), (Chg.set H1 (b := H.n) (AHeap.get_lt ga1) _).at_ gb1 (by simp; omega)⟩
    · rintro Q' q fr H2 ⟨i, t, y7, y8, rfl, h1, rfl, k2, p1, p2, p3, p4, p5⟩ hnext hexit hret
      by_cases hi : i < d.l.length
      · obtain ⟨b, k', f1, f2, f3, f4⟩ := (h.keeps k2).at_ hi
        have hin := rise_in d.l (-1) (by omega) hr d.l[i] (List.getElem_mem hi)
        rw [List.drop_eq_getElem_cons hi] at p2
        generalize d.l[i] = x at *
        obtain ⟨⟨r, hxr⟩, hr64⟩ : (∃ r : Nat, x.1 = r) ∧ x.1 < 64 := ⟨⟨x.1.toNat, by omega⟩, hin.2⟩
        rw [hxr] at f2 f3
        have hrt : r < t.length := by omega
        have st : asem (.store1 (ptr H.n (3 + r)) (.int .u8 x.2)) H2 = some (undef, H2.set H.n (.cells true false 68 (SC ⟨xr 64 s.a d.a, xr 64 s.b d.b, xr 64 s.c d.c, t.set r x.2, xr 32 s.p d.p⟩) 26)) := by
          have := a_st68 (e := 26) p3 (by exact p1) (o := 3 + r) (by omega) (x := .int .u8 x.2) rfl
          rw [this]
          have e := SC_set (s := ⟨xr 64 s.a d.a, xr 64 s.b d.b, xr 64 s.c d.c, t, xr 32 s.p d.p⟩) (i := r) hrt x.2
          unfold tv at e
          rw [e]
        have n77' : (MP p d v)[77]? = some (slc b 0 d.l.length k') := by rw [n77, f1]
        simp only [W_block, ANs, AOp.map, ↓reduceIte, Nat.reduceAdd, Nat.reduceEqDiff, reduceCtorEq, initFr, Nat.reduceLT, ANc, show (i : Int) < (d.l.length : Int) by omega, decide_true, show (0 : Int) ≤ (i : Int) by omega, hlen, f3, f4, cellA_of p5, n77', sd_iaddrp, a_iaddrp _ _ 64 1 _ r (by omega), st, wrap_succ (n := i) (by omega)]
        refine hnext _ _ _ ⟨i + 1, t.set r x.2, _, _, rfl, by omega, rfl, k2.chg_trans (Chg.set H2 (AHeap.get_lt p3) _) (by simp), by simpa using p1, ?_, get1 p3 _, (Chg.set H2 (b := H.n) (AHeap.get_lt p3) _).at_ p4 (by simp; omega), (Chg.set H2 (b := H.n) (AHeap.get_lt p3) _).at_ p5 (by simp; omega)⟩ (by omega)
        rw [p2]
        show patchT (t.set x.1.toNat x.2) _ = _
        rw [hxr]; rfl
      · simp only [W_block, ANs, AOp.map, ↓reduceIte, Nat.reduceAdd, Nat.reduceEqDiff, reduceCtorEq, initFr, Nat.reduceLT, ANc, cellA_of p5, n77, hlen, show ¬ (i : Int) < (d.l.length : Int) by omega, decide_false]
        refine hexit _ _ _ ?_
        rw [List.drop_of_length_le (by omega)] at p2
        have p2 : patchT s.t d.l = t := p2
        subst p2
        have st := stAll p4 rfl (SC_len (s := patchS s d) p1) (SC_one _)
        simp only [W_block, ANs, AOp.map, ↓reduceIte, Nat.reduceAdd, Nat.reduceEqDiff, reduceCtorEq, initFr, Nat.reduceLT, ANc, full p3 (SC_len (by exact p1))]
        unfold patchS at st hq2
        simp only [W_block, ANs, AOp.map, ↓reduceIte, Nat.reduceAdd, Nat.reduceEqDiff, reduceCtorEq, initFr, Nat.reduceLT, ANc, st]
        exact hq2 _ _ ⟨_, resCn 68 5 4 (b := Hb.n) rfl (full (get1 p4 _) (SC_len p1)), rfl, k2.chg_trans (Chg.set H2 (AHeap.get_lt p4) _) (by simp; omega)⟩
theorem a_stMP {p : Pre} {H : AHeap} {b : Nat} {d : D} {v : Value} {e : Nat} (h : H.get b = some (.cells true false 78 (MP p d v) e)) {o : Nat} (ho : o < 78) {x : Value} (hx : one1 x) : asem (.store1 (ptr b o) x) H = some (undef, H.set b (.cells true false 78 ((MP p d v).set o x) e)) := a_st h (by rw [MP_len]; exact ho) hx

/-- Diff, the document's. -/
theorem t14g (p : Pre) {H : AHeap} {s t : S} (hs : s.t.length = 64) (ht : t.t.length = 64) : ∃ r H', ARun Try.prog 0 14 [.agg (Mz p).toArray, .agg (SC s).toArray, .agg (SC t).toArray] H r H' ∧ Keeps H H' ∧ ∃ w, r = .agg (MP p (diffD s t) w).toArray ∧ TB H' w (dp s.t t.t 64) ∧ Fresh H.n w := by
  refine walk2 f14_ok f14_n ?_
  intro Q hq1 hq2
  have hc0 : (Value.agg (Mz p).toArray).cells.toList = Mz p := by simp [Value.cells]
  have mz1 : (Mz p).all Value.oneCell' = true := MP_one p _ rfl
  have hc1 : (Value.agg (SC s).toArray).cells.toList = SC s := by simp [Value.cells]
  have hc2 : (Value.agg (SC t).toArray).cells.toList = SC t := by simp [Value.cells]
  have z78 : Z78.all Value.oneCell' = true := rfl
  obtain ⟨Ha, hHa⟩ : ∃ X, X = H.alloc (.cells true false 78 (Mz p) 38) := ⟨_, rfl⟩
  have ka := (Keeps.refl H).alloc (.cells true false 78 (Mz p) 38)
  have ga := AHeap.get_alloc_new H (.cells true false 78 (Mz p) 38)
  rw [← hHa] at ka ga
  have na : Ha.n = H.n + 1 := by rw [hHa]; rfl
  obtain ⟨Hb, hHb⟩ : ∃ X, X = Ha.alloc (.cells true false 68 (SC s) 26) := ⟨_, rfl⟩
  have kb := (Keeps.refl Ha).alloc (.cells true false 68 (SC s) 26)
  have gb := AHeap.get_alloc_new Ha (.cells true false 68 (SC s) 26)
  rw [← hHb] at kb gb
  have nb : Hb.n = H.n + 2 := by rw [hHb, alloc_n, na]
  obtain ⟨Hc, hHc⟩ : ∃ X, X = Hb.alloc (.cells true false 68 (SC t) 26) := ⟨_, rfl⟩
  have kc := (Keeps.refl Hb).alloc (.cells true false 68 (SC t) 26)
  have gc := AHeap.get_alloc_new Hb (.cells true false 68 (SC t) 26)
  rw [← hHc] at kc gc
  have nc : Hc.n = H.n + 3 := by rw [hHc, alloc_n, nb]
  obtain ⟨Hd, hHd⟩ : ∃ X, X = Hc.alloc (.cells true false 78 Z78 38) := ⟨_, rfl⟩
  have kd := (Keeps.refl Hc).alloc (.cells true false 78 Z78 38)
  have gd := AHeap.get_alloc_new Hc (.cells true false 78 Z78 38)
  rw [← hHd] at kd gd
  have nd : Hd.n = H.n + 4 := by rw [hHd, alloc_n, nc]
  have ga1 := kd.at_ (kc.at_ (kb.at_ ga))
  have gb1 := kd.at_ (kc.at_ gb)
  have gc1 := kd.at_ gc
  have kAll := ((ka.trans kb).trans kc).trans kd
  unfold diffD at hq2
  generalize hx1 : xr 64 s.a t.a = x1 at *
  generalize hx2 : xr 64 s.b t.b = x2 at *
  generalize hx3 : xr 64 s.c t.c = x3 at *
  generalize hx4 : xr 32 s.p t.p = x4 at *
  have hln := AHeap.get_lt ga1
  have oth : ∀ (X : AO) {b : Nat} {o : AO}, Hd.get b = some o → b ≠ H.n → (Hd.set H.n X).get b = some o := fun X {b o} h hne => (Chg.set Hd (b := H.n) hln X).at_ h (by simpa using hne)
  have sc : ∀ X k, cellA (Hd.set H.n X) Ha.n k = (SC s)[k]? := fun X k => cellA_of (oth X gb1 (by omega))
  have tc : ∀ X k, cellA (Hd.set H.n X) Hb.n k = (SC t)[k]? := fun X k => cellA_of (oth X gc1 (by omega))
  have q0 : (SC s)[0]? = some (.int .u64 s.a) := rfl
  have q1 : (SC s)[1]? = some (.int .u64 s.b) := rfl
  have q2 : (SC s)[2]? = some (.int .u64 s.c) := rfl
  have u0 : (SC t)[0]? = some (.int .u64 t.a) := rfl
  have u1 : (SC t)[1]? = some (.int .u64 t.b) := rfl
  have u2 : (SC t)[2]? = some (.int .u64 t.c) := rfl
  have s67 := SC_67 hs
  have t67 := SC_67 ht
  have gz : Hd.get H.n = some (.cells true false 78 (MP p ⟨0, 0, 0, 0, []⟩ (.slice none 0 0)) 38) := ga1
  have e1 : asem (.store1 (ptr H.n 73) (.int .u64 x1)) Hd = some (undef, Hd.set H.n (.cells true false 78 (MP p ⟨x1, 0, 0, 0, []⟩ (.slice none 0 0)) 38)) := by rw [a_stMP (p := p) gz (o := 73) (by omega) (x := .int .u64 x1) rfl, MP_set73]
  have e2 : asem (.store1 (ptr H.n 74) (.int .u64 x2)) (Hd.set H.n (.cells true false 78 (MP p ⟨x1, 0, 0, 0, []⟩ (.slice none 0 0)) 38)) = some (undef, Hd.set H.n (.cells true false 78 (MP p ⟨x1, x2, 0, 0, []⟩ (.slice none 0 0)) 38)) := by
    have := a_stMP (p := p) (d := ⟨x1, 0, 0, 0, []⟩) (v := .slice none 0 0) (e := 38) (get1 gz _) (o := 74) (by omega) (x := .int .u64 x2) rfl
    rw [set2, MP_set74] at this; exact this
  have e3 : asem (.store1 (ptr H.n 75) (.int .u64 x3)) (Hd.set H.n (.cells true false 78 (MP p ⟨x1, x2, 0, 0, []⟩ (.slice none 0 0)) 38)) = some (undef, Hd.set H.n (.cells true false 78 (MP p ⟨x1, x2, x3, 0, []⟩ (.slice none 0 0)) 38)) := by
    have := a_stMP (p := p) (d := ⟨x1, x2, 0, 0, []⟩) (v := .slice none 0 0) (e := 38) (get1 gz _) (o := 75) (by omega) (x := .int .u64 x3) rfl
    rw [set2, MP_set75] at this; exact this
  have e4 : asem (.store1 (ptr H.n 76) (.int .u32 x4)) (Hd.set H.n (.cells true false 78 (MP p ⟨x1, x2, x3, 0, []⟩ (.slice none 0 0)) 38)) = some (undef, Hd.set H.n (.cells true false 78 (MP p ⟨x1, x2, x3, x4, []⟩ (.slice none 0 0)) 38)) := by
    have := a_stMP (p := p) (d := ⟨x1, x2, x3, 0, []⟩) (v := .slice none 0 0) (e := 38) (get1 gz _) (o := 76) (by omega) (x := .int .u32 x4) rfl
    rw [set2, MP_set76] at this; exact this
  have v0 : cellA Hd Ha.n 0 = some (.int .u64 s.a) := by rw [cellA_of gb1]; rfl
  have w0 : cellA Hd Hb.n 0 = some (.int .u64 t.a) := by rw [cellA_of gc1]; rfl
  simp only [f14, W_block, ANs, AOp.map, ↓reduceIte, Nat.reduceAdd, Nat.reduceEqDiff, reduceCtorEq, initFr, Nat.reduceLT, ANc, hc0, hc1, hc2, SC_one, z78, mz1, ← hHa, ← hHb, ← hHc, ← hHd, v0, w0, sc, tc, q1, q2, u1, u2, s67, t67, w_x64, w_x32, hx1, hx2, hx3, hx4, e1, e2, e3, e4]
  have g0 := get1 gz (.cells true false 78 (MP p ⟨x1, x2, x3, x4, []⟩ (.slice none 0 0)) 38)
  have gs0 := oth (.cells true false 78 (MP p ⟨x1, x2, x3, x4, []⟩ (.slice none 0 0)) 38) gb1 (by omega)
  have gt0 := oth (.cells true false 78 (MP p ⟨x1, x2, x3, x4, []⟩ (.slice none 0 0)) 38) gc1 (by omega)
  have gd0 := oth (.cells true false 78 (MP p ⟨x1, x2, x3, x4, []⟩ (.slice none 0 0)) 38) gd (by omega)
  have kE : Keeps H (Hd.set H.n (.cells true false 78 (MP p ⟨x1, x2, x3, x4, []⟩ (.slice none 0 0)) 38)) := kAll.chg_trans (Chg.set Hd hln _) (by simp)
  have nE : (Hd.set H.n (.cells true false 78 (MP p ⟨x1, x2, x3, x4, []⟩ (.slice none 0 0)) 38)).n = Hd.n := rfl
  generalize Hd.set H.n (.cells true false 78 (MP p ⟨x1, x2, x3, x4, []⟩ (.slice none 0 0)) 38) = He at *
  refine W_loop2 (fun q fr H2 => ∃ (i : Nat) (w y8 y9 : Value), fr = [.agg (Mz p).toArray, .agg (SC s).toArray, .agg (SC t).toArray, ptr H.n 0, ptr Ha.n 0, ptr Hb.n 0, ptr Hc.n 0, .int .i64 i, y8, y9] ∧ i ≤ 64 ∧ q = 64 - i ∧ Keeps H H2 ∧ Hd.n ≤ H2.n ∧ H2.get Ha.n = some (.cells true false 68 (SC s) 26) ∧ H2.get Hb.n = some (.cells true false 68 (SC t) 26) ∧ H2.get Hc.n = some (.cells true false 78 Z78 38) ∧
    H2.get H.n = some (.cells true false 78 (MP p ⟨x1, x2, x3, x4, []⟩ w) 38) ∧ AP H2 92 2 w (dp s.t t.t i).length (TC (dp s.t t.t i)) ∧ Fresh Hd.n w) 64 ?_ ?_
  · exact ⟨0, _, _, _, rfl, by omega, by omega, kE, by omega, gs0, gt0, gd0, g0, .inl ⟨rfl, rfl, rfl⟩, fun b hb => by cases hb⟩
  · rintro Q' q fr H2 ⟨i, w, y8, y9, rfl, h1, rfl, k2, n2, g1, g1b, g2, g3, ap, fw⟩ hnext hexit hret
    by_cases hi : i < 64
    · have hti : t.t.getD i 0 = t.t[i]'(by omega) := by rw [List.getD_eq_getElem?_getD, List.getElem?_eq_getElem (by omega)]; rfl
      have hsi : s.t.getD i 0 = s.t[i]'(by omega) := by rw [List.getD_eq_getElem?_getD, List.getElem?_eq_getElem (by omega)]; rfl
      have ct : cellA H2 Hb.n (3 + i) = some (tv (t.t.getD i 0)) := by rw [cellA_of g1b, SC_t (by omega), hti]
      have cs : cellA H2 Ha.n (3 + i) = some (tv (s.t.getD i 0)) := by rw [cellA_of g1, SC_t (by omega), hsi]
      have hdp : dp s.t t.t (i + 1) = dp s.t t.t i ++ (if t.t.getD i 0 = s.t.getD i 0 then [] else [((i : Int), t.t.getD i 0)]) := rfl
      have hle := dp_le s.t t.t i
      generalize t.t.getD i 0 = ti at *
      generalize s.t.getD i 0 = si at *
      have lw : ∀ z ∈ blkL w, Hd.n ≤ z ∧ z < H2.n := fun z hz => ⟨fw z (mem_blkL.1 hz), ap.lt (mem_blkL.1 hz)⟩
      change cellA H2 Hb.n (3 + i) = some (.int .u8 ti) at ct
      change cellA H2 Ha.n (3 + i) = some (.int .u8 si) at cs
      by_cases he : ti = si
      · simp only [W_block, ANs, AOp.map, ↓reduceIte, Nat.reduceAdd, Nat.reduceEqDiff, reduceCtorEq, initFr, Nat.reduceLT, ANc, show (i : Int) < 64 by omega, decide_true, sd_iaddrp, a_iaddrp _ _ 64 1 _ i hi, cs, ct, show (si != ti) = false by simp [he], wrap_succ (n := i) (by omega)]
        refine hnext _ _ _ ⟨i + 1, w, _, _, rfl, by omega, rfl, k2, n2, g1, g1b, g2, g3, ?_, fw⟩ (by omega)
        rw [hdp, if_pos he, List.append_nil]; exact ap
      · have k3 := (Keeps.refl H2).alloc (.cells true false 2 [.int .i64 (i : Int), .int .u8 ti] 92)
        have g4 := AHeap.get_alloc_new H2 (.cells true false 2 [.int .i64 (i : Int), .int .u8 ti] 92)
        obtain ⟨H3, hH3⟩ : ∃ X, X = H2.alloc (.cells true false 2 [.int .i64 (i : Int), .int .u8 ti] 92) := ⟨_, rfl⟩
        have hbsl := bsl 92 (i : Int) ti H2
        rw [← hH3] at k3 g4 hbsl
        have n3 : H3.n = H2.n + 1 := by rw [hH3]; rfl
        simp only [W_block, ANs, AOp.map, ↓reduceIte, Nat.reduceAdd, Nat.reduceEqDiff, reduceCtorEq, initFr, Nat.reduceLT, ANc, show (i : Int) < 64 by omega, decide_true, sd_iaddrp, a_iaddrp _ _ 64 1 _ i hi, cs, ct, show (si != ti) = true by simp; exact fun h => he h.symm, cellA_of g3, n77, fl2, hbsl]
        refine appD (ap.keeps k3) ⟨_, _, rfl⟩ (elems_own g4 rfl) rfl (by omega) ?_
        intro w' H4 ap4 c4 hbw
        have n4 := c4.n
        have g1' := c4.at_ (k3.at_ g1) (fun hz => by have := lw _ hz; omega)
        have g1b' := c4.at_ (k3.at_ g1b) (fun hz => by have := lw _ hz; omega)
        have g2' := c4.at_ (k3.at_ g2) (fun hz => by have := lw _ hz; omega)
        have g3' := c4.at_ (k3.at_ g3) (fun hz => by have := lw _ hz; omega)
        have st : asem (.store1 (ptr H.n 77) w') H4 = some (undef, H4.set H.n (.cells true false 78 (MP p ⟨x1, x2, x3, x4, []⟩ w') 38)) := by
          rw [a_st g3' (by rw [MP_len]; omega) (by obtain ⟨a, e⟩ := ap4.shape; rw [e]; rfl), MP_set77]
        have d5 := Chg.set H4 (b := H.n) (AHeap.get_lt g3') (.cells true false 78 (MP p ⟨x1, x2, x3, x4, []⟩ w') 38)
        simp only [W_block, ANs, AOp.map, ↓reduceIte, Nat.reduceAdd, Nat.reduceEqDiff, reduceCtorEq, initFr, Nat.reduceLT, ANc, st, wrap_succ (n := i) (by omega)]
        refine hnext _ _ _ ⟨i + 1, w', _, _, rfl, by omega, rfl, (((k2.trans k3).chg_trans c4 (fun z hz => by have := lw z hz; omega))).chg_trans d5 (by simp), by have := d5.n; omega, d5.at_ g1' (by simp; omega), d5.at_ g1b' (by simp; omega), d5.at_ g2' (by simp; omega), get1 g3' _, ?_, ?_⟩ (by omega)
        · rw [hdp, if_neg he, TC_app, List.length_append]
          refine AP.chg ap4 d5 (fun z hz => ?_)
          rcases hbw with e | e
          · have := lw z (by rw [mem_blkL] at hz ⊢; rw [← e]; exact hz)
            simp; omega
          · rw [mem_blkL, e] at hz; cases hz; simp; omega
        · intro z hz
          rcases hbw with e | e
          · rw [e] at hz; exact fw z hz
          · rw [e] at hz; cases hz; omega
    · simp only [W_block, ANs, AOp.map, ↓reduceIte, Nat.reduceAdd, Nat.reduceEqDiff, reduceCtorEq, initFr, Nat.reduceLT, ANc, show ¬ (i : Int) < 64 by omega, decide_false]
      refine hexit _ _ _ ?_
      have hie : i = 64 := by omega
      subst hie
      obtain ⟨aw, ew⟩ := ap.shape
      have st := stAll g2 rfl (MP_len p ⟨x1, x2, x3, x4, []⟩ w) (MP_one p _ (by rw [ew]; rfl))
      simp only [W_block, ANs, AOp.map, ↓reduceIte, Nat.reduceAdd, Nat.reduceEqDiff, reduceCtorEq, initFr, Nat.reduceLT, ANc, full g3 (MP_len p _ w), st]
      have d5 := Chg.set H2 (b := Hc.n) (AHeap.get_lt g2) (.cells true false 78 (MP p ⟨x1, x2, x3, x4, []⟩ w) 38)
      refine hq2 _ _ ⟨_, resC1 78 6 (b := Hc.n) rfl (full (get1 g2 _) (MP_len p _ w)), k2.chg_trans d5 (by simp; omega), w, (by rw [MP_l p x1 x2 x3 x4 (dp s.t t.t 64) w]), TB.of_ap (ap.chg d5 (fun z hz => by
        have := fw z (mem_blkL.1 hz)
        simp; omega)), fun z hz => by have := fw z hz; omega⟩
end Go.AM.Rp

namespace Go.AM.Rp
open Go.Proofs

section
variable {m : Msg} (hm : m.s.t.length = 64) (v w : Value)
include hm
theorem GC_73 : (GC m v)[73]? = some (.int .u64 m.d.a) := n73 (pre m hm) m.d v
theorem GC_74 : (GC m v)[74]? = some (.int .u64 m.d.b) := n74 (pre m hm) m.d v
theorem GC_75 : (GC m v)[75]? = some (.int .u64 m.d.c) := n75 (pre m hm) m.d v
theorem GC_76 : (GC m v)[76]? = some (.int .u32 m.d.p) := n76 (pre m hm) m.d v
theorem GC_77 : (GC m v)[77]? = some v := n77 (pre m hm) m.d v
theorem GC_set77 : (GC m v).set 77 w = GC m w := MP_set77 (pre m hm) m.d v w
end
theorem a_eqSn {m : Msg} (hm : m.s.t.length = 64) (H : AHeap) : asem (.eqs O68 true (.agg (SC m.s).toArray) (.agg (SC m.s).toArray)) H = some (.bool false, H) := by
  have e := eqCs_self (SC m.s) (SC_ints m.s)
  rw [SC_len hm] at e
  have e2 : eqCs O68 (SC m.s) (SC m.s) = some true := e
  simp only [asem, e2]; rfl
theorem fill_set1 {c : List Value} {o : Nat} {v : Value} {r : List (Nat × Nat × Value)} (hv : v.cells.toList = [v]) (ho : o < c.length) : fillA c ((o, 1, v) :: r) = fillA (c.set o v) r := by
  rw [fill_cons, hv, if_pos ⟨rfl, by omega⟩, List.set_eq_take_append_cons_drop, if_pos ho]
  simp
theorem flG6 {m : Msg} (hm : m.s.t.length = 64) (r : List (Nat × Nat × Value)) : fillA Z78 ((0, 1, .int .u8 m.k) :: (1, 1, .int .i64 m.e) :: (2, 1, .int .i64 m.c) :: (3, 1, .int .i64 m.be) :: (4, 1, .int .i64 m.b) :: (5, 68, .agg (SC m.s).toArray) :: r) = fillA (Mz (pre m hm)) r := by
  have h3 : (Value.agg (SC m.s).toArray).cells.toList = SC m.s := by simp [Value.cells]
  have hl2 := Z68_len
  have hl := SC_len hm
  have hz := Z78_split
  generalize Z68 = z at *
  rw [hz]
  rw [fill_set1 rfl (by simp), fill_set1 rfl (by simp), fill_set1 rfl (by simp), fill_set1 rfl (by simp), fill_set1 rfl (by simp)]
  simp only [List.set_cons_zero, List.set_cons_succ]
  rw [fill_cons, h3, if_pos ⟨hl, by simp [hl2]⟩]
  congr 1
  simp only [List.take_succ_cons, List.take_zero, List.drop_succ_cons, Nat.reduceAdd]
  rw [List.drop_append_of_le_length (by omega), List.drop_of_length_le (by omega)]
  rfl
theorem flG {m : Msg} (hm : m.s.t.length = 64) : fillA Z78 [(0, 1, .int .u8 m.k), (1, 1, .int .i64 m.e), (2, 1, .int .i64 m.c), (3, 1, .int .i64 m.be), (4, 1, .int .i64 m.b), (5, 68, .agg (SC m.s).toArray), (73, 1, .int .u64 m.d.a), (74, 1, .int .u64 m.d.b), (75, 1, .int .u64 m.d.c), (76, 1, .int .u32 m.d.p)] = some (GC m (.slice none 0 0)) := by
  rw [flG6 hm]
  unfold Mz
  rw [fill_set1 rfl (by rw [MP_len]; omega), MP_set73, fill_set1 rfl (by rw [MP_len]; omega), MP_set74, fill_set1 rfl (by rw [MP_len]; omega), MP_set75, fill_set1 rfl (by rw [MP_len]; omega), MP_set76, fill0]
  rfl

/-- same. -/
theorem t13g {H : AHeap} {m : Msg} (hm : m.s.t.length = 64) {v v' : Value} {l : List (Int × Int)} (h : TB H v l) (h' : TB H v' l) (hl : l.length ≤ 100000) : ∃ r H', ARun Try.prog 0 13 [.agg (GC m v).toArray, .agg (GC m v').toArray] H r H' ∧ r = .bool true ∧ Keeps H H' := by
  refine walk2 f13_ok f13_n ?_
  intro Q hq1 hq2
  have hc1 : (Value.agg (GC m v).toArray).cells.toList = GC m v := by simp [Value.cells]
  have hc2 : (Value.agg (GC m v').toArray).cells.toList = GC m v' := by simp [Value.cells]
  obtain ⟨Ha, hHa⟩ : ∃ X, X = H.alloc (.cells true false 78 (GC m v) 38) := ⟨_, rfl⟩
  have ka := (Keeps.refl H).alloc (.cells true false 78 (GC m v) 38)
  have ga := AHeap.get_alloc_new H (.cells true false 78 (GC m v) 38)
  rw [← hHa] at ka ga
  obtain ⟨Hb, hHb⟩ : ∃ X, X = Ha.alloc (.cells true false 78 (GC m v') 38) := ⟨_, rfl⟩
  have kb := (Keeps.refl Ha).alloc (.cells true false 78 (GC m v') 38)
  have gb := AHeap.get_alloc_new Ha (.cells true false 78 (GC m v') 38)
  rw [← hHb] at kb gb
  have ga := kb.at_ ga
  have k2 := ka.trans kb
  have hb := h.keeps k2
  have hb' := h'.keeps k2
  have l1 : asem (.len false v) Hb = some (.int .i64 l.length, Hb) := by obtain ⟨a, k, hv, _⟩ := h; rw [hv]; rfl
  have l2 : asem (.len false v') Hb = some (.int .i64 l.length, Hb) := by obtain ⟨a, k, hv, _⟩ := h'; rw [hv]; rfl
  simp only [f13, W_block, ANs, AOp.map, ↓reduceIte, Nat.reduceAdd, Nat.reduceEqDiff, reduceCtorEq, initFr, Nat.reduceLT, ANc, bi_u, hc1, hc2, GC_one m h.one, GC_one m h'.one, ← hHa, ← hHb, cellA_of ga, cellA_of gb, GC_0, GC_1, GC_2, GC_3, GC_4, GC_s hm ga, GC_s hm gb, st_eqs, a_eqSn hm, GC_73 hm, GC_74 hm, GC_75 hm, GC_76 hm, GC_77 hm, l1, l2, bne_self_eq_false]
  refine W_loop2 (fun q fr H2 => ∃ (i : Nat) (y7 y8 : Value), fr = [.agg (GC m v).toArray, .agg (GC m v').toArray, ptr H.n 0, ptr Ha.n 0, .bool false, .int .i64 i, .bool false, y7, y8] ∧ i ≤ l.length ∧ q = l.length - i ∧ H2 = Hb) l.length ?_ ?_
  · exact ⟨0, _, _, rfl, by omega, by omega, rfl⟩
  · rintro Q' q fr H2 ⟨i, y7, y8, rfl, h1, rfl, rfl⟩ hnext hexit hret
    by_cases hi : i < l.length
    · obtain ⟨b, k', e1, e2, _⟩ := hb.at_ hi
      obtain ⟨b', k'', f1, f2, _⟩ := hb'.at_ hi
      have m77' : (GC m v)[77]? = some (slc b 0 l.length k') := by rw [GC_77 hm, e1]
      have m77'' : (GC m v')[77]? = some (slc b' 0 l.length k'') := by rw [GC_77 hm, f1]
      simp only [W_block, ANs, AOp.map, ↓reduceIte, Nat.reduceAdd, Nat.reduceEqDiff, reduceCtorEq, initFr, Nat.reduceLT, ANc, cellA_of ga, cellA_of gb, m77', m77'', show (i : Int) < (l.length : Int) by omega, decide_true, show (0 : Int) ≤ (i : Int) by omega, e2, f2, sd_eqs, a_eq2, wrap_succ (n := i) (by omega)]
      exact hnext _ _ _ ⟨i + 1, _, _, rfl, by omega, rfl, rfl⟩ (by omega)
    · simp only [W_block, ANs, AOp.map, ↓reduceIte, Nat.reduceAdd, Nat.reduceEqDiff, reduceCtorEq, initFr, Nat.reduceLT, ANc, cellA_of ga, GC_77 hm, l1, show ¬ (i : Int) < (l.length : Int) by omega, decide_false]
      refine hexit _ _ _ ?_
      simp only [W_block, ANs, AOp.map, ↓reduceIte, Nat.reduceAdd, Nat.reduceEqDiff, reduceCtorEq, initFr, Nat.reduceLT, ANc]
      exact hq2 _ _ ⟨_, rfl, rfl, k2⟩

/-- plain. -/
theorem t12g {H : AHeap} {m : Msg} (hm : m.s.t.length = 64) {v : Value} (h : TB H v m.d.l) (hl : m.d.l.length ≤ 100000) : ∃ r H', ARun Try.prog 0 12 [.agg (GC m v).toArray] H r H' ∧ Keeps H H' ∧ ∃ w, r = .agg (GC m w).toArray ∧ TB H' w m.d.l ∧ Fresh H.n w := by
  refine walk2 f12_ok f12_n ?_
  intro Q hq1 hq2
  have hc1 : (Value.agg (GC m v).toArray).cells.toList = GC m v := by simp [Value.cells]
  obtain ⟨Ha, hHa⟩ : ∃ X, X = H.alloc (.cells true false 78 (GC m v) 41) := ⟨_, rfl⟩
  have ka := (Keeps.refl H).alloc (.cells true false 78 (GC m v) 41)
  have ga := AHeap.get_alloc_new H (.cells true false 78 (GC m v) 41)
  rw [← hHa] at ka ga
  have na : Ha.n = H.n + 1 := by rw [hHa]; rfl
  obtain ⟨Hb, hHb⟩ : ∃ X, X = Ha.alloc (.cells true false 78 Z78 38) := ⟨_, rfl⟩
  have kb := (Keeps.refl Ha).alloc (.cells true false 78 Z78 38)
  have gb := AHeap.get_alloc_new Ha (.cells true false 78 Z78 38)
  rw [← hHb] at kb gb
  have nb : Hb.n = H.n + 2 := by rw [hHb, alloc_n, na]
  have ga := kb.at_ ga
  have z78 : Z78.all Value.oneCell' = true := rfl
  have fl := flG hm
  have vc : asem (.storen 78 (ptr Hb.n 0) (.agg (GC m (.slice none 0 0)).toArray)) (Hb.alloc (.cells true false 78 Z78 38)) = some (undef, Hb.alloc (.cells true false 78 (GC m (.slice none 0 0)) 38)) := by
    have := a_var (H := Hb) (n := 78) (room := false) (esz := 78) (e := 38) (c := Z78) (xs := (GC m (.slice none 0 0)).toArray) rfl (by simpa using GC_len hm (.slice none 0 0)) (by simpa using GC_one m (v := .slice none 0 0) rfl)
    simpa using this
  obtain ⟨Hc, hHc⟩ : ∃ X, X = Hb.alloc (.cells true false 78 (GC m (.slice none 0 0)) 38) := ⟨_, rfl⟩
  have kc := (Keeps.refl Hb).alloc (.cells true false 78 (GC m (.slice none 0 0)) 38)
  have gc := AHeap.get_alloc_new Hb (.cells true false 78 (GC m (.slice none 0 0)) 38)
  rw [← hHc] at kc gc vc
  have nc : Hc.n = H.n + 3 := by rw [hHc, alloc_n, nb]
  have ga := kc.at_ ga
  have gb2 := kc.at_ gb
  have kAll := (ka.trans kb).trans kc
  have gaB : Hb.get H.n = some (.cells true false 78 (GC m v) 41) := kb.at_ (by rw [hHa]; exact AHeap.get_alloc_new H _)
  have hlen : ∀ X, asem (.len false v) X = some (.int .i64 m.d.l.length, X) := by obtain ⟨a, k, hv, _⟩ := h; intro X; rw [hv]; rfl
  simp only [f12, W_block, ANs, AOp.map, ↓reduceIte, Nat.reduceAdd, Nat.reduceEqDiff, reduceCtorEq, initFr, Nat.reduceLT, ANc, hc1, GC_one m h.one, ← hHa, ← hHb, z78, cellA_of gaB, GC_0, GC_1, GC_2, GC_3, GC_4, GC_s hm gaB, GC_73 hm, GC_74 hm, GC_75 hm, GC_76 hm, fl, vc]
  refine W_loop2 (fun q fr H2 => ∃ (i : Nat) (w y5 : Value), fr = [.agg (GC m v).toArray, ptr H.n 0, ptr Ha.n 0, ptr Hb.n 0, .int .i64 i, y5] ∧ i ≤ m.d.l.length ∧ q = m.d.l.length - i ∧ Keeps H H2 ∧ Hc.n ≤ H2.n ∧ H2.get H.n = some (.cells true false 78 (GC m v) 41) ∧ H2.get Ha.n = some (.cells true false 78 Z78 38) ∧
    H2.get Hb.n = some (.cells true false 78 (GC m w) 38) ∧ AP H2 92 2 w i (TC (m.d.l.take i)) ∧ Fresh Hc.n w) m.d.l.length ?_ ?_
  · exact ⟨0, _, _, rfl, by omega, by omega, kAll, Nat.le_refl _, ga, gb2, gc, .inl ⟨rfl, rfl, by simp [TC]⟩, fun b hb => by cases hb⟩
  · rintro Q' q fr H2 ⟨i, w, y5, rfl, h1, rfl, k2, n2, g1, g2, g3, ap, fw⟩ hnext hexit hret
    by_cases hi : i < m.d.l.length
    · obtain ⟨b, k', f1, f2, f3, f4⟩ := (h.keeps k2).at_ hi
      have ht : m.d.l.take (i + 1) = m.d.l.take i ++ [m.d.l[i]] := List.take_succ_eq_append_getElem hi
      generalize m.d.l[i] = x at *
      have m77' : (GC m v)[77]? = some (slc b 0 m.d.l.length k') := by rw [GC_77 hm, f1]
      have lw : ∀ z ∈ blkL w, Hc.n ≤ z ∧ z < H2.n := fun z hz => ⟨fw z (mem_blkL.1 hz), ap.lt (mem_blkL.1 hz)⟩
      have k3 := (Keeps.refl H2).alloc (.cells true false 2 [.int .i64 x.1, .int .u8 x.2] 92)
      have g4 := AHeap.get_alloc_new H2 (.cells true false 2 [.int .i64 x.1, .int .u8 x.2] 92)
      obtain ⟨H3, hH3⟩ : ∃ X, X = H2.alloc (.cells true false 2 [.int .i64 x.1, .int .u8 x.2] 92) := ⟨_, rfl⟩
      have hbsl := bsl 92 x.1 x.2 H2
      rw [← hH3] at k3 g4 hbsl
      have n3 : H3.n = H2.n + 1 := by rw [hH3]; rfl
      simp only [W_block, ANs, AOp.map, ↓reduceIte, Nat.reduceAdd, Nat.reduceEqDiff, reduceCtorEq, initFr, Nat.reduceLT, ANc, cellA_of g1, cellA_of g3, GC_77 hm w, m77', hlen, show (i : Int) < (m.d.l.length : Int) by omega, decide_true, show (0 : Int) ≤ (i : Int) by omega, f3, f4, fl2, hbsl]
      refine appD (ap.keeps k3) ⟨_, _, rfl⟩ (elems_own g4 rfl) rfl (by omega) ?_
      intro w' H4 ap4 c4 hbw
      have n4 := c4.n
      have g1' := c4.at_ (k3.at_ g1) (fun hz => by have := lw _ hz; omega)
      have g2' := c4.at_ (k3.at_ g2) (fun hz => by have := lw _ hz; omega)
      have g3' := c4.at_ (k3.at_ g3) (fun hz => by have := lw _ hz; omega)
      have st : asem (.store1 (ptr Hb.n 77) w') H4 = some (undef, H4.set Hb.n (.cells true false 78 (GC m w') 38)) := by
        rw [a_st g3' (by rw [GC_len hm]; omega) (by obtain ⟨a, e⟩ := ap4.shape; rw [e]; rfl), GC_set77 hm]
      have d5 := Chg.set H4 (b := Hb.n) (AHeap.get_lt g3') (.cells true false 78 (GC m w') 38)
      simp only [W_block, ANs, AOp.map, ↓reduceIte, Nat.reduceAdd, Nat.reduceEqDiff, reduceCtorEq, initFr, Nat.reduceLT, ANc, st, wrap_succ (n := i) (by omega)]
      refine hnext _ _ _ ⟨i + 1, w', _, rfl, by omega, rfl, (((k2.trans k3).chg_trans c4 (fun z hz => by have := lw z hz; omega))).chg_trans d5 (by simp; omega), by have := d5.n; omega, d5.at_ g1' (by simp; omega), d5.at_ g2' (by simp; omega), get1 g3' _, ?_, ?_⟩ (by omega)
      · rw [ht, TC_app]
        refine ap4.chg d5 (fun z hz => ?_)
        rcases hbw with e | e
        · have := lw z (by rw [mem_blkL] at hz ⊢; rw [← e]; exact hz)
          simp; omega
        · rw [mem_blkL, e] at hz; cases hz; simp; omega
      · intro z hz
        rcases hbw with e | e
        · rw [e] at hz; exact fw z hz
        · rw [e] at hz; cases hz; omega
    · simp only [W_block, ANs, AOp.map, ↓reduceIte, Nat.reduceAdd, Nat.reduceEqDiff, reduceCtorEq, initFr, Nat.reduceLT, ANc, cellA_of g1, GC_77 hm, hlen, show ¬ (i : Int) < (m.d.l.length : Int) by omega, decide_false]
      refine hexit _ _ _ ?_
      have hie : i = m.d.l.length := by omega
      subst hie
      rw [List.take_length] at ap
      obtain ⟨aw, ew⟩ := ap.shape
      have st := stAll g2 rfl (GC_len hm w) (GC_one m (by rw [ew]; rfl))
      simp only [W_block, ANs, AOp.map, ↓reduceIte, Nat.reduceAdd, Nat.reduceEqDiff, reduceCtorEq, initFr, Nat.reduceLT, ANc, full g3 (GC_len hm w), st]
      have d5 := Chg.set H2 (b := Ha.n) (AHeap.get_lt g2) (.cells true false 78 (GC m w) 38)
      refine hq2 _ _ ⟨_, resC1 78 2 (b := Ha.n) rfl (full (get1 g2 _) (GC_len hm w)), k2.chg_trans d5 (by simp; omega), w, rfl, TB.of_ap (ap.chg d5 (fun z hz => by
        have := fw z (mem_blkL.1 hz)
        simp; omega)), fun z hz => by have := fw z hz; omega⟩
end Go.AM.Rp

namespace Go.AM.Rp
open Go.Proofs

def inI (n : Int) : Bool := decide (0 ≤ n) && decide (n ≤ 1099511627776)
theorem inB2_eq (a b : Int) : inB [a, b] = (inI a && inI b) := by
  have h1 : ∀ x y : Int, (if y < x then y else x) = min x y := by intro x y; split <;> omega
  have h2 : ∀ x y : Int, (if y > x then y else x) = max x y := by intro x y; split <;> omega
  rw [Bool.eq_iff_iff]
  simp only [inB, inI, Bool.and_eq_true, decide_eq_true_eq, mn, mx, List.foldl, h1, h2]
  omega
theorem inB4_eq (a b c d : Int) : inB [a, b, c, d] = (inI a && inI b && inI c && inI d) := by
  have h1 : ∀ x y : Int, (if y < x then y else x) = min x y := by intro x y; split <;> omega
  have h2 : ∀ x y : Int, (if y > x then y else x) = max x y := by intro x y; split <;> omega
  rw [Bool.eq_iff_iff]
  simp only [inB, inI, Bool.and_eq_true, decide_eq_true_eq, mn, mx, List.foldl, h1, h2]
  omega
def laterB (x y : Lg) : Bool := decide (y.e < x.e) || (decide (x.e = y.e) && decide (y.c < x.c))
theorem laterB_eq (x y : Lg) : laterB x y = !decide (cmpL x y ≤ 0) := by
  have h1 := @cmpL_lt x y
  have h2 := @cmpL_eq x y
  rw [Bool.eq_iff_iff]
  simp only [laterB, Bool.or_eq_true, Bool.and_eq_true, decide_eq_true_eq, Bool.not_eq_true', decide_eq_false_iff_not]
  omega

/-- in, the document's. -/
theorem t68 (H : AHeap) (n : Int) : ∃ v H', ARun Try.prog 0 68 [.int .i64 n] H v H' ∧ v = .bool (inI n) ∧ H' = H := by
  refine walk2 f68_ok f68_n ?_
  intro Q hq1 hq2
  by_cases h : 0 ≤ n
  · simp (disch := (first | assumption | omega | (simp only [alloc_n, set_n] <;> omega) | (simp (disch := (first | assumption | omega | (simp only [alloc_n, set_n] <;> omega))) only [row_alloc, row_set]; assumption))) only [f68, W_block, ANs, A3s, AOp.map, ↓reduceIte, Nat.reduceAdd, Nat.reduceEqDiff, reduceCtorEq, initFr, Nat.reduceLT, clsA, List.take, List.drop, Nat.reduceLeDiff, Nat.reduceMul, Nat.reduceSub, reduceIte, ANc, A3c]
    exact hq2 _ _ ⟨_, rfl, by show Value.bool _ = _; simp [inI, h], rfl⟩
  · simp (disch := (first | assumption | omega | (simp only [alloc_n, set_n] <;> omega) | (simp (disch := (first | assumption | omega | (simp only [alloc_n, set_n] <;> omega))) only [row_alloc, row_set]; assumption))) only [f68, W_block, ANs, A3s, AOp.map, ↓reduceIte, Nat.reduceAdd, Nat.reduceEqDiff, reduceCtorEq, initFr, Nat.reduceLT, clsA, List.take, List.drop, Nat.reduceLeDiff, Nat.reduceMul, Nat.reduceSub, reduceIte, ANc, A3c]
    exact hq2 _ _ ⟨_, rfl, by show Value.bool _ = _; simp [inI, h], rfl⟩
/-- later. -/
theorem t69 (H : AHeap) (x y : Lg) : ∃ v H', ARun Try.prog 0 69 [.agg (LC x).toArray, .agg (LC y).toArray] H v H' ∧ v = .bool (laterB x y) ∧ Keeps H H' := by
  refine walk2 f69_ok f69_n ?_
  intro Q hq1 hq2
  have k := ((Keeps.refl H).alloc (.cells true false 70 (LC x) 72)).alloc (.cells true false 70 (LC y) 72)
  by_cases h1 : y.e < x.e
  · simp (disch := (first | assumption | omega | (simp only [alloc_n, set_n] <;> omega) | (simp (disch := (first | assumption | omega | (simp only [alloc_n, set_n] <;> omega))) only [row_alloc, row_set]; assumption))) only [f69, W_block, ANs, A3s, AOp.map, ↓reduceIte, Nat.reduceAdd, Nat.reduceEqDiff, reduceCtorEq, initFr, Nat.reduceLT, clsA, List.take, List.drop, Nat.reduceLeDiff, Nat.reduceMul, Nat.reduceSub, reduceIte, ANc, A3c, LC_one, LC_0, LC_1]
    exact hq2 _ _ ⟨_, rfl, by show Value.bool _ = _; simp [laterB, h1], k⟩
  by_cases h2 : x.e = y.e
  · simp (disch := (first | assumption | omega | (simp only [alloc_n, set_n] <;> omega) | (simp (disch := (first | assumption | omega | (simp only [alloc_n, set_n] <;> omega))) only [row_alloc, row_set]; assumption))) only [f69, W_block, ANs, A3s, AOp.map, ↓reduceIte, Nat.reduceAdd, Nat.reduceEqDiff, reduceCtorEq, initFr, Nat.reduceLT, clsA, List.take, List.drop, Nat.reduceLeDiff, Nat.reduceMul, Nat.reduceSub, reduceIte, ANc, A3c, LC_one, LC_0, LC_1]
    exact hq2 _ _ ⟨_, rfl, by show Value.bool _ = _; simp [laterB, h1, h2], k⟩
  · simp (disch := (first | assumption | omega | (simp only [alloc_n, set_n] <;> omega) | (simp (disch := (first | assumption | omega | (simp only [alloc_n, set_n] <;> omega))) only [row_alloc, row_set]; assumption))) only [f69, W_block, ANs, A3s, AOp.map, ↓reduceIte, Nat.reduceAdd, Nat.reduceEqDiff, reduceCtorEq, initFr, Nat.reduceLT, clsA, List.take, List.drop, Nat.reduceLeDiff, Nat.reduceMul, Nat.reduceSub, reduceIte, ANc, A3c, LC_one, LC_0, LC_1]
    exact hq2 _ _ ⟨_, rfl, by show Value.bool _ = _; simp [laterB, h1, h2], k⟩
/-- log. -/
theorem t38 (H : AHeap) {x : Lg} (hx : x.s.t.length = 64) : ∃ v H', ARun Try.prog 0 38 [.agg (LC x).toArray] H v H' ∧ v = .agg (LC x).toArray ∧ Keeps H H' := by
  refine walk2 f38_ok f38_n ?_
  intro Q hq1 hq2
  have lx := LC_len hx
  have zl : Z70.length = 70 := rfl
  have ls : ((LC x).drop 2).take 68 = SC x.s := by
    show (SC x.s).take 68 = _; rw [List.take_of_length_le (by rw [SC_len hx]; omega)]
  have k := ((Keeps.refl H).alloc (.cells true false 70 (LC x) 54)).alloc (.cells true false 70 (LC x) 72)
  simp (disch := (first | assumption | omega | (simp only [alloc_n, set_n] <;> omega) | (simp (disch := (first | assumption | omega | (simp only [alloc_n, set_n] <;> omega))) only [row_alloc, row_set]; assumption))) only [f38, W_block, ANs, A3s, AOp.map, ↓reduceIte, Nat.reduceAdd, Nat.reduceEqDiff, reduceCtorEq, initFr, Nat.reduceLT, clsA, List.take, List.drop, Nat.reduceLeDiff, Nat.reduceMul, Nat.reduceSub, reduceIte, ANc, A3c, LC_one, LC_0, LC_1, z70, ls, fl70s x.e x.c hx]
  refine hq2 _ _ ⟨_, ?_, rfl, k⟩
  simp (disch := (first | assumption | omega | (simp only [alloc_n, set_n] <;> omega) | (simp (disch := (first | assumption | omega | (simp only [alloc_n, set_n] <;> omega))) only [row_alloc, row_set]; assumption))) only [f38, W_block, ANs, A3s, AOp.map, ↓reduceIte, Nat.reduceAdd, Nat.reduceEqDiff, reduceCtorEq, initFr, Nat.reduceLT, clsA, List.take, List.drop, Nat.reduceLeDiff, Nat.reduceMul, Nat.reduceSub, reduceIte, ANc, A3c]

/-! ### The document's receiver -/
def RC (x : Lg) (b : Bool) : List Value := LC x ++ [.bool b]
theorem RC_0 (x : Lg) (b : Bool) : (RC x b)[0]? = some (.int .i64 x.e) := rfl
theorem RC_1 (x : Lg) (b : Bool) : (RC x b)[1]? = some (.int .i64 x.c) := rfl
theorem RC_70 {x : Lg} (hx : x.s.t.length = 64) (b : Bool) : (RC x b)[70]? = some (.bool b) := by
  rw [RC, List.getElem?_append_right (by rw [LC_len hx]; omega), LC_len hx]; rfl
theorem RC_len {x : Lg} (hx : x.s.t.length = 64) (b : Bool) : (RC x b).length = 71 := by rw [RC, List.length_append, LC_len hx]; rfl
theorem RC_x {x : Lg} (hx : x.s.t.length = 64) (b : Bool) : (RC x b).take 70 = LC x := by
  rw [RC, List.take_append_of_le_length (by rw [LC_len hx]; omega), List.take_of_length_le (by rw [LC_len hx]; omega)]
theorem RC_s {x : Lg} (hx : x.s.t.length = 64) (b : Bool) : ((RC x b).drop 2).take 68 = SC x.s := by
  show (SC x.s ++ [Value.bool b]).take 68 = _
  rw [List.take_append_of_le_length (by rw [SC_len hx]; omega), List.take_of_length_le (by rw [SC_len hx]; omega)]
theorem RC_set70 {x : Lg} (hx : x.s.t.length = 64) (b c : Bool) : (RC x b).set 70 (Value.bool c) = RC x c := by
  rw [RC, List.set_append_right _ _ (by rw [LC_len hx]; omega), LC_len hx]; rfl
theorem RC_upd {x : Lg} (hx : x.s.t.length = 64) (b : Bool) (y : Lg) : LC y ++ (RC x b).drop 70 = RC y b := by
  rw [RC, List.drop_append_of_le_length (by rw [LC_len hx]; omega), List.drop_of_length_le (by rw [LC_len hx]; omega)]; rfl
def RfS (H : AHeap) (r : Nat) (x : Option Lg) : Prop := H.get r = some (.cells true false 71 (RC (x.getD L0) x.isSome) 74)
theorem flA' (e c : Int) : fillA Z78 [(0, 1, .int .u8 3), (1, 1, .int .i64 e), (2, 1, .int .i64 c)] = some (GC { G0 with k := 3, e := e, c := c } (.slice none 0 0)) := rfl
/-- ack. -/
theorem t70 {H : AHeap} {r : Nat} {x : Lg} {b : Bool} (h : H.get r = some (.cells true false 71 (RC x b) 74)) : ∃ v H', ARun Try.prog 0 70 [ptr r 0] H v H' ∧ v = .agg (GC (ackM x) (.slice none 0 0)).toArray ∧ Keeps H H' := by
  refine walk2 f70_ok f70_n ?_
  intro Q hq1 hq2
  have lr := AHeap.get_lt h
  have z78 : Z78.all Value.oneCell' = true := rfl
  have zl : Z78.length = 78 := rfl
  have lg := G_len { G0 with k := 3, e := x.e, c := x.c } rfl (.slice none 0 0)
  have k := (Keeps.refl H).alloc (.cells true false 78 (GC { G0 with k := 3, e := x.e, c := x.c } (.slice none 0 0)) 38)
  have og := GC_one { G0 with k := 3, e := x.e, c := x.c } (v := .slice none 0 0) rfl
  simp (disch := (first | assumption | omega | (simp only [alloc_n, set_n] <;> omega) | (simp (disch := (first | assumption | omega | (simp only [alloc_n, set_n] <;> omega))) only [row_alloc, row_set]; assumption))) only [f70, W_block, ANs, A3s, AOp.map, ↓reduceIte, Nat.reduceAdd, Nat.reduceEqDiff, reduceCtorEq, initFr, Nat.reduceLT, clsA, List.take, List.drop, Nat.reduceLeDiff, Nat.reduceMul, Nat.reduceSub, reduceIte, ANc, A3c, z78, h, RC_0, RC_1, flA', og]
  refine hq2 _ _ ⟨_, ?_, rfl, k⟩
  simp (disch := (first | assumption | omega | (simp only [alloc_n, set_n] <;> omega) | (simp (disch := (first | assumption | omega | (simp only [alloc_n, set_n] <;> omega))) only [row_alloc, row_set]; assumption))) only [f70, W_block, ANs, A3s, AOp.map, ↓reduceIte, Nat.reduceAdd, Nat.reduceEqDiff, reduceCtorEq, initFr, Nat.reduceLT, clsA, List.take, List.drop, Nat.reduceLeDiff, Nat.reduceMul, Nat.reduceSub, reduceIte, ANc, A3c]
  rfl
/-- Begin, the document's. -/
theorem t41 {H : AHeap} {r : Nat} {x : Option Lg} {y : Lg} (h : RfS H r x) (hx : (x.getD L0).s.t.length = 64) (hy : y.s.t.length = 64) : ∃ w H', ARun Try.prog 0 41 [ptr r 0, .agg (LC y).toArray] H w H' ∧ w = .int .i64 (beginR x y).1 ∧ RfS H' r (beginR x y).2 ∧ Chg [r] H H' := by
  refine walk2 f41_ok f41_n ?_
  intro Q hq1 hq2
  have h' : H.get r = some (.cells true false 71 (RC (x.getD L0) x.isSome) 74) := h
  have lr := AHeap.get_lt h'
  have k := (Keeps.refl H).alloc (.cells true false 70 (LC y) 72)
  have ly := LC_len hy
  have lc := RC_len hx x.isSome
  have lc2 := RC_len hy x.isSome
  unfold beginR at hq2
  rw [inB2_eq] at hq2
  simp (disch := (first | assumption | omega | (simp only [alloc_n, set_n] <;> omega) | (simp (disch := (first | assumption | omega | (simp only [alloc_n, set_n] <;> omega))) only [row_alloc, row_set]; assumption))) only [f41, W_block, ANs, A3s, AOp.map, ↓reduceIte, Nat.reduceAdd, Nat.reduceEqDiff, reduceCtorEq, initFr, Nat.reduceLT, clsA, List.take, List.drop, Nat.reduceLeDiff, Nat.reduceMul, Nat.reduceSub, reduceIte, ANc, A3c, LC_one, LC_0, LC_1]
  refine callK (t68 _ y.e) ?_
  rintro _ K ⟨rfl, rfl⟩
  cases h1 : inI y.e with
  | false =>
    simp only [h1, Bool.false_and, Bool.false_eq_true, if_false] at hq2
    simp (disch := (first | assumption | omega | (simp only [alloc_n, set_n] <;> omega) | (simp (disch := (first | assumption | omega | (simp only [alloc_n, set_n] <;> omega))) only [row_alloc, row_set]; assumption))) only [W_block, ANs, A3s, AOp.map, ↓reduceIte, Nat.reduceAdd, Nat.reduceEqDiff, reduceCtorEq, initFr, Nat.reduceLT, clsA, List.take, List.drop, Nat.reduceLeDiff, Nat.reduceMul, Nat.reduceSub, reduceIte, ANc, A3c]
    exact hq2 _ _ ⟨_, rfl, rfl, k.at_ h', k.chg _⟩
  | true =>
    simp (disch := (first | assumption | omega | (simp only [alloc_n, set_n] <;> omega) | (simp (disch := (first | assumption | omega | (simp only [alloc_n, set_n] <;> omega))) only [row_alloc, row_set]; assumption))) only [W_block, ANs, A3s, AOp.map, ↓reduceIte, Nat.reduceAdd, Nat.reduceEqDiff, reduceCtorEq, initFr, Nat.reduceLT, clsA, List.take, List.drop, Nat.reduceLeDiff, Nat.reduceMul, Nat.reduceSub, reduceIte, ANc, A3c, LC_1]
    refine callK (t68 _ y.c) ?_
    rintro _ K ⟨rfl, rfl⟩
    cases h2 : inI y.c with
    | false =>
      simp only [h1, h2, Bool.and_false, Bool.false_eq_true, if_false] at hq2
      simp (disch := (first | assumption | omega | (simp only [alloc_n, set_n] <;> omega) | (simp (disch := (first | assumption | omega | (simp only [alloc_n, set_n] <;> omega))) only [row_alloc, row_set]; assumption))) only [W_block, ANs, A3s, AOp.map, ↓reduceIte, Nat.reduceAdd, Nat.reduceEqDiff, reduceCtorEq, initFr, Nat.reduceLT, clsA, List.take, List.drop, Nat.reduceLeDiff, Nat.reduceMul, Nat.reduceSub, reduceIte, ANc, A3c]
      exact hq2 _ _ ⟨_, rfl, rfl, k.at_ h', k.chg _⟩
    | true =>
      simp only [h1, h2, Bool.and_self, if_true] at hq2
      simp (disch := (first | assumption | omega | (simp only [alloc_n, set_n] <;> omega) | (simp (disch := (first | assumption | omega | (simp only [alloc_n, set_n] <;> omega))) only [row_alloc, row_set]; assumption))) only [W_block, ANs, A3s, AOp.map, ↓reduceIte, Nat.reduceAdd, Nat.reduceEqDiff, reduceCtorEq, initFr, Nat.reduceLT, clsA, List.take, List.drop, Nat.reduceLeDiff, Nat.reduceMul, Nat.reduceSub, reduceIte, ANc, A3c, h', RC_upd hx, RC_set70 hy, LC_one]
      refine hq2 _ _ ⟨_, rfl, rfl, ?_, ?_⟩
      · show _ = some (AO.cells true false 71 (RC y true) 74)
        simp (disch := (first | assumption | omega | (simp only [alloc_n, set_n] <;> omega) | (simp (disch := (first | assumption | omega | (simp only [alloc_n, set_n] <;> omega))) only [row_alloc, row_set]; assumption))) only [W_block, ANs, A3s, AOp.map, ↓reduceIte, Nat.reduceAdd, Nat.reduceEqDiff, reduceCtorEq, initFr, Nat.reduceLT, clsA, List.take, List.drop, Nat.reduceLeDiff, Nat.reduceMul, Nat.reduceSub, reduceIte, ANc, A3c, h']
      · exact (((Chg.refl [r] H).set' (.inr (by simp)) lr _).alloc _)
/-- May. -/
theorem t61 {H : AHeap} {m : Msg} {v : Value} (hs : m.s.t.length = 64) (h : TB H v m.d.l) (hl : m.d.l.length ≤ 100000) : ∃ r H', ARun Try.prog 0 61 [.agg (GC m v).toArray] H r H' ∧ r = .bool (mayB m) ∧ Keeps H H' := by
  refine walk2 f61_ok f61_n ?_
  intro Q hq1 hq2
  have k := (Keeps.refl H).alloc (.cells true false 78 (GC m v) 38)
  have og := GC_one m h.one
  unfold mayB at hq2
  rw [inB4_eq] at hq2
  simp (disch := (first | assumption | omega | (simp only [alloc_n, set_n] <;> omega) | (simp (disch := (first | assumption | omega | (simp only [alloc_n, set_n] <;> omega))) only [row_alloc, row_set]; assumption))) only [f61, W_block, ANs, A3s, AOp.map, ↓reduceIte, Nat.reduceAdd, Nat.reduceEqDiff, reduceCtorEq, initFr, Nat.reduceLT, clsA, List.take, List.drop, Nat.reduceLeDiff, Nat.reduceMul, Nat.reduceSub, reduceIte, ANc, A3c, og, GC_0]
  by_cases h1 : 1 ≤ m.k
  case neg =>
    simp only [h1, decide_false, Bool.false_and] at hq2
    simp (disch := (first | assumption | omega | (simp only [alloc_n, set_n] <;> omega) | (simp (disch := (first | assumption | omega | (simp only [alloc_n, set_n] <;> omega))) only [row_alloc, row_set]; assumption))) only [W_block, ANs, A3s, AOp.map, ↓reduceIte, Nat.reduceAdd, Nat.reduceEqDiff, reduceCtorEq, initFr, Nat.reduceLT, clsA, List.take, List.drop, Nat.reduceLeDiff, Nat.reduceMul, Nat.reduceSub, reduceIte, ANc, A3c]
    exact hq2 _ _ ⟨_, rfl, rfl, k⟩
  by_cases h2 : m.k ≤ 4
  case neg =>
    simp only [h1, h2, decide_false, decide_true, Bool.false_and, Bool.and_false] at hq2
    simp (disch := (first | assumption | omega | (simp only [alloc_n, set_n] <;> omega) | (simp (disch := (first | assumption | omega | (simp only [alloc_n, set_n] <;> omega))) only [row_alloc, row_set]; assumption))) only [W_block, ANs, A3s, AOp.map, ↓reduceIte, Nat.reduceAdd, Nat.reduceEqDiff, reduceCtorEq, initFr, Nat.reduceLT, clsA, List.take, List.drop, Nat.reduceLeDiff, Nat.reduceMul, Nat.reduceSub, reduceIte, ANc, A3c, GC_0]
    exact hq2 _ _ ⟨_, rfl, rfl, k⟩
  simp only [h1, h2, decide_true, Bool.true_and] at hq2
  simp (disch := (first | assumption | omega | (simp only [alloc_n, set_n] <;> omega) | (simp (disch := (first | assumption | omega | (simp only [alloc_n, set_n] <;> omega))) only [row_alloc, row_set]; assumption))) only [W_block, ANs, A3s, AOp.map, ↓reduceIte, Nat.reduceAdd, Nat.reduceEqDiff, reduceCtorEq, initFr, Nat.reduceLT, clsA, List.take, List.drop, Nat.reduceLeDiff, Nat.reduceMul, Nat.reduceSub, reduceIte, ANc, A3c, GC_0, GC_1]
  refine callK (t68 _ m.e) ?_
  rintro _ K ⟨rfl, rfl⟩
  cases e1 : inI m.e
  · simp only [e1, Bool.false_and] at hq2
    simp (disch := (first | assumption | omega | (simp only [alloc_n, set_n] <;> omega) | (simp (disch := (first | assumption | omega | (simp only [alloc_n, set_n] <;> omega))) only [row_alloc, row_set]; assumption))) only [W_block, ANs, A3s, AOp.map, ↓reduceIte, Nat.reduceAdd, Nat.reduceEqDiff, reduceCtorEq, initFr, Nat.reduceLT, clsA, List.take, List.drop, Nat.reduceLeDiff, Nat.reduceMul, Nat.reduceSub, reduceIte, ANc, A3c]
    exact hq2 _ _ ⟨_, rfl, rfl, k⟩
  simp (disch := (first | assumption | omega | (simp only [alloc_n, set_n] <;> omega) | (simp (disch := (first | assumption | omega | (simp only [alloc_n, set_n] <;> omega))) only [row_alloc, row_set]; assumption))) only [W_block, ANs, A3s, AOp.map, ↓reduceIte, Nat.reduceAdd, Nat.reduceEqDiff, reduceCtorEq, initFr, Nat.reduceLT, clsA, List.take, List.drop, Nat.reduceLeDiff, Nat.reduceMul, Nat.reduceSub, reduceIte, ANc, A3c, GC_2]
  refine callK (t68 _ m.c) ?_
  rintro _ K ⟨rfl, rfl⟩
  cases e2 : inI m.c
  · simp only [e1, e2, Bool.false_and, Bool.and_false] at hq2
    simp (disch := (first | assumption | omega | (simp only [alloc_n, set_n] <;> omega) | (simp (disch := (first | assumption | omega | (simp only [alloc_n, set_n] <;> omega))) only [row_alloc, row_set]; assumption))) only [W_block, ANs, A3s, AOp.map, ↓reduceIte, Nat.reduceAdd, Nat.reduceEqDiff, reduceCtorEq, initFr, Nat.reduceLT, clsA, List.take, List.drop, Nat.reduceLeDiff, Nat.reduceMul, Nat.reduceSub, reduceIte, ANc, A3c]
    exact hq2 _ _ ⟨_, rfl, rfl, k⟩
  simp (disch := (first | assumption | omega | (simp only [alloc_n, set_n] <;> omega) | (simp (disch := (first | assumption | omega | (simp only [alloc_n, set_n] <;> omega))) only [row_alloc, row_set]; assumption))) only [W_block, ANs, A3s, AOp.map, ↓reduceIte, Nat.reduceAdd, Nat.reduceEqDiff, reduceCtorEq, initFr, Nat.reduceLT, clsA, List.take, List.drop, Nat.reduceLeDiff, Nat.reduceMul, Nat.reduceSub, reduceIte, ANc, A3c, GC_3]
  refine callK (t68 _ m.be) ?_
  rintro _ K ⟨rfl, rfl⟩
  cases e3 : inI m.be
  · simp only [e1, e2, e3, Bool.false_and, Bool.and_false] at hq2
    simp (disch := (first | assumption | omega | (simp only [alloc_n, set_n] <;> omega) | (simp (disch := (first | assumption | omega | (simp only [alloc_n, set_n] <;> omega))) only [row_alloc, row_set]; assumption))) only [W_block, ANs, A3s, AOp.map, ↓reduceIte, Nat.reduceAdd, Nat.reduceEqDiff, reduceCtorEq, initFr, Nat.reduceLT, clsA, List.take, List.drop, Nat.reduceLeDiff, Nat.reduceMul, Nat.reduceSub, reduceIte, ANc, A3c]
    exact hq2 _ _ ⟨_, rfl, rfl, k⟩
  simp (disch := (first | assumption | omega | (simp only [alloc_n, set_n] <;> omega) | (simp (disch := (first | assumption | omega | (simp only [alloc_n, set_n] <;> omega))) only [row_alloc, row_set]; assumption))) only [W_block, ANs, A3s, AOp.map, ↓reduceIte, Nat.reduceAdd, Nat.reduceEqDiff, reduceCtorEq, initFr, Nat.reduceLT, clsA, List.take, List.drop, Nat.reduceLeDiff, Nat.reduceMul, Nat.reduceSub, reduceIte, ANc, A3c, GC_4]
  refine callK (t68 _ m.b) ?_
  rintro _ K ⟨rfl, rfl⟩
  cases e4 : inI m.b
  · simp only [e1, e2, e3, e4, Bool.false_and, Bool.and_false] at hq2
    simp (disch := (first | assumption | omega | (simp only [alloc_n, set_n] <;> omega) | (simp (disch := (first | assumption | omega | (simp only [alloc_n, set_n] <;> omega))) only [row_alloc, row_set]; assumption))) only [W_block, ANs, A3s, AOp.map, ↓reduceIte, Nat.reduceAdd, Nat.reduceEqDiff, reduceCtorEq, initFr, Nat.reduceLT, clsA, List.take, List.drop, Nat.reduceLeDiff, Nat.reduceMul, Nat.reduceSub, reduceIte, ANc, A3c]
    exact hq2 _ _ ⟨_, rfl, rfl, k⟩
  simp only [e1, e2, e3, e4, Bool.true_and] at hq2
  simp (disch := (first | assumption | omega | (simp only [alloc_n, set_n] <;> omega) | (simp (disch := (first | assumption | omega | (simp only [alloc_n, set_n] <;> omega))) only [row_alloc, row_set]; assumption))) only [W_block, ANs, A3s, AOp.map, ↓reduceIte, Nat.reduceAdd, Nat.reduceEqDiff, reduceCtorEq, initFr, Nat.reduceLT, clsA, List.take, List.drop, Nat.reduceLeDiff, Nat.reduceMul, Nat.reduceSub, reduceIte, ANc, A3c, GC_77 hs]
  refine callK (t32 (h.keeps k) hl) ?_
  rintro _ K ⟨rfl, rfl⟩
  simp (disch := (first | assumption | omega | (simp only [alloc_n, set_n] <;> omega) | (simp (disch := (first | assumption | omega | (simp only [alloc_n, set_n] <;> omega))) only [row_alloc, row_set]; assumption))) only [W_block, ANs, A3s, AOp.map, ↓reduceIte, Nat.reduceAdd, Nat.reduceEqDiff, reduceCtorEq, initFr, Nat.reduceLT, clsA, List.take, List.drop, Nat.reduceLeDiff, Nat.reduceMul, Nat.reduceSub, reduceIte, ANc, A3c]
  exact hq2 _ _ ⟨_, rfl, rfl, k⟩
/-- spoil. -/
theorem t43 {H : AHeap} {m : Msg} {v : Value} (hs : m.s.t.length = 64) (h : AP H 90 2 v m.d.l.length (TC m.d.l)) (hl : m.d.l.length ≤ 64) : ∃ r H', ARun Try.prog 0 43 [.agg (GC m v).toArray] H r H' ∧ Chg (blkL v) H H' := by
  obtain ⟨r, H', h1, _, h2⟩ : ∃ r H', ARun Try.prog 0 43 [.agg (GC m v).toArray] H r H' ∧ True ∧ Chg (blkL v) H H' := by
    refine walk2 f43_ok f43_n ?_
    intro Q hq1 hq2
    have k := (Keeps.refl H).alloc (.cells true false 78 (GC m v) 41)
    obtain ⟨a, ha⟩ := h.shape
    have his : isS v = true := by rw [ha]; rfl
    have hlen : lenS v = m.d.l.length := by rw [ha]; rfl
    have og := GC_one m (v := v) (by rw [ha]; rfl)
    have bnv := AP.bn h
    simp (disch := (first | assumption | omega | (simp only [alloc_n, set_n] <;> omega) | (simp (disch := (first | assumption | omega | (simp only [alloc_n, set_n] <;> omega))) only [row_alloc, row_set]; assumption))) only [f43, W_block, ANs, A3s, AOp.map, ↓reduceIte, Nat.reduceAdd, Nat.reduceEqDiff, reduceCtorEq, initFr, Nat.reduceLT, clsA, List.take, List.drop, Nat.reduceLeDiff, Nat.reduceMul, Nat.reduceSub, reduceIte, ANc, A3c, og, GC_77 hs]
    rcases h with ⟨rfl, h0, _⟩ | ⟨b, room, rfl, h1, h2⟩
    · refine W_loop2 (fun q fr K => K = H.alloc (.cells true false 78 (GC m (.slice none 0 0)) 41) ∧ ∃ y4 : Value, fr = [.agg (GC m (.slice none 0 0)).toArray, ptr H.n 0, .slice none 0 0, .int .i64 0, y4]) 0 ⟨rfl, _, rfl⟩ ?_
      rintro Q' q fr K ⟨rfl, y4, rfl⟩ hn he hr
      simp (disch := (first | assumption | omega | (simp only [alloc_n, set_n] <;> omega) | (simp (disch := (first | assumption | omega | (simp only [alloc_n, set_n] <;> omega))) only [row_alloc, row_set]; assumption))) only [W_block, ANs, A3s, AOp.map, ↓reduceIte, Nat.reduceAdd, Nat.reduceEqDiff, reduceCtorEq, initFr, Nat.reduceLT, clsA, List.take, List.drop, Nat.reduceLeDiff, Nat.reduceMul, Nat.reduceSub, reduceIte, ANc, A3c]
      refine he _ _ _ ?_
      simp (disch := (first | assumption | omega | (simp only [alloc_n, set_n] <;> omega) | (simp (disch := (first | assumption | omega | (simp only [alloc_n, set_n] <;> omega))) only [row_alloc, row_set]; assumption))) only [W_block, ANs, A3s, AOp.map, ↓reduceIte, Nat.reduceAdd, Nat.reduceEqDiff, reduceCtorEq, initFr, Nat.reduceLT, clsA, List.take, List.drop, Nat.reduceLeDiff, Nat.reduceMul, Nat.reduceSub, reduceIte, ANc, A3c]
      exact hq1 _ _ ⟨_, rfl, trivial, k.chg _⟩
    · have hb := AHeap.get_lt h2
      refine W_loop2 (fun q fr K => ∃ (i : Nat) (c : List Value) (y4 : Value), q = m.d.l.length - i ∧ i ≤ m.d.l.length ∧ K.get b = some (.cells true room 2 c 90) ∧ c.length = m.d.l.length * 2 ∧ Chg [b] H K ∧ fr = [.agg (GC m (slc b 0 m.d.l.length m.d.l.length)).toArray, ptr H.n 0, slc b 0 m.d.l.length m.d.l.length, .int .i64 i, y4]) m.d.l.length
        ⟨0, _, _, rfl, by omega, k.at_ h2, h1, k.chg _, rfl⟩ ?_
      rintro Q' q fr K ⟨i, c, y4, rfl, hi, hK, hc, hch, rfl⟩ hn he hr
      have lb := AHeap.get_lt hK
      by_cases hlt : i < m.d.l.length
      · have fl : fillA [.int .i64 0, .int .u8 0] [(0, 1, .int .i64 99)] = some [.int .i64 99, .int .u8 0] := rfl
        have st : asem (.storen 2 (ptr b (i * 2)) (.agg [.int .i64 99, .int .u8 0].toArray)) K = some (undef, K.set b (.cells true room 2 (c.take (i * 2) ++ [.int .i64 99, .int .u8 0] ++ c.drop (i * 2 + 2)) 90)) := by
          rw [a_storen hK, if_pos ⟨by omega, rfl, rfl⟩]; rfl
        simp (disch := (first | assumption | omega | (simp only [alloc_n, set_n] <;> omega) | (simp (disch := (first | assumption | omega | (simp only [alloc_n, set_n] <;> omega))) only [row_alloc, row_set]; assumption))) only [W_block, ANs, A3s, AOp.map, ↓reduceIte, Nat.reduceAdd, Nat.reduceEqDiff, reduceCtorEq, initFr, Nat.reduceLT, clsA, List.take, List.drop, Nat.reduceLeDiff, Nat.reduceMul, Nat.reduceSub, reduceIte, ANc, A3c, fl, st, wrap_succ (n := i) (by omega)]
        refine hn _ _ _ ⟨i + 1, _, _, rfl, by omega, get1 hK _, ?_, hch.set' (.inr (by simp)) lb _, rfl⟩ (by omega)
        simp; omega
      · simp (disch := (first | assumption | omega | (simp only [alloc_n, set_n] <;> omega) | (simp (disch := (first | assumption | omega | (simp only [alloc_n, set_n] <;> omega))) only [row_alloc, row_set]; assumption))) only [W_block, ANs, A3s, AOp.map, ↓reduceIte, Nat.reduceAdd, Nat.reduceEqDiff, reduceCtorEq, initFr, Nat.reduceLT, clsA, List.take, List.drop, Nat.reduceLeDiff, Nat.reduceMul, Nat.reduceSub, reduceIte, ANc, A3c]
        refine he _ _ _ ?_
        simp (disch := (first | assumption | omega | (simp only [alloc_n, set_n] <;> omega) | (simp (disch := (first | assumption | omega | (simp only [alloc_n, set_n] <;> omega))) only [row_alloc, row_set]; assumption))) only [W_block, ANs, A3s, AOp.map, ↓reduceIte, Nat.reduceAdd, Nat.reduceEqDiff, reduceCtorEq, initFr, Nat.reduceLT, clsA, List.take, List.drop, Nat.reduceLeDiff, Nat.reduceMul, Nat.reduceSub, reduceIte, ANc, A3c]
        exact hq1 _ _ ⟨_, rfl, trivial, hch.mono (by intro z hz; simp at hz; subst hz; simp [mem_blkL, blk, slc])⟩
  exact ⟨r, H', h1, h2⟩
/-- NewSender. -/
theorem t22 (H : AHeap) : ∃ w H', ARun Try.prog 0 22 [] H w H' ∧ w = ptr H.n 0 ∧ H' = H.alloc (.cells true false 2 [.slice none 0 0, .int .i64 (-1)] 99) := by
  refine walk2 f22_ok f22_n ?_
  intro Q hq1 hq2
  have fl : fillA [.slice none 0 0, .int .i64 0] [(1, 1, .int .i64 (-1))] = some [.slice none 0 0, .int .i64 (-1)] := rfl
  simp (disch := (first | assumption | omega | (simp only [alloc_n, set_n] <;> omega) | (simp (disch := (first | assumption | omega | (simp only [alloc_n, set_n] <;> omega))) only [row_alloc, row_set]; assumption))) only [f22, W_block, ANs, A3s, AOp.map, ↓reduceIte, Nat.reduceAdd, Nat.reduceEqDiff, reduceCtorEq, initFr, Nat.reduceLT, clsA, List.take, List.drop, Nat.reduceLeDiff, Nat.reduceMul, Nat.reduceSub, reduceIte, ANc, A3c, fl]
  exact hq2 _ _ ⟨_, rfl, rfl, rfl⟩
end Go.AM.Rp
