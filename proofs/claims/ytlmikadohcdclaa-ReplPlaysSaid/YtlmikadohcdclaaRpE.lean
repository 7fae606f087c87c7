/- Part of the proof: RpE. -/
import Derived.Test.YtlmikadohcdclaaRpD
set_option linter.unusedSimpArgs false
set_option linter.unusedVariables false
namespace Go.AM.Rp
open Go.Proofs

/-! ### States -/
structure S where
  a : Nat
  b : Nat
  c : Nat
  t : List Int
  p : Nat
def tv (n : Int) : Value := .int .u8 n
def SC (s : S) : List Value := .int .u64 s.a :: .int .u64 s.b :: .int .u64 s.c :: (s.t.map tv ++ [.int .u32 s.p])
structure SOK (s : S) : Prop where
  ht : s.t.length = 64
  ha : s.a < 18446744073709551616
  hb : s.b < 18446744073709551616
  hc : s.c < 18446744073709551616
  hp : s.p < 4294967296
theorem SC_len {s : S} (h : s.t.length = 64) : (SC s).length = 68 := by simp [SC, h]
theorem SC_one (s : S) : (SC s).all Value.oneCell' = true := by
  simp only [SC, List.all_cons, List.all_append, one_int, List.all_nil, Bool.and_true, Bool.true_and]
  rw [List.all_eq_true]
  intro v hv
  obtain ⟨n, _, rfl⟩ := List.mem_map.1 hv
  rfl
theorem SC_t {s : S} {i : Nat} (hi : i < s.t.length) : (SC s)[3 + i]? = some (tv s.t[i]) := by
  rw [show 3 + i = i + 1 + 1 + 1 by omega]
  simp only [SC, List.getElem?_cons_succ]
  rw [List.getElem?_append_left (by simpa using hi)]
  simp [hi]
theorem SC_set {s : S} {i : Nat} (hi : i < s.t.length) (n : Int) : (SC s).set (3 + i) (tv n) = SC { s with t := s.t.set i n } := by
  rw [show 3 + i = i + 1 + 1 + 1 by omega]
  simp only [SC, List.set_cons_succ]
  rw [List.set_append_left _ _ (by simpa using hi), List.map_set]
theorem SC_67 {s : S} (h : s.t.length = 64) : (SC s)[67]? = some (.int .u32 s.p) := by
  simp only [SC, List.getElem?_cons_succ]
  rw [List.getElem?_append_right (by simp [h])]
  simp [h]
theorem SC_set67 {s : S} (h : s.t.length = 64) (n : Nat) : (SC s).set 67 (.int .u32 n) = SC { s with p := n } := by
  simp only [SC, List.set_cons_succ]
  rw [List.set_append_right _ _ (by simp [h])]
  simp [h]
def xr (w a b : Nat) : Nat := (BitVec.ofNat w a ^^^ BitVec.ofNat w b).toNat
theorem w_x64 (a b : Nat) : IntKind.u64.wrap ((BitVec.ofInt IntKind.u64.bits (a : Int) ^^^ BitVec.ofInt IntKind.u64.bits (b : Int)).toNat : Int) = (xr 64 a b : Nat) := by
  show IntKind.u64.wrap ((BitVec.ofInt 64 (a : Int) ^^^ BitVec.ofInt 64 (b : Int)).toNat : Int) = _
  rw [BitVec.ofInt_natCast, BitVec.ofInt_natCast, wrap_u64]
  have := (BitVec.ofNat 64 a ^^^ BitVec.ofNat 64 b).isLt
  unfold xr
  rw [Int.emod_eq_of_lt (by omega) (by omega)]
theorem w_x32 (a b : Nat) : IntKind.u32.wrap ((BitVec.ofInt IntKind.u32.bits (a : Int) ^^^ BitVec.ofInt IntKind.u32.bits (b : Int)).toNat : Int) = (xr 32 a b : Nat) := by
  show IntKind.u32.wrap ((BitVec.ofInt 32 (a : Int) ^^^ BitVec.ofInt 32 (b : Int)).toNat : Int) = _
  rw [BitVec.ofInt_natCast, BitVec.ofInt_natCast, wrap_u32]
  have := (BitVec.ofNat 32 a ^^^ BitVec.ofNat 32 b).isLt
  unfold xr
  rw [Int.emod_eq_of_lt (by omega) (by omega)]
theorem xr_lt (w a b : Nat) : xr w a b < 2 ^ w := (BitVec.ofNat w a ^^^ BitVec.ofNat w b).isLt
theorem xr_xr (w a b : Nat) (hb : b < 2 ^ w) : xr w a (xr w a b) = b := by
  unfold xr
  rw [BitVec.ofNat_toNat, BitVec.setWidth_eq, ← BitVec.xor_assoc, BitVec.xor_self, BitVec.zero_xor, BitVec.toNat_ofNat, Nat.mod_eq_of_lt hb]

structure D where
  a : Nat
  b : Nat
  c : Nat
  p : Nat
  l : List (Int × Int)
def patchT (t : List Int) (l : List (Int × Int)) : List Int := l.foldl (fun t x => t.set x.1.toNat x.2) t
theorem patchT_len : ∀ (l : List (Int × Int)) (t : List Int), (patchT t l).length = t.length
  | [], t => rfl
  | x :: l, t => by
    have := patchT_len l (t.set x.1.toNat x.2)
    rw [List.length_set] at this
    exact this
def patchS (s : S) (d : D) : S := ⟨xr 64 s.a d.a, xr 64 s.b d.b, xr 64 s.c d.c, patchT s.t d.l, xr 32 s.p d.p⟩
def S0 : S := ⟨0, 0, 0, List.replicate 64 0, 0⟩
theorem S0_eq : Z68 = SC S0 := rfl
def patchR (s : S) (d : D) : Int × S := if riseF (-1) d.l then (0, patchS s d) else (2, S0)

theorem rise_in : ∀ (l : List (Int × Int)) (p : Int), -1 ≤ p → riseF p l = true → ∀ x ∈ l, 0 ≤ x.1 ∧ x.1 < 64
  | [], _, _, _ => by simp
  | y :: l, p, hp, h => by
    simp only [riseF] at h
    split at h
    · cases h
    · intro x hx
      rcases List.mem_cons.1 hx with rfl | hx
      · omega
      · exact rise_in l y.1 (by omega) h x hx

theorem resCn (n j i : Nat) {fr : List Value} {H : AHeap} {b : Nat} {cs : List Value} (h1 : fr.getD i undef = ptr b 0) (h2 : rangeA H b 0 n = some cs) : resO [.cn n i, .t j] fr H = some (.tuple #[.agg cs.toArray, fr.getD j undef]) := by
  simp only [resO, resVs, RX.get, h1, ptr, celln, h2, Option.map_some]
  rfl
theorem resC1 (n i : Nat) {fr : List Value} {H : AHeap} {b : Nat} {cs : List Value} (h1 : fr.getD i undef = ptr b 0) (h2 : rangeA H b 0 n = some cs) : resO [.cn n i] fr H = some (.agg cs.toArray) := by
  simp only [resO, resVs, RX.get, h1, ptr, celln, h2, Option.map_some]
  rfl
theorem full {H : AHeap} {b n e : Nat} {l : List Value} (h : H.get b = some (.cells true false n l e)) (hl : l.length = n) : rangeA H b 0 n = some l := by
  rw [rangeA_of h, if_pos (by omega), List.drop_zero, List.take_of_length_le (by omega)]
theorem set2 (H : AHeap) (b : Nat) (X Y : AO) : (H.set b X).set b Y = H.set b Y := by simp [AHeap.set]
theorem get1 {H : AHeap} {b : Nat} {o : AO} (h : H.get b = some o) (X : AO) : (H.set b X).get b = some X := AHeap.get_set_same h X
/-- A whole block is laid anew. -/
theorem stAll {H : AHeap} {b n e : Nat} {c l : List Value} (h : H.get b = some (.cells true false n c e)) (hc : c.length = n) (hl : l.length = n) (h1 : l.all Value.oneCell' = true) : asem (.storen n (ptr b 0) (.agg l.toArray)) H = some (undef, H.set b (.cells true false n l e)) := by
  rw [a_storen h, if_pos ⟨by omega, by simp [Value.cells, hl], by simpa [Value.cells] using h1⟩]
  simp only [List.take_zero, List.nil_append, Nat.zero_add, Value.cells]
  rw [List.drop_of_length_le (by omega)]
  simp
section
variable {P : Program} {ng : Nat} {fr tm : List Value} {H : AHeap} {d : D} {KF : List Value → AHeap → Prop}
theorem st_iaddrp {d : Go.AM.D} {r : List AOper} (e n : Nat) (x i : Value) : stR P ng (.iaddrp e n x i) d r fr tm H KF = goR P ng (asem (.iaddrp e n x i) H) d r fr tm KF := st_of d r (by simp) (by simp)
theorem sd_iaddrp {d : Go.AM.D} {un : List Nat} {rd : List (AOper × List Nat)} {tr : List TE} (e n : Nat) (x i : Value) : stD P ng (.iaddrp e n x i) d un rd fr tm H tr KF = goD P ng (.iaddrp e n x i) (asem (.iaddrp e n x i) H) d un rd fr tm H tr KF := stD_of d un rd (by simp) (by simp)
theorem st_idxa {d : Go.AM.D} {r : List AOper} (a : Bool) (e n : Nat) (x i : Value) : stR P ng (.idxa a e n x i) d r fr tm H KF = goR P ng (asem (.idxa a e n x i) H) d r fr tm KF := st_of d r (by simp) (by simp)
theorem st_eqs {d : Go.AM.D} {r : List AOper} (cs : List Nat) (n : Bool) (x y : Value) : stR P ng (.eqs cs n x y) d r fr tm H KF = goR P ng (asem (.eqs cs n x y) H) d r fr tm KF := st_of d r (by simp) (by simp)
theorem sd_eqs {d : Go.AM.D} {un : List Nat} {rd : List (AOper × List Nat)} {tr : List TE} (cs : List Nat) (n : Bool) (x y : Value) : stD P ng (.eqs cs n x y) d un rd fr tm H tr KF = goD P ng (.eqs cs n x y) (asem (.eqs cs n x y) H) d un rd fr tm H tr KF := stD_of d un rd (by simp) (by simp)
end
theorem a_iaddrp (b o n : Nat) (e : Nat) (k : IntKind) (i : Nat) (hi : i < n) (H : AHeap) : asem (.iaddrp e n (ptr b o) (.int k (i : Int))) H = some (ptr b (o + i * e), H) := by
  simp only [asem, ptr]
  rw [if_pos (by omega)]; simp
theorem a_st68 {H : AHeap} {b : Nat} {s : S} {e : Nat} (h : H.get b = some (.cells true false 68 (SC s) e)) (hs : s.t.length = 64) {o : Nat} (ho : o < 68) {x : Value} (hx : one1 x) : asem (.store1 (ptr b o) x) H = some (undef, H.set b (.cells true false 68 ((SC s).set o x) e)) := a_st h (by rw [SC_len hs]; exact ho) hx

/-- Patch. -/
theorem t10 {H : AHeap} {s : S} {d : D} {v : Value} (hs : s.t.length = 64) (h : TB H v d.l) (hl : d.l.length ≤ 100000) : ∃ r H', ARun Try.prog 0 10 [.agg (SC s).toArray, .agg [.int .u64 d.a, .int .u64 d.b, .int .u64 d.c, .int .u32 d.p, v].toArray] H r H' ∧ r = .tuple #[.agg (SC (patchR s d).2).toArray, .int .i64 (patchR s d).1] ∧ Keeps H H' := by
  refine walk2 f10_ok f10_n ?_
  intro Q hq1 hq2
  have hc5 : (Value.agg [.int .u64 d.a, .int .u64 d.b, .int .u64 d.c, .int .u32 d.p, v].toArray).cells.toList = [.int .u64 d.a, .int .u64 d.b, .int .u64 d.c, .int .u32 d.p, v] := rfl
  have hc68 : (Value.agg (SC s).toArray).cells.toList = SC s := by simp [Value.cells]
  obtain ⟨Ha, hHa⟩ : ∃ X, X = H.alloc (.cells true false 68 (SC s) 26) := ⟨_, rfl⟩
  have ka := (Keeps.refl H).alloc (.cells true false 68 (SC s) 26)
  have ga := AHeap.get_alloc_new H (.cells true false 68 (SC s) 26)
  rw [← hHa] at ka ga
  have na : Ha.n = H.n + 1 := by rw [hHa]; rfl
  obtain ⟨Hb, hHb⟩ : ∃ X, X = Ha.alloc (.cells true false 5 [.int .u64 d.a, .int .u64 d.b, .int .u64 d.c, .int .u32 d.p, v] 29) := ⟨_, rfl⟩
  have kb := (Keeps.refl Ha).alloc (.cells true false 5 [.int .u64 d.a, .int .u64 d.b, .int .u64 d.c, .int .u32 d.p, v] 29)
  have gb := AHeap.get_alloc_new Ha (.cells true false 5 [.int .u64 d.a, .int .u64 d.b, .int .u64 d.c, .int .u32 d.p, v] 29)
  rw [← hHb] at kb gb
  have nb : Hb.n = H.n + 2 := by rw [hHb, alloc_n, na]
  obtain ⟨Hc, hHc⟩ : ∃ X, X = Hb.alloc (.cells true false 68 Z68 26) := ⟨_, rfl⟩
  have kc := (Keeps.refl Hb).alloc (.cells true false 68 Z68 26)
  have gc := AHeap.get_alloc_new Hb (.cells true false 68 Z68 26)
  rw [← hHc] at kc gc
  have nc : Hc.n = H.n + 3 := by rw [hHc, alloc_n, nb]
  have ga := kc.at_ (kb.at_ ga)
  have gb := kc.at_ gb
  have kAll := (ka.trans kb).trans kc
  have z68 : Z68.all Value.oneCell' = true := rfl
  simp only [f10, W_block, ANs, AOp.map, ↓reduceIte, Nat.reduceAdd, Nat.reduceEqDiff, reduceCtorEq, initFr, Nat.reduceLT, ANc, hc68, SC_one, hc5, h.one, ← hHa, ← hHb, ← hHc, z68, full gb rfl]
  obtain ⟨_, H1, r1, rfl, k1⟩ := t31 (h.keeps kAll) d.a d.b d.c d.p hl
  refine ⟨_, _, r1, ?_⟩
  unfold patchR at hq1 hq2
  have ga1 := k1.at_ ga
  have gb1 := k1.at_ gb
  have gc1 := k1.at_ gc
  have n1 := k1.n
  cases hr : riseF (-1) d.l
  · simp only [hr, Bool.false_eq_true, if_false] at hq2
    have st : asem (.storen 68 (ptr Hb.n 0) (.agg Z68.toArray)) H1 = _ := stAll gc1 rfl rfl z68
    simp only [W_block, ANs, AOp.map, ↓reduceIte, Nat.reduceAdd, Nat.reduceEqDiff, reduceCtorEq, initFr, Nat.reduceLT, ANc, fillA, st]
    refine hq2 _ _ ⟨_, resCn 68 5 4 (b := Hb.n) (cs := Z68) rfl (full (get1 gc1 _) rfl), rfl, (kAll.trans k1).chg_trans (Chg.set H1 (AHeap.get_lt gc1) _) (by simp; omega)⟩
  · simp only [hr, if_true] at hq2
    have dc : ∀ X k, cellA (H1.set H.n X) Ha.n k = ([.int .u64 d.a, .int .u64 d.b, .int .u64 d.c, .int .u32 d.p, v] : List Value)[k]? := fun X k => cellA_of ((Chg.set H1 (b := H.n) (AHeap.get_lt ga1) X).at_ gb1 (by simp; omega))
    have s0 : cellA H1 H.n 0 = some (.int .u64 s.a) := by rw [cellA_of ga1]; rfl
    have e1 : asem (.store1 (ptr H.n 0) (.int .u64 (xr 64 s.a d.a))) H1 = some (undef, H1.set H.n (.cells true false 68 (SC { s with a := xr 64 s.a d.a }) 26)) := a_st68 ga1 hs (by omega) rfl
    have e2 : asem (.store1 (ptr H.n 1) (.int .u64 (xr 64 s.b d.b))) (H1.set H.n (.cells true false 68 (SC { s with a := xr 64 s.a d.a }) 26)) = some (undef, H1.set H.n (.cells true false 68 (SC { s with a := xr 64 s.a d.a, b := xr 64 s.b d.b }) 26)) := by
      have := a_st68 (e := 26) (s := { s with a := xr 64 s.a d.a }) (get1 ga1 _) hs (o := 1) (by omega) (x := .int .u64 (xr 64 s.b d.b)) rfl
      rw [set2] at this; exact this
    have e3 : asem (.store1 (ptr H.n 2) (.int .u64 (xr 64 s.c d.c))) (H1.set H.n (.cells true false 68 (SC { s with a := xr 64 s.a d.a, b := xr 64 s.b d.b }) 26)) = some (undef, H1.set H.n (.cells true false 68 (SC { s with a := xr 64 s.a d.a, b := xr 64 s.b d.b, c := xr 64 s.c d.c }) 26)) := by
      have := a_st68 (e := 26) (s := { s with a := xr 64 s.a d.a, b := xr 64 s.b d.b }) (get1 ga1 _) hs (o := 2) (by omega) (x := .int .u64 (xr 64 s.c d.c)) rfl
      rw [set2] at this; exact this
    have e4 : asem (.store1 (ptr H.n 67) (.int .u32 (xr 32 s.p d.p))) (H1.set H.n (.cells true false 68 (SC { s with a := xr 64 s.a d.a, b := xr 64 s.b d.b, c := xr 64 s.c d.c }) 26)) = some (undef, H1.set H.n (.cells true false 68 (SC { s with a := xr 64 s.a d.a, b := xr 64 s.b d.b, c := xr 64 s.c d.c, p := xr 32 s.p d.p }) 26)) := by
      have := a_st68 (e := 26) (s := { s with a := xr 64 s.a d.a, b := xr 64 s.b d.b, c := xr 64 s.c d.c }) (get1 ga1 _) hs (o := 67) (by omega) (x := .int .u32 (xr 32 s.p d.p)) rfl
      rw [set2, SC_set67 (by exact hs)] at this; exact this
    have c1 : cellA (H1.set H.n (.cells true false 68 (SC { s with a := xr 64 s.a d.a }) 26)) H.n 1 = some (.int .u64 s.b) := by rw [cellA_of (get1 ga1 _)]; rfl
    have c2 : cellA (H1.set H.n (.cells true false 68 (SC { s with a := xr 64 s.a d.a, b := xr 64 s.b d.b }) 26)) H.n 2 = some (.int .u64 s.c) := by rw [cellA_of (get1 ga1 _)]; rfl
    have c3 : cellA (H1.set H.n (.cells true false 68 (SC { s with a := xr 64 s.a d.a, b := xr 64 s.b d.b, c := xr 64 s.c d.c }) 26)) H.n 67 = some (.int .u32 s.p) := by rw [cellA_of (get1 ga1 _), SC_67 (by exact hs)]
    have hlen : ∀ X, asem (.len false v) X = some (.int .i64 d.l.length, X) := by obtain ⟨a, k, hv, _⟩ := h; intro X; rw [hv]; rfl
    simp only [W_block, ANs, AOp.map, ↓reduceIte, Nat.reduceAdd, Nat.reduceEqDiff, reduceCtorEq, initFr, Nat.reduceLT, ANc, s0, cellA_of gb1, w_x64, w_x32, e1, c1, dc, e2, c2, e3, c3, e4, hlen]
    have kA1 := kAll.trans k1
    refine W_loop2 (fun q fr H2 => ∃ (i : Nat) (t : List Int) (y6 y7 y11 : Value), fr = [.agg (SC s).toArray, .agg [.int .u64 d.a, .int .u64 d.b, .int .u64 d.c, .int .u32 d.p, v].toArray, ptr H.n 0, ptr Ha.n 0, ptr Hb.n 0, .int .i64 0, y6, y7, v, .int .i64 d.l.length, .int .i64 i, y11] ∧ i ≤ d.l.length ∧ q = d.l.length - i ∧ Keeps H H2 ∧
      t.length = 64 ∧ patchT s.t d.l = patchT t (d.l.drop i) ∧ H2.get H.n = some (.cells true false 68 (SC ⟨xr 64 s.a d.a, xr 64 s.b d.b, xr 64 s.c d.c, t, xr 32 s.p d.p⟩) 26) ∧ H2.get Hb.n = some (.cells true false 68 Z68 26)) d.l.length ?_ ?_
    · exact ⟨0, s.t, _, _, _, rfl, by omega, by omega, kA1.chg_trans (Chg.set H1 (AHeap.get_lt ga1) _) (by simp), hs, by simp, get1 ga1 _, (Chg.set H1 (b := H.n) (AHeap.get_lt ga1) _).at_ gc1 (by simp; omega)⟩
    · rintro Q' q fr H2 ⟨i, t, y6, y7, y11, rfl, h1, rfl, k2, p1, p2, p3, p4⟩ hnext hexit hret
      by_cases hi : i < d.l.length
      · obtain ⟨b, k', f1, f2, f3, f4⟩ := (h.keeps k2).at_ hi
        have hin := rise_in d.l (-1) (by omega) hr d.l[i] (List.getElem_mem hi)
        rw [List.drop_eq_getElem_cons hi] at p2
        generalize d.l[i] = x at *
        obtain ⟨⟨r, hxr⟩, hr64⟩ : (∃ r : Nat, x.1 = r) ∧ x.1 < 64 := ⟨⟨x.1.toNat, by omega⟩, hin.2⟩
        rw [hxr] at f2 f3
        have v2 := var2 H2 90 (r : Int) x.2
        have g2 := AHeap.get_alloc_new H2 (.cells true false 2 [.int .i64 (r : Int), .int .u8 x.2] 90)
        have kk := (Keeps.refl H2).alloc (.cells true false 2 [.int .i64 (r : Int), .int .u8 x.2] 90)
        obtain ⟨H3, hH3⟩ : ∃ X, X = H2.alloc (.cells true false 2 [.int .i64 (r : Int), .int .u8 x.2] 90) := ⟨_, rfl⟩
        rw [← hH3] at v2 g2 kk
        have p3' := kk.at_ p3
        have p4' := kk.at_ p4
        have hrt : r < t.length := by omega
        have st : asem (.store1 (ptr H.n (3 + r)) (.int .u8 x.2)) H3 = some (undef, H3.set H.n (.cells true false 68 (SC ⟨xr 64 s.a d.a, xr 64 s.b d.b, xr 64 s.c d.c, t.set r x.2, xr 32 s.p d.p⟩) 26)) := by
          have := a_st68 (e := 26) p3' (by exact p1) (o := 3 + r) (by omega) (x := .int .u8 x.2) rfl
          rw [this]
          have e := SC_set (s := ⟨xr 64 s.a d.a, xr 64 s.b d.b, xr 64 s.c d.c, t, xr 32 s.p d.p⟩) (i := r) hrt x.2
          unfold tv at e
          rw [e]
        rw [f1]
        simp only [W_block, ANs, AOp.map, ↓reduceIte, Nat.reduceAdd, Nat.reduceEqDiff, reduceCtorEq, initFr, Nat.reduceLT, ANc, show (i : Int) < (d.l.length : Int) by omega, decide_true, show (0 : Int) ≤ (i : Int) by omega, f2, v2, cellA_of g2, st_iaddrp, a_iaddrp _ _ 64 1 _ r (by omega), st, wrap_succ (n := i) (by omega)]
        rw [← f1]
        refine hnext _ _ _ ⟨i + 1, t.set r x.2, _, _, _, rfl, by omega, rfl, (k2.trans kk).chg_trans (Chg.set H3 (AHeap.get_lt p3') _) (by simp), by simpa using p1, ?_, get1 p3' _, (Chg.set H3 (b := H.n) (AHeap.get_lt p3') _).at_ p4' (by simp; omega)⟩ (by omega)
        rw [p2]
        show patchT (t.set x.1.toNat x.2) _ = _
        rw [hxr]; rfl
      · simp only [W_block, ANs, AOp.map, ↓reduceIte, Nat.reduceAdd, Nat.reduceEqDiff, reduceCtorEq, initFr, Nat.reduceLT, ANc, show ¬ (i : Int) < (d.l.length : Int) by omega, decide_false]
        refine hexit _ _ _ ?_
        rw [List.drop_of_length_le (by omega)] at p2
        have p2 : patchT s.t d.l = t := p2
        subst p2
        have st := stAll p4 rfl (SC_len (s := patchS s d) p1) (SC_one _)
        simp only [W_block, ANs, AOp.map, ↓reduceIte, Nat.reduceAdd, Nat.reduceEqDiff, reduceCtorEq, initFr, Nat.reduceLT, ANc, full p3 (SC_len (by exact p1))]
        unfold patchS at st hq2
        simp only [W_block, ANs, AOp.map, ↓reduceIte, Nat.reduceAdd, Nat.reduceEqDiff, reduceCtorEq, initFr, Nat.reduceLT, ANc, st]
        exact hq2 _ _ ⟨_, resCn 68 5 4 (b := Hb.n) rfl (full (get1 p4 _) (SC_len p1)), rfl, k2.chg_trans (Chg.set H2 (AHeap.get_lt p4) _) (by simp; omega)⟩
end Go.AM.Rp
