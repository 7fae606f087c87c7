/- Part of the proof. -/
import Derived.Test.YtlmikadohcdclaaRqJ
set_option linter.unusedSimpArgs false
set_option linter.unusedVariables false
namespace Go.AM.Rp
open Go.Proofs

/-! ### What the steps keep -/
theorem rise_app {l : List Lg} {x : Lg} (h : Rise l) (hx : ∀ (h0 : 0 < l.length), cmpL l[l.length - 1] x < 0) : Rise (l ++ [x]) := by
  intro i j hi hj hij
  simp only [List.length_append, List.length_cons, List.length_nil] at hi hj
  rcases Nat.lt_or_ge j l.length with h1 | h1
  · rw [List.getElem_append_left (by omega), List.getElem_append_left h1]; exact h i j (by omega) h1 hij
  · have : j = l.length := by omega
    subst this
    rw [List.getElem_append_left (by omega), List.getElem_append_right (by omega)]
    simp only [Nat.sub_self, List.getElem_cons_zero]
    have h2 := hx (by omega)
    rcases Nat.lt_or_ge i (l.length - 1) with h3 | h3
    · have h4 := h i (l.length - 1) (by omega) (by omega) h3
      rw [cmpL_lt] at h2 h4 ⊢; omega
    · have : i = l.length - 1 := by omega
      subst this; exact h2
theorem rise_drop {l : List Lg} (h : Rise l) (n : Nat) : Rise (l.drop n) := by
  intro i j hi hj hij
  simp only [List.length_drop] at hi hj
  simp only [List.getElem_drop]
  exact h _ _ (by omega) (by omega) (by omega)
structure LOK (l : List Lg) (a : Nat) : Prop where
  r : Rise l
  n : l.length ≤ 8
  a : a ≤ l.length
theorem LOK.offer {l : List Lg} {a : Nat} (h : LOK l a) (x : Lg) : LOK (offerR l a x).2.1 (offerR l a x).2.2 := by
  unfold offerR
  by_cases h1 : inB [x.e, x.c] = false
  · rw [if_pos h1]; exact h
  rw [if_neg h1]
  by_cases h2 : 0 < l.length ∧ cmpL x (lst l) ≤ 0
  · rw [if_pos h2]; exact h
  rw [if_neg h2]
  have hr : Rise (l ++ [x]) := rise_app h.r (fun h0 => by
    have hls : lst l = l[l.length - 1] := by unfold lst; rw [List.getD_eq_getElem?_getD, List.getElem?_eq_getElem (by omega)]; rfl
    have h3 : ¬ cmpL x (lst l) ≤ 0 := fun h3 => h2 ⟨h0, h3⟩
    have h4 : ¬ cmpL x (lst l) < 0 := fun h => h3 (by omega)
    have h5 : ¬ cmpL x (lst l) = 0 := fun h => h3 (by omega)
    rw [← hls]
    rw [cmpL_lt] at h4 ⊢
    rw [cmpL_eq] at h5
    omega)
  have hn := h.n
  have ha := h.a
  by_cases h8 : 8 < l.length + 1
  · rw [if_pos h8]; exact ⟨rise_drop hr 1, by simp; omega, by simp; omega⟩
  · rw [if_neg h8]; exact ⟨hr, by simp; omega, by simp; omega⟩
theorem LOK.hear {l : List Lg} {a : Nat} (h : LOK l a) (m : Msg) : LOK l (hearS l a m).2 := by
  have ha := h.a
  refine ⟨h.r, h.n, ?_⟩
  unfold hearS
  split
  · exact ha
  · split
    · exact Nat.zero_le _
    · split
      · rename_i i hf
        have := (List.findIdx?_eq_some_iff_getElem.1 hf).1
        simp; omega
      · exact ha
def X64 (x : Option Lg) : Prop := ∀ y, x = some y → y.s.t.length = 64
theorem X64.begin {x : Option Lg} (h : X64 x) {y : Lg} (hy : y.s.t.length = 64) : X64 (beginR x y).2 := by
  unfold beginR; split
  · intro z hz; cases hz; exact hy
  · exact h
theorem X64.hear {x : Option Lg} (h : X64 x) {m : Msg} (hm : m.s.t.length = 64) : X64 (hearR x m).2.2.2 := by
  unfold hearR
  split
  · exact h
  · split
    · rename_i x0 
      split
      · exact h
      · split
        · intro z hz; cases hz; exact hm
        · split
          · exact h
          · intro z hz; cases hz; exact patchR_len (h x0 rfl) m.d
    · split
      · intro z hz; cases hz; exact hm
      · exact h
theorem X64.get {x : Option Lg} (h : X64 x) : (x.getD L0).s.t.length = 64 := by
  cases x with
  | none => rfl
  | some y => exact h y rfl

/-! ### Things of a row of calls -/
def thSf (s : Nat) (v : Value) (l : List Lg) (a : Nat) : Th where
  P H := SfV H s v l a
  F := s :: blkL v
  lt H h b hb := by
    rcases List.mem_cons.1 hb with rfl | hb
    · exact AHeap.get_lt h.g
    · exact AP.lt h.ap (mem_blkL.1 hb)
  st H H' h hn k := ⟨by rw [k s (by simp)]; exact h.g, AP.stay h.ap (fun b hb => k b (by simp [hb])), h.ne, h.ok⟩
def thRf (r : Nat) (x : Option Lg) : Th where
  P H := RfS H r x
  F := [r]
  lt H h b hb := by simp at hb; subst hb; exact AHeap.get_lt (show H.get b = _ from h)
  st H H' h _ k := by show H'.get r = _; rw [k r (by simp)]; exact h
def thT (v : Value) (l : List (Int × Int)) : Th where
  P H := TB H v l
  F := if l = [] then [] else blkL v
  lt H h b hb := by
    split at hb
    · cases hb
    · rename_i hl; exact TB.lt h hl (mem_blkL.1 hb)
  st H H' h _ k := h.chgL (fun hne b hb => k b (by rw [if_neg hne]; exact hb))
structure CA where
  k : Nat
  x : Lg
  m : Msg
  v : Value
def CC (c : CA) : List Value := .int .u8 c.k :: (LC c.x ++ GC c.m c.v)
structure CAok (c : CA) : Prop where
  x : c.x.s.t.length = 64
  m : c.m.s.t.length = 64
theorem CC_len {c : CA} (h : CAok c) : (CC c).length = 149 := by simp [CC, LC_len h.x, GC_len h.m]
theorem CC_0 (c : CA) : (CC c)[0]? = some (.int .u8 c.k) := rfl
theorem CC_x {c : CA} (h : CAok c) : ((CC c).drop 1).take 70 = LC c.x := by
  show (LC c.x ++ GC c.m c.v).take 70 = _
  rw [List.take_append_of_le_length (by rw [LC_len h.x]; omega), List.take_of_length_le (by rw [LC_len h.x]; omega)]
theorem CC_m {c : CA} (h : CAok c) : ((CC c).drop 71).take 78 = GC c.m c.v := by
  show ((LC c.x ++ GC c.m c.v).drop 70).take 78 = _
  rw [show (LC c.x ++ GC c.m c.v).drop 70 = GC c.m c.v by rw [← LC_len h.x, List.drop_left], List.take_of_length_le (by rw [GC_len h.m]; omega)]
theorem CC_one {c : CA} (h : c.v.oneCell' = true) : (CC c).all Value.oneCell' = true := by
  simp only [CC, List.all_cons, List.all_append, LC_one, GC_one c.m h, one_int]; rfl
theorem CC_77 {c : CA} (h : CAok c) : (CC c)[148]? = some c.v := by
  show (LC c.x ++ GC c.m c.v)[147]? = _
  rw [List.getElem?_append_right (by rw [LC_len h.x]; omega), LC_len h.x]
  exact GC_77 h.m c.v
def thC (v : Value) (cs : List CA) : Th where
  P H := Sl H 149 v (cs.map CC) ∧ ∀ c ∈ cs, TB H c.v c.m.d.l ∧ CAok c
  F := aB v ++ cs.flatMap fun c => mB (c.m, c.v)
  lt H h b hb := by
    rcases List.mem_append.1 hb with hb | hb
    · exact Sl.lt h.1 hb
    · obtain ⟨c, hc, hb⟩ := List.mem_flatMap.1 hb
      unfold mB at hb
      split at hb
      · cases hb
      · rename_i hl; exact TB.lt (h.2 c hc).1 hl (mem_blkL.1 hb)
  st H H' h _ k := ⟨Sl.stay h.1 (fun b hb => k b (by simp [hb])), fun c hc => ⟨(h.2 c hc).1.chgL (fun hne b hb => k b (List.mem_append_right _ (List.mem_flatMap.2 ⟨c, hc, by unfold mB; rw [if_neg hne]; exact hb⟩))), (h.2 c hc).2⟩⟩

/-! ### The calls, on things apart -/
section
variable {H : AHeap} {A B : List Th} {s r : Nat} {u v p : Value} {l : List Lg} {a : Nat} {x : Option Lg} {y : Lg} {m : Msg}
theorem Sep.at_ {t : Th} : ∀ {A : List Th}, Sep H (A ++ t :: B) → t.P H := fun h => h.all _ (by simp)
theorem s15 (h : Sep H (A ++ thS s u l a :: B)) (hk : LOK l a) (hy : y.s.t.length = 64) : ∃ w H', ARun Try.prog 0 15 [ptr s 0, .agg (LC y).toArray] H w H' ∧ w = .int .i64 (offerR l a y).1 ∧ ∃ u', Sep H' (A ++ thS s u' (offerR l a y).2.1 (offerR l a y).2.2 :: B) := by
  have hS : SdV H s u l a := Sep.at_ h
  obtain ⟨w, H', r1, r2, u', r3, r4, r5⟩ := t15 (x := y) hS hy (by have := hk.n; omega) (by have := hk.n; have := hk.a; omega)
  refine ⟨w, H', r1, r2, u', h.upd (t' := thS s u' _ _) r4 r3 ?_⟩
  intro b hb
  rcases List.mem_cons.1 hb with rfl | hb
  · exact .inl (by simp [thS])
  · rcases r5 b (mem_blkL.1 hb) with h1 | h1
    · exact .inl (by simp [thS, mem_blkL, h1])
    · exact .inr h1
theorem s37 (h : Sep H (A ++ thSf s u l a :: B)) (hk : LOK l a) (hy : y.s.t.length = 64) : ∃ w H', ARun Try.prog 0 37 [ptr s 0, .agg (LC y).toArray] H w H' ∧ w = .int .i64 (offerR l a y).1 ∧ ∃ u', Sep H' (A ++ thSf s u' (offerR l a y).2.1 (offerR l a y).2.2 :: B) := by
  have hS : SfV H s u l a := Sep.at_ h
  obtain ⟨w, H', r1, r2, u', r3, r4, r5⟩ := t37 (x := y) hS hy (by have := hk.n; omega) (by have := hk.n; have := hk.a; omega)
  refine ⟨w, H', r1, r2, u', h.upd (t' := thSf s u' _ _) r4 r3 ?_⟩
  intro b hb
  rcases List.mem_cons.1 hb with rfl | hb
  · exact .inl (by simp [thSf])
  · rcases r5 b (mem_blkL.1 hb) with h1 | h1
    · exact .inl (by simp [thSf, mem_blkL, h1])
    · exact .inr h1
theorem s19 (h : Sep H (A ++ thS s u l a :: B)) (hk : LOK l a) (hm : m.s.t.length = 64) (ht : TB H v m.d.l) (hl : m.d.l.length ≤ 100000) : ∃ w H', ARun Try.prog 0 19 [ptr s 0, .agg (GC m v).toArray] H w H' ∧ w = .int .i64 (hearS l a m).1 ∧ Sep H' (A ++ thS s u l (hearS l a m).2 :: B) := by
  have hS : SdV H s u l a := Sep.at_ h
  obtain ⟨w, H', r1, r2, r3, r4⟩ := t19 hS hk.r (by have := hk.n; omega) hk.a hm ht hl
  exact ⟨w, H', r1, r2, h.upd (t' := thS s u l _) (r4.mono (fun z hz => by simp at hz; subst hz; simp [thS])) r3 (fun b hb => .inl hb)⟩
theorem s39 (h : Sep H (A ++ thSf s u l a :: B)) (hk : LOK l a) (hm : m.s.t.length = 64) (ht : TB H v m.d.l) (hl : m.d.l.length ≤ 100000) : ∃ w H', ARun Try.prog 0 39 [ptr s 0, .agg (GC m v).toArray] H w H' ∧ w = .int .i64 (hearS l a m).1 ∧ Sep H' (A ++ thSf s u l (hearS l a m).2 :: B) := by
  have hS : SfV H s u l a := Sep.at_ h
  obtain ⟨w, H', r1, r2, r3, r4⟩ := t39 hS hk.r (by have := hk.n; omega) hk.a hm ht hl
  exact ⟨w, H', r1, r2, h.upd (t' := thSf s u l _) (r4.mono (fun z hz => by simp at hz; subst hz; simp [thSf])) r3 (fun b hb => .inl hb)⟩
theorem rcv {H' : AHeap} {x' : Option Lg} (h : Sep H (A ++ thR r p x :: B)) (r3 : RvS H' r x') (r4 : Chg [r] H H') (r5 : cellA H' r 0 = cellA H r 0 ∨ ∃ b, cellA H' r 0 = some (ptr b 0) ∧ H.n ≤ b) : ∃ p', Sep H' (A ++ thR r p' x' :: B) := by
  have hR : RvV H r p x := Sep.at_ h
  obtain ⟨p', q1, q2⟩ := r3.v
  refine ⟨p', h.upd (t' := thR r p' x') (r4.mono (fun z hz => by simp at hz; subst hz; simp [thR])) q1 ?_⟩
  intro b hb
  rcases List.mem_cons.1 hb with rfl | hb
  · exact .inl (by simp [thR])
  · rcases r5 with e | ⟨b', e, hb'⟩
    · rw [q2, hR.c] at e; cases e; exact .inl (List.mem_cons_of_mem _ hb)
    · rw [q2] at e; cases e; simp [blkL, blk, ptr] at hb; subst hb; exact .inr hb'
theorem s17 (h : Sep H (A ++ thR r p x :: B)) (hx : X64 x) (hm : m.s.t.length = 64) (ht : TB H v m.d.l) (hl : m.d.l.length ≤ 100000) : ∃ w H', ARun Try.prog 0 17 [ptr r 0, .agg (GC m v).toArray] H w H' ∧ w = .tuple #[.agg (GC (hearR x m).1 (.slice none 0 0)).toArray, .bool (hearR x m).2.1, .int .i64 (hearR x m).2.2.1] ∧ ∃ p', Sep H' (A ++ thR r p' (hearR x m).2.2.2 :: B) := by
  have hR : RvV H r p x := Sep.at_ h
  obtain ⟨w, H', r1, r2, r3, r4, r5⟩ := t17 hR.s hx hm ht hl
  exact ⟨w, H', r1, r2, rcv h r3 r4 r5⟩
theorem s30 (h : Sep H (A ++ thR r p x :: B)) : ∃ w H', ARun Try.prog 0 30 [ptr r 0, .agg (LC y).toArray] H w H' ∧ w = .int .i64 (beginR x y).1 ∧ ∃ p', Sep H' (A ++ thR r p' (beginR x y).2 :: B) := by
  have hR : RvV H r p x := Sep.at_ h
  obtain ⟨w, H', r1, r2, r3, r4, r5⟩ := t30 (y := y) hR.s
  exact ⟨w, H', r1, r2, rcv h r3 r4 r5⟩
theorem s40 (h : Sep H (A ++ thRf r x :: B)) (hx : X64 x) (hm : m.s.t.length = 64) (ht : TB H v m.d.l) (hl : m.d.l.length ≤ 100000) : ∃ w H', ARun Try.prog 0 40 [ptr r 0, .agg (GC m v).toArray] H w H' ∧ w = .tuple #[.agg (GC (hearR x m).1 (.slice none 0 0)).toArray, .bool (hearR x m).2.1, .int .i64 (hearR x m).2.2.1] ∧ Sep H' (A ++ thRf r (hearR x m).2.2.2 :: B) := by
  have hR : RfS H r x := Sep.at_ h
  obtain ⟨w, H', r1, r2, r3, r4⟩ := t40 hR hx hm ht hl
  exact ⟨w, H', r1, r2, h.upd (t' := thRf r _) r4 r3 (fun b hb => .inl hb)⟩
theorem s41 (h : Sep H (A ++ thRf r x :: B)) (hx : X64 x) (hy : y.s.t.length = 64) : ∃ w H', ARun Try.prog 0 41 [ptr r 0, .agg (LC y).toArray] H w H' ∧ w = .int .i64 (beginR x y).1 ∧ Sep H' (A ++ thRf r (beginR x y).2 :: B) := by
  have hR : RfS H r x := Sep.at_ h
  obtain ⟨w, H', r1, r2, r3, r4⟩ := t41 hR hx.get hy
  exact ⟨w, H', r1, r2, h.upd (t' := thRf r _) r4 r3 (fun b hb => .inl hb)⟩
end
/-- few. -/
theorem t21 {H : AHeap} {v : Value} {cs : List CA} (h : (thC v cs).P H) : ∃ w H', ARun Try.prog 0 21 [v] H w H' ∧ H' = H ∧ ∃ b : Bool, w = .bool b ∧ (b = true → cs.length ≤ 100 ∧ ∀ c ∈ cs, c.m.d.l.length ≤ 1000) := by
  refine walk2 f21_ok f21_n ?_
  intro Q hq1 hq2
  have hs := h.1
  have his := hs.is
  have hlen := hs.len
  rw [List.length_map] at hlen
  by_cases hc : 100 < cs.length
  · simp (disch := (first | assumption | omega | (simp only [alloc_n, set_n] <;> omega) | (simp (disch := (first | assumption | omega | (simp only [alloc_n, set_n] <;> omega))) only [row_alloc, row_set]; assumption))) only [f21, W_block, ANs, A3s, AOp.map, ↓reduceIte, Nat.reduceAdd, Nat.reduceEqDiff, reduceCtorEq, initFr, Nat.reduceLT, clsA, List.take, List.drop, Nat.reduceLeDiff, Nat.reduceMul, Nat.reduceSub, reduceIte, ANc, A3c, hlen]
    exact hq2 _ _ ⟨_, rfl, rfl, false, rfl, by simp⟩
  simp (disch := (first | assumption | omega | (simp only [alloc_n, set_n] <;> omega) | (simp (disch := (first | assumption | omega | (simp only [alloc_n, set_n] <;> omega))) only [row_alloc, row_set]; assumption))) only [f21, W_block, ANs, A3s, AOp.map, ↓reduceIte, Nat.reduceAdd, Nat.reduceEqDiff, reduceCtorEq, initFr, Nat.reduceLT, clsA, List.take, List.drop, Nat.reduceLeDiff, Nat.reduceMul, Nat.reduceSub, reduceIte, ANc, A3c, hlen]
  refine W_loop2 (fun q fr K => K = H ∧ ∃ (i n : Nat) (y5 y6 : Value), q = cs.length - i ∧ i ≤ cs.length ∧ n ≤ 1000 ∧ (∀ (j : Nat) (hj : j < cs.length), j < i → cs[j].m.d.l.length ≤ 1000) ∧ fr = [v, .bool false, .int .i64 n, .int .i64 i, .bool false, y5, y6]) cs.length ⟨rfl, 0, 0, _, _, rfl, by omega, by omega, by omega, rfl⟩ ?_
  rintro Q' q fr K ⟨rfl, i, n, y5, y6, rfl, hi, hn1, hall, rfl⟩ hn he hr
  by_cases hlt : i < cs.length
  · obtain ⟨nn, hrow⟩ := hs.at_ (by omega) (i := i) (by simpa using hlt)
    rw [List.getElem_map] at hrow
    have hmem : cs[i] ∈ cs := List.getElem_mem _
    obtain ⟨tb, hok⟩ := h.2 _ hmem
    obtain ⟨a, k, ev, _⟩ := tb
    have isv : isS cs[i].v = true := by rw [ev]; rfl
    have lenv : lenS cs[i].v = cs[i].m.d.l.length := by rw [ev]; rfl
    have hsub : IntKind.i64.wrap (1000 - (n : Int)) = 1000 - (n : Int) := wrap_i64 (by omega) (by omega)
    by_cases hbig : (1000 : Int) - n < cs[i].m.d.l.length
    · simp (disch := (first | assumption | omega | (simp only [alloc_n, set_n] <;> omega) | (simp (disch := (first | assumption | omega | (simp only [alloc_n, set_n] <;> omega))) only [row_alloc, row_set]; assumption))) only [W_block, ANs, A3s, AOp.map, ↓reduceIte, Nat.reduceAdd, Nat.reduceEqDiff, reduceCtorEq, initFr, Nat.reduceLT, clsA, List.take, List.drop, Nat.reduceLeDiff, Nat.reduceMul, Nat.reduceSub, reduceIte, ANc, A3c, his, hlen, CC_77 hok, isv, lenv, hsub]
      exact hr _ _ (by simp (disch := (first | assumption | omega | (simp only [alloc_n, set_n] <;> omega) | (simp (disch := (first | assumption | omega | (simp only [alloc_n, set_n] <;> omega))) only [row_alloc, row_set]; assumption))) only [W_block, ANs, A3s, AOp.map, ↓reduceIte, Nat.reduceAdd, Nat.reduceEqDiff, reduceCtorEq, initFr, Nat.reduceLT, clsA, List.take, List.drop, Nat.reduceLeDiff, Nat.reduceMul, Nat.reduceSub, reduceIte, ANc, A3c]; exact hq2 _ _ ⟨_, rfl, rfl, false, rfl, by simp⟩)
    · have hadd : IntKind.i64.wrap ((n : Int) + (cs[i].m.d.l.length : Int)) = ((n + cs[i].m.d.l.length : Nat) : Int) := by rw [wrap_i64 (by omega) (by omega)]; push_cast; rfl
      simp (disch := (first | assumption | omega | (simp only [alloc_n, set_n] <;> omega) | (simp (disch := (first | assumption | omega | (simp only [alloc_n, set_n] <;> omega))) only [row_alloc, row_set]; assumption))) only [W_block, ANs, A3s, AOp.map, ↓reduceIte, Nat.reduceAdd, Nat.reduceEqDiff, reduceCtorEq, initFr, Nat.reduceLT, clsA, List.take, List.drop, Nat.reduceLeDiff, Nat.reduceMul, Nat.reduceSub, reduceIte, ANc, A3c, his, hlen, CC_77 hok, isv, lenv, hsub, hadd, wrap_succ (n := i) (by omega)]
      refine hn _ _ _ ⟨rfl, i + 1, n + cs[i].m.d.l.length, _, _, rfl, by omega, by omega, ?_, rfl⟩ (by omega)
      intro j hj hji
      rcases Nat.lt_or_ge j i with h1 | h1
      · exact hall j hj h1
      · have : j = i := by omega
        subst this; omega
  · simp (disch := (first | assumption | omega | (simp only [alloc_n, set_n] <;> omega) | (simp (disch := (first | assumption | omega | (simp only [alloc_n, set_n] <;> omega))) only [row_alloc, row_set]; assumption))) only [W_block, ANs, A3s, AOp.map, ↓reduceIte, Nat.reduceAdd, Nat.reduceEqDiff, reduceCtorEq, initFr, Nat.reduceLT, clsA, List.take, List.drop, Nat.reduceLeDiff, Nat.reduceMul, Nat.reduceSub, reduceIte, ANc, A3c, his, hlen]
    refine he _ _ _ ?_
    simp (disch := (first | assumption | omega | (simp only [alloc_n, set_n] <;> omega) | (simp (disch := (first | assumption | omega | (simp only [alloc_n, set_n] <;> omega))) only [row_alloc, row_set]; assumption))) only [W_block, ANs, A3s, AOp.map, ↓reduceIte, Nat.reduceAdd, Nat.reduceEqDiff, reduceCtorEq, initFr, Nat.reduceLT, clsA, List.take, List.drop, Nat.reduceLeDiff, Nat.reduceMul, Nat.reduceSub, reduceIte, ANc, A3c]
    refine hq2 _ _ ⟨_, rfl, rfl, true, rfl, fun _ => ⟨by omega, ?_⟩⟩
    intro c hc2
    obtain ⟨j, hj, rfl⟩ := List.mem_iff_getElem.1 hc2
    exact hall j hj (by omega)
end Go.AM.Rp

namespace Go.AM.Rp
open Go.Proofs

theorem a_eqb (n : Bool) (a b : Bool) (H : AHeap) : asem (.eqv 0 n (.bool a) (.bool b)) H = some (.bool (if n then !(a == b) else (a == b)), H) := rfl

/-- tells. -/
theorem t24 {H : AHeap} {s r sf rf : Nat} {u p v : Value} {l : List Lg} {a : Nat} {x : Option Lg} {T : List Th} (h : Sep H (thS s u l a :: thR r p x :: thSf sf v l a :: thRf rf x :: T)) (hk : LOK l a) (hx : X64 x) :
    ∃ w H', ARun Try.prog 0 24 [ptr s 0, ptr r 0, ptr sf 0, ptr rf 0] H w H' ∧ w = .bool true ∧ Keeps H H' := by
  refine walk2 f24_ok f24_n ?_
  intro Q hq1 hq2
  have hn := hk.n
  have ha := hk.a
  have hS : SdV H s u l a := h.get 0 rfl
  have hSk : Ok64 l := hS.2.2.2
  have hack : (ackL l a).s.t.length = 64 := ackL_ok hSk ha
  have zl7 : Z70.length = 70 := rfl
  have lA := LC_len hack
  have oA := LC_one (ackL l a)
  have lX := LC_len hx.get
  have oX := LC_one (x.getD L0)
  simp (disch := (first | assumption | omega | (simp only [alloc_n, set_n] <;> omega) | (simp (disch := (first | assumption | omega | (simp only [alloc_n, set_n] <;> omega))) only [row_alloc, row_set]; assumption))) only [f24, W_block, ANs, A3s, AOp.map, ↓reduceIte, Nat.reduceAdd, Nat.reduceEqDiff, reduceCtorEq, initFr, Nat.reduceLT, clsA, List.take, List.drop, Nat.reduceLeDiff, Nat.reduceMul, Nat.reduceSub, reduceIte, ANc, A3c]
  refine callK (t29 hS.s (by omega) ha) ?_
  rintro _ K1 ⟨rfl, k1⟩
  have kb1 := (Keeps.refl K1).alloc (.cells true false 70 (LC (ackL l a)) 54)
  have s1 := (h.keeps k1).keeps kb1
  have hR : RvV _ r p x := s1.get 1 rfl
  simp (disch := (first | assumption | omega | (simp only [alloc_n, set_n] <;> omega) | (simp (disch := (first | assumption | omega | (simp only [alloc_n, set_n] <;> omega))) only [row_alloc, row_set]; assumption))) only [W_block, ANs, A3s, AOp.map, ↓reduceIte, Nat.reduceAdd, Nat.reduceEqDiff, reduceCtorEq, initFr, Nat.reduceLT, clsA, List.take, List.drop, Nat.reduceLeDiff, Nat.reduceMul, Nat.reduceSub, reduceIte, ANc, A3c, z70, oA]
  refine callK (t20 hR.s hx) ?_
  rintro _ K2 ⟨rfl, k2⟩
  have s2 := s1.keeps k2
  have g1 : K2.get K1.n = some (.cells true false 70 (LC (ackL l a)) 54) := k2.at_ (AHeap.get_alloc_new K1 _)
  have l1 := AHeap.get_lt g1
  have hSf : SfV K2 sf v l a := s2.get 2 rfl
  have hRf : RfS K2 rf x := s2.get 3 rfl
  have gSf := hSf.g
  have gRf : K2.get rf = some (.cells true false 71 (RC (x.getD L0) x.isSome) 74) := hRf
  have lSf := AHeap.get_lt gSf
  have lRf := AHeap.get_lt gRf
  have his := hSf.sl.is
  have hlen := hSf.sl.len
  rw [List.length_map] at hlen
  have lrc := RC_len hx.get x.isSome
  have hbv : bn v ≤ K2.n := AP.bn hSf.ap
  have hbs := bn_ne hSf.ne
  have kk := (k1.trans kb1).trans k2
  obtain ⟨K3, hK3⟩ : ∃ K3, K3 = (K2.alloc (.cells true false 70 (LC (x.getD L0)) 54)).alloc (.cells true false 70 (LC (ackL l a)) 72) := ⟨_, rfl⟩
  have k3 : Keeps K2 K3 := by rw [hK3]; exact ((Keeps.refl K2).alloc _).alloc _
  have gx3 : K3.get K2.n = some (.cells true false 70 (LC (x.getD L0)) 54) := by rw [hK3, g_old _ (by simp [alloc_n]), g_new _ rfl]
  have gw3 : K3.get (K2.n + 1) = some (.cells true false 70 (LC (ackL l a)) 72) := by rw [hK3]; exact g_new _ rfl
  -- what is wanted
  have fin : ∀ fr : List Value, fr.length = 11 → fr.getD 2 undef = ptr sf 0 → fr.getD 3 undef = ptr rf 0 → fr.getD 5 undef = ptr K1.n 0 → fr.getD 6 undef = .bool (decide (0 < a)) → fr.getD 7 undef = ptr K2.n 0 → fr.getD 8 undef = .bool x.isSome → fr.getD 9 undef = ptr (K2.n + 1) 0 → W Try.prog 0 (.seq (.dreg [
    (⟨.loadn 70 (.fr 5), .tm, none⟩, []),
    (⟨.callf 38 [(.tm 0)], .tm, none⟩, []),
    (⟨.loadn 70 (.fr 9), .tm, none⟩, [1]),
    (⟨.eqs O70 false (.tm 1) (.tm 0), .tm, none⟩, []),
    (⟨.mov (.tm 0), .tm, none⟩, []),
    (⟨.mov (.fr 6), .tm, some ((.tm 0), true)⟩, []),
    (⟨.mov (.fr 2), .tm, some ((.tm 1), true)⟩, []),
    (⟨.nilck (.tm 0), .tm, some ((.tm 2), true)⟩, []),
    (⟨.faddr 1 (.tm 0), .tm, some ((.tm 3), true)⟩, []),
    (⟨.load1 (.tm 0), .tm, some ((.tm 4), true)⟩, []),
    (⟨.bin .geq (.tm 0) (.c (.int .i64 0)), .tm, some ((.tm 5), true)⟩, []),
    (⟨.eqv 0 false (.tm 5) (.tm 0), .tm, some ((.tm 6), true)⟩, []),
    (⟨.pick (.tm 7) (.tm 0) (.c (.bool false)), .tm, none⟩, []),
    (⟨.mov (.tm 0), .tm, none⟩, []),
    (⟨.loadn 70 (.fr 7), .tm, some ((.tm 0), true)⟩, []),
    (⟨.callf 38 [(.tm 0)], .tm, some ((.tm 1), true)⟩, []),
    (⟨.mov (.fr 3), .tm, some ((.tm 2), true)⟩, []),
    (⟨.nilck (.tm 0), .tm, some ((.tm 3), true)⟩, []),
    (⟨.faddr 0 (.tm 0), .tm, some ((.tm 4), true)⟩, []),
    (⟨.loadn 70 (.tm 0), .tm, some ((.tm 5), true)⟩, [15]),
    (⟨.eqs O70 false (.tm 4) (.tm 0), .tm, some ((.tm 6), true)⟩, []),
    (⟨.pick (.tm 7) (.tm 0) (.c (.bool false)), .tm, none⟩, []),
    (⟨.mov (.tm 0), .tm, none⟩, []),
    (⟨.mov (.fr 8), .tm, some ((.tm 0), true)⟩, []),
    (⟨.mov (.fr 3), .tm, some ((.tm 1), true)⟩, []),
    (⟨.nilck (.tm 0), .tm, some ((.tm 2), true)⟩, []),
    (⟨.faddr 70 (.tm 0), .tm, some ((.tm 3), true)⟩, []),
    (⟨.load1 (.tm 0), .tm, some ((.tm 4), true)⟩, []),
    (⟨.eqv 0 false (.tm 4) (.tm 0), .tm, some ((.tm 5), true)⟩, []),
    (⟨.pick (.tm 6) (.tm 0) (.c (.bool false)), .tm, none⟩, []),
    (⟨.mov (.tm 0), .fr 4, none⟩, [])]) .ret) Q fr K3 := by
    intro fr hfl e2 e3 e5 e6 e7 e8 e9
    have n3 := k3.n
    have g13 := k3.at_ g1
    have gSf3 := k3.at_ gSf
    have gRf3 := k3.at_ gRf
    have lx3 := AHeap.get_lt gx3
    have lw3 := AHeap.get_lt gw3
    simp (disch := (first | assumption | omega | (simp only [alloc_n, set_n] <;> omega) | (simp (disch := (first | assumption | omega | (simp only [alloc_n, set_n] <;> omega))) only [row_alloc, row_set]; assumption))) only [W_block, ANs, A3s, AOp.map, ↓reduceIte, Nat.reduceAdd, Nat.reduceEqDiff, reduceCtorEq, initFr, Nat.reduceLT, clsA, List.take, List.drop, Nat.reduceLeDiff, Nat.reduceMul, Nat.reduceSub, reduceIte, ANc, A3c, e5, g13]
    refine callK (t38 K3 hack) ?_
    rintro _ K4 ⟨rfl, k4⟩
    have n4 := k4.n
    have hdec : (decide (0 < a) == decide ((0 : Int) ≤ (a : Int) - 1)) = true := by
      by_cases h0 : 0 < a
      · simp [h0]; omega
      · simp [h0]; omega
    simp (disch := (first | assumption | omega | (simp only [alloc_n, set_n] <;> omega) | (simp (disch := (first | assumption | omega | (simp only [alloc_n, set_n] <;> omega))) only [row_alloc, row_set, Keeps.row k4]; assumption))) only [Keeps.get k4, Keeps.row k4, W_block, ANs, A3s, AOp.map, ↓reduceIte, Nat.reduceAdd, Nat.reduceEqDiff, reduceCtorEq, initFr, Nat.reduceLT, clsA, List.take, List.drop, Nat.reduceLeDiff, Nat.reduceMul, Nat.reduceSub, reduceIte, ANc, A3c, e9, gw3, a_eqse, eqL_yes hack, e6, e2, gSf3, hdec, a_eqb, e7, gx3]
    refine callK (t38 K4 hx.get) ?_
    rintro _ K5 ⟨rfl, k5⟩
    have n5 := k5.n
    simp (disch := (first | assumption | omega | (simp only [alloc_n, set_n] <;> omega) | (simp (disch := (first | assumption | omega | (simp only [alloc_n, set_n] <;> omega))) only [row_alloc, row_set, Keeps.row k4, Keeps.row k5]; assumption))) only [Keeps.get k4, Keeps.get k5, Keeps.row k4, Keeps.row k5, W_block, ANs, A3s, AOp.map, ↓reduceIte, Nat.reduceAdd, Nat.reduceEqDiff, reduceCtorEq, initFr, Nat.reduceLT, clsA, List.take, List.drop, Nat.reduceLeDiff, Nat.reduceMul, Nat.reduceSub, reduceIte, ANc, A3c, e3, gRf3, RC_x hx.get, a_eqse, eqL_yes hx.get, e8, RC_70 hx.get, a_eqb]
    refine hq2 _ _ ⟨_, rfl, ?_, ((kk.trans k3).trans k4).trans k5⟩
    show (fr.set 4 _).getD 4 undef = _
    simp [List.getD_eq_getElem?_getD, hfl]
  by_cases h0 : 0 < a
  · obtain ⟨nn, hrow⟩ := hSf.sl.at_ (by omega) (i := a - 1) (by simp; omega)
    have hak : l[a - 1] = ackL l a := by unfold ackL; rw [if_neg (by omega), List.getD_eq_getElem?_getD, List.getElem?_eq_getElem (by omega)]; rfl
    rw [List.getElem_map, hak] at hrow
    have hto : ((a : Int) - 1).toNat = a - 1 := by omega
    have := fin [ptr s 0, ptr r 0, ptr sf 0, ptr rf 0, .bool false, ptr K1.n 0, .bool (decide (0 < a)), ptr K2.n 0, .bool x.isSome, ptr (K2.n + 1) 0, .bool true] rfl rfl rfl rfl rfl rfl rfl rfl
    rw [hK3] at this
    simp (disch := (first | assumption | omega | (simp only [alloc_n, set_n] <;> omega) | (simp (disch := (first | assumption | omega | (simp only [alloc_n, set_n] <;> omega))) only [row_alloc, row_set]; assumption))) only [W_block, ANs, A3s, AOp.map, ↓reduceIte, Nat.reduceAdd, Nat.reduceEqDiff, reduceCtorEq, initFr, Nat.reduceLT, clsA, List.take, List.drop, Nat.reduceLeDiff, Nat.reduceMul, Nat.reduceSub, reduceIte, ANc, A3c] at this
    simp (disch := (first | assumption | omega | (simp only [alloc_n, set_n] <;> omega) | (simp (disch := (first | assumption | omega | (simp only [alloc_n, set_n] <;> omega))) only [row_alloc, row_set]; assumption))) only [W_block, ANs, A3s, AOp.map, ↓reduceIte, Nat.reduceAdd, Nat.reduceEqDiff, reduceCtorEq, initFr, Nat.reduceLT, clsA, List.take, List.drop, Nat.reduceLeDiff, Nat.reduceMul, Nat.reduceSub, reduceIte, ANc, A3c, z70, oX, gSf, his, hlen, hto, oA]
    exact this
  · have h00 : a = 0 := by omega
    have hz : ackL l a = L0 := by unfold ackL; rw [if_pos h00]
    have := fin [ptr s 0, ptr r 0, ptr sf 0, ptr rf 0, .bool false, ptr K1.n 0, .bool (decide (0 < a)), ptr K2.n 0, .bool x.isSome, ptr (K2.n + 1) 0, .bool false] rfl rfl rfl rfl rfl rfl rfl rfl
    rw [hK3, hz, ← Z70_eq] at this
    rw [hz] at *
    simp (disch := (first | assumption | omega | (simp only [alloc_n, set_n] <;> omega) | (simp (disch := (first | assumption | omega | (simp only [alloc_n, set_n] <;> omega))) only [row_alloc, row_set]; assumption))) only [W_block, ANs, A3s, AOp.map, ↓reduceIte, Nat.reduceAdd, Nat.reduceEqDiff, reduceCtorEq, initFr, Nat.reduceLT, clsA, List.take, List.drop, Nat.reduceLeDiff, Nat.reduceMul, Nat.reduceSub, reduceIte, ANc, A3c] at this
    simp (disch := (first | assumption | omega | (simp only [alloc_n, set_n] <;> omega) | (simp (disch := (first | assumption | omega | (simp only [alloc_n, set_n] <;> omega))) only [row_alloc, row_set]; assumption))) only [W_block, ANs, A3s, AOp.map, ↓reduceIte, Nat.reduceAdd, Nat.reduceEqDiff, reduceCtorEq, initFr, Nat.reduceLT, clsA, List.take, List.drop, Nat.reduceLeDiff, Nat.reduceMul, Nat.reduceSub, reduceIte, ANc, A3c, z70, oX, gSf, his, hlen]
    exact this
end Go.AM.Rp

namespace Go.AM.Rp
open Go.Proofs

/-- The state of all. -/
structure All (l : List Lg) (a : Nat) (x : Option Lg) : Prop where
  k : LOK l a
  x : X64 x
def thL (s r sf rf : Nat) (u p v : Value) (l : List Lg) (a : Nat) (x : Option Lg) (v0 : Value) (cs : List CA) : List Th := [thS s u l a, thR r p x, thSf sf v l a, thRf rf x, thC v0 cs]

theorem hearR_s (x : Option Lg) (m : Msg) : (hearR x m).1.s = S0 ∧ (hearR x m).1.d.l = [] := by
  unfold hearR
  split
  · exact ⟨rfl, rfl⟩
  · split
    · split
      · exact ⟨rfl, rfl⟩
      · split
        · exact ⟨rfl, rfl⟩
        · split <;> exact ⟨rfl, rfl⟩
    · split <;> exact ⟨rfl, rfl⟩
theorem sendR_s {l : List Lg} {a : Nat} (hk : Ok64 l) (ha : a ≤ l.length) : (sendR l a).1.s.t.length = 64 ∧ (sendR l a).1.d.l.length ≤ 64 := by
  unfold sendR
  split
  · exact ⟨rfl, by simp [G0]⟩
  · split
    · exact ⟨rfl, dp_le _ _ 64⟩
    · refine ⟨?_, by simp [G0]⟩
      show (lst l).s.t.length = 64
      unfold lst
      rw [List.getD_eq_getElem?_getD, List.getElem?_eq_getElem (by omega)]
      exact hk _ (List.getElem_mem _)
theorem Sep.keepsC {H H' : AHeap} {ts : List Th} (h : Sep H ts) (k : Keeps H H') : Sep H' ts := h.keeps k

def thW (v : Value) (n : Nat) (c : List Value) : Th where
  P H := AP H 90 2 v n c
  F := blkL v
  lt H h b hb := AP.lt h (mem_blkL.1 hb)
  st H H' h _ k := AP.stay h k
def thN : Th where
  P _ := True
  F := []
  lt H h b hb := by cases hb
  st H H' h _ k := trivial
set_option maxHeartbeats 2000000 in
/-- does. -/
theorem t23 {H : AHeap} {s r sf rf : Nat} {u p v v0 : Value} {l : List Lg} {a : Nat} {x : Option Lg} {cs : List CA} {c : CA} (h : Sep H (thL s r sf rf u p v l a x v0 cs)) (hA : All l a x) (hc : c ∈ cs) (hcl : c.m.d.l.length ≤ 1000) :
    ∃ w H', ARun Try.prog 0 23 [ptr s 0, ptr r 0, ptr sf 0, ptr rf 0, .agg (CC c).toArray] H w H' ∧ w = .bool true ∧ ∃ u p v l a x, Sep H' (thL s r sf rf u p v l a x v0 cs) ∧ All l a x := by
  refine walk2 f23_ok f23_n ?_
  intro Q hq1 hq2
  have hC : (thC v0 cs).P H := h.get 4 rfl
  obtain ⟨tb, hok⟩ := hC.2 c hc
  have one := CC_one tb.one
  have lcc := CC_len hok
  have z78 : Z78.all Value.oneCell' = true := rfl
  have zl : Z78.length = 78 := rfl
  have sB := h.box (.cells true false 149 (CC c) 79)
  have tbB : TB _ c.v c.m.d.l := ((sB.get 5 rfl : (thC v0 cs).P _).2 c hc).1
  by_cases h01 : c.k % 8 = 0 ∨ c.k % 8 = 1
  · rcases h01 with h01 | h01 <;> simp (disch := (first | assumption | omega | (simp only [alloc_n, set_n] <;> omega) | (simp (disch := (first | assumption | omega | (simp only [alloc_n, set_n] <;> omega))) only [row_alloc, row_set]; assumption))) only [f23, W_block, ANs, A3s, AOp.map, ↓reduceIte, Nat.reduceAdd, Nat.reduceEqDiff, reduceCtorEq, initFr, Nat.reduceLT, clsA, List.take, List.drop, Nat.reduceLeDiff, Nat.reduceMul, Nat.reduceSub, reduceIte, ANc, A3c, one, CC_0, b_rem8, CC_x hok] <;> refine callK (s15 (A := [_]) sB hA.k hok.x) ?_ <;> rintro _ K1 ⟨rfl, u', s1⟩
    all_goals
      have g1 : K1.get H.n = some (.cells true false 149 (CC c) 79) := s1.get 0 rfl
      have l1 := AHeap.get_lt g1
      simp (disch := (first | assumption | omega | (simp only [alloc_n, set_n] <;> omega) | (simp (disch := (first | assumption | omega | (simp only [alloc_n, set_n] <;> omega))) only [row_alloc, row_set]; assumption))) only [W_block, ANs, A3s, AOp.map, ↓reduceIte, Nat.reduceAdd, Nat.reduceEqDiff, reduceCtorEq, initFr, Nat.reduceLT, clsA, List.take, List.drop, Nat.reduceLeDiff, Nat.reduceMul, Nat.reduceSub, reduceIte, ANc, A3c, g1, CC_x hok]
      refine callK (t38 K1 hok.x) ?_
      rintro _ K2 ⟨rfl, k2⟩
      simp (disch := (first | assumption | omega | (simp only [alloc_n, set_n] <;> omega) | (simp (disch := (first | assumption | omega | (simp only [alloc_n, set_n] <;> omega))) only [row_alloc, row_set]; assumption))) only [W_block, ANs, A3s, AOp.map, ↓reduceIte, Nat.reduceAdd, Nat.reduceEqDiff, reduceCtorEq, initFr, Nat.reduceLT, clsA, List.take, List.drop, Nat.reduceLeDiff, Nat.reduceMul, Nat.reduceSub, reduceIte, ANc, A3c]
      refine callK (s37 (A := [_, _, _]) (s1.keeps k2) hA.k hok.x) ?_
      rintro _ K3 ⟨rfl, v', s3⟩
      simp (disch := (first | assumption | omega | (simp only [alloc_n, set_n] <;> omega) | (simp (disch := (first | assumption | omega | (simp only [alloc_n, set_n] <;> omega))) only [row_alloc, row_set]; assumption))) only [W_block, ANs, A3s, AOp.map, ↓reduceIte, Nat.reduceAdd, Nat.reduceEqDiff, reduceCtorEq, initFr, Nat.reduceLT, clsA, List.take, List.drop, Nat.reduceLeDiff, Nat.reduceMul, Nat.reduceSub, reduceIte, ANc, A3c]
      exact hq2 _ _ ⟨_, rfl, rfl, _, _, _, _, _, _, s3.tail, hA.k.offer _, hA.x⟩
  by_cases h3 : c.k % 8 = 3
  · simp (disch := (first | assumption | omega | (simp only [alloc_n, set_n] <;> omega) | (simp (disch := (first | assumption | omega | (simp only [alloc_n, set_n] <;> omega))) only [row_alloc, row_set]; assumption))) only [f23, W_block, ANs, A3s, AOp.map, ↓reduceIte, Nat.reduceAdd, Nat.reduceEqDiff, reduceCtorEq, initFr, Nat.reduceLT, clsA, List.take, List.drop, Nat.reduceLeDiff, Nat.reduceMul, Nat.reduceSub, reduceIte, ANc, A3c, one, CC_0, b_rem8, CC_m hok]
    refine callK (s19 (A := [_]) sB hA.k hok.m tbB (by omega)) ?_
    rintro _ K1 ⟨rfl, s1⟩
    have g1 : K1.get H.n = some (.cells true false 149 (CC c) 79) := s1.get 0 rfl
    have l1 := AHeap.get_lt g1
    have tb1 : TB K1 c.v c.m.d.l := ((s1.get 5 rfl : (thC v0 cs).P _).2 c hc).1
    simp (disch := (first | assumption | omega | (simp only [alloc_n, set_n] <;> omega) | (simp (disch := (first | assumption | omega | (simp only [alloc_n, set_n] <;> omega))) only [row_alloc, row_set]; assumption))) only [W_block, ANs, A3s, AOp.map, ↓reduceIte, Nat.reduceAdd, Nat.reduceEqDiff, reduceCtorEq, initFr, Nat.reduceLT, clsA, List.take, List.drop, Nat.reduceLeDiff, Nat.reduceMul, Nat.reduceSub, reduceIte, ANc, A3c, g1, CC_m hok]
    refine callK (t12g hok.m tb1 (by omega)) ?_
    rintro _ K2 ⟨k2, w, rfl, tw, _⟩
    simp (disch := (first | assumption | omega | (simp only [alloc_n, set_n] <;> omega) | (simp (disch := (first | assumption | omega | (simp only [alloc_n, set_n] <;> omega))) only [row_alloc, row_set]; assumption))) only [W_block, ANs, A3s, AOp.map, ↓reduceIte, Nat.reduceAdd, Nat.reduceEqDiff, reduceCtorEq, initFr, Nat.reduceLT, clsA, List.take, List.drop, Nat.reduceLeDiff, Nat.reduceMul, Nat.reduceSub, reduceIte, ANc, A3c]
    refine callK (s39 (A := [_, _, _]) (s1.keeps k2) hA.k hok.m tw (by omega)) ?_
    rintro _ K3 ⟨rfl, s3⟩
    simp (disch := (first | assumption | omega | (simp only [alloc_n, set_n] <;> omega) | (simp (disch := (first | assumption | omega | (simp only [alloc_n, set_n] <;> omega))) only [row_alloc, row_set]; assumption))) only [W_block, ANs, A3s, AOp.map, ↓reduceIte, Nat.reduceAdd, Nat.reduceEqDiff, reduceCtorEq, initFr, Nat.reduceLT, clsA, List.take, List.drop, Nat.reduceLeDiff, Nat.reduceMul, Nat.reduceSub, reduceIte, ANc, A3c]
    exact hq2 _ _ ⟨_, rfl, rfl, _, _, _, _, _, _, s3.tail, hA.k.hear _, hA.x⟩
  by_cases h45 : c.k % 8 = 4 ∨ c.k % 8 = 5
  · obtain ⟨e1, e2⟩ := hearR_s x c.m
    have hm : (hearR x c.m).1.s.t.length = 64 := by rw [e1]; rfl
    have tbn : ∀ X, TB X (.slice none 0 0) (hearR x c.m).1.d.l := fun X => ⟨none, 0, by rw [e2]; rfl, fun hne => absurd e2 hne⟩
    have lg := GC_len hm (.slice none 0 0)
    have og := GC_one (hearR x c.m).1 (v := .slice none 0 0) rfl
    rcases h45 with h45 | h45 <;> simp (disch := (first | assumption | omega | (simp only [alloc_n, set_n] <;> omega) | (simp (disch := (first | assumption | omega | (simp only [alloc_n, set_n] <;> omega))) only [row_alloc, row_set]; assumption))) only [f23, W_block, ANs, A3s, AOp.map, ↓reduceIte, Nat.reduceAdd, Nat.reduceEqDiff, reduceCtorEq, initFr, Nat.reduceLT, clsA, List.take, List.drop, Nat.reduceLeDiff, Nat.reduceMul, Nat.reduceSub, reduceIte, ANc, A3c, one, CC_0, b_rem8, CC_m hok] <;> refine callK (s17 (A := [_, _]) sB hA.x hok.m tbB (by omega)) ?_ <;> rintro _ K1 ⟨rfl, p', s1⟩
    all_goals
      have g1 : K1.get H.n = some (.cells true false 149 (CC c) 79) := s1.get 0 rfl
      have l1 := AHeap.get_lt g1
      have s2 := s1.box (.cells true false 78 (GC (hearR x c.m).1 (.slice none 0 0)) 41)
      have tb2 : TB _ c.v c.m.d.l := ((s2.get 6 rfl : (thC v0 cs).P _).2 c hc).1
      simp (disch := (first | assumption | omega | (simp only [alloc_n, set_n] <;> omega) | (simp (disch := (first | assumption | omega | (simp only [alloc_n, set_n] <;> omega))) only [row_alloc, row_set]; assumption))) only [W_block, ANs, A3s, AOp.map, ↓reduceIte, Nat.reduceAdd, Nat.reduceEqDiff, reduceCtorEq, initFr, Nat.reduceLT, clsA, List.take, List.drop, Nat.reduceLeDiff, Nat.reduceMul, Nat.reduceSub, reduceIte, ANc, A3c, g1, CC_m hok, z78, og]
      refine callK (t12g hok.m tb2 (by omega)) ?_
      rintro _ K2 ⟨k2, w, rfl, tw, _⟩
      have s3 := s2.keeps k2
      have g3 : K2.get K1.n = some (.cells true false 78 (GC (hearR x c.m).1 (.slice none 0 0)) 41) := s3.get 0 rfl
      simp (disch := (first | assumption | omega | (simp only [alloc_n, set_n] <;> omega) | (simp (disch := (first | assumption | omega | (simp only [alloc_n, set_n] <;> omega))) only [row_alloc, row_set]; assumption))) only [W_block, ANs, A3s, AOp.map, ↓reduceIte, Nat.reduceAdd, Nat.reduceEqDiff, reduceCtorEq, initFr, Nat.reduceLT, clsA, List.take, List.drop, Nat.reduceLeDiff, Nat.reduceMul, Nat.reduceSub, reduceIte, ANc, A3c]
      refine callK (s40 (A := [_, _, _, _, _]) s3 hA.x hok.m tw (by omega)) ?_
      rintro _ K3 ⟨rfl, s4⟩
      have s5 := s4.box (.cells true false 78 (GC (hearR x c.m).1 (.slice none 0 0)) 38)
      have g5 : (K3.alloc (.cells true false 78 (GC (hearR x c.m).1 (.slice none 0 0)) 38)).get K1.n = some (.cells true false 78 (GC (hearR x c.m).1 (.slice none 0 0)) 41) := s5.get 1 rfl
      have g4 : K3.get K1.n = some (.cells true false 78 (GC (hearR x c.m).1 (.slice none 0 0)) 41) := s4.get 0 rfl
      have l4 := AHeap.get_lt g4
      simp (disch := (first | assumption | omega | (simp only [alloc_n, set_n] <;> omega) | (simp (disch := (first | assumption | omega | (simp only [alloc_n, set_n] <;> omega))) only [row_alloc, row_set]; assumption))) only [W_block, ANs, A3s, AOp.map, ↓reduceIte, Nat.reduceAdd, Nat.reduceEqDiff, reduceCtorEq, initFr, Nat.reduceLT, clsA, List.take, List.drop, Nat.reduceLeDiff, Nat.reduceMul, Nat.reduceSub, reduceIte, ANc, A3c, z78, og, g4]
      refine callK (t12g hm (tbn _) (by rw [e2]; simp)) ?_
      rintro _ K5 ⟨k5, w5, rfl, tw5, _⟩
      have n5 := k5.n
      simp only [alloc_n] at n5
      simp (disch := (first | assumption | omega | (simp only [alloc_n, set_n] <;> omega) | (simp (disch := (first | assumption | omega | (simp only [alloc_n, set_n] <;> omega))) only [row_alloc, row_set, Keeps.row k5]; assumption))) only [Keeps.get k5, Keeps.row k5, W_block, ANs, A3s, AOp.map, ↓reduceIte, Nat.reduceAdd, Nat.reduceEqDiff, reduceCtorEq, initFr, Nat.reduceLT, clsA, List.take, List.drop, Nat.reduceLeDiff, Nat.reduceMul, Nat.reduceSub, reduceIte, ANc, A3c]
      refine callK (t13g hm tw5 (tbn _) (by rw [e2]; simp)) ?_
      rintro _ K6 ⟨rfl, k6⟩
      simp (disch := (first | assumption | omega | (simp only [alloc_n, set_n] <;> omega) | (simp (disch := (first | assumption | omega | (simp only [alloc_n, set_n] <;> omega))) only [row_alloc, row_set]; assumption))) only [W_block, ANs, A3s, AOp.map, ↓reduceIte, Nat.reduceAdd, Nat.reduceEqDiff, reduceCtorEq, initFr, Nat.reduceLT, clsA, List.take, List.drop, Nat.reduceLeDiff, Nat.reduceMul, Nat.reduceSub, reduceIte, ANc, A3c, a_eqb, beq_self_eq_true]
      exact hq2 _ _ ⟨_, rfl, rfl, _, _, _, _, _, _, ((s5.tail.tail.tail.keeps k5).keeps k6), hA.k, hA.x.hear hok.m⟩
  by_cases h6 : c.k % 8 = 6
  · simp (disch := (first | assumption | omega | (simp only [alloc_n, set_n] <;> omega) | (simp (disch := (first | assumption | omega | (simp only [alloc_n, set_n] <;> omega))) only [row_alloc, row_set]; assumption))) only [f23, W_block, ANs, A3s, AOp.map, ↓reduceIte, Nat.reduceAdd, Nat.reduceEqDiff, reduceCtorEq, initFr, Nat.reduceLT, clsA, List.take, List.drop, Nat.reduceLeDiff, Nat.reduceMul, Nat.reduceSub, reduceIte, ANc, A3c, one, CC_0, b_rem8, CC_x hok]
    refine callK (s30 (A := [_, _]) (y := c.x) sB) ?_
    rintro _ K1 ⟨rfl, p', s1⟩
    have g1 : K1.get H.n = some (.cells true false 149 (CC c) 79) := s1.get 0 rfl
    have l1 := AHeap.get_lt g1
    simp (disch := (first | assumption | omega | (simp only [alloc_n, set_n] <;> omega) | (simp (disch := (first | assumption | omega | (simp only [alloc_n, set_n] <;> omega))) only [row_alloc, row_set]; assumption))) only [W_block, ANs, A3s, AOp.map, ↓reduceIte, Nat.reduceAdd, Nat.reduceEqDiff, reduceCtorEq, initFr, Nat.reduceLT, clsA, List.take, List.drop, Nat.reduceLeDiff, Nat.reduceMul, Nat.reduceSub, reduceIte, ANc, A3c, g1, CC_x hok]
    refine callK (t38 K1 hok.x) ?_
    rintro _ K2 ⟨rfl, k2⟩
    simp (disch := (first | assumption | omega | (simp only [alloc_n, set_n] <;> omega) | (simp (disch := (first | assumption | omega | (simp only [alloc_n, set_n] <;> omega))) only [row_alloc, row_set]; assumption))) only [W_block, ANs, A3s, AOp.map, ↓reduceIte, Nat.reduceAdd, Nat.reduceEqDiff, reduceCtorEq, initFr, Nat.reduceLT, clsA, List.take, List.drop, Nat.reduceLeDiff, Nat.reduceMul, Nat.reduceSub, reduceIte, ANc, A3c]
    refine callK (s41 (A := [_, _, _, _]) (s1.keeps k2) hA.x hok.x) ?_
    rintro _ K3 ⟨rfl, s3⟩
    simp (disch := (first | assumption | omega | (simp only [alloc_n, set_n] <;> omega) | (simp (disch := (first | assumption | omega | (simp only [alloc_n, set_n] <;> omega))) only [row_alloc, row_set]; assumption))) only [W_block, ANs, A3s, AOp.map, ↓reduceIte, Nat.reduceAdd, Nat.reduceEqDiff, reduceCtorEq, initFr, Nat.reduceLT, clsA, List.take, List.drop, Nat.reduceLeDiff, Nat.reduceMul, Nat.reduceSub, reduceIte, ANc, A3c]
    exact hq2 _ _ ⟨_, rfl, rfl, _, _, _, _, _, _, s3.tail, hA.k, hA.x.begin hok.x⟩
  -- Send
  have hSd : SdV _ s u l a := sB.get 1 rfl
  have hSf : SfV _ sf v l a := sB.get 3 rfl
  have hn8 := hA.k.n
  obtain ⟨m64, ml⟩ := sendR_s hSf.ok hA.k.a
  simp (disch := (first | assumption | omega | (simp only [alloc_n, set_n] <;> omega) | (simp (disch := (first | assumption | omega | (simp only [alloc_n, set_n] <;> omega))) only [row_alloc, row_set]; assumption))) only [f23, W_block, ANs, A3s, AOp.map, ↓reduceIte, Nat.reduceAdd, Nat.reduceEqDiff, reduceCtorEq, initFr, Nat.reduceLT, clsA, List.take, List.drop, Nat.reduceLeDiff, Nat.reduceMul, Nat.reduceSub, reduceIte, ANc, A3c, one, CC_0, b_rem8]
  refine callK (t16o hSd.s (by omega) hA.k.a) ?_
  rintro _ K1 ⟨k1, w1, rfl, tw1, fw1, ap1⟩
  have s1 := sB.add (t := thW w1 _ _) k1 ap1 (fun b hb => fw1 b (mem_blkL.1 hb))
  have s2 := s1.box (.cells true false 78 (GC (sendR l a).1 w1) 41)
  have lg1 := GC_len m64 w1
  have og1 := GC_one (sendR l a).1 tw1.one
  have hSf2 : SfV _ sf v l a := s2.get 5 rfl
  simp (disch := (first | assumption | omega | (simp only [alloc_n, set_n] <;> omega) | (simp (disch := (first | assumption | omega | (simp only [alloc_n, set_n] <;> omega))) only [row_alloc, row_set]; assumption))) only [W_block, ANs, A3s, AOp.map, ↓reduceIte, Nat.reduceAdd, Nat.reduceEqDiff, reduceCtorEq, initFr, Nat.reduceLT, clsA, List.take, List.drop, Nat.reduceLeDiff, Nat.reduceMul, Nat.reduceSub, reduceIte, ANc, A3c, z78, og1]
  refine callK (t42 hSf2 (by omega) hA.k.a) ?_
  rintro _ K2 ⟨k2, w2, rfl, tw2, fw2⟩
  have s3 := s2.add (t := thT w2 (sendR l a).1.d.l) k2 tw2 (by
    intro b hb
    simp only [thT] at hb
    split at hb
    · cases hb
    · exact fw2 b (mem_blkL.1 hb))
  have s4 := s3.box (.cells true false 78 (GC (sendR l a).1 w2) 38)
  have lg2 := GC_len m64 w2
  have og2 := GC_one (sendR l a).1 tw2.one
  have gA : K2.get K1.n = some (.cells true false 78 (GC (sendR l a).1 w1) 41) := s3.get 1 rfl
  have lA := AHeap.get_lt gA
  have tA : TB _ w1 (sendR l a).1.d.l := TB.of_ap (s4.get 3 rfl : AP _ 90 2 w1 (sendR l a).1.d.l.length (TC (sendR l a).1.d.l))
  simp (disch := (first | assumption | omega | (simp only [alloc_n, set_n] <;> omega) | (simp (disch := (first | assumption | omega | (simp only [alloc_n, set_n] <;> omega))) only [row_alloc, row_set]; assumption))) only [W_block, ANs, A3s, AOp.map, ↓reduceIte, Nat.reduceAdd, Nat.reduceEqDiff, reduceCtorEq, initFr, Nat.reduceLT, clsA, List.take, List.drop, Nat.reduceLeDiff, Nat.reduceMul, Nat.reduceSub, reduceIte, ANc, A3c, z78, og2, gA]
  refine callK (t12g m64 tA (by omega)) ?_
  rintro _ K3 ⟨k3, w3, rfl, tw3, _⟩
  have n3 := k3.n
  simp only [alloc_n] at n3
  have s5 := s4.keeps k3
  have tB : TB K3 w2 (sendR l a).1.d.l := s5.get 1 rfl
  simp (disch := (first | assumption | omega | (simp only [alloc_n, set_n] <;> omega) | (simp (disch := (first | assumption | omega | (simp only [alloc_n, set_n] <;> omega))) only [row_alloc, row_set, Keeps.row k3]; assumption))) only [Keeps.get k3, Keeps.row k3, W_block, ANs, A3s, AOp.map, ↓reduceIte, Nat.reduceAdd, Nat.reduceEqDiff, reduceCtorEq, initFr, Nat.reduceLT, clsA, List.take, List.drop, Nat.reduceLeDiff, Nat.reduceMul, Nat.reduceSub, reduceIte, ANc, A3c]
  refine callK (t13g m64 tw3 tB (by omega)) ?_
  rintro _ K4 ⟨rfl, k4⟩
  have s6 := s5.keeps k4
  have gC : K4.get H.n = some (.cells true false 149 (CC c) 79) := s6.get 4 rfl
  have gA4 : K4.get K1.n = some (.cells true false 78 (GC (sendR l a).1 w1) 41) := s6.get 2 rfl
  have gB4 : K4.get K2.n = some (.cells true false 78 (GC (sendR l a).1 w2) 38) := s6.get 0 rfl
  have spoil : ∀ (K : AHeap) (u p v : Value) (l' : List Lg) (a' : Nat) (x' : Option Lg), Sep K (thW w1 (sendR l a).1.d.l.length (TC (sendR l a).1.d.l) :: thB H.n (.cells true false 149 (CC c) 79) :: thL s r sf rf u p v l' a' x' v0 cs) → All l' a' x' → K.get K1.n = some (.cells true false 78 (GC (sendR l a).1 w1) 41) → ∀ fr : List Value, fr.getD 13 undef = ptr K1.n 0 → fr.length = 31 →
      W Try.prog 0 (.seq (.reg [⟨.loadn 78 (.fr 13), .tm, none⟩, ⟨.callf 43 [(.tm 0)], .tm, none⟩]) <| .seq (.reg [⟨.mov (.c (.bool true)), .fr 6, none⟩]) .ret) Q fr K := by
    intro K u p v l' a' x' hs hA' g fr e13 hfl
    simp (disch := (first | assumption | omega | (simp only [alloc_n, set_n] <;> omega) | (simp (disch := (first | assumption | omega | (simp only [alloc_n, set_n] <;> omega))) only [row_alloc, row_set]; assumption))) only [W_block, ANs, A3s, AOp.map, ↓reduceIte, Nat.reduceAdd, Nat.reduceEqDiff, reduceCtorEq, initFr, Nat.reduceLT, clsA, List.take, List.drop, Nat.reduceLeDiff, Nat.reduceMul, Nat.reduceSub, reduceIte, ANc, A3c, e13, g]
    refine callK (t43 m64 (hs.get 0 rfl) ml) ?_
    intro w K' c'
    have hs' := hs.upd (l := []) (t := thW w1 _ _) (t' := thN) c' trivial (fun b hb => by cases hb)
    simp (disch := (first | assumption | omega | (simp only [alloc_n, set_n] <;> omega) | (simp (disch := (first | assumption | omega | (simp only [alloc_n, set_n] <;> omega))) only [row_alloc, row_set]; assumption))) only [W_block, ANs, A3s, AOp.map, ↓reduceIte, Nat.reduceAdd, Nat.reduceEqDiff, reduceCtorEq, initFr, Nat.reduceLT, clsA, List.take, List.drop, Nat.reduceLeDiff, Nat.reduceMul, Nat.reduceSub, reduceIte, ANc, A3c]
    refine hq2 _ _ ⟨_, rfl, ?_, _, _, _, _, _, _, hs'.tail.tail, hA'⟩
    show (fr.set 6 _).getD 6 undef = _
    simp [List.getD_eq_getElem?_getD, hfl]
  have h27 : c.k % 8 = 2 ∨ c.k % 8 = 7 := by omega
  by_cases h7 : c.k % 8 = 7 ∧ (sendR l a).2 = true
  case neg =>
    have := spoil K4 u p v l a x s6.tail.tail.tail hA gA4 [ptr s 0, ptr r 0, ptr sf 0, ptr rf 0, .agg (CC c).toArray, ptr H.n 0, .bool false, undef, undef, undef, undef, undef, undef, ptr K1.n 0, .bool (sendR l a).2, ptr K2.n 0, .bool (sendR l a).2, undef, undef, undef, undef, undef, undef, .int .u8 ((c.k % 8 : Nat) : Int), .bool false, .bool false, .bool false, .bool false, .bool false, .bool false, undef] rfl rfl
    simp (disch := (first | assumption | omega | (simp only [alloc_n, set_n] <;> omega) | (simp (disch := (first | assumption | omega | (simp only [alloc_n, set_n] <;> omega))) only [row_alloc, row_set]; assumption))) only [W_block, ANs, A3s, AOp.map, ↓reduceIte, Nat.reduceAdd, Nat.reduceEqDiff, reduceCtorEq, initFr, Nat.reduceLT, clsA, List.take, List.drop, Nat.reduceLeDiff, Nat.reduceMul, Nat.reduceSub, reduceIte, ANc, A3c] at this
    rcases h27 with h2 | h2
    · simp (disch := (first | assumption | omega | (simp only [alloc_n, set_n] <;> omega) | (simp (disch := (first | assumption | omega | (simp only [alloc_n, set_n] <;> omega))) only [row_alloc, row_set]; assumption))) only [W_block, ANs, A3s, AOp.map, ↓reduceIte, Nat.reduceAdd, Nat.reduceEqDiff, reduceCtorEq, initFr, Nat.reduceLT, clsA, List.take, List.drop, Nat.reduceLeDiff, Nat.reduceMul, Nat.reduceSub, reduceIte, ANc, A3c, a_eqb, beq_self_eq_true, gC, CC_0, b_rem8]
      exact this
    · have hok2 : (sendR l a).2 = false := by cases hh : (sendR l a).2; rfl; exact absurd ⟨h2, hh⟩ h7
      rw [hok2] at this ⊢
      simp (disch := (first | assumption | omega | (simp only [alloc_n, set_n] <;> omega) | (simp (disch := (first | assumption | omega | (simp only [alloc_n, set_n] <;> omega))) only [row_alloc, row_set]; assumption))) only [W_block, ANs, A3s, AOp.map, ↓reduceIte, Nat.reduceAdd, Nat.reduceEqDiff, reduceCtorEq, initFr, Nat.reduceLT, clsA, List.take, List.drop, Nat.reduceLeDiff, Nat.reduceMul, Nat.reduceSub, reduceIte, ANc, A3c, a_eqb, beq_self_eq_true, gC, CC_0, b_rem8]
      exact this
  obtain ⟨h7, hok2⟩ := h7
  rw [hok2]
  obtain ⟨e1, e2⟩ := hearR_s x (sendR l a).1
  have hm : (hearR x (sendR l a).1).1.s.t.length = 64 := by rw [e1]; rfl
  have tbn : ∀ X, TB X (.slice none 0 0) (hearR x (sendR l a).1).1.d.l := fun X => ⟨none, 0, by rw [e2]; rfl, fun hne => absurd e2 hne⟩
  have lgh := GC_len hm (.slice none 0 0)
  have ogh := GC_one (hearR x (sendR l a).1).1 (v := .slice none 0 0) rfl
  simp (disch := (first | assumption | omega | (simp only [alloc_n, set_n] <;> omega) | (simp (disch := (first | assumption | omega | (simp only [alloc_n, set_n] <;> omega))) only [row_alloc, row_set]; assumption))) only [W_block, ANs, A3s, AOp.map, ↓reduceIte, Nat.reduceAdd, Nat.reduceEqDiff, reduceCtorEq, initFr, Nat.reduceLT, clsA, List.take, List.drop, Nat.reduceLeDiff, Nat.reduceMul, Nat.reduceSub, reduceIte, ANc, A3c, a_eqb, beq_self_eq_true, gC, CC_0, b_rem8, gA4]
  have tA4 : TB K4 w1 (sendR l a).1.d.l := TB.of_ap (s6.get 3 rfl : AP _ 90 2 w1 (sendR l a).1.d.l.length (TC (sendR l a).1.d.l))
  refine callK (s17 (A := [_, _, _, _, _, _]) s6 hA.x m64 tA4 (by omega)) ?_
  rintro _ K5 ⟨rfl, p', s7⟩
  have gB5 : K5.get K2.n = some (.cells true false 78 (GC (sendR l a).1 w2) 38) := s7.get 0 rfl
  have lB5 := AHeap.get_lt gB5
  have s8 := s7.box (.cells true false 78 (GC (hearR x (sendR l a).1).1 (.slice none 0 0)) 41)
  have tB8 : TB _ w2 (sendR l a).1.d.l := s8.get 2 rfl
  simp (disch := (first | assumption | omega | (simp only [alloc_n, set_n] <;> omega) | (simp (disch := (first | assumption | omega | (simp only [alloc_n, set_n] <;> omega))) only [row_alloc, row_set]; assumption))) only [W_block, ANs, A3s, AOp.map, ↓reduceIte, Nat.reduceAdd, Nat.reduceEqDiff, reduceCtorEq, initFr, Nat.reduceLT, clsA, List.take, List.drop, Nat.reduceLeDiff, Nat.reduceMul, Nat.reduceSub, reduceIte, ANc, A3c, z78, ogh, gB5]
  refine callK (s40 (A := [_, _, _, _, _, _, _, _, _]) s8 hA.x m64 tB8 (by omega)) ?_
  rintro _ K6 ⟨rfl, s9⟩
  have gE6 : K6.get K5.n = some (.cells true false 78 (GC (hearR x (sendR l a).1).1 (.slice none 0 0)) 41) := s9.get 0 rfl
  have lE6 := AHeap.get_lt gE6
  have s10 := s9.box (.cells true false 78 (GC (hearR x (sendR l a).1).1 (.slice none 0 0)) 38)
  simp (disch := (first | assumption | omega | (simp only [alloc_n, set_n] <;> omega) | (simp (disch := (first | assumption | omega | (simp only [alloc_n, set_n] <;> omega))) only [row_alloc, row_set]; assumption))) only [W_block, ANs, A3s, AOp.map, ↓reduceIte, Nat.reduceAdd, Nat.reduceEqDiff, reduceCtorEq, initFr, Nat.reduceLT, clsA, List.take, List.drop, Nat.reduceLeDiff, Nat.reduceMul, Nat.reduceSub, reduceIte, ANc, A3c, z78, ogh, gE6]
  refine callK (t12g hm (tbn _) (by rw [e2]; simp)) ?_
  rintro _ K7 ⟨k7, w7, rfl, tw7, _⟩
  have n7 := k7.n
  simp only [alloc_n] at n7
  simp (disch := (first | assumption | omega | (simp only [alloc_n, set_n] <;> omega) | (simp (disch := (first | assumption | omega | (simp only [alloc_n, set_n] <;> omega))) only [row_alloc, row_set, Keeps.row k7]; assumption))) only [Keeps.get k7, Keeps.row k7, W_block, ANs, A3s, AOp.map, ↓reduceIte, Nat.reduceAdd, Nat.reduceEqDiff, reduceCtorEq, initFr, Nat.reduceLT, clsA, List.take, List.drop, Nat.reduceLeDiff, Nat.reduceMul, Nat.reduceSub, reduceIte, ANc, A3c]
  refine callK (t13g hm tw7 (tbn _) (by rw [e2]; simp)) ?_
  rintro _ K8 ⟨rfl, k8⟩
  have s11 := (s10.keeps k7).keeps k8
  have gE8 : K8.get K5.n = some (.cells true false 78 (GC (hearR x (sendR l a).1).1 (.slice none 0 0)) 41) := s11.get 1 rfl
  simp (disch := (first | assumption | omega | (simp only [alloc_n, set_n] <;> omega) | (simp (disch := (first | assumption | omega | (simp only [alloc_n, set_n] <;> omega))) only [row_alloc, row_set]; assumption))) only [W_block, ANs, A3s, AOp.map, ↓reduceIte, Nat.reduceAdd, Nat.reduceEqDiff, reduceCtorEq, initFr, Nat.reduceLT, clsA, List.take, List.drop, Nat.reduceLeDiff, Nat.reduceMul, Nat.reduceSub, reduceIte, ANc, A3c, a_eqb, beq_self_eq_true, gE8]
  refine callK (s19 (A := [_, _, _, _, _, _, _]) s11 hA.k hm (tbn _) (by rw [e2]; simp)) ?_
  rintro _ K9 ⟨rfl, s12⟩
  have gF9 : K9.get K6.n = some (.cells true false 78 (GC (hearR x (sendR l a).1).1 (.slice none 0 0)) 38) := s12.get 0 rfl
  have gF8 : K8.get K6.n = some (.cells true false 78 (GC (hearR x (sendR l a).1).1 (.slice none 0 0)) 38) := s11.get 0 rfl
  have lF8 := AHeap.get_lt gF8
  simp (disch := (first | assumption | omega | (simp only [alloc_n, set_n] <;> omega) | (simp (disch := (first | assumption | omega | (simp only [alloc_n, set_n] <;> omega))) only [row_alloc, row_set]; assumption))) only [W_block, ANs, A3s, AOp.map, ↓reduceIte, Nat.reduceAdd, Nat.reduceEqDiff, reduceCtorEq, initFr, Nat.reduceLT, clsA, List.take, List.drop, Nat.reduceLeDiff, Nat.reduceMul, Nat.reduceSub, reduceIte, ANc, A3c, gF9, gF8]
  refine callK (s39 (A := [_, _, _, _, _, _, _, _, _]) s12 hA.k hm (tbn _) (by rw [e2]; simp)) ?_
  rintro _ K10 ⟨rfl, s13⟩
  have gA10 : K10.get K1.n = some (.cells true false 78 (GC (sendR l a).1 w1) 41) := s13.get 4 rfl
  have := spoil K10 _ _ _ _ _ _ s13.tail.tail.tail.tail.tail ⟨hA.k.hear _, hA.x.hear m64⟩ gA10 [ptr s 0, ptr r 0, ptr sf 0, ptr rf 0, .agg (CC c).toArray, ptr H.n 0, .bool false, undef, undef, undef, undef, undef, undef, ptr K1.n 0, .bool true, ptr K2.n 0, .bool true, ptr K5.n 0, .bool (hearR x (sendR l a).1).2.1, .int .i64 (hearR x (sendR l a).1).2.2.1, ptr K6.n 0, .bool (hearR x (sendR l a).1).2.1, .int .i64 (hearR x (sendR l a).1).2.2.1, .int .u8 ((c.k % 8 : Nat) : Int), .bool false, .bool false, .bool false, .bool false, .bool false, .bool true, .bool false] rfl rfl
  simp (disch := (first | assumption | omega | (simp only [alloc_n, set_n] <;> omega) | (simp (disch := (first | assumption | omega | (simp only [alloc_n, set_n] <;> omega))) only [row_alloc, row_set]; assumption))) only [W_block, ANs, A3s, AOp.map, ↓reduceIte, Nat.reduceAdd, Nat.reduceEqDiff, reduceCtorEq, initFr, Nat.reduceLT, clsA, List.take, List.drop, Nat.reduceLeDiff, Nat.reduceMul, Nat.reduceSub, reduceIte, ANc, A3c] at this
  simp (disch := (first | assumption | omega | (simp only [alloc_n, set_n] <;> omega) | (simp (disch := (first | assumption | omega | (simp only [alloc_n, set_n] <;> omega))) only [row_alloc, row_set]; assumption))) only [W_block, ANs, A3s, AOp.map, ↓reduceIte, Nat.reduceAdd, Nat.reduceEqDiff, reduceCtorEq, initFr, Nat.reduceLT, clsA, List.take, List.drop, Nat.reduceLeDiff, Nat.reduceMul, Nat.reduceSub, reduceIte, ANc, A3c]
  exact this
end Go.AM.Rp

namespace Go.AM.Rp
open Go.Proofs

theorem Z71_eq : Z71 = RC L0 false := by kernel_rfl
theorem fl71 : fillA Z71 [] = some (RC L0 false) := by rw [fill0, Z71_eq]

theorem t5 {H : AHeap} {v0 : Value} {cs : List CA} (hC : (thC v0 cs).P H) : ∃ r H', ARun Try.prog 0 5 [v0] H r H' ∧ r = .bool true := by
  refine walk2 f5_ok f5_n ?_
  intro Q hq1 hq2
  simp (disch := (first | assumption | omega | (simp only [alloc_n, set_n] <;> omega) | (simp (disch := (first | assumption | omega | (simp only [alloc_n, set_n] <;> omega))) only [row_alloc, row_set]; assumption))) only [f5, W_block, ANs, A3s, AOp.map, ↓reduceIte, Nat.reduceAdd, Nat.reduceEqDiff, reduceCtorEq, initFr, Nat.reduceLT, clsA, List.take, List.drop, Nat.reduceLeDiff, Nat.reduceMul, Nat.reduceSub, reduceIte, ANc, A3c]
  refine callK (t21 hC) ?_
  rintro _ K ⟨rfl, b, rfl, hb⟩
  cases b with
  | false =>
    simp (disch := (first | assumption | omega | (simp only [alloc_n, set_n] <;> omega) | (simp (disch := (first | assumption | omega | (simp only [alloc_n, set_n] <;> omega))) only [row_alloc, row_set]; assumption))) only [W_block, ANs, A3s, AOp.map, ↓reduceIte, Nat.reduceAdd, Nat.reduceEqDiff, reduceCtorEq, initFr, Nat.reduceLT, clsA, List.take, List.drop, Nat.reduceLeDiff, Nat.reduceMul, Nat.reduceSub, reduceIte, ANc, A3c]
    refine ⟨_, _, works_any _, ?_⟩
    simp (disch := (first | assumption | omega | (simp only [alloc_n, set_n] <;> omega) | (simp (disch := (first | assumption | omega | (simp only [alloc_n, set_n] <;> omega))) only [row_alloc, row_set]; assumption))) only [W_block, ANs, A3s, AOp.map, ↓reduceIte, Nat.reduceAdd, Nat.reduceEqDiff, reduceCtorEq, initFr, Nat.reduceLT, clsA, List.take, List.drop, Nat.reduceLeDiff, Nat.reduceMul, Nat.reduceSub, reduceIte, ANc, A3c]
    exact hq2 _ _ ⟨_, rfl, rfl⟩
  | true =>
    obtain ⟨hb1, hb2⟩ := hb rfl
    have his := hC.1.is
    have hlen := hC.1.len
    rw [List.length_map] at hlen
    have s0 : Sep K [thC v0 cs] := ⟨by simp; exact hC, by simp⟩
    have s1 := s0.add (t := thS K.n (.slice none 0 0) [] 0) ((Keeps.refl _).alloc (.cells true false 2 [.slice none 0 0, .int .i64 0] 48)) ⟨AHeap.get_alloc_new _ _, .inl ⟨rfl, rfl⟩, by simp [blk], by intro x hx; cases hx⟩ (by simp [thS, blkL, blk])
    have s2 := s1.add (t := thR (K.n + 1) (.pointer none) none) ((Keeps.refl _).alloc (.cells true false 1 [.pointer none] 51)) ⟨AHeap.get_alloc_new _ _, rfl⟩ (by simp [thR, blkL, blk, alloc_n])
    have s3 := s2.add (t := thSf (K.n + 2) (.slice none 0 0) [] 0) ((Keeps.refl _).alloc (.cells true false 2 [.slice none 0 0, .int .i64 (-1)] 99)) ⟨AHeap.get_alloc_new _ _, .inl ⟨rfl, rfl, rfl⟩, by simp [blk], by intro x hx; cases hx⟩ (by simp [thSf, blkL, blk, alloc_n])
    have s4 := s3.add (t := thRf (K.n + 3) none) ((Keeps.refl _).alloc (.cells true false 71 (RC L0 false) 74)) (AHeap.get_alloc_new _ _) (by simp [thRf, alloc_n])
    have s5 := s4.perm (us := thL K.n (K.n + 1) (K.n + 2) (K.n + 3) (.slice none 0 0) (.pointer none) (.slice none 0 0) [] 0 none v0 cs) (by
      unfold thL
      refine (List.perm_append_comm (l₁ := [thRf (K.n + 3) none, thSf (K.n + 2) (.slice none 0 0) [] 0, thR (K.n + 1) (.pointer none) none, thS K.n (.slice none 0 0) [] 0]) (l₂ := [thC v0 cs])).trans ?_
      refine (List.reverse_perm _).symm.trans ?_
      exact List.Perm.refl _)
    have one71 : (RC L0 false).all Value.oneCell' = true := by rw [← Z71_eq]; rfl
    simp (disch := (first | assumption | omega | (simp only [alloc_n, set_n] <;> omega) | (simp (disch := (first | assumption | omega | (simp only [alloc_n, set_n] <;> omega))) only [row_alloc, row_set]; assumption))) only [W_block, ANs, A3s, AOp.map, ↓reduceIte, Nat.reduceAdd, Nat.reduceEqDiff, reduceCtorEq, initFr, Nat.reduceLT, clsA, List.take, List.drop, Nat.reduceLeDiff, Nat.reduceMul, Nat.reduceSub, reduceIte, ANc, A3c]
    refine callK (t22 _) ?_
    rintro _ X ⟨rfl, rfl⟩
    simp (disch := (first | assumption | omega | (simp only [alloc_n, set_n] <;> omega) | (simp (disch := (first | assumption | omega | (simp only [alloc_n, set_n] <;> omega))) only [row_alloc, row_set]; assumption))) only [W_block, ANs, A3s, AOp.map, ↓reduceIte, Nat.reduceAdd, Nat.reduceEqDiff, reduceCtorEq, initFr, Nat.reduceLT, clsA, List.take, List.drop, Nat.reduceLeDiff, Nat.reduceMul, Nat.reduceSub, reduceIte, ANc, A3c, Z71_eq, one71]
    generalize hX : (((K.alloc (.cells true false 2 [.slice none 0 0, .int .i64 0] 48)).alloc (.cells true false 1 [.pointer none] 51)).alloc (.cells true false 2 [.slice none 0 0, .int .i64 (-1)] 99)).alloc (.cells true false 71 (RC L0 false) 74) = X at s5 ⊢
    generalize K.n = s at s5 ⊢
    refine W_loop2 (fun q fr X => ∃ (i : Nat) (u p v : Value) (l : List Lg) (a : Nat) (x : Option Lg) (y8 y9 : Value), q = cs.length - i ∧ i ≤ cs.length ∧ Sep X (thL s (s + 1) (s + 2) (s + 3) u p v l a x v0 cs) ∧ All l a x ∧
      fr = [v0, .bool false, ptr s 0, ptr (s + 1) 0, ptr (s + 2) 0, ptr (s + 3) 0, .int .i64 i, .bool false, y8, y9]) cs.length
      ⟨0, _, _, _, [], 0, none, _, _, rfl, by omega, s5, ⟨⟨by intro i j hi; simp at hi, by simp, by simp⟩, by intro y hy; cases hy⟩, rfl⟩ ?_
    rintro Q' q fr X ⟨i, u, p, v, l, a, x, y8, y9, rfl, hi, hS, hA, rfl⟩ hn he hr
    by_cases hlt : i < cs.length
    · have hCX : (thC v0 cs).P X := hS.get 4 rfl
      obtain ⟨nn, hrow⟩ := hCX.1.at_ (by omega) (i := i) (by simpa using hlt)
      rw [List.getElem_map] at hrow
      have hmem : cs[i] ∈ cs := List.getElem_mem _
      simp (disch := (first | assumption | omega | (simp only [alloc_n, set_n] <;> omega) | (simp (disch := (first | assumption | omega | (simp only [alloc_n, set_n] <;> omega))) only [row_alloc, row_set]; assumption))) only [W_block, ANs, A3s, AOp.map, ↓reduceIte, Nat.reduceAdd, Nat.reduceEqDiff, reduceCtorEq, initFr, Nat.reduceLT, clsA, List.take, List.drop, Nat.reduceLeDiff, Nat.reduceMul, Nat.reduceSub, reduceIte, ANc, A3c, his, hlen]
      refine callK (t23 hS hA hmem (hb2 _ hmem)) ?_
      rintro _ X2 ⟨rfl, u, p, v, l, a, x, hS2, hA2⟩
      simp (disch := (first | assumption | omega | (simp only [alloc_n, set_n] <;> omega) | (simp (disch := (first | assumption | omega | (simp only [alloc_n, set_n] <;> omega))) only [row_alloc, row_set]; assumption))) only [W_block, ANs, A3s, AOp.map, ↓reduceIte, Nat.reduceAdd, Nat.reduceEqDiff, reduceCtorEq, initFr, Nat.reduceLT, clsA, List.take, List.drop, Nat.reduceLeDiff, Nat.reduceMul, Nat.reduceSub, reduceIte, ANc, A3c]
      refine callK (t24 (T := [thC v0 cs]) hS2 hA2.k hA2.x) ?_
      rintro _ X3 ⟨rfl, k3⟩
      simp (disch := (first | assumption | omega | (simp only [alloc_n, set_n] <;> omega) | (simp (disch := (first | assumption | omega | (simp only [alloc_n, set_n] <;> omega))) only [row_alloc, row_set]; assumption))) only [W_block, ANs, A3s, AOp.map, ↓reduceIte, Nat.reduceAdd, Nat.reduceEqDiff, reduceCtorEq, initFr, Nat.reduceLT, clsA, List.take, List.drop, Nat.reduceLeDiff, Nat.reduceMul, Nat.reduceSub, reduceIte, ANc, A3c, wrap_succ (n := i) (by omega)]
      exact hn _ _ _ ⟨i + 1, _, _, _, _, _, _, _, _, rfl, by omega, hS2.keeps k3, hA2, rfl⟩ (by omega)
    · simp (disch := (first | assumption | omega | (simp only [alloc_n, set_n] <;> omega) | (simp (disch := (first | assumption | omega | (simp only [alloc_n, set_n] <;> omega))) only [row_alloc, row_set]; assumption))) only [W_block, ANs, A3s, AOp.map, ↓reduceIte, Nat.reduceAdd, Nat.reduceEqDiff, reduceCtorEq, initFr, Nat.reduceLT, clsA, List.take, List.drop, Nat.reduceLeDiff, Nat.reduceMul, Nat.reduceSub, reduceIte, ANc, A3c, his, hlen]
      refine he _ _ _ ?_
      simp (disch := (first | assumption | omega | (simp only [alloc_n, set_n] <;> omega) | (simp (disch := (first | assumption | omega | (simp only [alloc_n, set_n] <;> omega))) only [row_alloc, row_set]; assumption))) only [W_block, ANs, A3s, AOp.map, ↓reduceIte, Nat.reduceAdd, Nat.reduceEqDiff, reduceCtorEq, initFr, Nat.reduceLT, clsA, List.take, List.drop, Nat.reduceLeDiff, Nat.reduceMul, Nat.reduceSub, reduceIte, ANc, A3c]
      refine ⟨_, _, works_any _, ?_⟩
      simp (disch := (first | assumption | omega | (simp only [alloc_n, set_n] <;> omega) | (simp (disch := (first | assumption | omega | (simp only [alloc_n, set_n] <;> omega))) only [row_alloc, row_set]; assumption))) only [W_block, ANs, A3s, AOp.map, ↓reduceIte, Nat.reduceAdd, Nat.reduceEqDiff, reduceCtorEq, initFr, Nat.reduceLT, clsA, List.take, List.drop, Nat.reduceLeDiff, Nat.reduceMul, Nat.reduceSub, reduceIte, ANc, A3c]
      exact hq2 _ _ ⟨_, rfl, rfl⟩

/-! ### Arguments -/
theorem AR_log {G : Gf} {r : List Value} (h : AR Try.prog G 54 r) : ∃ x : Lg, r = LC x ∧ x.s.t.length = 64 := by
  have z2 : Try.prog.cellsOf 2 = 1 := by kernel_rfl
  have z26 : Try.prog.cellsOf 26 = 68 := by kernel_rfl
  have z54 : Try.prog.cellsOf 54 = 70 := by kernel_rfl
  obtain ⟨hl, hf⟩ := h.struct_inv Try.underlying54
  rw [z54] at hl
  have f0 : AR Try.prog G 2 ((r.drop 0).take (Try.prog.cellsOf 2)) := hf 0 _ rfl
  have f1 : AR Try.prog G 2 ((r.drop 1).take (Try.prog.cellsOf 2)) := hf 1 _ rfl
  have f2 : AR Try.prog G 26 ((r.drop 2).take (Try.prog.cellsOf 26)) := hf 2 _ rfl
  rw [z2] at f0 f1
  rw [z26] at f2
  obtain ⟨n0, g0, w0⟩ := f0.int_inv Try.underlying2
  obtain ⟨n1, g1, w1⟩ := f1.int_inv Try.underlying2
  obtain ⟨s, g2, hs⟩ := ARstate f2
  refine ⟨⟨n0, n1, s⟩, ?_, hs.ht⟩
  rcases r with _ | ⟨a, _ | ⟨b, t⟩⟩
  · simp at hl
  · simp at hl
  have e0 : a = .int .i64 n0 := by simpa using g0
  have e1 : b = .int .i64 n1 := by simpa using g1
  have e2 : t = SC s := by rw [← g2]; simp at hl ⊢; rw [List.take_of_length_le (by omega)]
  rw [e0, e1, e2]; rfl
theorem AR_msg {H : AHeap} {r : List Value} (h : AR Try.prog H.get 41 r) : ∃ (m : Msg) (v : Value), r = GC m v ∧ TB H v m.d.l ∧ m.s.t.length = 64 := by
  have z2 : Try.prog.cellsOf 2 = 1 := by kernel_rfl
  have z5 : Try.prog.cellsOf 5 = 1 := by kernel_rfl
  have z26 : Try.prog.cellsOf 26 = 68 := by kernel_rfl
  have z29 : Try.prog.cellsOf 29 = 5 := by kernel_rfl
  have z41 : Try.prog.cellsOf 41 = 78 := by kernel_rfl
  obtain ⟨hl, hf⟩ := h.struct_inv Try.underlying41
  rw [z41] at hl
  have f0 : AR Try.prog H.get 5 ((r.drop 0).take (Try.prog.cellsOf 5)) := hf 0 _ rfl
  have f1 : AR Try.prog H.get 2 ((r.drop 1).take (Try.prog.cellsOf 2)) := hf 1 _ rfl
  have f2 : AR Try.prog H.get 2 ((r.drop 2).take (Try.prog.cellsOf 2)) := hf 2 _ rfl
  have f3 : AR Try.prog H.get 2 ((r.drop 3).take (Try.prog.cellsOf 2)) := hf 3 _ rfl
  have f4 : AR Try.prog H.get 2 ((r.drop 4).take (Try.prog.cellsOf 2)) := hf 4 _ rfl
  have f5 : AR Try.prog H.get 26 ((r.drop 5).take (Try.prog.cellsOf 26)) := hf 5 _ rfl
  have f6 : AR Try.prog H.get 29 ((r.drop 73).take (Try.prog.cellsOf 29)) := hf 6 _ rfl
  rw [z2] at f1 f2 f3 f4
  rw [z5] at f0
  rw [z26] at f5
  rw [z29] at f6
  obtain ⟨n0, g0, w0⟩ := f0.int_inv Try.underlying5
  obtain ⟨n1, g1, w1⟩ := f1.int_inv Try.underlying2
  obtain ⟨n2, g2, w2⟩ := f2.int_inv Try.underlying2
  obtain ⟨n3, g3, w3⟩ := f3.int_inv Try.underlying2
  obtain ⟨n4, g4, w4⟩ := f4.int_inv Try.underlying2
  obtain ⟨s, g5, hs⟩ := ARstate f5
  obtain ⟨d, v, g6, hd⟩ := ARdelta f6
  simp only [Lit.wf, Bool.and_eq_true, decide_eq_true_eq, IntKind.min, IntKind.max, IntKind.signed, IntKind.bits] at w0
  obtain ⟨n0, rfl⟩ : ∃ m : Nat, n0 = m := ⟨n0.toNat, by simp at w0; omega⟩
  refine ⟨⟨n0, n1, n2, n3, n4, s, d⟩, v, ?_, hd, hs.ht⟩
  rcases r with _ | ⟨a0, _ | ⟨a1, _ | ⟨a2, _ | ⟨a3, _ | ⟨a4, t⟩⟩⟩⟩⟩
  all_goals try (simp at hl; done)
  have e0 : a0 = .int .u8 n0 := by simpa using g0
  have e1 : a1 = .int .i64 n1 := by simpa using g1
  have e2 : a2 = .int .i64 n2 := by simpa using g2
  have e3 : a3 = .int .i64 n3 := by simpa using g3
  have e4 : a4 = .int .i64 n4 := by simpa using g4
  have ht : t.length = 73 := by simpa using hl
  have e5 : t.take 68 = SC s := by rw [← g5]; rfl
  have e6 : t.drop 68 = D5 d.a d.b d.c d.p v := by
    rw [← g6]
    show _ = (t.drop 68).take 5
    rw [List.take_of_length_le (by rw [List.length_drop]; omega)]
  rw [e0, e1, e2, e3, e4]
  show _ = .int .u8 n0 :: .int .i64 n1 :: .int .i64 n2 :: .int .i64 n3 :: .int .i64 n4 :: (SC s ++ D5 d.a d.b d.c d.p v)
  rw [← e5, ← e6, List.take_append_drop]
theorem AR_call {H : AHeap} {r : List Value} (h : AR Try.prog H.get 79 r) : ∃ c : CA, r = CC c ∧ TB H c.v c.m.d.l ∧ CAok c := by
  have z5 : Try.prog.cellsOf 5 = 1 := by kernel_rfl
  have z54 : Try.prog.cellsOf 54 = 70 := by kernel_rfl
  have z41 : Try.prog.cellsOf 41 = 78 := by kernel_rfl
  have z79 : Try.prog.cellsOf 79 = 149 := by kernel_rfl
  obtain ⟨hl, hf⟩ := h.struct_inv Try.underlying79
  rw [z79] at hl
  have f0 : AR Try.prog H.get 5 ((r.drop 0).take (Try.prog.cellsOf 5)) := hf 0 _ rfl
  have f1 : AR Try.prog H.get 54 ((r.drop 1).take (Try.prog.cellsOf 54)) := hf 1 _ rfl
  have f2 : AR Try.prog H.get 41 ((r.drop 71).take (Try.prog.cellsOf 41)) := hf 2 _ rfl
  rw [z5] at f0
  rw [z54] at f1
  rw [z41] at f2
  obtain ⟨n0, g0, w0⟩ := f0.int_inv Try.underlying5
  obtain ⟨x, g1, hx⟩ := AR_log f1
  obtain ⟨m, v, g2, hv, hm⟩ := AR_msg f2
  simp only [Lit.wf, Bool.and_eq_true, decide_eq_true_eq, IntKind.min, IntKind.max, IntKind.signed, IntKind.bits] at w0
  obtain ⟨n0, rfl⟩ : ∃ m : Nat, n0 = m := ⟨n0.toNat, by simp at w0; omega⟩
  refine ⟨⟨n0, x, m, v⟩, ?_, hv, ⟨hx, hm⟩⟩
  rcases r with _ | ⟨a0, t⟩
  · simp at hl
  have e0 : a0 = .int .u8 n0 := by simpa using g0
  have ht : t.length = 148 := by simpa using hl
  have e1 : t.take 70 = LC x := by rw [← g1]; rfl
  have e2 : t.drop 70 = GC m v := by
    rw [← g2]
    show _ = (t.drop 70).take 78
    rw [List.take_of_length_le (by rw [List.length_drop]; omega)]
  rw [e0]
  show _ = .int .u8 n0 :: (LC x ++ GC m v)
  rw [← e1, ← e2, List.take_append_drop]
theorem lawPlays : ∀ H args, NoOwn H → AVs Try.prog H.get [67] args → ∃ H', ARun Try.prog 0 5 args H (.bool true) H' := by
  intro H args _ h
  match args, h with
  | [v0], ⟨h0, _⟩ =>
    obtain ⟨rows, hs, hr⟩ := h0.rows Try.underlying67 (show Try.prog.cellsOf 79 = 149 by kernel_rfl)
    obtain ⟨cs, rfl, hL⟩ := list_choose (f := CC) (Q := fun c => TB H c.v c.m.d.l ∧ CAok c) (fun r hr' => AR_call (hr r hr'))
    obtain ⟨v, H', r, rfl⟩ := t5 (cs := cs) ⟨hs, hL⟩
    exact ⟨H', r⟩
end Go.AM.Rp
