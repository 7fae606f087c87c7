/- The abstract machine, part G2: arrays, equality of structs and arrays, min and max, ranges over texts, copy and clear. -/
import Derived.Test.YtlmikadohcdclaaAmG
import Derived.ChangeKeysEq
set_option linter.unusedSimpArgs false
set_option linter.unusedVariables false
namespace Go.AM

section
variable {P : Program} {ng : Nat} {σ : Sg} {H H' : AHeap} {w : World} {v : Value}

theorem res_iaddrp (hr : HR ng σ H.get w) {t e n len : Nat} (h1 : P.underlying t = some (.array len e)) (h2 : sizeT P e = some n) {a a' b b' : Value} (ha : VR σ a a') (hb : VR σ b b') (hs : asem (.iaddrp n len a b) H = some (v, H')) :
    Res ng σ H w ((do pure (Next.value (← Instr.indexAt t a' b')) : Sem Next).run P w) v H' := by
  simp only [asem] at hs
  split at hs
  · rename_i bl o k i
    split at hs
    · rename_i hc
      cases hs
      rw [hb.int_inv]
      cases ha with
      | @ptr _ _ j hj =>
        refine Res.pure hr (v' := .pointer (some ⟨j.c, j.off + (o + i.toNat * n), none⟩)) ?_ (.ptr hj)
        simp [Instr.indexAt, run_underlying h1, asIntOf, hc.1, hc.2, run_sizeT h2, add_plain, Nat.add_assoc, Instr.sureAddr]
    · cases hs
  · cases hs

theorem run_part1 {e off n : Nat} (h1 : isAggT P e = some false) (h2 : sizeT P e = some n) {cs : Array Value} {u : Value} (hu : cs[off]? = some u) (w : World) : (part e cs off).run P w = .ok u w := by
  simp only [part, Sem.run_bind, run_isAgg h1, Result.andThen_ok, Bool.false_eq_true, if_false, hu, Sem.run_pure]
theorem run_partn {e off n : Nat} (h1 : isAggT P e = some true) (h2 : sizeT P e = some n) (cs : Array Value) (w : World) : (part e cs off).run P w = .ok (.agg (cs.extract off (off + n))) w := by
  simp [part, run_isAgg h1, run_sizeT h2]

theorem res_idxa (hr : HR ng σ H.get w) {t e n len : Nat} {agg : Bool} (h1 : P.underlying t = some (.array len e)) (h2 : isAggT P e = some agg) (h3 : sizeT P e = some n) {a a' b b' : Value} (ha : VR σ a a') (hb : VR σ b b') (hs : asem (.idxa agg n len a b) H = some (v, H')) :
    Res ng σ H w ((do pure (Next.value (← Instr.index t a' b')) : Sem Next).run P w) v H' := by
  simp only [asem] at hs
  split at hs
  · rename_i cs k i
    split at hs
    · rename_i hc
      rw [hb.int_inv]
      obtain ⟨cs', rfl⟩ := agg_inv ha
      have hv := agg_get ha
      cases agg
      · simp only [Bool.false_eq_true, if_false, Option.map_eq_some_iff, Prod.mk.injEq] at hs
        obtain ⟨u, hu, rfl, rfl⟩ := hs
        obtain ⟨u', e1, e2⟩ := hv.get hu
        have e1' : cs'[i.toNat * n]? = some u' := by simpa using e1
        have hp := run_part1 (P := P) h2 h3 e1' w
        refine Res.pure hr (v' := u') ?_ e2
        simp only [Instr.index, asIntOf, Sem.run_bind, Sem.run_pure, Result.andThen_ok, run_underlying h1]
        rw [if_pos hc]
        simp only [Sem.run_bind, run_sizeT h3, Result.andThen_ok, hp, Sem.run_pure]
      · simp only [if_true] at hs
        have hp := run_partn (P := P) (off := i.toNat * n) h2 h3 cs' w
        split at hs
        · rename_i hle
          cases hs
          refine Res.pure hr (v' := .agg ((cs'.toList.drop (i.toNat * n)).take n).toArray) ?_ (VR.agg_of ((hv.drop _).take _))
          have : cs'.extract (i.toNat * n) (i.toNat * n + n) = ((cs'.toList.drop (i.toNat * n)).take n).toArray := by
            apply Array.ext'
            simp [Array.toList_extract, List.extract_eq_take_drop]
          rw [this] at hp
          simp only [Instr.index, asIntOf, Sem.run_bind, Sem.run_pure, Result.andThen_ok, run_underlying h1]
          rw [if_pos hc]
          simp only [Sem.run_bind, run_sizeT h3, Result.andThen_ok, hp, Sem.run_pure]
        · cases hs
    · cases hs
  · cases hs

theorem res_mm (hr : HR ng σ H.get w) {mx : Bool} {ts : Array TypeId} {ty : TypeId} {a a' b b' : Value} (ha : VR σ a a') (hb : VR σ b b') (hs : asem (.mm mx a b) H = some (v, H')) :
    Res ng σ H w ((do pure (Next.value (← if mx then Builtin.max_ ts ty #[a', b'] else Builtin.min_ ts ty #[a', b'])) : Sem Next).run P w) v H' := by
  simp only [asem] at hs
  split at hs
  · rename_i k a k' b
    split at hs
    · rename_i hk
      cases hs
      rw [ha.int_inv, hb.int_inv]
      refine Res.pure hr (v' := .int k (if mx then (if b > a then b else a) else (if b < a then b else a))) ?_ (.int _ _)
      cases mx <;> simp [Builtin.max_, Builtin.min_, Builtin.max2, Builtin.min2]
    · cases hs
  · cases hs

theorem res_i2str (hr : HR ng σ H.get w) {src dst : TypeId} {k : IntKind} (h1 : P.underlying src = some (.int k)) (h2 : P.underlying dst = some .string) {a a' : Value} (ha : VR σ a a') (hs : asem (.i2str a) H = some (v, H')) :
    Res ng σ H w ((do pure (Next.value (← convert src dst a')) : Sem Next).run P w) v H' := by
  simp only [asem] at hs
  split at hs
  · rename_i q n
    cases hs
    rw [ha.int_inv]
    exact Res.pure hr (v' := .string (Utf8.encode n)) (by simp [convert, run_underlying h1, run_underlying h2, Conv.intToString]) (.string _)
  · cases hs

/-! ### Ranges over texts -/
theorem res_rng (hr : HR ng σ H.get w) {t : TypeId} (h1 : P.underlying t = some .string) {a a' : Value} (ha : VR σ a a') (hs : asem (.rng a) H = some (v, H')) :
    Res ng σ H w ((do pure (Next.value (← Instr.range t a')) : Sem Next).run P w) v H' := by
  simp only [asem] at hs
  split at hs
  · rename_i s
    cases hs
    rw [ha.str_inv]
    obtain ⟨k1, k2⟩ := HR.alloc (w' := w.alloc (.stringIter s 0)) hr (o := .obj true (.stringIter s 0)) (i := ⟨w.heap.size, 0, 0, 0, 0, false⟩) (o' := .stringIter s 0) rfl ⟨heap_alloc_new w _, rfl, by simp⟩ rfl rfl rfl rfl
    refine ⟨_, .pointer (some ⟨w.heap.size, 0, none⟩), _, _, ?_, .inl rfl, k1, k2, ?_⟩
    · simp [Instr.range, run_underlying h1]
    · exact VR.ptr (i := ⟨w.heap.size, 0, 0, 0, 0, false⟩) (o := 0) (Sg.up_same _ _ _)
  · cases hs

theorem res_next (hr : HR ng σ H.get w) {ty : TypeId} {a a' : Value} (ha : VR σ a a') (hs : asem (.next a) H = some (v, H')) :
    Res ng σ H w ((do pure (Next.value (← Instr.next a' true ty)) : Sem Next).run P w) v H' := by
  simp only [asem] at hs
  split at hs
  · rename_i b
    split at hs
    · rename_i s pos hG
      cases ha with
      | @ptr _ _ i hb =>
        obtain ⟨ob, g1, g2⟩ := hr.obj b i hb
        rw [hG] at g1; cases g1
        obtain ⟨g2, g3, _⟩ := g2
        have hget : ∀ w : World, w.heap[i.c]? = some (.stringIter s pos) → (getObj i.c).run P w = .ok (.stringIter s pos) w := fun w h => by simp [getObj, Sem.run, h]
        have hlt := AHeap.get_lt hG
        split at hs
        · rename_i hpos
          cases hs
          have hset : (setObj i.c (.stringIter s (pos + (Utf8.decode s pos).2))).run P w = .ok () { w with heap := w.heap.setIfInBounds i.c (.stringIter s (pos + (Utf8.decode s pos).2)) } := by
            simp [setObj, Sem.run, g2]
          have hsz : i.c < w.heap.size := hr.lt b i hb
          refine ⟨_, .tuple #[.bool true, goInt pos, .int .i32 (Utf8.decode s pos).1], { w with heap := w.heap.setIfInBounds i.c (.stringIter s (pos + (Utf8.decode s pos).2)) }, σ, ?_, .inl rfl, ?_, ?_, ?_⟩
          · simp only [Instr.next, g3, Nat.zero_add, Sem.run_bind, hget w g2, Result.andThen_ok]
            rw [if_pos hpos]
            simp only [Sem.run_bind, hset, Result.andThen_ok, Sem.run_pure]
          · refine HR.upd (o2 := .obj true (.stringIter s (pos + (Utf8.decode s pos).2))) hr hb hG rfl (fun k hk => ?_) (by simp) (fun x hx => AHeap.get_set_other H hx hlt _) (AHeap.get_set_same hG _) ?_
            · show (w.heap.setIfInBounds i.c _)[k]? = _
              rw [Array.getElem?_setIfInBounds_ne (Ne.symm hk)]
            · refine ⟨?_, g3, by simp⟩
              show (w.heap.setIfInBounds i.c _)[i.c]? = _
              rw [Array.getElem?_setIfInBounds_self_of_lt hsz]
          · refine ⟨Sg.le.refl σ, (fun x j hx hx' => by rw [hx] at hx'; cases hx'), fun x j o' hx ho hown => ?_, fun x j o' hx ho hlv => ?_, fun k hk hne => ?_, by simp, by simp [AHeap.set], rfl, rfl, rfl⟩
            · by_cases hxb : x = b
              · subst hxb; exact ⟨_, hG, rfl⟩
              · rw [AHeap.get_set_other H hxb hlt] at ho; exact ⟨o', ho, hown⟩
            · by_cases hxb : x = b
              · subst hxb; exact ⟨_, hG, rfl⟩
              · rw [AHeap.get_set_other H hxb hlt] at ho; exact ⟨o', ho, hlv⟩
            · show (w.heap.setIfInBounds i.c _)[k]? = _
              rw [Array.getElem?_setIfInBounds_ne (hne b i _ hb hG rfl)]
          · exact VR.tuple_of (.cons (.bool _) (.cons (.int _ _) (.cons (.int _ _) .nil)))
        · rename_i hpos
          cases hs
          refine Res.pure hr (v' := .tuple #[.bool false]) ?_ (VR.tuple_of (.cons (.bool _) .nil))
          simp only [Instr.next, g3, Nat.zero_add, Sem.run_bind, hget w g2, Result.andThen_ok]
          rw [if_neg hpos]
          simp
    · cases hs
  · cases hs

/-! ### Slices of arrays -/
theorem res_slarr (hr : HR ng σ H.get w) {t e esz len : Nat} (h1 : P.underlying t = some (.array len e)) (hz : sizeT P e = some esz) {a a' : Value} (ha : VR σ a a') {lo hi mx lo' hi' mx' : Option Value}
    (hlo : ∀ u, lo = some u → ∃ u', lo' = some u' ∧ VR σ u u') (hhi : ∀ u, hi = some u → ∃ u', hi' = some u' ∧ VR σ u u') (hmx : ∀ u, mx = some u → ∃ u', mx' = some u' ∧ VR σ u u')
    (hlo0 : lo = none → lo' = none) (hhi0 : hi = none → hi' = none) (hmx0 : mx = none → mx' = none) (hmh : mx ≠ none → hi ≠ none) (hs : asem (.slarr esz len a lo hi mx) H = some (v, H')) :
    Res ng σ H w ((do pure (Next.value (← Instr.sliceAt t a' lo' hi' mx')) : Sem Next).run P w) v H' := by
  simp only [asem] at hs
  split at hs
  case h_2 => cases hs
  rename_i b o
  split at hs
  case h_2 => cases hs
  rename_i m hm
  split at hs
  case h_2 => cases hs
  rename_i h hh
  split at hs
  case h_2 => cases hs
  rename_i l hl
  have bounds : (Instr.sliceBounds false len len lo' hi' mx').run P w = .ok (l, h, m) w ∧ l ≤ h ∧ h ≤ m := by
    rcases bndA_run hmx hm with ⟨e1, e2⟩ | ⟨kk, i, e1, e2, e3, e4, e5⟩
    · rcases bndA_run hhi hh with ⟨f1, f2⟩ | ⟨k1, i1, f1, f2, f3, f4, f5⟩
      · rcases bndA_run hlo hl with ⟨g1, g2⟩ | ⟨k2, i2, g1, g2, g3, g4, g5⟩
        · refine ⟨?_, by omega, by omega⟩
          rw [hmx0 e1, hhi0 f1, hlo0 g1, f2, g2, e2]
          simp [Instr.sliceBounds]
        · refine ⟨?_, by omega, by omega⟩
          rw [hmx0 e1, hhi0 f1, g2, f2, g5, e2]
          rw [f2] at g4
          simp [Instr.sliceBounds, run_bound g3 g4]
      · rw [e2] at f4
        rcases bndA_run hlo hl with ⟨g1, g2⟩ | ⟨k2, i2, g1, g2, g3, g4, g5⟩
        · refine ⟨?_, by omega, by omega⟩
          rw [hmx0 e1, f2, hlo0 g1, f5, g2, e2]
          simp [Instr.sliceBounds, run_bound f3 f4]
        · refine ⟨?_, by omega, by omega⟩
          rw [hmx0 e1, f2, g2, f5, g5, e2]
          rw [f5] at g4
          simp [Instr.sliceBounds, run_bound f3 f4, run_bound g3 g4]
    · rcases bndA_run hhi hh with ⟨f1, f2⟩ | ⟨k1, i1, f1, f2, f3, f4, f5⟩
      · exact absurd f1 (hmh (by rw [e1]; simp))
      · rw [e5] at f4
        rcases bndA_run hlo hl with ⟨g1, g2⟩ | ⟨k2, i2, g1, g2, g3, g4, g5⟩
        · refine ⟨?_, by omega, by omega⟩
          rw [e2, f2, hlo0 g1, f5, g2, e5]
          simp [Instr.sliceBounds, run_bound e3 e4, run_bound f3 f4]
        · refine ⟨?_, by omega, by omega⟩
          rw [f5] at g4
          rw [e2, f2, g2, f5, g5, e5]
          simp [Instr.sliceBounds, run_bound e3 e4, run_bound f3 f4, run_bound g3 g4]
  obtain ⟨r1, r2, r3⟩ := bounds
  cases hs
  cases ha with
  | @ptr _ _ j hj =>
    refine Res.pure hr (v' := .slice (some (if m = l then ⟨j.c, j.off + o, none⟩ else ⟨j.c, j.off + o + l * esz, none⟩)) (h - l) (m - l)) ?_ ?_
    · by_cases hml : m = l
      · simp [Instr.sliceAt, run_underlying h1, Instr.sureAddr, r1, run_sizeT hz, hml]
      · simp [Instr.sliceAt, run_underlying h1, Instr.sureAddr, r1, run_sizeT hz, hml, add_plain]
    · by_cases hml : m = l
      · have h0 : h = l := by omega
        subst hml; subst h0
        simp only [if_true, Nat.sub_self]
        exact .sl0 hj
      · rw [if_neg hml]
        have hv := VR.sl (σ := σ) (b := b) (o := o + l * esz) (n := h - l) (k := m - l) (k' := m - l) (i := j) hj (by omega) (.inl rfl)
        rw [← Nat.add_assoc] at hv
        exact hv

/-! ### Equality, cell by cell -/
/-- What a type's value is, of its cells. -/
def ofCells (P : Program) (t : TypeId) (cs : List Value) : Value := if isAggT P t = some true then .agg cs.toArray else cs.headD undef

theorem eqCs_split : ∀ {l1 : List Nat} {l2 : List Nat} {xs ys : List Value} {r : Bool}, eqCs (l1 ++ l2) xs ys = some r → ∃ a b, eqCs l1 (xs.take l1.length) (ys.take l1.length) = some a ∧ eqCs l2 (xs.drop l1.length) (ys.drop l1.length) = some b ∧ r = (a && b)
  | [], l2, xs, ys, r, h => ⟨true, r, by simp [eqCs], by simpa using h, by simp⟩
  | c :: l1, l2, x :: xs, y :: ys, r, h => by
    simp only [List.cons_append, eqCs] at h
    split at h
    · rename_i a b ha hb
      obtain ⟨a1, b1, h1, h2, rfl⟩ := eqCs_split hb
      cases h
      refine ⟨a && a1, b1, ?_, by simpa using h2, by rw [Bool.and_assoc]⟩
      simp only [List.length_cons, List.take_succ_cons, eqCs, ha, h1]
    · cases h
  | c :: l1, l2, [], ys, r, h => by cases ys <;> simp [eqCs] at h
  | c :: l1, l2, x :: xs, [], r, h => by simp [eqCs] at h

theorem eqCs_len : ∀ {l : List Nat} {xs ys : List Value} {r : Bool}, eqCs l xs ys = some r → xs.length = l.length ∧ ys.length = l.length
  | [], [], [], r, h => ⟨rfl, rfl⟩
  | [], [], _ :: _, r, h => by simp [eqCs] at h
  | [], _ :: _, ys, r, h => by cases ys <;> simp [eqCs] at h
  | c :: l, x :: xs, y :: ys, r, h => by
    simp only [eqCs] at h
    split at h
    · rename_i a b ha hb
      obtain ⟨h1, h2⟩ := eqCs_len hb
      simp [h1, h2]
    · cases h
  | c :: l, [], ys, r, h => by cases ys <;> simp [eqCs] at h
  | c :: l, x :: xs, [], r, h => by simp [eqCs] at h

theorem run_part_cells {e off n : Nat} {agg : Bool} (h1 : isAggT P e = some agg) (h2 : sizeT P e = some n) (hn : agg = false → n = 1) {cs : List Value} (hle : off + n ≤ cs.length) (w : World) :
    (part e cs.toArray off).run P w = .ok (ofCells P e ((cs.drop off).take n)) w := by
  unfold ofCells
  rw [h1]
  cases agg
  · have := hn rfl
    subst this
    simp only [Bool.false_eq_true, if_false, Option.some.injEq]
    have hlt : off < cs.length := by omega
    have e1 : cs.toArray[off]? = some cs[off] := by simp [hlt]
    rw [run_part1 h1 h2 e1]
    simp only [List.take_one, List.head?_drop, List.getElem?_eq_getElem hlt]
    rfl
  · rw [run_partn h1 h2]
    simp only [if_true]
    congr 2
    apply Array.ext'
    simp [Array.toList_extract, List.extract_eq_take_drop]

/-- The size of a type of such cells, and that one cell alone is no aggregate. -/
theorem flat_kind {d t : Nat} {l : List Nat} (h : flatT P d t = some l) : ∃ agg, isAggT P t = some agg ∧ (agg = false → l.length = 1) := by
  cases d with
  | zero => simp [flatT] at h
  | succ d =>
    simp only [flatT] at h
    unfold isAggT
    split at h
    · rename_i hu; cases h; exact ⟨false, by rw [hu]; rfl, fun _ => rfl⟩
    · rename_i hu; cases h; exact ⟨false, by rw [hu]; rfl, fun _ => rfl⟩
    · rename_i hu; cases h; exact ⟨false, by rw [hu]; rfl, fun _ => rfl⟩
    · rename_i fs hu; exact ⟨true, by rw [hu]; rfl, by simp⟩
    · rename_i n e hu; exact ⟨true, by rw [hu]; rfl, by simp⟩
    · cases h

theorem flatFs_run {f : TypeId → Option (List Nat)} {D : Nat} (hf : ∀ u l, f u = some l → sizeT P u = some l.length ∧ (∃ agg, isAggT P u = some agg ∧ (agg = false → l.length = 1)) ∧ ∀ (xs ys : List Value) (r : Bool), eqCs l xs ys = some r → ∀ w, (Op.equalIn D u (ofCells P u xs) (ofCells P u ys)).run P w = .ok r w)
    (XS YS : List Value) : ∀ (fs : List Field) (off : Nat) (l : List Nat) (r : Bool), flatFs f fs off = some l → eqCs l (XS.drop off) (YS.drop off) = some r → ∀ w, (Op.eqFields D XS.toArray YS.toArray fs).run P w = .ok r w
  | [], off, l, r, h, hq, w => by
    simp only [flatFs, Option.some.injEq] at h
    subst h
    have : r = true := by
      have hl := eqCs_len hq
      rw [List.eq_nil_of_length_eq_zero hl.1, List.eq_nil_of_length_eq_zero hl.2] at hq
      simpa [eqCs] using hq.symm
    subst this
    simp [Op.eqFields]
  | fd :: fs, off, l, r, h, hq, w => by
    simp only [flatFs] at h
    split at h
    · rename_i hc
      obtain ⟨rfl, hn⟩ := hc
      split at h
      · rename_i l1 hl1
        simp only [Option.map_eq_some_iff] at h
        obtain ⟨l2, hl2, rfl⟩ := h
        obtain ⟨hsz, ⟨agg, hag, hone⟩, hrun⟩ := hf _ _ hl1
        have hlen := eqCs_len hq
        simp only [List.length_append, List.length_drop] at hlen
        obtain ⟨a, b, h1, h2, rfl⟩ := eqCs_split hq
        rw [List.drop_drop, List.drop_drop] at h2
        have hrest := flatFs_run hf XS YS fs (fd.offset + l1.length) l2 b hl2 h2 w
        have hz1 : 0 < l1.length ∨ l1.length = 0 := by omega
        have p1 : (part fd.type XS.toArray fd.offset).run P w = .ok (ofCells P fd.type ((XS.drop fd.offset).take l1.length)) w := by
          by_cases h0 : fd.offset + l1.length ≤ XS.length
          · exact run_part_cells hag hsz hone h0 w
          · have hx : l1.length = 0 := by omega
            have : agg = true := by
              cases agg with
              | true => rfl
              | false => have := hone rfl; omega
            subst this
            rw [run_partn hag hsz, hx]
            simp only [if_true, ofCells, hag]
            congr 2
            apply Array.ext'
            simp [Array.toList_extract, List.extract_eq_take_drop]
        have p2 : (part fd.type YS.toArray fd.offset).run P w = .ok (ofCells P fd.type ((YS.drop fd.offset).take l1.length)) w := by
          by_cases h0 : fd.offset + l1.length ≤ YS.length
          · exact run_part_cells hag hsz hone h0 w
          · have hx : l1.length = 0 := by omega
            have : agg = true := by
              cases agg with
              | true => rfl
              | false => have := hone rfl; omega
            subst this
            rw [run_partn hag hsz, hx]
            simp only [if_true, ofCells, hag]
            congr 2
            apply Array.ext'
            simp [Array.toList_extract, List.extract_eq_take_drop]
        have p3 := hrun _ _ _ h1 w
        simp only [Op.eqFields, hn, ne_eq, not_false_eq_true, if_true, Sem.run_bind, p1, p2, p3, Result.andThen_ok]
        cases a
        · simp
        · simpa using hrest
      · cases h
    · cases h

theorem eqItems_run {e D : Nat} {l : List Nat} (hsz : sizeT P e = some l.length) (hk : ∃ agg, isAggT P e = some agg ∧ (agg = false → l.length = 1)) (hrun : ∀ (xs ys : List Value) (r : Bool), eqCs l xs ys = some r → ∀ w, (Op.equalIn D e (ofCells P e xs) (ofCells P e ys)).run P w = .ok r w)
    (XS YS : List Value) : ∀ (n i : Nat) (r : Bool), eqCs (List.replicate n l).flatten (XS.drop (i * l.length)) (YS.drop (i * l.length)) = some r → ∀ w, (Op.eqItems D e l.length XS.toArray YS.toArray (List.range' i n)).run P w = .ok r w
  | 0, i, r, h, w => by
    have : r = true := by
      have hl := eqCs_len h
      simp only [List.replicate_zero, List.flatten_nil, List.length_nil] at hl
      rw [List.eq_nil_of_length_eq_zero hl.1, List.eq_nil_of_length_eq_zero hl.2] at h
      simpa [eqCs] using h.symm
    subst this
    simp [Op.eqItems]
  | n + 1, i, r, h, w => by
    obtain ⟨agg, hag, hone⟩ := hk
    simp only [List.replicate_succ, List.flatten_cons] at h
    have hlen := eqCs_len h
    simp only [List.length_append, List.length_drop] at hlen
    obtain ⟨a, b, h1, h2, rfl⟩ := eqCs_split h
    rw [List.drop_drop, List.drop_drop] at h2
    have hmul : i * l.length + l.length = (i + 1) * l.length := by rw [Nat.add_mul]; omega
    rw [hmul] at h2
    have hrest := eqItems_run hsz ⟨agg, hag, hone⟩ hrun XS YS n (i + 1) b h2 w
    have pp : ∀ Z : List Value, (l.length = 0 ∨ i * l.length + l.length ≤ Z.length) → (part e Z.toArray (i * l.length)).run P w = .ok (ofCells P e ((Z.drop (i * l.length)).take l.length)) w := by
      intro Z hZ
      by_cases h0 : i * l.length + l.length ≤ Z.length
      · exact run_part_cells hag hsz hone h0 w
      · have hx : l.length = 0 := by omega
        have : agg = true := by
          cases agg with
          | true => rfl
          | false => have := hone rfl; omega
        subst this
        rw [run_partn hag hsz, hx]
        simp only [if_true, ofCells, hag]
        congr 2
        apply Array.ext'
        simp [Array.toList_extract, List.extract_eq_take_drop]
    have p1 := pp XS (by omega)
    have p2 := pp YS (by omega)
    have p3 := hrun _ _ _ h1 w
    simp only [List.range'_succ, Op.eqItems, Sem.run_bind, p1, p2, p3, Result.andThen_ok]
    cases a
    · simp
    · simpa using hrest

theorem flat_run : ∀ (d : Nat) (t : TypeId) (l : List Nat), flatT P d t = some l → ∀ (xs ys : List Value) (r : Bool), eqCs l xs ys = some r → ∀ (D : Nat), d ≤ D → ∀ w, (Op.equalIn D t (ofCells P t xs) (ofCells P t ys)).run P w = .ok r w := by
  intro d
  induction d with
  | zero => intro t l h; simp [flatT] at h
  | succ d ih =>
    intro t l h xs ys r hq D hD w
    obtain ⟨D, rfl⟩ : ∃ D', D = D' + 1 := ⟨D - 1, by omega⟩
    have hl := eqCs_len hq
    have one : ∀ k, l = [k] → isAggT P t = some false → ∃ x y, xs = [x] ∧ ys = [y] ∧ eqC k x y = some r ∧ ofCells P t xs = x ∧ ofCells P t ys = y := by
      intro k e hag
      subst e
      match xs, ys, hl with
      | [x], [y], _ =>
        refine ⟨x, y, rfl, rfl, ?_, by simp [ofCells, hag], by simp [ofCells, hag]⟩
        simp only [eqCs] at hq
        split at hq
        · rename_i a b ha hb
          cases hb
          simp only [Bool.and_true, Option.some.injEq] at hq
          subst hq
          exact ha
        · cases hq
    simp only [flatT] at h
    split at h
    · rename_i hu
      cases h
      obtain ⟨x, y, rfl, rfl, h1, h2, h3⟩ := one 0 rfl (by unfold isAggT; rw [hu]; rfl)
      rw [h2, h3]
      unfold eqC at h1
      split at h1 <;> first | (cases h1; done) | skip
      all_goals (first | (simp only [Option.some.injEq] at h1; subst h1; simp [Op.equalIn, run_underlying hu]; done) | (exfalso; simp_all; done))
    · rename_i k hu
      cases h
      obtain ⟨x, y, rfl, rfl, h1, h2, h3⟩ := one 1 rfl (by unfold isAggT; rw [hu]; rfl)
      rw [h2, h3]
      unfold eqC at h1
      split at h1 <;> first | (cases h1; done) | skip
      · exfalso; simp_all
      · split at h1
        · rename_i hk
          subst hk
          simp only [Option.some.injEq] at h1; subst h1
          simp [Op.equalIn, run_underlying hu]
        · cases h1
      · exfalso; simp_all
    · rename_i hu
      cases h
      obtain ⟨x, y, rfl, rfl, h1, h2, h3⟩ := one 2 rfl (by unfold isAggT; rw [hu]; rfl)
      rw [h2, h3]
      unfold eqC at h1
      split at h1 <;> first | (cases h1; done) | skip
      · exfalso; simp_all
      · exfalso; simp_all
      · simp only [Option.some.injEq] at h1; subst h1
        rw [run_equalIn_string w D t _ _ hu, str_eq]
    · rename_i fs hu
      split at h
      · cases h
      · rename_i hst
        have hst' : P.stoodInHeld t = false := by simpa using hst
        have hag : isAggT P t = some true := by unfold isAggT; rw [hu]; rfl
        have hfs : P.fieldsOf t = fs := by simp [Program.fieldsOf, hu]
        simp only [ofCells, hag, if_true]
        rw [run_equalIn_struct w D t _ _ (by rw [hfs]; exact hu) hst', hfs]
        refine flatFs_run (fun u lu hlu => ?_) xs ys fs.toList 0 l r h (by simpa using hq) w
        split at hlu
        · rename_i l' hl'
          split at hlu
          · rename_i hs'
            cases hlu
            exact ⟨hs', flat_kind hl', fun xs ys r hq w => ih u lu hl' xs ys r hq D (by omega) w⟩
          · cases hlu
        · cases hlu
    · rename_i n e hu
      split at h
      · rename_i l1 hl1
        split at h
        · rename_i hs1
          cases h
          have hag : isAggT P t = some true := by unfold isAggT; rw [hu]; rfl
          obtain ⟨i, hi, hin⟩ : ∃ i, P.info? e = some i ∧ i.size = l1.length := by
            unfold sizeT at hs1
            simpa [Option.map_eq_some_iff] using hs1
          have hco : P.cellsOf e = l1.length := by simp [Program.cellsOf, hi, hin]
          simp only [ofCells, hag, if_true]
          rw [run_equalIn_array w D xs.toArray ys.toArray hu hi, hco, List.range_eq_range']
          exact eqItems_run hs1 (flat_kind hl1) (fun xs ys r hq w => ih e l1 hl1 xs ys r hq D (by omega) w) xs ys n 0 r (by simpa using hq) w
        · cases h
      · cases h
    · cases h

theorem eqC_ground {k : Nat} {x y x' y' : Value} {r : Bool} (h : eqC k x y = some r) (hx : VR σ x x') (hy : VR σ y y') : x' = x ∧ y' = y := by
  unfold eqC at h
  split at h
  · exact ⟨hx.bool_inv, hy.bool_inv⟩
  · exact ⟨hx.int_inv, hy.int_inv⟩
  · exact ⟨hx.str_inv, hy.str_inv⟩
  · cases h
theorem eqCs_ground : ∀ {l : List Nat} {xs ys xs' ys' : List Value} {r : Bool}, eqCs l xs ys = some r → VL σ xs xs' → VL σ ys ys' → xs' = xs ∧ ys' = ys
  | [], [], [], _, _, r, h, .nil, .nil => ⟨rfl, rfl⟩
  | [], [], _ :: _, _, _, r, h, _, _ => by simp [eqCs] at h
  | [], _ :: _, ys, _, _, r, h, _, _ => by cases ys <;> simp [eqCs] at h
  | c :: l, x :: xs, y :: ys, _, _, r, h, .cons a b, .cons a' b' => by
    simp only [eqCs] at h
    split at h
    · rename_i p q hp hq
      obtain ⟨e1, e2⟩ := eqC_ground hp a a'
      obtain ⟨e3, e4⟩ := eqCs_ground hq b b'
      rw [e1, e2, e3, e4]; exact ⟨rfl, rfl⟩
    · cases h
  | c :: l, [], ys, _, _, r, h, _, _ => by cases ys <;> simp [eqCs] at h
  | c :: l, x :: xs, [], _, _, r, h, _, _ => by simp [eqCs] at h

theorem res_eqs (hr : HR ng σ H.get w) {op : BinOp} {neg : Bool} (hop : (op = .eql ∧ neg = false) ∨ (op = .neq ∧ neg = true)) {t : Nat} (hag : isAggT P t = some true) {cs : List Nat} (ht : eqsT P t = some cs)
    {x y : Operand} {a a' b b' : Value} (ha : VR σ a a') (hb : VR σ b b') (hs : asem (.eqs cs neg a b) H = some (v, H')) :
    Res ng σ H w ((do pure (Next.value (← (do eqGuard op t x y a' b'; binOp op t a' b'))) : Sem Next).run P w) v H' := by
  simp only [asem] at hs
  split at hs
  · rename_i xs ys
    simp only [Option.map_eq_some_iff, Prod.mk.injEq] at hs
    obtain ⟨r, hq, rfl, rfl⟩ := hs
    obtain ⟨xs', rfl⟩ := agg_inv ha
    obtain ⟨ys', rfl⟩ := agg_inv hb
    obtain ⟨e1, e2⟩ := eqCs_ground hq (agg_get ha) (agg_get hb)
    have e1' : xs' = xs := Array.toList_inj.1 e1
    have e2' : ys' = ys := Array.toList_inj.1 e2
    subst e1' e2'
    unfold eqsT at ht
    split at ht
    · cases ht
    · rename_i hg
      have hrun : (Op.equal t (.agg xs') (.agg ys')).run P w = .ok r w := by
        have := flat_run 20 t cs ht xs'.toList ys'.toList r hq 10000 (by omega) w
        show (Op.equalIn 10000 t (.agg xs') (.agg ys')).run P w = .ok r w
        simpa [ofCells, hag] using this
      have hgd : (eqGuard op t x y (.agg xs') (.agg ys')).run P w = .ok () w := by
        unfold eqGuard
        rcases hop with ⟨rfl, rfl⟩ | ⟨rfl, rfl⟩ <;> simp [hg]
      have hbin : (binOp op t (.agg xs') (.agg ys')).run P w = .ok (.bool (if neg then !r else r)) w := by
        rcases hop with ⟨rfl, rfl⟩ | ⟨rfl, rfl⟩
        · simp only [binOp, Sem.run_bind, hrun, Result.andThen_ok, Sem.run_pure]; rfl
        · simp only [binOp, Sem.run_bind, hrun, Result.andThen_ok, Sem.run_pure]; rfl
      exact Res.pure hr (by simp only [Sem.run_bind, hgd, Result.andThen_ok, hbin, Sem.run_pure]) (.bool _)
  · cases hs

/-! ### copy, clear -/
theorem res_copy (hr : HR ng σ H.get w) {t u ty e e2 esz : Nat} (ht : P.underlying t = some (.slice e)) (hn : sizeT P e = some esz) {d d' x x' : Value} (hd : VR σ d d') (hx : VR σ x x') (hs : asem (.copy esz d x) H = some (v, H')) :
    Res ng σ H w ((do pure (Next.value (← Builtin.copy_ #[t, u] ty #[d', x'])) : Sem Next).run P w) v H' := by
  simp only [asem] at hs
  split at hs
  · rename_i n k xa m xk
    split at hs
    · rename_i hc
      cases hs
      obtain ⟨rfl, rfl⟩ := hc
      obtain ⟨xa', m', xk', rfl⟩ : ∃ xa' m' xk', x' = .slice xa' m' xk' := by cases hx <;> exact ⟨_, _, _, rfl⟩
      cases hd
      refine Res.pure hr (v' := .int .i64 0) ?_ (.int _ _)
      have hfc : (Builtin.firstCells esz 0 (.slice xa' m' xk')).run P w = .ok #[] w := by
        cases xa' with
        | none => simp [Builtin.firstCells]
        | some a => exact run_firstCells_some w esz 0 a m' xk' [] (by simp) (by simp)
      simp [Builtin.copy_, run_underlying ht, Builtin.lenOf, run_sizeT hn, hfc, goInt]
    · cases hs
  · rename_i b o n k xa m xk
    split at hs
    · rename_i l own room esz' c e' hel hG
      obtain ⟨xa', m', xk', l', rfl, hlen, hvl, hll, hl1, hlc⟩ := elemsA_sound hr hx hel
      have hmm : m' = m := by simpa [lenA] using hlen.symm
      subst hmm
      obtain ⟨j, dn, dk, da, rfl, hj, hda, hdn⟩ : ∃ j dn dk da, d' = .slice (some da) dn dk ∧ σ b = some j ∧ (n ≠ 0 → da = ⟨j.c, j.off + o, none⟩) ∧ dn = n := by
        cases hd with
        | @sl _ _ _ _ k' j hj q1 q2 => exact ⟨j, _, _, _, rfl, hj, fun _ => rfl, rfl⟩
        | @sl0 _ _ o' j hj => exact ⟨j, _, _, _, rfl, hj, fun h => absurd rfl h, rfl⟩
        | slz hx => simp at hx
      subst hdn
      have hpre : (Builtin.firstCells esz (min m' dn) (.slice xa' m' xk')).run P w = .ok (l'.take (min m' dn * esz)).toArray w := by
        have hle : min m' dn * esz ≤ m' * esz := Nat.mul_le_mul_right _ (by omega)
        have hlt : (l'.take (min m' dn * esz)).length = min m' dn * esz := by rw [List.length_take]; omega
        rcases hlc with ⟨rfl, hm0⟩ | ⟨ad, rfl, hc⟩
        · subst hm0
          have : l' = [] := List.eq_nil_of_length_eq_zero (by simpa using hll)
          subst this
          simp [Builtin.firstCells]
        · refine run_firstCells_some w esz (min m' dn) ad m' xk' _ hlt (fun q u hq => hc q u ?_)
          rw [List.getElem?_take] at hq
          split at hq
          · exact hq
          · cases hq
      split at hs
      · rename_i h0
        cases hs
        refine Res.pure hr (v' := .int .i64 0) ?_ (.int _ _)
        rw [h0] at hpre
        simp only [Nat.zero_mul, List.take_zero] at hpre
        have h0' : Nat.min m' dn = 0 := h0
        simp [Builtin.copy_, run_underlying ht, Builtin.lenOf, run_sizeT hn, h0', hpre, goInt, storeCells]
      · rename_i h0
        split at hs
        · rename_i hc
          obtain ⟨rfl, hle⟩ := hc
          cases hs
          have hll2 : (l.take (min m' dn * esz)).length = min m' dn * esz := by
            have h1 := hvl.length
            have hle2 : min m' dn * esz ≤ m' * esz := Nat.mul_le_mul_right _ (by omega)
            rw [List.length_take]; omega
          obtain ⟨w', e1, e2, e3⟩ := res_cells (P := P) hr hj hG (o := o) (hvl.take (min m' dn * esz)) (by rw [hll2]; exact hle) (fun u hu => hl1 u (List.mem_of_mem_take hu)) (fun u hu => hvl.one hl1 u (List.mem_of_mem_take hu))
          rw [hll2] at e2 e3
          rw [hda (by omega)]
          refine ⟨_, .int .i64 (min m' dn : Nat), w', σ, ?_, .inl rfl, e2, e3, .int _ _⟩
          have hmn : Nat.min m' dn = min m' dn := rfl
          simp only [Builtin.copy_, List.getElem?_toArray, List.getElem?_cons_zero, List.getElem?_cons_succ, Sem.run_bind, run_underlying ht, Result.andThen_ok, Builtin.lenOf, Sem.run_pure, run_sizeT hn, hmn, hpre, e1, goInt]
        · cases hs
    · cases hs
  · cases hs

theorem res_clr (hr : HR ng σ H.get w) {t ty e esz : Nat} {z : Value} (ht : P.underlying t = some (.slice e)) (hz : zeroT P e = some z) (hn : sizeT P e = some esz) (hzn : z.cells.size = esz) (h0 : 0 < esz) (hp : VL σ z.cells.toList z.cells.toList) {x x' : Value} (hx : VR σ x x') (hs : asem (.clr esz z.cells.toList x) H = some (v, H')) :
    Res ng σ H w ((do pure (Next.value (← Builtin.clear_ #[t] ty #[x'])) : Sem Next).run P w) v H' := by
  have unit : VR σ (.tuple #[]) (.tuple #[]) := .tuple _ _ rfl (fun i a => by simp at a)
  simp only [asem] at hs
  split at hs
  · rename_i n k
    split at hs
    · rename_i hc
      cases hs
      obtain ⟨rfl, rfl⟩ := hc
      cases hx
      exact Res.pure hr (v' := .tuple #[]) (by simp [Builtin.clear_, run_underlying ht]) unit
    · cases hs
  · rename_i b o n k
    split at hs
    · rename_i hn0
      cases hs
      subst hn0
      cases hx <;> exact Res.pure hr (v' := .tuple #[]) (by simp [Builtin.clear_, run_underlying ht]) unit
    · rename_i hn0
      split at hs
      · rename_i own room esz' c e' hG
        split at hs
        · rename_i hc
          obtain ⟨rfl, hle, hzl, hz1⟩ := hc
          cases hs
          cases hx with
          | sl0 hj => exact absurd rfl hn0
          | slz hx => exact absurd rfl hn0
          | @sl _ _ _ _ k' j hj q1 q2 =>
            have hvr : VL σ (List.replicate n z.cells.toList).flatten (List.replicate n z.cells.toList).flatten := by
              clear hle hn0 q1
              induction n with
              | zero => exact .nil
              | succ n ih => rw [List.replicate_succ, List.flatten_cons]; exact hp.append ih
            have hlen : (List.replicate n z.cells.toList).flatten.length = n * esz := by simp [hzn]
            have h1 : ∀ u ∈ (List.replicate n z.cells.toList).flatten, u.oneCell' = true := by
              intro u hu
              obtain ⟨l, hl, hu2⟩ := List.mem_flatten.1 hu
              rw [List.eq_of_mem_replicate hl] at hu2
              exact List.all_eq_true.1 hz1 u hu2
            obtain ⟨w', e1, e2, e3⟩ := res_cells (P := P) hr hj hG (o := o) hvr (by rw [hlen]; exact hle) h1 h1
            rw [hlen] at e2 e3
            refine ⟨_, .tuple #[], w', σ, ?_, .inl rfl, e2, e3, unit⟩
            have hzc : (Builtin.zeroCells z.cells n).toList = (List.replicate n z.cells.toList).flatten := by
              rw [Builtin.zeroCells]
              simp only [Array.toList_map, Array.toList_range]
              have := range_mod z.cells esz hzn n
              rw [hzn] at this ⊢
              exact this
            obtain ⟨n', rfl⟩ : ∃ n', n = n' + 1 := ⟨n - 1, by omega⟩
            simp only [Builtin.clear_, List.getElem?_toArray, List.getElem?_cons_zero, Sem.run_bind, run_underlying ht, Result.andThen_ok, run_zeroT hz, hzc, e1, Sem.run_pure]
        · cases hs
      · cases hs
  · cases hs

end
end Go.AM
