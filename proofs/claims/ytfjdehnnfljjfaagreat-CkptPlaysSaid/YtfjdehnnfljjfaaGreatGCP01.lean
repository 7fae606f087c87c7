/- Part of the proof. -/
import Derived.Test.YtfjdehnnfljjfaaGreatGCP00
import Derived.ChangeKeysEq
import Derived.RangeFuncRecord
import Derived.Tactics
import Derived.Deep.LoopGhost
import Derived.OrdersIn
import Derived.TacticsIn
import Derived.RangeFuncCalls
set_option linter.unusedSimpArgs false
set_option linter.unusedVariables false
set_option linter.unusedSimpArgs false
set_option linter.unusedVariables false
namespace Go.AM
section
variable {P : Program} {ng : Nat} {σ : Sg} {H H' : AHeap} {w : World} {v : Value}
theorem res_iaddrp (hr : HR ng σ H.get w) {t e n len : Nat} (h1 : P.underlying t = some (.array len e)) (h2 : sizeT P e = some n) {a a' b b' : Value} (ha : VR σ a a') (hb : VR σ b b') (hs : asem (.iaddrp n len a b) H = some (v, H')) :
    Res ng σ H w ((do pure (Next.value (← Instr.indexAt t a' b')) : Sem Next).run P w) v H' := by
  simp only [asem] at hs
  split at hs
  · rename_i bl o k i
    split at hs
    · rename_i hc
      cases hs
      rw [hb.int_inv]
      cases ha with
      | @ptr _ _ j hj =>
        refine Res.pure hr (v' := .pointer (some ⟨j.c, j.off + (o + i.toNat * n), none⟩)) ?_ (.ptr hj)
        simp [Instr.indexAt, run_underlying h1, asIntOf, hc.1, hc.2, run_sizeT h2, add_plain, Nat.add_assoc, Instr.sureAddr]
    · cases hs
  · cases hs
theorem run_part1 {e off n : Nat} (h1 : isAggT P e = some false) (h2 : sizeT P e = some n) {cs : Array Value} {u : Value} (hu : cs[off]? = some u) (w : World) : (part e cs off).run P w = .ok u w := by
  simp only [part, Sem.run_bind, run_isAgg h1, Result.andThen_ok, Bool.false_eq_true, if_false, hu, Sem.run_pure]
theorem run_partn {e off n : Nat} (h1 : isAggT P e = some true) (h2 : sizeT P e = some n) (cs : Array Value) (w : World) : (part e cs off).run P w = .ok (.agg (cs.extract off (off + n))) w := by
  simp [part, run_isAgg h1, run_sizeT h2]
theorem res_idxa (hr : HR ng σ H.get w) {t e n len : Nat} {agg : Bool} (h1 : P.underlying t = some (.array len e)) (h2 : isAggT P e = some agg) (h3 : sizeT P e = some n) {a a' b b' : Value} (ha : VR σ a a') (hb : VR σ b b') (hs : asem (.idxa agg n len a b) H = some (v, H')) :
    Res ng σ H w ((do pure (Next.value (← Instr.index t a' b')) : Sem Next).run P w) v H' := by
  simp only [asem] at hs
  split at hs
  · rename_i cs k i
    split at hs
    · rename_i hc
      rw [hb.int_inv]
      obtain ⟨cs', rfl⟩ := agg_inv ha
      have hv := agg_get ha
      cases agg
      · simp only [Bool.false_eq_true, if_false, Option.map_eq_some_iff, Prod.mk.injEq] at hs
        obtain ⟨u, hu, rfl, rfl⟩ := hs
        obtain ⟨u', e1, e2⟩ := hv.get hu
        have e1' : cs'[i.toNat * n]? = some u' := by simpa using e1
        have hp := run_part1 (P := P) h2 h3 e1' w
        refine Res.pure hr (v' := u') ?_ e2
        simp only [Instr.index, asIntOf, Sem.run_bind, Sem.run_pure, Result.andThen_ok, run_underlying h1]
        rw [if_pos hc]
        simp only [Sem.run_bind, run_sizeT h3, Result.andThen_ok, hp, Sem.run_pure]
      · simp only [if_true] at hs
        have hp := run_partn (P := P) (off := i.toNat * n) h2 h3 cs' w
        split at hs
        · rename_i hle
          cases hs
          refine Res.pure hr (v' := .agg ((cs'.toList.drop (i.toNat * n)).take n).toArray) ?_ (VR.agg_of ((hv.drop _).take _))
          have : cs'.extract (i.toNat * n) (i.toNat * n + n) = ((cs'.toList.drop (i.toNat * n)).take n).toArray := by
            apply Array.ext'
            simp [Array.toList_extract, List.extract_eq_take_drop]
          rw [this] at hp
          simp only [Instr.index, asIntOf, Sem.run_bind, Sem.run_pure, Result.andThen_ok, run_underlying h1]
          rw [if_pos hc]
          simp only [Sem.run_bind, run_sizeT h3, Result.andThen_ok, hp, Sem.run_pure]
        · cases hs
    · cases hs
  · cases hs
theorem res_mm (hr : HR ng σ H.get w) {mx : Bool} {ts : Array TypeId} {ty : TypeId} {a a' b b' : Value} (ha : VR σ a a') (hb : VR σ b b') (hs : asem (.mm mx a b) H = some (v, H')) :
    Res ng σ H w ((do pure (Next.value (← if mx then Builtin.max_ ts ty #[a', b'] else Builtin.min_ ts ty #[a', b'])) : Sem Next).run P w) v H' := by
  simp only [asem] at hs
  split at hs
  · rename_i k a k' b
    split at hs
    · rename_i hk
      cases hs
      rw [ha.int_inv, hb.int_inv]
      refine Res.pure hr (v' := .int k (if mx then (if b > a then b else a) else (if b < a then b else a))) ?_ (.int _ _)
      cases mx <;> simp [Builtin.max_, Builtin.min_, Builtin.max2, Builtin.min2]
    · cases hs
  · cases hs
theorem res_mm4 (hr : HR ng σ H.get w) {mx : Bool} {ts : Array TypeId} {ty : TypeId} {a a' b b' c c' d d' : Value} (ha : VR σ a a') (hb : VR σ b b') (hc : VR σ c c') (hd : VR σ d d') (hs : asem (.mm4 mx a b c d) H = some (v, H')) :
    Res ng σ H w ((do pure (Next.value (← if mx then Builtin.max_ ts ty #[a', b', c', d'] else Builtin.min_ ts ty #[a', b', c', d'])) : Sem Next).run P w) v H' := by
  simp only [asem] at hs
  split at hs
  · rename_i k a k1 b k2 c k3 d
    split at hs
    · cases hs
      rw [ha.int_inv, hb.int_inv, hc.int_inv, hd.int_inv]
      refine Res.pure hr (v' := .int k (mmI mx (mmI mx (mmI mx a b) c) d)) ?_ (.int _ _)
      cases mx <;> simp [Builtin.max_, Builtin.min_, Builtin.max2, Builtin.min2, mmI]
    · cases hs
  · cases hs
theorem res_i2str (hr : HR ng σ H.get w) {src dst : TypeId} {k : IntKind} (h1 : P.underlying src = some (.int k)) (h2 : P.underlying dst = some .string) {a a' : Value} (ha : VR σ a a') (hs : asem (.i2str a) H = some (v, H')) :
    Res ng σ H w ((do pure (Next.value (← convert src dst a')) : Sem Next).run P w) v H' := by
  simp only [asem] at hs
  split at hs
  · rename_i q n
    cases hs
    rw [ha.int_inv]
    exact Res.pure hr (v' := .string (Utf8.encode n)) (by simp [convert, run_underlying h1, run_underlying h2, Conv.intToString]) (.string _)
  · cases hs
theorem res_rng (hr : HR ng σ H.get w) {t : TypeId} (h1 : P.underlying t = some .string) {a a' : Value} (ha : VR σ a a') (hs : asem (.rng a) H = some (v, H')) :
    Res ng σ H w ((do pure (Next.value (← Instr.range t a')) : Sem Next).run P w) v H' := by
  simp only [asem] at hs
  split at hs
  · rename_i s
    cases hs
    rw [ha.str_inv]
    obtain ⟨k1, k2⟩ := HR.alloc (w' := w.alloc (.stringIter s 0)) hr (o := .obj true (.stringIter s 0)) (i := ⟨w.heap.size, 0, 0, 0, 0, false⟩) (o' := .stringIter s 0) rfl ⟨_, heap_alloc_new w _, rfl, rfl, by simp⟩ rfl rfl rfl rfl
    refine ⟨_, .pointer (some ⟨w.heap.size, 0, none⟩), _, _, ?_, .inl rfl, k1, k2, ?_⟩
    · simp [Instr.range, run_underlying h1]
    · exact VR.ptr (i := ⟨w.heap.size, 0, 0, 0, 0, false⟩) (o := 0) (Sg.up_same _ _ _)
  · cases hs
theorem res_next (hr : HR ng σ H.get w) {ty : TypeId} {a a' : Value} (ha : VR σ a a') (hs : asem (.next a) H = some (v, H')) :
    Res ng σ H w ((do pure (Next.value (← Instr.next a' true ty)) : Sem Next).run P w) v H' := by
  simp only [asem] at hs
  split at hs
  · rename_i b
    split at hs
    · rename_i s pos hG
      cases ha with
      | @ptr _ _ i hb =>
        obtain ⟨ob, g1, g2⟩ := hr.obj b i hb
        rw [hG] at g1; cases g1
        obtain ⟨oo, g2, g4, g3, _⟩ := g2
        have g4 : oo = .stringIter s pos := g4
        subst g4
        have hget : ∀ w : World, w.heap[i.c]? = some (.stringIter s pos) → (getObj i.c).run P w = .ok (.stringIter s pos) w := fun w h => by simp [getObj, Sem.run, h]
        have hlt := AHeap.get_lt hG
        split at hs
        · rename_i hpos
          cases hs
          have hset : (setObj i.c (.stringIter s (pos + (Utf8.decode s pos).2))).run P w = .ok () { w with heap := w.heap.setIfInBounds i.c (.stringIter s (pos + (Utf8.decode s pos).2)) } := by
            simp [setObj, Sem.run, g2]
          have hsz : i.c < w.heap.size := hr.lt b i hb
          refine ⟨_, .tuple #[.bool true, goInt pos, .int .i32 (Utf8.decode s pos).1], { w with heap := w.heap.setIfInBounds i.c (.stringIter s (pos + (Utf8.decode s pos).2)) }, σ, ?_, .inl rfl, ?_, ?_, ?_⟩
          · simp only [Instr.next, g3, Nat.zero_add, Sem.run_bind, hget w g2, Result.andThen_ok]
            rw [if_pos hpos]
            simp only [Sem.run_bind, hset, Result.andThen_ok, Sem.run_pure]
          · refine HR.upd (o2 := .obj true (.stringIter s (pos + (Utf8.decode s pos).2))) hr hb hG rfl (fun k hk => ?_) (by simp) (fun x hx => AHeap.get_set_other H hx hlt _) (AHeap.get_set_same hG _) ?_
            · show (w.heap.setIfInBounds i.c _)[k]? = _
              rw [Array.getElem?_setIfInBounds_ne (Ne.symm hk)]
            · refine ⟨_, ?_, rfl, g3, by simp⟩
              show (w.heap.setIfInBounds i.c _)[i.c]? = _
              rw [Array.getElem?_setIfInBounds_self_of_lt hsz]
          · refine ⟨Sg.le.refl σ, (fun x j hx hx' => by rw [hx] at hx'; cases hx'), fun x j o' hx ho hown => ?_, fun x j o' hx ho hlv => ?_, fun k hk hne => ?_, by simp, by simp [AHeap.set], rfl, rfl, rfl⟩
            · by_cases hxb : x = b
              · subst hxb; exact ⟨_, hG, rfl⟩
              · rw [AHeap.get_set_other H hxb hlt] at ho; exact ⟨o', ho, hown⟩
            · by_cases hxb : x = b
              · subst hxb; exact ⟨_, hG, rfl⟩
              · rw [AHeap.get_set_other H hxb hlt] at ho; exact ⟨o', ho, hlv⟩
            · show (w.heap.setIfInBounds i.c _)[k]? = _
              rw [Array.getElem?_setIfInBounds_ne (hne b i _ hb hG rfl)]
          · exact VR.tuple_of (.cons (.bool _) (.cons (.int _ _) (.cons (.int _ _) .nil)))
        · rename_i hpos
          cases hs
          refine Res.pure hr (v' := .tuple #[.bool false]) ?_ (VR.tuple_of (.cons (.bool _) .nil))
          simp only [Instr.next, g3, Nat.zero_add, Sem.run_bind, hget w g2, Result.andThen_ok]
          rw [if_neg hpos]
          simp
    · cases hs
  · cases hs
theorem res_slarr (hr : HR ng σ H.get w) {t e esz len : Nat} (h1 : P.underlying t = some (.array len e)) (hz : sizeT P e = some esz) {a a' : Value} (ha : VR σ a a') {lo hi mx lo' hi' mx' : Option Value}
    (hlo : ∀ u, lo = some u → ∃ u', lo' = some u' ∧ VR σ u u') (hhi : ∀ u, hi = some u → ∃ u', hi' = some u' ∧ VR σ u u') (hmx : ∀ u, mx = some u → ∃ u', mx' = some u' ∧ VR σ u u')
    (hlo0 : lo = none → lo' = none) (hhi0 : hi = none → hi' = none) (hmx0 : mx = none → mx' = none) (hmh : mx ≠ none → hi ≠ none) (hs : asem (.slarr esz len a lo hi mx) H = some (v, H')) :
    Res ng σ H w ((do pure (Next.value (← Instr.sliceAt t a' lo' hi' mx')) : Sem Next).run P w) v H' := by
  simp only [asem] at hs
  split at hs
  case h_2 => cases hs
  rename_i b o
  split at hs
  case h_2 => cases hs
  rename_i m hm
  split at hs
  case h_2 => cases hs
  rename_i h hh
  split at hs
  case h_2 => cases hs
  rename_i l hl
  have bounds : (Instr.sliceBounds false len len lo' hi' mx').run P w = .ok (l, h, m) w ∧ l ≤ h ∧ h ≤ m := by
    rcases bndA_run hmx hm with ⟨e1, e2⟩ | ⟨kk, i, e1, e2, e3, e4, e5⟩
    · rcases bndA_run hhi hh with ⟨f1, f2⟩ | ⟨k1, i1, f1, f2, f3, f4, f5⟩
      · rcases bndA_run hlo hl with ⟨g1, g2⟩ | ⟨k2, i2, g1, g2, g3, g4, g5⟩
        · refine ⟨?_, by omega, by omega⟩
          rw [hmx0 e1, hhi0 f1, hlo0 g1, f2, g2, e2]
          simp [Instr.sliceBounds]
        · refine ⟨?_, by omega, by omega⟩
          rw [hmx0 e1, hhi0 f1, g2, f2, g5, e2]
          rw [f2] at g4
          simp [Instr.sliceBounds, run_bound g3 g4]
      · rw [e2] at f4
        rcases bndA_run hlo hl with ⟨g1, g2⟩ | ⟨k2, i2, g1, g2, g3, g4, g5⟩
        · refine ⟨?_, by omega, by omega⟩
          rw [hmx0 e1, f2, hlo0 g1, f5, g2, e2]
          simp [Instr.sliceBounds, run_bound f3 f4]
        · refine ⟨?_, by omega, by omega⟩
          rw [hmx0 e1, f2, g2, f5, g5, e2]
          rw [f5] at g4
          simp [Instr.sliceBounds, run_bound f3 f4, run_bound g3 g4]
    · rcases bndA_run hhi hh with ⟨f1, f2⟩ | ⟨k1, i1, f1, f2, f3, f4, f5⟩
      · exact absurd f1 (hmh (by rw [e1]; simp))
      · rw [e5] at f4
        rcases bndA_run hlo hl with ⟨g1, g2⟩ | ⟨k2, i2, g1, g2, g3, g4, g5⟩
        · refine ⟨?_, by omega, by omega⟩
          rw [e2, f2, hlo0 g1, f5, g2, e5]
          simp [Instr.sliceBounds, run_bound e3 e4, run_bound f3 f4]
        · refine ⟨?_, by omega, by omega⟩
          rw [f5] at g4
          rw [e2, f2, g2, f5, g5, e5]
          simp [Instr.sliceBounds, run_bound e3 e4, run_bound f3 f4, run_bound g3 g4]
  obtain ⟨r1, r2, r3⟩ := bounds
  cases hs
  cases ha with
  | @ptr _ _ j hj =>
    refine Res.pure hr (v' := .slice (some (if m = l then ⟨j.c, j.off + o, none⟩ else ⟨j.c, j.off + o + l * esz, none⟩)) (h - l) (m - l)) ?_ ?_
    · by_cases hml : m = l
      · simp [Instr.sliceAt, run_underlying h1, Instr.sureAddr, r1, run_sizeT hz, hml]
      · simp [Instr.sliceAt, run_underlying h1, Instr.sureAddr, r1, run_sizeT hz, hml, add_plain]
    · by_cases hml : m = l
      · have h0 : h = l := by omega
        subst hml; subst h0
        simp only [if_true, Nat.sub_self]
        exact .sl0 hj
      · rw [if_neg hml]
        have hv := VR.sl (σ := σ) (b := b) (o := o + l * esz) (n := h - l) (k := m - l) (k' := m - l) (i := j) hj (by omega) (.inl rfl)
        rw [← Nat.add_assoc] at hv
        exact hv
def ofCells (P : Program) (t : TypeId) (cs : List Value) : Value := if isAggT P t = some true then .agg cs.toArray else cs.headD undef
theorem eqCs_split : ∀ {l1 : List Nat} {l2 : List Nat} {xs ys : List Value} {r : Bool}, eqCs (l1 ++ l2) xs ys = some r → ∃ a b, eqCs l1 (xs.take l1.length) (ys.take l1.length) = some a ∧ eqCs l2 (xs.drop l1.length) (ys.drop l1.length) = some b ∧ r = (a && b)
  | [], l2, xs, ys, r, h => ⟨true, r, by simp [eqCs], by simpa using h, by simp⟩
  | c :: l1, l2, x :: xs, y :: ys, r, h => by
    simp only [List.cons_append, eqCs] at h
    split at h
    · rename_i a b ha hb
      obtain ⟨a1, b1, h1, h2, rfl⟩ := eqCs_split hb
      cases h
      refine ⟨a && a1, b1, ?_, by simpa using h2, by rw [Bool.and_assoc]⟩
      simp only [List.length_cons, List.take_succ_cons, eqCs, ha, h1]
    · cases h
  | c :: l1, l2, [], ys, r, h => by cases ys <;> simp [eqCs] at h
  | c :: l1, l2, x :: xs, [], r, h => by simp [eqCs] at h
theorem eqCs_len : ∀ {l : List Nat} {xs ys : List Value} {r : Bool}, eqCs l xs ys = some r → xs.length = l.length ∧ ys.length = l.length
  | [], [], [], r, h => ⟨rfl, rfl⟩
  | [], [], _ :: _, r, h => by simp [eqCs] at h
  | [], _ :: _, ys, r, h => by cases ys <;> simp [eqCs] at h
  | c :: l, x :: xs, y :: ys, r, h => by
    simp only [eqCs] at h
    split at h
    · rename_i a b ha hb
      obtain ⟨h1, h2⟩ := eqCs_len hb
      simp [h1, h2]
    · cases h
  | c :: l, [], ys, r, h => by cases ys <;> simp [eqCs] at h
  | c :: l, x :: xs, [], r, h => by simp [eqCs] at h
theorem run_part_cells {e off n : Nat} {agg : Bool} (h1 : isAggT P e = some agg) (h2 : sizeT P e = some n) (hn : agg = false → n = 1) {cs : List Value} (hle : off + n ≤ cs.length) (w : World) :
    (part e cs.toArray off).run P w = .ok (ofCells P e ((cs.drop off).take n)) w := by
  unfold ofCells
  rw [h1]
  cases agg
  · have := hn rfl
    subst this
    simp only [Bool.false_eq_true, if_false, Option.some.injEq]
    have hlt : off < cs.length := by omega
    have e1 : cs.toArray[off]? = some cs[off] := by simp [hlt]
    rw [run_part1 h1 h2 e1]
    simp only [List.take_one, List.head?_drop, List.getElem?_eq_getElem hlt]
    rfl
  · rw [run_partn h1 h2]
    simp only [if_true]
    congr 2
    apply Array.ext'
    simp [Array.toList_extract, List.extract_eq_take_drop]
theorem flat_kind {d t : Nat} {l : List Nat} (h : flatT P d t = some l) : ∃ agg, isAggT P t = some agg ∧ (agg = false → l.length = 1) := by
  cases d with
  | zero => simp [flatT] at h
  | succ d =>
    simp only [flatT] at h
    unfold isAggT
    split at h
    · rename_i hu; cases h; exact ⟨false, by rw [hu]; rfl, fun _ => rfl⟩
    · rename_i hu; cases h; exact ⟨false, by rw [hu]; rfl, fun _ => rfl⟩
    · rename_i hu; cases h; exact ⟨false, by rw [hu]; rfl, fun _ => rfl⟩
    · rename_i fs hu; exact ⟨true, by rw [hu]; rfl, by simp⟩
    · rename_i n e hu; exact ⟨true, by rw [hu]; rfl, by simp⟩
    · cases h
theorem flatFs_run {f : TypeId → Option (List Nat)} {D : Nat} (hf : ∀ u l, f u = some l → sizeT P u = some l.length ∧ (∃ agg, isAggT P u = some agg ∧ (agg = false → l.length = 1)) ∧ ∀ (xs ys : List Value) (r : Bool), eqCs l xs ys = some r → ∀ w, (Op.equalIn D u (ofCells P u xs) (ofCells P u ys)).run P w = .ok r w)
    (XS YS : List Value) : ∀ (fs : List Field) (off : Nat) (l : List Nat) (r : Bool), flatFs f fs off = some l → eqCs l (XS.drop off) (YS.drop off) = some r → ∀ w, (Op.eqFields D XS.toArray YS.toArray fs).run P w = .ok r w
  | [], off, l, r, h, hq, w => by
    simp only [flatFs, Option.some.injEq] at h
    subst h
    have : r = true := by
      have hl := eqCs_len hq
      rw [List.eq_nil_of_length_eq_zero hl.1, List.eq_nil_of_length_eq_zero hl.2] at hq
      simpa [eqCs] using hq.symm
    subst this
    simp [Op.eqFields]
  | fd :: fs, off, l, r, h, hq, w => by
    simp only [flatFs] at h
    split at h
    · rename_i hc
      obtain ⟨rfl, hn⟩ := hc
      split at h
      · rename_i l1 hl1
        simp only [Option.map_eq_some_iff] at h
        obtain ⟨l2, hl2, rfl⟩ := h
        obtain ⟨hsz, ⟨agg, hag, hone⟩, hrun⟩ := hf _ _ hl1
        have hlen := eqCs_len hq
        simp only [List.length_append, List.length_drop] at hlen
        obtain ⟨a, b, h1, h2, rfl⟩ := eqCs_split hq
        rw [List.drop_drop, List.drop_drop] at h2
        have hrest := flatFs_run hf XS YS fs (fd.offset + l1.length) l2 b hl2 h2 w
        have hz1 : 0 < l1.length ∨ l1.length = 0 := by omega
        have p1 : (part fd.type XS.toArray fd.offset).run P w = .ok (ofCells P fd.type ((XS.drop fd.offset).take l1.length)) w := by
          by_cases h0 : fd.offset + l1.length ≤ XS.length
          · exact run_part_cells hag hsz hone h0 w
          · have hx : l1.length = 0 := by omega
            have : agg = true := by
              cases agg with
              | true => rfl
              | false => have := hone rfl; omega
            subst this
            rw [run_partn hag hsz, hx]
            simp only [if_true, ofCells, hag]
            congr 2
            apply Array.ext'
            simp [Array.toList_extract, List.extract_eq_take_drop]
        have p2 : (part fd.type YS.toArray fd.offset).run P w = .ok (ofCells P fd.type ((YS.drop fd.offset).take l1.length)) w := by
          by_cases h0 : fd.offset + l1.length ≤ YS.length
          · exact run_part_cells hag hsz hone h0 w
          · have hx : l1.length = 0 := by omega
            have : agg = true := by
              cases agg with
              | true => rfl
              | false => have := hone rfl; omega
            subst this
            rw [run_partn hag hsz, hx]
            simp only [if_true, ofCells, hag]
            congr 2
            apply Array.ext'
            simp [Array.toList_extract, List.extract_eq_take_drop]
        have p3 := hrun _ _ _ h1 w
        simp only [Op.eqFields, hn, ne_eq, not_false_eq_true, if_true, Sem.run_bind, p1, p2, p3, Result.andThen_ok]
        cases a
        · simp
        · simpa using hrest
      · cases h
    · cases h
theorem eqItems_run {e D : Nat} {l : List Nat} (hsz : sizeT P e = some l.length) (hk : ∃ agg, isAggT P e = some agg ∧ (agg = false → l.length = 1)) (hrun : ∀ (xs ys : List Value) (r : Bool), eqCs l xs ys = some r → ∀ w, (Op.equalIn D e (ofCells P e xs) (ofCells P e ys)).run P w = .ok r w)
    (XS YS : List Value) : ∀ (n i : Nat) (r : Bool), eqCs (List.replicate n l).flatten (XS.drop (i * l.length)) (YS.drop (i * l.length)) = some r → ∀ w, (Op.eqItems D e l.length XS.toArray YS.toArray (List.range' i n)).run P w = .ok r w
  | 0, i, r, h, w => by
    have : r = true := by
      have hl := eqCs_len h
      simp only [List.replicate_zero, List.flatten_nil, List.length_nil] at hl
      rw [List.eq_nil_of_length_eq_zero hl.1, List.eq_nil_of_length_eq_zero hl.2] at h
      simpa [eqCs] using h.symm
    subst this
    simp [Op.eqItems]
  | n + 1, i, r, h, w => by
    obtain ⟨agg, hag, hone⟩ := hk
    simp only [List.replicate_succ, List.flatten_cons] at h
    have hlen := eqCs_len h
    simp only [List.length_append, List.length_drop] at hlen
    obtain ⟨a, b, h1, h2, rfl⟩ := eqCs_split h
    rw [List.drop_drop, List.drop_drop] at h2
    have hmul : i * l.length + l.length = (i + 1) * l.length := by rw [Nat.add_mul]; omega
    rw [hmul] at h2
    have hrest := eqItems_run hsz ⟨agg, hag, hone⟩ hrun XS YS n (i + 1) b h2 w
    have pp : ∀ Z : List Value, (l.length = 0 ∨ i * l.length + l.length ≤ Z.length) → (part e Z.toArray (i * l.length)).run P w = .ok (ofCells P e ((Z.drop (i * l.length)).take l.length)) w := by
      intro Z hZ
      by_cases h0 : i * l.length + l.length ≤ Z.length
      · exact run_part_cells hag hsz hone h0 w
      · have hx : l.length = 0 := by omega
        have : agg = true := by
          cases agg with
          | true => rfl
          | false => have := hone rfl; omega
        subst this
        rw [run_partn hag hsz, hx]
        simp only [if_true, ofCells, hag]
        congr 2
        apply Array.ext'
        simp [Array.toList_extract, List.extract_eq_take_drop]
    have p1 := pp XS (by omega)
    have p2 := pp YS (by omega)
    have p3 := hrun _ _ _ h1 w
    simp only [List.range'_succ, Op.eqItems, Sem.run_bind, p1, p2, p3, Result.andThen_ok]
    cases a
    · simp
    · simpa using hrest
theorem flat_run : ∀ (d : Nat) (t : TypeId) (l : List Nat), flatT P d t = some l → ∀ (xs ys : List Value) (r : Bool), eqCs l xs ys = some r → ∀ (D : Nat), d ≤ D → ∀ w, (Op.equalIn D t (ofCells P t xs) (ofCells P t ys)).run P w = .ok r w := by
  intro d
  induction d with
  | zero => intro t l h; simp [flatT] at h
  | succ d ih =>
    intro t l h xs ys r hq D hD w
    obtain ⟨D, rfl⟩ : ∃ D', D = D' + 1 := ⟨D - 1, by omega⟩
    have hl := eqCs_len hq
    have one : ∀ k, l = [k] → isAggT P t = some false → ∃ x y, xs = [x] ∧ ys = [y] ∧ eqC k x y = some r ∧ ofCells P t xs = x ∧ ofCells P t ys = y := by
      intro k e hag
      subst e
      match xs, ys, hl with
      | [x], [y], _ =>
        refine ⟨x, y, rfl, rfl, ?_, by simp [ofCells, hag], by simp [ofCells, hag]⟩
        simp only [eqCs] at hq
        split at hq
        · rename_i a b ha hb
          cases hb
          simp only [Bool.and_true, Option.some.injEq] at hq
          subst hq
          exact ha
        · cases hq
    simp only [flatT] at h
    split at h
    · rename_i hu
      cases h
      obtain ⟨x, y, rfl, rfl, h1, h2, h3⟩ := one 0 rfl (by unfold isAggT; rw [hu]; rfl)
      rw [h2, h3]
      unfold eqC at h1
      split at h1 <;> first | (cases h1; done) | skip
      all_goals (first | (simp only [Option.some.injEq] at h1; subst h1; simp [Op.equalIn, run_underlying hu]; done) | (exfalso; simp_all; done))
    · rename_i k hu
      cases h
      obtain ⟨x, y, rfl, rfl, h1, h2, h3⟩ := one 1 rfl (by unfold isAggT; rw [hu]; rfl)
      rw [h2, h3]
      unfold eqC at h1
      split at h1 <;> first | (cases h1; done) | skip
      · exfalso; simp_all
      · split at h1
        · rename_i hk
          subst hk
          simp only [Option.some.injEq] at h1; subst h1
          simp [Op.equalIn, run_underlying hu]
        · cases h1
      · exfalso; simp_all
    · rename_i hu
      cases h
      obtain ⟨x, y, rfl, rfl, h1, h2, h3⟩ := one 2 rfl (by unfold isAggT; rw [hu]; rfl)
      rw [h2, h3]
      unfold eqC at h1
      split at h1 <;> first | (cases h1; done) | skip
      · exfalso; simp_all
      · exfalso; simp_all
      · simp only [Option.some.injEq] at h1; subst h1
        rw [run_equalIn_string w D t _ _ hu, str_eq]
    · rename_i fs hu
      split at h
      · cases h
      · rename_i hst
        have hst' : P.stoodInHeld t = false := by simpa using hst
        have hag : isAggT P t = some true := by unfold isAggT; rw [hu]; rfl
        have hfs : P.fieldsOf t = fs := by simp [Program.fieldsOf, hu]
        simp only [ofCells, hag, if_true]
        rw [run_equalIn_struct w D t _ _ (by rw [hfs]; exact hu) hst', hfs]
        refine flatFs_run (fun u lu hlu => ?_) xs ys fs.toList 0 l r h (by simpa using hq) w
        split at hlu
        · rename_i l' hl'
          split at hlu
          · rename_i hs'
            cases hlu
            exact ⟨hs', flat_kind hl', fun xs ys r hq w => ih u lu hl' xs ys r hq D (by omega) w⟩
          · cases hlu
        · cases hlu
    · rename_i n e hu
      split at h
      · rename_i l1 hl1
        split at h
        · rename_i hs1
          cases h
          have hag : isAggT P t = some true := by unfold isAggT; rw [hu]; rfl
          obtain ⟨i, hi, hin⟩ : ∃ i, P.info? e = some i ∧ i.size = l1.length := by
            unfold sizeT at hs1
            simpa [Option.map_eq_some_iff] using hs1
          have hco : P.cellsOf e = l1.length := by simp [Program.cellsOf, hi, hin]
          simp only [ofCells, hag, if_true]
          rw [run_equalIn_array w D xs.toArray ys.toArray hu hi, hco, List.range_eq_range']
          exact eqItems_run hs1 (flat_kind hl1) (fun xs ys r hq w => ih e l1 hl1 xs ys r hq D (by omega) w) xs ys n 0 r (by simpa using hq) w
        · cases h
      · cases h
    · cases h
theorem eqC_ground {k : Nat} {x y x' y' : Value} {r : Bool} (h : eqC k x y = some r) (hx : VR σ x x') (hy : VR σ y y') : x' = x ∧ y' = y := by
  unfold eqC at h
  split at h
  · exact ⟨hx.bool_inv, hy.bool_inv⟩
  · exact ⟨hx.int_inv, hy.int_inv⟩
  · exact ⟨hx.str_inv, hy.str_inv⟩
  · cases h
theorem eqCs_ground : ∀ {l : List Nat} {xs ys xs' ys' : List Value} {r : Bool}, eqCs l xs ys = some r → VL σ xs xs' → VL σ ys ys' → xs' = xs ∧ ys' = ys
  | [], [], [], _, _, r, h, .nil, .nil => ⟨rfl, rfl⟩
  | [], [], _ :: _, _, _, r, h, _, _ => by simp [eqCs] at h
  | [], _ :: _, ys, _, _, r, h, _, _ => by cases ys <;> simp [eqCs] at h
  | c :: l, x :: xs, y :: ys, _, _, r, h, .cons a b, .cons a' b' => by
    simp only [eqCs] at h
    split at h
    · rename_i p q hp hq
      obtain ⟨e1, e2⟩ := eqC_ground hp a a'
      obtain ⟨e3, e4⟩ := eqCs_ground hq b b'
      rw [e1, e2, e3, e4]; exact ⟨rfl, rfl⟩
    · cases h
  | c :: l, [], ys, _, _, r, h, _, _ => by cases ys <;> simp [eqCs] at h
  | c :: l, x :: xs, [], _, _, r, h, _, _ => by simp [eqCs] at h
theorem res_eqs (hr : HR ng σ H.get w) {op : BinOp} {neg : Bool} (hop : (op = .eql ∧ neg = false) ∨ (op = .neq ∧ neg = true)) {t : Nat} (hag : isAggT P t = some true) {cs : List Nat} (ht : eqsT P t = some cs)
    {x y : Operand} {a a' b b' : Value} (ha : VR σ a a') (hb : VR σ b b') (hs : asem (.eqs cs neg a b) H = some (v, H')) :
    Res ng σ H w ((do pure (Next.value (← (do eqGuard op t x y a' b'; binOp op t a' b'))) : Sem Next).run P w) v H' := by
  simp only [asem] at hs
  split at hs
  · rename_i xs ys
    simp only [Option.map_eq_some_iff, Prod.mk.injEq] at hs
    obtain ⟨r, hq, rfl, rfl⟩ := hs
    obtain ⟨xs', rfl⟩ := agg_inv ha
    obtain ⟨ys', rfl⟩ := agg_inv hb
    obtain ⟨e1, e2⟩ := eqCs_ground hq (agg_get ha) (agg_get hb)
    have e1' : xs' = xs := Array.toList_inj.1 e1
    have e2' : ys' = ys := Array.toList_inj.1 e2
    subst e1' e2'
    unfold eqsT at ht
    split at ht
    · cases ht
    · rename_i hg
      have hrun : (Op.equal t (.agg xs') (.agg ys')).run P w = .ok r w := by
        have := flat_run 20 t cs ht xs'.toList ys'.toList r hq 10000 (by omega) w
        show (Op.equalIn 10000 t (.agg xs') (.agg ys')).run P w = .ok r w
        simpa [ofCells, hag] using this
      have hgd : (eqGuard op t x y (.agg xs') (.agg ys')).run P w = .ok () w := by
        unfold eqGuard
        rcases hop with ⟨rfl, rfl⟩ | ⟨rfl, rfl⟩ <;> simp [hg]
      have hbin : (binOp op t (.agg xs') (.agg ys')).run P w = .ok (.bool (if neg then !r else r)) w := by
        rcases hop with ⟨rfl, rfl⟩ | ⟨rfl, rfl⟩
        · simp only [binOp, Sem.run_bind, hrun, Result.andThen_ok, Sem.run_pure]; rfl
        · simp only [binOp, Sem.run_bind, hrun, Result.andThen_ok, Sem.run_pure]; rfl
      exact Res.pure hr (by simp only [Sem.run_bind, hgd, Result.andThen_ok, hbin, Sem.run_pure]) (.bool _)
  · cases hs
theorem res_copy (hr : HR ng σ H.get w) {t u ty e e2 esz : Nat} (ht : P.underlying t = some (.slice e)) (hn : sizeT P e = some esz) {d d' x x' : Value} (hd : VR σ d d') (hx : VR σ x x') (hs : asem (.copy esz d x) H = some (v, H')) :
    Res ng σ H w ((do pure (Next.value (← Builtin.copy_ #[t, u] ty #[d', x'])) : Sem Next).run P w) v H' := by
  simp only [asem] at hs
  split at hs
  · rename_i n k xa m xk
    split at hs
    · rename_i hc
      cases hs
      obtain ⟨rfl, rfl⟩ := hc
      obtain ⟨xa', m', xk', rfl⟩ : ∃ xa' m' xk', x' = .slice xa' m' xk' := by cases hx <;> exact ⟨_, _, _, rfl⟩
      cases hd
      refine Res.pure hr (v' := .int .i64 0) ?_ (.int _ _)
      have hfc : (Builtin.firstCells esz 0 (.slice xa' m' xk')).run P w = .ok #[] w := by
        cases xa' with
        | none => simp [Builtin.firstCells]
        | some a => exact run_firstCells_some w esz 0 a m' xk' [] (by simp) (by simp)
      simp [Builtin.copy_, run_underlying ht, Builtin.lenOf, run_sizeT hn, hfc, goInt]
    · cases hs
  · rename_i b o n k xa m xk
    split at hs
    · rename_i l own room esz' c e' hel hG
      obtain ⟨xa', m', xk', l', rfl, hlen, hvl, hll, hl1, hlc⟩ := elemsA_sound hr hx hel
      have hmm : m' = m := by simpa [lenA] using hlen.symm
      subst hmm
      obtain ⟨j, dn, dk, da, rfl, hj, hda, hdn⟩ : ∃ j dn dk da, d' = .slice (some da) dn dk ∧ σ b = some j ∧ (n ≠ 0 → da = ⟨j.c, j.off + o, none⟩) ∧ dn = n := by
        cases hd with
        | @sl _ _ _ _ k' j hj q1 q2 => exact ⟨j, _, _, _, rfl, hj, fun _ => rfl, rfl⟩
        | @sl0 _ _ o' j hj => exact ⟨j, _, _, _, rfl, hj, fun h => absurd rfl h, rfl⟩
        | slz hx => simp at hx
      subst hdn
      have hpre : (Builtin.firstCells esz (min m' dn) (.slice xa' m' xk')).run P w = .ok (l'.take (min m' dn * esz)).toArray w := by
        have hle : min m' dn * esz ≤ m' * esz := Nat.mul_le_mul_right _ (by omega)
        have hlt : (l'.take (min m' dn * esz)).length = min m' dn * esz := by rw [List.length_take]; omega
        rcases hlc with ⟨rfl, hm0⟩ | ⟨ad, rfl, hc⟩
        · subst hm0
          have : l' = [] := List.eq_nil_of_length_eq_zero (by simpa using hll)
          subst this
          simp [Builtin.firstCells]
        · refine run_firstCells_some w esz (min m' dn) ad m' xk' _ hlt (fun q u hq => hc q u ?_)
          rw [List.getElem?_take] at hq
          split at hq
          · exact hq
          · cases hq
      split at hs
      · rename_i h0
        cases hs
        refine Res.pure hr (v' := .int .i64 0) ?_ (.int _ _)
        rw [h0] at hpre
        simp only [Nat.zero_mul, List.take_zero] at hpre
        have h0' : Nat.min m' dn = 0 := h0
        simp [Builtin.copy_, run_underlying ht, Builtin.lenOf, run_sizeT hn, h0', hpre, goInt, storeCells]
      · rename_i h0
        split at hs
        · rename_i hc
          obtain ⟨rfl, hle⟩ := hc
          cases hs
          have hll2 : (l.take (min m' dn * esz)).length = min m' dn * esz := by
            have h1 := hvl.length
            have hle2 : min m' dn * esz ≤ m' * esz := Nat.mul_le_mul_right _ (by omega)
            rw [List.length_take]; omega
          obtain ⟨w', e1, e2, e3⟩ := res_cells (P := P) hr hj hG (o := o) (hvl.take (min m' dn * esz)) (by rw [hll2]; exact hle) (fun u hu => hl1 u (List.mem_of_mem_take hu)) (fun u hu => hvl.one hl1 u (List.mem_of_mem_take hu))
          rw [hll2] at e2 e3
          rw [hda (by omega)]
          refine ⟨_, .int .i64 (min m' dn : Nat), w', σ, ?_, .inl rfl, e2, e3, .int _ _⟩
          have hmn : Nat.min m' dn = min m' dn := rfl
          simp only [Builtin.copy_, List.getElem?_toArray, List.getElem?_cons_zero, List.getElem?_cons_succ, Sem.run_bind, run_underlying ht, Result.andThen_ok, Builtin.lenOf, Sem.run_pure, run_sizeT hn, hmn, hpre, e1, goInt]
        · cases hs
    · cases hs
  · cases hs
theorem res_clr (hr : HR ng σ H.get w) {t ty e esz : Nat} {z : Value} (ht : P.underlying t = some (.slice e)) (hz : zeroT P e = some z) (hn : sizeT P e = some esz) (hzn : z.cells.size = esz) (h0 : 0 < esz) (hp : VL σ z.cells.toList z.cells.toList) {x x' : Value} (hx : VR σ x x') (hs : asem (.clr esz z.cells.toList x) H = some (v, H')) :
    Res ng σ H w ((do pure (Next.value (← Builtin.clear_ #[t] ty #[x'])) : Sem Next).run P w) v H' := by
  have unit : VR σ (.tuple #[]) (.tuple #[]) := .tuple _ _ rfl (fun i a => by simp at a)
  simp only [asem] at hs
  split at hs
  · rename_i n k
    split at hs
    · rename_i hc
      cases hs
      obtain ⟨rfl, rfl⟩ := hc
      cases hx
      exact Res.pure hr (v' := .tuple #[]) (by simp [Builtin.clear_, run_underlying ht]) unit
    · cases hs
  · rename_i b o n k
    split at hs
    · rename_i hn0
      cases hs
      subst hn0
      cases hx <;> exact Res.pure hr (v' := .tuple #[]) (by simp [Builtin.clear_, run_underlying ht]) unit
    · rename_i hn0
      split at hs
      · rename_i own room esz' c e' hG
        split at hs
        · rename_i hc
          obtain ⟨rfl, hle, hzl, hz1⟩ := hc
          cases hs
          cases hx with
          | sl0 hj => exact absurd rfl hn0
          | slz hx => exact absurd rfl hn0
          | @sl _ _ _ _ k' j hj q1 q2 =>
            have hvr : VL σ (List.replicate n z.cells.toList).flatten (List.replicate n z.cells.toList).flatten := by
              clear hle hn0 q1
              induction n with
              | zero => exact .nil
              | succ n ih => rw [List.replicate_succ, List.flatten_cons]; exact hp.append ih
            have hlen : (List.replicate n z.cells.toList).flatten.length = n * esz := by simp [hzn]
            have h1 : ∀ u ∈ (List.replicate n z.cells.toList).flatten, u.oneCell' = true := by
              intro u hu
              obtain ⟨l, hl, hu2⟩ := List.mem_flatten.1 hu
              rw [List.eq_of_mem_replicate hl] at hu2
              exact List.all_eq_true.1 hz1 u hu2
            obtain ⟨w', e1, e2, e3⟩ := res_cells (P := P) hr hj hG (o := o) hvr (by rw [hlen]; exact hle) h1 h1
            rw [hlen] at e2 e3
            refine ⟨_, .tuple #[], w', σ, ?_, .inl rfl, e2, e3, unit⟩
            have hzc : (Builtin.zeroCells z.cells n).toList = (List.replicate n z.cells.toList).flatten := by
              rw [Builtin.zeroCells]
              simp only [Array.toList_map, Array.toList_range]
              have := range_mod z.cells esz hzn n
              rw [hzn] at this ⊢
              exact this
            obtain ⟨n', rfl⟩ : ∃ n', n = n' + 1 := ⟨n - 1, by omega⟩
            simp only [Builtin.clear_, List.getElem?_toArray, List.getElem?_cons_zero, Sem.run_bind, run_underlying ht, Result.andThen_ok, run_zeroT hz, hzc, e1, Sem.run_pure]
        · cases hs
      · cases hs
  · cases hs
theorem zeroCells_flat {cs : Array Value} {k : Nat} (hk : cs.size = k) (n : Nat) : (Builtin.zeroCells cs n).toList = (List.replicate n cs.toList).flatten := by
  rw [Builtin.zeroCells]
  simp only [Array.toList_map, Array.toList_range]
  have := range_mod cs k hk n
  rw [hk] at this ⊢
  exact this
theorem wrap_room {n : Nat} (hn : n ≤ 140737488355328) : IntKind.i64.wrap (n : Int) = n := by
  simp only [IntKind.wrap, IntKind.bits, IntKind.signed]; simp; omega
theorem AppRun.zeros {w : World} {t u ty e : TypeId} {k : IntKind} {i : TypeInfo} {z : Value} {n : Nat} (ht : P.underlying t = some (.slice e)) (hu : P.underlying u = some (.int k)) (hi : P.info? e = some i) (hz : i.zero = some z) (hzs : z.cells.size = i.size)
    (hb : n * i.bytes ≤ 140737488355328) (hn : n ≤ 140737488355328) : AppRun P t u ty e i n (.int .i64 (n : Int)) (Builtin.zeroCells z.cells n).toList w := by
  have hw := wrap_room hn
  have hneg : ¬ ((n : Int) < 0) := by omega
  have hbig : ¬ ((281474976710656 : Int) < (n : Int) * (i.bytes : Int)) := by
    have h1 : ((n * i.bytes : Nat) : Int) ≤ ((140737488355328 : Nat) : Int) := Int.ofNat_le.2 hb
    rw [Int.natCast_mul] at h1
    omega
  have h0 : n * i.size = 0 → Builtin.zeroCells z.cells n = #[] := fun h => by
    apply Array.eq_empty_of_size_eq_zero
    rw [size_zeroCells, hzs, h]
  refine ⟨?_, ?_, ?_⟩
  · intro z' base sLen sCap olds hz' hfo hg h63 hfit
    rw [hz] at hz'; cases hz'
    have hn1 : ¬ (sLen + n ≤ sCap) := by omega
    have h63' : ¬ (9223372036854775807 < ((sLen : Int) + (n : Int))) := by omega
    have h48' : ¬ (281474976710656 < Builtin.nextslicecap (sLen + n) sCap * i.bytes) := by omega
    by_cases hnz : n * i.size = 0
    · have hz0 := h0 hnz
      simp [Builtin.append_, run_underlying ht, run_underlying hu, sizeOf, typeInfo, zeroValue, hi, hz, asInt, asIntOf, hw, hneg, hbig, hn1, h63', h48', Question.forced, hfo, newRow, grownCap, hnz, hz0]
      congr 2
      apply Array.ext'
      simp
    · simp [Builtin.append_, run_underlying ht, run_underlying hu, sizeOf, typeInfo, zeroValue, hi, hz, asInt, asIntOf, hw, hneg, hbig, hn1, h63', h48', Question.forced, hfo, newRow, grownCap, hnz]
      congr 2
      apply Array.ext'
      simp
  · intro a sLen sCap w' hst hroom
    by_cases hnz : n * i.size = 0
    · have hz0 := h0 hnz
      simp [Builtin.append_, run_underlying ht, run_underlying hu, sizeOf, typeInfo, zeroValue, hi, hz, asInt, asIntOf, hw, hneg, hbig, hroom, hnz]
      rw [hz0] at hst
      simp [storeCells] at hst
      simp [storeCells, hst]
    · simp [Builtin.append_, run_underlying ht, run_underlying hu, sizeOf, typeInfo, zeroValue, hi, hz, asInt, asIntOf, hw, hneg, hbig, hroom, hnz, hst]
  · intro hm base sLen sCap hle
    subst hm
    have hw0 : IntKind.i64.wrap 0 = 0 := by decide
    cases base <;> simp [Builtin.append_, run_underlying ht, run_underlying hu, sizeOf, typeInfo, zeroValue, hi, hz, asInt, asIntOf, hle, hw0, storeCells]
theorem VL.gnds {σ : Sg} : ∀ {l : List Value}, (∀ v ∈ l, gnd v) → VL σ l l
  | [], _ => .nil
  | v :: l, h => .cons ((h v (by simp)).1.mono (fun _ _ h => by cases h)) (VL.gnds fun x hx => h x (by simp [hx]))
theorem res_appz (hr : HR ng σ H.get w) {t u ty e esz bytes : Nat} {k : IntKind} {z : Value} (ht : P.underlying t = some (.slice e)) (hu : P.underlying u = some (.int k)) (hz : zeroT P e = some z) (hn : sizeT P e = some esz) (hb : bytesT P e = some bytes)
    (hzn : z.cells.size = esz) (hz1 : z.cells.toList.all plain1 = true) {s s' x x' : Value} (hvs : VR σ s s') (hvx : VR σ x x') (hs : asem (.appz e esz bytes z.cells.toList s x) H = some (v, H')) :
    Res ng σ H w ((do pure (Next.value (← Builtin.append_ #[t, u] ty #[s', x'])) : Sem Next).run P w) v H' := by
  simp only [asem] at hs
  split at hs
  · rename_i n
    split at hs
    · rename_i hc
      obtain ⟨h1, h2, h3⟩ := hc
      obtain ⟨m, rfl⟩ : ∃ m : Nat, n = m := ⟨n.toNat, by omega⟩
      have hx : x' = .int .i64 (m : Int) := by cases hvx; rfl
      subst hx
      rw [Int.toNat_natCast] at hs
      have hf := zeroCells_flat hzn m
      have hg : ∀ v ∈ (List.replicate m z.cells.toList).flatten, gnd v := by rw [← hf]; exact zeroCells_gnd hz1 m
      have hb2 : m * bytes ≤ 140737488355328 := by
        have h4 : ((m * bytes : Nat) : Int) ≤ ((140737488355328 : Nat) : Int) := by rw [Int.natCast_mul]; omega
        exact Int.ofNat_le.1 h4
      refine app_core hr hz hn hb hzn hz1 hvs (VL.gnds hg) (by rw [← hf, Array.length_toList, size_zeroCells, hzn]) (fun u hu => (hg u hu).2) (fun i hi hie => ?_) hs
      obtain ⟨i2, g1, g2, g3, g4⟩ := info_of hz hn hb
      rw [hi] at g1; cases g1
      have := AppRun.zeros (P := P) (w := w) (ty := ty) (n := m) ht hu hi g2 (by rw [hzn, hie]) (by rw [g4]; exact hb2) (by omega)
      rw [hf] at this
      exact this
    · cases hs
  · cases hs
end
end Go.AM

set_option linter.unusedSimpArgs false
set_option linter.unusedVariables false
namespace Go.AM
open Go.MapKept
theorem put_own {ng : Nat} {σ : Sg} {H : AHeap} {w : World} (hr : HR ng σ H.get w) {b : Nat} {i : BI} {o o2 : AO} {ob : Obj} (hb : σ b = some i) (hG : H.get b = some o) (ho : o.own = true) (hor : OR σ (w.putObj i.c ob) i o2) :
    HR ng σ (H.set b o2).get (w.putObj i.c ob) ∧ Ext H.n σ H.get w (H.set b o2).n σ (H.set b o2).get (w.putObj i.c ob) := by
  have hlt := AHeap.get_lt hG
  refine ⟨HR.upd hr hb hG ho (fun k hk => World.putObj_heap_other hk) (by simp) (fun x hx => AHeap.get_set_other H hx hlt _) (AHeap.get_set_same hG _) hor, ?_⟩
  refine ⟨Sg.le.refl σ, (fun x j hx hx' => by rw [hx] at hx'; cases hx'), fun x j o' hx ho' hown => ?_, fun x j o' hx ho' hlv => ?_, fun k hk hne => World.putObj_heap_other (Ne.symm (hne b i _ hb hG ho)), by simp, by simp [AHeap.set], rfl, rfl, rfl⟩
  · by_cases hxb : x = b
    · subst hxb; exact ⟨_, hG, ho⟩
    · rw [AHeap.get_set_other H hxb hlt] at ho'; exact ⟨o', ho', hown⟩
  · by_cases hxb : x = b
    · subst hxb; exact ⟨_, hG, AO.live_of_own ho⟩
    · rw [AHeap.get_set_other H hxb hlt] at ho'; exact ⟨o', ho', hlv⟩
section
variable {P : Program} {ng : Nat} {σ : Sg} {H H' : AHeap} {w : World} {v : Value}
theorem undef_VR : VR σ undef undef := .tuple _ _ rfl (fun i a => by simp at a)
theorem keyT_eq {t : TypeId} {d : TypeDesc} (h : keyT P t = some d) : P.underlying t = some d := by
  unfold keyT at h
  split at h <;> first | (cases h; done) | (rename_i h'; cases h; exact h')
theorem keyB_is {d : TypeDesc} {k : Value} (h : keyB d k = true) : IsKey d k := by
  unfold keyB at h
  split at h <;> first | (cases h; done) | trivial | (simpa [IsKey] using h)
theorem keyB_VR {d : TypeDesc} {k k' : Value} (h : keyB d k = true) (hk : VR σ k k') : k' = k := by
  unfold keyB at h
  split at h <;> first | (cases h; done) | (cases hk; rfl)
theorem findNow_ML {d : TypeDesc} {k : Value} {l l' : List MapEntry} (r : ML σ l l') : ∀ i, (Instr.findNow d k l i = some none → Instr.findNow d k l' i = some none) ∧ ∀ j v, Instr.findNow d k l i = some (some (j, v)) → ∃ v', Instr.findNow d k l' i = some (some (j, v')) ∧ VR σ v v' := by
  induction r with
  | nil => intro i; exact ⟨fun h => h, fun j v h => by simp [Instr.findNow] at h⟩
  | cons hk hb h _ ih =>
    intro i
    unfold Instr.findNow
    rw [hk]
    split
    · exact ⟨fun h2 => (by cases h2), fun j v h2 => (by cases h2; exact ⟨_, rfl, h⟩)⟩
    · exact ih (i + 1)
    · exact ⟨fun h2 => (by cases h2), fun j v h2 => (by cases h2)⟩
theorem ML.app {l l' m m' : List MapEntry} (r : ML σ l l') (s : ML σ m m') : ML σ (l ++ m) (l' ++ m') := by
  induction r with
  | nil => exact s
  | cons a b c _ ih => exact .cons a b c ih
theorem ML.mod {l l' : List MapEntry} (r : ML σ l l') (k : Value) {x x' : Value} (hx : VR σ x x') : ∀ j, ML σ (l.modify j fun e => { e with key := k, val := x }) (l'.modify j fun e => { e with key := k, val := x' }) := by
  induction r with
  | nil => intro j; cases j <;> exact .nil
  | cons a b c t ih =>
    intro j
    cases j with
    | zero => exact .cons rfl b hx t
    | succ j => exact .cons a b c (ih j)
theorem mgetA_VR {z : Value} {ok : Bool} {d : TypeDesc} {k : Value} {l l' : List MapEntry} (r : ML σ l l') (hz : VR σ z z) (h : mgetA z ok (Instr.findNow d k l 0) = some v) : ∃ q, Instr.findNow d k l' 0 = some q ∧ VR σ v (match q with
    | some (_, u) => if ok then .tuple #[u, .bool true] else u
    | none => if ok then .tuple #[z, .bool false] else z) := by
  obtain ⟨f1, f2⟩ := findNow_ML (d := d) (k := k) r 0
  unfold mgetA at h
  split at h
  · rename_i j u e
    cases h
    obtain ⟨u', e', hu⟩ := f2 j u e
    refine ⟨_, e', ?_⟩
    cases ok
    · simpa using hu
    · simpa using VR.tuple_of (.cons hu (.cons (.bool true) .nil))
  · rename_i e
    cases h
    refine ⟨_, f1 e, ?_⟩
    cases ok
    · simpa using hz
    · simpa using VR.tuple_of (.cons hz (.cons (.bool false) .nil))
  · cases h
theorem res_mkmap (hr : HR ng σ H.get w) {t : TypeId} (hs : asem .mkmap H = some (v, H')) :
    Res ng σ H w ((do pure (Next.value (← Instr.makeMap t none)) : Sem Next).run P w) v H' := by
  simp only [asem, Option.some.injEq, Prod.mk.injEq] at hs
  obtain ⟨rfl, rfl⟩ := hs
  obtain ⟨e1, e2⟩ := hr.alloc (o := .obj true (.map #[] 0)) (i := ⟨w.heap.size, 0, 0, 0, 0, false⟩) (w' := w.alloc (.map #[] 0)) (o' := .map #[] 0) rfl
    ⟨_, heap_alloc_new w _, ⟨_, rfl, .nil⟩, rfl, fun c e f h => by cases h⟩ rfl rfl rfl rfl
  exact ⟨_, .map (some w.heap.size), _, _, (by simp [Instr.makeMap, Result.andThen]), .inl rfl, e1, e2, .map (Sg.up_same _ _ _)⟩
theorem res_mget (hr : HR ng σ H.get w) {t kt et : TypeId} {d : TypeDesc} {z : Value} {ok : Bool} (hm : P.underlying t = some (.map kt et)) (hd : keyT P kt = some d) (hz : zeroT P et = some z) (hzz : VR σ z z)
    {m m' k k' : Value} (hvm : VR σ m m') (hvk : VR σ k k') (hs : asem (.mget d z ok m k) H = some (v, H')) :
    Res ng σ H w ((do pure (Next.value (← Instr.lookup t m' k' ok)) : Sem Next).run P w) v H' := by
  simp only [asem] at hs
  split at hs
  · rename_i hkey
    have hk := keyB_is hkey
    have ek := keyB_VR hkey hvk
    subst ek
    have hdd := keyT_eq hd
    split at hs
    · simp only [Option.map_eq_some_iff, Prod.mk.injEq] at hs
      obtain ⟨u, hu, rfl, rfl⟩ := hs
      obtain ⟨q, h1, h2⟩ := mgetA_VR (d := d) (k := k') (l := []) .nil hzz hu
      cases h1
      cases hvm
      refine Res.pure hr ?_ h2
      simp [Instr.lookup, run_underlying hm, MapKept.run_checkKey hdd hk, MapKept.run_findKey (l := []) hdd (show Instr.findNow d k' [] 0 = some none from rfl), run_zeroT hz, Result.andThen]
    · rename_i b
      split at hs
      · rename_i own es clock hb
        simp only [Option.map_eq_some_iff, Prod.mk.injEq] at hs
        obtain ⟨u, hu, rfl, rfl⟩ := hs
        cases hvm with
        | @map _ i hi =>
          obtain ⟨o, g1, g2⟩ := hr.obj b i hi
          rw [hb] at g1; cases g1
          obtain ⟨oo, g2, ⟨es', rfl, gm⟩, _⟩ := g2
          obtain ⟨q, h1, h2⟩ := mgetA_VR gm hzz hu
          refine Res.pure hr ?_ h2
          cases q with
          | none => simp [Instr.lookup, run_underlying hm, MapKept.run_getObj_map g2, MapKept.run_checkKey hdd hk, MapKept.run_findKey hdd h1, run_zeroT hz, Result.andThen]
          | some p => obtain ⟨j, x⟩ := p; simp [Instr.lookup, run_underlying hm, MapKept.run_getObj_map g2, MapKept.run_checkKey hdd hk, MapKept.run_findKey hdd h1, Result.andThen]
      · cases hs
    · cases hs
  · cases hs
theorem findNow_at {d : TypeDesc} {k : Value} (hk : IsKey d k) : ∀ (l : List MapEntry) (i j : Nat) (x : Value), Instr.findNow d k l i = some (some (j, x)) → i ≤ j ∧ ∃ e, l[j - i]? = some e ∧ e.key = k
  | [], i, j, x, h => by simp [Instr.findNow] at h
  | e :: es, i, j, x, h => by
    unfold Instr.findNow at h
    split at h
    · rename_i hs
      simp only [Option.some.injEq, Prod.mk.injEq] at h
      obtain ⟨rfl, rfl⟩ := h
      refine ⟨Nat.le_refl _, e, by simp, ?_⟩
      revert hs hk
      unfold Instr.sameNow IsKey
      intro hk hs
      split at hs
      · split at hs
        · rename_i h2; simp only [Option.some.injEq, beq_iff_eq] at hs; rw [hs]; subst h2; simp_all
        · cases hs
      · simp only [Option.some.injEq, MapKept.bytes_beq, decide_eq_true_eq] at hs
        rw [hs]; simp_all
      · simp only [Option.some.injEq, beq_iff_eq] at hs
        rw [hs]; simp_all
      · cases hs
    · obtain ⟨h1, e', h2, h3⟩ := findNow_at hk es (i + 1) j x h
      refine ⟨by omega, e', ?_, h3⟩
      rw [show j - i = (j - (i + 1)) + 1 by omega]
      simpa using h2
    · cases h
theorem res_mset (hr : HR ng σ H.get w) {t kt et : TypeId} {d : TypeDesc} (hm : P.underlying t = some (.map kt et)) (hd : keyT P kt = some d)
    {m m' k k' x x' : Value} (hvm : VR σ m m') (hvk : VR σ k k') (hvx : VR σ x x') (hs : asem (.mset d m k x) H = some (v, H')) :
    Res ng σ H w ((do (Instr.mapUpdate t m' k' x'); pure Next.skip : Sem Next).run P w) v H' := by
  simp only [asem] at hs
  split at hs
  · rename_i hkey
    have hk := keyB_is hkey
    have ek := keyB_VR hkey hvk
    subst ek
    have hdd := keyT_eq hd
    split at hs
    · rename_i b
      split at hs
      · rename_i es clock hb
        cases hvm with
        | @map _ i hi =>
          obtain ⟨o, g1, g2⟩ := hr.obj b i hi
          rw [hb] at g1; cases g1
          obtain ⟨oo, g2, ⟨es', rfl, gm⟩, g3, _⟩ := g2
          have hlt : i.c < w.heap.size := (Array.getElem?_eq_some_iff.1 g2).1
          have put : ∀ (ea ec : Array MapEntry) (clock' : Nat), ML σ ea.toList ec.toList → HR ng σ (H.set b (.obj true (.map ea clock'))).get (w.putObj i.c (.map ec clock')) ∧ Ext H.n σ H.get w (H.set b (.obj true (.map ea clock'))).n σ (H.set b (.obj true (.map ea clock'))).get (w.putObj i.c (.map ec clock')) := by
            intro ea ec clock' hm2
            refine put_own (ob := .map ec clock') hr hi hb rfl ⟨_, ?_, ⟨_, rfl, hm2⟩, g3, fun c e f h => by cases h⟩
            simp [World.putObj, hlt]
          split at hs
          · rename_i j u hf
            simp only [Option.some.injEq, Prod.mk.injEq] at hs
            obtain ⟨rfl, rfl⟩ := hs
            obtain ⟨u', hf', _⟩ := (findNow_ML gm 0).2 j u hf
            obtain ⟨_, e', h2, h3⟩ := findNow_at hk es'.toList 0 j u' hf'
            have hj : es'[j]? = some e' := by simpa using h2
            obtain ⟨p1, p2⟩ := put (es.modify j fun e => { e with key := k', val := x }) (es'.modify j fun e => { e with key := k', val := x' }) clock (by simpa using gm.mod k' hvx j)
            refine ⟨_, undef, _, σ, ?_, .inr ⟨rfl, rfl⟩, p1, p2, undef_VR⟩
            simp [Instr.mapUpdate, run_underlying hm, MapKept.run_getObj_map g2, MapKept.run_checkKey hdd hk, MapKept.run_findKey hdd hf', hj, h3, run_keyThatStays hk, run_setObj_map _ g2, Result.andThen]
            rfl
          · rename_i hf
            simp only [Option.some.injEq, Prod.mk.injEq] at hs
            obtain ⟨rfl, rfl⟩ := hs
            have hf' := (findNow_ML gm 0).1 hf
            obtain ⟨p1, p2⟩ := put (es.push { key := k', val := x, born := clock }) (es'.push { key := k', val := x', born := clock }) (clock + 1) (by simpa using gm.app (ML.cons (e := { key := k', val := x, born := clock }) (e' := { key := k', val := x', born := clock }) rfl rfl hvx .nil))
            refine ⟨_, undef, _, σ, ?_, .inr ⟨rfl, rfl⟩, p1, p2, undef_VR⟩
            simp [Instr.mapUpdate, run_underlying hm, MapKept.run_getObj_map g2, MapKept.run_checkKey hdd hk, MapKept.run_findKey hdd hf', run_setObj_map _ g2, Result.andThen]
            rfl
          · cases hs
      · cases hs
    · cases hs
  · cases hs
theorem res_cap (hr : HR ng σ H.get w) {t ty : TypeId} {e : TypeId} (ht : P.underlying t = some (.slice e)) {x x' : Value} (hx : VR σ x x') (hs : asem (.cap x) H = some (v, H')) :
    Res ng σ H w ((builtin .cap #[t] ty #[false] #[x']).run P w) v H' := by
  simp only [asem] at hs
  split at hs
  · cases hs
    cases hx
    exact Res.pure hr (v' := .int .i64 0) (by simp [builtin, Builtin.cap_, run_underlying ht, goInt]) (.int _ _)
  · rename_i b o n k
    split at hs
    · rename_i own esz c e2 hb
      cases hs
      have key : ∀ {i : BI} {k' : Nat}, σ b = some i → (k' = k ∨ (i.room = true ∧ k ≤ k' ∧ o + k * i.esz = i.len ∧ o + k' * i.esz ≤ i.top)) → k' = k := by
        intro i k' hi h
        rcases h with h | ⟨h, _⟩
        · exact h
        · obtain ⟨ob, g1, g2⟩ := hr.obj b i hi
          rw [hb] at g1; cases g1
          have := g2.2.1
          rw [h] at this; cases this
      cases hx with
      | sl hi hn hk => have := key hi hk; subst this; exact Res.pure hr (v' := .int .i64 _) (by simp [builtin, Builtin.cap_, run_underlying ht, goInt]) (.int _ _)
      | slz hx => cases hx
      | sl0 hi => exact Res.pure hr (v' := .int .i64 _) (by simp [builtin, Builtin.cap_, run_underlying ht, goInt]) (.int _ _)
    · cases hs
  · cases hs
end
end Go.AM

set_option linter.unusedSimpArgs false
set_option linter.unusedVariables false
namespace Go.AM
section
variable {P : Program} {ng : Nat} {σ : Sg} {H H' : AHeap} {w : World} {v : Value}
theorem elemOfT_eq {t e : TypeId} (h : elemOfT P t = some e) : P.underlying t = some (.slice e) := by
  unfold elemOfT at h
  split at h
  · rename_i h'; cases h; exact h'
  · cases h
theorem opt_rel {ev ev' : Operand → Value} {x : Option Operand} (h : ∀ y, x = some y → VR σ (ev y) (ev' y)) : (∀ u, x.map ev = some u → ∃ u', x.map ev' = some u' ∧ VR σ u u') ∧ (x.map ev = none → x.map ev' = none) := by
  cases x with
  | none => simp
  | some y => exact ⟨fun u hu => by simp at hu; subst hu; exact ⟨_, rfl, h y rfl⟩, by simp⟩
set_option maxHeartbeats 1000000 in
theorem asem_sound (hr : HR ng σ H.get w) (o : Oper) {ev ev' : Operand → Value} (hev : ∀ x ∈ o.op.operands, VR σ (ev x) (ev' x)) (hs : asem ((compOp P o).map ev) H = some (v, H')) :
    Res ng σ H w ((execOp ev' o).run P w) v H' := by
  obtain ⟨dst, op, type, pos, after, guard⟩ := o
  cases op
  case move x =>
    simp only [compOp, AOp.map, asem] at hs
    cases hs
    exact Res.pure hr (v' := ev' x) (by simp [execOp]) (hev x (by simp [Op.operands]))
  case assign x =>
    simp only [compOp, AOp.map, asem] at hs
    cases hs
    exact Res.pure hr (v' := ev' x) (by simp [execOp]) (hev x (by simp [Op.operands]))
  case pick c a b =>
    simp only [compOp, AOp.map, asem] at hs
    split at hs
    · rename_i t ht
      cases hs
      have hc := hev c (by simp [Op.operands])
      rw [ht] at hc
      refine Res.pure hr (v' := if t then ev' a else ev' b) (by simp [execOp, hc.bool_inv, asBool]) ?_
      cases t
      · exact hev b (by simp [Op.operands])
      · exact hev a (by simp [Op.operands])
    · cases hs
  case alloc e =>
    simp only [compOp] at hs
    split at hs
    · rename_i z n hz hn
      exact res_new hr hz (zeroT_cells hz) hs
    · simp [AOp.map, asem] at hs
  case box e x =>
    simp only [compOp] at hs
    split at hs
    · exact res_box hr (hev x (by simp [Op.operands])) hs
    · simp [AOp.map, asem] at hs
  case build t ps =>
    simp only [compOp] at hs
    have hps : ∀ p ∈ ps.toList, VR σ (ev p.2) (ev' p.2) := fun p hp => hev p.2 (by simp only [Op.operands, List.mem_toArray, List.mem_map]; exact ⟨p, hp, rfl⟩)
    split at hs
    · rename_i z fs hz hu
      split at hs
      · rename_i ns qs hns hq
        exact res_build_struct hr hz hu hns hq (zeroT_cells hz) hps hs
      · simp [AOp.map, asem] at hs
    · rename_i z len e hz hu
      split at hs
      · rename_i n hn
        simp only [AOp.map, List.map_map] at hs
        exact res_build_array hr hz hu hn (zeroT_cells hz) hps hs
      · simp [AOp.map, asem] at hs
    · simp [AOp.map, asem] at hs
  case buildSlice t len ps =>
    simp only [compOp] at hs
    have hps : ∀ p ∈ ps.toList, VR σ (ev p.2) (ev' p.2) := fun p hp => hev p.2 (by simp only [Op.operands, List.mem_toArray, List.mem_map]; exact ⟨p, hp, rfl⟩)
    split at hs
    · rename_i e he
      split at hs
      · rename_i z n hz hn
        split at hs
        · rename_i hc
          simp only [AOp.map, List.map_map] at hs
          exact res_bslice hr (elemOfT_eq he) hz hn hc.1 hc.2.1 hc.2.2 (zeroT_cells hz) hps hs
        · simp [AOp.map, asem] at hs
      · simp [AOp.map, asem] at hs
    · simp [AOp.map, asem] at hs
  case load t x =>
    simp only [compOp] at hs
    split at hs
    · rename_i n ha hn
      exact res_loadn hr (hev x (by simp [Op.operands])) ha hn hs
    · rename_i ha
      exact res_load1 hr (hev x (by simp [Op.operands])) ha hs
    · simp [AOp.map, asem] at hs
  case store t a x =>
    simp only [compOp] at hs
    split at hs
    · rename_i n hn
      split at hs
      · rename_i hc
        obtain ⟨rfl, _⟩ := hc
        exact res_store1 hr (hev a (by simp [Op.operands])) (hev x (by simp [Op.operands])) hn hs
      · exact res_storen hr (hev a (by simp [Op.operands])) (hev x (by simp [Op.operands])) hn hs
    · simp [AOp.map, asem] at hs
  case nilCheck x =>
    simp only [compOp, AOp.map] at hs
    exact res_nilck hr (hev x (by simp [Op.operands])) hs rfl rfl
  case binOp op t x y ty =>
    have hx := hev x (by simp [Op.operands])
    have hy := hev y (by simp [Op.operands])
    simp only [compOp] at hs
    split at hs
    · split at hs
      all_goals first
        | exact res_bin hr hx hy hs
        | (rename_i hu; refine res_eqv hr (.inl ⟨rfl, rfl⟩) hu rfl ?_ hx hy hs; intro h; cases h; done)
        | (rename_i hu; split at hs
           · rename_i hc; exact res_eqv hr (.inl ⟨rfl, rfl⟩) hu rfl (fun _ => hc) hx hy hs
           · refine res_eqv hr (.inl ⟨rfl, rfl⟩) hu rfl ?_ hx hy hs
             intro h; cases h)
        | (rename_i hu; split at hs
           · rename_i hcs; exact res_eqs hr (.inl ⟨rfl, rfl⟩) (by unfold isAggT; rw [hu]; rfl) hcs hx hy hs
           · simp [AOp.map, asem] at hs)
        | (simp [AOp.map, asem] at hs; done)
    · split at hs
      all_goals first
        | exact res_bin hr hx hy hs
        | (rename_i hu; refine res_eqv hr (.inr ⟨rfl, rfl⟩) hu rfl ?_ hx hy hs; intro h; cases h; done)
        | (rename_i hu; split at hs
           · rename_i hc; exact res_eqv hr (.inr ⟨rfl, rfl⟩) hu rfl (fun _ => hc) hx hy hs
           · refine res_eqv hr (.inr ⟨rfl, rfl⟩) hu rfl ?_ hx hy hs
             intro h; cases h)
        | (rename_i hu; split at hs
           · rename_i hcs; exact res_eqs hr (.inr ⟨rfl, rfl⟩) (by unfold isAggT; rw [hu]; rfl) hcs hx hy hs
           · simp [AOp.map, asem] at hs)
        | (simp [AOp.map, asem] at hs; done)
    · exact res_bin hr hx hy hs
  case unOp op t x =>
    simp only [compOp] at hs
    exact res_un hr (hev x (by simp [Op.operands])) hs
  case convert src dst x =>
    have hx := hev x (by simp [Op.operands])
    simp only [compOp] at hs
    split at hs
    · rename_i h1 h2; exact res_i2i hr h1 h2 hx hs
    · rename_i h1 h2; exact res_i2str hr h1 h2 hx hs
    · rename_i h1 h2; exact res_s2s hr h1 h2 hx hs
    · rename_i h1 h2
      split at hs
      · rename_i h3; exact res_s2b hr h1 h2 h3 hx hs
      · simp [AOp.map, asem] at hs
    · rename_i h1 h2
      split at hs
      · rename_i h3; exact res_b2s hr h1 h2 h3 hx hs
      · simp [AOp.map, asem] at hs
    · rename_i h1 h2
      split at hs
      · rename_i h3
        simp only [Bool.and_eq_true] at h3
        exact res_mark hr h1 h2 h3.1 h3.2 hx hs
      · simp [AOp.map, asem] at hs
    · simp [AOp.map, asem] at hs
  case makeInterface t x =>
    simp only [compOp] at hs
    split at hs
    · simp [AOp.map, asem] at hs
    · rename_i d hd hne
      exact res_iface hr hne (fun ms h => hd ms h) (hev x (by simp [Op.operands])) hs
    · simp [AOp.map, asem] at hs
  case makeFunc fn xs ys =>
    simp only [compOp, AOp.map] at hs
    have h1 := VL.map2 (σ := σ) ev ev' xs.toList (fun x hx => hev x (by simp [Op.operands]; left; simpa using hx))
    have h2 := VL.map2 (σ := σ) ev ev' ys.toList (fun x hx => hev x (by simp [Op.operands]; right; simpa using hx))
    have := res_mkfn (P := P) hr (fn := fn) h1 h2 hs
    have e1 : (List.map ev' xs.toList).toArray = xs.map ev' := by cases xs; simp
    have e2 : (List.map ev' ys.toList).toArray = ys.map ev' := by cases ys; simp
    rw [e1, e2] at this
    exact this
  case makeSlice t l c =>
    simp only [compOp] at hs
    split at hs
    · rename_i e he
      split at hs
      · rename_i z n b hz hn hb
        split at hs
        · rename_i hc
          exact res_mksl hr (elemOfT_eq he) hz hn hb hc.1 hc.2 (zeroT_cells hz) (hev l (by simp [Op.operands])) (hev c (by simp [Op.operands])) hs
        · simp [AOp.map, asem] at hs
      · simp [AOp.map, asem] at hs
    · simp [AOp.map, asem] at hs
  case slice t x lo hi mx =>
    have hx := hev x (by simp [Op.operands])
    have hlo := opt_rel (σ := σ) (ev := ev) (ev' := ev') (x := lo) (fun y hy => hev y (by subst hy; simp [Op.operands]))
    have hhi := opt_rel (σ := σ) (ev := ev) (ev' := ev') (x := hi) (fun y hy => hev y (by subst hy; simp [Op.operands]))
    have hmx := opt_rel (σ := σ) (ev := ev) (ev' := ev') (x := mx) (fun y hy => hev y (by subst hy; simp [Op.operands]))
    simp only [compOp] at hs
    split at hs
    · rename_i h1
      split at hs
      · rename_i hm
        have hmn : mx = none := by cases mx <;> simp_all
        subst hmn
        exact res_slstr hr h1 hx hlo.1 hhi.1 hlo.2 hhi.2 hs
      · simp [AOp.map, asem] at hs
    · rename_i e h1
      split at hs
      · rename_i n hn
        split at hs
        · simp [AOp.map, asem] at hs
        · rename_i hmh
          exact res_slsl hr h1 hn hx hlo.1 hhi.1 hmx.1 hlo.2 hhi.2 hmx.2 (by cases mx <;> cases hi <;> simp_all) hs
      · simp [AOp.map, asem] at hs
    · rename_i len e h1
      split at hs
      · rename_i n hn
        split at hs
        · simp [AOp.map, asem] at hs
        · rename_i hmh
          exact res_slarr hr h1 hn hx hlo.1 hhi.1 hmx.1 hlo.2 hhi.2 hmx.2 (by cases mx <;> cases hi <;> simp_all) hs
      · simp [AOp.map, asem] at hs
    · simp [AOp.map, asem] at hs
  case fieldAddr t x f =>
    simp only [compOp] at hs
    split at hs
    · rename_i fs h1
      split at hs
      · rename_i fd h2
        split at hs
        · simp [AOp.map, asem] at hs
        · rename_i h3
          exact res_faddr hr h1 h2 h3 (hev x (by simp [Op.operands])) hs
      · simp [AOp.map, asem] at hs
    · simp [AOp.map, asem] at hs
  case field t x f =>
    simp only [compOp] at hs
    split at hs
    · rename_i fs h1
      split at hs
      · rename_i fd h2
        split at hs
        · rename_i n h3 h4
          exact res_fldn hr h1 h2 h3 h4 (hev x (by simp [Op.operands])) hs
        · rename_i h3
          exact res_fld1 hr h1 h2 h3 (hev x (by simp [Op.operands])) hs
        · simp [AOp.map, asem] at hs
      · simp [AOp.map, asem] at hs
    · simp [AOp.map, asem] at hs
  case indexAddr t x i =>
    simp only [compOp] at hs
    split at hs
    · rename_i e he
      split at hs
      · rename_i n hn
        exact res_iaddr hr (elemOfT_eq he) hn (hev x (by simp [Op.operands])) (hev i (by simp [Op.operands])) hs
      · simp [AOp.map, asem] at hs
    · split at hs
      · rename_i len e h1
        split at hs
        · rename_i n hn
          exact res_iaddrp hr h1 hn (hev x (by simp [Op.operands])) (hev i (by simp [Op.operands])) hs
        · simp [AOp.map, asem] at hs
      · simp [AOp.map, asem] at hs
  case index t x i =>
    simp only [compOp] at hs
    split at hs
    · rename_i h1
      exact res_idxs hr h1 (hev x (by simp [Op.operands])) (hev i (by simp [Op.operands])) hs
    · rename_i len e h1
      split at hs
      · rename_i agg n h2 h3
        exact res_idxa hr h1 h2 h3 (hev x (by simp [Op.operands])) (hev i (by simp [Op.operands])) hs
      · simp [AOp.map, asem] at hs
    · simp [AOp.map, asem] at hs
  case range t x =>
    simp only [compOp] at hs
    split at hs
    · rename_i h1
      exact res_rng hr h1 (hev x (by simp [Op.operands])) hs
    · simp [AOp.map, asem] at hs
  case next x str =>
    simp only [compOp] at hs
    split at hs
    · rename_i hstr
      have := res_next (P := P) (ty := type) hr (hev x (by simp [Op.operands])) hs
      simpa [execOp, hstr] using this
    · simp [AOp.map, asem] at hs
  case typeAssert x xt u ok =>
    simp only [compOp] at hs
    split at hs
    · simp [AOp.map, asem] at hs
    · rename_i d hd h1
      split at hs
      · rename_i z hz
        exact res_assert hr h1 (fun ms h => hd ms h) hz (plainV_VR (zeroT_plain hz)) (hev x (by simp [Op.operands])) hs
      · simp [AOp.map, asem] at hs
    · simp [AOp.map, asem] at hs
  case extract x i =>
    simp only [compOp] at hs
    exact res_extract hr (hev x (by simp [Op.operands])) hs
  case makeMap t r =>
    cases r with
    | none => simp only [compOp, Option.isNone_none, if_true, AOp.map] at hs; exact res_mkmap hr hs
    | some x => simp [compOp, AOp.map, asem] at hs
  case lookup t m k ok =>
    simp only [compOp] at hs
    split at hs
    · rename_i kt et hm
      split at hs
      · rename_i d z hd hz
        exact res_mget hr hm hd hz (plainV_VR (zeroT_plain hz)) (hev m (by simp [Op.operands])) (hev k (by simp [Op.operands])) hs
      · simp [AOp.map, asem] at hs
    · simp [AOp.map, asem] at hs
  case mapUpdate t m k x =>
    simp only [compOp] at hs
    split at hs
    · rename_i kt et hm
      split at hs
      · rename_i d hd
        exact res_mset hr hm hd (hev m (by simp [Op.operands])) (hev k (by simp [Op.operands])) (hev x (by simp [Op.operands])) hs
      · simp [AOp.map, asem] at hs
    · simp [AOp.map, asem] at hs
  case insert t m k x =>
    simp only [compOp] at hs
    split at hs
    · rename_i kt et hm
      split at hs
      · rename_i d hd
        exact res_mset hr hm hd (hev m (by simp [Op.operands])) (hev k (by simp [Op.operands])) (hev x (by simp [Op.operands])) hs
      · simp [AOp.map, asem] at hs
    · simp [AOp.map, asem] at hs
  case call c =>
    obtain ⟨callee, args, tys⟩ := c
    obtain ⟨args⟩ := args
    obtain ⟨tys⟩ := tys
    simp only [compOp] at hs
    split at hs
    · simp [AOp.map, asem] at hs
    · simp [AOp.map, asem] at hs
    · simp [AOp.map, asem] at hs
    · split at hs
      · rename_i _ _ x t
        have hx := hev x (by simp [Op.operands, Call.operands])
        split at hs
        · rename_i e h1
          have := res_cap (P := P) (t := t) (ty := type) hr h1 hx hs
          simpa [execOp, resolve, invoke, builtin] using this
        · simp [AOp.map, asem] at hs
      · simp [AOp.map, asem] at hs
    · split at hs
      · rename_i _ _ x t
        have hx := hev x (by simp [Op.operands, Call.operands])
        split at hs
        · rename_i h1
          have := res_len (P := P) (t := t) (ty := type) hr h1 (.inl ⟨rfl, rfl⟩) hx hs
          simpa [execOp, resolve, invoke, builtin] using this
        · rename_i e h1
          have := res_len (P := P) (t := t) (ty := type) hr h1 (.inr ⟨⟨_, rfl⟩, rfl⟩) hx hs
          simpa [execOp, resolve, invoke, builtin] using this
        · simp [AOp.map, asem] at hs
      · simp [AOp.map, asem] at hs
    · split at hs
      · rename_i _ _ s x t u
        have hsv := hev s (by simp [Op.operands, Call.operands])
        have hx := hev x (by simp [Op.operands, Call.operands])
        split at hs
        · rename_i e e2 he hu
          split at hs
          · rename_i z n b hz hn hb
            split at hs
            · rename_i hc
              have := res_app (P := P) (t := t) (u := u) (ty := type) hr (elemOfT_eq he) hu hz hn hb hc.1 hc.2.1 hc.2.2 hsv hx hs
              simpa [execOp, resolve, invoke, builtin] using this
            · simp [AOp.map, asem] at hs
          · simp [AOp.map, asem] at hs
        · rename_i e he hu
          split at hs
          · rename_i z b hz hn hb
            split at hs
            · rename_i hc
              simp only [Bool.and_eq_true, decide_eq_true_eq, beq_iff_eq] at hc
              have := res_apps (P := P) (t := t) (u := u) (ty := type) hr (elemOfT_eq he) hu hz hn hb hc.1.1 hc.2 hsv hx hs
              simpa [execOp, resolve, invoke, builtin] using this
            · simp [AOp.map, asem] at hs
          · simp [AOp.map, asem] at hs
        · rename_i e he hu
          split at hs
          · rename_i z n b hz hn hb
            split at hs
            · rename_i hc
              have := res_appz (P := P) (t := t) (u := u) (ty := type) hr (elemOfT_eq he) hu hz hn hb hc.1 hc.2.2 hsv hx hs
              simpa [execOp, resolve, invoke, builtin] using this
            · simp [AOp.map, asem] at hs
          · simp [AOp.map, asem] at hs
        · simp [AOp.map, asem] at hs
      · simp [AOp.map, asem] at hs
    · split at hs
      · rename_i _ x y
        have := res_mm (P := P) (mx := true) (ts := tys.toArray) (ty := type) hr (hev x (by simp [Op.operands, Call.operands])) (hev y (by simp [Op.operands, Call.operands])) hs
        simpa [execOp, resolve, invoke, builtin] using this
      · rename_i _ x y z w'
        have := res_mm4 (P := P) (mx := true) (ts := tys.toArray) (ty := type) hr (hev x (by simp [Op.operands, Call.operands])) (hev y (by simp [Op.operands, Call.operands])) (hev z (by simp [Op.operands, Call.operands])) (hev w' (by simp [Op.operands, Call.operands])) hs
        simpa [execOp, resolve, invoke, builtin] using this
      · simp [AOp.map, asem] at hs
    · split at hs
      · rename_i _ x y
        have := res_mm (P := P) (mx := false) (ts := tys.toArray) (ty := type) hr (hev x (by simp [Op.operands, Call.operands])) (hev y (by simp [Op.operands, Call.operands])) hs
        simpa [execOp, resolve, invoke, builtin] using this
      · rename_i _ x y z w'
        have := res_mm4 (P := P) (mx := false) (ts := tys.toArray) (ty := type) hr (hev x (by simp [Op.operands, Call.operands])) (hev y (by simp [Op.operands, Call.operands])) (hev z (by simp [Op.operands, Call.operands])) (hev w' (by simp [Op.operands, Call.operands])) hs
        simpa [execOp, resolve, invoke, builtin] using this
      · simp [AOp.map, asem] at hs
    · split at hs
      · rename_i _ _ d s t u
        have hdv := hev d (by simp [Op.operands, Call.operands])
        have hsv := hev s (by simp [Op.operands, Call.operands])
        split at hs
        · rename_i e e2 he hu
          split at hs
          · rename_i n hn
            have := res_copy (P := P) (t := t) (u := u) (ty := type) (e2 := e2) hr (elemOfT_eq he) hn hdv hsv hs
            simpa [execOp, resolve, invoke, builtin] using this
          · simp [AOp.map, asem] at hs
        · simp [AOp.map, asem] at hs
      · simp [AOp.map, asem] at hs
    · split at hs
      · rename_i _ _ x t
        have hxv := hev x (by simp [Op.operands, Call.operands])
        split at hs
        · rename_i e he
          split at hs
          · rename_i z n hz hn
            split at hs
            · rename_i hc
              have := res_clr (P := P) (t := t) (ty := type) hr (elemOfT_eq he) hz hn hc.1 hc.2 (zeroT_cells hz) hxv hs
              simpa [execOp, resolve, invoke, builtin] using this
            · simp [AOp.map, asem] at hs
          · simp [AOp.map, asem] at hs
        · simp [AOp.map, asem] at hs
      · simp [AOp.map, asem] at hs
    · simp [AOp.map, asem] at hs
  all_goals (simp [compOp, AOp.map, asem] at hs)
end
end Go.AM

set_option linter.unusedSimpArgs false
set_option linter.unusedVariables false
namespace Go.AM
inductive AX
  | fr (i : Nat)
  | tm (i : Nat)
  | c (v : Value)
  | g (n : Nat)
  | fn (f : FuncId)
def AX.ev (fr tm : List Value) : AX → Value
  | .fr i => fr.getD i undef
  | .tm i => tm.getD i undef
  | .c v => v
  | .g n => .pointer (some ⟨n, 0, none⟩)
  | .fn f => .func (.func f) #[] #[]
inductive D
  | no
  | fr (i : Nat)
  | tm
def D.frame (d : D) (v : Value) (fr : List Value) : List Value := match d with
  | .fr i => fr.set i v
  | _ => fr
def D.temps (d : D) (v : Value) (tm : List Value) : List Value := match d with
  | .tm => v :: tm
  | _ => tm
structure AOper where
  op : AOp AX
  dst : D
  g : Option (AX × Bool)
def wantA (g : Option (AX × Bool)) (fr tm : List Value) : Bool := match g with
  | none => true
  | some (x, b) => match x.ev fr tm with
    | .bool t => t == b
    | _ => false
def Bodied (P : Program) (f : FuncId) : Prop := ∃ fn, P.funcs[f]? = some fn ∧ fn.body.isSome = true ∧ (fn.name == "runtime.NumGoroutine") = false
def Callable (P : Program) (f : FuncId) : Prop := ∃ fn, P.funcs[f]? = some fn
theorem Bodied.run {P : Program} {f : FuncId} (h : Bodied P f) (args : Array Value) (w : World) : (callFunc f args).run P w = .ok (.enter f args) w := by
  obtain ⟨fn, f1, f2, f3⟩ := h
  have hb : fn.body.isNone = false := by cases hb : fn.body <;> simp_all
  simp only [callFunc, Sem.run_bind, run_program, Result.andThen_ok, f1, f3, hb, Bool.false_eq_true, if_false, Sem.run_pure]
inductive CallsX (P : Program) (f : FuncId) (args : Array Value) (w : World) (R : Ending → World → Prop) : Prop
  | body (h : Bodied P f) (k : Calls P f args w R)
  | ext (v : Value) (w' : World) (h : (callFunc f args).run P w = .ok (.value v) w') (k : R (.returned v) w')
theorem CallsX.mono {P : Program} {f : FuncId} {args : Array Value} {w : World} {R R' : Ending → World → Prop} (h : CallsX P f args w R) (hr : ∀ e w', R e w' → R' e w') : CallsX P f args w R' := by
  cases h with
  | body h k => exact .body h (k.mono hr)
  | ext v w' h k => exact .ext v w' h (hr _ _ k)
theorem CallsX.calls {P : Program} {f : FuncId} {args : Array Value} {w : World} {R : Ending → World → Prop} (hb : Bodied P f) (h : CallsX P f args w R) : Calls P f args w R := by
  cases h with
  | body h k => exact k
  | ext v w' h k => rw [hb.run] at h; cases h
def bodiedB (P : Program) (f : FuncId) : Bool := match P.funcs[f]? with
  | some fn => fn.body.isSome && !(fn.name == "runtime.NumGoroutine")
  | none => false
theorem bodied_of {P : Program} {f : FuncId} (h : bodiedB P f = true) : Bodied P f := by
  unfold bodiedB at h
  split at h
  · rename_i fn hf
    simp only [Bool.and_eq_true, Bool.not_eq_true'] at h
    exact ⟨fn, hf, h.1, h.2⟩
  · cases h
def ARun (P : Program) (ng : Nat) (f : FuncId) (args : List Value) (H : AHeap) (v : Value) (H' : AHeap) : Prop :=
  Callable P f ∧ H.n ≤ H'.n ∧ ∀ (σ : Sg) (w : World) (args' : List Value), HR ng σ H.get w → VL σ args args' →
    CallsX P f args'.toArray w fun e w' => ∃ v' σ', e = .returned v' ∧ HR ng σ' H'.get w' ∧ Ext H.n σ H.get w H'.n σ' H'.get w' ∧ VR σ' v v'
def AYield (P : Program) (ng : Nat) (b : Nat) (args : List Value) (H : AHeap) (v : Value) (H' : AHeap) : Prop :=
  H.n ≤ H'.n ∧ ∀ (σ : Sg) (w : World) (args' : List Value) (i : BI), HR ng σ H.get w → VL σ args args' → σ b = some i →
    ∃ (fn : FuncId) (tmps : Array Value) (assign body : Code), (Instr.yield i.c args'.toArray).run P w = .ok (.round i.c fn tmps assign body) w ∧
      RoundIn Fence.wide 0 P i.c fn tmps assign body w fun e w' => ∃ v' σ', e = .returned v' ∧ HR ng σ' H'.get w' ∧ Ext H.n σ H.get w H'.n σ' H'.get w' ∧ VR σ' v v'
def stepA (P : Program) (ng : Nat) (op : AOp Value) (H : AHeap) (K : Value → AHeap → Prop) : Prop := match op with
  | .callf f xs => ∃ v H', ARun P ng f xs H v H' ∧ K v H'
  | .callv f xs => match f with
    | .func (.func g) first cap => ∃ v H', ARun P ng g (first.toList ++ xs ++ cap.toList) H v H' ∧ K v H'
    | .chan (some b) => ∃ v H', AYield P ng b xs H v H' ∧ K v H'
    | _ => False
  | .inv nm r xs => match r with
    | .iface t u => match methT P t nm with
      | some g => ∃ v H', ARun P ng g (u :: xs) H v H' ∧ K v H'
      | none => False
    | _ => False
  | op => ∃ v H', asem op H = some (v, H') ∧ K v H'
def RW (P : Program) (ng : Nat) : List AOper → List Value → List Value → AHeap → (List Value → AHeap → Prop) → Prop
  | [], fr, _, H, K => K fr H
  | o :: r, fr, tm, H, K =>
    if wantA o.g fr tm then stepA P ng (o.op.map (AX.ev fr tm)) H fun v H' => RW P ng r (o.dst.frame v fr) (o.dst.temps v tm) H' K
    else RW P ng r (o.dst.frame undef fr) (o.dst.temps undef tm) H K
theorem appA_n {H : AHeap} {e esz bytes : Nat} {s : Value} {m : Nat} {news : List Value} {v : Value} {H' : AHeap} (h : appA H e esz bytes s m news = some (v, H')) : H.n ≤ H'.n := by
  unfold appA at h
  repeat' split at h
  all_goals first
    | (cases h; done)
    | (simp only [Option.some.injEq, Prod.mk.injEq] at h; obtain ⟨_, rfl⟩ := h; simp [AHeap.alloc, AHeap.set])
theorem asem_n {op : AOp Value} {H : AHeap} {v : Value} {H' : AHeap} (h : asem op H = some (v, H')) : H.n ≤ H'.n := by
  cases op
  case app e esz b s x =>
    simp only [asem] at h
    repeat' split at h
    all_goals first
      | (cases h; done)
      | exact appA_n h
  case apps e b s x =>
    simp only [asem] at h
    split at h
    · exact appA_n h
    · cases h
  case appz e esz b z s x =>
    simp only [asem] at h
    repeat' split at h
    all_goals first
      | (cases h; done)
      | exact appA_n h
  all_goals simp only [asem, Option.map_eq_some_iff, Prod.mk.injEq] at h
  all_goals (repeat' split at h)
  all_goals first
    | (cases h; done)
    | (obtain ⟨_, _, _, rfl⟩ := h; exact Nat.le_refl _)
    | (simp only [Option.some.injEq, Prod.mk.injEq] at h; obtain ⟨_, rfl⟩ := h; simp [AHeap.alloc, AHeap.set]; done)
    | (simp only [Option.map_eq_some_iff, Prod.mk.injEq] at h; obtain ⟨_, _, _, rfl⟩ := h; exact Nat.le_refl _)
def posOf : List Nat → Nat → Option Nat
  | [], _ => none
  | x :: l, t => if x = t then some 0 else (posOf l t).map (· + 1)
theorem posOf_get : ∀ {l : List Nat} {t i : Nat}, posOf l t = some i → l[i]? = some t
  | x :: l, t, i, h => by
    simp only [posOf] at h
    split at h
    · rename_i e; cases h; subst e; rfl
    · simp only [Option.map_eq_some_iff] at h
      obtain ⟨j, hj, rfl⟩ := h
      simpa using posOf_get hj
theorem posOf_none : ∀ {l : List Nat} {t : Nat}, posOf l t = none → t ∉ l
  | [], t, _ => by simp
  | x :: l, t, h => by
    simp only [posOf] at h
    split at h
    · cases h
    · rename_i e
      simp only [Option.map_eq_none_iff] at h
      simp only [List.mem_cons, not_or]
      exact ⟨Ne.symm e, posOf_none h⟩
structure ER (σ : Sg) (N : Nat) (sl tl : List Nat) (ds : List Deferred) (fr tm : List Value) (a : Act) : Prop where
  size : a.tmps.size = N
  frl : fr.length = sl.length
  tml : tm.length = tl.length
  frv : ∀ (i s : Nat) (v : Value), sl[i]? = some s → fr[i]? = some v → ∃ v', a.tmps[s]? = some v' ∧ VR σ v v'
  tmv : ∀ (i s : Nat) (v : Value), tl[i]? = some s → tm[i]? = some v → ∃ v', a.tmps[s]? = some v' ∧ VR σ v v'
  dfr : a.defers = ds
theorem ER.mono {σ σ' : Sg} (h : σ.le σ') {N : Nat} {sl tl : List Nat} {ds : List Deferred} {fr tm : List Value} {a : Act} (e : ER σ N sl tl ds fr tm a) : ER σ' N sl tl ds fr tm a :=
  ⟨e.size, e.frl, e.tml, fun i s v h1 h2 => by obtain ⟨v', a, b⟩ := e.frv i s v h1 h2; exact ⟨v', a, b.mono h⟩, fun i s v h1 h2 => by obtain ⟨v', a, b⟩ := e.tmv i s v h1 h2; exact ⟨v', a, b.mono h⟩, e.dfr⟩
theorem ER.forget {σ : Sg} {N : Nat} {sl tl : List Nat} {ds : List Deferred} {fr tm : List Value} {a : Act} (e : ER σ N sl tl ds fr tm a) : ER σ N sl [] ds fr [] a :=
  ⟨e.size, e.frl, rfl, e.frv, fun i s v h => by simp at h, e.dfr⟩
def compX (ng : Nat) (sl tl : List Nat) : Operand → Option AX
  | .tmp t => match posOf sl t with
    | some i => some (.fr i)
    | none => (posOf tl t).map .tm
  | .const v => if plainV v then some (.c v) else none
  | .global g => if g < ng then some (.g g) else none
  | .func f => some (.fn f)
theorem func_VR (σ : Sg) (f : FuncId) : VR σ (.func (.func f) #[] #[]) (.func (.func f) #[] #[]) := .func _ _ _ _ _ rfl (fun i a => by simp at a) rfl (fun i a => by simp at a)
theorem compX_sound {σ : Sg} {ng N : Nat} {sl tl : List Nat} {ds : List Deferred} {fr tm : List Value} {a : Act} (e : ER σ N sl tl ds fr tm a) {G : Gf} {w : World} (hr : HR ng σ G w) {x : Operand} {ax : AX} (h : compX ng sl tl x = some ax) : VR σ (ax.ev fr tm) (a.eval x) := by
  cases x with
  | tmp t =>
    simp only [compX] at h
    split at h
    · rename_i i hi
      cases h
      have hs := posOf_get hi
      have hlt : i < fr.length := by rw [e.frl]; exact (List.getElem?_eq_some_iff.1 hs).1
      obtain ⟨v', h1, h2⟩ := e.frv i t fr[i] hs (List.getElem?_eq_getElem hlt)
      simp only [AX.ev, Act.eval, List.getD, List.getElem?_eq_getElem hlt, Option.getD_some, Array.getD_eq_getD_getElem?, h1]
      exact h2
    · simp only [Option.map_eq_some_iff] at h
      obtain ⟨i, hi, rfl⟩ := h
      have hs := posOf_get hi
      have hlt : i < tm.length := by rw [e.tml]; exact (List.getElem?_eq_some_iff.1 hs).1
      obtain ⟨v', h1, h2⟩ := e.tmv i t tm[i] hs (List.getElem?_eq_getElem hlt)
      simp only [AX.ev, Act.eval, List.getD, List.getElem?_eq_getElem hlt, Option.getD_some, Array.getD_eq_getD_getElem?, h1]
      exact h2
  | const v =>
    simp only [compX] at h
    split at h
    · rename_i hp; cases h; exact plainV_VR hp
    · cases h
  | global g =>
    simp only [compX] at h
    split at h
    · rename_i hg
      cases h
      obtain ⟨i, h1, h2, h3⟩ := hr.glob g hg
      have := VR.ptr (σ := σ) (b := g) (o := 0) h1
      rw [h2, h3] at this
      exact this
    · cases h
  | func f =>
    simp only [compX] at h
    cases h
    exact func_VR σ f
def compD (N : Nat) (sl tl : List Nat) : Option Tmp → Option (D × List Nat)
  | none => some (.no, tl)
  | some t => match posOf sl t with
    | some i => if t < N then some (.fr i, tl) else none
    | none => match posOf tl t with
      | some _ => none
      | none => if t < N then some (.tm, t :: tl) else none
theorem ER.put {σ : Sg} {N : Nat} {sl tl tl' : List Nat} {ds : List Deferred} {fr tm : List Value} {a : Act} (e : ER σ N sl tl ds fr tm a) (hnd : sl.Nodup) (hdis : ∀ t ∈ tl, t ∉ sl) {dst : Option Tmp} {d : D} (hd : compD N sl tl dst = some (d, tl')) {v v' : Value} (hv : VR σ v v') :
    ER σ N sl tl' ds (d.frame v fr) (d.temps v tm) (a.put dst v') ∧ ∀ t ∈ tl', t ∉ sl := by
  cases dst with
  | none => simp only [compD, Option.some.injEq, Prod.mk.injEq] at hd; obtain ⟨rfl, rfl⟩ := hd; exact ⟨e, hdis⟩
  | some t =>
    simp only [compD] at hd
    split at hd
    · rename_i i hi
      split at hd
      · rename_i hN
        simp only [Option.some.injEq, Prod.mk.injEq] at hd
        obtain ⟨rfl, rfl⟩ := hd
        have hti := posOf_get hi
        refine ⟨⟨by simp [Act.put, e.size], by simp [D.frame, e.frl], e.tml, ?_, ?_, e.dfr⟩, hdis⟩
        · intro j s u hj hu
          simp only [D.frame, List.getElem?_set] at hu
          by_cases hij : i = j
          · subst hij
            rw [hti] at hj; cases hj
            split at hu
            · rename_i h1
              split at hu
              · cases hu; exact ⟨v', by simp [Act.put, e.size, hN], hv⟩
              · cases hu
            · rename_i h1; exact absurd rfl h1
          · rw [if_neg hij] at hu
            obtain ⟨u', h1, h2⟩ := e.frv j s u hj hu
            refine ⟨u', ?_, h2⟩
            have hne : t ≠ s := fun he => by
              subst he
              obtain ⟨l1, e1⟩ := List.getElem?_eq_some_iff.1 hti
              obtain ⟨l2, e2⟩ := List.getElem?_eq_some_iff.1 hj
              exact hij ((List.getElem_inj hnd).1 (e1.trans e2.symm))
            simp only [Act.put]
            rw [Array.getElem?_setIfInBounds_ne hne]; exact h1
        · intro j s u hj hu
          obtain ⟨u', h1, h2⟩ := e.tmv j s u hj hu
          refine ⟨u', ?_, h2⟩
          have hne : t ≠ s := fun he => by
            subst he
            exact hdis t (List.mem_of_getElem? hj) (List.mem_of_getElem? hti)
          simp only [Act.put]
          rw [Array.getElem?_setIfInBounds_ne hne]; exact h1
      · cases hd
    · rename_i hi
      split at hd
      · cases hd
      · rename_i hj0
        split at hd
        · rename_i hN
          simp only [Option.some.injEq, Prod.mk.injEq] at hd
          obtain ⟨rfl, rfl⟩ := hd
          have h1 := posOf_none hi
          have h2 := posOf_none hj0
          refine ⟨⟨by simp [Act.put, e.size], e.frl, by simp [D.temps, e.tml], ?_, ?_, e.dfr⟩, ?_⟩
          · intro j s u hj hu
            obtain ⟨u', k1, k2⟩ := e.frv j s u hj hu
            refine ⟨u', ?_, k2⟩
            have hne : t ≠ s := fun he => by subst he; exact h1 (List.mem_of_getElem? hj)
            simp only [Act.put]
            rw [Array.getElem?_setIfInBounds_ne hne]; exact k1
          · intro j s u hj hu
            cases j with
            | zero =>
              simp [D.temps] at hj hu
              subst hj; subst hu
              exact ⟨v', by simp [Act.put, e.size, hN], hv⟩
            | succ j =>
              simp [D.temps] at hj hu
              obtain ⟨u', k1, k2⟩ := e.tmv j s u hj hu
              refine ⟨u', ?_, k2⟩
              have hne : t ≠ s := fun he => by subst he; exact h2 (List.mem_of_getElem? hj)
              simp only [Act.put]
              rw [Array.getElem?_setIfInBounds_ne hne]; exact k1
          · intro s hs
            simp only [List.mem_cons] at hs
            rcases hs with rfl | hs
            · exact h1
            · exact hdis s hs
        · cases hd
def compG (ng : Nat) (sl tl : List Nat) (ops : Array Oper) : Option (Nat × Bool) → Option (Option (AX × Bool))
  | none => some none
  | some (j, b) => match (ops[j]?).bind (·.dst) with
    | some t => (compX ng sl tl (.tmp t)).map fun x => some (x, b)
    | none => none
theorem compG_sound {σ : Sg} {ng N : Nat} {sl tl : List Nat} {ds : List Deferred} {fr tm : List Value} {a : Act} (e : ER σ N sl tl ds fr tm a) {G : Gf} {w : World} (hr : HR ng σ G w) {ops : Array Oper} {o : Oper} {g : Option (AX × Bool)} (h : compG ng sl tl ops o.guard = some g) :
    Region.wanted o (yielded ops a.tmps) = wantA g fr tm := by
  unfold Region.wanted
  cases hg : o.guard with
  | none => rw [hg] at h; simp only [compG] at h; cases h; rfl
  | some jb =>
    obtain ⟨j, b⟩ := jb
    rw [hg] at h
    simp only [compG] at h
    split at h
    · rename_i t ht
      simp only [Option.map_eq_some_iff] at h
      obtain ⟨x, hx, rfl⟩ := h
      have hv := compX_sound e hr hx
      -- the slot is there
      have hsome : ∃ v', a.tmps[t]? = some v' ∧ VR σ (x.ev fr tm) v' := by
        simp only [compX] at hx
        split at hx
        · rename_i i hi
          cases hx
          have hs := posOf_get hi
          have hlt : i < fr.length := by rw [e.frl]; exact (List.getElem?_eq_some_iff.1 hs).1
          obtain ⟨v', h1, h2⟩ := e.frv i t fr[i] hs (List.getElem?_eq_getElem hlt)
          exact ⟨v', h1, by simpa [AX.ev, List.getD, List.getElem?_eq_getElem hlt] using h2⟩
        · simp only [Option.map_eq_some_iff] at hx
          obtain ⟨i, hi, rfl⟩ := hx
          have hs := posOf_get hi
          have hlt : i < tm.length := by rw [e.tml]; exact (List.getElem?_eq_some_iff.1 hs).1
          obtain ⟨v', h1, h2⟩ := e.tmv i t tm[i] hs (List.getElem?_eq_getElem hlt)
          exact ⟨v', h1, by simpa [AX.ev, List.getD, List.getElem?_eq_getElem hlt] using h2⟩
      obtain ⟨v', h1, h2⟩ := hsome
      simp only [yielded, ht, Option.bind_some, h1, wantA]
      revert h2
      generalize x.ev fr tm = u
      intro h2
      cases h2 <;> simp [Option.some.injEq]
    · cases h
def compR (P : Program) (ng N : Nat) (sl : List Nat) (ops : Array Oper) : List Oper → List Nat → Option (List AOper)
  | [], _ => some []
  | o :: r, tl =>
    if o.op.operands.toList.all (fun x => (compX ng sl tl x).isSome) then
      match compG ng sl tl ops o.guard, compD N sl tl o.dst with
      | some g, some (d, tl') => (compR P ng N sl ops r tl').map fun l => { op := (compOp P o).map fun x => (compX ng sl tl x).getD (.c undef), dst := d, g := g } :: l
      | _, _ => none
    else none
theorem map_map_op {X Y Z : Type} (f : X → Y) (g : Y → Z) (op : AOp X) : (op.map f).map g = op.map (g ∘ f) := by
  cases op <;> simp [AOp.map, List.map_map, Function.comp]
inductive IsW : Fence → Prop
  | wide : IsW Fence.wide
  | round (l : Nat) : IsW (Fence.wide.inRound l)
theorem IsW.fn {F : Fence} (h : IsW F) (f : FuncId) : F.fn f := by cases h <;> exact trivial
theorem IsW.depth {F : Fence} (h : IsW F) : F.depth = none := by cases h <;> rfl
theorem IsW.deep {F : Fence} (h : IsW F) {n : Nat} : F.depth.isSome = true → 1 ≤ n := by rw [h.depth]; intro h; cases h
theorem IsW.calls {F : Fence} (h : IsW F) {n : Nat} {P : Program} {f : FuncId} {args : Array Value} {w : World} {R : Ending → World → Prop} (k : Calls P f args w R) : CallsIn F n P f args w R := by
  cases h
  · exact callsIn_wide.2 k
  · exact CallsIn.inRound _ (callsIn_wide.2 k)
theorem IsW.rounds {F : Fence} (h : IsW F) {n m : Nat} {P : Program} {l : Nat} {f : FuncId} {tmps : Array Value} {assign body : Code} {w : World} {R : Ending → World → Prop} (k : RoundIn Fence.wide m P l f tmps assign body w R) : RoundIn F n P l f tmps assign body w R := by
  cases h
  · exact ⟨k.1, fun c cs _ => k.2 c cs (room_wide _)⟩
  · exact ⟨k.1, fun c cs _ => k.2 c cs (room_wide _)⟩
theorem wpIn_exec {F : Fence} (hF : IsW F) {n : Nat} {P : Program} {o : Oper} {a : Act} {w : World} {next : Act → World → Prop} {Q : Exit → Act → World → Prop} {r : Result Next}
    (hd : ∀ c, o.op ≠ .defer c) (e : (execOp a.eval o).run P w = r) (h : o.uponIn F n P a next Q r) : o.wpIn F n P a w next Q :=
  ⟨fun f _ => hF.fn f, by rw [Oper.semAt_eq _ _ _ hd, e]; exact h⟩
theorem stepA_nd {P : Program} {ng : Nat} {o : Oper} {ev : Operand → Value} {H : AHeap} {K : Value → AHeap → Prop} (hs : stepA P ng ((compOp P o).map ev) H K) (c : Call) : o.op ≠ .defer c := by
  intro h
  obtain ⟨dst, op, type, pos, after, guard⟩ := o
  simp only at h
  subst h
  simp [compOp, AOp.map, stepA, asem] at hs
theorem asem_nd {P : Program} {o : Oper} {ev : Operand → Value} {H : AHeap} {r : Value × AHeap} (hs : asem ((compOp P o).map ev) H = some r) (c : Call) : o.op ≠ .defer c := by
  intro h
  obtain ⟨dst, op, type, pos, after, guard⟩ := o
  simp only at h
  subst h
  simp [compOp, AOp.map, asem] at hs
theorem run_method {P : Program} {t : TypeId} {name : String} {f : FuncId} (h : methT P t name = some f) (v : Value) (n : Nat) (w : World) : (method (n + 1) t v name).run P w = .ok (f, v) w := by
  unfold methT at h
  cases hi : P.info? t with
  | none => rw [hi] at h; cases h
  | some i =>
    rw [hi] at h
    simp only [Option.bind_some] at h
    split at h
    · rename_i m hm
      split at h
      · rename_i hp
        have hp' : m.path.toList = [] := by simpa using hp
        split at h
        · rename_i g e h1 h2
          cases h
          simp [method, typeInfo, hi, hm, hp', follow, h1, receiverAt, run_underlying h2, Place.get, Result.andThen]
        · cases h
        · rename_i g d h1 h2 hne
          cases h
          have : (receiverAt t (Place.val v) false (if m.path.isEmpty = true then some ((name.splitOn ".").getLastD name) else none)).run P w = .ok v w := by
            simp only [receiverAt, Sem.run_bind, run_underlying hne, Result.andThen_ok]
            cases d <;> first | exact absurd rfl (h1 _) | simp [Place.get]
          simp [method, typeInfo, hi, hm, hp', follow, h2, Result.andThen] at this ⊢
          rw [this]
        · cases h
      · cases h
    · cases h
theorem run_callMethod {P : Program} {t : TypeId} {name : String} {f : FuncId} (h : methT P t name = some f) (v : Value) (args : Array Value) (w : World) : (callMethod (.iface t v) name args).run P w = (callFunc f (#[v] ++ args)).run P w := by
  have hd : P.types.size + Made.depth = (P.types.size + Made.depth - 1) + 1 := by simp [Made.depth]
  simp only [callMethod, Sem.run_bind, run_program, Result.andThen_ok]
  rw [hd, run_method h v _ w]
  rfl
theorem oper_wp {F : Fence} (hF : IsW F) {m : Nat} {P : Program} {ng : Nat} {σ : Sg} {H : AHeap} {w : World} (hr : HR ng σ H.get w) {o : Oper} {a : Act} {ev : Operand → Value} (hev : ∀ x ∈ o.op.operands, VR σ (ev x) (a.eval x)) {K : Value → AHeap → Prop}
    (hs : stepA P ng ((compOp P o).map ev) H K) {next : Act → World → Prop} {Q : Exit → Act → World → Prop}
    (hn : ∀ v H' v' σ' w', K v H' → HR ng σ' H'.get w' → Ext H.n σ H.get w H'.n σ' H'.get w' → VR σ' v v' → next (a.put o.dst v') w') : o.wpIn F m P a w next Q := by
  have plain : ∀ v H', asem ((compOp P o).map ev) H = some (v, H') → K v H' → o.wpIn F m P a w next Q := by
    intro v H' h1 h2
    obtain ⟨nx, v', w', σ', e1, e2, e3, e4, e5⟩ := asem_sound hr o hev h1
    refine wpIn_exec hF (asem_nd h1) e1 ?_
    rcases e2 with rfl | ⟨rfl, rfl⟩
    · exact hn v H' v' σ' w' h2 e3 e4 e5
    · exact hn v H' undef σ' w' h2 e3 e4 e5
  have call : ∀ (f : FuncId) (xs : List Value) (args : Array Value) (v : Value) (H' : AHeap), ARun P ng f xs H v H' → K v H' → VL σ xs args.toList →
      (execOp a.eval o).run P w = (callFunc f args).run P w → o.wpIn F m P a w next Q := by
    intro f xs args v H' h1 h2 h3 h4
    obtain ⟨_, _, h1⟩ := h1
    have := h1 σ w args.toList hr h3
    rw [Array.toArray_toList] at this
    cases this with
    | body hb k =>
      refine wpIn_exec hF (stepA_nd hs) (h4.trans (hb.run _ _)) ⟨hF.deep, ?_⟩
      refine CallsIn.mono (hF.calls k) ?_
      rintro e w' ⟨v', σ', rfl, e3, e4, e5⟩
      exact hn v H' v' σ' w' h2 e3 e4 e5
    | ext v' w' hx k =>
      refine wpIn_exec hF (stepA_nd hs) (h4.trans hx) ?_
      obtain ⟨v2, σ', e1, e3, e4, e5⟩ := k
      cases e1
      exact hn v H' v' σ' w' h2 e3 e4 e5
  obtain ⟨dst, op, type, pos, after, guard⟩ := o
  by_cases hcf : ∃ f xs, (compOp P ⟨dst, op, type, pos, after, guard⟩).map ev = .callf f xs
  · obtain ⟨f, xs, hc⟩ := hcf
    rw [hc] at hs
    simp only [stepA] at hs
    obtain ⟨v, H', h1, h2⟩ := hs
    -- the operation is a call of that function
    cases op
    case call c =>
      obtain ⟨callee, args, tys⟩ := c
      simp only [compOp] at hc
      split at hc
      · simp only [AOp.map, AOp.callf.injEq] at hc
        obtain ⟨rfl, rfl⟩ := hc
        refine call _ _ (args.map a.eval) v H' h1 h2 ?_ ?_
        · have := VL.map2 (σ := σ) ev a.eval args.toList (fun x hx => hev x (by simp [Op.operands, Call.operands]; right; simpa using hx))
          simpa using this
        · simp [execOp, resolve, Deferred.ofValue, Act.eval, invoke]
      all_goals (repeat' split at hc) <;> simp [AOp.map] at hc
    all_goals (simp only [compOp] at hc; (repeat' split at hc) <;> simp [AOp.map] at hc)
  · by_cases hcv : ∃ f xs, (compOp P ⟨dst, op, type, pos, after, guard⟩).map ev = .callv f xs
    · obtain ⟨f, xs, hc⟩ := hcv
      rw [hc] at hs
      simp only [stepA] at hs
      split at hs
      · rename_i g first cap
        obtain ⟨v, H', h1, h2⟩ := hs
        cases op
        case call c =>
          obtain ⟨callee, args, tys⟩ := c
          simp only [compOp] at hc
          split at hc
          · simp [AOp.map] at hc
          · rename_i x hx
            simp only [AOp.map, AOp.callv.injEq] at hc
            obtain ⟨hf, rfl⟩ := hc
            have hfv := hev x (by simp [Op.operands, Call.operands])
            rw [hf] at hfv
            have hargs := VL.map2 (σ := σ) ev a.eval args.toList (fun x hx => hev x (by simp [Op.operands, Call.operands]; right; simpa using hx))
            cases hfe : a.eval x with
            | func fn xs' ys' =>
              rw [hfe] at hfv
              cases hfv with
              | func _ _ _ _ _ p1 p2 p3 p4 =>
                refine call g _ (xs' ++ args.map a.eval ++ ys') v H' h1 h2 ?_ ?_
                · simp only [Array.toList_append, Array.toList_map]
                  exact ((VL.of_arr p1 p2).append hargs).append (VL.of_arr p3 p4)
                · simp [execOp, resolve, Deferred.ofValue, hfe, invoke]
            | _ => rw [hfe] at hfv; cases hfv
          all_goals (repeat' split at hc) <;> simp [AOp.map] at hc
        all_goals (simp only [compOp] at hc; (repeat' split at hc) <;> simp [AOp.map] at hc)
      · rename_i b
        obtain ⟨v, H', ⟨_, h1⟩, h2⟩ := hs
        cases op
        case call c =>
          obtain ⟨callee, args, tys⟩ := c
          simp only [compOp] at hc
          split at hc
          · simp [AOp.map] at hc
          · rename_i x hx
            simp only [AOp.map, AOp.callv.injEq] at hc
            obtain ⟨hf, rfl⟩ := hc
            have hfv := hev x (by simp [Op.operands, Call.operands])
            rw [hf] at hfv
            have hargs := VL.map2 (σ := σ) ev a.eval args.toList (fun x hx => hev x (by simp [Op.operands, Call.operands]; right; simpa using hx))
            cases hfe : a.eval x with
            | func fn xs' ys' =>
              rw [hfe] at hfv
              cases hfv with
              | @yield _ i hi =>
                obtain ⟨fn, tmps, assign, body, q1, q2⟩ := h1 σ w _ i hr hargs hi
                have hy : (execOp a.eval (⟨dst, .call ⟨.value x, args, tys⟩, type, pos, after, guard⟩ : Oper)).run P w = .ok (.round i.c fn tmps assign body) w := by
                  have ea : (List.map a.eval args.toList).toArray = args.map a.eval := by rw [← Array.toList_map, Array.toArray_toList]
                  rw [ea] at q1
                  rw [← q1]
                  simp [execOp, resolve, Deferred.ofValue, hfe, invoke]
                refine wpIn_exec hF (fun c h => by simp at h) hy ⟨hF.deep, ?_⟩
                refine RoundIn.mono (hF.rounds q2) ?_
                rintro e w' ⟨v', σ', rfl, e3, e4, e5⟩
                exact hn v H' v' σ' w' h2 e3 e4 e5
            | _ => rw [hfe] at hfv; cases hfv
          all_goals (repeat' split at hc) <;> simp [AOp.map] at hc
        all_goals (simp only [compOp] at hc; (repeat' split at hc) <;> simp [AOp.map] at hc)
      · exact hs.elim
    · by_cases hci : ∃ nm r xs, (compOp P ⟨dst, op, type, pos, after, guard⟩).map ev = .inv nm r xs
      · obtain ⟨nm, r, xs, hc⟩ := hci
        rw [hc] at hs
        simp only [stepA] at hs
        split at hs
        · rename_i t u
          split at hs
          · rename_i g hg
            obtain ⟨v, H', h1, h2⟩ := hs
            cases op
            case call c =>
              obtain ⟨callee, args, tys⟩ := c
              simp only [compOp] at hc
              split at hc
              · simp [AOp.map] at hc
              · simp [AOp.map] at hc
              · rename_i _ x name
                simp only [AOp.map, AOp.inv.injEq] at hc
                obtain ⟨rfl, hf, rfl⟩ := hc
                have hfv := hev x (by simp [Op.operands, Call.operands])
                rw [hf] at hfv
                have hargs := VL.map2 (σ := σ) ev a.eval args.toList (fun x hx => hev x (by simp [Op.operands, Call.operands]; right; simpa using hx))
                cases hfe : a.eval x with
                | iface t' u' =>
                  rw [hfe] at hfv
                  cases hfv with
                  | iface _ p =>
                    refine call g _ (#[u'] ++ args.map a.eval) v H' h1 h2 ?_ ?_
                    · simp only [Array.toList_append, Array.toList_map]
                      exact .cons p hargs
                    · have := run_callMethod hg u' (args.map a.eval) w
                      have e : (#[Value.iface t u'] ++ args.map a.eval).extract 1 (#[Value.iface t u'] ++ args.map a.eval).size = args.map a.eval := by
                        apply Array.ext
                        · simp
                        · intro i h1 h2
                          simp only [Array.getElem_extract]
                          rw [Array.getElem_append_right (by simp)]
                          simp
                      simp only [execOp, resolve, hfe, invoke, Sem.run_bind, Sem.run_pure, Result.andThen_ok]
                      have e0 : (#[Value.iface t u'] ++ args.map a.eval)[0]? = some (Value.iface t u') := by
                        rw [Array.getElem?_append_left (by simp)]
                        simp
                      rw [e, e0]
                      exact this
                | _ => rw [hfe] at hfv; cases hfv
              all_goals (repeat' split at hc) <;> simp [AOp.map] at hc
            all_goals (simp only [compOp] at hc; (repeat' split at hc) <;> simp [AOp.map] at hc)
          · exact hs.elim
        · exact hs.elim
      · have : ∃ v H', asem ((compOp P ⟨dst, op, type, pos, after, guard⟩).map ev) H = some (v, H') ∧ K v H' := by
          revert hs hcf hcv hci
          generalize (compOp P ⟨dst, op, type, pos, after, guard⟩).map ev = q
          intro h1 h2 h3 h4
          cases q <;> first
            | exact absurd ⟨_, _, rfl⟩ h2
            | exact absurd ⟨_, _, rfl⟩ h3
            | exact absurd ⟨_, _, _, rfl⟩ h4
            | exact h1
        obtain ⟨v, H', h1, h2⟩ := this
        exact plain v H' h1 h2
end Go.AM

set_option linter.unusedSimpArgs false
set_option linter.unusedVariables false
namespace Go.AM
theorem stepA_grow {P : Program} {ng : Nat} {op : AOp Value} {H : AHeap} {K : Value → AHeap → Prop} (h : stepA P ng op H K) : stepA P ng op H fun v H' => K v H' ∧ H.n ≤ H'.n := by
  cases op <;> simp only [stepA] at h ⊢
  case inv nm r xs =>
    split at h
    · split at h
      · obtain ⟨v, H', h1, h2⟩ := h; exact ⟨v, H', h1, h2, h1.2.1⟩
      · exact h.elim
    · exact h.elim
  case callf f xs => obtain ⟨v, H', h1, h2⟩ := h; exact ⟨v, H', h1, h2, h1.2.1⟩
  case callv f xs =>
    split at h
    · obtain ⟨v, H', h1, h2⟩ := h; exact ⟨v, H', h1, h2, h1.2.1⟩
    · obtain ⟨v, H', h1, h2⟩ := h; exact ⟨v, H', h1, h2, h1.1⟩
    · exact h.elim
  all_goals (obtain ⟨v, H', h1, h2⟩ := h; exact ⟨v, H', h1, h2, asem_n h1⟩)
theorem stepA_mono {P : Program} {ng : Nat} {op : AOp Value} {H : AHeap} {K K' : Value → AHeap → Prop} (hk : ∀ v H', K v H' → K' v H') (h : stepA P ng op H K) : stepA P ng op H K' := by
  cases op <;> simp only [stepA] at h ⊢
  case inv nm r xs =>
    split at h
    · split at h
      · obtain ⟨v, H', h1, h2⟩ := h; exact ⟨v, H', h1, hk _ _ h2⟩
      · exact h.elim
    · exact h.elim
  case callv f xs =>
    split at h
    · obtain ⟨v, H', h1, h2⟩ := h; exact ⟨v, H', h1, hk _ _ h2⟩
    · obtain ⟨v, H', h1, h2⟩ := h; exact ⟨v, H', h1, hk _ _ h2⟩
    · exact h.elim
  all_goals (obtain ⟨v, H', h1, h2⟩ := h; exact ⟨v, H', h1, hk _ _ h2⟩)
theorem stepA_out' {P : Program} {ng : Nat} {op : AOp Value} {H : AHeap} {K : Value → AHeap → Prop} (h : stepA P ng op H K) : ∃ v H', K v H' ∧ stepA P ng op H fun v2 H2 => v2 = v ∧ H2 = H' := by
  cases op <;> simp only [stepA] at h ⊢
  case inv nm r xs =>
    split at h
    · split at h
      · obtain ⟨v, H', h1, h2⟩ := h; exact ⟨v, H', h2, v, H', h1, rfl, rfl⟩
      · exact h.elim
    · exact h.elim
  case callv f xs =>
    split at h
    · obtain ⟨v, H', h1, h2⟩ := h; exact ⟨v, H', h2, v, H', h1, rfl, rfl⟩
    · obtain ⟨v, H', h1, h2⟩ := h; exact ⟨v, H', h2, v, H', h1, rfl, rfl⟩
    · exact h.elim
  all_goals (obtain ⟨v, H', h1, h2⟩ := h; exact ⟨v, H', h2, v, H', h1, rfl, rfl⟩)
def clsA {X : Type} : AOp X → Nat
  | .load1 _ | .loadn _ _ | .b2s _ | .slsl .. => 1
  | .new .. | .box .. | .bslice .. | .s2b .. | .mksl .. | .rng _ => 2
  | .next _ | .copy .. | .clr .. | .apps .. | .store1 .. | .storen .. | .app .. | .callf .. | .callv .. | .mark _ | .mkmap | .mget .. | .mset .. | .cap _ | .inv .. | .appz .. | .bad => 3
  | _ => 0
theorem cls_map {X Y : Type} (f : X → Y) (op : AOp X) : clsA (op.map f) = clsA op := by cases op <;> rfl
def readsA : AOp Value → List Nat
  | .load1 (.pointer (some a)) => [a.block]
  | .loadn _ (.pointer (some a)) => [a.block]
  | .b2s (.slice (some ⟨b, _, none⟩) _ _) => [b]
  | .slsl _ (.slice (some ⟨b, _, none⟩) _ _) _ _ _ => [b]
  | _ => []
structure TE where
  k : Nat
  bs : List Nat
  H : AHeap
  H' : AHeap
def keepsB : List Nat → AHeap → AHeap → Prop
  | [], _, _ => True
  | b :: l, H, H' => H'.get b = H.get b ∧ keepsB l H H'
def olderB : List Nat → AHeap → Prop
  | [], _ => True
  | b :: l, H => b < H.n ∧ olderB l H
def oblA (k : Nat) (bs : List Nat) (H H' : AHeap) (tr : List TE) : List Nat → Prop
  | [] => True
  | i :: un => (match tr[i]? with
    | some t =>
      if k = 1 ∧ t.k = 3 then olderB bs t.H ∧ keepsB bs t.H t.H'
      else if k = 3 ∧ (t.k = 1 ∨ t.k = 2) then keepsB t.bs H H'
      else True
    | none => True) ∧ oblA k bs H H' tr un
def touchA (op : AOp Value) (H : AHeap) : List Nat := if clsA op = 1 then readsA op else if clsA op = 2 then [H.n] else []
def RD (P : Program) (ng : Nat) : List (AOper × List Nat) → List Value → List Value → AHeap → List TE → (List Value → AHeap → Prop) → Prop
  | [], fr, _, H, _, K => K fr H
  | (o, un) :: r, fr, tm, H, tr, K =>
    if wantA o.g fr tm then stepA P ng (o.op.map (AX.ev fr tm)) H fun v H' =>
      oblA (clsA o.op) (touchA (o.op.map (AX.ev fr tm)) H) H H' tr un ∧
      RD P ng r (o.dst.frame v fr) (o.dst.temps v tm) H' (tr ++ [⟨clsA o.op, touchA (o.op.map (AX.ev fr tm)) H, H, H'⟩]) K
    else RD P ng r (o.dst.frame undef fr) (o.dst.temps undef tm) H (tr ++ [⟨9, [], H, H⟩]) K
def StepC (P : Program) (ng : Nat) (op : AOp Value) (H : AHeap) (v : Value) (H' : AHeap) : Prop := stepA P ng op H fun v2 H2 => v2 = v ∧ H2 = H'
theorem stepA_out {P : Program} {ng : Nat} {op : AOp Value} {H : AHeap} {K : Value → AHeap → Prop} (h : stepA P ng op H K) : ∃ v H', StepC P ng op H v H' ∧ K v H' := by
  unfold StepC
  cases op <;> simp only [stepA] at h ⊢
  case inv nm r xs =>
    split at h
    · split at h
      · obtain ⟨v, H', h1, h2⟩ := h; exact ⟨v, H', ⟨v, H', h1, rfl, rfl⟩, h2⟩
      · exact h.elim
    · exact h.elim
  case callf f xs => obtain ⟨v, H', h1, h2⟩ := h; exact ⟨v, H', ⟨v, H', h1, rfl, rfl⟩, h2⟩
  case callv f xs =>
    split at h
    · obtain ⟨v, H', h1, h2⟩ := h; exact ⟨v, H', ⟨v, H', h1, rfl, rfl⟩, h2⟩
    · obtain ⟨v, H', h1, h2⟩ := h; exact ⟨v, H', ⟨v, H', h1, rfl, rfl⟩, h2⟩
    · exact h.elim
  all_goals (obtain ⟨v, H', h1, h2⟩ := h; exact ⟨v, H', ⟨v, H', h1, rfl, rfl⟩, h2⟩)
structure Trace (P : Program) (ng : Nat) (l : List (AOper × List Nat)) (fr0 tm0 : List Value) (H0 : AHeap) (tr : List TE) (K : List Value → AHeap → Prop) where
  F : Nat → List Value
  M : Nat → List Value
  H : Nat → AHeap
  v : Nat → Value
  ent : Nat → TE
  hF : F 0 = fr0
  hM : M 0 = tm0
  hH : H 0 = H0
  stepF : ∀ j o un, l[j]? = some (o, un) → F (j + 1) = o.dst.frame (v j) (F j)
  stepM : ∀ j o un, l[j]? = some (o, un) → M (j + 1) = o.dst.temps (v j) (M j)
  yes : ∀ j o un, l[j]? = some (o, un) → wantA o.g (F j) (M j) = true → StepC P ng (o.op.map (AX.ev (F j) (M j))) (H j) (v j) (H (j + 1)) ∧
    ent j = ⟨clsA o.op, touchA (o.op.map (AX.ev (F j) (M j))) (H j), H j, H (j + 1)⟩ ∧ oblA (clsA o.op) (touchA (o.op.map (AX.ev (F j) (M j))) (H j)) (H j) (H (j + 1)) (tr ++ (List.range j).map ent) un
  no : ∀ j o un, l[j]? = some (o, un) → wantA o.g (F j) (M j) = false → v j = undef ∧ H (j + 1) = H j ∧ (ent j).k = 9
  fin : K (F l.length) (H l.length)
theorem RD_trace {P : Program} {ng : Nat} {K : List Value → AHeap → Prop} : ∀ (l : List (AOper × List Nat)) (fr tm : List Value) (H : AHeap) (tr : List TE), RD P ng l fr tm H tr K → Nonempty (Trace P ng l fr tm H tr K)
  | [], fr, tm, H, tr, h => ⟨⟨fun _ => fr, fun _ => tm, fun _ => H, fun _ => undef, fun _ => ⟨9, [], H, H⟩, rfl, rfl, rfl, by simp, by simp, by simp, by simp, h⟩⟩
  | (o, un) :: l, fr, tm, H, tr, h => by
    have build : ∀ (v0 : Value) (H1 : AHeap) (e0 : TE) (T : Trace P ng l (o.dst.frame v0 fr) (o.dst.temps v0 tm) H1 (tr ++ [e0]) K),
        (wantA o.g fr tm = true → StepC P ng (o.op.map (AX.ev fr tm)) H v0 H1 ∧ e0 = ⟨clsA o.op, touchA (o.op.map (AX.ev fr tm)) H, H, H1⟩ ∧ oblA (clsA o.op) (touchA (o.op.map (AX.ev fr tm)) H) H H1 tr un) →
        (wantA o.g fr tm = false → v0 = undef ∧ H1 = H ∧ e0.k = 9) → Nonempty (Trace P ng ((o, un) :: l) fr tm H tr K) := by
      intro v0 H1 e0 T hy hn
      refine ⟨⟨fun j => match j with | 0 => fr | j + 1 => T.F j, fun j => match j with | 0 => tm | j + 1 => T.M j, fun j => match j with | 0 => H | j + 1 => T.H j, fun j => match j with | 0 => v0 | j + 1 => T.v j,
        fun j => match j with | 0 => e0 | j + 1 => T.ent j, rfl, rfl, rfl, ?_, ?_, ?_, ?_, T.fin⟩⟩
      · intro j o' un' hj
        cases j with
        | zero => simp at hj; obtain ⟨rfl, rfl⟩ := hj; exact T.hF
        | succ j => exact T.stepF j o' un' (by simpa using hj)
      · intro j o' un' hj
        cases j with
        | zero => simp at hj; obtain ⟨rfl, rfl⟩ := hj; exact T.hM
        | succ j => exact T.stepM j o' un' (by simpa using hj)
      · intro j o' un' hj hw
        cases j with
        | zero =>
          simp at hj; obtain ⟨rfl, rfl⟩ := hj
          obtain ⟨a, b, c⟩ := hy hw
          refine ⟨by show StepC P ng _ H v0 (T.H 0); rw [T.hH]; exact a, by show e0 = ⟨_, _, H, T.H 0⟩; rw [T.hH]; exact b, ?_⟩
          show oblA _ _ H (T.H 0) _ un
          rw [T.hH]; simpa using c
        | succ j =>
          obtain ⟨a, b, c⟩ := T.yes j o' un' (by simpa using hj) hw
          refine ⟨a, b, ?_⟩
          have e : tr ++ (List.range (j + 1)).map (fun j => match j with | 0 => e0 | j + 1 => T.ent j) = tr ++ [e0] ++ (List.range j).map T.ent := by
            rw [List.range_succ_eq_map, List.map_cons, List.map_map, List.append_assoc]
            rfl
          rw [e]; exact c
      · intro j o' un' hj hw
        cases j with
        | zero =>
          simp at hj; obtain ⟨rfl, rfl⟩ := hj
          obtain ⟨a, b, c⟩ := hn hw
          exact ⟨a, by show T.H 0 = H; rw [T.hH]; exact b, c⟩
        | succ j => exact T.no j o' un' (by simpa using hj) hw
    simp only [RD] at h
    split at h
    · rename_i hw
      obtain ⟨v, H', h1, h2, h3⟩ := stepA_out h
      obtain ⟨T⟩ := RD_trace l _ _ H' _ h3
      exact build v H' _ T (fun _ => ⟨h1, rfl, h2⟩) (fun e => by rw [hw] at e; cases e)
    · rename_i hw
      obtain ⟨T⟩ := RD_trace l _ _ H _ h
      exact build undef H _ T (fun e => absurd e hw) (fun _ => ⟨rfl, rfl, rfl⟩)
end Go.AM

set_option linter.unusedSimpArgs false
set_option linter.unusedVariables false
namespace Go.AM
def ancStep (acc : List Nat) (o : Oper) : Nat := o.after.toList.foldl (fun s e => if Region.binds .any e then s ||| 2 ^ e.on ||| acc.getD e.on 0 else s) 0
def ancGo : List Oper → List Nat → List Nat
  | [], acc => acc
  | o :: r, acc => ancGo r (acc ++ [ancStep acc o])
def anc (ops : Array Oper) : List Nat := ancGo ops.toList []
def ordB (A : List Nat) (i j : Nat) : Bool := (A.getD j 0).testBit i
def Closed (ops : Array Oper) (S : Nat → Bool) : Prop := ∀ (j : Nat) (o : Oper), ops[j]? = some o → S j = true → ∀ e ∈ o.after, Region.binds .any e = true → S e.on = true
theorem ancStep_bit (acc : List Nat) (o : Oper) (i : Nat) (h : (ancStep acc o).testBit i = true) : ∃ e ∈ o.after, Region.binds .any e = true ∧ (i = e.on ∨ (acc.getD e.on 0).testBit i = true) := by
  unfold ancStep at h
  have gen : ∀ (l : List Edge) (s : Nat), (l.foldl (fun s e => if Region.binds .any e then s ||| 2 ^ e.on ||| acc.getD e.on 0 else s) s).testBit i = true →
      s.testBit i = true ∨ ∃ e ∈ l, Region.binds .any e = true ∧ (i = e.on ∨ (acc.getD e.on 0).testBit i = true) := by
    intro l
    induction l with
    | nil => intro s h; exact .inl h
    | cons e l ih =>
      intro s h
      simp only [List.foldl_cons] at h
      rcases ih _ h with h | ⟨e', h1, h2⟩
      · split at h
        · rename_i hb
          simp only [Nat.testBit_or, Bool.or_eq_true] at h
          rcases h with (h | h) | h
          · exact .inl h
          · right
            refine ⟨e, by simp, hb, .inl ?_⟩
            rw [Nat.testBit_two_pow] at h
            exact (of_decide_eq_true h).symm
          · exact .inr ⟨e, by simp, hb, .inr h⟩
        · exact .inl h
      · exact .inr ⟨e', by simp [h1], h2⟩
  rcases gen _ _ h with h | ⟨e, h1, h2⟩
  · simp at h
  · exact ⟨e, by simpa using h1, h2⟩
theorem ancGo_spec {ops : Array Oper} {S : Nat → Bool} (hS : Closed ops S) : ∀ (l : List Oper) (acc : List Nat), (∀ m, l[m]? = ops[acc.length + m]?) →
    (∀ j i, (acc.getD j 0).testBit i = true → S j = true → S i = true) → ∀ j i, ((ancGo l acc).getD j 0).testBit i = true → S j = true → S i = true
  | [], acc, _, hp, j, i, h, hj => hp j i h hj
  | o :: l, acc, hl, hp, j, i, h, hj => by
    refine ancGo_spec hS l (acc ++ [ancStep acc o]) (fun m => ?_) ?_ j i h hj
    · have := hl (m + 1)
      simpa [Nat.add_assoc, Nat.add_comm 1 m] using this
    · intro j i h hj
      by_cases hlt : j < acc.length
      · have e1 : (acc ++ [ancStep acc o]).getD j 0 = acc.getD j 0 := by simp [List.getD, List.getElem?_append_left hlt]
        rw [e1] at h
        exact hp j i h hj
      · by_cases he : j = acc.length
        · subst he
          simp only [List.getD, List.getElem?_append_right (Nat.le_refl _), Nat.sub_self, List.getElem?_cons_zero, Option.getD_some] at h
          obtain ⟨e, e1, e2, e3⟩ := ancStep_bit acc o i h
          have ho : ops[acc.length]? = some o := by simpa using (hl 0).symm
          have hse := hS _ o ho hj e e1 e2
          rcases e3 with rfl | e3
          · exact hse
          · exact hp e.on i e3 hse
        · simp only [List.getD] at h
          rw [List.getElem?_eq_none (by simp; omega)] at h
          simp at h
theorem anc_spec {ops : Array Oper} {S : Nat → Bool} (hS : Closed ops S) {i j : Nat} (h : ordB (anc ops) i j = true) (hj : S j = true) : S i = true :=
  ancGo_spec hS ops.toList [] (by simp) (fun j i h => by simp at h) j i h hj
def wr (ops : Array Oper) (t : Nat) : Option Nat := (List.range ops.size).find? fun i => (ops[i]?).bind (·.dst) == some t
def clsO (P : Program) (ops : Array Oper) (j : Nat) : Nat := ((ops[j]?).map fun o => clsA (compOp P o)).getD 0
def drawOK (P : Program) (ops : Array Oper) (uns : List (List Nat)) : Bool :=
  let A := anc ops
  let n := ops.size
  P.follows .mixedOrders && uns.length == n &&
  ((List.range n).all fun j => match ops[j]? with
    | none => true
    | some o =>
      (match o.dst with | some t => wr ops t == some j | none => true) &&
      ((o.looksAt ops).all fun t => match wr ops t with
        | some i => i == j || (if i < j then ordB A i j else ordB A j i)
        | none => true) &&
      (o.after.toList.all fun e => !Region.binds .any e || e.on < j) &&
      ((List.range j).all fun i =>
        (if clsO P ops i == 3 && clsO P ops j == 3 then ordB A i j else true) &&
        (if (clsO P ops i == 3 && clsO P ops j == 1) || ((clsO P ops i == 1 || clsO P ops i == 2) && clsO P ops j == 3) then ordB A i j || (uns.getD j []).contains i else true)))
structure Look (P : Program) (ops : Array Oper) (uns : List (List Nat)) : Prop where
  mix : P.follows .mixedOrders = true
  len : uns.length = ops.size
  dst : ∀ (j : Nat) (o : Oper) (t : Nat), ops[j]? = some o → o.dst = some t → wr ops t = some j
  looks : ∀ (j : Nat) (o : Oper) (t i : Nat), ops[j]? = some o → t ∈ o.looksAt ops → wr ops t = some i → i ≠ j → (i < j → ordB (anc ops) i j = true) ∧ (j < i → ordB (anc ops) j i = true)
  edge : ∀ (j : Nat) (o : Oper) (e : Edge), ops[j]? = some o → e ∈ o.after → Region.binds .any e = true → e.on < j
  eff : ∀ (i j : Nat), i < j → j < ops.size → clsO P ops i = 3 → clsO P ops j = 3 → ordB (anc ops) i j = true
  un : ∀ (i j : Nat), i < j → j < ops.size → ((clsO P ops i = 3 ∧ clsO P ops j = 1) ∨ ((clsO P ops i = 1 ∨ clsO P ops i = 2) ∧ clsO P ops j = 3)) → ordB (anc ops) i j = true ∨ i ∈ uns.getD j []
theorem drawOK_spec {P : Program} {ops : Array Oper} {uns : List (List Nat)} (h : drawOK P ops uns = true) : Look P ops uns := by
  simp only [drawOK, Bool.and_eq_true, List.all_eq_true, List.mem_range, beq_iff_eq] at h
  obtain ⟨⟨h1, h2⟩, h3⟩ := h
  have row : ∀ (j : Nat) (o : Oper), ops[j]? = some o → _ := fun j o ho => by
    have hlt : j < ops.size := (Array.getElem?_eq_some_iff.1 ho).1
    have := h3 j hlt
    rw [ho] at this
    simp only [Bool.and_eq_true, List.all_eq_true, List.mem_range] at this
    exact this
  refine ⟨h1, h2, ?_, ?_, ?_, ?_, ?_⟩
  · intro j o t ho ht
    have := (row j o ho).1.1.1
    rw [ht] at this
    simpa using this
  · intro j o t i ho ht hw hne
    have := (row j o ho).1.1.2 t ht
    rw [hw] at this
    simp only [Bool.or_eq_true, beq_iff_eq] at this
    rcases this with h | h
    · exact absurd h hne
    · refine ⟨fun hl => by rw [if_pos hl] at h; exact h, fun hl => by rw [if_neg (by omega)] at h; exact h⟩
  · intro j o e ho he hb
    have := (row j o ho).1.2 e (by simpa using he)
    simp only [hb, Bool.not_true, Bool.false_or, decide_eq_true_eq] at this
    exact this
  · intro i j hij hj hi3 hj3
    obtain ⟨o, ho⟩ : ∃ o, ops[j]? = some o := ⟨ops[j], Array.getElem?_eq_getElem hj⟩
    have := ((row j o ho).2 i hij).1
    simp only [hi3, hj3, beq_self_eq_true, Bool.and_self, if_true] at this
    exact this
  · intro i j hij hj hc
    obtain ⟨o, ho⟩ : ∃ o, ops[j]? = some o := ⟨ops[j], Array.getElem?_eq_getElem hj⟩
    have := ((row j o ho).2 i hij).2
    rw [if_pos (by rcases hc with ⟨a, b⟩ | ⟨a | a, b⟩ <;> simp [a, b])] at this
    simp only [Bool.or_eq_true, List.contains_iff_mem] at this
    exact this
section
variable {P : Program} {ng N : Nat} {sl : List Nat} {ops : Array Oper} {uns : List (List Nat)} {fr0 : List Value} {H0 : AHeap} {al : List AOper} {K : List Value → AHeap → Prop}
def E0 (sl : List Nat) (fr0 : List Value) (t : Nat) : Option Value := (posOf sl t).bind (fr0[·]?)
def Ev (ops : Array Oper) (sl : List Nat) (fr0 : List Value) (v : Nat → Value) (j t : Nat) : Option Value := match wr ops t with
  | some i => if i < j then some (v i) else E0 sl fr0 t
  | none => E0 sl fr0 t
theorem posOf_some : ∀ {l : List Nat} {t i : Nat}, l.Nodup → l[i]? = some t → posOf l t = some i
  | [], t, i, _, h => by simp at h
  | x :: l, t, i, hn, h => by
    rw [List.nodup_cons] at hn
    cases i with
    | zero => simp at h; simp [posOf, h]
    | succ i =>
      simp at h
      have hne : ¬ x = t := fun e => by subst e; exact hn.1 (List.mem_of_getElem? h)
      simp [posOf, hne, posOf_some hn.2 h]
structure Good (ops : Array Oper) (sl : List Nat) (fr0 : List Value) (v : Nat → Value) (j : Nat) (tl : List Nat) (F M : List Value) : Prop where
  frl : F.length = sl.length
  tml : M.length = tl.length
  fr : ∀ (i s : Nat), sl[i]? = some s → F[i]? = Ev ops sl fr0 v j s
  tm : ∀ (i s : Nat), tl[i]? = some s → M[i]? = Ev ops sl fr0 v j s
  dis : ∀ t ∈ tl, t ∉ sl
theorem Good.step (hnd : sl.Nodup) (hlk : Look P ops uns) {v : Nat → Value} {j : Nat} {tl tl' : List Nat} {F M : List Value} (g : Good ops sl fr0 v j tl F M) {o : Oper} (ho : ops[j]? = some o) {d : D} (hd : compD N sl tl o.dst = some (d, tl')) :
    Good ops sl fr0 v (j + 1) tl' (d.frame (v j) F) (d.temps (v j) M) := by
  have ne : ∀ s, (∀ t, o.dst = some t → s ≠ t) → Ev ops sl fr0 v (j + 1) s = Ev ops sl fr0 v j s := by
    intro s hs
    unfold Ev
    cases hw : wr ops s with
    | none => rfl
    | some i =>
      have hij : i ≠ j := by
        intro e
        subst e
        have := List.find?_some hw
        rw [ho] at this
        simp only [Option.bind_some, beq_iff_eq] at this
        exact hs s this rfl
      by_cases h : i < j
      · simp only [h, show i < j + 1 by omega, if_true]
      · simp only [h, show ¬ i < j + 1 by omega, if_false]
  have at_ : ∀ t, o.dst = some t → Ev ops sl fr0 v (j + 1) t = some (v j) := by
    intro t ht
    unfold Ev
    rw [hlk.dst j o t ho ht]
    simp
  cases hdst : o.dst with
  | none =>
    rw [hdst] at hd
    simp only [compD, Option.some.injEq, Prod.mk.injEq] at hd
    obtain ⟨rfl, rfl⟩ := hd
    exact ⟨g.frl, g.tml, fun i s h => by rw [ne s (fun t ht => by rw [hdst] at ht; cases ht)]; exact g.fr i s h, fun i s h => by rw [ne s (fun t ht => by rw [hdst] at ht; cases ht)]; exact g.tm i s h, g.dis⟩
  | some t =>
    have hat := at_ t hdst
    have hne : ∀ s, s ≠ t → Ev ops sl fr0 v (j + 1) s = Ev ops sl fr0 v j s := fun s hs => ne s (fun u hu => by rw [hdst] at hu; cases hu; exact hs)
    rw [hdst] at hd
    simp only [compD] at hd
    split at hd
    · rename_i i hi
      split at hd
      · simp only [Option.some.injEq, Prod.mk.injEq] at hd
        obtain ⟨rfl, rfl⟩ := hd
        have hti := posOf_get hi
        refine ⟨by simp [D.frame, g.frl], g.tml, ?_, ?_, g.dis⟩
        · intro k s hk
          simp only [D.frame, List.getElem?_set]
          by_cases hik : i = k
          · subst hik
            rw [hti] at hk; cases hk
            rw [if_pos rfl, if_pos (by rw [g.frl]; exact (List.getElem?_eq_some_iff.1 hti).1), hat]
          · rw [if_neg hik]
            have hst : s ≠ t := fun e => by
              subst e
              have h1 := posOf_some hnd hk
              rw [hi] at h1; cases h1
              exact hik rfl
            rw [hne s hst]; exact g.fr k s hk
        · intro k s hk
          have hst : s ≠ t := fun e => by
            subst e
            exact g.dis s (List.mem_of_getElem? hk) (List.mem_of_getElem? hti)
          rw [hne s hst]; exact g.tm k s hk
      · cases hd
    · rename_i hi
      split at hd
      · cases hd
      · rename_i hj0
        split at hd
        · simp only [Option.some.injEq, Prod.mk.injEq] at hd
          obtain ⟨rfl, rfl⟩ := hd
          have h1 := posOf_none hi
          have h2 := posOf_none hj0
          refine ⟨g.frl, by simp [D.temps, g.tml], ?_, ?_, ?_⟩
          · intro k s hk
            rw [hne s (fun e => h1 (by rw [← e]; exact List.mem_of_getElem? hk))]; exact g.fr k s hk
          · intro k s hk
            cases k with
            | zero => simp at hk; subst hk; simp [D.temps, hat]
            | succ k =>
              simp at hk
              rw [hne s (fun e => h2 (by rw [← e]; exact List.mem_of_getElem? hk))]
              simpa [D.temps] using g.tm k s hk
          · intro s hs
            simp only [List.mem_cons] at hs
            rcases hs with rfl | hs
            · exact h1
            · exact g.dis s hs
        · cases hd
structure Row (P : Program) (ng N : Nat) (sl : List Nat) (ops : Array Oper) (fr0 : List Value) (v : Nat → Value) (F M : Nat → List Value) (j : Nat) (o : Oper) (ao : AOper) : Prop where
  ex : ∃ tl tl', Good ops sl fr0 v j tl (F j) (M j) ∧ (∀ x ∈ o.op.operands, (compX ng sl tl x).isSome = true) ∧ compG ng sl tl ops o.guard = some ao.g ∧ compD N sl tl o.dst = some (ao.dst, tl') ∧
    ao.op = (compOp P o).map (fun x => (compX ng sl tl x).getD (.c undef))
theorem rows_of (hnd : sl.Nodup) (hlk : Look P ops uns) {v : Nat → Value} {F M : Nat → List Value} (alf : List AOper) (hF : ∀ j ao, alf[j]? = some ao → F (j + 1) = ao.dst.frame (v j) (F j)) (hM : ∀ j ao, alf[j]? = some ao → M (j + 1) = ao.dst.temps (v j) (M j)) :
    ∀ (l : List Oper) (tl : List Nat) (al : List AOper) (j : Nat), (∀ k, l[k]? = ops[j + k]?) → (∀ k, al[k]? = alf[j + k]?) → compR P ng N sl ops l tl = some al → Good ops sl fr0 v j tl (F j) (M j) →
      (∀ (k : Nat) (o : Oper), l[k]? = some o → ∃ ao, alf[j + k]? = some ao ∧ Row P ng N sl ops fr0 v F M (j + k) o ao) ∧ ∃ tl', Good ops sl fr0 v (j + l.length) tl' (F (j + l.length)) (M (j + l.length)) ∧ al.length = l.length
  | [], tl, al, j, hl, hal, hc, g => by
    simp only [compR, Option.some.injEq] at hc
    subst hc
    exact ⟨by simp, tl, by simpa using g, rfl⟩
  | o :: l, tl, al, j, hl, hal, hc, g => by
    simp only [compR] at hc
    split at hc
    · rename_i hall
      split at hc
      · rename_i gd d tl' hg hd
        simp only [Option.map_eq_some_iff] at hc
        obtain ⟨al', hal', rfl⟩ := hc
        have ho : ops[j]? = some o := by simpa using (hl 0).symm
        have hao : alf[j]? = some { op := (compOp P o).map fun x => (compX ng sl tl x).getD (.c undef), dst := d, g := gd } := by simpa using (hal 0).symm
        have g' := g.step hnd hlk ho hd
        have e1 := hF j _ hao
        have e2 := hM j _ hao
        simp only at e1 e2
        rw [← e1, ← e2] at g'
        obtain ⟨r1, tl2, r2, r3⟩ := rows_of hnd hlk alf hF hM l tl' al' (j + 1) (fun k => by have := hl (k + 1); simpa [Nat.add_assoc, Nat.add_comm 1 k] using this)
          (fun k => by have := hal (k + 1); simpa [Nat.add_assoc, Nat.add_comm 1 k] using this) hal' g'
        refine ⟨?_, tl2, by simpa [Nat.add_assoc, Nat.add_comm 1 l.length] using r2, by simp [r3]⟩
        intro k o' hk
        cases k with
        | zero =>
          simp at hk; subst hk
          exact ⟨_, hao, ⟨tl, tl', g, fun x hx => List.all_eq_true.1 hall x (by simpa using hx), hg, hd, rfl⟩⟩
        | succ k =>
          obtain ⟨ao, a1, a2⟩ := r1 k o' (by simpa using hk)
          exact ⟨ao, by rw [← a1]; congr 1; omega, by rw [show j + (k + 1) = j + 1 + k by omega]; exact a2⟩
      · cases hc
    · cases hc
end
end Go.AM

set_option linter.unusedSimpArgs false
set_option linter.unusedVariables false
namespace Go.AM
def cut (σ : Sg) (m : Nat) : Sg := fun b => if b < m then σ b else none
theorem cut_le (σ : Sg) (m : Nat) : (cut σ m).le σ := fun b i h => by unfold cut at h; split at h; exact h; cases h
theorem cut_mono (σ : Sg) {m m' : Nat} (h : m ≤ m') : (cut σ m).le (cut σ m') := fun b i hb => by
  unfold cut at hb ⊢
  split at hb
  · rw [if_pos (by omega)]; exact hb
  · cases hb
theorem cut_cut_le {σ σ' : Sg} (h : σ.le σ') (m : Nat) : (cut σ m).le (cut σ' m) := fun b i hb => by
  unfold cut at hb ⊢
  split at hb
  · rename_i hl; rw [if_pos hl]; exact h b i hb
  · cases hb
theorem cut_of {σ : Sg} {m b : Nat} {i : BI} (h : σ b = some i) (hb : b < m) : cut σ m b = some i := by unfold cut; rw [if_pos hb]; exact h
theorem cut_inv {σ : Sg} {m b : Nat} {i : BI} (h : cut σ m b = some i) : b < m ∧ σ b = some i := by
  unfold cut at h
  split at h
  · rename_i hb; exact ⟨hb, h⟩
  · cases h
structure Ext0 (σ : Sg) (G : Gf) (w : World) (σ' : Sg) (G' : Gf) (w' : World) : Prop where
  sub : σ.le σ'
  new : ∀ b i, σ b = none → σ' b = some i → (w.heap.size ≤ i.c ∨ ∃ b0 i0 o0, σ b0 = some i0 ∧ G b0 = some o0 ∧ o0.own = true ∧ i0.c = i.c)
  own : ∀ b i o', σ b = some i → G' b = some o' → o'.own = true → ∃ o, G b = some o ∧ o.own = true
  live : ∀ b i o', σ b = some i → G' b = some o' → o'.live = true → ∃ o, G b = some o ∧ o.live = true
  keep : ∀ k, k < w.heap.size → (∀ b i o, σ b = some i → G b = some o → o.own = true → i.c ≠ k) → w'.heap[k]? = w.heap[k]?
  size : w.heap.size ≤ w'.heap.size
  os : w'.os = w.os
  tape : w'.tape = w.tape
  output : w'.output = w.output
theorem Ext0.trans {σ σ1 σ2 : Sg} {G G1 G2 : Gf} {w w1 w2 : World} (h : Ext0 σ G w σ1 G1 w1) (k : Ext0 σ1 G1 w1 σ2 G2 w2) : Ext0 σ G w σ2 G2 w2 := by
  refine ⟨h.sub.trans k.sub, ?_, ?_, ?_, ?_, Nat.le_trans h.size k.size, k.os.trans h.os, k.tape.trans h.tape, k.output.trans h.output⟩
  · intro b i hb hb2
    cases h1 : σ1 b with
    | some j =>
      have := k.sub b j h1
      rw [hb2] at this
      cases this
      exact h.new b i hb h1
    | none =>
      rcases k.new b i h1 hb2 with a3 | ⟨b0, i0, o0, e1, e2, e3, e4⟩
      · exact .inl (Nat.le_trans h.size a3)
      · cases h0 : σ b0 with
        | some j =>
          have := h.sub b0 j h0
          rw [e1] at this
          cases this
          obtain ⟨o, f1, f2⟩ := h.own b0 _ o0 h0 e2 e3
          exact .inr ⟨b0, i0, o, h0, f1, f2, e4⟩
        | none =>
          have a4 := h.new b0 i0 h0 e1
          rw [← e4]
          exact a4
  · intro b i o' hb h2 ho
    obtain ⟨o, f1, f2⟩ := k.own b i o' (h.sub b i hb) h2 ho
    exact h.own b i o hb f1 f2
  · intro b i o' hb h2 ho
    obtain ⟨o, f1, f2⟩ := k.live b i o' (h.sub b i hb) h2 ho
    exact h.live b i o hb f1 f2
  · intro x hx hn
    rw [k.keep x (Nat.lt_of_lt_of_le hx h.size) ?_, h.keep x hx hn]
    intro b i o hb ho hown
    cases h0 : σ b with
    | some j =>
      have := h.sub b j h0
      rw [hb] at this
      cases this
      obtain ⟨o1, f1, f2⟩ := h.own b _ o h0 ho hown
      exact hn b i o1 h0 f1 f2
    | none =>
      rcases h.new b i h0 hb with a4 | ⟨b0, i0, o0, e1, e2, e3, e4⟩
      · omega
      · rw [← e4]; exact hn b0 i0 o0 e1 e2 e3
def ofFn (n : Nat) (G : Gf) : AHeap := ⟨n, (List.range n).reverse.map fun b => (G b).getD .dead⟩
theorem ofFn_get (n : Nat) (G : Gf) {b : Nat} (h : b < n) : (ofFn n G).get b = some ((G b).getD .dead) := by
  unfold ofFn AHeap.get
  simp only [h, if_true, List.getElem?_map]
  rw [List.getElem?_reverse (by simp; omega)]
  simp only [List.length_range]
  rw [show n - 1 - (n - 1 - b) = b by omega, List.getElem?_range h]
  rfl
def roO : AO → AO
  | .dead => .dead
  | .cells _ room esz c e => .cells false room esz c e
  | .obj _ o => .obj false o
  | .loop _ st pe L => .loop false st pe L
theorem roO_own (o : AO) : (roO o).own = false := by cases o <;> rfl
theorem OR.ro {σ : Sg} {w : World} {i : BI} {o : AO} (h : OR σ w i o) : OR σ w i (roO o) := by
  cases o with
  | dead => trivial
  | obj own o => exact h
  | loop own st pe L => exact h
  | cells own room esz c e =>
    obtain ⟨a1, a2, a3, a4, a9, c', fr, a5, a6, a7, a8⟩ := h
    exact ⟨a1, a2, a3, a4, a9, c', fr, a5, a6, a7, fun h => by cases h⟩
def roH (n : Nat) (G : Gf) : AHeap := ofFn n fun b => (G b).map roO
theorem roH_get (n : Nat) (G : Gf) {b : Nat} (h : b < n) : (roH n G).get b = some (((G b).map roO).getD .dead) := ofFn_get n _ h
theorem roH_own {n : Nat} {G : Gf} {b : Nat} {o : AO} (h : (roH n G).get b = some o) : o.own = false := by
  have hb := AHeap.get_lt h
  have : b < n := hb
  rw [roH_get n G this] at h
  cases h
  cases hG : G b with
  | none => rfl
  | some o => exact roO_own o
theorem asem_ro {op : AOp Value} (hk : clsA op = 0 ∨ clsA op = 1) {H : AHeap} {v : Value} {H' : AHeap} (h : asem op H = some (v, H')) :
    H' = H ∧ (∀ b ∈ readsA op, ∃ o, H.get b = some o) ∧ ∀ H2 : AHeap, (∀ b ∈ readsA op, H2.get b = (H.get b).map roO) → asem op H2 = some (v, H2) := by
  cases op
  case load1 x =>
    simp only [asem] at h
    split at h
    · rename_i b o
      simp only [Option.map_eq_some_iff, Prod.mk.injEq] at h
      obtain ⟨u, hu, rfl, rfl⟩ := h
      simp only [cellA] at hu
      split at hu
      · rename_i own room esz c e hG
        refine ⟨rfl, by simp [readsA, hG], fun H2 h2 => ?_⟩
        have := h2 b (by simp [readsA])
        simp [asem, cellA, this, hG, roO, hu]
      · cases hu
    · cases h
  case loadn n x =>
    simp only [asem] at h
    split at h
    · rename_i b o
      simp only [Option.map_eq_some_iff, Prod.mk.injEq] at h
      obtain ⟨u, hu, rfl, rfl⟩ := h
      simp only [rangeA] at hu
      split at hu
      · rename_i own room esz c e hG
        refine ⟨rfl, by simp [readsA, hG], fun H2 h2 => ?_⟩
        have := h2 b (by simp [readsA])
        simp only [asem, rangeA, this, hG, roO, Option.map_some, hu]
      · cases hu
    · cases h
  case b2s x =>
    simp only [asem] at h
    split at h
    · rename_i c hel
      split at h
      · rename_i l hb
        simp only [Option.some.injEq, Prod.mk.injEq] at h
        obtain ⟨rfl, rfl⟩ := h
        refine ⟨rfl, ?_, ?_⟩
        · unfold elemsA at hel
          split at hel
          · simp [readsA]
          · split at hel
            · rename_i hG; simp [readsA, hG]
            · cases hel
          · simp [readsA]
          · cases hel
        · intro H2 h2
          have : elemsA H2 1 x = some c := by
            unfold elemsA at hel ⊢
            split at hel
            · exact hel
            · rename_i b o n k
              have := h2 b (by simp [readsA])
              split at hel
              · rename_i hG; simp only [this, hG, Option.map_some, roO]; exact hel
              · cases hel
            · exact hel
            · cases hel
          simp only [asem, this, hb]
      · cases h
    · cases h
  case slsl esz x lo hi mx =>
    simp only [asem] at h
    split at h
    case h_2 => cases h
    rename_i base n k
    split at h
    case h_2 => cases h
    rename_i m hm
    split at h
    case h_2 => cases h
    rename_i hh h1
    split at h
    case h_2 => cases h
    rename_i l h2
    split at h
    · simp only [Option.some.injEq, Prod.mk.injEq] at h
      obtain ⟨rfl, rfl⟩ := h
      exact ⟨rfl, by simp [readsA], fun H2 _ => by simp only [asem, hm, h1, h2]⟩
    · rename_i b o
      split at h
      · rename_i own room esz' c e hG
        split at h
        · rename_i hes
          simp only [Option.some.injEq, Prod.mk.injEq] at h
          obtain ⟨rfl, rfl⟩ := h
          refine ⟨rfl, by simp [readsA, hG], fun H2 h3 => ?_⟩
          have := h3 b (by simp [readsA])
          simp only [asem, hm, h1, h2, this, hG, Option.map_some, roO, hes, if_true]
        · cases h
      · cases h
    · split at h
      · rename_i hc
        simp only [Option.some.injEq, Prod.mk.injEq] at h
        obtain ⟨rfl, rfl⟩ := h
        refine ⟨rfl, by simp [readsA], fun H2 h3 => ?_⟩
        simp only [asem, hm, h1, h2]
        rw [if_pos hc]
      · cases h
  case eqv k neg x y =>
    simp only [asem, Option.map_eq_some_iff, Prod.mk.injEq] at h
    obtain ⟨u, hu, rfl, rfl⟩ := h
    exact ⟨rfl, by simp [readsA], fun H2 _ => by simp only [asem, hu, Option.map_some]⟩
  case eqs cs neg x y =>
    simp only [asem] at h
    split at h
    · simp only [Option.map_eq_some_iff, Prod.mk.injEq] at h
      obtain ⟨u, hu, rfl, rfl⟩ := h
      exact ⟨rfl, by simp [readsA], fun H2 _ => by simp only [asem, hu, Option.map_some]⟩
    · cases h
  case mm mx x y =>
    simp only [asem] at h
    split at h
    · split at h
      · rename_i hk
        cases h
        exact ⟨rfl, by simp [readsA], fun H2 _ => by simp only [asem]; rw [if_pos hk]⟩
      · cases h
    · cases h
  case idxa agg esz n x i =>
    simp only [asem] at h
    split at h
    · rename_i cs k i
      split at h
      · rename_i hc
        cases agg
        · simp only [Bool.false_eq_true, if_false, Option.map_eq_some_iff, Prod.mk.injEq] at h
          obtain ⟨u, hu, rfl, rfl⟩ := h
          refine ⟨rfl, by simp [readsA], fun H2 _ => ?_⟩
          simp only [asem]
          rw [if_pos hc]
          simp only [Bool.false_eq_true, if_false, hu, Option.map_some]
        · simp only [if_true] at h
          split at h
          · rename_i hle
            cases h
            refine ⟨rfl, by simp [readsA], fun H2 _ => ?_⟩
            simp only [asem]
            rw [if_pos hc]
            simp only [if_true]
            rw [if_pos hle]
          · cases h
      · cases h
    · cases h
  all_goals first
    | (exfalso; simp [clsA] at hk; done)
    | skip
  all_goals (refine ⟨?_, by simp [readsA], fun H2 _ => ?_⟩)
  all_goals simp only [asem, Option.map_eq_some_iff, Prod.mk.injEq] at h ⊢
  all_goals (repeat' split at h)
  all_goals first
    | (cases h; done)
    | (obtain ⟨_, _, _, rfl⟩ := h; rfl)
    | (simp only [Option.some.injEq, Prod.mk.injEq] at h; obtain ⟨_, rfl⟩ := h; rfl)
    | (simp only [Option.map_eq_some_iff, Prod.mk.injEq] at h; obtain ⟨_, _, _, rfl⟩ := h; rfl)
    | (obtain ⟨u, hu, rfl, rfl⟩ := h; exact ⟨u, hu, rfl, rfl⟩)
    | (obtain ⟨u, hu, hv, _⟩ := h; exact ⟨u, hu, hv, trivial⟩)
    | (simp only [Option.map_eq_some_iff, Prod.mk.injEq] at h ⊢; obtain ⟨u, hu, hv, _⟩ := h; first | exact ⟨u, hu, hv, trivial⟩ | exact ⟨u, hu, hv, rfl⟩)
    | (rename_i hh; obtain ⟨rfl, rfl, rfl⟩ := hh; simp only [and_self, if_true, Option.some.injEq, Prod.mk.injEq] at h ⊢; exact ⟨h.1, trivial⟩)
    | (simp_all; done)
theorem asem_new {op : AOp Value} (hk : clsA op = 2) {H : AHeap} {v : Value} {H' : AHeap} (h : asem op H = some (v, H')) :
    ∃ (o : AO) (mk : Nat → Value), H' = H.alloc o ∧ v = mk H.n ∧ (∀ H2 : AHeap, asem op H2 = some (mk H2.n, H2.alloc o)) ∧ ((mk = fun b => ptr b 0) ∨ ∃ n k, mk = fun b => slc b 0 n k) ∧ o.live = true := by
  cases op
  case new e esz z =>
    simp only [asem] at h
    split at h
    · rename_i hc; cases h; exact ⟨_, fun b => ptr b 0, rfl, rfl, fun H2 => by simp only [asem]; rw [if_pos hc], .inl rfl, rfl⟩
    · cases h
  case box e esz x =>
    simp only [asem] at h
    split at h
    · rename_i hc; cases h; exact ⟨_, fun b => ptr b 0, rfl, rfl, fun H2 => by simp only [asem]; rw [if_pos hc], .inl rfl, rfl⟩
    · cases h
  case bslice e esz n z ps =>
    simp only [asem] at h
    split at h
    · rename_i c hf
      split at h
      · rename_i hc; cases h; exact ⟨_, fun b => slc b 0 n n, rfl, rfl, fun H2 => by simp only [asem, hf]; rw [if_pos hc], .inr ⟨n, n, rfl⟩, rfl⟩
      · cases h
    · cases h
  case s2b e x =>
    simp only [asem] at h
    split at h
    · rename_i s; cases h; exact ⟨_, fun b => slc b 0 s.size s.size, rfl, rfl, fun H2 => by simp only [asem], .inr ⟨_, _, rfl⟩, rfl⟩
    · cases h
  case mksl e esz bytes z l c =>
    simp only [asem] at h
    split at h
    · rename_i l c
      split at h
      · rename_i hc; cases h; exact ⟨_, fun b => slc b 0 l.toNat c.toNat, rfl, rfl, fun H2 => by simp only [asem]; rw [if_pos hc], .inr ⟨_, _, rfl⟩, rfl⟩
      · cases h
    · cases h
  case rng x =>
    simp only [asem] at h
    split at h
    · rename_i s; cases h; exact ⟨_, fun b => ptr b 0, rfl, rfl, fun H2 => by simp only [asem], .inl rfl, rfl⟩
    · cases h
  all_goals (simp [clsA] at hk)
def meet (σ σ2 : Sg) : Sg := fun b => if (σ2 b).isSome then σ b else none
theorem VR.meet {σ σ2 : Sg} {v v1 : Value} (h : VR σ v v1) : ∀ {v2 : Value}, VR σ2 v v2 → VR (meet σ σ2) v v1 := by
  have key : ∀ {b : Nat} {i i2 : BI}, σ b = some i → σ2 b = some i2 → AM.meet σ σ2 b = some i := by
    intro b i i2 h1 h2
    simp [AM.meet, h1, h2]
  induction h with
  | bool b => intro v2 k; exact .bool b
  | int k n => intro v2 k; exact .int _ n
  | string s => intro v2 k; exact .string s
  | nilPtr => intro v2 k; exact .nilPtr
  | ptr e => intro v2 k; cases k with | ptr e2 => exact .ptr (key e e2)
  | nilSl => intro v2 k; exact .nilSl
  | sl e a c =>
    intro v2 k
    cases k with
    | sl e2 => exact .sl (key e e2) a c
    | sl0 e2 => exact .sl (key e e2) a c
    | slz hx => simp at hx
  | sl0 e =>
    intro v2 k
    cases k with
    | sl e2 => exact .sl0 (key e e2)
    | sl0 e2 => exact .sl0 (key e e2)
    | slz hx => simp at hx
  | slz hx => intro v2 k; exact .slz hx
  | nilMap => intro v2 k; exact .nilMap
  | map e => intro v2 k; cases k with | map e2 => exact .map (key e e2)
  | func fn xs xs' ys ys' h1 _ h3 _ i2 i4 =>
    intro v2 k
    cases k with
    | func _ _ zs _ us g1 g2 g3 g4 => exact .func fn xs xs' ys ys' h1 (fun i a b => i2 i a b (g2 i a (by omega))) h3 (fun i a b => i4 i a b (g4 i a (by omega)))
  | nilFunc => intro v2 k; exact .nilFunc
  | iface t _ ih => intro v2 k; cases k with | iface _ k => exact .iface t (ih k)
  | nilIface => intro v2 k; exact .nilIface
  | agg xs xs' h1 _ ih =>
    intro v2 k
    cases k with
    | agg _ zs g1 g2 => exact .agg xs xs' h1 (fun i a b => ih i a b (g2 i a (by omega)))
  | tuple xs xs' h1 _ ih =>
    intro v2 k
    cases k with
    | tuple _ zs g1 g2 => exact .tuple xs xs' h1 (fun i a b => ih i a b (g2 i a (by omega)))
  | yield e => intro v2 k; cases k with | yield e2 => exact .yield (key e e2)
theorem VL.meet {σ σ2 : Sg} {l l1 : List Value} (h : VL σ l l1) : ∀ {l2 : List Value}, VL σ2 l l2 → VL (AM.meet σ σ2) l l1 := by
  induction h with
  | nil => intro l2 _; exact .nil
  | cons a _ ih => intro l2 k; cases k with | cons b t => exact .cons (a.meet b) (ih t)
theorem ML.meet {σ σ2 : Sg} {l l1 : List MapEntry} (h : ML σ l l1) : ∀ {l2 : List MapEntry}, ML σ2 l l2 → ML (AM.meet σ σ2) l l1 := by
  induction h with
  | nil => intro _ _; exact .nil
  | cons a b c _ ih =>
    intro l2 k
    cases k with
    | cons a2 b2 c2 t2 => exact .cons a b (c.meet c2) (ih t2)
theorem JR.meet {σ σ2 : Sg} {o o1 o2 : Obj} (h : JR σ o o1) (h2 : JR σ2 o o2) : JR (AM.meet σ σ2) o o1 := by
  cases o with
  | map es k =>
    obtain ⟨es1, e1, m1⟩ := h
    obtain ⟨es2, e2, m2⟩ := h2
    exact ⟨es1, e1, m1.meet m2⟩
  | _ => exact h
theorem OR.meet {σ σ2 : Sg} {w w2 : World} {i i2 : BI} {o : AO} (h : OR σ w i o) (h2 : OR σ2 w2 i2 o) : OR (AM.meet σ σ2) w i o := by
  cases o with
  | dead => trivial
  | obj own o =>
    obtain ⟨o1, a1, a2, a3⟩ := h
    obtain ⟨o2, _, b2, _⟩ := h2
    exact ⟨o1, a1, a2.meet b2, a3⟩
  | loop own st pe L =>
    obtain ⟨fn, tmps, ds, h1, h2', h3, h4⟩ := h
    obtain ⟨_, tm2, _, _, _, _, g4⟩ := h2
    refine ⟨fn, tmps, ds, h1, h2', h3, fun i s v a b => ?_⟩
    obtain ⟨v', k1, k2⟩ := h4 i s v a b
    obtain ⟨v2, _, k4⟩ := g4 i s v a b
    exact ⟨v', k1, k2.meet k4⟩
  | cells own room esz c e =>
    obtain ⟨a1, a2, a3, a4, a9, c', fr, a5, a6, a7, a8⟩ := h
    obtain ⟨_, _, _, _, _, c2, fr2, _, _, b7, _⟩ := h2
    exact ⟨a1, a2, a3, a4, a9, c', fr, a5, a6, a7.meet b7, a8⟩
end Go.AM

set_option linter.unusedSimpArgs false
set_option linter.unusedVariables false
namespace Go.AM
theorem StepC_n {P : Program} {ng : Nat} {op : AOp Value} {H : AHeap} {v : Value} {H' : AHeap} (h : StepC P ng op H v H') : H.n ≤ H'.n := by
  have := stepA_grow h
  obtain ⟨v2, H2, ⟨⟨rfl, rfl⟩, h2⟩, _⟩ := stepA_out' this
  exact h2
theorem StepC_asem {P : Program} {ng : Nat} {op : AOp Value} {H : AHeap} {v : Value} {H' : AHeap} (hk : clsA op ≠ 3) (h : StepC P ng op H v H') : asem op H = some (v, H') := by
  unfold StepC at h
  cases op <;> simp only [stepA] at h
  case callf f xs => simp [clsA] at hk
  case callv f xs => simp [clsA] at hk
  case inv nm r xs => simp [clsA] at hk
  all_goals (obtain ⟨v2, H2, h1, rfl, rfl⟩ := h; exact h1)
theorem oblA_mem {k : Nat} {bs : List Nat} {H H' : AHeap} {tr : List TE} : ∀ {un : List Nat}, oblA k bs H H' tr un → ∀ {i : Nat} {t : TE}, i ∈ un → tr[i]? = some t →
    (k = 1 → t.k = 3 → ∀ b ∈ bs, b < t.H.n ∧ t.H'.get b = t.H.get b) ∧ (k = 3 → (t.k = 1 ∨ t.k = 2) → ∀ b ∈ t.bs, H'.get b = H.get b)
  | [], _, i, t, hi, _ => by simp at hi
  | u :: un, h, i, t, hi, ht => by
    have kb : ∀ {l : List Nat} {A B : AHeap}, keepsB l A B → ∀ b ∈ l, B.get b = A.get b := by
      intro l A B
      induction l with
      | nil => intro _ b hb; simp at hb
      | cons x l ih =>
        intro h b hb
        simp only [keepsB] at h
        simp only [List.mem_cons] at hb
        rcases hb with rfl | hb
        · exact h.1
        · exact ih h.2 b hb
    have ob : ∀ {l : List Nat} {A : AHeap}, olderB l A → ∀ b ∈ l, b < A.n := by
      intro l A
      induction l with
      | nil => intro _ b hb; simp at hb
      | cons x l ih =>
        intro h b hb
        simp only [olderB] at h
        simp only [List.mem_cons] at hb
        rcases hb with rfl | hb
        · exact h.1
        · exact ih h.2 b hb
    simp only [oblA] at h
    simp only [List.mem_cons] at hi
    rcases hi with rfl | hi
    · have h1 := h.1
      rw [ht] at h1
      simp only at h1
      refine ⟨fun hk htk b hb => ?_, fun hk htk b hb => ?_⟩
      · rw [if_pos ⟨hk, htk⟩] at h1
        exact ⟨ob h1.1 b hb, kb h1.2 b hb⟩
      · rw [if_neg (by omega), if_pos ⟨hk, htk⟩] at h1
        exact kb h1 b hb
    · exact oblA_mem h.2 hi ht
structure Ctx (P : Program) (ng N : Nat) (sl : List Nat) (ops : Array Oper) (uns : List (List Nat)) (fr0 : List Value) (H0 : AHeap) (K : List Value → AHeap → Prop) where
  alf : List AOper
  T : Trace P ng (alf.zip uns) fr0 [] H0 [] K
  look : Look P ops uns
  nd : sl.Nodup
  rows : ∀ (k : Nat) (o : Oper), ops[k]? = some o → ∃ ao, alf[k]? = some ao ∧ (alf.zip uns)[k]? = some (ao, uns.getD k []) ∧ Row P ng N sl ops fr0 T.v T.F T.M k o ao
  endG : ∃ tl, Good ops sl fr0 T.v ops.size tl (T.F ops.size) (T.M ops.size)
  fin : K (T.F ops.size) (T.H ops.size)
  ds : List Deferred
section
variable {P : Program} {ng N : Nat} {sl : List Nat} {ops : Array Oper} {uns : List (List Nat)} {fr0 : List Value} {H0 : AHeap} {K : List Value → AHeap → Prop} (C : Ctx P ng N sl ops uns fr0 H0 K)
def Ctx.Nn (j : Nat) : Nat := (C.T.H j).n
def Ctx.W (j : Nat) : Prop := ∃ ao, C.alf[j]? = some ao ∧ wantA ao.g (C.T.F j) (C.T.M j) = true
def Ctx.eff (j : Nat) : Prop := j < ops.size ∧ clsO P ops j = 3 ∧ C.W j
theorem Ctx.row {j : Nat} (hj : j < ops.size) : ∃ (o : Oper) (ao : AOper), ops[j]? = some o ∧ C.alf[j]? = some ao ∧ (C.alf.zip uns)[j]? = some (ao, uns.getD j []) ∧ Row P ng N sl ops fr0 C.T.v C.T.F C.T.M j o ao ∧ clsA ao.op = clsO P ops j := by
  obtain ⟨ao, h1, h2, h3⟩ := C.rows j ops[j] (Array.getElem?_eq_getElem hj)
  refine ⟨ops[j], ao, Array.getElem?_eq_getElem hj, h1, h2, h3, ?_⟩
  obtain ⟨tl, tl', _, _, _, _, e⟩ := h3.ex
  rw [e, cls_map]
  simp [clsO, Array.getElem?_eq_getElem hj]
theorem Ctx.step {j : Nat} (hj : j < ops.size) {ao : AOper} (ha : C.alf[j]? = some ao) :
    (C.W j → StepC P ng (ao.op.map (AX.ev (C.T.F j) (C.T.M j))) (C.T.H j) (C.T.v j) (C.T.H (j + 1))) ∧ (¬ C.W j → C.T.v j = undef ∧ C.T.H (j + 1) = C.T.H j) := by
  obtain ⟨o, ao', e1, e2, e3, e4, e5⟩ := C.row hj
  rw [ha] at e2; cases e2
  constructor
  · rintro ⟨ao2, k1, k2⟩
    rw [ha] at k1; cases k1
    exact (C.T.yes j ao _ e3 k2).1
  · intro hn
    have hw : wantA ao.g (C.T.F j) (C.T.M j) = false := by
      cases hw : wantA ao.g (C.T.F j) (C.T.M j) with
      | false => rfl
      | true => exact absurd ⟨ao, ha, hw⟩ hn
    exact ⟨(C.T.no j ao _ e3 hw).1, (C.T.no j ao _ e3 hw).2.1⟩
theorem Ctx.mono1 {j : Nat} (hj : j < ops.size) : C.Nn j ≤ C.Nn (j + 1) := by
  obtain ⟨o, ao, e1, e2, e3, e4, e5⟩ := C.row hj
  by_cases hw : C.W j
  · exact StepC_n ((C.step hj e2).1 hw)
  · show (C.T.H j).n ≤ (C.T.H (j + 1)).n
    rw [((C.step hj e2).2 hw).2]; exact Nat.le_refl _
theorem Ctx.mono : ∀ {p q : Nat}, p ≤ q → q ≤ ops.size → C.Nn p ≤ C.Nn q := by
  intro p q h
  induction q with
  | zero => intro _; have : p = 0 := by omega
            subst this; exact Nat.le_refl _
  | succ q ih =>
    intro hq
    by_cases e : p = q + 1
    · subst e; exact Nat.le_refl _
    · exact Nat.le_trans (ih (by omega) (by omega)) (C.mono1 (by omega))
theorem Ctx.still {j : Nat} (hj : j < ops.size) (he : ¬ C.eff j) {b : Nat} (hb : b < C.Nn j) : (C.T.H (j + 1)).get b = (C.T.H j).get b := by
  obtain ⟨o, ao, e1, e2, e3, e4, e5⟩ := C.row hj
  by_cases hw : C.W j
  · have hs := (C.step hj e2).1 hw
    have hk : clsA (ao.op.map (AX.ev (C.T.F j) (C.T.M j))) ≠ 3 := by
      rw [cls_map, e5]
      exact fun h => he ⟨hj, h, hw⟩
    have ha := StepC_asem hk hs
    have h4 : clsA (ao.op.map (AX.ev (C.T.F j) (C.T.M j))) ≤ 3 := by
      generalize ao.op.map (AX.ev (C.T.F j) (C.T.M j)) = q
      cases q <;> simp [clsA]
    by_cases h2 : clsA (ao.op.map (AX.ev (C.T.F j) (C.T.M j))) = 2
    · obtain ⟨ob, mk, k1, _⟩ := asem_new h2 ha
      rw [k1]
      exact AHeap.get_alloc_old _ _ hb
    · have := (asem_ro (by omega) ha).1
      rw [this]
  · rw [((C.step hj e2).2 hw).2]
theorem Ctx.stab {p : Nat} {b : Nat} (hb : b < C.Nn p) : ∀ {q : Nat}, p ≤ q → q ≤ ops.size → (∀ e, p ≤ e → e < q → C.eff e → (C.T.H (e + 1)).get b = (C.T.H e).get b) → (C.T.H q).get b = (C.T.H p).get b := by
  intro q h
  induction q with
  | zero => intro _ _; have : p = 0 := by omega
            subst this; rfl
  | succ q ih =>
    intro hq hs
    by_cases e : p = q + 1
    · subst e; rfl
    · have h1 := ih (by omega) (by omega) (fun e h1 h2 h3 => hs e h1 (by omega) h3)
      rw [← h1]
      by_cases he : C.eff q
      · exact hs q (by omega) (by omega) he
      · exact C.still (by omega) he (Nat.lt_of_lt_of_le hb (C.mono (by omega) (by omega)))
theorem Ctx.ob1 {e j : Nat} (hej : e < j) (hj : j < ops.size) (he : C.eff e) (hw : C.W j) (hc : clsO P ops j = 1) (hno : ordB (anc ops) e j = false) {ao : AOper} (ha : C.alf[j]? = some ao) :
    ∀ b ∈ readsA (ao.op.map (AX.ev (C.T.F j) (C.T.M j))), b < C.Nn e ∧ (C.T.H (e + 1)).get b = (C.T.H e).get b := by
  obtain ⟨o, ao', e1, e2, e3, e4, e5⟩ := C.row hj
  rw [ha] at e2; cases e2
  have hun : e ∈ uns.getD j [] := by
    rcases C.look.un e j hej hj (.inl ⟨he.2.1, hc⟩) with h | h
    · rw [hno] at h; cases h
    · exact h
  obtain ⟨ao2, k1, k2⟩ := hw
  rw [ha] at k1; cases k1
  obtain ⟨y1, y2, y3⟩ := C.T.yes j ao _ e3 k2
  obtain ⟨oe, aoe, f1, f2, f3, f4, f5⟩ := C.row (show e < ops.size by omega)
  obtain ⟨ao3, g1, g2⟩ := he.2.2
  rw [f2] at g1; cases g1
  obtain ⟨z1, z2, z3⟩ := C.T.yes e aoe _ f3 g2
  have hent : ([] ++ (List.range j).map C.T.ent)[e]? = some (C.T.ent e) := by
    simp [List.getElem?_range hej]
  have := (oblA_mem y3 hun hent).1 (by rw [e5]; exact hc) (by rw [z2]; show clsA aoe.op = 3; rw [f5]; exact he.2.1)
  intro b hb
  have h1 := this b (by unfold touchA; rw [if_pos (by rw [cls_map, e5]; exact hc)]; exact hb)
  rw [z2] at h1
  exact h1
theorem Ctx.ob2 {i e : Nat} (hie : i < e) (he : C.eff e) (hw : C.W i) (hc : clsO P ops i = 1 ∨ clsO P ops i = 2) (hno : ordB (anc ops) i e = false) {ao : AOper} (ha : C.alf[i]? = some ao) :
    ∀ b ∈ touchA (ao.op.map (AX.ev (C.T.F i) (C.T.M i))) (C.T.H i), (C.T.H (e + 1)).get b = (C.T.H e).get b := by
  obtain ⟨oe, aoe, f1, f2, f3, f4, f5⟩ := C.row he.1
  obtain ⟨o, ao', e1, e2, e3, e4, e5⟩ := C.row (show i < ops.size by have := he.1; omega)
  rw [ha] at e2; cases e2
  have hun : i ∈ uns.getD e [] := by
    rcases C.look.un i e hie he.1 (.inr ⟨hc, he.2.1⟩) with h | h
    · rw [hno] at h; cases h
    · exact h
  obtain ⟨ao2, k1, k2⟩ := hw
  rw [ha] at k1; cases k1
  obtain ⟨y1, y2, y3⟩ := C.T.yes i ao _ e3 k2
  obtain ⟨ao3, g1, g2⟩ := he.2.2
  rw [f2] at g1; cases g1
  obtain ⟨z1, z2, z3⟩ := C.T.yes e aoe _ f3 g2
  have hent : ([] ++ (List.range e).map C.T.ent)[i]? = some (C.T.ent i) := by
    simp [List.getElem?_range hie]
  have := (oblA_mem z3 hun hent).2 (by rw [f5]; exact he.2.1) (by rw [y2]; show clsA ao.op = 1 ∨ clsA ao.op = 2; rw [e5]; exact hc)
  intro b hb
  exact this b (by rw [y2]; exact hb)
noncomputable def Ctx.fst (b : Nat) : Nat := leastOf fun m => m ≤ ops.size ∧ b < C.Nn m
theorem Ctx.fst_spec {b m : Nat} (hm : m ≤ ops.size) (hb : b < C.Nn m) : C.fst b ≤ m ∧ b < C.Nn (C.fst b) ∧ C.fst b ≤ ops.size := by
  have := leastOf_spec (p := fun m => m ≤ ops.size ∧ b < C.Nn m) ⟨m, hm, hb⟩
  exact ⟨this.2 m ⟨hm, hb⟩, this.1.2, this.1.1⟩
def Ctx.ES (S : Nat → Bool) (t : Nat) : Option Value := match wr ops t with
  | some i => if S i then some (C.T.v i) else E0 sl fr0 t
  | none => E0 sl fr0 t
def bd (ops : Array Oper) (p : Nat) (S : Nat → Bool) (t : Nat) : Nat := match wr ops t with
  | some i => if S i then max p (i + 1) else p
  | none => p
noncomputable def Ctx.GS (p : Nat) : Gf := fun b => (C.T.H (max p (C.fst b))).get b
structure INV (σ0 : Sg) (w0 : World) (S : Nat → Bool) (a : Act) (w : World) (σ : Sg) (p : Nat) : Prop where
  cl : Closed ops S
  pn : p ≤ ops.size
  lo : ∀ e, e < p → C.eff e → S e = true
  hi : ∀ e, p ≤ e → C.eff e → S e = false
  at_ : p < ops.size → C.eff p
  size : a.tmps.size = N
  dfr : a.defers = C.ds
  env : ∀ t u, C.ES S t = some u → ∃ u', a.tmps[t]? = some u' ∧ VR (cut σ (C.Nn (bd ops p S t))) u u'
  obj : ∀ b i, σ b = some i → b < C.Nn ops.size ∧ (C.fst b = 0 ∨ S (C.fst b - 1) = true) ∧ ∃ o, C.GS p b = some o ∧ OR (cut σ (C.Nn (max p (C.fst b)))) w i o
  inj : ∀ b1 b2 i1 i2 o1 o2, b1 ≠ b2 → σ b1 = some i1 → σ b2 = some i2 → C.GS p b1 = some o1 → C.GS p b2 = some o2 → o1.own = true → o2.live = true → i1.c ≠ i2.c
  lt : ∀ b i, σ b = some i → i.c < w.heap.size
  glob : ∀ g, g < ng → g < C.Nn 0 ∧ ∃ i, σ g = some i ∧ i.c = g ∧ i.off = 0
  ext : Ext0 σ0 H0.get w0 σ (C.GS p) w
  old : ∀ b, b < C.Nn 0 → σ b = σ0 b
end
end Go.AM

set_option linter.unusedSimpArgs false
set_option linter.unusedVariables false
namespace Go.AM
section
variable {P : Program} {ng N : Nat} {sl : List Nat} {ops : Array Oper} {uns : List (List Nat)} {fr0 : List Value} {H0 : AHeap} {K : List Value → AHeap → Prop} {C : Ctx P ng N sl ops uns fr0 H0 K}
variable {σ0 : Sg} {w0 : World}
def addS (S : Nat → Bool) (j : Nat) : Nat → Bool := fun i => if i = j then true else S i
theorem addS_same (S : Nat → Bool) (j : Nat) : addS S j j = true := by simp [addS]
theorem addS_of {S : Nat → Bool} {j i : Nat} (h : S i = true) : addS S j i = true := by unfold addS; split <;> simp_all
theorem addS_inv {S : Nat → Bool} {j i : Nat} (h : addS S j i = true) (hne : i ≠ j) : S i = true := by unfold addS at h; rw [if_neg hne] at h; exact h
theorem addS_ne {S : Nat → Bool} {j i : Nat} (hne : i ≠ j) : addS S j i = S i := by unfold addS; rw [if_neg hne]
def Ready (ops : Array Oper) (S : Nat → Bool) (j : Nat) : Prop := S j = false ∧ ∀ o, ops[j]? = some o → ∀ e ∈ o.after, Region.binds .any e = true → S e.on = true
theorem Closed.add {S : Nat → Bool} {j : Nat} (h : Closed ops S) (hr : Ready ops S j) : Closed ops (addS S j) := by
  intro i o ho hi e he hb
  by_cases e1 : i = j
  · subst e1; exact addS_of (hr.2 o ho e he hb)
  · exact addS_of (h i o ho (addS_inv hi e1) e he hb)
theorem INV.before {S : Nat → Bool} {a : Act} {w : World} {σ : Sg} {p j : Nat} (I : INV C σ0 w0 S a w σ p) (hr : Ready ops S j) {i : Nat} (hne : i ≠ j) (h : ordB (anc ops) i j = true) : S i = true :=
  addS_inv (anc_spec (I.cl.add hr) h (addS_same S j)) hne
theorem INV.not_before {S : Nat → Bool} {a : Act} {w : World} {σ : Sg} {p j : Nat} (I : INV C σ0 w0 S a w σ p) (hr : Ready ops S j) {i : Nat} (hi : S i = true) : ordB (anc ops) j i = false := by
  cases h : ordB (anc ops) j i with
  | false => rfl
  | true =>
    have := anc_spec I.cl h hi
    rw [hr.1] at this; cases this
theorem INV.look {S : Nat → Bool} {a : Act} {w : World} {σ : Sg} {p j : Nat} (I : INV C σ0 w0 S a w σ p) (hr : Ready ops S j) {o : Oper} (ho : ops[j]? = some o) {t : Nat} (ht : t ∈ o.looksAt ops) :
    C.ES S t = Ev ops sl fr0 C.T.v j t ∧ bd ops p S t ≤ max p j := by
  unfold Ctx.ES Ev bd
  cases hw : wr ops t with
  | none => exact ⟨rfl, Nat.le_max_left _ _⟩
  | some i =>
    by_cases hij : i = j
    · subst hij
      simp [hr.1, Nat.le_max_left]
    · obtain ⟨l1, l2⟩ := C.look.looks j o t i ho ht hw hij
      rcases Nat.lt_or_ge i j with h | h
      · have := I.before hr hij (l1 h)
        simp only [this, h, if_true, true_and]
        omega
      · have hji : j < i := by omega
        have hSi : S i = false := by
          cases hs : S i with
          | false => rfl
          | true =>
            have := I.not_before hr hs
            rw [l2 hji] at this; cases this
        simp only [hSi, show ¬ i < j by omega, if_false]
        exact ⟨rfl, Nat.le_max_left _ _⟩
theorem INV.tmp {S : Nat → Bool} {a : Act} {w : World} {σ : Sg} {p j : Nat} (I : INV C σ0 w0 S a w σ p) (hr : Ready ops S j) {o : Oper} (ho : ops[j]? = some o) {tl : List Nat} (g : Good ops sl fr0 C.T.v j tl (C.T.F j) (C.T.M j))
    {t : Nat} (ht : t ∈ o.looksAt ops) {ax : AX} (h : compX ng sl tl (.tmp t) = some ax) :
    ∃ u', a.tmps[t]? = some u' ∧ VR (cut σ (C.Nn (max p j))) (ax.ev (C.T.F j) (C.T.M j)) u' := by
  obtain ⟨l1, l2⟩ := I.look hr ho ht
  have hj : j < ops.size := (Array.getElem?_eq_some_iff.1 ho).1
  have hm : max p j ≤ ops.size := by have := I.pn; omega
  have key : ∀ u, Ev ops sl fr0 C.T.v j t = some u → ∃ u', a.tmps[t]? = some u' ∧ VR (cut σ (C.Nn (max p j))) u u' := by
    intro u hu
    obtain ⟨u', h1, h2⟩ := I.env t u (by rw [l1]; exact hu)
    exact ⟨u', h1, h2.mono (cut_mono σ (C.mono l2 hm))⟩
  simp only [compX] at h
  split at h
  · rename_i i hi
    cases h
    have hs := posOf_get hi
    have hlt : i < (C.T.F j).length := by rw [g.frl]; exact (List.getElem?_eq_some_iff.1 hs).1
    have h1 := g.fr i t hs
    rw [List.getElem?_eq_getElem hlt] at h1
    have := key _ h1.symm
    simpa [AX.ev, List.getD, List.getElem?_eq_getElem hlt] using this
  · simp only [Option.map_eq_some_iff] at h
    obtain ⟨i, hi, rfl⟩ := h
    have hs := posOf_get hi
    have hlt : i < (C.T.M j).length := by rw [g.tml]; exact (List.getElem?_eq_some_iff.1 hs).1
    have h1 := g.tm i t hs
    rw [List.getElem?_eq_getElem hlt] at h1
    have := key _ h1.symm
    simpa [AX.ev, List.getD, List.getElem?_eq_getElem hlt] using this
theorem INV.operand {S : Nat → Bool} {a : Act} {w : World} {σ : Sg} {p j : Nat} (I : INV C σ0 w0 S a w σ p) (hr : Ready ops S j) {o : Oper} (ho : ops[j]? = some o) {tl : List Nat} (g : Good ops sl fr0 C.T.v j tl (C.T.F j) (C.T.M j))
    {x : Operand} (hx : x ∈ o.op.operands) {ax : AX} (h : compX ng sl tl x = some ax) : VR (cut σ (C.Nn (max p j))) (ax.ev (C.T.F j) (C.T.M j)) (a.eval x) := by
  have hj : j < ops.size := (Array.getElem?_eq_some_iff.1 ho).1
  have hm : max p j ≤ ops.size := by have := I.pn; omega
  cases x with
  | tmp t =>
    obtain ⟨u', h1, h2⟩ := I.tmp hr ho g (t := t) (by
      simp only [Oper.looksAt, List.mem_append, List.mem_filterMap]
      exact .inl ⟨.tmp t, by simpa using hx, rfl⟩) h
    simp only [Act.eval, Array.getD_eq_getD_getElem?, h1, Option.getD_some]
    exact h2
  | const v =>
    simp only [compX] at h
    split at h
    · rename_i hp; cases h; exact plainV_VR hp
    · cases h
  | global gl =>
    simp only [compX] at h
    split at h
    · rename_i hg
      cases h
      obtain ⟨k1, i, k2, k3, k4⟩ := I.glob gl hg
      have := VR.ptr (σ := cut σ (C.Nn (max p j))) (b := gl) (o := 0) (cut_of k2 (Nat.lt_of_lt_of_le k1 (C.mono (Nat.zero_le _) hm)))
      rw [k3, k4] at this
      exact this
    · cases h
  | func f =>
    simp only [compX] at h
    cases h
    exact func_VR _ f
theorem INV.guard {S : Nat → Bool} {a : Act} {w : World} {σ : Sg} {p j : Nat} (I : INV C σ0 w0 S a w σ p) (hr : Ready ops S j) {o : Oper} (ho : ops[j]? = some o) {tl : List Nat} (g : Good ops sl fr0 C.T.v j tl (C.T.F j) (C.T.M j))
    {ga : Option (AX × Bool)} (h : compG ng sl tl ops o.guard = some ga) : Region.wanted o (yielded ops a.tmps) = wantA ga (C.T.F j) (C.T.M j) := by
  unfold Region.wanted
  cases hg : o.guard with
  | none => rw [hg] at h; simp only [compG] at h; cases h; rfl
  | some jb =>
    obtain ⟨k, b⟩ := jb
    rw [hg] at h
    simp only [compG] at h
    split at h
    · rename_i t ht
      simp only [Option.map_eq_some_iff] at h
      obtain ⟨x, hx, rfl⟩ := h
      obtain ⟨v', h1, h2⟩ := I.tmp hr ho g (t := t) (by simp [Oper.looksAt, hg, ht]) hx
      simp only [yielded, ht, Option.bind_some, h1, wantA]
      revert h2
      generalize x.ev (C.T.F j) (C.T.M j) = u
      intro h2
      cases h2 <;> simp [Option.some.injEq]
    · cases h
theorem INV.env' {S : Nat → Bool} {a : Act} {w : World} {σ : Sg} {p j : Nat} (I : INV C σ0 w0 S a w σ p) {o : Oper} (ho : ops[j]? = some o) {tl tl' : List Nat} {d : D} (hd : compD N sl tl o.dst = some (d, tl'))
    {σ' : Sg} {p' : Nat} {v' : Value} (hle : σ.le σ') (hp : p ≤ p') (hp' : p' ≤ ops.size) (hv : VR (cut σ' (C.Nn (max p' (j + 1)))) (C.T.v j) v') :
    ∀ t u, C.ES (addS S j) t = some u → ∃ u', (a.put o.dst v').tmps[t]? = some u' ∧ VR (cut σ' (C.Nn (bd ops p' (addS S j) t))) u u' := by
  have hj : j < ops.size := (Array.getElem?_eq_some_iff.1 ho).1
  have hbd : ∀ t, bd ops p S t ≤ bd ops p' (addS S j) t := by
    intro t
    unfold bd
    cases wr ops t with
    | none => exact hp
    | some i =>
      simp only
      by_cases hs : S i = true
      · simp only [hs, addS_of hs, if_true]; omega
      · simp only [hs, if_false]
        simp only [Bool.false_eq_true, if_false]
        split <;> omega
  have hbs : ∀ t, bd ops p' (addS S j) t ≤ ops.size := by
    intro t
    unfold bd
    cases hw : wr ops t with
    | none => exact hp'
    | some i =>
      have hi : i < ops.size := by
        have := List.mem_of_find?_eq_some hw
        simpa using this
      simp only
      split <;> omega
  intro t u hu
  by_cases hdst : o.dst = some t
  · have hw := C.look.dst j o t ho hdst
    have e1 : C.ES (addS S j) t = some (C.T.v j) := by simp [Ctx.ES, hw, addS_same]
    rw [e1] at hu; cases hu
    have htN : t < N := by
      rw [hdst] at hd
      simp only [compD] at hd
      split at hd
      · split at hd
        · assumption
        · cases hd
      · split at hd
        · cases hd
        · split at hd
          · assumption
          · cases hd
    refine ⟨v', by simp [hdst, Act.put, I.size, htN], ?_⟩
    have : bd ops p' (addS S j) t = max p' (j + 1) := by simp [bd, hw, addS_same]
    rw [this]; exact hv
  · have e1 : C.ES (addS S j) t = C.ES S t := by
      unfold Ctx.ES
      cases hw : wr ops t with
      | none => rfl
      | some i =>
        have hij : i ≠ j := by
          intro e
          subst e
          have := List.find?_some hw
          rw [ho] at this
          simp only [Option.bind_some, beq_iff_eq] at this
          exact hdst this
        simp only [addS_ne hij]
    rw [e1] at hu
    obtain ⟨u', h1, h2⟩ := I.env t u hu
    refine ⟨u', ?_, h2.mono (fun b i hb => cut_mono σ' (C.mono (hbd t) (hbs t)) b i (cut_cut_le hle _ b i hb))⟩
    cases hd2 : o.dst with
    | none => exact h1
    | some d2 =>
      simp only [Act.put]
      rw [Array.getElem?_setIfInBounds_ne (fun e => hdst (by rw [hd2, e]))]
      exact h1
theorem put_size (a : Act) (d : Option Tmp) (v : Value) : (a.put d v).tmps.size = a.tmps.size := by cases d <;> simp [Act.put]
theorem put_dfr (a : Act) (d : Option Tmp) (v : Value) : (a.put d v).defers = a.defers := by cases d <;> simp [Act.put]
theorem INV.next {S : Nat → Bool} {a : Act} {w w' : World} {σ : Sg} {p j : Nat} (I : INV C σ0 w0 S a w σ p) (hr : Ready ops S j) (hne : ¬ C.eff j) {o : Oper} (ho : ops[j]? = some o) {tl tl' : List Nat} {d : D} (hd : compD N sl tl o.dst = some (d, tl'))
    {v' : Value} (hv : VR (cut σ (C.Nn (max p (j + 1)))) (C.T.v j) v') (hk : ∀ k, k < w.heap.size → w'.heap[k]? = w.heap[k]?) (hs : w.heap.size ≤ w'.heap.size) (h1 : w'.os = w.os) (h2 : w'.tape = w.tape) (h3 : w'.output = w.output) :
    INV C σ0 w0 (addS S j) (a.put o.dst v') w' σ p := by
  refine ⟨I.cl.add hr, I.pn, fun e he hf => addS_of (I.lo e he hf), ?_, I.at_, by rw [put_size]; exact I.size, by rw [put_dfr]; exact I.dfr, ?_, ?_, I.inj, fun b i hb => Nat.lt_of_lt_of_le (I.lt b i hb) hs, I.glob, ?_, I.old⟩
  · intro e he hf
    have hej : e ≠ j := fun h => hne (h ▸ hf)
    rw [addS_ne hej]; exact I.hi e he hf
  · exact I.env' ho hd (Sg.le.refl σ) (Nat.le_refl _) I.pn hv
  · intro b i hb
    obtain ⟨k1, k2, o1, k3, k4⟩ := I.obj b i hb
    exact ⟨k1, k2.imp id addS_of, o1, k3, k4.congr (fun _ => hk _ (I.lt b i hb))⟩
  · refine I.ext.trans ⟨Sg.le.refl σ, fun b i h h' => (by rw [h] at h'; cases h'), fun _ _ o' _ h h' => ⟨o', h, h'⟩, fun _ _ o' _ h h' => ⟨o', h, h'⟩, fun k hk' _ => hk k hk', hs, h1, h2, h3⟩
theorem INV.same_lo {S : Nat → Bool} {a : Act} {w : World} {σ : Sg} {p j : Nat} (I : INV C σ0 w0 S a w σ p) (hr : Ready ops S j) (hj : j < ops.size) (hw : C.W j) (hc : clsO P ops j = 1) {ao : AOper} (ha : C.alf[j]? = some ao)
    {b : Nat} (hb : b ∈ readsA (ao.op.map (AX.ev (C.T.F j) (C.T.M j)))) (hbj : b < C.Nn j) : C.GS p b = (C.T.H j).get b := by
  obtain ⟨f1, f2, f3⟩ := C.fst_spec (by omega) hbj
  have hpn := I.pn
  unfold Ctx.GS
  rcases Nat.lt_or_ge j p with hjp | hjp
  · rw [show max p (C.fst b) = p by omega]
    refine C.stab hbj (by omega) hpn ?_
    intro e h1 h2 h3
    have hej : j ≠ e := fun h => by have := h3.2.1; rw [← h, hc] at this; omega
    have hno := I.not_before hr (I.lo e h2 h3)
    obtain ⟨o, ao', e1, e2, e3, e4, e5⟩ := C.row hj
    rw [ha] at e2; cases e2
    refine C.ob2 (by omega) h3 hw (.inl hc) hno ha b ?_
    unfold touchA
    rw [if_pos (by rw [cls_map, e5]; exact hc)]
    exact hb
  · symm
    refine C.stab (p := max p (C.fst b)) ?_ (by omega) (by omega) ?_
    · exact Nat.lt_of_lt_of_le f2 (C.mono (by omega) (by omega))
    · intro e h1 h2 h3
      have hno : ordB (anc ops) e j = false := by
        cases hh : ordB (anc ops) e j with
        | false => rfl
        | true =>
          have := I.before hr (by omega) hh
          rw [I.hi e (by omega) h3] at this; cases this
      exact (C.ob1 h2 hj h3 hw hc hno ha b hb).2
theorem INV.HRro {S : Nat → Bool} {a : Act} {w : World} {σ : Sg} {p : Nat} (I : INV C σ0 w0 S a w σ p) {m : Nat} (hpm : p ≤ m) (hm : m ≤ ops.size) {M : Nat} (hM : C.Nn m ≤ M) : HR ng (cut σ (C.Nn m)) (roH M (C.GS p)).get w := by
  refine ⟨?_, ?_, ?_, ?_⟩
  · intro b i hb
    obtain ⟨h1, h2⟩ := cut_inv hb
    obtain ⟨k1, k2, o1, k3, k4⟩ := I.obj b i h2
    refine ⟨roO o1, by rw [roH_get _ _ (Nat.lt_of_lt_of_le h1 hM), k3]; rfl, (k4.mono (cut_mono σ (C.mono ?_ hm))).ro⟩
    have := (C.fst_spec hm h1).1
    omega
  · intro b1 b2 i1 i2 o1 o2 _ _ _ g1 _ ow _
    rw [roH_own g1] at ow; cases ow
  · intro b i hb
    exact I.lt b i (cut_inv hb).2
  · intro g hg
    obtain ⟨k1, i, k2, k3, k4⟩ := I.glob g hg
    exact ⟨i, cut_of k2 (Nat.lt_of_lt_of_le k1 (C.mono (Nat.zero_le _) hm)), k3, k4⟩
end
end Go.AM

set_option linter.unusedSimpArgs false
set_option linter.unusedVariables false
namespace Go.AM
section
variable {P : Program} {ng N : Nat} {sl : List Nat} {ops : Array Oper} {uns : List (List Nat)} {fr0 : List Value} {H0 : AHeap} {K : List Value → AHeap → Prop} {C : Ctx P ng N sl ops uns fr0 H0 K}
variable {σ0 : Sg} {w0 : World} {F : Fence} {m : Nat}
theorem Sg.ext {σ σ' : Sg} (h : σ.le σ') (k : ∀ b i, σ b = none → σ' b = some i → False) : σ' = σ := by
  funext b
  cases e : σ b with
  | some i => exact h b i e
  | none =>
    cases e' : σ' b with
    | none => rfl
    | some i => exact (k b i e e').elim
theorem INV.step1 (hF : IsW F) {S : Nat → Bool} {a : Act} {w : World} {σ : Sg} {p j : Nat} (I : INV C σ0 w0 S a w σ p) (hr : Ready ops S j) {o : Oper} {ao : AOper} (ho : ops[j]? = some o) (ha : C.alf[j]? = some ao)
    (hw : C.W j) (hc : clsO P ops j = 0 ∨ clsO P ops j = 1) (hcl : clsA ao.op = clsO P ops j) {tl tl' : List Nat} {d : D} (g : Good ops sl fr0 C.T.v j tl (C.T.F j) (C.T.M j)) (hall : ∀ x ∈ o.op.operands, (compX ng sl tl x).isSome = true)
    (hd : compD N sl tl o.dst = some (d, tl')) (hao : ao.op = (compOp P o).map (fun x => (compX ng sl tl x).getD (.c undef))) {Q : Exit → Act → World → Prop} {next : Act → World → Prop}
    (hn : ∀ a' w', INV C σ0 w0 (addS S j) a' w' σ p → next a' w') : o.wpIn F m P a w next Q := by
  have hj : j < ops.size := (Array.getElem?_eq_some_iff.1 ho).1
  have hpn := I.pn
  have hm : max p j ≤ ops.size := by omega
  have hne : ¬ C.eff j := fun h => by have := h.2.1; omega
  have hs := (C.step hj ha).1 hw
  have hk : clsA (ao.op.map (AX.ev (C.T.F j) (C.T.M j))) = clsO P ops j := by rw [cls_map, hcl]
  have has := StepC_asem (by omega) hs
  obtain ⟨r1, r2, r3⟩ := asem_ro (by omega) has
  have hG : ∀ b ∈ readsA (ao.op.map (AX.ev (C.T.F j) (C.T.M j))), (roH (C.Nn (max p j)) (C.GS p)).get b = ((C.T.H j).get b).map roO := by
    intro b hb
    obtain ⟨ob, h1⟩ := r2 b hb
    have hlt : b < C.Nn j := AHeap.get_lt h1
    have hlt2 : b < C.Nn (max p j) := Nat.lt_of_lt_of_le hlt (C.mono (by omega) hm)
    have hc1 : clsO P ops j = 1 := by
      rcases hc with h | h
      · exfalso
        rw [h] at hk
        generalize ao.op.map (AX.ev (C.T.F j) (C.T.M j)) = q at hk hb
        cases q <;> simp [readsA, clsA] at hb hk
      · exact h
    rw [roH_get _ _ hlt2, I.same_lo hr hj hw hc1 ha hb hlt, h1]
    rfl
  have has2 := r3 _ hG
  have hR := I.HRro (m := max p j) (by omega) hm (Nat.le_refl _)
  have hev : ∀ x ∈ o.op.operands, VR (cut σ (C.Nn (max p j))) (((AX.ev (C.T.F j) (C.T.M j)) ∘ fun x => (compX ng sl tl x).getD (.c undef)) x) (a.eval x) := by
    intro x hx
    obtain ⟨ax, hax⟩ := Option.isSome_iff_exists.1 (hall x hx)
    simp only [Function.comp, hax, Option.getD_some]
    exact I.operand hr ho g hx hax
  rw [hao, map_map_op] at has2
  obtain ⟨nx, v', w', σ', e1, e2, e3, e4, e5⟩ := asem_sound hR o hev has2
  have hσ : σ' = cut σ (C.Nn (max p j)) := Sg.ext e4.sub (fun b i h1 h2 => by
    have := (e4.new b i h1 h2).1
    simp only [roH, ofFn] at this
    omega)
  subst hσ
  have hkeep : ∀ k, k < w.heap.size → w'.heap[k]? = w.heap[k]? := fun k hk => e4.keep k hk (fun b i ob _ g1 ow => by rw [roH_own g1] at ow; cases ow)
  have fin : ∀ u, VR (cut σ (C.Nn (max p j))) (C.T.v j) u → next (a.put o.dst u) w' := fun u hu =>
    hn _ _ (I.next hr hne ho hd (hu.mono (cut_mono σ (C.mono (by omega) (by omega)))) hkeep e4.size e4.os e4.tape e4.output)
  refine wpIn_exec hF (asem_nd has2) e1 ?_
  rcases e2 with rfl | ⟨rfl, hv⟩
  · exact fin v' e5
  · refine fin undef ?_
    rw [hv] at e5; exact e5
theorem INV.step0 {S : Nat → Bool} {a : Act} {w : World} {σ : Sg} {p j : Nat} (I : INV C σ0 w0 S a w σ p) (hr : Ready ops S j) {o : Oper} {ao : AOper} (ho : ops[j]? = some o) (ha : C.alf[j]? = some ao)
    (hw : ¬ C.W j) {tl tl' : List Nat} {d : D} (hd : compD N sl tl o.dst = some (d, tl')) : INV C σ0 w0 (addS S j) (a.put o.dst undef) w σ p := by
  have hj : j < ops.size := (Array.getElem?_eq_some_iff.1 ho).1
  refine I.next hr (fun h => hw h.2.2) ho hd ?_ (fun _ _ => rfl) (Nat.le_refl _) rfl rfl rfl
  rw [((C.step hj ha).2 hw).1]
  exact .tuple _ _ rfl (fun i a => by simp at a)
theorem INV.step2 (hF : IsW F) {S : Nat → Bool} {a : Act} {w : World} {σ : Sg} {p j : Nat} (I : INV C σ0 w0 S a w σ p) (hr : Ready ops S j) {o : Oper} {ao : AOper} (ho : ops[j]? = some o) (ha : C.alf[j]? = some ao)
    (hw : C.W j) (hc : clsO P ops j = 2) (hcl : clsA ao.op = clsO P ops j) {tl tl' : List Nat} {d : D} (g : Good ops sl fr0 C.T.v j tl (C.T.F j) (C.T.M j)) (hall : ∀ x ∈ o.op.operands, (compX ng sl tl x).isSome = true)
    (hd : compD N sl tl o.dst = some (d, tl')) (hao : ao.op = (compOp P o).map (fun x => (compX ng sl tl x).getD (.c undef))) {Q : Exit → Act → World → Prop} {next : Act → World → Prop}
    (hn : ∀ a' w' σ', INV C σ0 w0 (addS S j) a' w' σ' p → next a' w') : o.wpIn F m P a w next Q := by
  have hj : j < ops.size := (Array.getElem?_eq_some_iff.1 ho).1
  have hpn := I.pn
  have hm : max p j ≤ ops.size := by omega
  have hne : ¬ C.eff j := fun h => by have := h.2.1; omega
  have hs := (C.step hj ha).1 hw
  have hk : clsA (ao.op.map (AX.ev (C.T.F j) (C.T.M j))) = 2 := by rw [cls_map, hcl, hc]
  have has := StepC_asem (by omega) hs
  obtain ⟨ob, mk, r1, r2, r3, r4, r5⟩ := asem_new hk has
  -- the block's number in the text's order
  have hB1 : C.Nn j < C.Nn (j + 1) := by
    show (C.T.H j).n < (C.T.H (j + 1)).n
    rw [r1]; simp [AHeap.alloc]
  have hfB : C.fst (C.Nn j) = j + 1 := by
    obtain ⟨f1, f2, f3⟩ := C.fst_spec (b := C.Nn j) (m := j + 1) (by omega) hB1
    rcases Nat.lt_or_ge j (C.fst (C.Nn j)) with h | h
    · omega
    · have := C.mono h (by omega)
      omega
  have hGj : (C.T.H (j + 1)).get (C.Nn j) = some ob := by
    rw [r1]; exact AHeap.get_alloc_new _ _
  have hGB : C.GS p (C.Nn j) = some ob := by
    unfold Ctx.GS
    rw [hfB]
    refine Eq.trans (C.stab hB1 (by omega) (by omega) ?_) hGj
    intro e h1 h2 h3
    have hno := I.not_before hr (I.lo e (by omega) h3)
    refine C.ob2 (by omega) h3 hw (.inr hc) hno ha _ ?_
    unfold touchA
    rw [if_neg (by omega), if_pos hk]
    simp [Ctx.Nn]
  have hσB : σ (C.Nn j) = none := by
    cases e : σ (C.Nn j) with
    | none => rfl
    | some i =>
      rcases (I.obj _ i e).2.1 with h | h
      · rw [hfB] at h; omega
      · rw [hfB] at h
        have : S j = true := h
        rw [hr.1] at this; cases this
  have hev : ∀ x ∈ o.op.operands, VR (cut σ (C.Nn (max p j))) (((AX.ev (C.T.F j) (C.T.M j)) ∘ fun x => (compX ng sl tl x).getD (.c undef)) x) (a.eval x) := by
    intro x hx
    obtain ⟨ax, hax⟩ := Option.isSome_iff_exists.1 (hall x hx)
    simp only [Function.comp, hax, Option.getD_some]
    exact I.operand hr ho g hx hax
  have hR1 := I.HRro (m := max p j) (by omega) hm (Nat.le_refl _)
  have hR2 := I.HRro (m := max p j) (by omega) hm (M := C.Nn (max p j) + 1) (by omega)
  have s1 := r3 (roH (C.Nn (max p j)) (C.GS p))
  have s2 := r3 (roH (C.Nn (max p j) + 1) (C.GS p))
  rw [hao, map_map_op] at s1 s2
  obtain ⟨nx, v', w', σ', e1, e2, e3, e4, e5⟩ := asem_sound hR1 o hev s1
  obtain ⟨nx2, v2', w2', σ2', f1, f2, f3, f4, f5⟩ := asem_sound hR2 o hev s2
  have hn1 : ∀ G, (roH (C.Nn (max p j)) G).n = C.Nn (max p j) := fun _ => rfl
  have hn2 : ∀ G, (roH (C.Nn (max p j) + 1) G).n = C.Nn (max p j) + 1 := fun _ => rfl
  rw [hn1] at e5
  rw [hn2] at f5
  have inv : ∀ {τ : Sg} {b : Nat} {u : Value}, VR τ (mk b) u → ∃ i, τ b = some i ∧ ∀ (τ' : Sg) (b' : Nat), τ' b' = some i → VR τ' (mk b') u := by
    intro τ b u h
    rcases r4 with rfl | ⟨n, k, rfl⟩
    · cases h with
      | ptr hi => exact ⟨_, hi, fun τ' b' h' => .ptr h'⟩
    · cases h with
      | sl hi h1 h2 => exact ⟨_, hi, fun τ' b' h' => .sl h' h1 h2⟩
      | sl0 hi => exact ⟨_, hi, fun τ' b' h' => .sl0 h'⟩
      | slz hx => simp at hx
  obtain ⟨i, hi, hmk⟩ := inv e5
  obtain ⟨i2, hi2, _⟩ := inv f5
  have cutN : cut σ (C.Nn (max p j)) (C.Nn (max p j)) = none := by simp [cut]
  obtain ⟨o1, q1, q2⟩ := e3.obj _ i hi
  obtain ⟨o2, q3, q4⟩ := f3.obj _ i2 hi2
  have g1 : ((roH (C.Nn (max p j)) (C.GS p)).alloc ob).get (C.Nn (max p j)) = some ob := AHeap.get_alloc_new (roH (C.Nn (max p j)) (C.GS p)) ob
  have g2 : ((roH (C.Nn (max p j) + 1) (C.GS p)).alloc ob).get (C.Nn (max p j) + 1) = some ob := AHeap.get_alloc_new (roH (C.Nn (max p j) + 1) (C.GS p)) ob
  rw [g1] at q1; cases q1
  rw [g2] at q3; cases q3
  have hmeet : (meet σ' σ2').le (cut σ (C.Nn (max p j))) := by
    intro b k hb
    unfold meet at hb
    split at hb
    · rename_i hs2
      obtain ⟨k2, hk2⟩ := Option.isSome_iff_exists.1 hs2
      cases hcb : cut σ (C.Nn (max p j)) b with
      | some k3 =>
        have := e4.sub b k3 hcb
        rw [hb] at this; exact this.symm
      | none =>
        have x1 := (e4.new b k hcb hb).1
        have x2 := (f4.new b k2 hcb hk2).1
        simp only [hn1, hn2, AHeap.alloc] at x1 x2
        omega
    · cases hb
  have hOR := (q2.meet q4).mono hmeet
  have hkeep : ∀ k, k < w.heap.size → w'.heap[k]? = w.heap[k]? := fun k hk => e4.keep k hk (fun b i ob _ g1 ow => by rw [roH_own g1] at ow; cases ow)
  have hic : w.heap.size ≤ i.c := by
    rcases (e4.new _ i cutN hi).2 with h | ⟨b0, i0, o0, _, g0, ow, _⟩
    · exact h
    · rw [roH_own g0] at ow; cases ow
  have hle : σ.le (σ.up (C.Nn j) i) := Sg.le_up i hσB
  have hB0 : C.Nn 0 ≤ C.Nn j := C.mono (Nat.zero_le _) (by omega)
  have hcut : (cut σ (C.Nn (max p j))).le (cut (σ.up (C.Nn j) i) (C.Nn (max p (j + 1)))) := fun b k hb =>
    cut_mono _ (C.mono (by omega) (by omega)) b k (cut_cut_le hle _ b k hb)
  have fin : ∀ u, VR σ' (mk (C.Nn (max p j))) u → (∀ (τ' : Sg) (b' : Nat), τ' b' = some i → VR τ' (mk b') u) → next (a.put o.dst u) w' := by
    intro u _ hu
    refine hn _ _ (σ.up (C.Nn j) i) ?_
    refine ⟨I.cl.add hr, I.pn, fun e he hf => addS_of (I.lo e he hf), ?_, I.at_, by rw [put_size]; exact I.size, by rw [put_dfr]; exact I.dfr, ?_, ?_, ?_, ?_, ?_, ?_, ?_⟩
    · intro e he hf
      have hej : e ≠ j := fun h => hne (h ▸ hf)
      rw [addS_ne hej]; exact I.hi e he hf
    · refine I.env' ho hd hle (Nat.le_refl _) I.pn ?_
      rw [r2]
      refine hu _ _ (cut_of (Sg.up_same _ _ _) ?_)
      exact Nat.lt_of_lt_of_le hB1 (C.mono (by omega) (by omega))
    · intro b k hb
      by_cases hbB : b = C.Nn j
      · subst hbB
        rw [Sg.up_same] at hb; cases hb
        refine ⟨Nat.lt_of_lt_of_le hB1 (C.mono (by omega) (Nat.le_refl _)), .inr (by rw [hfB]; exact addS_same S j), ob, hGB, ?_⟩
        rw [hfB]
        exact hOR.mono hcut
      · rw [Sg.up_other σ i hbB] at hb
        obtain ⟨k1, k2, o1, k3, k4⟩ := I.obj b k hb
        exact ⟨k1, k2.imp id addS_of, o1, k3, (k4.mono (cut_cut_le hle _)).congr (fun _ => hkeep _ (I.lt b k hb))⟩
    · intro b1 b2 i1 i2 o1 o2 hne12 h1 h2 g1 g2 ow lv
      by_cases e1 : b1 = C.Nn j
      · subst e1
        rw [Sg.up_same] at h1; cases h1
        rw [Sg.up_other σ _ (Ne.symm hne12)] at h2
        have := I.lt b2 i2 h2
        omega
      · rw [Sg.up_other σ i e1] at h1
        by_cases e2 : b2 = C.Nn j
        · subst e2
          rw [Sg.up_same] at h2; cases h2
          have := I.lt b1 i1 h1
          omega
        · rw [Sg.up_other σ i e2] at h2
          exact I.inj b1 b2 i1 i2 o1 o2 hne12 h1 h2 g1 g2 ow lv
    · intro b k hb
      by_cases hbB : b = C.Nn j
      · subst hbB
        rw [Sg.up_same] at hb; cases hb
        exact e3.lt _ _ hi
      · rw [Sg.up_other σ i hbB] at hb
        exact Nat.lt_of_lt_of_le (I.lt b k hb) e4.size
    · intro gl hg
      obtain ⟨k1, k, k2, k3, k4⟩ := I.glob gl hg
      exact ⟨k1, k, hle gl k k2, k3, k4⟩
    · refine I.ext.trans ⟨hle, ?_, fun _ _ o' _ h h' => ⟨o', h, h'⟩, fun _ _ o' _ h h' => ⟨o', h, h'⟩, fun k hk' _ => hkeep k hk', e4.size, e4.os, e4.tape, e4.output⟩
      intro b k h h'
      by_cases hbB : b = C.Nn j
      · subst hbB
        rw [Sg.up_same] at h'; cases h'
        exact .inl hic
      · rw [Sg.up_other σ i hbB, h] at h'; cases h'
    · intro b hb
      rw [Sg.up_other σ i (by omega)]
      exact I.old b hb
  refine wpIn_exec hF (asem_nd s1) e1 ?_
  rcases e2 with rfl | ⟨rfl, rfl⟩
  · exact fin v' e5 hmk
  · exact fin undef e5 hmk
end
end Go.AM

set_option linter.unusedSimpArgs false
set_option linter.unusedVariables false
namespace Go.AM
section
variable {P : Program} {ng N : Nat} {sl : List Nat} {ops : Array Oper} {uns : List (List Nat)} {fr0 : List Value} {H0 : AHeap} {K : List Value → AHeap → Prop} {C : Ctx P ng N sl ops uns fr0 H0 K}
variable {σ0 : Sg} {w0 : World} {F : Fence} {m : Nat}
theorem Ctx.nextE (C : Ctx P ng N sl ops uns fr0 H0 K) (q : Nat) (hq : q ≤ ops.size) : ∃ p, q ≤ p ∧ p ≤ ops.size ∧ (∀ e, q ≤ e → e < p → ¬ C.eff e) ∧ (p < ops.size → C.eff p) := by
  have h := leastOf_spec (p := fun m => q ≤ m ∧ (m = ops.size ∨ C.eff m)) ⟨ops.size, hq, .inl rfl⟩
  generalize leastOf (fun m => q ≤ m ∧ (m = ops.size ∨ C.eff m)) = p at h
  obtain ⟨⟨h1, h2⟩, h3⟩ := h
  refine ⟨p, h1, ?_, ?_, ?_⟩
  · rcases h2 with h2 | h2
    · omega
    · have := h2.1; omega
  · intro e h4 h5 h6
    have := h3 e ⟨h4, .inr h6⟩
    omega
  · intro h4
    rcases h2 with h2 | h2
    · omega
    · exact h2
theorem INV.step3 (hF : IsW F) {S : Nat → Bool} {a : Act} {w : World} {σ : Sg} {p j : Nat} (I : INV C σ0 w0 S a w σ p) (hr : Ready ops S j) {o : Oper} {ao : AOper} (ho : ops[j]? = some o) (ha : C.alf[j]? = some ao)
    (hw : C.W j) (hc : clsO P ops j = 3) (hcl : clsA ao.op = clsO P ops j) {tl tl' : List Nat} {d : D} (g : Good ops sl fr0 C.T.v j tl (C.T.F j) (C.T.M j)) (hall : ∀ x ∈ o.op.operands, (compX ng sl tl x).isSome = true)
    (hd : compD N sl tl o.dst = some (d, tl')) (hao : ao.op = (compOp P o).map (fun x => (compX ng sl tl x).getD (.c undef))) {Q : Exit → Act → World → Prop} {next : Act → World → Prop}
    (hn : ∀ a' w' σ' p', INV C σ0 w0 (addS S j) a' w' σ' p' → next a' w') : o.wpIn F m P a w next Q := by
  have hj : j < ops.size := (Array.getElem?_eq_some_iff.1 ho).1
  have hpn := I.pn
  have hef : C.eff j := ⟨hj, hc, hw⟩
  have hjp : j = p := by
    rcases Nat.lt_trichotomy j p with h | h | h
    · have := I.lo j h hef
      rw [hr.1] at this; cases this
    · exact h
    · have hp := I.at_ (by omega)
      have := I.before hr (by omega) (C.look.eff p j h hj hp.2.1 hc)
      rw [I.hi p (Nat.le_refl _) hp] at this; cases this
  subst hjp
  have hs := (C.step hj ha).1 hw
  obtain ⟨p2, n1, n2, n3, n4⟩ := C.nextE (j + 1) (by omega)
  have hmx : max j j = j := by omega
  have hev : ∀ x ∈ o.op.operands, VR (cut σ (C.Nn j)) (((AX.ev (C.T.F j) (C.T.M j)) ∘ fun x => (compX ng sl tl x).getD (.c undef)) x) (a.eval x) := by
    intro x hx
    obtain ⟨ax, hax⟩ := Option.isSome_iff_exists.1 (hall x hx)
    simp only [Function.comp, hax, Option.getD_some]
    have := I.operand hr ho g hx hax
    rw [hmx] at this; exact this
  have hGlow : ∀ b, b < C.Nn j → C.GS j b = (C.T.H j).get b := by
    intro b hb
    have := (C.fst_spec (by omega) hb).1
    unfold Ctx.GS
    rw [show max j (C.fst b) = j by omega]
  have hR : HR ng (cut σ (C.Nn j)) (C.T.H j).get w := by
    refine ⟨?_, ?_, fun b i hb => I.lt b i (cut_inv hb).2, ?_⟩
    · intro b i hb
      obtain ⟨h1, h2⟩ := cut_inv hb
      obtain ⟨k1, k2, o1, k3, k4⟩ := I.obj b i h2
      have := (C.fst_spec (by omega) h1).1
      rw [show max j (C.fst b) = j by omega] at k4
      exact ⟨o1, by rw [← hGlow b h1]; exact k3, k4⟩
    · intro b1 b2 i1 i2 o1 o2 hne h1 h2 g1 g2
      obtain ⟨x1, x2⟩ := cut_inv h1
      obtain ⟨y1, y2⟩ := cut_inv h2
      rw [← hGlow b1 x1] at g1
      rw [← hGlow b2 y1] at g2
      exact I.inj b1 b2 i1 i2 o1 o2 hne x2 y2 g1 g2
    · intro gl hg
      obtain ⟨k1, i, k2, k3, k4⟩ := I.glob gl hg
      exact ⟨i, cut_of k2 (Nat.lt_of_lt_of_le k1 (C.mono (Nat.zero_le _) (by omega))), k3, k4⟩
  unfold StepC at hs
  rw [hao, map_map_op] at hs
  refine oper_wp hF hR hev hs ?_
  rintro v H' v' σ' w' ⟨rfl, rfl⟩ e3 e4 e5
  change HR ng σ' (C.T.H (j + 1)).get w' at e3
  have hmid : ∀ b, C.Nn j ≤ b → b < C.Nn (j + 1) → σ b = none := by
    intro b h1 h2
    cases e : σ b with
    | none => rfl
    | some i =>
      obtain ⟨f1, f2, f3⟩ := C.fst_spec (b := b) (m := j + 1) (by omega) h2
      have hf : C.fst b = j + 1 := by
        rcases Nat.lt_or_ge j (C.fst b) with h | h
        · omega
        · have := C.mono h (by omega)
          omega
      rcases (I.obj _ i e).2.1 with h | h
      · omega
      · rw [hf] at h
        have : S j = true := h
        rw [hr.1] at this; cases this
  have hm1 : C.Nn j ≤ C.Nn (j + 1) := C.mono1 hj
  have lowN : ∀ {b i}, σ b = some i → b < C.Nn (j + 1) → b < C.Nn j := fun {b i} h1 h2 => by
    rcases Nat.lt_or_ge b (C.Nn j) with h | h
    · exact h
    · rw [hmid b h h2] at h1; cases h1
  let σ2 : Sg := fun b => if b < C.Nn (j + 1) then σ' b else σ b
  have σ2lo : ∀ {b}, b < C.Nn (j + 1) → σ2 b = σ' b := fun {b} h => by simp only [σ2]; rw [if_pos h]
  have σ2hi : ∀ {b}, ¬ b < C.Nn (j + 1) → σ2 b = σ b := fun {b} h => by simp only [σ2]; rw [if_neg h]
  have hle : σ.le σ2 := by
    intro b i hb
    by_cases h : b < C.Nn (j + 1)
    · rw [σ2lo h]; exact e4.sub b i (cut_of hb (lowN hb h))
    · rw [σ2hi h]; exact hb
  have hle' : ∀ {m}, C.Nn (j + 1) ≤ m → σ'.le (cut σ2 m) := fun {m} hm b i hb => by
    have : b < C.Nn (j + 1) := by
      rcases Nat.lt_or_ge b (C.Nn (j + 1)) with h | h
      · exact h
      · have := e3.none_of_ge (b := b) h
        rw [this] at hb; cases hb
    exact cut_of (by rw [σ2lo this]; exact hb) (by omega)
  have G2lo : ∀ b, b < C.Nn (j + 1) → C.GS p2 b = (C.T.H (j + 1)).get b := by
    intro b hb
    have := (C.fst_spec (by omega) hb).1
    unfold Ctx.GS
    rw [show max p2 (C.fst b) = p2 by omega]
    exact C.stab hb n1 n2 (fun e h1 h2 h3 => absurd h3 (n3 e h1 h2))
  have G2hi : ∀ b i, ¬ b < C.Nn (j + 1) → σ b = some i → C.GS p2 b = C.GS j b := by
    intro b i hb hσ
    have hbn := (I.obj b i hσ).1
    obtain ⟨f1, f2, f3⟩ := C.fst_spec (Nat.le_refl _) hbn
    have hf : j + 1 < C.fst b := by
      rcases Nat.lt_or_ge (j + 1) (C.fst b) with h | h
      · exact h
      · exact absurd (Nat.lt_of_lt_of_le f2 (C.mono h (by omega))) hb
    unfold Ctx.GS
    rw [show max j (C.fst b) = C.fst b by omega]
    rcases Nat.lt_or_ge p2 (C.fst b) with h | h
    · rw [show max p2 (C.fst b) = C.fst b by omega]
    · rw [show max p2 (C.fst b) = p2 by omega]
      exact C.stab f2 h n2 (fun e h1 h2 h3 => absurd h3 (n3 e (by omega) h2))
  -- the old blocks of its own behind the bound are untouched
  have keepHi : ∀ {b i o1}, ¬ b < C.Nn (j + 1) → σ b = some i → C.GS j b = some o1 → o1.live = true → w'.heap[i.c]? = w.heap[i.c]? := by
    intro b i o1 hb hσ hG hl
    refine e4.keep _ (I.lt b i hσ) ?_
    intro b0 i0 o0 h1 h2 h3
    obtain ⟨x1, x2⟩ := cut_inv h1
    refine I.inj b0 b i0 i o0 o1 (by omega) x2 hσ (by rw [hGlow b0 x1]; exact h2) hG h3 hl
  have newc : ∀ {b i}, b < C.Nn (j + 1) → σ b = none → σ' b = some i → w.heap.size ≤ i.c ∨ ∃ b0 i0 o0, σ b0 = some i0 ∧ C.GS j b0 = some o0 ∧ o0.own = true ∧ i0.c = i.c ∧ b0 < C.Nn j := by
    intro b i _ h1 h2
    have : cut σ (C.Nn j) b = none := by
      unfold cut
      split
      · exact h1
      · rfl
    rcases (e4.new b i this h2).2 with h | ⟨b0, i0, o0, g1, g2, g3, g4⟩
    · exact .inl h
    · obtain ⟨x1, x2⟩ := cut_inv g1
      exact .inr ⟨b0, i0, o0, x2, by rw [hGlow b0 x1]; exact g2, g3, g4, x1⟩
  have ownc : ∀ {b i o'}, σ b = some i → b < C.Nn (j + 1) → (C.T.H (j + 1)).get b = some o' → (o'.own = true → ∃ o, C.GS j b = some o ∧ o.own = true) ∧ (o'.live = true → ∃ o, C.GS j b = some o ∧ o.live = true) := by
    intro b i o' h1 h2 h3
    have hb := lowN h1 h2
    rw [hGlow b hb]
    exact ⟨e4.own b i o' (cut_of h1 hb) h3, e4.live b i o' (cut_of h1 hb) h3⟩
  refine hn _ _ σ2 p2 ?_
  refine ⟨I.cl.add hr, n2, ?_, ?_, n4, by rw [put_size]; exact I.size, by rw [put_dfr]; exact I.dfr, ?_, ?_, ?_, ?_, ?_, ?_, ?_⟩
  · intro e he hf
    rcases Nat.lt_trichotomy e j with h | h | h
    · exact addS_of (I.lo e h hf)
    · subst h; exact addS_same S e
    · exact absurd hf (n3 e h he)
  · intro e he hf
    rw [addS_ne (by omega)]
    exact I.hi e (by omega) hf
  · refine I.env' ho hd hle (by omega) n2 ?_
    rw [show max p2 (j + 1) = p2 by omega]
    exact e5.mono (hle' (C.mono n1 n2))
  · intro b i hb
    by_cases h : b < C.Nn (j + 1)
    · rw [σ2lo h] at hb
      obtain ⟨o1, k1, k2⟩ := e3.obj b i hb
      obtain ⟨f1, f2, f3⟩ := C.fst_spec (b := b) (m := j + 1) (by omega) h
      refine ⟨Nat.lt_of_lt_of_le h (C.mono (by omega) (Nat.le_refl _)), ?_, o1, by rw [G2lo b h]; exact k1, k2.mono (hle' (C.mono (by omega) (by omega)))⟩
      cases hσ : σ b with
      | some i2 => exact (I.obj b i2 hσ).2.1.imp id addS_of
      | none =>
        rcases Nat.lt_or_ge (C.fst b) (j + 1) with h2 | h2
        · have hbj : b < C.Nn j := Nat.lt_of_lt_of_le f2 (C.mono (by omega) (by omega))
          have : cut σ (C.Nn j) b = none := by unfold cut; rw [if_pos hbj]; exact hσ
          have := (e4.new b i this hb).1.1
          simp only [Ctx.Nn] at hbj
          omega
        · right
          rw [show C.fst b - 1 = j by omega]
          exact addS_same S j
    · rw [σ2hi h] at hb
      obtain ⟨k1, k2, o1, k3, k4⟩ := I.obj b i hb
      refine ⟨k1, k2.imp id addS_of, o1, by rw [G2hi b i h hb]; exact k3, (k4.mono ?_).congr (fun hl => keepHi h hb k3 hl)⟩
      obtain ⟨f1, f2, f3⟩ := C.fst_spec (Nat.le_refl _) k1
      exact fun b' i' hb' => cut_mono σ2 (C.mono (by omega) (by omega)) b' i' (cut_cut_le hle _ b' i' hb')
  · intro b1 b2 i1 i2 o1 o2 hne h1 h2 g1 g2 ow lv
    by_cases x1 : b1 < C.Nn (j + 1)
    · rw [σ2lo x1] at h1
      rw [G2lo b1 x1] at g1
      by_cases x2 : b2 < C.Nn (j + 1)
      · rw [σ2lo x2] at h2
        rw [G2lo b2 x2] at g2
        exact e3.inj b1 b2 i1 i2 o1 o2 hne h1 h2 g1 g2 ow lv
      · rw [σ2hi x2] at h2
        rw [G2hi b2 i2 x2 h2] at g2
        cases hσ : σ b1 with
        | some i1' =>
          have := e4.sub b1 i1' (cut_of hσ (lowN hσ x1))
          rw [h1] at this; cases this
          obtain ⟨o0, q1, q2⟩ := (ownc hσ x1 g1).1 ow
          exact I.inj b1 b2 i1 i2 o0 o2 hne hσ h2 q1 g2 q2 lv
        | none =>
          rcases newc x1 hσ h1 with h | ⟨b0, i0, o0, q1, q2, q3, q4, q5⟩
          · have := I.lt b2 i2 h2
            omega
          · rw [← q4]
            exact I.inj b0 b2 i0 i2 o0 o2 (by omega) q1 h2 q2 g2 q3 lv
    · rw [σ2hi x1] at h1
      rw [G2hi b1 i1 x1 h1] at g1
      by_cases x2 : b2 < C.Nn (j + 1)
      · rw [σ2lo x2] at h2
        rw [G2lo b2 x2] at g2
        cases hσ : σ b2 with
        | some i2' =>
          have := e4.sub b2 i2' (cut_of hσ (lowN hσ x2))
          rw [h2] at this; cases this
          obtain ⟨o0, q1, q2⟩ := (ownc hσ x2 g2).2 lv
          exact I.inj b1 b2 i1 i2 o1 o0 hne h1 hσ g1 q1 ow q2
        | none =>
          rcases newc x2 hσ h2 with h | ⟨b0, i0, o0, q1, q2, q3, q4, q5⟩
          · have := I.lt b1 i1 h1
            omega
          · rw [← q4]
            exact I.inj b1 b0 i1 i0 o1 o0 (by omega) h1 q1 g1 q2 ow (AO.live_of_own q3)
      · rw [σ2hi x2] at h2
        rw [G2hi b2 i2 x2 h2] at g2
        exact I.inj b1 b2 i1 i2 o1 o2 hne h1 h2 g1 g2 ow lv
  · intro b i hb
    by_cases h : b < C.Nn (j + 1)
    · rw [σ2lo h] at hb; exact e3.lt b i hb
    · rw [σ2hi h] at hb; exact Nat.lt_of_lt_of_le (I.lt b i hb) e4.size
  · intro gl hg
    obtain ⟨k1, k, k2, k3, k4⟩ := I.glob gl hg
    exact ⟨k1, k, hle gl k k2, k3, k4⟩
  · refine I.ext.trans ⟨hle, ?_, ?_, ?_, ?_, e4.size, e4.os, e4.tape, e4.output⟩
    · intro b i h1 h2
      by_cases h : b < C.Nn (j + 1)
      · rw [σ2lo h] at h2
        rcases newc h h1 h2 with h | ⟨b0, i0, o0, q1, q2, q3, q4, q5⟩
        · exact .inl h
        · exact .inr ⟨b0, i0, o0, q1, q2, q3, q4⟩
      · rw [σ2hi h, h1] at h2; cases h2
    · intro b i o' h1 h2 h3
      by_cases h : b < C.Nn (j + 1)
      · rw [G2lo b h] at h2; exact (ownc h1 h h2).1 h3
      · rw [G2hi b i h h1] at h2; exact ⟨o', h2, h3⟩
    · intro b i o' h1 h2 h3
      by_cases h : b < C.Nn (j + 1)
      · rw [G2lo b h] at h2; exact (ownc h1 h h2).2 h3
      · rw [G2hi b i h h1] at h2; exact ⟨o', h2, h3⟩
    · intro k hk hno
      refine e4.keep k hk ?_
      intro b i o1 h1 h2 h3
      obtain ⟨x1, x2⟩ := cut_inv h1
      exact hno b i o1 x2 (by rw [hGlow b x1]; exact h2) h3
  · intro b hb
    have hb0 : b < C.Nn j := Nat.lt_of_lt_of_le hb (C.mono (Nat.zero_le _) (by omega))
    rw [σ2lo (by omega), ← I.old b hb]
    cases hσ : σ b with
    | some i => exact e4.sub b i (cut_of hσ hb0)
    | none =>
      cases hσ' : σ' b with
      | none => rfl
      | some i =>
        have : cut σ (C.Nn j) b = none := by unfold cut; rw [if_pos hb0]; exact hσ
        have := (e4.new b i this hσ').1.1
        simp only [Ctx.Nn] at hb0
        omega
theorem INV.step (hF : IsW F) {S : Nat → Bool} {a : Act} {w : World} {σ : Sg} {p j : Nat} (I : INV C σ0 w0 S a w σ p) (hr : Ready ops S j) (hj : j < ops.size) {Q : Exit → Act → World → Prop} {next : Act → World → Prop}
    (hn : ∀ a' w' σ' p', INV C σ0 w0 (addS S j) a' w' σ' p' → next a' w') : wpOpIn F m P ops Q j next a w := by
  obtain ⟨o, ao, ho, ha, e3, row, hcl⟩ := C.row hj
  obtain ⟨tl, tl', g, hall, hg, hd, hao⟩ := row.ex
  unfold wpOpIn
  rw [ho]
  simp only
  rw [I.guard hr ho g hg]
  split
  · rename_i hwt
    have hw : C.W j := ⟨ao, ha, hwt⟩
    have h4 : clsO P ops j ≤ 3 := by
      unfold clsO
      rw [ho]
      simp only [Option.map_some, Option.getD_some]
      generalize compOp P o = q
      cases q <;> simp [clsA]
    by_cases h1 : clsO P ops j = 0 ∨ clsO P ops j = 1
    · exact I.step1 hF hr ho ha hw h1 hcl g hall hd hao (fun a' w' h => hn a' w' σ p h)
    · by_cases h2 : clsO P ops j = 2
      · exact I.step2 hF hr ho ha hw h2 hcl g hall hd hao (fun a' w' σ' h => hn a' w' σ' p h)
      · exact I.step3 hF hr ho ha hw (by omega) hcl g hall hd hao hn
  · rename_i hwt
    refine ⟨fun f _ => hF.fn f, hn _ _ σ p (I.step0 hr ho ha ?_ hd)⟩
    rintro ⟨ao2, h1, h2⟩
    rw [ha] at h1; cases h1
    exact hwt h2
theorem INV.init (C : Ctx P ng N sl ops uns fr0 H0 K) {a : Act} {w : World} (he : ER σ0 N sl [] C.ds fr0 [] a) (hR : HR ng σ0 H0.get w) : ∃ p, INV C σ0 w (fun _ => false) a w σ0 p := by
  obtain ⟨p, n1, n2, n3, n4⟩ := C.nextE 0 (Nat.zero_le _)
  have hH : C.T.H 0 = H0 := C.T.hH
  have hN : C.Nn 0 = H0.n := by unfold Ctx.Nn; rw [hH]
  have hb : ∀ b i, σ0 b = some i → b < C.Nn 0 := by
    intro b i h
    rw [hN]
    rcases Nat.lt_or_ge b H0.n with h1 | h1
    · exact h1
    · rw [hR.none_of_ge h1] at h; cases h
  have hcut : ∀ {m}, m ≤ ops.size → σ0.le (cut σ0 (C.Nn m)) := fun {m} hm b i h => cut_of h (Nat.lt_of_lt_of_le (hb b i h) (C.mono (Nat.zero_le _) hm))
  have hf : ∀ b i, σ0 b = some i → C.fst b = 0 := fun b i h => by
    have := (C.fst_spec (Nat.zero_le _) (hb b i h)).1
    omega
  have hG : ∀ b i, σ0 b = some i → C.GS p b = H0.get b := fun b i h => by
    unfold Ctx.GS
    rw [hf b i h, show max p 0 = p by omega]
    exact (C.stab (hb b i h) n1 n2 (fun e h1 h2 h3 => absurd h3 (n3 e h1 h2))).trans (congrArg (fun X : AHeap => X.get b) hH)
  refine ⟨p, ⟨fun j o _ h => absurd h (by simp), n2, fun e h1 h2 => absurd h2 (n3 e (Nat.zero_le _) h1), fun _ _ _ => rfl, n4, he.size, he.dfr, ?_, ?_, ?_, hR.lt, ?_, ?_, fun _ _ => rfl⟩⟩
  · intro t u hu
    have h1 : C.ES (fun _ => false) t = E0 sl fr0 t := by unfold Ctx.ES; cases wr ops t <;> simp
    have h2 : bd ops p (fun _ => false) t = p := by unfold bd; cases wr ops t <;> simp
    rw [h1] at hu
    rw [h2]
    unfold E0 at hu
    simp only [Option.bind_eq_some_iff] at hu
    obtain ⟨i, hi, hu⟩ := hu
    obtain ⟨u', k1, k2⟩ := he.frv i t u (posOf_get hi) hu
    exact ⟨u', k1, k2.mono (hcut n2)⟩
  · intro b i h
    obtain ⟨o, k1, k2⟩ := hR.obj b i h
    refine ⟨Nat.lt_of_lt_of_le (hb b i h) (C.mono (Nat.zero_le _) (Nat.le_refl _)), .inl (hf b i h), o, by rw [hG b i h]; exact k1, k2.mono (hcut ?_)⟩
    rw [hf b i h]; omega
  · intro b1 b2 i1 i2 o1 o2 hne h1 h2 g1 g2
    rw [hG b1 i1 h1] at g1
    rw [hG b2 i2 h2] at g2
    exact hR.inj b1 b2 i1 i2 o1 o2 hne h1 h2 g1 g2
  · intro gl hg
    obtain ⟨i, k1, k2, k3⟩ := hR.glob gl hg
    exact ⟨hb gl i k1, i, k1, k2, k3⟩
  · refine ⟨Sg.le.refl σ0, fun b i h h' => (by rw [h] at h'; cases h'), ?_, ?_, fun _ _ _ => rfl, Nat.le_refl _, rfl, rfl, rfl⟩
    · intro b i o' h g o; rw [hG b i h] at g; exact ⟨o', g, o⟩
    · intro b i o' h g o; rw [hG b i h] at g; exact ⟨o', g, o⟩
theorem INV.final {S : Nat → Bool} {a : Act} {w w1 : World} {σ : Sg} {p : Nat} (I : INV C σ0 w1 S a w σ p) (hS : ∀ i, i < ops.size → S i = true) :
    ER σ N sl [] C.ds (C.T.F ops.size) [] a ∧ HR ng σ (C.T.H ops.size).get w ∧ Ext H0.n σ0 H0.get w1 (C.T.H ops.size).n σ (C.T.H ops.size).get w := by
  have hp : p = ops.size := by
    have := I.pn
    rcases Nat.lt_or_ge p ops.size with h | h
    · have h1 := I.hi p (Nat.le_refl _) (I.at_ h)
      rw [hS p h] at h1; cases h1
    · omega
  subst hp
  have hH : C.T.H 0 = H0 := C.T.hH
  have hN : C.Nn 0 = H0.n := by unfold Ctx.Nn; rw [hH]
  have hf : ∀ b i, σ b = some i → b < C.Nn ops.size ∧ C.fst b ≤ ops.size ∧ C.GS ops.size b = (C.T.H ops.size).get b := fun b i h => by
    have h1 := (I.obj b i h).1
    have h2 := (C.fst_spec (Nat.le_refl _) h1).1
    refine ⟨h1, h2, ?_⟩
    unfold Ctx.GS
    rw [show max ops.size (C.fst b) = ops.size by omega]
  obtain ⟨tl, g⟩ := C.endG
  refine ⟨⟨I.size, g.frl, rfl, ?_, fun i s v h => by simp at h, I.dfr⟩, ⟨?_, ?_, I.lt, ?_⟩, ?_⟩
  · intro i s v h1 h2
    have h3 := g.fr i s h1
    rw [h2] at h3
    have h4 : C.ES S s = some v := by
      rw [h3]
      unfold Ctx.ES Ev
      cases hw : wr ops s with
      | none => rfl
      | some k =>
        have hk : k < ops.size := by
          have := List.mem_of_find?_eq_some hw
          simpa using this
        simp [hS k hk, hk]
    obtain ⟨u', k1, k2⟩ := I.env s v h4
    exact ⟨u', k1, k2.mono (cut_le _ _)⟩
  · intro b i h
    obtain ⟨h1, h2, h3⟩ := hf b i h
    obtain ⟨k1, k2, o, k3, k4⟩ := I.obj b i h
    exact ⟨o, by rw [← h3]; exact k3, k4.mono (cut_le _ _)⟩
  · intro b1 b2 i1 i2 o1 o2 hne h1 h2 g1 g2
    rw [← (hf b1 i1 h1).2.2] at g1
    rw [← (hf b2 i2 h2).2.2] at g2
    exact I.inj b1 b2 i1 i2 o1 o2 hne h1 h2 g1 g2
  · intro gl hg
    obtain ⟨k1, i, k2, k3, k4⟩ := I.glob gl hg
    exact ⟨i, k2, k3, k4⟩
  · have e := I.ext
    refine ⟨e.sub, ?_, ?_, ?_, e.keep, e.size, ?_, e.os, e.tape, e.output⟩
    · intro b i h1 h2
      refine ⟨⟨?_, (hf b i h2).1⟩, e.new b i h1 h2⟩
      rcases Nat.lt_or_ge b H0.n with h | h
      · rw [I.old b (by omega), h1] at h2; cases h2
      · exact h
    · intro b i o' h1 h2 h3
      rw [← (hf b i (e.sub b i h1)).2.2] at h2
      exact e.own b i o' h1 h2 h3
    · intro b i o' h1 h2 h3
      rw [← (hf b i (e.sub b i h1)).2.2] at h2
      exact e.live b i o' h1 h2 h3
    · have := C.mono (Nat.zero_le ops.size) (Nat.le_refl _)
      rw [hN] at this; exact this
end
end Go.AM

set_option linter.unusedSimpArgs false
set_option linter.unusedVariables false
namespace Go.AM
def cntU (n : Nat) (S : Nat → Bool) : Nat := ((List.range n).filter fun i => !S i).length
theorem cntU_add {S : Nat → Bool} {j : Nat} (hS : S j = false) : ∀ {n : Nat}, (j < n → cntU n (addS S j) + 1 = cntU n S) ∧ (n ≤ j → cntU n (addS S j) = cntU n S) := by
  intro n
  induction n with
  | zero => exact ⟨fun h => by omega, fun _ => rfl⟩
  | succ n ih =>
    have step : ∀ T : Nat → Bool, cntU (n + 1) T = cntU n T + if T n then 0 else 1 := by
      intro T
      unfold cntU
      rw [List.range_succ, List.filter_append, List.length_append]
      congr 1
      cases h : T n <;> simp [h]
    rw [step, step]
    constructor
    · intro h
      by_cases e : j = n
      · subst e
        rw [addS_same, hS, ih.2 (Nat.le_refl _)]
        simp
      · rw [addS_ne (Ne.symm e)]
        have := ih.1 (by omega)
        omega
    · intro h
      rw [addS_ne (by omega), ih.2 (by omega)]
theorem cntU_zero {S : Nat → Bool} {n : Nat} (h : cntU n S = 0) : ∀ i, i < n → S i = true := by
  intro i hi
  unfold cntU at h
  rw [List.length_eq_zero_iff, List.filter_eq_nil_iff] at h
  have := h i (by simpa using hi)
  simpa using this
section
variable {P : Program} {ng N : Nat} {sl : List Nat} {ops : Array Oper} {uns : List (List Nat)} {fr0 : List Value} {H0 : AHeap} {K : List Value → AHeap → Prop} {C : Ctx P ng N sl ops uns fr0 H0 K}
variable {σ0 : Sg} {w0 : World} {F : Fence} {m : Nat}
theorem no_ready {S : Nat → Bool} (hl : Look P ops uns) (h : ∀ j, j < ops.size → ¬ Ready ops S j) : ∀ n i, i < n → i < ops.size → S i = true := by
  intro n
  induction n with
  | zero => intro i h; omega
  | succ n ih =>
    intro i hi hio
    cases hs : S i with
    | true => rfl
    | false =>
      exfalso
      refine h i hio ⟨hs, fun o ho e he hb => ?_⟩
      have := hl.edge i o e ho he hb
      exact ih e.on (by omega) (by omega)
theorem INV.all (hF : IsW F) (hQ : Exit → Act → World → Prop) (hfin : ∀ S a w σ p, INV C σ0 w0 S a w σ p → (∀ i, i < ops.size → S i = true) → hQ .normal a w) :
    ∀ (fuel : Nat) (S : Nat → Bool) (listed : Array Bool) (a : Act) (w : World) (σ : Sg) (p : Nat), listed.size = ops.size → (∀ i, i < ops.size → listed[i]? = some (S i)) → cntU ops.size S = fuel →
      INV C σ0 w0 S a w σ p → wpAnyIn F m P .any ops hQ fuel listed a w
  | 0, S, listed, a, w, σ, p, hsz, hl, hc, I => by
    have hall := cntU_zero hc
    refine ⟨?_, hfin S a w σ p I hall⟩
    rw [List.eq_nil_iff_forall_not_mem]
    intro j hj
    obtain ⟨h1, o, h2, h3⟩ := mem_ready.1 hj
    have hjo : j < ops.size := (Array.getElem?_eq_some_iff.1 h2).1
    rw [Array.getD_eq_getD_getElem?, hl j hjo, hall j hjo] at h1
    cases h1
  | fuel + 1, S, listed, a, w, σ, p, hsz, hl, hc, I => by
    have rdy : ∀ j, j ∈ Region.ready .any ops listed ↔ (j < ops.size ∧ Ready ops S j) := by
      intro j
      rw [mem_ready]
      constructor
      · rintro ⟨h1, o, h2, h3⟩
        have hjo : j < ops.size := (Array.getElem?_eq_some_iff.1 h2).1
        refine ⟨hjo, ?_, ?_⟩
        · rw [Array.getD_eq_getD_getElem?, hl j hjo] at h1; simpa using h1
        · intro o' ho' e he hb
          rw [h2] at ho'; cases ho'
          have h4 := h3 e he hb
          have := C.look.edge j o e h2 he hb
          rw [Array.getD_eq_getD_getElem?, hl e.on (by omega)] at h4
          simpa using h4
      · rintro ⟨hjo, h1, h2⟩
        refine ⟨by rw [Array.getD_eq_getD_getElem?, hl j hjo, h1]; rfl, ops[j], Array.getElem?_eq_getElem hjo, ?_⟩
        intro e he hb
        have := C.look.edge j _ e (Array.getElem?_eq_getElem hjo) he hb
        rw [Array.getD_eq_getD_getElem?, hl e.on (by omega), h2 _ (Array.getElem?_eq_getElem hjo) e he hb]
        rfl
    refine ⟨?_, ?_⟩
    · intro hnil
      refine hfin S a w σ p I (fun i hi => no_ready C.look (fun j hj hr => ?_) (i + 1) i (by omega) hi)
      have := (rdy j).2 ⟨hj, hr⟩
      rw [hnil] at this
      simp at this
    · intro j hj
      obtain ⟨hjo, hr⟩ := (rdy j).1 hj
      refine I.step hF hr hjo ?_
      intro a' w' σ' p' I'
      refine INV.all hF hQ hfin fuel (addS S j) _ a' w' σ' p' (by simpa using hsz) ?_ ?_ I'
      · intro i hi
        by_cases e : j = i
        · subst e
          rw [addS_same]
          simp [hsz, hi]
        · rw [Array.getElem?_setIfInBounds_ne e, addS_ne (Ne.symm e)]
          exact hl i hi
      · have := (cntU_add (S := S) hr.1 (n := ops.size)).1 hjo
        omega
theorem cntU_false (n : Nat) : cntU n (fun _ => false) = n := by
  unfold cntU
  rw [List.filter_eq_self.2 (by simp)]
  simp
theorem RD_sound (hF : IsW F) (hnd : sl.Nodup) {al : List AOper} (hcr : compR P ng N sl ops ops.toList [] = some al) (hok : drawOK P ops uns = true) {a : Act} {w : World} {ds : List Deferred} (he : ER σ0 N sl [] ds fr0 [] a) (hR : HR ng σ0 H0.get w)
    (hrd : RD P ng (al.zip uns) fr0 [] H0 [] K) {Q : Exit → Act → World → Prop}
    (hQ : ∀ a' w' σ' fr' H', ER σ' N sl [] ds fr' [] a' → HR ng σ' H'.get w' → Ext H0.n σ0 H0.get w H'.n σ' H'.get w' → K fr' H' → Q .normal a' w') :
    wpAnyIn F m P .any ops Q ops.size (Array.replicate ops.size false) a w := by
  have hlk := drawOK_spec hok
  obtain ⟨T⟩ := RD_trace _ _ _ _ _ hrd
  have hlen : al.length = ops.size := by
    have : ∀ (l : List Oper) (tl : List Nat) (al : List AOper), compR P ng N sl ops l tl = some al → al.length = l.length := by
      intro l
      induction l with
      | nil => intro tl al h; simp only [compR, Option.some.injEq] at h; subst h; rfl
      | cons o l ih =>
        intro tl al h
        simp only [compR] at h
        split at h
        · split at h
          · simp only [Option.map_eq_some_iff] at h
            obtain ⟨al', h1, rfl⟩ := h
            simp [ih _ _ h1]
          · cases h
        · cases h
    simpa using this _ _ _ hcr
  have hz : ∀ (k : Nat) (ao : AOper), al[k]? = some ao → (al.zip uns)[k]? = some (ao, uns.getD k []) := by
    intro k ao h
    have hk : k < al.length := (List.getElem?_eq_some_iff.1 h).1
    rw [List.getElem?_zip_eq_some]
    refine ⟨h, ?_⟩
    have : k < uns.length := by rw [hlk.len]; omega
    simp [List.getD, List.getElem?_eq_getElem this]
  have hg0 : Good ops sl fr0 T.v 0 [] (T.F 0) (T.M 0) := by
    rw [T.hF, T.hM]
    refine ⟨he.frl, rfl, ?_, fun i s h => by simp at h, fun t h => by simp at h⟩
    intro i s h
    have e1 : Ev ops sl fr0 T.v 0 s = E0 sl fr0 s := by unfold Ev; cases wr ops s <;> simp
    rw [e1]
    unfold E0
    rw [posOf_some hnd h]
    rfl
  obtain ⟨r1, tl', r2, r3⟩ := rows_of (P := P) (ng := ng) (N := N) hnd hlk (v := T.v) (F := T.F) (M := T.M) al
    (fun j ao h => T.stepF j ao _ (hz j ao h)) (fun j ao h => T.stepM j ao _ (hz j ao h)) ops.toList [] al 0 (by simp) (by simp) hcr hg0
  have e0 : ops.toList.length = ops.size := by simp
  let C : Ctx P ng N sl ops uns fr0 H0 K :=
    { alf := al, T := T, look := hlk, nd := hnd
      rows := fun k o h => by
        obtain ⟨ao, h1, h2⟩ := r1 k o (by simpa using h)
        rw [Nat.zero_add] at h1 h2
        exact ⟨ao, h1, hz k ao h1, h2⟩
      endG := ⟨tl', by rw [Nat.zero_add, e0] at r2; exact r2⟩
      fin := by
        have := T.fin
        have e : (al.zip uns).length = ops.size := by rw [List.length_zip, hlk.len, hlen]; omega
        rw [e] at this
        exact this
      ds := ds }
  obtain ⟨p, I⟩ := INV.init C he hR
  refine INV.all hF (C := C) Q ?_ ops.size (fun _ => false) _ a w σ0 p (by simp) (fun i hi => by simp [hi]) (cntU_false _) I
  intro S a' w' σ' p' I' hS
  obtain ⟨k1, k2, k3⟩ := I'.final hS
  exact hQ a' w' σ' _ _ k1 k2 k3 C.fin
def drawUns (P : Program) (ops : Array Oper) : List (List Nat) :=
  (List.range ops.size).map fun j => (List.range j).filter fun i =>
    ((clsO P ops i == 3 && clsO P ops j == 1) || ((clsO P ops i == 1 || clsO P ops i == 2) && clsO P ops j == 3)) && !ordB (anc ops) i j
end
end Go.AM
