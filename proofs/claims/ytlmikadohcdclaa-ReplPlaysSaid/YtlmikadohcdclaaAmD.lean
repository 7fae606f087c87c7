/- The abstract machine, part D: new blocks, append, slices, conversions, arithmetic: what an abstract operation yields, the model's operation yields. -/
import Derived.Test.YtlmikadohcdclaaAmC
set_option linter.unusedSimpArgs false
set_option linter.unusedVariables false
namespace Go.AM

section
variable {P : Program} {ng : Nat} {σ : Sg} {H H' : AHeap} {w : World} {v : Value}

theorem VL.oneAll {l : List Value} (h : l.all Value.oneCell' = true) : ∀ u ∈ l, u.oneCell' = true := fun u hu => List.all_eq_true.1 h u hu

/-- A new block with just these cells. -/
theorem new_block (hr : HR ng σ H.get w) {e : TypeId} {room : Bool} {esz : Nat} {c c' : List Value} (hv : VL σ c c') (h1 : ∀ u ∈ c, u.oneCell' = true) :
    HR ng (σ.up H.n ⟨w.heap.size, 0, c.length, c'.length, esz, room⟩) (H.alloc (.cells true room esz c e)).get (w.alloc (.cells c'.toArray e)) ∧
    Ext H.n σ H.get w (H.alloc (.cells true room esz c e)).n (σ.up H.n ⟨w.heap.size, 0, c.length, c'.length, esz, room⟩) (H.alloc (.cells true room esz c e)).get (w.alloc (.cells c'.toArray e)) := by
  have hl := hv.length
  have hor : OR σ (w.alloc (.cells c'.toArray e)) ⟨w.heap.size, 0, c.length, c'.toArray.size, esz, room⟩ (.cells true room esz c e) :=
    OR.cells_new (w := w) true room esz (by simp [hl]) h1 (by rw [hl]; simpa using hv) (fun _ => .inl rfl)
  simp only [List.size_toArray] at hor
  exact hr.alloc rfl hor rfl rfl rfl rfl

theorem res_new (hr : HR ng σ H.get w) {e n : Nat} {z : Value} (hz : zeroT P e = some z) (hp : VL σ z.cells.toList z.cells.toList) (hs : asem (.new e n z.cells.toList) H = some (v, H')) :
    Res ng σ H w ((do pure (Next.value (← Instr.alloc e true (.tuple #[]))) : Sem Next).run P w) v H' := by
  simp only [asem] at hs
  split at hs
  · rename_i h1
    cases hs
    obtain ⟨e1, e2⟩ := new_block hr (e := e) (room := false) (esz := n) hp (VL.oneAll h1)
    refine ⟨_, .pointer (some ⟨w.heap.size, 0, none⟩), _, _, ?_, .inl rfl, e1, e2, ?_⟩
    · simp [Instr.alloc, run_zeroT hz, newVar, newRow]
    · exact VR.ptr (i := ⟨w.heap.size, 0, _, _, _, _⟩) (Sg.up_same _ _ _)
  · cases hs

theorem res_box (hr : HR ng σ H.get w) {e n : Nat} {x x' : Value} (hx : VR σ x x') (hs : asem (.box e n x) H = some (v, H')) :
    Res ng σ H w ((do pure (Next.value (← Instr.box e x')) : Sem Next).run P w) v H' := by
  simp only [asem] at hs
  split at hs
  · rename_i h1
    cases hs
    obtain ⟨e1, e2⟩ := new_block hr (e := e) (room := false) (esz := n) hx.cells (VL.oneAll h1)
    refine ⟨_, .pointer (some ⟨w.heap.size, 0, none⟩), _, _, ?_, .inl rfl, e1, e2, ?_⟩
    · simp [Instr.box, newVar, newRow]
    · exact VR.ptr (i := ⟨w.heap.size, 0, _, _, _, _⟩) (Sg.up_same _ _ _)
  · cases hs

/-- A row of the places of a type's parts. -/
theorem run_fill {σ : Sg} (pl : Nat → Option (Nat × Nat)) : ∀ (ps : List (Nat × Nat × Value)) (qs : List (Nat × Value)) (c c' r : List Value), VL σ c c' →
    ps.length = qs.length → (∀ (j o n : Nat) (v : Value), ps[j]? = some (o, n, v) → ∃ i v', qs[j]? = some (i, v') ∧ pl i = some (o, n) ∧ VR σ v v') → fillA c ps = some r →
    ∃ r', Instr.fill pl c'.toArray qs = some r'.toArray ∧ VL σ r r'
  | [], [], c, c', r, hc, _, _, hf => by simp [fillA] at hf; subst hf; exact ⟨c', by simp [Instr.fill], hc⟩
  | [], _ :: _, _, _, _, _, hl, _, _ => by simp at hl
  | _ :: _, [], _, _, _, _, hl, _, _ => by simp at hl
  | (o, n, v) :: ps, q :: qs, c, c', r, hc, hl, hq, hf => by
    obtain ⟨i, v', e1, e2, e3⟩ := hq 0 o n v rfl
    simp at e1; subst e1
    simp only [fillA] at hf
    split at hf
    · rename_i hcond
      obtain ⟨k1, k2⟩ := hcond
      have hvc := e3.cells
      have hsz : v'.cells.size = n := by rw [← Array.length_toList, ← hvc.length]; exact k1
      have hcl := hc.length
      have hstep : (v'.cells.zipIdx.foldl (fun cs (x, j) => cs.setIfInBounds (o + j) x) c'.toArray) = (c'.take o ++ v'.cells.toList ++ c'.drop (o + n)).toArray := by
        have gen : ∀ (l : List Value) (k : Nat) (d : List Value), o + k + l.length ≤ d.length →
            ((l.zipIdx k).foldl (fun cs (x, j) => cs.setIfInBounds (o + j) x) d.toArray) = (d.take (o + k) ++ l ++ d.drop (o + k + l.length)).toArray := by
          intro l
          induction l with
          | nil => intro k d _; simp
          | cons a l ih =>
            intro k d hd
            simp only [List.zipIdx_cons, List.foldl_cons, List.setIfInBounds_toArray]
            simp only [List.length_cons] at hd
            rw [ih (k + 1) (d.set (o + k) a) (by simp; omega)]
            congr 1
            apply List.ext_getElem?
            intro j
            simp only [List.getElem?_append, List.getElem?_take, List.getElem?_drop, List.getElem?_set, List.length_take, List.length_append, List.length_set, List.length_cons, List.getElem?_cons]
            by_cases h1 : j < o + k
            · rw [if_pos (by omega), if_pos (by omega), if_pos (by omega), if_neg (by omega), if_pos (by omega), if_pos (by omega), if_pos (by omega)]
            · by_cases h2 : j = o + k
              · subst h2
                rw [if_pos (by omega), if_pos (by omega), if_pos (by omega), if_pos rfl, if_pos (by omega), if_pos (by omega), if_neg (by omega), if_pos (by omega)]
              · by_cases h3 : j < o + k + 1 + l.length
                · rw [if_pos (by omega), if_neg (by omega), if_pos (by omega), if_neg (by omega), if_neg (by omega)]
                  congr 1; omega
                · rw [if_neg (by omega), if_neg (by omega), if_neg (by omega)]
                  congr 1; omega
        have := gen v'.cells.toList 0 c' (by rw [Array.length_toList, hsz]; omega)
        simp only [Nat.add_zero, Array.length_toList, hsz] at this
        rw [← this, ← Array.foldl_toList]
        congr 1
        simp
      obtain ⟨r', f1, f2⟩ := run_fill pl ps qs (c.take o ++ v.cells.toList ++ c.drop (o + n)) (c'.take o ++ v'.cells.toList ++ c'.drop (o + n)) r
        (((hc.take o).append hvc).append (hc.drop _)) (by simpa using hl) (fun j o' n' u hj => by simpa using hq (j + 1) o' n' u (by simpa using hj)) hf
      refine ⟨r', ?_, f2⟩
      simp only [Instr.fill, e2, hsz]
      rw [if_neg (by simp; omega), hstep]
      exact f1
    · cases hf


theorem placesT_get {fs : Array Field} (ev : Operand → Value) : ∀ (ps : List (Nat × Operand)) (qs : List (Nat × Nat × Operand)), placesT P fs ps = some qs →
    (qs.map fun p => (p.1, p.2.1, ev p.2.2)).length = ps.length ∧ ∀ (j o n : Nat) (v : Value), (qs.map fun p => (p.1, p.2.1, ev p.2.2))[j]? = some (o, n, v) →
      ∃ i x f, ps[j]? = some (i, x) ∧ fs[i]? = some f ∧ f.offset = o ∧ sizeT P f.type = some n ∧ v = ev x
  | [], qs, h => by simp [placesT] at h; subst h; simp
  | (i, x) :: ps, qs, h => by
    simp only [placesT] at h
    split at h
    · rename_i f hf
      split at h
      · rename_i n l hn hl
        cases h
        obtain ⟨e1, e2⟩ := placesT_get ev ps l hl
        refine ⟨by simpa using e1, fun j o m v hj => ?_⟩
        cases j with
        | zero =>
          simp at hj
          obtain ⟨rfl, rfl, rfl⟩ := hj
          exact ⟨i, x, f, rfl, hf, rfl, hn, rfl⟩
        | succ j => simpa using e2 j o m v (by simpa using hj)
      · cases h
    · cases h

theorem run_mapM_places (fs : Array Field) (ns : List Nat) (h : fs.toList.mapM (fun f => sizeT P f.type) = some ns) (w : World) :
    (fs.mapM fun f => do pure (f.offset, ← sizeOf f.type) : Sem (Array (Nat × Nat))).run P w = .ok (fs.toList.map fun f => (f.offset, (sizeT P f.type).getD 0)).toArray w := by
  rw [Array.mapM_eq_mapM_toList]
  have gen : ∀ (l : List Field) (ns : List Nat), l.mapM (fun f => sizeT P f.type) = some ns →
      (l.mapM fun f => do pure (f.offset, ← sizeOf f.type) : Sem (List (Nat × Nat))).run P w = .ok (l.map fun f => (f.offset, (sizeT P f.type).getD 0)) w := by
    intro l
    induction l with
    | nil => intro ns _; simp
    | cons f l ih =>
      intro ns hns
      simp only [List.mapM_cons, Option.bind_eq_bind, Option.bind_eq_some_iff] at hns
      obtain ⟨n, hn, ms, hms, _⟩ := hns
      simp only [List.mapM_cons, Sem.run_bind, Sem.run_pure, Result.andThen_ok, run_sizeT hn, ih ms hms, List.map_cons, hn, Option.getD_some]
  simp only [Sem.run_map, gen fs.toList ns h, Result.andThen_ok]

theorem res_build_struct (hr : HR ng σ H.get w) {t : TypeId} {z : Value} {fs : Array Field} {ps : Array (Nat × Operand)} {qs : List (Nat × Nat × Operand)} {ns : List Nat} {ev ev' : Operand → Value}
    (hz : zeroT P t = some z) (hu : P.underlying t = some (.struct fs)) (hns : fs.toList.mapM (fun f => sizeT P f.type) = some ns) (hq : placesT P fs ps.toList = some qs)
    (hp : VL σ z.cells.toList z.cells.toList) (hev : ∀ p ∈ ps.toList, VR σ (ev p.2) (ev' p.2)) (hs : asem (.build z.cells.toList (qs.map fun p => (p.1, p.2.1, ev p.2.2))) H = some (v, H')) :
    Res ng σ H w ((do pure (Next.value (← Instr.build t (ps.map fun (i, x) => (i, ev' x)))) : Sem Next).run P w) v H' := by
  simp only [asem, Option.map_eq_some_iff, Prod.mk.injEq] at hs
  obtain ⟨r, hf, rfl, rfl⟩ := hs
  obtain ⟨e1, e2⟩ := placesT_get ev ps.toList qs hq
  obtain ⟨r', f1, f2⟩ := run_fill (σ := σ) ((fs.toList.map fun f => (f.offset, (sizeT P f.type).getD 0)).toArray[·]?) _ (ps.toList.map fun (i, x) => (i, ev' x)) _ _ r hp (by simpa using e1) (by
    intro j o n u hj
    obtain ⟨i, x, f, g1, g2, g3, g4, rfl⟩ := e2 j o n u hj
    refine ⟨i, ev' x, by simp [g1], ?_, hev (i, x) (List.mem_of_getElem? g1)⟩
    have : fs.toList[i]? = some f := by simpa using g2
    simp [this, g3, g4]) hf
  refine Res.pure hr (v' := .agg r'.toArray) ?_ (VR.agg_of f2)
  have hm : (ps.map fun (i, x) => (i, ev' x)).toList = ps.toList.map fun (i, x) => (i, ev' x) := by simp
  simp only [Instr.build, Sem.run_bind, run_zeroT hz, Result.andThen_ok, run_underlying hu, run_mapM_places fs ns hns]
  simp only [hm, Array.toArray_toList] at f1 ⊢
  rw [f1]
  simp

theorem res_build_array (hr : HR ng σ H.get w) {t len e n : Nat} {z : Value} {ps : Array (Nat × Operand)} {ev ev' : Operand → Value}
    (hz : zeroT P t = some z) (hu : P.underlying t = some (.array len e)) (hn : sizeT P e = some n) (hp : VL σ z.cells.toList z.cells.toList) (hev : ∀ p ∈ ps.toList, VR σ (ev p.2) (ev' p.2))
    (hs : asem (.build z.cells.toList (ps.toList.map fun p => (p.1 * n, n, ev p.2))) H = some (v, H')) :
    Res ng σ H w ((do pure (Next.value (← Instr.build t (ps.map fun (i, x) => (i, ev' x)))) : Sem Next).run P w) v H' := by
  simp only [asem, Option.map_eq_some_iff, Prod.mk.injEq] at hs
  obtain ⟨r, hf, rfl, rfl⟩ := hs
  obtain ⟨r', f1, f2⟩ := run_fill (σ := σ) (fun i => some (i * n, n)) _ (ps.toList.map fun (i, x) => (i, ev' x)) _ _ r hp (by simp) (by
    intro j o m u hj
    simp only [List.getElem?_map, Option.map_eq_some_iff, Prod.mk.injEq] at hj
    obtain ⟨⟨i, x⟩, g1, rfl, rfl, rfl⟩ := hj
    exact ⟨i, ev' x, by simp [g1], rfl, hev (i, x) (List.mem_of_getElem? g1)⟩) hf
  refine Res.pure hr (v' := .agg r'.toArray) ?_ (VR.agg_of f2)
  have hm : (ps.map fun (i, x) => (i, ev' x)).toList = ps.toList.map fun (i, x) => (i, ev' x) := by simp
  simp only [Instr.build, Sem.run_bind, run_zeroT hz, Result.andThen_ok, run_underlying hu, run_sizeT hn]
  simp only [hm, Array.toArray_toList] at f1 ⊢
  rw [f1]
  simp

theorem range_mod (z : Array Value) (n : Nat) (hz : z.size = n) : ∀ m : Nat, (List.range (m * n)).map (fun i => z[i % z.size]!) = (List.replicate m z.toList).flatten := by
  intro m
  induction m with
  | zero => simp
  | succ m ih =>
    rw [Nat.succ_mul, List.range_add, List.map_append, ih, List.replicate_succ', List.flatten_append]
    congr 1
    simp only [List.map_map, List.flatten_cons, List.flatten_nil, List.append_nil]
    apply List.ext_getElem?
    intro j
    by_cases hj : j < n
    · have hjz : j < z.size := by omega
      simp only [List.getElem?_map, List.getElem?_range hj, Option.map_some, Function.comp, hz]
      rw [Nat.add_comm, Nat.add_mul_mod_self_right, Nat.mod_eq_of_lt hj]
      simp [hjz]
    · rw [List.getElem?_eq_none (by simp; omega), List.getElem?_eq_none (by simp; omega)]

theorem res_bslice (hr : HR ng σ H.get w) {t e n len : Nat} {z : Value} {ps : Array (Nat × Operand)} {ev ev' : Operand → Value}
    (hu : P.underlying t = some (.slice e)) (hz : zeroT P e = some z) (hn : sizeT P e = some n) (hzn : z.cells.size = n) (h0 : 0 < n) (hbig : len * n ≤ 16777216)
    (hp : VL σ z.cells.toList z.cells.toList) (hev : ∀ p ∈ ps.toList, VR σ (ev p.2) (ev' p.2))
    (hs : asem (.bslice e n len (List.replicate len z.cells.toList).flatten (ps.toList.map fun p => (p.1 * n, n, ev p.2))) H = some (v, H')) :
    Res ng σ H w ((do pure (Next.value (← Instr.buildSlice t len (ps.map fun (i, x) => (i, ev' x)))) : Sem Next).run P w) v H' := by
  simp only [asem] at hs
  split at hs
  · rename_i c hf
    split at hs
    · rename_i hc
      obtain ⟨c1, c2⟩ := hc
      cases hs
      have hzl : ∀ m : Nat, VL σ (List.replicate m z.cells.toList).flatten (List.replicate m z.cells.toList).flatten := by
        intro m
        induction m with
        | zero => simp; exact .nil
        | succ m ih => simpa [List.replicate_succ] using hp.append ih
      have hzr : ((Array.range (len * n)).map (z.cells[· % z.cells.size]!)) = (List.replicate len z.cells.toList).flatten.toArray := by
        apply Array.ext'
        simp only [Array.toList_map, Array.toList_range, List.toList_toArray]
        exact range_mod z.cells n hzn len
      obtain ⟨r', f1, f2⟩ := run_fill (σ := σ) (fun i => some (i * n, n)) _ (ps.toList.map fun (i, x) => (i, ev' x)) _ _ c (hzl len) (by simp) (by
        intro j o m u hj
        simp only [List.getElem?_map, Option.map_eq_some_iff, Prod.mk.injEq] at hj
        obtain ⟨⟨i, x⟩, g1, rfl, rfl, rfl⟩ := hj
        exact ⟨i, ev' x, by simp [g1], rfl, hev (i, x) (List.mem_of_getElem? g1)⟩) hf
      obtain ⟨e1, e2⟩ := new_block hr (e := e) (room := false) (esz := n) f2 (VL.oneAll c1)
      refine ⟨_, .slice (some ⟨w.heap.size, 0, none⟩) len len, _, _, ?_, .inl rfl, e1, e2, ?_⟩
      · have f2' : Instr.fill (fun i => some (i * n, n)) (List.replicate len z.cells.toList).flatten.toArray (ps.toList.map fun x => (x.1, ev' x.2)) = some r'.toArray := f1
        by_cases hl0 : len * n = 0
        · have hlen : len = 0 := by rcases Nat.mul_eq_zero.1 hl0 with h | h; exact h; omega
          subst hlen
          have f3 : Instr.fill (fun i => some (i * n, n)) #[] (ps.toList.map fun x => (x.1, ev' x.2)) = some r'.toArray := by simpa using f2'
          simp [Instr.buildSlice, run_underlying hu, run_sizeT hn, newRow, show Array.range 0 = #[] from rfl, f3]
        · have hb : ¬ (2 ^ 24 < len * n) := by omega
          rw [← hzr] at f2'
          simp only [Instr.buildSlice, Sem.run_bind, run_underlying hu, Result.andThen_ok, run_sizeT hn]
          simp [hl0, hb, run_zeroT hz, f2', newRow]
      · have hi : (σ.up H.n ⟨w.heap.size, 0, c.length, r'.length, n, false⟩) H.n = some ⟨w.heap.size, 0, c.length, r'.length, n, false⟩ := Sg.up_same _ _ _
        exact VR.sl (i := ⟨w.heap.size, 0, c.length, r'.length, n, false⟩) hi (Nat.le_refl _) (.inl rfl)
    · cases hs
  · cases hs


/-- The elements of a slice, on both sides. -/
theorem elemsA_sound (hr : HR ng σ H.get w) {esz : Nat} {x x' : Value} (hx : VR σ x x') {l : List Value} (h : elemsA H esz x = some l) :
    ∃ (a' : Option Addr) (n k' : Nat) (l' : List Value), x' = .slice a' n k' ∧ lenA false x = some n ∧ VL σ l l' ∧ l'.length = n * esz ∧ (∀ u ∈ l, u.oneCell' = true) ∧
      ((a' = none ∧ n = 0) ∨ ∃ ad, a' = some ad ∧ ∀ j v, l'[j]? = some v → w.cell? (ad.add j) = some v) := by
  cases hx with
  | nilSl =>
    simp only [elemsA, Option.some.injEq] at h
    subst h
    exact ⟨none, 0, 0, [], rfl, rfl, .nil, by simp, by simp, .inl ⟨rfl, rfl⟩⟩
  | @sl b o n k k' i hb hn hk =>
    simp only [elemsA] at h
    split at h
    · rename_i own room esz' c e hG
      split at h
      · rename_i hle
        cases h
        obtain ⟨ob, g1, g2⟩ := hr.obj b i hb
        rw [hG] at g1; cases g1
        have hone := g2.2.2.2.2.1
        obtain ⟨l', e1, e2, e3⟩ := g2.range o (n * esz) hle
        exact ⟨_, n, k', l', rfl, rfl, e1, e2, fun u hu => hone u (List.mem_of_mem_drop (List.mem_of_mem_take hu)), .inr ⟨_, rfl, e3⟩⟩
      · cases h
    · cases h
  | @sl0 b o o' i hb =>
    simp only [elemsA, Nat.zero_mul, List.take_zero] at h
    split at h
    · split at h
      · cases h
        exact ⟨_, 0, 0, [], rfl, rfl, .nil, by simp, by simp, .inr ⟨_, rfl, by simp⟩⟩
      · cases h
    · cases h
  | @slz x a hx =>
    obtain ⟨b, o, s⟩ := x
    cases s with
    | none => simp at hx
    | some q =>
      simp only [elemsA, if_true, Option.some.injEq] at h
      subst h
      exact ⟨_, 0, 0, [], rfl, rfl, .nil, by simp, by simp, .inr ⟨_, rfl, by simp⟩⟩
  | _ => simp [elemsA] at h

theorem run_first (x' : Value) (esz n : Nat) {a' : Option Addr} {k' : Nat} {l' : List Value} (hx : x' = .slice a' n k') (hl : l'.length = n * esz)
    (h : (a' = none ∧ n = 0) ∨ ∃ ad, a' = some ad ∧ ∀ j v, l'[j]? = some v → w.cell? (ad.add j) = some v) : (Builtin.firstCells esz n x').run P w = .ok l'.toArray w := by
  subst hx
  rcases h with ⟨rfl, rfl⟩ | ⟨ad, rfl, hc⟩
  · have : l' = [] := List.eq_nil_of_length_eq_zero (by simpa using hl)
    subst this
    simp [Builtin.firstCells]
  · exact run_firstCells_some w esz n ad n k' l' hl hc

/-- append into a new row: the model's side. -/
theorem run_append_new (t u ty e : TypeId) (d : TypeDesc) (i : TypeInfo) (z : Value) (ht : P.underlying t = some (.slice e)) (hu : P.underlying u = some d) (hd : (∃ e2, d = .slice e2) ∨ d = .string) (hi : P.info? e = some i) (hz : i.zero = some z)
    (base : Option Addr) (sLen sCap m : Nat) (x : Value) (hx : ∀ w : World, (Builtin.lenOf x).run P w = .ok m w) (olds news : List Value)
    (hfo : (Builtin.firstCells i.size sLen (.slice base sLen sCap)).run P w.drew = .ok olds.toArray w.drew) (hf : (Builtin.firstCells i.size m x).run P w.drew = .ok news.toArray w.drew)
    (hg : sCap < sLen + m) (h63 : ((sLen + m : Nat) : Int) ≤ 9223372036854775807) (hfit : Builtin.nextslicecap (sLen + m) sCap * i.bytes ≤ 281474976710656) :
    (Builtin.append_ #[t, u] ty #[.slice base sLen sCap, x]).run P w =
      .ok (.slice (some ⟨w.heap.size, 0, none⟩) (sLen + m) (grownCap w (sLen + m) sCap e))
        (w.drew.alloc (.cells (olds ++ news ++ (Builtin.zeroCells z.cells (grownCap w (sLen + m) sCap e - (sLen + m))).toList).toArray e)) := by
  have hn : ¬ (sLen + m ≤ sCap) := by omega
  have h63' : ¬ (9223372036854775807 < ((sLen : Int) + (m : Int))) := by omega
  have h48' : ¬ (281474976710656 < Builtin.nextslicecap (sLen + m) sCap * i.bytes) := by omega
  rcases hd with ⟨e2, rfl⟩ | rfl
  all_goals simp [Builtin.append_, run_underlying ht, run_underlying hu, sizeOf, typeInfo, zeroValue, hi, hz, hx, hn, h63', h48', Question.forced, hf, hfo, newRow, grownCap]
  all_goals congr 2
  all_goals apply Array.ext'
  all_goals simp [List.append_assoc]

/-- append into the row's spare places. -/
theorem run_append_in (t u ty e : TypeId) (d : TypeDesc) (i : TypeInfo) (ht : P.underlying t = some (.slice e)) (hu : P.underlying u = some d) (hd : (∃ e2, d = .slice e2) ∨ d = .string) (hi : P.info? e = some i)
    (a : Addr) (sLen sCap m : Nat) (x : Value) (hx : ∀ w : World, (Builtin.lenOf x).run P w = .ok m w) (news : List Value) {w' : World} (hf : (Builtin.firstCells i.size m x).run P w = .ok news.toArray w)
    (hst : (storeCells (a.add (sLen * i.size)) news).run P w = .ok () w') (hroom : sLen + m ≤ sCap) :
    (Builtin.append_ #[t, u] ty #[.slice (some a) sLen sCap, x]).run P w = .ok (.slice (some a) (sLen + m) sCap) w' := by
  rcases hd with ⟨e2, rfl⟩ | rfl <;>
    simp [Builtin.append_, run_underlying ht, run_underlying hu, sizeOf, typeInfo, hi, hx, hroom, hf, hst]

theorem run_append_zero (t u ty e : TypeId) (d : TypeDesc) (i : TypeInfo) (ht : P.underlying t = some (.slice e)) (hu : P.underlying u = some d) (hd : (∃ e2, d = .slice e2) ∨ d = .string) (hi : P.info? e = some i)
    (base : Option Addr) (sLen sCap : Nat) (x : Value) (hx : ∀ w : World, (Builtin.lenOf x).run P w = .ok 0 w) (hf : (Builtin.firstCells i.size 0 x).run P w = .ok #[] w) (hle : sLen ≤ sCap) :
    (Builtin.append_ #[t, u] ty #[.slice base sLen sCap, x]).run P w = .ok (.slice base sLen sCap) w := by
  rcases hd with ⟨e2, rfl⟩ | rfl <;>
    (cases base <;> simp [Builtin.append_, run_underlying ht, run_underlying hu, sizeOf, typeInfo, hi, hx, hle, hf, storeCells])

theorem grown_block (hr : HR ng σ H.get w) {e : TypeId} {esz n cap : Nat} {c c' sp : List Value} (hv : VL σ c c') (h1 : ∀ u ∈ c, u.oneCell' = true) (hc : c.length = n * esz) (hsp : sp.length = (cap - n) * esz) (hcap : n ≤ cap) :
    ∃ i : BI, i.c = w.heap.size ∧ i.off = 0 ∧ i.esz = esz ∧ i.room = true ∧ i.len = n * esz ∧ i.top = cap * esz ∧
      HR ng (σ.up H.n i) (H.alloc (.cells true true esz c e)).get (w.drew.alloc (.cells (c' ++ sp).toArray e)) ∧
      Ext H.n σ H.get w (H.alloc (.cells true true esz c e)).n (σ.up H.n i) (H.alloc (.cells true true esz c e)).get (w.drew.alloc (.cells (c' ++ sp).toArray e)) := by
  have hl := hv.length
  have hmul : n * esz + (cap - n) * esz = cap * esz := by rw [← Nat.add_mul]; congr 1; omega
  refine ⟨⟨w.heap.size, 0, c.length, (c' ++ sp).toArray.size, esz, true⟩, rfl, rfl, rfl, rfl, hc, by simp; omega, ?_⟩
  have hor : OR σ (w.alloc (.cells (c' ++ sp).toArray e)) ⟨w.heap.size, 0, c.length, (c' ++ sp).toArray.size, esz, true⟩ (.cells true true esz c e) :=
    OR.cells_new (w := w) true true esz (by simp; omega) h1 (by simp only [List.toList_toArray, hl, List.take_left]; exact hv) (fun _ => .inl rfl)
  obtain ⟨a, b⟩ := hr.alloc (w' := w.drew.alloc (.cells (c' ++ sp).toArray e)) rfl hor rfl rfl rfl rfl
  exact ⟨a, b⟩

/-- The old block is let go. -/
theorem HR.drop (hr : HR ng σ H.get w) {b : Nat} {room : Bool} {esz : Nat} {c : List Value} {e : TypeId} (hG : H.get b = some (.cells true room esz c e)) {i : BI} (hb : σ b = some i) :
    HR ng σ (H.set b .dead).get w := by
  have hlt := AHeap.get_lt hG
  exact HR.upd (o2 := .dead) hr hb hG rfl (fun _ _ => rfl) rfl (fun x hx => AHeap.get_set_other H hx hlt _) (AHeap.get_set_same hG _) trivial

theorem Ext.of_set {n n' : Nat} {σ' : Sg} {G' : Gf} {w' : World} {b : Nat} {o o2 : AO} (hG : H.get b = some o) (ho : o2.own = true → o.own = true) (hol : o.live = true) (h : Ext n σ (H.set b o2).get w n' σ' G' w') : Ext n σ H.get w n' σ' G' w' := by
  have hlt := AHeap.get_lt hG
  have back : ∀ x ox, (H.set b o2).get x = some ox → ox.own = true → ∃ oy, H.get x = some oy ∧ oy.own = true := by
    intro x ox hx hown
    by_cases e : x = b
    · subst e
      rw [AHeap.get_set_same hG] at hx; cases hx
      exact ⟨o, hG, ho hown⟩
    · rw [AHeap.get_set_other H e hlt] at hx; exact ⟨ox, hx, hown⟩
  refine ⟨h.sub, fun x j hx hx' => ?_, fun x j o' hx ho' hown => ?_, fun x j o' hx ho' hlv => ?_, fun k hk hne => h.keep k hk (fun x j ox hx hox hown => ?_), h.size, h.num, h.os, h.tape, h.output⟩
  · obtain ⟨a1, a2⟩ := h.new x j hx hx'
    refine ⟨a1, ?_⟩
    rcases a2 with a2 | ⟨b0, i0, o0, k1, k2, k3, k4⟩
    · exact .inl a2
    · obtain ⟨oy, m1, m2⟩ := back b0 o0 k2 k3
      exact .inr ⟨b0, i0, oy, k1, m1, m2, k4⟩
  · obtain ⟨oy, m1, m2⟩ := h.own x j o' hx ho' hown
    exact back x oy m1 m2
  · obtain ⟨oy, m1, m2⟩ := h.live x j o' hx ho' hlv
    by_cases e : x = b
    · subst e; exact ⟨o, hG, hol⟩
    · rw [AHeap.get_set_other H e hlt] at m1; exact ⟨oy, m1, m2⟩
  · obtain ⟨oy, m1, m2⟩ := back x ox hox hown
    exact hne x j oy hx m1 m2

end
end Go.AM
