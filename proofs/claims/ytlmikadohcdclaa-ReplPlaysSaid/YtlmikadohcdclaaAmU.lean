/- The abstract machine, part U: arguments that read as data, as an abstract heap; closed calls in any heap; laws. -/
import Derived.Test.YtlmikadohcdclaaAmZ2
import Derived.OpenShut
import Derived.Carry
set_option linter.unusedSimpArgs false
set_option linter.unusedVariables false
namespace Go.AM

/-- A closed call's answer, in any heap. -/
theorem closed_any {P : Program} {T : FT} (hT : T.ok P 0) {fuel : Nat} {f : FuncId} (h : runF T fuel f [] 0 .leaf isTrue = true) (H : AHeap) : ARun P 0 f [] H (.bool true) H := by
  obtain ⟨v, H', ⟨h0, _, h1⟩, h2⟩ := runF_sound hT h Rp.empty
  have hv := isTrue_spec h2
  subst hv
  refine ⟨h0, Nat.le_refl _, fun σ w args' hr ha => ?_⟩
  cases ha
  refine (h1 (fun _ => none) w [] (HR.empty w) .nil).mono ?_
  rintro e w' ⟨v', σ', rfl, k1, k2, k3⟩
  have hk : ∀ k, k < w.heap.size → w'.heap[k]? = w.heap[k]? := fun k hk => k2.keep k hk (fun b i o hb => by cases hb)
  have hsz := k2.size
  refine ⟨v', σ, rfl, ⟨fun b i hb => ?_, hr.inj, fun b i hb => Nat.lt_of_lt_of_le (hr.lt b i hb) hsz, hr.glob⟩, ⟨Sg.le.refl σ, (fun b i h1 h2 => by rw [h1] at h2; cases h2), fun _ _ o' _ a b => ⟨o', a, b⟩, fun _ _ o' _ a b => ⟨o', a, b⟩, fun k a _ => hk k a, hsz, Nat.le_refl _, k2.os, k2.tape, k2.output⟩, ?_⟩
  · obtain ⟨o, a1, a2⟩ := hr.obj b i hb
    exact ⟨o, a1, a2.congr (fun _ => hk _ (hr.lt b i hb))⟩
  · rw [k3.bool_inv]; exact .bool _

/-- Types whose values are data through and through, laid cell behind cell. -/
def okFs (P : Program) (f : TypeId → Bool) : List Field → Nat → Nat → Bool
  | [], off, tot => off == tot
  | fd :: r, off, tot => fd.offset == off && f fd.type && okFs P f r (off + P.cellsOf fd.type) tot
def okT (P : Program) : Nat → TypeId → Bool
  | 0, _ => false
  | d + 1, t => match P.underlying t with
    | some .bool => P.cellsOf t == 1
    | some (.int _) => P.cellsOf t == 1
    | some .string => P.cellsOf t == 1
    | some (.slice e) => P.cellsOf t == 1 && decide (0 < P.cellsOf e) && okT P d e
    | some (.struct fs) => okFs P (okT P d) fs.toList 0 (P.cellsOf t)
    | some (.array n e) => n * P.cellsOf e == P.cellsOf t && okT P d e
    | _ => false

/-- Cells that read as a value of a type. -/
inductive AR (P : Program) (G : Gf) : TypeId → List Value → Prop
  | bool {t : TypeId} {b : Bool} (h : P.underlying t = some .bool) : AR P G t [.bool b]
  | int {t : TypeId} {k : IntKind} {n : Int} (h : P.underlying t = some (.int k)) (hw : (Lit.int k n).wf = true) : AR P G t [.int k n]
  | str {t : TypeId} {s : ByteArray} (h : P.underlying t = some .string) (hs : s.size ≤ maxLen) : AR P G t [.string s]
  | nil {t e : TypeId} (h : P.underlying t = some (.slice e)) : AR P G t [.slice none 0 0]
  | zero {t e : TypeId} {x : Addr} (h : P.underlying t = some (.slice e)) (hx : x.spot.isSome = true) : AR P G t [.slice (some x) 0 0]
  | sl {t e : TypeId} {b n k : Nat} {c : List Value} {u : TypeId} (h : P.underlying t = some (.slice e)) (hk : 0 < k) (hn : n ≤ k) (hm : k ≤ maxLen) (hb : G b = some (.cells false false (P.cellsOf e) c u)) (hc : c.length = k * P.cellsOf e)
      (hi : ∀ i, i < k → AR P G e ((c.drop (i * P.cellsOf e)).take (P.cellsOf e))) : AR P G t [slc b 0 n k]
  | struct {t : TypeId} {fs : Array Field} {cs : List Value} (h : P.underlying t = some (.struct fs)) (hl : cs.length = P.cellsOf t)
      (hf : ∀ (i : Nat) (f : Field), fs[i]? = some f → AR P G f.type ((cs.drop f.offset).take (P.cellsOf f.type))) : AR P G t cs
  | array {t e : TypeId} {n : Nat} {cs : List Value} (h : P.underlying t = some (.array n e)) (hl : cs.length = P.cellsOf t)
      (hi : ∀ i, i < n → AR P G e ((cs.drop (i * P.cellsOf e)).take (P.cellsOf e))) : AR P G t cs

theorem AR.mono {P : Program} {G G' : Gf} (hg : ∀ b o, G b = some o → G' b = some o) {t : TypeId} {cs : List Value} (h : AR P G t cs) : AR P G' t cs := by
  induction h with
  | bool h => exact .bool h
  | int h hw => exact .int h hw
  | str h hs => exact .str h hs
  | nil h => exact .nil h
  | zero h hx => exact .zero h hx
  | sl h hk hn hm hb hc _ ih => exact .sl h hk hn hm (hg _ _ hb) hc ih
  | struct h hl _ ih => exact .struct h hl ih
  | array h hl _ ih => exact .array h hl ih

/-- No block is the heap's own. -/
def NoOwn (H : AHeap) : Prop := ∀ b o, H.get b = some o → o.own = false

section
variable {H0 : Type} {enc : TypeId × Value → H0} {P : Program} {w : World} {ng : Nat}

structure Opened (P : Program) (ng : Nat) (w : World) (σ : Sg) (H : AHeap) (σ' : Sg) (H' : AHeap) : Prop where
  le : σ.le σ'
  keep : Keeps H H'
  hr : HR ng σ' H'.get w
  no : NoOwn H'

theorem Opened.refl {σ : Sg} {H : AHeap} (hr : HR ng σ H.get w) (no : NoOwn H) : Opened P ng w σ H σ H := ⟨Sg.le.refl σ, Keeps.refl H, hr, no⟩
theorem Opened.trans {σ σ1 σ2 : Sg} {H H1 H2 : AHeap} (h : Opened P ng w σ H σ1 H1) (k : Opened P ng w σ1 H1 σ2 H2) : Opened P ng w σ H σ2 H2 := ⟨h.le.trans k.le, h.keep.trans k.keep, k.hr, k.no⟩
theorem Keeps.ar {H H' : AHeap} (k : Keeps H H') {t : TypeId} {cs : List Value} (h : AR P H.get t cs) : AR P H'.get t cs := h.mono (fun b o hb => k.at_ hb)

/-- What opening some cells yields. -/
def OpenP (P : Program) (ng : Nat) (w : World) (t : TypeId) (cs : List Value) : Prop := ∀ σ H, HR ng σ H.get w → NoOwn H → ∃ σ' H' cs', Opened P ng w σ H σ' H' ∧ VL σ' cs' cs ∧ AR P H'.get t cs' ∧ ∀ v ∈ cs', v.oneCell' = true

/-- Rows of such cells, one behind the other. -/
theorem open_row {e : TypeId} {z : Nat} : ∀ (k : Nat) (css : Nat → List Value), (∀ i, i < k → (css i).length = z ∧ OpenP P ng w e (css i)) → ∀ σ H, HR ng σ H.get w → NoOwn H →
    ∃ σ' H' c, Opened P ng w σ H σ' H' ∧ VL σ' c ((List.range k).flatMap css) ∧ c.length = k * z ∧ (∀ v ∈ c, v.oneCell' = true) ∧ ∀ i, i < k → AR P H'.get e ((c.drop (i * z)).take z)
  | 0, css, _, σ, H, hr, no => ⟨σ, H, [], Opened.refl hr no, .nil, by simp, by simp, fun i hi => by omega⟩
  | k + 1, css, h, σ, H, hr, no => by
    obtain ⟨σ1, H1, c, h1, h2, h3, h4, h5⟩ := open_row k css (fun i hi => h i (by omega)) σ H hr no
    obtain ⟨hz, hop⟩ := h k (by omega)
    obtain ⟨σ2, H2, cs', g1, g2, g3, g4⟩ := hop σ1 H1 h1.hr h1.no
    have hl : cs'.length = z := by rw [g2.length, hz]
    refine ⟨σ2, H2, c ++ cs', h1.trans g1, ?_, by rw [List.length_append, h3, hl, Nat.add_mul]; omega, ?_, ?_⟩
    · rw [List.range_succ, List.flatMap_append]
      simpa using (h2.mono g1.le).append g2
    · intro v hv
      rcases List.mem_append.1 hv with hv | hv
      · exact h4 v hv
      · exact g4 v hv
    · intro i hi
      by_cases hik : i < k
      · have hle : i * z + z ≤ c.length := by
          rw [h3]
          have : (i + 1) * z ≤ k * z := Nat.mul_le_mul_right _ hik
          rw [Nat.add_mul] at this
          omega
        rw [List.drop_append_of_le_length (by omega), List.take_append_of_le_length (by rw [List.length_drop]; omega)]
        exact g1.keep.ar (h5 i hik)
      · have : i = k := by omega
        subst this
        rw [← h3, List.drop_left, ← hl, List.take_length]
        exact g3

/-- The fields of a struct, one behind the other. -/
theorem open_fields {cs : List Value} {tot : Nat} {f : TypeId → Bool} : ∀ (fs : List Field) (off : Nat), okFs P f fs off tot = true → off ≤ cs.length → cs.length = tot →
    (∀ fd ∈ fs, f fd.type = true → OpenP P ng w fd.type ((cs.drop fd.offset).take (P.cellsOf fd.type))) → (∀ fd ∈ fs, f fd.type = true → ((cs.drop fd.offset).take (P.cellsOf fd.type)).length = P.cellsOf fd.type) → ∀ σ H, HR ng σ H.get w → NoOwn H →
    ∃ σ' H' c, Opened P ng w σ H σ' H' ∧ VL σ' c (cs.drop off) ∧ (∀ v ∈ c, v.oneCell' = true) ∧ ∀ fd ∈ fs, off ≤ fd.offset ∧ AR P H'.get fd.type ((c.drop (fd.offset - off)).take (P.cellsOf fd.type))
  | [], off, hk, hle, ht, _, _, σ, H, hr, no => by
    simp only [okFs, beq_iff_eq] at hk
    refine ⟨σ, H, [], Opened.refl hr no, ?_, by simp, by simp⟩
    rw [List.drop_eq_nil_of_le (by omega)]; exact .nil
  | fd :: fs, off, hk, hle, ht, hop, hfit, σ, H, hr, no => by
    simp only [okFs, Bool.and_eq_true, beq_iff_eq] at hk
    obtain ⟨⟨h1, h2⟩, h3⟩ := hk
    have hft0 := hfit fd (by simp) h2
    have hft : fd.offset + P.cellsOf fd.type ≤ cs.length := by rw [List.length_take, List.length_drop] at hft0; omega
    obtain ⟨σ1, H1, c1, g1, g2, g3, g4⟩ := hop fd (by simp) h2 σ H hr no
    obtain ⟨σ2, H2, c2, k1, k2, k3, k4⟩ := open_fields fs (off + P.cellsOf fd.type) h3 (by omega) ht (fun x hx => hop x (by simp [hx])) (fun x hx => hfit x (by simp [hx])) σ1 H1 g1.hr g1.no
    have hl : c1.length = P.cellsOf fd.type := by rw [g2.length, List.length_take, List.length_drop]; omega
    refine ⟨σ2, H2, c1 ++ c2, g1.trans k1, ?_, ?_, ?_⟩
    · have e : cs.drop off = (cs.drop fd.offset).take (P.cellsOf fd.type) ++ cs.drop (off + P.cellsOf fd.type) := by
        rw [h1, ← List.drop_drop, List.take_append_drop]
      rw [e]
      exact (g2.mono k1.le).append k2
    · intro v hv
      rcases List.mem_append.1 hv with hv | hv
      · exact g4 v hv
      · exact k3 v hv
    · intro x hx
      rcases List.mem_cons.1 hx with rfl | hx
      · refine ⟨by omega, ?_⟩
        rw [h1, Nat.sub_self, List.drop_zero, ← hl, List.take_left]
        exact k1.keep.ar g3
      · obtain ⟨a1, a2⟩ := k4 x hx
        refine ⟨by omega, ?_⟩
        rw [show x.offset - off = c1.length + (x.offset - (off + P.cellsOf fd.type)) by omega, List.drop_length_add_append]
        exact a2

theorem row_flat (l : List Value) (o z : Nat) : ∀ k, (List.range k).flatMap (fun i => (l.drop (o + i * z)).take z) = (l.drop o).take (k * z)
  | 0 => by simp
  | k + 1 => by
    rw [List.range_succ, List.flatMap_append, row_flat l o z k, Nat.add_mul, Nat.one_mul, List.take_add, List.drop_drop]
    simp

theorem cells_of {b : Nat} {a : Addr} {n : Nat} {l : List Value} (h : w.cells? b a n = some l) : l.length = n ∧ ∀ i, i < n → w.cell? (a.add i) = l[i]? := by
  unfold World.cells? at h
  split at h
  · exact ⟨by simpa using mapM_some_length h, fun i hi => mapM_some_get h i i (by simp [hi])⟩
  · cases h

theorem open_cells : ∀ (fuel : Nat) (d : Nat) (t : TypeId) (cs : List Value) (x : DataW H0 × List MemPlace), okT P d t = true → DataW.trod enc P w 0 (fun _ => true) true fuel t cs = some x → cs.length = P.cellsOf t ∧ OpenP P ng w t cs := by
  intro fuel
  induction fuel with
  | zero => intro d t cs x _ h; simp [DataW.trod] at h
  | succ fuel ih =>
    intro d t cs x hok h
    cases d with
    | zero => simp [okT] at hok
    | succ d =>
      simp only [okT] at hok
      split at hok
      · rename_i hu
        obtain ⟨b, rfl, _⟩ := DataW.trod_bool hu h
        exact ⟨by simpa using (beq_iff_eq.1 hok).symm, fun σ H hr no => ⟨σ, H, [.bool b], Opened.refl hr no, .cons (.bool b) .nil, .bool hu, by simp [Value.oneCell']⟩⟩
      · rename_i k hu
        obtain ⟨n, rfl, _, hw⟩ := DataW.trod_int hu h
        exact ⟨by simpa using (beq_iff_eq.1 hok).symm, fun σ H hr no => ⟨σ, H, [.int k n], Opened.refl hr no, .cons (.int k n) .nil, .int hu hw, by simp [Value.oneCell']⟩⟩
      · rename_i hu
        obtain ⟨s, rfl, _, hs⟩ := DataW.trod_string hu h
        exact ⟨by simpa using (beq_iff_eq.1 hok).symm, fun σ H hr no => ⟨σ, H, [.string s], Opened.refl hr no, .cons (.string s) .nil, .str hu hs, by simp [Value.oneCell']⟩⟩
      · rename_i e hu
        simp only [Bool.and_eq_true, beq_iff_eq, decide_eq_true_eq] at hok
        obtain ⟨⟨hc1, hz⟩, hoke⟩ := hok
        rcases DataW.trod_slice hu h with ⟨rfl, _⟩ | ⟨a, len, cap, elems, rest, m, hfu, rfl, _, _, hlc, hcm, hel, helems, hrest, _⟩
        · exact ⟨by simpa using hc1.symm, fun σ H hr no => ⟨σ, H, [.slice none 0 0], Opened.refl hr no, .cons .nilSl .nil, .nil hu, by simp [Value.oneCell']⟩⟩
        · cases hfu
          refine ⟨by simpa using hc1.symm, fun σ H hr no => ?_⟩
          by_cases hcap : cap = 0
          · subst hcap
            have : len = 0 := by omega
            subst this
            exact ⟨σ, H, [.slice (some ⟨0, 0, some 0⟩) 0 0], Opened.refl hr no, .cons (.slz rfl) .nil, .zero hu rfl, by simp [Value.oneCell']⟩
          · obtain ⟨hr1, hr2⟩ := hrest rfl
            -- every element's cells
            have elem : ∀ i, i < cap → ∃ l, w.cells? 0 (a.add (i * P.cellsOf e)) (P.cellsOf e) = some l ∧ ∃ y, DataW.trod enc P w 0 (fun _ => true) true fuel e l = some y := by
              intro i hi
              by_cases hil : i < len
              · have := helems i hil
                rw [List.getElem?_eq_getElem (by omega)] at this
                simp only [Option.bind_eq_some_iff] at this
                obtain ⟨l, h1, h2⟩ := this
                exact ⟨l, h1, _, h2⟩
              · have := hr2 (i - len) (by omega)
                rw [List.getElem?_eq_getElem (by omega), show len + (i - len) = i by omega] at this
                simp only [Option.bind_eq_some_iff] at this
                obtain ⟨l, h1, h2⟩ := this
                exact ⟨l, h1, _, h2⟩
            -- the block
            obtain ⟨l0, hl0, _⟩ := elem 0 (by omega)
            obtain ⟨hl0n, hl0c⟩ := cells_of hl0
            have hc0 := hl0c 0 hz
            rw [Nat.zero_mul, show a.add 0 = a by simp [Addr.add], show a.add 0 = a by simp [Addr.add], List.getElem?_eq_getElem (by omega)] at hc0
            obtain ⟨cc, ty, fr, hblk, hspot, hc0'⟩ : ∃ cc ty fr, w.heap[a.block]? = some (.cells cc ty fr) ∧ a.spot = none ∧ cc[a.off]? = some (l0[0]'(by omega)) := by
              unfold World.cell? at hc0
              split at hc0
              · rename_i cc ty fr hb
                split at hc0
                · cases hc0
                · rename_i hs
                  exact ⟨cc, ty, fr, hb, by simpa using hs, hc0⟩
              · cases hc0
            obtain ⟨ab, ao, asp⟩ := a
            simp only at hspot hblk hc0'
            subst hspot
            have cell : ∀ j, w.cell? ⟨ab, j, none⟩ = cc[j]? := fun j => by simp [World.cell?, hblk]
            have elem2 : ∀ i, i < cap → ((cc.toList.drop (ao + i * P.cellsOf e)).take (P.cellsOf e)).length = P.cellsOf e ∧ OpenP P ng w e ((cc.toList.drop (ao + i * P.cellsOf e)).take (P.cellsOf e)) := by
              intro i hi
              obtain ⟨l, h1, y, h2⟩ := elem i hi
              obtain ⟨hln, hlc⟩ := cells_of h1
              have hl : l = (cc.toList.drop (ao + i * P.cellsOf e)).take (P.cellsOf e) := by
                apply List.ext_getElem?
                intro j
                by_cases hj : j < P.cellsOf e
                · rw [← hlc j hj, List.getElem?_take_of_lt hj, List.getElem?_drop, add_plain, add_plain, cell]
                  simp
                · rw [List.getElem?_eq_none (by omega), List.getElem?_eq_none (by rw [List.length_take]; omega)]
              rw [← hl]
              have := ih d e l y hoke h2
              exact ⟨hln, this.2⟩
            obtain ⟨σ1, H1, c, g1, g2, g3, g4, g5⟩ := open_row cap (fun i => (cc.toList.drop (ao + i * P.cellsOf e)).take (P.cellsOf e)) elem2 σ H hr no
            rw [row_flat] at g2
            have hsz : ao + cap * P.cellsOf e ≤ cc.size ∧ 0 < cap * P.cellsOf e := by
              have h1 := g2.length
              have h2 : 0 < cap * P.cellsOf e := Nat.mul_pos (by omega) hz
              rw [g3, List.length_take, List.length_drop, Array.length_toList] at h1
              omega
            have hnone := g1.hr.none_of_ge (Nat.le_refl H1.n)
            have hlt : ab < w.heap.size := by
              by_cases hh : ab < w.heap.size
              · exact hh
              · rw [Array.getElem?_eq_none (by omega)] at hblk; cases hblk
            let bi : BI := ⟨ab, ao, cap * P.cellsOf e, cc.size - ao, P.cellsOf e, false⟩
            let o2 : AO := .cells false false (P.cellsOf e) c ty
            have hor : OR σ1 w bi o2 := ⟨g3.symm, rfl, rfl, by show c.length ≤ cc.size - ao; omega, g4, cc, fr, hblk, by show cc.size = ao + (cc.size - ao); omega, by rw [g3]; exact g2, by simp⟩
            have hadd := HR.add (o2 := o2) (G' := (H1.alloc o2).get) g1.hr hnone (fun x hx => AHeap.get_alloc_ne H1 o2 hx) (AHeap.get_alloc_new H1 o2) hlt hor (fun x j ox _ hox hh => by
              have := g1.no x ox hox
              rcases hh with ⟨_, h2⟩ | ⟨h2, _⟩
              · cases h2
              · rw [this] at h2; cases h2)
            have hk : Keeps H1 (H1.alloc o2) := (Keeps.refl H1).alloc o2
            refine ⟨σ1.up H1.n bi, H1.alloc o2, [slc H1.n 0 len cap], g1.trans ⟨Sg.le_up _ hnone, hk, hadd, fun b o hb => ?_⟩, .cons ?_ .nil, ?_, by simp [slc, Value.oneCell']⟩
            · rw [alloc_get] at hb
              split at hb
              · cases hb; rfl
              · exact g1.no b o hb
            · exact VR.sl (i := bi) (o := 0) (Sg.up_same _ _ _) hlc (.inl rfl)
            · exact .sl hu (by omega) hlc hcm (AHeap.get_alloc_new H1 o2) g3 (fun i hi => hk.ar (g5 i hi))
      · rename_i fs hu
        obtain ⟨xs, m, hfu, _, hl, hxl, hxs⟩ := DataW.trod_struct hu h
        cases hfu
        refine ⟨hl, fun σ H hr no => ?_⟩
        have each : ∀ fd ∈ fs.toList, okT P d fd.type = true → ((cs.drop fd.offset).take (P.cellsOf fd.type)).length = P.cellsOf fd.type ∧ OpenP P ng w fd.type ((cs.drop fd.offset).take (P.cellsOf fd.type)) := by
          intro fd hfd hokf
          obtain ⟨i, hi, hfi⟩ := List.mem_iff_getElem.1 hfd
          have hi' : i < fs.size := by simpa using hi
          have h1 : fs[i]? = some fd := by
            rw [Array.getElem?_eq_getElem hi']
            rw [← hfi]; simp
          have h2 := hxs i fd h1
          rw [List.getElem?_eq_getElem (by omega)] at h2
          exact ih d fd.type _ _ hokf h2
        obtain ⟨σ', H', c, g1, g2, g3, g4⟩ := open_fields fs.toList 0 hok (Nat.zero_le _) hl (fun fd hfd hf => (each fd hfd hf).2) (fun fd hfd hf => (each fd hfd hf).1) σ H hr no
        rw [List.drop_zero] at g2
        refine ⟨σ', H', c, g1, g2, .struct hu (by rw [g2.length, hl]) (fun i f hf => ?_), g3⟩
        have := (g4 f (by
          have : fs.toList[i]? = some f := by simpa using hf
          exact List.mem_of_getElem? this)).2
        simpa using this
      · rename_i n e hu
        simp only [Bool.and_eq_true, beq_iff_eq] at hok
        obtain ⟨hn, hoke⟩ := hok
        obtain ⟨xs, m, hfu, _, hl, hxl, hxs⟩ := DataW.trod_array hu h
        cases hfu
        refine ⟨hl, fun σ H hr no => ?_⟩
        obtain ⟨σ', H', c, g1, g2, g3, g4, g5⟩ := open_row (P := P) (ng := ng) (w := w) (e := e) (z := P.cellsOf e) n (fun i => (cs.drop (0 + i * P.cellsOf e)).take (P.cellsOf e)) (fun i hi => by
          have h2 := hxs i hi
          rw [List.getElem?_eq_getElem (by omega)] at h2
          rw [Nat.zero_add]
          exact ih d e _ _ hoke h2) σ H hr no
        rw [row_flat, List.drop_zero, hn, ← hl, List.take_length] at g2
        exact ⟨σ', H', c, g1, g2, .array hu (by rw [g3, hn]) g5, g4⟩
      · cases hok

/-- A row of arguments. -/
def ARs (P : Program) (G : Gf) : List TypeId → List Value → Prop
  | [], [] => True
  | t :: ts, v :: vs => AR P G t v.cells.toList ∧ (isAggT P t = some true → ∃ cs, v = .agg cs) ∧ (isAggT P t = some false → v.oneCell' = true) ∧ ARs P G ts vs
  | _, _ => False

end
end Go.AM
