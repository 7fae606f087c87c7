/- The abstract machine, part C: what an abstract operation yields, the model's operation yields. -/
import Derived.Test.YtlmikadohcdclaaAmB
set_option linter.unusedSimpArgs false
set_option linter.unusedVariables false
namespace Go.AM

def Res (ng : Nat) (σ : Sg) (H : AHeap) (w : World) (r : Result Next) (v : Value) (H' : AHeap) : Prop :=
  ∃ nx v' w' σ', r = .ok nx w' ∧ (nx = .value v' ∨ (nx = .skip ∧ v' = undef)) ∧ HR ng σ' H'.get w' ∧ Ext H.n σ H.get w H'.n σ' H'.get w' ∧ VR σ' v v'

section
variable {P : Program} {ng : Nat} {σ : Sg} {H H' : AHeap} {w : World} {v : Value}

theorem Res.pure (hr : HR ng σ H.get w) {r : Result Next} {v' : Value} (h : r = .ok (.value v') w) (hv : VR σ v v') : Res ng σ H w r v H :=
  ⟨_, v', w, σ, h, .inl rfl, hr, Ext.refl _ _ _ _, hv⟩

/-- A cell. -/
theorem OR.cell {i : BI} {own room : Bool} {esz : Nat} {c : List Value} {e : TypeId} (h : OR σ w i (.cells own room esz c e)) {k : Nat} {v : Value} (hk : c[k]? = some v) :
    ∃ v', w.cell? ⟨i.c, i.off + k, none⟩ = some v' ∧ VR σ v v' := by
  obtain ⟨_, _, _, _, _, c', fr, h5, _, h7, _⟩ := h
  obtain ⟨v', e1, e2⟩ := h7.get hk
  refine ⟨v', ?_, e2⟩
  rw [cell_of_row w i.c _ c' e fr h5]
  rw [List.getElem?_take] at e1
  split at e1
  · rw [List.getElem?_drop] at e1
    simpa using e1
  · cases e1

theorem add_plain (b o n : Nat) : (⟨b, o, none⟩ : Addr).add n = ⟨b, o + n, none⟩ := by
  unfold Addr.add
  split
  · rename_i h; subst h; rfl
  · rfl

/-- A row of cells. -/
theorem OR.range {i : BI} {own room : Bool} {esz : Nat} {c : List Value} {e : TypeId} (h : OR σ w i (.cells own room esz c e)) (o n : Nat) (hn : o + n ≤ c.length) :
    ∃ l', VL σ ((c.drop o).take n) l' ∧ l'.length = n ∧ ∀ j v, l'[j]? = some v → w.cell? ((⟨i.c, i.off + o, none⟩ : Addr).add j) = some v := by
  obtain ⟨_, _, _, _, _, c', fr, h5, _, h7, _⟩ := h
  refine ⟨((((c'.toList.drop i.off).take c.length).drop o).take n), (h7.drop o).take n, ?_, ?_⟩
  · have := ((h7.drop o).take n).length
    rw [← this]; simp; omega
  · intro j v hj
    rw [add_plain, cell_of_row w i.c _ c' e fr h5]
    rw [List.getElem?_take] at hj
    split at hj
    · rw [List.getElem?_drop, List.getElem?_take] at hj
      split at hj
      · rw [List.getElem?_drop] at hj
        rw [← hj]; simp [Nat.add_assoc]
      · cases hj
    · cases hj

theorem cellA_sound (hr : HR ng σ H.get w) {b o : Nat} {i : BI} (hb : σ b = some i) {v : Value} (h : cellA H b o = some v) : ∃ v', w.cell? ⟨i.c, i.off + o, none⟩ = some v' ∧ VR σ v v' := by
  obtain ⟨ob, h1, h2⟩ := hr.obj b i hb
  unfold cellA at h
  rw [h1] at h
  cases ob with
  | cells own room esz c e => exact h2.cell h
  | dead => cases h
  | obj own o => cases h

theorem rangeA_sound (hr : HR ng σ H.get w) {b o n : Nat} {i : BI} (hb : σ b = some i) {l : List Value} (h : rangeA H b o n = some l) :
    l.length = n ∧ ∃ l', VL σ l l' ∧ l'.length = n ∧ ∀ j v, l'[j]? = some v → w.cell? ((⟨i.c, i.off + o, none⟩ : Addr).add j) = some v := by
  obtain ⟨ob, h1, h2⟩ := hr.obj b i hb
  unfold rangeA at h
  rw [h1] at h
  cases ob with
  | cells own room esz c e =>
    simp only at h
    split at h
    · rename_i hn
      cases h
      exact ⟨by simp; omega, h2.range o n hn⟩
    · cases h
  | dead => cases h
  | obj own o => cases h

theorem run_isAgg {t : TypeId} {b : Bool} (h : isAggT P t = some b) (w : World) : (isAgg t).run P w = .ok b w := by
  unfold isAggT at h
  cases hu : P.underlying t with
  | none => rw [hu] at h; cases h
  | some d =>
    rw [hu] at h
    simp only [Option.map_some, Option.some.injEq] at h
    subst h
    cases d <;> simp [isAgg, run_underlying hu]
theorem run_sizeT {t n : Nat} (h : sizeT P t = some n) (w : World) : (sizeOf t).run P w = .ok n w := by
  unfold sizeT at h
  cases hi : P.info? t with
  | none => rw [hi] at h; cases h
  | some i => rw [hi] at h; cases h; simp [sizeOf, typeInfo, hi]
theorem run_zeroT {t : TypeId} {z : Value} (h : zeroT P t = some z) (w : World) : (zeroValue t).run P w = .ok z w := by
  unfold zeroT at h
  cases hi : P.info? t with
  | none => rw [hi] at h; cases h
  | some i =>
    rw [hi] at h
    simp only [Option.bind_some] at h
    split at h
    · rename_i z' hz
      split at h
      · cases h; simp [zeroValue, typeInfo, hi, hz]
      · cases h
    · cases h

theorem plain1_VR {v : Value} (h : plain1 v = true) : VR σ v v := by
  unfold plain1 at h
  split at h <;> first | constructor | cases h
theorem plain1_VL : ∀ {l : List Value}, l.all plain1 = true → VL σ l l
  | [], _ => .nil
  | v :: l, h => by
    simp only [List.all_cons, Bool.and_eq_true] at h
    exact .cons (plain1_VR h.1) (plain1_VL h.2)
theorem plainV_VR {v : Value} (h : plainV v = true) : VR σ v v := by
  unfold plainV at h
  split at h
  · have := VR.agg_of (plain1_VL (σ := σ) h); simpa using this
  · have := VR.tuple_of (plain1_VL (σ := σ) h); simpa using this
  · exact plain1_VR h
theorem zeroT_plain {t : TypeId} {z : Value} (h : zeroT P t = some z) : plainV z = true := by
  unfold zeroT at h
  cases hi : P.info? t with
  | none => rw [hi] at h; cases h
  | some i =>
    rw [hi] at h
    simp only [Option.bind_some] at h
    split at h
    · split at h
      · rename_i hp; cases h; exact hp
      · cases h
    · cases h
theorem zeroT_cells {t : TypeId} {z : Value} (h : zeroT P t = some z) : VL σ z.cells.toList z.cells.toList := (plainV_VR (zeroT_plain h)).cells

theorem res_load1 (hr : HR ng σ H.get w) {t : TypeId} {a a' : Value} (ha : VR σ a a') (ht : isAggT P t = some false) (hs : asem (.load1 a) H = some (v, H')) :
    Res ng σ H w ((do pure (Next.value (← Instr.loadAt t a')) : Sem Next).run P w) v H' := by
  cases ha with
  | @ptr b o i hb =>
    simp only [asem, Option.map_eq_some_iff, Prod.mk.injEq] at hs
    obtain ⟨u, hu, rfl, rfl⟩ := hs
    obtain ⟨v', h1, h2⟩ := cellA_sound hr hb hu
    exact Res.pure hr (by simp [Instr.loadAt, Instr.sureAddr, loadVar, run_isAgg ht, h1]) h2
  | _ => simp [asem] at hs

theorem res_loadn (hr : HR ng σ H.get w) {t n : Nat} {a a' : Value} (ha : VR σ a a') (ht : isAggT P t = some true) (hn : sizeT P t = some n) (hs : asem (.loadn n a) H = some (v, H')) :
    Res ng σ H w ((do pure (Next.value (← Instr.loadAt t a')) : Sem Next).run P w) v H' := by
  cases ha with
  | @ptr b o i hb =>
    simp only [asem, Option.map_eq_some_iff, Prod.mk.injEq] at hs
    obtain ⟨l, hu, rfl, rfl⟩ := hs
    obtain ⟨_, l', h1, h2, h3⟩ := rangeA_sound hr hb hu
    have hl := run_loadCells_list (P := P) w _ l' h3
    rw [h2] at hl
    exact Res.pure hr (by simp [Instr.loadAt, Instr.sureAddr, loadVar, run_isAgg ht, run_sizeT hn, hl]) (VR.agg_of h1)
  | _ => simp [asem] at hs

/-- Cells written one behind the other into a block that may be written. -/
theorem run_store_run (g o : Nat) (t : TypeId) (fr : Nat × Nat) : ∀ (vs : List Value) (i : Nat) (cur : Array Value) (w : World), w.heap[g]? = some (.cells cur t fr) → o + i + vs.length ≤ cur.size →
    (∀ v ∈ vs, v.oneCell' = true) → (∀ k, o ≤ k → k < cur.size → ¬ (fr.1 ≤ k ∧ k < fr.2)) →
    ∃ w' cur', (storeCells ⟨g, o, none⟩ vs i).run P w = .ok () w' ∧ w'.heap[g]? = some (.cells cur' t fr) ∧ cur'.toList = cur.toList.take (o + i) ++ vs ++ cur.toList.drop (o + i + vs.length) ∧
      (∀ k, k ≠ g → w'.heap[k]? = w.heap[k]?) ∧ w'.heap.size = w.heap.size ∧ w'.os = w.os ∧ w'.tape = w.tape ∧ w'.output = w.output
  | [], i, cur, w, hg, _, _, _ => ⟨w, cur, by simp [storeCells], hg, by simp, fun _ _ => rfl, rfl, rfl, rfl, rfl⟩
  | v :: rest, i, cur, w, hg, hl, h1, hf => by
    have hl' : o + i + rest.length + 1 ≤ cur.size := by simp only [List.length_cons] at hl; omega
    have hlt' : o + i < cur.size := by omega
    have hc : w.cell? ⟨g, o + i, none⟩ = some (cur[o + i]'hlt') := by
      rw [cell_of_row w g _ cur t fr hg]; exact Array.getElem?_eq_getElem hlt'
    have hz : w.frozen? ⟨g, o + i, none⟩ = false := by
      have := hf (o + i) (by omega) hlt'
      simp only [World.frozen?, hg]
      simpa using this
    have hg' : (w.setCell ⟨g, o + i, none⟩ v).heap[g]? = some (.cells (cur.setIfInBounds (o + i) v) t fr) := by
      simp [World.setCell, Array.getElem?_modify, hg]
    obtain ⟨w', cur', e1, e2, e3, e4, e5, e6, e7, e8⟩ := run_store_run g o t fr rest (i + 1) _ _ hg' (by simp only [Array.size_setIfInBounds]; omega) (fun u hu => h1 u (by simp [hu])) (by simpa using hf)
    refine ⟨w', cur', ?_, e2, ?_, fun k hk => (e4 k hk).trans ?_, e5.trans (by simp), e6, e7, e8⟩
    · simp only [storeCells, add_plain, Sem.run_bind, run_store P w _ v .plain (h1 v (by simp)), hc, hz, Result.andThen]
      simpa using e1
    · rw [e3]
      have hlt : o + i < cur.toList.length := by simpa using hlt'
      simp only [Array.toList_setIfInBounds, List.length_cons]
      rw [List.take_set, List.drop_set]
      rw [show o + (i + 1) = (o + i) + 1 by omega, if_pos (by omega), List.take_succ_eq_append_getElem hlt]
      rw [List.set_append_right _ _ (by simp; omega)]
      have hm : min (o + i) cur.size = o + i := by omega
      simp [hm]
      omega
    · simp [World.setCell, Array.getElem?_modify, show g ≠ k from fun e => hk e.symm]

/-- A store of cells into one of the heap's own blocks, on both sides. -/
theorem res_cells (hr : HR ng σ H.get w) {b o : Nat} {i : BI} (hb : σ b = some i) {room : Bool} {esz : Nat} {c : List Value} {e : TypeId} (hG : H.get b = some (.cells true room esz c e))
    {vs vs' : List Value} (hv : VL σ vs vs') (hn : o + vs.length ≤ c.length) (h1 : ∀ v ∈ vs, v.oneCell' = true) (h1' : ∀ v ∈ vs', v.oneCell' = true) :
    ∃ w', (storeCells ⟨i.c, i.off + o, none⟩ vs').run P w = .ok () w' ∧ HR ng σ (H.set b (.cells true room esz (c.take o ++ vs ++ c.drop (o + vs.length)) e)).get w' ∧
      Ext H.n σ H.get w (H.set b (.cells true room esz (c.take o ++ vs ++ c.drop (o + vs.length)) e)).n σ (H.set b (.cells true room esz (c.take o ++ vs ++ c.drop (o + vs.length)) e)).get w' := by
  obtain ⟨ob, g1, g2⟩ := hr.obj b i hb
  rw [hG] at g1; cases g1
  obtain ⟨a1, a2, a3, a4, a9, c', fr, a5, a6, a7, a8⟩ := g2
  have hvl := hv.length
  obtain ⟨w', cur', e1, e2, e3, e4, e5, e6, e7, e8⟩ := run_store_run (P := P) i.c (i.off + o) e fr vs' 0 c' w a5 (by omega) h1' (fun k hk hk2 => unfr (a8 rfl) k hk2)
  have hlt := AHeap.get_lt hG
  have hsz : cur'.size = c'.size := by
    rw [← Array.length_toList, e3]
    simp; omega
  refine ⟨w', e1, HR.upd (o2 := .cells true room esz (c.take o ++ vs ++ c.drop (o + vs.length)) e) hr hb hG rfl e4 e5 (fun x hx => AHeap.get_set_other H hx hlt _) (AHeap.get_set_same hG _) ?_, ?_⟩
  · refine ⟨by rw [a1]; simp; omega, a2, a3, by simp; omega, ?_, cur', fr, e2, by omega, ?_, fun _ => by have := a8 rfl; omega⟩
    · intro u hu
      simp only [List.mem_append] at hu
      rcases hu with (hu | hu) | hu
      · exact a9 u (List.mem_of_mem_take hu)
      · exact h1 u hu
      · exact a9 u (List.mem_of_mem_drop hu)
    · rw [e3]
      have hlen : (c.take o ++ vs ++ c.drop (o + vs.length)).length = c.length := by simp; omega
      rw [hlen]
      have key : ((c'.toList.take (i.off + o + 0) ++ vs' ++ c'.toList.drop (i.off + o + 0 + vs'.length)).drop i.off).take c.length =
          (((c'.toList.drop i.off).take c.length).take o ++ vs' ++ ((c'.toList.drop i.off).take c.length).drop (o + vs.length)) := by
        apply List.ext_getElem?
        intro j
        have hcl : c'.toList.length = i.off + i.top := by simpa using a6
        simp only [List.getElem?_take, List.getElem?_drop, List.getElem?_append, List.length_take, List.length_drop, List.length_append, hcl, Nat.add_zero]
        by_cases hj : j < c.length
        · by_cases h2 : j < o
          · simp only [hj, h2, if_true]
            rw [if_pos (by omega), if_pos (by omega), if_pos (by omega), if_pos (by omega), if_pos (by omega)]
          · by_cases h3 : j < o + vs.length
            · simp only [hj, if_true]
              rw [if_pos (by omega), if_neg (by omega), if_pos (by omega), if_neg (by omega)]
              congr 1; omega
            · simp only [hj, if_true]
              rw [if_neg (by omega), if_neg (by omega), if_pos (by omega)]
              congr 1; omega
        · simp only [hj, if_false]
          rw [if_neg (by omega), if_neg (by omega)]
      rw [key]
      exact ((a7.take o).append hv).append (a7.drop _)
  · refine ⟨Sg.le.refl σ, (fun x j hx hx' => by rw [hx] at hx'; cases hx'), fun x j o' hx ho hown => ?_, fun x j o' hx ho hlv => ?_, fun k hk hne => e4 k (fun he => hne b i _ hb hG rfl he.symm), by omega, by simp [AHeap.set], e6, e7, e8⟩
    by_cases hxb : x = b
    · subst hxb; exact ⟨_, hG, rfl⟩
    · rw [AHeap.get_set_other H hxb hlt] at ho; exact ⟨o', ho, hown⟩
    by_cases hxb : x = b
    · subst hxb; exact ⟨_, hG, rfl⟩
    · rw [AHeap.get_set_other H hxb hlt] at ho; exact ⟨o', ho, hlv⟩

theorem VR.one {v v' : Value} (h : VR σ v v') : v'.oneCell' = v.oneCell' := by cases h <;> rfl
theorem VL.one {l l' : List Value} (h : VL σ l l') (h1 : ∀ v ∈ l, v.oneCell' = true) : ∀ v ∈ l', v.oneCell' = true := by
  induction h with
  | nil => simp
  | cons a _ ih =>
    intro u hu
    simp only [List.mem_cons] at hu
    rcases hu with rfl | hu
    · rw [a.one]; exact h1 _ (by simp)
    · exact ih (fun v hv => h1 v (by simp [hv])) u hu
theorem cells_one {v : Value} (h : v.oneCell' = true) : v.cells = #[v] := by cases v <;> simp_all [Value.cells, Value.oneCell']

theorem res_store1 (hr : HR ng σ H.get w) {t : TypeId} {a a' x x' : Value} (ha : VR σ a a') (hx : VR σ x x') (ht : sizeT P t = some 1) (hs : asem (.store1 a x) H = some (v, H')) :
    Res ng σ H w ((do Instr.storeAt t a' x'; pure Next.skip : Sem Next).run P w) v H' := by
  cases ha with
  | @ptr b o i hb =>
    simp only [asem] at hs
    split at hs
    · rename_i room esz c e hG
      split at hs
      · rename_i hc
        cases hs
        have h1 : ∀ u ∈ [x], u.oneCell' = true := by simpa using hc.2
        have h1' : ∀ u ∈ [x'], u.oneCell' = true := by simp [hx.one, hc.2]
        obtain ⟨w', e1, e2, e3⟩ := res_cells (P := P) hr hb hG (.cons hx .nil) (o := o) (by simp; omega) h1 h1'
        have es : c.take o ++ [x] ++ c.drop (o + [x].length) = c.set o x := by
          rw [List.set_eq_take_append_cons_drop, if_pos hc.1]; simp
        rw [es] at e2 e3
        have hcx : x'.cells = #[x'] := cells_one (by rw [hx.one]; exact hc.2)
        refine ⟨.skip, undef, w', σ, ?_, .inr ⟨rfl, rfl⟩, e2, e3, .tuple _ _ rfl (fun i a => by simp at a)⟩
        simp [Instr.storeAt, Instr.sureAddr, storeVar, hcx, run_sizeT ht, e1]
      · cases hs
    · cases hs
  | _ => simp [asem] at hs

theorem res_storen (hr : HR ng σ H.get w) {t n : Nat} {a a' x x' : Value} (ha : VR σ a a') (hx : VR σ x x') (ht : sizeT P t = some n) (hs : asem (.storen n a x) H = some (v, H')) :
    Res ng σ H w ((do Instr.storeAt t a' x'; pure Next.skip : Sem Next).run P w) v H' := by
  cases ha with
  | @ptr b o i hb =>
    simp only [asem] at hs
    split at hs
    · rename_i room esz c e hG
      split at hs
      · rename_i hc
        obtain ⟨c1, c2, c3⟩ := hc
        cases hs
        have h1 : ∀ u ∈ x.cells.toList, u.oneCell' = true := fun u hu => List.all_eq_true.1 c3 u hu
        have hcl := hx.cells
        have h1' := hcl.one h1
        obtain ⟨w', e1, e2, e3⟩ := res_cells (P := P) hr hb hG hcl (o := o) (by omega) h1 h1'
        rw [c2] at e2 e3
        have hsz : x'.cells.size = n := by rw [← Array.length_toList, ← hcl.length]; exact c2
        refine ⟨.skip, undef, w', σ, ?_, .inr ⟨rfl, rfl⟩, e2, e3, .tuple _ _ rfl (fun i a => by simp at a)⟩
        simp [Instr.storeAt, Instr.sureAddr, storeVar, hsz, run_sizeT ht, e1]
      · cases hs
    · cases hs
  | _ => simp [asem] at hs

end
end Go.AM
