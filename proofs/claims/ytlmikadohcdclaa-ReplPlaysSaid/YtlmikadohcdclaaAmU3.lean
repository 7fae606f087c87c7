/- The abstract machine, part U3: what arguments of each type are. -/
import Derived.Test.YtlmikadohcdclaaAmU2
set_option linter.unusedSimpArgs false
set_option linter.unusedVariables false
namespace Go.AM

section
variable {P : Program} {G : Gf} {t e : TypeId} {v : Value} {cs : List Value}

theorem AR.int_inv {k : IntKind} (hu : P.underlying t = some (.int k)) (h : AR P G t cs) : ∃ n, cs = [.int k n] ∧ (Lit.int k n).wf = true := by
  cases h with
  | int h hw => rw [hu] at h; cases h; exact ⟨_, rfl, hw⟩
  | bool h => rw [hu] at h; cases h
  | str h _ => rw [hu] at h; cases h
  | nil h => rw [hu] at h; cases h
  | zero h _ => rw [hu] at h; cases h
  | sl h => rw [hu] at h; cases h
  | struct h _ => rw [hu] at h; cases h
  | array h _ => rw [hu] at h; cases h
theorem AR.bool_inv (hu : P.underlying t = some .bool) (h : AR P G t cs) : ∃ b, cs = [.bool b] := by
  cases h with
  | int h hw => rw [hu] at h; cases h
  | bool h => exact ⟨_, rfl⟩
  | str h _ => rw [hu] at h; cases h
  | nil h => rw [hu] at h; cases h
  | zero h _ => rw [hu] at h; cases h
  | sl h => rw [hu] at h; cases h
  | struct h _ => rw [hu] at h; cases h
  | array h _ => rw [hu] at h; cases h
theorem AR.str_inv (hu : P.underlying t = some .string) (h : AR P G t cs) : ∃ s : ByteArray, cs = [.string s] ∧ s.size ≤ maxLen := by
  cases h with
  | int h hw => rw [hu] at h; cases h
  | bool h => rw [hu] at h; cases h
  | str h hs => exact ⟨_, rfl, hs⟩
  | nil h => rw [hu] at h; cases h
  | zero h _ => rw [hu] at h; cases h
  | sl h => rw [hu] at h; cases h
  | struct h _ => rw [hu] at h; cases h
  | array h _ => rw [hu] at h; cases h
theorem AR.slice_inv (hu : P.underlying t = some (.slice e)) (h : AR P G t cs) : cs = [.slice none 0 0] ∨ (∃ x : Addr, x.spot.isSome = true ∧ cs = [.slice (some x) 0 0]) ∨
    ∃ b n k c u, cs = [slc b 0 n k] ∧ 0 < k ∧ n ≤ k ∧ k ≤ maxLen ∧ G b = some (.cells false false (P.cellsOf e) c u) ∧ c.length = k * P.cellsOf e ∧ ∀ i, i < k → AR P G e ((c.drop (i * P.cellsOf e)).take (P.cellsOf e)) := by
  cases h with
  | int h hw => rw [hu] at h; cases h
  | bool h => rw [hu] at h; cases h
  | str h hs => rw [hu] at h; cases h
  | nil h => exact .inl rfl
  | zero h hx => exact .inr (.inl ⟨_, hx, rfl⟩)
  | sl h a b c d e f => rw [hu] at h; cases h; exact .inr (.inr ⟨_, _, _, _, _, rfl, a, b, c, d, e, f⟩)
  | struct h _ => rw [hu] at h; cases h
  | array h _ => rw [hu] at h; cases h
theorem AR.struct_inv {fs : Array Field} (hu : P.underlying t = some (.struct fs)) (h : AR P G t cs) : cs.length = P.cellsOf t ∧ ∀ (i : Nat) (f : Field), fs[i]? = some f → AR P G f.type ((cs.drop f.offset).take (P.cellsOf f.type)) := by
  cases h with
  | int h hw => rw [hu] at h; cases h
  | bool h => rw [hu] at h; cases h
  | str h hs => rw [hu] at h; cases h
  | nil h => rw [hu] at h; cases h
  | zero h _ => rw [hu] at h; cases h
  | sl h => rw [hu] at h; cases h
  | struct h a b => rw [hu] at h; cases h; exact ⟨a, b⟩
  | array h _ => rw [hu] at h; cases h
theorem AR.array_inv {n : Nat} (hu : P.underlying t = some (.array n e)) (h : AR P G t cs) : cs.length = P.cellsOf t ∧ ∀ i, i < n → AR P G e ((cs.drop (i * P.cellsOf e)).take (P.cellsOf e)) := by
  cases h with
  | int h hw => rw [hu] at h; cases h
  | bool h => rw [hu] at h; cases h
  | str h hs => rw [hu] at h; cases h
  | nil h => rw [hu] at h; cases h
  | zero h _ => rw [hu] at h; cases h
  | sl h => rw [hu] at h; cases h
  | struct h _ => rw [hu] at h; cases h
  | array h a b => rw [hu] at h; cases h; exact ⟨a, b⟩

theorem AV.one (ha : isAggT P t = some false) (h : AV P G t v) : v.cells.toList = [v] := by
  rw [cells_one (h.2.2 ha)]
theorem AV.int_inv {k : IntKind} (hu : P.underlying t = some (.int k)) (h : AV P G t v) : ∃ n, v = .int k n ∧ (Lit.int k n).wf = true := by
  have h1 := h.one (by unfold isAggT; rw [hu]; rfl)
  obtain ⟨n, h2, h3⟩ := h.1.int_inv hu
  rw [h1] at h2
  exact ⟨n, by simpa using h2, h3⟩
theorem AV.bool_inv (hu : P.underlying t = some .bool) (h : AV P G t v) : ∃ b, v = .bool b := by
  have h1 := h.one (by unfold isAggT; rw [hu]; rfl)
  obtain ⟨n, h2⟩ := h.1.bool_inv hu
  rw [h1] at h2
  exact ⟨n, by simpa using h2⟩
theorem AV.str_inv (hu : P.underlying t = some .string) (h : AV P G t v) : ∃ s : ByteArray, v = .string s ∧ s.size ≤ maxLen := by
  have h1 := h.one (by unfold isAggT; rw [hu]; rfl)
  obtain ⟨n, h2, h3⟩ := h.1.str_inv hu
  rw [h1] at h2
  exact ⟨n, by simpa using h2, h3⟩
theorem AV.slice_inv (hu : P.underlying t = some (.slice e)) (h : AV P G t v) : v = .slice none 0 0 ∨ (∃ x : Addr, x.spot.isSome = true ∧ v = .slice (some x) 0 0) ∨
    ∃ b n k c u, v = slc b 0 n k ∧ 0 < k ∧ n ≤ k ∧ k ≤ maxLen ∧ G b = some (.cells false false (P.cellsOf e) c u) ∧ c.length = k * P.cellsOf e ∧ ∀ i, i < k → AR P G e ((c.drop (i * P.cellsOf e)).take (P.cellsOf e)) := by
  have h1 := h.one (by unfold isAggT; rw [hu]; rfl)
  rcases h.1.slice_inv hu with h2 | ⟨x, hx, h2⟩ | ⟨b, n, k, c, u, h2, h3⟩
  · rw [h1] at h2; exact .inl (by simpa using h2)
  · rw [h1] at h2; exact .inr (.inl ⟨x, hx, by simpa using h2⟩)
  · rw [h1] at h2; exact .inr (.inr ⟨b, n, k, c, u, by simpa using h2, h3⟩)

/-- Cells that are bytes. -/
theorem AR.bytes (hu : P.underlying e = some (.int .u8)) (hz : P.cellsOf e = 1) : ∀ (k : Nat) (c : List Value), c.length = k * P.cellsOf e → (∀ i, i < k → AR P G e ((c.drop (i * P.cellsOf e)).take (P.cellsOf e))) → ∃ l : List UInt8, c = cellsOf l
  | 0, c, hc, _ => ⟨[], List.eq_nil_of_length_eq_zero (by simpa using hc)⟩
  | k + 1, c, hc, h => by
    rw [hz] at hc h
    match c, hc with
    | x :: c, hc =>
      obtain ⟨n, h1, h2⟩ := (h 0 (by omega)).int_inv hu
      simp at h1
      obtain ⟨l, hl⟩ := AR.bytes hu hz k c (by rw [hz]; simpa using hc) (fun i hi => by
        have := h (i + 1) (by omega)
        rw [hz]
        simpa using this)
      simp only [Lit.wf, Bool.and_eq_true, decide_eq_true_eq, IntKind.min, IntKind.max, IntKind.signed, IntKind.bits] at h2
      obtain ⟨m, rfl⟩ : ∃ m : Nat, n = m := ⟨n.toNat, by simp at h2; omega⟩
      refine ⟨UInt8.ofNat m :: l, ?_⟩
      have hm : m % 256 = m := by simp at h2; omega
      simp [cellsOf, h1, hl, hm]
theorem AR.bs (hu : P.underlying t = some (.slice e)) (he : P.underlying e = some (.int .u8)) (hz : P.cellsOf e = 1) {H : AHeap} {v : Value} (h : AR P H.get t [v]) : ∃ l : List UInt8, BS H v l := by
  rcases h.slice_inv hu with h2 | ⟨x, hx, h2⟩ | ⟨b, n, k, c, u, h2, h3, h4, h5, h6, h7, h8⟩
  · cases h2; exact ⟨[], BS.nil H⟩
  · cases h2
    refine ⟨[], ⟨⟨_, _, rfl⟩, ?_⟩⟩
    obtain ⟨b, o, s⟩ := x
    cases s with
    | none => simp at hx
    | some s => simp [elemsA, cellsOf]
  · cases h2
    obtain ⟨l, rfl⟩ := AR.bytes he hz k c h7 h8
    rw [cellsOf_length, hz] at h7
    refine ⟨l.take n, ⟨⟨some ⟨b, 0, none⟩, k, ?_⟩, ?_⟩⟩
    · rw [List.length_take, Nat.min_eq_left (by omega)]; rfl
    · simp only [elemsA, slc, h6]
      rw [if_pos (by rw [cellsOf_length]; omega), List.drop_zero, Nat.mul_one]
      simp [cellsOf, List.map_take]
theorem AV.bs (hu : P.underlying t = some (.slice e)) (he : P.underlying e = some (.int .u8)) (hz : P.cellsOf e = 1) {H : AHeap} {v : Value} (h : AV P H.get t v) : ∃ l : List UInt8, BS H v l := by
  have h1 := h.one (by unfold isAggT; rw [hu]; rfl)
  have := h.1
  rw [h1] at this
  exact this.bs hu he hz

end
end Go.AM
