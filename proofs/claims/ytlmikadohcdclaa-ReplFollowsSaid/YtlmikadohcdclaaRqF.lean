/- Part of the proof: RqF. -/
import Derived.Test.YtlmikadohcdclaaRqE
set_option linter.unusedSimpArgs false
set_option linter.unusedVariables false
namespace Go.AM.Rp
open Go.Proofs

theorem PC_row {G : Gf} {r : List Value} (h : AR Try.prog G 56 r) : ∃ p : Stp, r = PC p ∧ SOK p.s ∧ p.n < 256 ∧ p.k < 256 := by
  have z5 : Try.prog.cellsOf 5 = 1 := by kernel_rfl
  have z26 : Try.prog.cellsOf 26 = 68 := by kernel_rfl
  have z56 : Try.prog.cellsOf 56 = 70 := by kernel_rfl
  obtain ⟨hl, hf⟩ := h.struct_inv Try.underlying56
  rw [z56] at hl
  have f0 : AR Try.prog G 5 ((r.drop 0).take (Try.prog.cellsOf 5)) := hf 0 _ rfl
  have f1 : AR Try.prog G 5 ((r.drop 1).take (Try.prog.cellsOf 5)) := hf 1 _ rfl
  have f2 : AR Try.prog G 26 ((r.drop 2).take (Try.prog.cellsOf 26)) := hf 2 _ rfl
  rw [z5] at f0 f1
  rw [z26] at f2
  obtain ⟨n0, g0, w0⟩ := f0.int_inv Try.underlying5
  obtain ⟨n1, g1, w1⟩ := f1.int_inv Try.underlying5
  obtain ⟨s, g2, hs⟩ := ARstate f2
  simp only [Lit.wf, Bool.and_eq_true, decide_eq_true_eq, IntKind.min, IntKind.max, IntKind.signed, IntKind.bits] at w0 w1
  obtain ⟨n0, rfl⟩ : ∃ m : Nat, n0 = m := ⟨n0.toNat, by simp at w0; omega⟩
  obtain ⟨n1, rfl⟩ : ∃ m : Nat, n1 = m := ⟨n1.toNat, by simp at w1; omega⟩
  refine ⟨⟨n0, n1, s⟩, ?_, hs, (show n1 < 256 by simp at w1; omega), (show n0 < 256 by simp at w0; omega)⟩
  rcases r with _ | ⟨a, _ | ⟨b, t⟩⟩
  · simp at hl
  · simp at hl
  have e0 : a = .int .u8 n0 := by simpa using g0
  have e1 : b = .int .u8 n1 := by simpa using g1
  have e2 : t = SC s := by rw [← g2]; simp at hl ⊢; rw [List.take_of_length_le (by omega)]
  rw [e0, e1, e2]; rfl
theorem lawFollows : ∀ H args, NoOwn H → AVs Try.prog H.get [45] args → ∃ H', ARun Try.prog 0 4 args H (.bool true) H' := by
  intro H args _ h
  match args, h with
  | [v0], ⟨h0, _⟩ =>
    obtain ⟨rows, hs, hr⟩ := h0.rows Try.underlying45 (show Try.prog.cellsOf 56 = 70 by kernel_rfl)
    obtain ⟨L, rfl, hL⟩ := list_choose (f := PC) (Q := fun p => SOK p.s ∧ p.n < 256 ∧ p.k < 256) (fun r hr' => PC_row (hr r hr'))
    obtain ⟨v, H', r, rfl⟩ := t4 (L := L) ⟨hs, fun p hp => (hL p hp).1⟩ (fun p hp => (hL p hp).2)
    exact ⟨H', r⟩
end Go.AM.Rp
