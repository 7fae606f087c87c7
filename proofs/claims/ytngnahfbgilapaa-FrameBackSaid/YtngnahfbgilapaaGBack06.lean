/- Part of the proof. -/
import Derived.Test.YtngnahfbgilapaaGBack05
set_option linter.unusedSimpArgs false
set_option linter.unusedVariables false
set_option linter.unusedSimpArgs false
set_option linter.unusedVariables false
namespace Go.AM.Fd
open Go.Proofs Go.AM.F
theorem agg_of {v : Value} (h : ∃ cs, v = .agg cs) : ∃ l : List Value, v = .agg l.toArray := by
  obtain ⟨cs, rfl⟩ := h
  exact ⟨cs.toList, by simp⟩
theorem fitCmds {H : AHeap} {v : Value} (h : AR Go.Proofs.Try.prog H.get 26 [v]) : ∃ cs : List (Nat × Int), Sl H 2 v (CC cs) := by
  obtain ⟨rows, hs, hr⟩ := h.rows (e := 108) (esz := 2) Go.Proofs.Try.underlying26 (by kernel_rfl)
  obtain ⟨m, rfl, _⟩ := list_choose (f := fun x : Nat × Int => [Value.int .u8 (x.1 : Nat), .int .i64 x.2]) (Q := fun _ => True) (l := rows) (fun r hrm => by
    have hf : fitsL Go.Proofs.Try.prog H.get [.int .u8, .int .i64] r := AR.flat (d := 20) (by kernel_rfl) (hr r hrm)
    obtain ⟨a, r0, rfl, h0, g0⟩ := hf.inv
    obtain ⟨b, r1, rfl, h1, g1⟩ := g0.inv
    obtain rfl := g1.end_
    obtain ⟨n, rfl, _⟩ := fits_u8 h0
    obtain ⟨k, rfl, _⟩ := fits_i64 h1
    exact ⟨(n, k), rfl, trivial⟩)
  exact ⟨m, hs⟩
theorem AVin {H : AHeap} {v : Value} (h : AV Go.Proofs.Try.prog H.get 30 v) : ∃ x vc, v = .agg (cI6 vc x).toArray ∧ rgI6 x ∧ Sl H 2 vc (CC x.cs) := by
  obtain ⟨l, rfl⟩ := agg_of (h.2.1 (by kernel_rfl))
  have hf : fitsL Go.Proofs.Try.prog H.get [.int .u8, .int .i64, .int .u64, .int .u32, .int .u32, .sl 26] l := by
    have := AR.flat (d := 20) (ks := [.int .u8, .int .i64, .int .u64, .int .u32, .int .u32, .sl 26]) (by kernel_rfl) h.1
    rwa [cells_agg] at this
  obtain ⟨a, r0, rfl, h0, g0⟩ := hf.inv
  obtain ⟨b, r1, rfl, h1, g1⟩ := g0.inv
  obtain ⟨c, r2, rfl, h2, g2⟩ := g1.inv
  obtain ⟨d, r3, rfl, h3, g3⟩ := g2.inv
  obtain ⟨e, r4, rfl, h4, g4⟩ := g3.inv
  obtain ⟨f, r5, rfl, h5, g5⟩ := g4.inv
  obtain rfl := g5.end_
  obtain ⟨n0, rfl, w0⟩ := fits_u8 h0
  obtain ⟨n1, rfl, _⟩ := fits_i64 h1
  obtain ⟨n2, rfl, w2⟩ := fits_u64 h2
  obtain ⟨n3, rfl, w3⟩ := fits_u32 h3
  obtain ⟨n4, rfl, w4⟩ := fits_u32 h4
  obtain ⟨cs, hs⟩ := fitCmds h5
  exact ⟨⟨n0, n1, n2, n3, n4, cs⟩, f, rfl, ⟨w0, w2, w3, w4⟩, hs⟩
theorem AVout {H : AHeap} {v : Value} (h : AV Go.Proofs.Try.prog H.get 42 v) : ∃ x, v = .agg (cOu x).toArray ∧ rgOu x := by
  obtain ⟨l, rfl⟩ := agg_of (h.2.1 (by kernel_rfl))
  have hf : fitsL Go.Proofs.Try.prog H.get [.int .u8, .int .i64, .int .i64, .int .u64, .int .u32] l := by
    have := AR.flat (d := 20) (ks := [.int .u8, .int .i64, .int .i64, .int .u64, .int .u32]) (by kernel_rfl) h.1
    rwa [cells_agg] at this
  obtain ⟨a, r0, rfl, h0, g0⟩ := hf.inv
  obtain ⟨b, r1, rfl, h1, g1⟩ := g0.inv
  obtain ⟨c, r2, rfl, h2, g2⟩ := g1.inv
  obtain ⟨d, r3, rfl, h3, g3⟩ := g2.inv
  obtain ⟨e, r4, rfl, h4, g4⟩ := g3.inv
  obtain rfl := g4.end_
  obtain ⟨n0, rfl, w0⟩ := fits_u8 h0
  obtain ⟨n1, rfl, _⟩ := fits_i64 h1
  obtain ⟨n2, rfl, _⟩ := fits_i64 h2
  obtain ⟨n3, rfl, w3⟩ := fits_u64 h3
  obtain ⟨n4, rfl, w4⟩ := fits_u32 h4
  exact ⟨⟨n0, n1, n2, n3, n4⟩, rfl, ⟨w0, w3, w4⟩⟩
theorem fitSt {G : Gf} {l : List Value} (hf : fitsL Go.Proofs.Try.prog G (.int .u64 :: .int .u64 :: .int .u64 :: (List.replicate 64 (.int .u8) ++ [.int .u32])) l) : ∃ x, l = cSt x ∧ rgSt x := by
  obtain ⟨a, r0, rfl, h0, g0⟩ := hf.inv
  obtain ⟨b, r1, rfl, h1, g1⟩ := g0.inv
  obtain ⟨c, r2, rfl, h2, g2⟩ := g1.inv
  obtain ⟨n0, rfl, w0⟩ := fits_u64 h0
  obtain ⟨n1, rfl, w1⟩ := fits_u64 h1
  obtain ⟨n2, rfl, w2⟩ := fits_u64 h2
  obtain ⟨h4, h5⟩ := g2.split
  rw [List.length_replicate] at h4 h5
  obtain ⟨t, ht, e4⟩ := h4.u8
  have e : r2 = r2.take 64 ++ r2.drop 64 := (List.take_append_drop 64 r2).symm
  obtain ⟨p, q, e5, h5, h6⟩ := h5.inv
  obtain rfl := h6.end_
  obtain ⟨n3, rfl, w3⟩ := fits_u32 h5
  exact ⟨⟨n0, n1, n2, t, n3⟩, by rw [e, e4, e5]; rfl, ⟨ht, w0, w1, w2, w3⟩⟩
theorem AVst {H : AHeap} {v : Value} (h : AV Go.Proofs.Try.prog H.get 51 v) : ∃ x, v = .agg (cSt x).toArray ∧ rgSt x := by
  obtain ⟨l, rfl⟩ := agg_of (h.2.1 (by kernel_rfl))
  have hf : fitsL Go.Proofs.Try.prog H.get (.int .u64 :: .int .u64 :: .int .u64 :: (List.replicate 64 (.int .u8) ++ [.int .u32])) l := by
    have := AR.flat (d := 20) (ks := (.int .u64 :: .int .u64 :: .int .u64 :: (List.replicate 64 (.int .u8) ++ [.int .u32]))) (by kernel_rfl) h.1
    rwa [cells_agg] at this
  obtain ⟨x, rfl, hx⟩ := fitSt hf
  exact ⟨x, rfl, hx⟩
theorem AVlog {H : AHeap} {v : Value} (h : AV Go.Proofs.Try.prog H.get 57 v) : ∃ x, v = .agg (cLo x).toArray ∧ rgSt x.s := by
  obtain ⟨l, rfl⟩ := agg_of (h.2.1 (by kernel_rfl))
  have hf : fitsL Go.Proofs.Try.prog H.get (.int .i64 :: .int .i64 :: .int .u64 :: .int .u64 :: .int .u64 :: (List.replicate 64 (.int .u8) ++ [.int .u32])) l := by
    have := AR.flat (d := 20) (ks := (.int .i64 :: .int .i64 :: .int .u64 :: .int .u64 :: .int .u64 :: (List.replicate 64 (.int .u8) ++ [.int .u32]))) (by kernel_rfl) h.1
    rwa [cells_agg] at this
  obtain ⟨a, r0, rfl, h0, g0⟩ := hf.inv
  obtain ⟨b, r1, rfl, h1, g1⟩ := g0.inv
  obtain ⟨n0, rfl, _⟩ := fits_i64 h0
  obtain ⟨n1, rfl, _⟩ := fits_i64 h1
  obtain ⟨x, rfl, hx⟩ := fitSt g1
  exact ⟨⟨n0, n1, x⟩, rfl, hx⟩
theorem fitLi {H : AHeap} {l : List Value} (hf : fitsL Go.Proofs.Try.prog H.get [.int .u8, .int .u8, .int .i64, .int .i64, .sl 22] l) : ∃ x vb, l = cLi vb x ∧ rgLi x ∧ BQ H vb x.B := by
  obtain ⟨a, r0, rfl, h0, g0⟩ := hf.inv
  obtain ⟨b, r1, rfl, h1, g1⟩ := g0.inv
  obtain ⟨c, r2, rfl, h2, g2⟩ := g1.inv
  obtain ⟨d, r3, rfl, h3, g3⟩ := g2.inv
  obtain ⟨e, r4, rfl, h4, g4⟩ := g3.inv
  obtain rfl := g4.end_
  obtain ⟨n0, rfl, w0⟩ := fits_u8 h0
  obtain ⟨n1, rfl, w1⟩ := fits_u8 h1
  obtain ⟨n2, rfl, _⟩ := fits_i64 h2
  obtain ⟨n3, rfl, _⟩ := fits_i64 h3
  have h4 : AR Go.Proofs.Try.prog H.get 22 [e] := h4
  obtain ⟨B, hB⟩ := h4.bq Go.Proofs.Try.underlying22 Go.Proofs.Try.underlying5 (by kernel_rfl)
  exact ⟨⟨n0, n1, n2, n3, B⟩, e, rfl, ⟨w0, w1⟩, hB⟩
theorem AVlink {H : AHeap} {v : Value} (h : AV Go.Proofs.Try.prog H.get 65 v) : ∃ x vb, v = .agg (cLi vb x).toArray ∧ rgLi x ∧ BQ H vb x.B := by
  obtain ⟨l, rfl⟩ := agg_of (h.2.1 (by kernel_rfl))
  have hf : fitsL Go.Proofs.Try.prog H.get [.int .u8, .int .u8, .int .i64, .int .i64, .sl 22] l := by
    have := AR.flat (d := 20) (ks := [.int .u8, .int .u8, .int .i64, .int .i64, .sl 22]) (by kernel_rfl) h.1
    rwa [cells_agg] at this
  obtain ⟨x, vb, rfl, h1, h2⟩ := fitLi hf
  exact ⟨x, vb, rfl, h1, h2⟩
theorem lawBack : ∀ H args, NoOwn H → AVs Go.Proofs.Try.prog H.get [30, 42, 51, 57, 65, 22] args → ∃ H', ARun Go.Proofs.Try.prog 0 6 args H (.bool true) H' := by
  intro H args _ h
  match args, h with
  | [v0, v1, v2, v3, v4, v5], ⟨h0, h1, h2, h3, h4, h5, _⟩ =>
    obtain ⟨i, vc, rfl, hi, hC⟩ := AVin h0
    obtain ⟨o, rfl, ho⟩ := AVout h1
    obtain ⟨s, rfl, hs⟩ := AVst h2
    obtain ⟨g, rfl, hg⟩ := AVlog h3
    obtain ⟨l, vb, rfl, hl, hB⟩ := AVlink h4
    obtain ⟨b, hb⟩ := AVbq h5
    obtain ⟨w, H', a, rfl, rfl⟩ := t6 hi hC ho hs hg hl hB.bs hb
    exact ⟨_, a⟩
end Go.AM.Fd

set_option linter.unusedSimpArgs false
set_option linter.unusedVariables false
namespace Go.AM.Fd
open Go.Proofs Go.AM.F
theorem PutR.lt {H H' : AHeap} {v : Value} {l : List UInt8} (h : PutR H H' v l) {b : Nat} (hb : blk v = some b) : H.n ≤ b ∧ b < H'.n := ⟨h.2.2 b hb, h.1.lt hb⟩
theorem PutR.isS {H H' : AHeap} {v : Value} {l : List UInt8} (h : PutR H H' v l) : isS v = true := by obtain ⟨a, rfl⟩ := h.1.shape; rfl
end Go.AM.Fd
