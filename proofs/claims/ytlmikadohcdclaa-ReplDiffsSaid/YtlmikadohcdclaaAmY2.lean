/- The abstract machine, part Y2: for walks: loops with what comes behind left closed, variables, own bytes. -/
import Derived.Test.YtlmikadohcdclaaAmY
import Derived.Test.YtlmikadohcdclaaAmU3
set_option linter.unusedSimpArgs false
set_option linter.unusedVariables false
namespace Go.AM

section
variable {P : Program} {ng : Nat} {H : AHeap} {Q : AQ} {fr tm : List Value}

theorem W_loop2 {c : ACode} (I : Nat → List Value → AHeap → Prop) (n : Nat) (h0 : I n fr H)
    (hs : ∀ (Q' : AQ) (k : Nat) (fr : List Value) (H : AHeap), I k fr H → (∀ k' fr H, I k' fr H → k' < k → Q' .normal fr H) → (∀ i fr H, Q (.exit i) fr H → Q' (.exit i) fr H) → (∀ fr H, Q .ret fr H → Q' .ret fr H) → W P ng c Q' fr H) : W P ng (.loop c) Q fr H :=
  ⟨I, n, h0, fun k fr H hI => hs _ k fr H hI (fun k' fr H h1 h2 => ⟨k', h2, h1⟩) (fun _ _ _ h => h) (fun _ _ h => h)⟩

theorem alloc_set (H : AHeap) (o o' : AO) : (H.alloc o).set H.n o' = H.alloc o' := by
  simp [AHeap.alloc, AHeap.set]

/-- A variable, and the value that it gets at once. -/
theorem a_var {n : Nat} {room : Bool} {esz e : Nat} {c : List Value} {xs : Array Value} (hc : c.length = n) (hx : xs.size = n) (h1 : xs.toList.all Value.oneCell' = true) :
    asem (.storen n (ptr H.n 0) (.agg xs)) (H.alloc (.cells true room esz c e)) = some (undef, H.alloc (.cells true room esz xs.toList e)) := by
  simp only [asem, ptr, AHeap.get_alloc_new]
  rw [if_pos ⟨by omega, by simpa [Value.cells] using hx, h1⟩, alloc_set]
  simp only [List.take_zero, List.nil_append, Nat.zero_add, Value.cells]
  rw [List.drop_of_length_le (by omega), List.append_nil]
theorem a_var1 {room : Bool} {esz e : Nat} {x z : Value} (h1 : x.oneCell' = true) : asem (.store1 (ptr H.n 0) x) (H.alloc (.cells true room esz [z] e)) = some (undef, H.alloc (.cells true room esz [x] e)) := by
  rw [a_st (AHeap.get_alloc_new H _) (by simp) h1, alloc_set]
  rfl

theorem a_b2sB {v : Value} {l : List UInt8} (h : BS H v l) : asem (.b2s v) H = some (.string ⟨l.toArray⟩, H) := by
  simp only [asem, h.el, bytesOf_cellsOf]
theorem keepsB_ap {H' : AHeap} {e z n : Nat} {v : Value} {c : List Value} (h : AP H e z v n c) (k : Keeps H H') : keepsB (readsA (.b2s v)) H H' := by
  rcases h with ⟨rfl, rfl, rfl⟩ | ⟨b, room, rfl, h1, h2⟩
  · simp [readsA, keepsB]
  · simp only [readsA, slc, keepsB, and_true]
    exact k.get b (AHeap.get_lt h2)
theorem olderB_ap {e z n : Nat} {v : Value} {c : List Value} (h : AP H e z v n c) : olderB (readsA (.b2s v)) H := by
  rcases h with ⟨rfl, rfl, rfl⟩ | ⟨b, room, rfl, h1, h2⟩
  · simp [readsA, olderB]
  · simp only [readsA, slc, olderB, and_true]
    exact AHeap.get_lt h2
theorem bytes_append (p q : List UInt8) : (⟨p.toArray⟩ : ByteArray) ++ ⟨q.toArray⟩ = ⟨(p ++ q).toArray⟩ := by
  rw [← bCat_eq]; rfl
theorem bytes_eq (p q : List UInt8) : decide ((⟨p.toArray⟩ : ByteArray) = ⟨q.toArray⟩) = decide (p = q) := by
  rw [bstr_eq, bEq_eq]
theorem a_s2bl (e : Nat) (l : List UInt8) : asem (.s2b e (.string ⟨l.toArray⟩)) H = some (slc H.n 0 l.length l.length, H.alloc (.cells true true 1 (cellsOf l) e)) := by
  have hs : (⟨l.toArray⟩ : ByteArray).size = l.length := by simp [ByteArray.size]
  simp only [asem, hs]
  rfl
theorem bs_new (H : AHeap) (e : Nat) (room : Bool) (l : List UInt8) : BS (H.alloc (.cells true room 1 (cellsOf l) e)) (slc H.n 0 l.length l.length) l :=
  ⟨⟨_, _, rfl⟩, elems_own (AHeap.get_alloc_new H _) (by simp [cellsOf])⟩

theorem cells_set (l : List UInt8) (j n : Nat) : (cellsOf l).set j (.int .u8 ((UInt8.ofNat n).toNat)) = cellsOf (l.set j (UInt8.ofNat n)) := by
  simp [cellsOf, List.map_set]
theorem cells_get {l : List UInt8} {j : Nat} (h : j < l.length) : (cellsOf l)[j]? = some (.int .u8 l[j].toNat) := by simp [cellsOf, h]
theorem inc_byte (b : UInt8) : (IntKind.u8.wrap ((b.toNat : Int) + 1)) = ((UInt8.ofNat (b.toNat + 1)).toNat : Int) := by
  rw [wrap_u8]
  simp only [UInt8.toNat_ofNat']; omega
theorem wrap_nat {n : Nat} (h : n < 9223372036854775808) : IntKind.i64.wrap (n : Int) = n := wrap_i64 (by omega) (by omega)
theorem wrap_succ {n : Nat} (h : n + 1 < 9223372036854775808) : IntKind.i64.wrap ((n : Int) + 1) = ((n + 1 : Nat) : Int) := by rw [wrap_i64 (by omega) (by omega)]; push_cast; rfl

end
end Go.AM
