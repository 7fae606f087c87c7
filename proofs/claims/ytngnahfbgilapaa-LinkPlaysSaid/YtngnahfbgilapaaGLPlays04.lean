/- Part of the proof. -/
import Derived.Test.YtngnahfbgilapaaGLPlays03
set_option linter.unusedSimpArgs false
set_option linter.unusedVariables false
set_option linter.unusedSimpArgs false
set_option linter.unusedVariables false
namespace Go.AM.Fd
open Nat (reduceAdd reduceEqDiff reduceLT reduceLeDiff reduceMul reduceSub)
open Go.Proofs Go.AM.F
def DV : Nat := 3988292384
def ah (r : Nat) : Nat := if r % 2 = 1 then r / 2 ^^^ DV else r / 2
def ei : Nat → Nat → Nat
  | 0, r => r
  | n + 1, r => ei n (ah r)
def crcS (r : Nat) (c : UInt8) : Nat := ei 8 (r ^^^ c.toNat)
def crcL (l : List UInt8) : Nat := l.foldl crcS 4294967295
def crc (l : List UInt8) : Nat := 4294967295 ^^^ crcL l
theorem ah_lt {r : Nat} (h : r < 4294967296) : ah r < 4294967296 := by
  unfold ah
  split
  · exact Nat.xor_lt_two_pow (n := 32) (by omega) (by decide)
  · omega
theorem ei_lt : ∀ n {r : Nat}, r < 4294967296 → ei n r < 4294967296
  | 0, _, h => h
  | n + 1, _, h => ei_lt n (ah_lt h)
theorem xc_lt {r : Nat} (h : r < 4294967296) (c : UInt8) : r ^^^ c.toNat < 4294967296 := Nat.xor_lt_two_pow (n := 32) (by omega) (by have := c.toNat_lt; omega)
theorem crcS_lt {r : Nat} (h : r < 4294967296) (c : UInt8) : crcS r c < 4294967296 := ei_lt 8 (xc_lt h c)
theorem fold_lt : ∀ (l : List UInt8) {r : Nat}, r < 4294967296 → l.foldl crcS r < 4294967296
  | [], _, h => h
  | c :: l, _, h => fold_lt l (crcS_lt h c)
theorem crcL_lt (l : List UInt8) : crcL l < 4294967296 := fold_lt l (by decide)
theorem crc_lt (l : List UInt8) : crc l < 4294967296 := Nat.xor_lt_two_pow (n := 32) (by decide) (crcL_lt l)
theorem t109 (r : Nat) (hr : r < 4294967296) (H : AHeap) : ∃ v H', ARun Go.Proofs.Try.prog 0 109 [.int .u32 r] H v H' ∧ v = .int .u32 (ah r) ∧ H' = H := by
  refine walk2 f109_ok f109_n ?_
  intro Q hq1 hq2
  have h1 : IntKind.u32.wrap ((BitVec.ofInt IntKind.u32.bits (r : Int) &&& BitVec.ofInt IntKind.u32.bits 1).toNat : Int) = ((r % 2 : Nat) : Int) := w_and1 (k := .u32) rfl hr
  have h2 : binA .shr (.int .u32 (r : Int)) (.int .u64 1) = some (.int .u32 ((r / 2 : Nat) : Int)) := b_shrN (k := .u32) (k' := .u64) (n := r) (s := 1) (by decide)
  have h3 : IntKind.u32.wrap ((BitVec.ofInt IntKind.u32.bits ((r / 2 : Nat) : Int) ^^^ BitVec.ofInt IntKind.u32.bits 3988292384).toNat : Int) = ((r / 2 ^^^ DV : Nat) : Int) := w_xor32 (b := DV) (by omega) (by decide)
  by_cases h : r % 2 = 1
  · have h4 : (0 : Int) < ((r % 2 : Nat) : Int) := by omega
    simp (disch := first | assumption | omega | (simp only [LN] <;> omega) | (simp (disch := first | assumption | omega | (simp only [LN] <;> omega)) only [row_alloc, row_set]; assumption)) only [f109, W_block, P3, ↓reduceIte, reduceAdd, reduceEqDiff, reduceCtorEq, initFr, reduceLT, clsA, reduceLeDiff, reduceMul, reduceSub, reduceIte, h1, h2, h3, h4]
    exact hq2 _ _ ⟨_, rfl, by rw [ah, if_pos h]; rfl, rfl⟩
  · have h4 : ¬ (0 : Int) < ((r % 2 : Nat) : Int) := by omega
    simp (disch := first | assumption | omega | (simp only [LN] <;> omega) | (simp (disch := first | assumption | omega | (simp only [LN] <;> omega)) only [row_alloc, row_set]; assumption)) only [f109, W_block, P3, ↓reduceIte, reduceAdd, reduceEqDiff, reduceCtorEq, initFr, reduceLT, clsA, reduceLeDiff, reduceMul, reduceSub, reduceIte, h1, h2, h3, h4]
    exact hq2 _ _ ⟨_, rfl, by rw [ah, if_neg h]; rfl, rfl⟩
theorem t108 (r : Nat) (hr : r < 4294967296) (H : AHeap) : ∃ v H', ARun Go.Proofs.Try.prog 0 108 [.int .u32 r, .func (.func 109) #[] #[]] H v H' ∧ v = .int .u32 (ei 8 r) ∧ H' = H := by
  refine walk2 f108_ok f108_n ?_
  intro Q hq1 hq2
  simp (disch := first | assumption | omega | (simp only [LN] <;> omega) | (simp (disch := first | assumption | omega | (simp only [LN] <;> omega)) only [row_alloc, row_set]; assumption)) only [f108, W_block, P3, ↓reduceIte, reduceAdd, reduceEqDiff, reduceCtorEq, initFr, reduceLT, clsA, reduceLeDiff, reduceMul, reduceSub, reduceIte]
  refine W_loop2 (fun q fr K => K = H ∧ ∃ (i s : Nat) (a : Value), i ≤ 8 ∧ q = 8 - i ∧ s < 4294967296 ∧ ei (8 - i) s = ei 8 r ∧ fr = [.int .u32 s, .func (.func 109) #[] #[], .int .u32 0, .int .i64 i, a]) 8 ⟨rfl, 0, r, undef, by omega, rfl, hr, rfl, rfl⟩ ?_
  rintro Q' q fr K ⟨rfl, i, s, a, hi, rfl, hs, he8, rfl⟩ hn he hrt
  by_cases hc : i < 8
  · simp (disch := first | assumption | omega | (simp only [LN] <;> omega) | (simp (disch := first | assumption | omega | (simp only [LN] <;> omega)) only [row_alloc, row_set]; assumption)) only [W_block, P3, ↓reduceIte, reduceAdd, reduceEqDiff, reduceCtorEq, initFr, reduceLT, clsA, reduceLeDiff, reduceMul, reduceSub, reduceIte]
    refine callK (t109 s hs K) ?_
    rintro _ _ ⟨rfl, rfl⟩
    simp (disch := first | assumption | omega | (simp only [LN] <;> omega) | (simp (disch := first | assumption | omega | (simp only [LN] <;> omega)) only [row_alloc, row_set]; assumption)) only [W_block, P3, ↓reduceIte, reduceAdd, reduceEqDiff, reduceCtorEq, initFr, reduceLT, clsA, reduceLeDiff, reduceMul, reduceSub, reduceIte, wrap_succ (n := i) (by omega)]
    refine hn _ _ _ ⟨rfl, i + 1, ah s, _, by omega, rfl, ah_lt hs, ?_, rfl⟩ (by omega)
    rw [← he8, show 8 - i = (8 - (i + 1)) + 1 by omega]; rfl
  · obtain rfl : i = 8 := by omega
    simp (disch := first | assumption | omega | (simp only [LN] <;> omega) | (simp (disch := first | assumption | omega | (simp only [LN] <;> omega)) only [row_alloc, row_set]; assumption)) only [W_block, P3, ↓reduceIte, reduceAdd, reduceEqDiff, reduceCtorEq, initFr, reduceLT, clsA, reduceLeDiff, reduceMul, reduceSub, reduceIte]
    refine he _ _ _ ?_
    simp (disch := first | assumption | omega | (simp only [LN] <;> omega) | (simp (disch := first | assumption | omega | (simp only [LN] <;> omega)) only [row_alloc, row_set]; assumption)) only [W_block, P3, ↓reduceIte, reduceAdd, reduceEqDiff, reduceCtorEq, initFr, reduceLT, clsA, reduceLeDiff, reduceMul, reduceSub, reduceIte]
    exact hq2 _ _ ⟨_, rfl, by rw [← he8]; rfl, rfl⟩
theorem t97 {H : AHeap} {x : Value} {l : List UInt8} (hx : BS H x l) (hl : l.length ≤ 1000000000) : ∃ v H', ARun Go.Proofs.Try.prog 0 97 [x] H v H' ∧ v = .int .u32 (crc l) ∧ H' = H := by
  refine walk2 f97_ok f97_n ?_
  intro Q hq1 hq2
  have hs := hx.sl
  have his := hs.is
  have hlen := hs.len
  rw [List.length_map] at hlen
  simp (disch := first | assumption | omega | (simp only [LN] <;> omega) | (simp (disch := first | assumption | omega | (simp only [LN] <;> omega)) only [row_alloc, row_set]; assumption)) only [f97, W_block, P3, ↓reduceIte, reduceAdd, reduceEqDiff, reduceCtorEq, initFr, reduceLT, clsA, reduceLeDiff, reduceMul, reduceSub, reduceIte, hlen]
  refine W_loop2 (fun q fr K => K = H ∧ ∃ (i : Nat) (y a : Value), i ≤ l.length ∧ q = l.length - i ∧ fr = [x, .int .u32 0, .int .u32 ((l.take i).foldl crcS 4294967295 : Nat), y, x, .int .i64 l.length, .int .i64 i, a]) l.length ⟨rfl, 0, undef, undef, by omega, rfl, rfl⟩ ?_
  rintro Q' q fr K ⟨rfl, i, y, a, hi, rfl, rfl⟩ hn he hrt
  have hr := fold_lt (l.take i) (r := 4294967295) (by decide)
  generalize hR : (l.take i).foldl crcS 4294967295 = R at hr ⊢
  by_cases hc : i < l.length
  · obtain ⟨hnn, hrow⟩ := hs.at_ (by omega) (i := i) (by simpa using hc)
    rw [List.getElem_map] at hrow
    have hw : IntKind.u32.wrap (l[i].toNat : Int) = l[i].toNat := by rw [wrap_u32]; have := l[i].toNat_lt; omega
    have hw2 := w_xor32 (a := R) (b := l[i].toNat) hr (by have := l[i].toNat_lt; omega)
    simp (disch := first | assumption | omega | (simp only [LN] <;> omega) | (simp (disch := first | assumption | omega | (simp only [LN] <;> omega)) only [row_alloc, row_set]; assumption)) only [W_block, P3, ↓reduceIte, reduceAdd, reduceEqDiff, reduceCtorEq, initFr, reduceLT, clsA, reduceLeDiff, reduceMul, reduceSub, reduceIte, hlen, hw, hw2]
    refine callK (t108 _ (xc_lt hr l[i]) K) ?_
    rintro _ _ ⟨rfl, rfl⟩
    simp (disch := first | assumption | omega | (simp only [LN] <;> omega) | (simp (disch := first | assumption | omega | (simp only [LN] <;> omega)) only [row_alloc, row_set]; assumption)) only [W_block, P3, ↓reduceIte, reduceAdd, reduceEqDiff, reduceCtorEq, initFr, reduceLT, clsA, reduceLeDiff, reduceMul, reduceSub, reduceIte, wrap_succ (n := i) (by omega)]
    refine hn _ _ _ ⟨rfl, i + 1, .int .u8 l[i].toNat, .bool true, by omega, rfl, ?_⟩ (by omega)
    rw [List.take_succ_eq_append_getElem hc, List.foldl_append, hR]
    rfl
  · simp (disch := first | assumption | omega | (simp only [LN] <;> omega) | (simp (disch := first | assumption | omega | (simp only [LN] <;> omega)) only [row_alloc, row_set]; assumption)) only [W_block, P3, ↓reduceIte, reduceAdd, reduceEqDiff, reduceCtorEq, initFr, reduceLT, clsA, reduceLeDiff, reduceMul, reduceSub, reduceIte]
    refine he _ _ _ ?_
    have hw2 := w_xor32 (a := 4294967295) (b := R) (by decide) hr
    simp (disch := first | assumption | omega | (simp only [LN] <;> omega) | (simp (disch := first | assumption | omega | (simp only [LN] <;> omega)) only [row_alloc, row_set]; assumption)) only [W_block, P3, ↓reduceIte, reduceAdd, reduceEqDiff, reduceCtorEq, initFr, reduceLT, clsA, reduceLeDiff, reduceMul, reduceSub, reduceIte, a_uxor]
    rw [List.take_of_length_le (by omega)] at hR
    exact hq2 _ _ ⟨_, rfl, by unfold crc crcL; rw [hR, ← hw2]; rfl, rfl⟩
def TB : List Nat := [1996959894, 3993919788, 124634137, 249268274, 498536548, 997073096, 1994146192, 3988292384]
def CTB : List Value := [.int .u32 1996959894, .int .u32 3993919788, .int .u32 124634137, .int .u32 249268274, .int .u32 498536548, .int .u32 997073096, .int .u32 1994146192, .int .u32 3988292384]
def gk (u n : Nat) : Nat → Nat
  | 0 => n
  | k + 1 => if u / 2 ^ k % 2 = 1 then gk u n k ^^^ TB.getD k 0 else gk u n k
theorem CTB_at {k : Nat} (h : k < 8) : CTB[k]? = some (.int .u32 (TB.getD k 0 : Nat)) := by
  obtain rfl | rfl | rfl | rfl | rfl | rfl | rfl | rfl : k = 0 ∨ k = 1 ∨ k = 2 ∨ k = 3 ∨ k = 4 ∨ k = 5 ∨ k = 6 ∨ k = 7 := by omega
  all_goals rfl
theorem TB_lt (k : Nat) : TB.getD k 0 < 4294967296 := by
  by_cases h : k < 8
  · obtain rfl | rfl | rfl | rfl | rfl | rfl | rfl | rfl : k = 0 ∨ k = 1 ∨ k = 2 ∨ k = 3 ∨ k = 4 ∨ k = 5 ∨ k = 6 ∨ k = 7 := by omega
    all_goals decide
  · rw [List.getD_eq_getElem?_getD, List.getElem?_eq_none (by simp [TB]; omega)]; decide
theorem gk_lt {u n : Nat} (h : n < 4294967296) : ∀ k, gk u n k < 4294967296
  | 0 => h
  | k + 1 => by
    rw [gk]
    split
    · exact Nat.xor_lt_two_pow (n := 32) (gk_lt h k) (TB_lt k)
    · exact gk_lt h k
theorem bit_half (x k : Nat) : x / 2 ^ k / 2 = x / 2 ^ (k + 1) := by rw [Nat.div_div_eq_div_mul, Nat.pow_succ]
theorem xor_half (a b : Nat) : (a ^^^ b) / 2 = a / 2 ^^^ b / 2 := Nat.xor_div_two ..
theorem xor_par (a b : Nat) : (a ^^^ b) % 2 = (a % 2) ^^^ (b % 2) := Nat.xor_mod_two_pow (n := 1)
theorem ah_xor (a b : Nat) : ah (a ^^^ b) = ah a ^^^ ah b := by
  unfold ah
  rw [xor_half, xor_par]
  rcases Nat.mod_two_eq_zero_or_one a with h1 | h1 <;> rcases Nat.mod_two_eq_zero_or_one b with h2 | h2 <;> simp only [h1, h2, Nat.reduceXor, if_true, if_false, Nat.reduceEqDiff, Nat.zero_ne_one]
  · rw [Nat.xor_assoc]
  · rw [Nat.xor_assoc, Nat.xor_assoc, Nat.xor_comm DV]
  · rw [show (a / 2 ^^^ DV) ^^^ (b / 2 ^^^ DV) = (a / 2 ^^^ b / 2) ^^^ (DV ^^^ DV) by rw [Nat.xor_assoc, Nat.xor_assoc, ← Nat.xor_assoc DV, ← Nat.xor_assoc (b / 2), Nat.xor_comm DV (b / 2)], Nat.xor_self, Nat.xor_zero]
theorem ei_xor : ∀ n a b, ei n (a ^^^ b) = ei n a ^^^ ei n b
  | 0, _, _ => rfl
  | n + 1, a, b => by rw [ei, ah_xor, ei_xor n]; rfl
def dd (k x : Nat) : Nat := if x / 2 ^ k % 2 = 1 then DV else 0
def tt (x k : Nat) : Nat := if x / 2 ^ k % 2 = 1 then TB.getD k 0 else 0
theorem ah_dd (x : Nat) : ah x = x / 2 ^^^ dd 0 x := by
  unfold ah dd
  rw [Nat.pow_zero, Nat.div_one]
  split
  · rfl
  · rw [Nat.xor_zero]
theorem ei_dd {m k : Nat} (x : Nat) (h : ei m DV = TB.getD k 0) : ei m (dd k x) = tt x k := by
  unfold dd tt
  split
  · exact h
  · have : ∀ n, ei n 0 = 0 := fun n => by induction n with
      | zero => rfl
      | succ n ih => rw [ei, show ah 0 = 0 from rfl, ih]
    exact this m
theorem dd_half (x k : Nat) : dd 0 (x / 2 ^ k) = dd k x := by unfold dd; rw [Nat.pow_zero, Nat.div_one]
theorem ei_step (m k x : Nat) (h : ei m DV = TB.getD k 0) : ei (m + 1) (x / 2 ^ k) = ei m (x / 2 ^ (k + 1)) ^^^ tt x k := by
  rw [ei, ah_dd, dd_half, bit_half, ei_xor, ei_dd x h]
theorem ei8 (x : Nat) : ei 8 x = x / 256 ^^^ tt x 7 ^^^ tt x 6 ^^^ tt x 5 ^^^ tt x 4 ^^^ tt x 3 ^^^ tt x 2 ^^^ tt x 1 ^^^ tt x 0 := by
  have h := ei_step 7 0 x (by decide)
  rw [Nat.pow_zero, Nat.div_one] at h
  rw [h, ei_step 6 1 x (by decide), ei_step 5 2 x (by decide), ei_step 4 3 x (by decide), ei_step 3 4 x (by decide), ei_step 2 5 x (by decide), ei_step 1 6 x (by decide), ei_step 0 7 x (by decide)]
  rfl
theorem gk_tt (u n k : Nat) : gk u n (k + 1) = gk u n k ^^^ tt u k := by
  rw [gk, tt]
  split
  · rfl
  · rw [Nat.xor_zero]
theorem gk8 (u n : Nat) : gk u n 8 = n ^^^ tt u 7 ^^^ tt u 6 ^^^ tt u 5 ^^^ tt u 4 ^^^ tt u 3 ^^^ tt u 2 ^^^ tt u 1 ^^^ tt u 0 := by
  rw [gk_tt, gk_tt, gk_tt, gk_tt, gk_tt, gk_tt, gk_tt, gk_tt, gk]
  ac_rfl
theorem crcS_gk (n : Nat) (c : UInt8) : crcS n c = gk ((n % 256) ^^^ c.toNat) (n / 256) 8 := by
  have hc := c.toNat_lt
  have h1 : (n % 256) ^^^ c.toNat = (n ^^^ c.toNat) % 256 := by
    have := Nat.xor_mod_two_pow (a := n) (b := c.toNat) (n := 8)
    rw [show 2 ^ 8 = 256 from rfl] at this
    rw [this, Nat.mod_eq_of_lt hc]
  have h2 : n / 256 = (n ^^^ c.toNat) / 256 := by
    have := Nat.xor_div_two_pow (a := n) (b := c.toNat) (n := 8)
    rw [show 2 ^ 8 = 256 from rfl] at this
    rw [this, Nat.div_eq_of_lt hc, Nat.xor_zero]
  have h3 : ∀ k, k < 8 → tt ((n ^^^ c.toNat) % 256) k = tt (n ^^^ c.toNat) k := by
    intro k hk
    unfold tt
    have : (n ^^^ c.toNat) % 256 / 2 ^ k % 2 = (n ^^^ c.toNat) / 2 ^ k % 2 := by
      generalize n ^^^ c.toNat = x
      obtain rfl | rfl | rfl | rfl | rfl | rfl | rfl | rfl : k = 0 ∨ k = 1 ∨ k = 2 ∨ k = 3 ∨ k = 4 ∨ k = 5 ∨ k = 6 ∨ k = 7 := by omega
      all_goals (simp only [Nat.reducePow]; omega)
    rw [this]
  unfold crcS
  rw [ei8, gk8, h1, h2, h3 0 (by omega), h3 1 (by omega), h3 2 (by omega), h3 3 (by omega), h3 4 (by omega), h3 5 (by omega), h3 6 (by omega), h3 7 (by omega)]
theorem fillTB : fillA [(.int .u32 0), (.int .u32 0), (.int .u32 0), (.int .u32 0), (.int .u32 0), (.int .u32 0), (.int .u32 0), (.int .u32 0)] [(0, 1, .int .u32 1996959894), (1, 1, .int .u32 3993919788), (2, 1, .int .u32 124634137), (3, 1, .int .u32 249268274), (4, 1, .int .u32 498536548), (5, 1, .int .u32 997073096), (6, 1, .int .u32 1994146192), (7, 1, .int .u32 3988292384)] = some CTB := rfl
theorem CTB_o : (CTB.all Value.oneCell' = true ∧ CTB.length = 8) = True := by simp [CTB, Value.oneCell']
theorem CTB_n : CTB.length = 8 := rfl
theorem t115 {H : AHeap} {x : Value} {l : List UInt8} (hx : BS H x l) (n : Nat) (hn : n < 4294967296) (hl : l.length ≤ 1000000000) : ∃ v H', ARun Go.Proofs.Try.prog 0 115 [.int .u32 n, x] H v H' ∧ v = .int .u32 (l.foldl crcS n : Nat) ∧ Keeps H H' := by
  refine walk2 f115_ok f115_n ?_
  intro Q hq1 hq2
  have his := hx.sl.is
  have hlen := hx.sl.len
  rw [List.length_map] at hlen
  simp (disch := first | assumption | omega | (simp only [LN] <;> omega) | (simp (disch := first | assumption | omega | (simp only [LN] <;> omega)) only [row_alloc, row_set]; assumption)) only [f115, W_block, P3, ↓reduceIte, reduceAdd, reduceEqDiff, reduceCtorEq, initFr, reduceLT, clsA, reduceLeDiff, reduceMul, reduceSub, reduceIte, hlen, fillTB, CTB_o]
  obtain ⟨Ha, hHa⟩ : ∃ X, X = H.alloc (.cells true false 1 CTB 25) := ⟨_, rfl⟩
  have ka := (Keeps.refl H).alloc (.cells true false 1 CTB 25)
  have g := AHeap.get_alloc_new H (.cells true false 1 CTB 25)
  rw [← hHa] at ka g ⊢
  have la := AHeap.get_lt g
  have hs := hx.sl.keeps ka
  refine W_loop2 (fun q fr K => K = Ha ∧ ∃ (i : Nat) (u k a b e : Value), i ≤ l.length ∧ q = l.length - i ∧ fr = [.int .u32 ((l.take i).foldl crcS n : Nat), x, .int .u32 0, slc H.n 0 8 8, .int .i64 i, u, k, a, b, e]) l.length ⟨rfl, 0, undef, undef, undef, undef, undef, by omega, rfl, rfl⟩ ?_
  rintro Q' q fr K ⟨rfl, i, u, k, a, b, e, hi, rfl, rfl⟩ hn' he hrt
  have hr := fold_lt (l.take i) hn
  generalize hR : (l.take i).foldl crcS n = R at hr ⊢
  by_cases hc : i < l.length
  · obtain ⟨hnn, hrow⟩ := hs.at_ (by omega) (i := i) (by simpa using hc)
    rw [List.getElem_map] at hrow
    have hw : IntKind.u8.wrap (R : Int) = ((R % 256 : Nat) : Int) := by rw [wrap_u8]; omega
    have hw2 := w_xor8 (a := R % 256) (b := l[i].toNat) (by omega) (by have := l[i].toNat_lt; omega)
    have hw3 : binA .shr (.int .u32 (R : Int)) (.int .u64 8) = some (.int .u32 ((R / 256 : Nat) : Int)) := b_shrN (k := .u32) (k' := .u64) (n := R) (s := 8) (by decide)
    simp (disch := first | assumption | omega | (simp only [LN] <;> omega) | (simp (disch := first | assumption | omega | (simp only [LN] <;> omega)) only [row_alloc, row_set]; assumption)) only [W_block, P3, ↓reduceIte, reduceAdd, reduceEqDiff, reduceCtorEq, initFr, reduceLT, clsA, reduceLeDiff, reduceMul, reduceSub, reduceIte, hlen, hw, hw2, hw3]
    have hU : R % 256 ^^^ l[i].toNat < 256 := Nat.xor_lt_two_pow (n := 8) (by omega) (by have := l[i].toNat_lt; omega)
    have hS : crcS R l[i] = gk (R % 256 ^^^ l[i].toNat) (R / 256) 8 := crcS_gk R l[i]
    generalize R % 256 ^^^ l[i].toNat = U at hU hS ⊢
    refine W_loop2 (fun q fr K' => K' = K ∧ ∃ (k : Nat) (b e : Value), k ≤ 8 ∧ q = 8 - k ∧ fr = [.int .u32 (gk U (R / 256) k : Nat), x, .int .u32 0, slc H.n 0 8 8, .int .i64 i, .int .u8 (U : Nat), .int .i64 k, .bool true, b, e]) 8 ⟨rfl, 0, _, _, by omega, rfl, rfl⟩ ?_
    rintro Q2 q fr K' ⟨rfl, k, b, e, hk, rfl, rfl⟩ hn2 he2 hr2
    have hG := gk_lt (u := U) (n := R / 256) (by omega) k
    by_cases hk8 : k < 8
    · have h1 : binA .shr (.int .u8 (U : Int)) (.int .i64 (k : Int)) = some (.int .u8 ((U / 2 ^ k : Nat) : Int)) := b_shrN (k := .u8) (k' := .i64) (by show k ≤ 8; omega)
      have h2 : IntKind.u8.wrap ((BitVec.ofInt IntKind.u8.bits ((U / 2 ^ k : Nat) : Int) &&& BitVec.ofInt IntKind.u8.bits 1).toNat : Int) = ((U / 2 ^ k % 2 : Nat) : Int) := w_and1 (k := .u8) rfl (Nat.lt_of_le_of_lt (Nat.div_le_self ..) hU)
      have h3 := CTB_at hk8
      have h4 := w_xor32 hG (TB_lt k)
      by_cases hb : U / 2 ^ k % 2 = 1
      · have h5 : ((U / 2 ^ k % 2 : Nat) : Int) = 1 := by omega
        simp (disch := first | assumption | omega | (simp only [LN] <;> omega) | (simp (disch := first | assumption | omega | (simp only [LN] <;> omega)) only [row_alloc, row_set]; assumption)) only [W_block, P3, ↓reduceIte, reduceAdd, reduceEqDiff, reduceCtorEq, initFr, reduceLT, clsA, reduceLeDiff, reduceMul, reduceSub, reduceIte, h1, h2, h3, h4, h5, g, CTB_n, wrap_succ (n := k) (by omega)]
        refine hn2 _ _ _ ⟨rfl, k + 1, .bool true, .bool true, by omega, rfl, ?_⟩ (by omega)
        rw [gk, if_pos hb]
      · have h5 : ((U / 2 ^ k % 2 : Nat) : Int) ≠ 1 := by omega
        simp (disch := first | assumption | omega | (simp only [LN] <;> omega) | (simp (disch := first | assumption | omega | (simp only [LN] <;> omega)) only [row_alloc, row_set]; assumption)) only [W_block, P3, ↓reduceIte, reduceAdd, reduceEqDiff, reduceCtorEq, initFr, reduceLT, clsA, reduceLeDiff, reduceMul, reduceSub, reduceIte, h1, h2, h3, h4, h5, g, CTB_n, wrap_succ (n := k) (by omega)]
        refine hn2 _ _ _ ⟨rfl, k + 1, .bool true, .bool false, by omega, rfl, ?_⟩ (by omega)
        rw [gk, if_neg hb]
    · obtain rfl : k = 8 := by omega
      simp (disch := first | assumption | omega | (simp only [LN] <;> omega) | (simp (disch := first | assumption | omega | (simp only [LN] <;> omega)) only [row_alloc, row_set]; assumption)) only [W_block, P3, ↓reduceIte, reduceAdd, reduceEqDiff, reduceCtorEq, initFr, reduceLT, clsA, reduceLeDiff, reduceMul, reduceSub, reduceIte]
      refine he2 _ _ _ ?_
      simp (disch := first | assumption | omega | (simp only [LN] <;> omega) | (simp (disch := first | assumption | omega | (simp only [LN] <;> omega)) only [row_alloc, row_set]; assumption)) only [W_block, P3, ↓reduceIte, reduceAdd, reduceEqDiff, reduceCtorEq, initFr, reduceLT, clsA, reduceLeDiff, reduceMul, reduceSub, reduceIte, wrap_succ (n := i) (by omega)]
      refine hn' _ _ _ ⟨rfl, i + 1, .int .u8 (U : Nat), .int .i64 8, .bool true, .bool false, e, by omega, rfl, ?_⟩ (by omega)
      rw [List.take_succ_eq_append_getElem hc, List.foldl_append, hR]
      simp only [List.foldl_cons, List.foldl_nil, hS]
      rfl
  · simp (disch := first | assumption | omega | (simp only [LN] <;> omega) | (simp (disch := first | assumption | omega | (simp only [LN] <;> omega)) only [row_alloc, row_set]; assumption)) only [W_block, P3, ↓reduceIte, reduceAdd, reduceEqDiff, reduceCtorEq, initFr, reduceLT, clsA, reduceLeDiff, reduceMul, reduceSub, reduceIte, hlen]
    refine he _ _ _ ?_
    simp (disch := first | assumption | omega | (simp only [LN] <;> omega) | (simp (disch := first | assumption | omega | (simp only [LN] <;> omega)) only [row_alloc, row_set]; assumption)) only [W_block, P3, ↓reduceIte, reduceAdd, reduceEqDiff, reduceCtorEq, initFr, reduceLT, clsA, reduceLeDiff, reduceMul, reduceSub, reduceIte]
    rw [List.take_of_length_le (by omega)] at hR
    exact hq2 _ _ ⟨_, rfl, by rw [hR]; rfl, ka⟩
theorem t107 {H : AHeap} {x : Value} {l : List UInt8} (hx : BS H x l) (hl : l.length ≤ 1000000000) : ∃ v H', ARun Go.Proofs.Try.prog 0 107 [x] H v H' ∧ v = .int .u32 (crc l) ∧ Keeps H H' := by
  refine walk2 f107_ok f107_n ?_
  intro Q hq1 hq2
  simp (disch := first | assumption | omega | (simp only [LN] <;> omega) | (simp (disch := first | assumption | omega | (simp only [LN] <;> omega)) only [row_alloc, row_set]; assumption)) only [f107, W_block, P3, ↓reduceIte, reduceAdd, reduceEqDiff, reduceCtorEq, initFr, reduceLT, clsA, reduceLeDiff, reduceMul, reduceSub, reduceIte]
  refine callK (t115 hx 4294967295 (by decide) hl) ?_
  rintro _ K ⟨rfl, k⟩
  have hw2 := w_xor32 (a := 4294967295) (b := l.foldl crcS 4294967295) (by decide) (fold_lt l (by decide))
  simp (disch := first | assumption | omega | (simp only [LN] <;> omega) | (simp (disch := first | assumption | omega | (simp only [LN] <;> omega)) only [row_alloc, row_set]; assumption)) only [W_block, P3, ↓reduceIte, reduceAdd, reduceEqDiff, reduceCtorEq, initFr, reduceLT, clsA, reduceLeDiff, reduceMul, reduceSub, reduceIte, a_uxor]
  exact hq2 _ _ ⟨_, rfl, by unfold crc crcL; rw [← hw2]; rfl, k⟩
end Go.AM.Fd

set_option linter.unusedSimpArgs false
set_option linter.unusedVariables false
namespace Go.AM.Fd
open Go.Proofs Go.AM.F
def val : List UInt8 → Nat
  | [] => 0
  | c :: l => c.toNat * 256 ^ l.length + val l
theorem val_lt : ∀ l, val l < 256 ^ l.length
  | [] => by simp [val]
  | c :: l => by
    have h1 := val_lt l
    have h2 := c.toNat_lt
    have h3 : c.toNat * 256 ^ l.length ≤ 255 * 256 ^ l.length := Nat.mul_le_mul_right _ (by omega)
    simp only [val, List.length_cons, Nat.pow_succ]
    omega
theorem fold_val : ∀ (l : List UInt8) (a : Nat), (a + 1) * 256 ^ l.length ≤ 18446744073709551616 → l.foldl (fun n b => (n * 256 + b.toNat) % 18446744073709551616) a = a * 256 ^ l.length + val l
  | [], a, h => by simp [val]
  | c :: l, a, h => by
    have h2 := c.toNat_lt
    have hp : 0 < 256 ^ l.length := Nat.pow_pos (by omega)
    rw [List.length_cons, Nat.pow_succ, Nat.mul_comm (256 ^ l.length), ← Nat.mul_assoc] at h
    have h3 : (a * 256 + c.toNat + 1) * 256 ^ l.length ≤ (a + 1) * 256 * 256 ^ l.length := Nat.mul_le_mul_right _ (by omega)
    have h4 : (a * 256 + c.toNat + 1) * 1 ≤ (a * 256 + c.toNat + 1) * 256 ^ l.length := Nat.mul_le_mul_left _ hp
    rw [List.foldl_cons, Nat.mod_eq_of_lt (by omega), fold_val l _ (by omega)]
    simp only [val, List.length_cons, Nat.pow_succ]
    rw [Nat.add_mul, Nat.mul_assoc a, Nat.mul_comm 256]
    omega
theorem num_val {l : List UInt8} (h : l.length ≤ 8) : num l = val l := by
  unfold num
  rw [fold_val l 0 ?_]
  · omega
  · have : 256 ^ l.length ≤ 256 ^ 8 := Nat.pow_le_pow_right (by omega) h
    have e : (256 : Nat) ^ 8 = 18446744073709551616 := by decide
    omega
theorem val_be : ∀ w n, val (be w n) = n % 256 ^ w
  | 0, n => by simp [be, val, Nat.mod_one]
  | w + 1, n => by
    have e1 : n % 256 ^ (w + 1) = (n / 256 ^ w % 256) * 256 ^ w + n % 256 ^ w := by
      rw [Nat.pow_succ, Nat.mod_mul, Nat.mul_comm (256 ^ w), Nat.add_comm]
    have e3 : (UInt8.ofNat (n / 256 ^ w)).toNat = n / 256 ^ w % 256 := by simp
    rw [be, val, be_length, val_be w, e3, e1]
theorem be_val : ∀ l : List UInt8, be l.length (val l) = l
  | [] => rfl
  | c :: l => by
    have h := val_lt l
    have hp : 0 < 256 ^ l.length := Nat.pow_pos (by omega)
    rw [List.length_cons, be, val]
    have e1 : (c.toNat * 256 ^ l.length + val l) / 256 ^ l.length = c.toNat := by
      rw [Nat.add_comm, Nat.add_mul_div_right _ _ hp, Nat.div_eq_of_lt h, Nat.zero_add]
    have e2 : be l.length (c.toNat * 256 ^ l.length + val l) = be l.length (val l) := by
      rw [← be_mod _ (c.toNat * 256 ^ l.length + val l) l.length (Nat.le_refl _), Nat.add_comm, Nat.add_mul_mod_self_right, Nat.mod_eq_of_lt h]
    rw [e1, e2, be_val l]
    simp
theorem num_be (w n : Nat) (h : w ≤ 8) : num (be w n) = n % 256 ^ w := by rw [num_val (by rw [be_length]; exact h), val_be]
theorem be_num (l : List UInt8) (h : l.length ≤ 8) : be l.length (num l) = l := by rw [num_val h, be_val]
def seg (l : List UInt8) (s w : Nat) : List UInt8 := if l.length < s + w then [] else (l.drop s).take w
def na (l : List UInt8) (s w : Nat) : Nat := num (seg l s w)
theorem na_lt (l : List UInt8) (s w : Nat) : na l s w < 256 ^ w := by
  unfold na
  have h1 := num_lt' (seg l s w)
  have h2 : (seg l s w).length ≤ w := by
    unfold seg
    split
    · simp
    · rw [List.length_take]; omega
  exact Nat.lt_of_lt_of_le h1 (Nat.pow_le_pow_right (by omega) h2)
theorem na1 (l : List UInt8) (s : Nat) : na l s 1 < 256 := na_lt l s 1
theorem na2 (l : List UInt8) (s : Nat) : na l s 2 < 65536 := na_lt l s 2
theorem na8 (l : List UInt8) (s : Nat) : na l s 8 < 18446744073709551616 := na_lt l s 8
theorem be_na {l : List UInt8} {s w : Nat} (h : s + w ≤ l.length) (hw : w ≤ 8) : be w (na l s w) = (l.drop s).take w := by
  unfold na seg
  rw [if_neg (by omega)]
  have hl : ((l.drop s).take w).length = w := by rw [List.length_take, List.length_drop]; omega
  have := be_num ((l.drop s).take w) (by omega)
  rw [hl] at this
  exact this
theorem seg_in {l : List UInt8} {s w : Nat} (h : s + w ≤ l.length) : seg l s w = (l.drop s).take w := by unfold seg; rw [if_neg (by omega)]
theorem seg_app (p q : List UInt8) {s w : Nat} (h : p.length ≤ s) : seg (p ++ q) s w = seg q (s - p.length) w := by
  unfold seg
  rw [List.length_append, List.drop_append, List.drop_of_length_le h, List.nil_append]
  by_cases h1 : p.length + q.length < s + w
  · rw [if_pos h1, if_pos (by omega)]
  · rw [if_neg h1, if_neg (by omega)]
theorem seg_left (p q : List UInt8) {s w : Nat} (h : s + w ≤ p.length) : seg (p ++ q) s w = seg p s w := by
  unfold seg
  rw [List.length_append, if_neg (by omega), if_neg (by omega), List.drop_append, List.take_append_of_le_length (by rw [List.length_drop]; omega)]
theorem na_be (k n : Nat) (q : List UInt8) {s w : Nat} (h : k ≤ s) : na (be k n ++ q) s w = na q (s - k) w := by
  unfold na
  rw [seg_app _ _ (by rw [be_length]; exact h), be_length]
theorem na_0 (n : Nat) (q : List UInt8) {w : Nat} (hw : w ≤ 8) (hn : n < 256 ^ w) : na (be w n ++ q) 0 w = n := by
  unfold na
  rw [seg_left _ _ (by rw [be_length]; omega), seg_in (by rw [be_length]; omega), List.drop_zero, List.take_of_length_le (by rw [be_length]; omega), num_be w n hw, Nat.mod_eq_of_lt hn]
theorem td (l : List UInt8) {s w t : Nat} (h : t = s + w) : (l.drop s).take w ++ l.drop t = l.drop s := by
  subst h
  rw [← List.drop_drop, List.take_append_drop]
def chk (l : List UInt8) : List UInt8 := l ++ be 4 (crc l)
def bd (b : List UInt8) : List UInt8 := (b.drop 1).take (b.length - 5)
def frm (k : Nat) (b : List UInt8) : Bool := decide (5 ≤ b.length) && (b[0]? == some (UInt8.ofNat k) && num (b.drop (b.length - 4)) == crc (b.take (b.length - 4)))
theorem bd_len (b : List UInt8) : (bd b).length = b.length - 5 := by unfold bd; rw [List.length_take, List.length_drop]; omega
theorem chk_len (l : List UInt8) : (chk l).length = l.length + 4 := by simp [chk, be_length]
theorem bd_chk (k : UInt8) (l : List UInt8) : bd (chk (k :: l)) = l := by
  unfold bd
  rw [chk_len, chk, List.cons_append, List.drop_one, List.tail_cons, List.length_cons, show l.length + 1 + 4 - 5 = l.length by omega, List.take_left]
theorem frm_len {k : Nat} {b : List UInt8} (h : frm k b = true) : 5 ≤ b.length := by
  simp only [frm, Bool.and_eq_true, decide_eq_true_eq] at h; exact h.1
theorem frm_eq {k : Nat} {b : List UInt8} (h : frm k b = true) : b = chk (UInt8.ofNat k :: bd b) := by
  simp only [frm, Bool.and_eq_true, decide_eq_true_eq, beq_iff_eq] at h
  obtain ⟨h1, h2, h3⟩ := h
  cases b with
  | nil => simp at h1
  | cons c b =>
    simp only [List.getElem?_cons_zero, Option.some.injEq] at h2
    subst h2
    have e1 : (UInt8.ofNat k :: bd (UInt8.ofNat k :: b)) = (UInt8.ofNat k :: b).take ((UInt8.ofNat k :: b).length - 4) := by
      unfold bd
      rw [List.drop_one, List.tail_cons, List.length_cons]
      rw [List.length_cons] at h1
      rw [show b.length + 1 - 4 = (b.length + 1 - 5) + 1 by omega, List.take_succ_cons]
    rw [e1]
    unfold chk
    rw [← h3]
    generalize hx : UInt8.ofNat k :: b = x at *
    have hl : (x.drop (x.length - 4)).length = 4 := by rw [List.length_drop]; omega
    have := be_num (x.drop (x.length - 4)) (by omega)
    rw [hl] at this
    rw [this, List.take_append_drop]
theorem frm_chk {k : Nat} (l : List UInt8) : frm k (chk (UInt8.ofNat k :: l)) = true := by
  have hl := chk_len (UInt8.ofNat k :: l)
  rw [List.length_cons] at hl
  simp only [frm, Bool.and_eq_true, decide_eq_true_eq, beq_iff_eq]
  refine ⟨by omega, by simp [chk], ?_⟩
  rw [hl, show l.length + 1 + 4 - 4 = (UInt8.ofNat k :: l).length by simp]
  unfold chk
  rw [List.drop_left, List.take_left, num_be 4 _ (by omega), Nat.mod_eq_of_lt (crc_lt _)]
theorem na_bd {b : List UInt8} {s w : Nat} (h : s + w + 5 ≤ b.length) : na b (s + 1) w = na (bd b) s w := by
  unfold na
  rw [seg_in (by omega), seg_in (by rw [bd_len]; omega)]
  unfold bd
  rw [List.drop_take, List.take_take, List.drop_drop, Nat.min_eq_left (by omega), Nat.add_comm 1 s]
def sg (n : Nat) : Int := IntKind.i64.wrap n
theorem sg_pos {n : Nat} (hn : n < 18446744073709551616) (h : 0 ≤ sg n) : sg n = n := by
  unfold sg at *
  simp [IntKind.wrap, IntKind.bits, IntKind.signed] at *
  omega
theorem sg_nat {n : Nat} (hn : n < 9223372036854775808) : sg n = n := wrap_i64 (by omega) (by omega)
theorem be_sg {l : List UInt8} {s : Nat} (h : s + 8 ≤ l.length) (h0 : 0 ≤ sg (na l s 8)) : be 8 (sg (na l s 8)).toNat = (l.drop s).take 8 := by
  rw [sg_pos (na8 l s) h0, Int.toNat_natCast, be_na h (by omega)]
structure Li where
  f : Nat
  t : Nat
  q : Int
  k : Int
  B : List UInt8
def Li0 : Li := ⟨0, 0, 0, 0, []⟩
def sqB (n : Int) : Bool := decide (0 ≤ n) && decide (n ≤ 4611686018427387904)
theorem sqB_iff {n : Int} : sqB n = true ↔ 0 ≤ n ∧ n ≤ 4611686018427387904 := by simp [sqB]
def okLi (x : Li) : Bool := sqB x.q && sqB x.k && decide (x.B.length ≤ 2048)
structure rgLi (x : Li) : Prop where
  hf : x.f < 256
  ht : x.t < 256
def enLi (x : Li) : List UInt8 := be 1 x.f ++ (be 1 x.t ++ (be 8 x.q.toNat ++ (be 8 x.k.toNat ++ (be 2 x.B.length ++ x.B))))
def deLi (l : List UInt8) : Li := ⟨na l 0 1, na l 1 1, sg (na l 2 8), sg (na l 10 8), seg l 20 (na l 18 2)⟩
def pdLi (l : List UInt8) : Option Li := if l.length = 20 + na l 18 2 ∧ okLi (deLi l) = true then some (deLi l) else none
theorem enLi_len (x : Li) : (enLi x).length = 20 + x.B.length := by simp [enLi, be_length]; omega
theorem okLi_iff {x : Li} : okLi x = true ↔ (0 ≤ x.q ∧ x.q ≤ 4611686018427387904) ∧ (0 ≤ x.k ∧ x.k ≤ 4611686018427387904) ∧ x.B.length ≤ 2048 := by
  simp only [okLi, Bool.and_eq_true, sqB_iff, decide_eq_true_eq, and_assoc]
theorem deLi_rg (l : List UInt8) : rgLi (deLi l) := ⟨na1 l 0, na1 l 1⟩
theorem pdLi_e {l : List UInt8} {x : Li} (h : pdLi l = some x) : enLi x = l ∧ okLi x = true ∧ rgLi x := by
  unfold pdLi at h
  split at h
  · rename_i hc
    obtain ⟨h1, h2⟩ := hc
    simp only [Option.some.injEq] at h; subst h
    refine ⟨?_, h2, deLi_rg l⟩
    have h3 := okLi_iff.1 h2
    simp only [deLi] at h3
    have hs : seg l 20 (na l 18 2) = l.drop 20 := by rw [seg_in (by omega), List.take_of_length_le (by rw [List.length_drop]; omega)]
    unfold enLi deLi
    simp only
    rw [hs, show (l.drop 20).length = na l 18 2 by rw [List.length_drop]; omega, be_na (by omega) (by omega), be_na (by omega) (by omega), be_sg (by omega) h3.1.1, be_sg (by omega) h3.2.1.1, be_na (by omega) (by omega), td l rfl, td l rfl, td l rfl, td l rfl, td l rfl, List.drop_zero]
  · cases h
theorem pdLi_d {x : Li} (h1 : okLi x = true) (h2 : rgLi x) : pdLi (enLi x) = some x := by
  have h := okLi_iff.1 h1
  have e0 : na (enLi x) 18 2 = x.B.length := by
    unfold enLi
    simp only [na_be, Nat.reduceLeDiff, Nat.reduceSub, Nat.le_refl, Nat.sub_self]
    rw [na_0 _ _ (by omega) (by omega)]
  have e1 : seg (enLi x) 20 x.B.length = x.B := by
    rw [seg_in (by rw [enLi_len]; omega)]
    unfold enLi
    rw [← List.append_assoc, ← List.append_assoc, ← List.append_assoc, ← List.append_assoc, List.drop_append, List.drop_of_length_le (by simp [be_length])]
    simp [be_length]
  have e : deLi (enLi x) = x := by
    unfold deLi
    rw [e0, e1]
    unfold enLi
    simp only [na_be, Nat.reduceLeDiff, Nat.reduceSub, Nat.le_refl, Nat.sub_self]
    rw [na_0 _ _ (by omega) h2.hf, na_0 _ _ (by omega) h2.ht, na_0 _ _ (by omega) (by omega), na_0 _ _ (by omega) (by omega), sg_nat (by omega), sg_nat (by omega), Int.toNat_of_nonneg h.1.1, Int.toNat_of_nonneg h.2.1.1]
  unfold pdLi
  rw [if_pos ⟨by rw [enLi_len, e0], by rw [e]; exact h1⟩, e]
end Go.AM.Fd

set_option linter.unusedSimpArgs false
set_option linter.unusedVariables false
namespace Go.AM.Fd
open Nat (reduceAdd reduceEqDiff reduceLT reduceLeDiff reduceMul reduceSub)
open Go.Proofs Go.AM.F
def RR (H : AHeap) (lo hi r : Nat) (l : List UInt8) (s : Nat) : Prop := lo ≤ r ∧ r < hi ∧ hi ≤ H.n ∧ ∃ bv, lo ≤ bv ∧ bv < hi ∧ RS H r bv (l.drop s) (decide (l.length < s))
theorem RR.keeps {H H' : AHeap} {lo hi r : Nat} {l : List UInt8} {s : Nat} (h : RR H lo hi r l s) (k : Keeps H H') : RR H' lo hi r l s := by
  obtain ⟨h1, h2, h3, bv, h4, h5, h6⟩ := h
  exact ⟨h1, h2, Nat.le_trans h3 k.n, bv, h4, h5, h6.chg (k.chg []) (by simp) (by simp)⟩
theorem RR.chg {H H' : AHeap} {lo hi r b : Nat} {l : List UInt8} {s : Nat} (h : RR H lo hi r l s) (k : Chg [b] H H') (hb : b < lo ∨ hi ≤ b) : RR H' lo hi r l s := by
  obtain ⟨h1, h2, h3, bv, h4, h5, h6⟩ := h
  exact ⟨h1, h2, Nat.le_trans h3 k.n, bv, h4, h5, h6.chg k (by simp; omega) (by simp; omega)⟩
theorem fail_at (l : List UInt8) (s w : Nat) : failB (l.drop s) (decide (l.length < s)) (w : Int) ↔ l.length < s + w := by
  unfold failB
  rw [List.length_drop, decide_eq_true_eq]
  omega
theorem Aft.rr {H H' : AHeap} {r bv lo hi s w : Nat} {l : List UInt8} (h : Aft H H' r bv (l.drop s) (decide (l.length < s)) (w : Int)) (h1 : lo ≤ r) (h2 : r < hi) (h3 : hi ≤ H'.n) (h4 : lo ≤ bv) (h5 : bv < hi) : RR H' lo hi r l (s + w) := by
  obtain ⟨bv', p1, p2⟩ := h
  refine ⟨h1, h2, h3, bv', by omega, by omega, ?_⟩
  have e1 : restL (l.drop s) (decide (l.length < s)) (w : Int) = l.drop (s + w) := by
    unfold restL
    by_cases hf : l.length < s + w
    · rw [if_pos ((fail_at l s w).2 hf), List.drop_of_length_le (by omega)]
    · rw [if_neg (fun h => hf ((fail_at l s w).1 h)), Int.toNat_natCast, List.drop_drop]
  have e2 : badB (l.drop s) (decide (l.length < s)) (w : Int) = decide (l.length < s + w) := by
    unfold badB
    rw [decide_eq_decide, fail_at]
  rw [e1, e2] at p1
  exact p1
theorem gotL_at (l : List UInt8) (s w : Nat) : gotL (l.drop s) (decide (l.length < s)) (w : Int) = seg l s w := by
  unfold gotL seg
  by_cases hf : l.length < s + w
  · rw [if_pos ((fail_at l s w).2 hf), if_pos hf]
  · rw [if_neg (fun h => hf ((fail_at l s w).1 h)), if_neg hf, Int.toNat_natCast]
section
variable {H : AHeap} {lo hi r s : Nat} {l : List UInt8}
theorem q63 (h : RR H lo hi r l s) (hl : l.length ≤ 1000000000) : ∃ v H', ARun Go.Proofs.Try.prog 0 63 [ptr r 0] H v H' ∧ v = .int .u8 (na l s 1 : Nat) ∧ RR H' lo hi r l (s + 1) ∧ Chg [r] H H' := by
  obtain ⟨h1, h2, h3, bv, h4, h5, h6⟩ := h
  obtain ⟨v, H', q, rfl, p1, p2⟩ := t63 h6 (by rw [List.length_drop]; omega)
  exact ⟨_, H', q, by rw [show (1 : Int) = ((1 : Nat) : Int) from rfl, gotL_at]; rfl, Aft.rr p1 h1 h2 (Nat.le_trans h3 p2.n) h4 h5, p2⟩
theorem q75 (h : RR H lo hi r l s) (hl : l.length ≤ 1000000000) : ∃ v H', ARun Go.Proofs.Try.prog 0 75 [ptr r 0] H v H' ∧ v = .int .u16 (na l s 2 : Nat) ∧ RR H' lo hi r l (s + 2) ∧ Chg [r] H H' := by
  obtain ⟨h1, h2, h3, bv, h4, h5, h6⟩ := h
  obtain ⟨v, H', q, rfl, p1, p2⟩ := t75 h6 (by rw [List.length_drop]; omega)
  exact ⟨_, H', q, by rw [show (2 : Int) = ((2 : Nat) : Int) from rfl, gotL_at]; rfl, Aft.rr p1 h1 h2 (Nat.le_trans h3 p2.n) h4 h5, p2⟩
theorem q65 (h : RR H lo hi r l s) (hl : l.length ≤ 1000000000) : ∃ v H', ARun Go.Proofs.Try.prog 0 65 [ptr r 0] H v H' ∧ v = .int .u32 (na l s 4 : Nat) ∧ RR H' lo hi r l (s + 4) ∧ Chg [r] H H' := by
  obtain ⟨h1, h2, h3, bv, h4, h5, h6⟩ := h
  obtain ⟨v, H', q, rfl, p1, p2⟩ := t65 h6 (by rw [List.length_drop]; omega)
  exact ⟨_, H', q, by rw [show (4 : Int) = ((4 : Nat) : Int) from rfl, gotL_at]; rfl, Aft.rr p1 h1 h2 (Nat.le_trans h3 p2.n) h4 h5, p2⟩
theorem q64 (h : RR H lo hi r l s) (hl : l.length ≤ 1000000000) : ∃ v H', ARun Go.Proofs.Try.prog 0 64 [ptr r 0] H v H' ∧ v = .int .u64 (na l s 8 : Nat) ∧ RR H' lo hi r l (s + 8) ∧ Chg [r] H H' := by
  obtain ⟨h1, h2, h3, bv, h4, h5, h6⟩ := h
  obtain ⟨v, H', q, rfl, p1, p2⟩ := t64 h6 (by rw [List.length_drop]; omega)
  exact ⟨_, H', q, by rw [show (8 : Int) = ((8 : Nat) : Int) from rfl, gotL_at]; rfl, Aft.rr p1 h1 h2 (Nat.le_trans h3 p2.n) h4 h5, p2⟩
theorem q74 (h : RR H lo hi r l s) (w : Nat) (hl : l.length ≤ 1000000000) : ∃ v H', ARun Go.Proofs.Try.prog 0 74 [ptr r 0, .int .i64 (w : Nat)] H v H' ∧ BS H' v (seg l s w) ∧ RR H' lo hi r l (s + w) ∧ Chg [r] H H' ∧ (∀ b, blk v = some b → lo ≤ b ∧ b < hi) := by
  obtain ⟨h1, h2, h3, bv, h4, h5, h6⟩ := h
  obtain ⟨v, H', q, p0, p1, p2, p3⟩ := t74 h6 (w : Int) (by rw [List.length_drop]; omega)
  rw [gotL_at] at p0
  refine ⟨_, H', q, p0, Aft.rr p1 h1 h2 (Nat.le_trans h3 p2.n) h4 h5, p2, ?_⟩
  intro b hb
  rcases p3 with ⟨rfl, _⟩ | ⟨_, _, ⟨rfl, _⟩ | ⟨o, c, rm, rfl, _⟩⟩
  · cases hb
  · cases hb
  · cases hb; exact ⟨h4, h5⟩
theorem q99 (h : RR H lo hi r l s) : ∃ v H', ARun Go.Proofs.Try.prog 0 99 [ptr r 0] H v H' ∧ v = .bool (decide (l.length < s)) ∧ H' = H := by
  obtain ⟨h1, h2, h3, bv, h4, h5, h6⟩ := h
  exact t99 h6
theorem q100 (h : RR H lo hi r l s) : ∃ v H', ARun Go.Proofs.Try.prog 0 100 [ptr r 0] H v H' ∧ v = .int .i64 (l.length - s : Nat) ∧ H' = H := by
  obtain ⟨h1, h2, h3, bv, h4, h5, h6⟩ := h
  have := t100 h6
  rwa [List.length_drop] at this
end
theorem n103 (n : Int) (H : AHeap) : ∃ v H', ARun Go.Proofs.Try.prog 0 103 [.pointer none, .int .i64 n] H v H' ∧ v = .slice none 0 0 ∧ H' = H := by
  refine walk2 f103_ok f103_n ?_
  intro Q hq1 hq2
  simp (disch := first | assumption | omega | (simp only [LN] <;> omega) | (simp (disch := first | assumption | omega | (simp only [LN] <;> omega)) only [row_alloc, row_set]; assumption)) only [f103, W_block, P3, ↓reduceIte, reduceAdd, reduceEqDiff, reduceCtorEq, initFr, reduceLT, clsA, reduceLeDiff, reduceMul, reduceSub, reduceIte]
  exact hq2 _ _ ⟨_, rfl, rfl, rfl⟩
theorem n98 (k : Nat) (hk : k < 4) (H : AHeap) : ∃ v H', ARun Go.Proofs.Try.prog 0 98 [.pointer none, .int .i64 ((2 ^ k : Nat) : Int)] H v H' ∧ v = .iface (tyR k) (.int (kdR k) 0) ∧ H' = H := by
  refine walk2 f98_ok f98_n ?_
  intro Q hq1 hq2
  simp (disch := first | assumption | omega | (simp only [LN] <;> omega) | (simp (disch := first | assumption | omega | (simp only [LN] <;> omega)) only [row_alloc, row_set]; assumption)) only [f98, W_block, P3, ↓reduceIte, reduceAdd, reduceEqDiff, reduceCtorEq, initFr, reduceLT, clsA, reduceLeDiff, reduceMul, reduceSub, reduceIte]
  refine callK (n103 _ H) ?_
  rintro _ _ ⟨rfl, rfl⟩
  simp (disch := first | assumption | omega | (simp only [LN] <;> omega) | (simp (disch := first | assumption | omega | (simp only [LN] <;> omega)) only [row_alloc, row_set]; assumption)) only [W_block, P3, ↓reduceIte, reduceAdd, reduceEqDiff, reduceCtorEq, initFr, reduceLT, clsA, reduceLeDiff, reduceMul, reduceSub, reduceIte]
  refine callK (t110 (BS.nil _) k hk (by simp)) ?_
  rintro _ _ ⟨rfl, rfl⟩
  simp (disch := first | assumption | omega | (simp only [LN] <;> omega) | (simp (disch := first | assumption | omega | (simp only [LN] <;> omega)) only [row_alloc, row_set]; assumption)) only [W_block, P3, ↓reduceIte, reduceAdd, reduceEqDiff, reduceCtorEq, initFr, reduceLT, clsA, reduceLeDiff, reduceMul, reduceSub, reduceIte]
  exact hq2 _ _ ⟨_, rfl, rfl, rfl⟩
theorem n63 (H : AHeap) : ∃ v H', ARun Go.Proofs.Try.prog 0 63 [.pointer none] H v H' ∧ v = .int .u8 0 ∧ H' = H := by
  refine walk2 f63_ok f63_n ?_
  intro Q hq1 hq2
  simp (disch := first | assumption | omega | (simp only [LN] <;> omega) | (simp (disch := first | assumption | omega | (simp only [LN] <;> omega)) only [row_alloc, row_set]; assumption)) only [f63, W_block, P3, ↓reduceIte, reduceAdd, reduceEqDiff, reduceCtorEq, initFr, reduceLT, clsA, reduceLeDiff, reduceMul, reduceSub, reduceIte]
  refine callK (n98 0 (by omega) H) ?_
  rintro _ _ ⟨rfl, rfl⟩
  simp (disch := first | assumption | omega | (simp only [LN] <;> omega) | (simp (disch := first | assumption | omega | (simp only [LN] <;> omega)) only [row_alloc, row_set]; assumption)) only [W_block, P3, ↓reduceIte, reduceAdd, reduceEqDiff, reduceCtorEq, initFr, reduceLT, clsA, reduceLeDiff, reduceMul, reduceSub, reduceIte, tyR, kdR]
  exact hq2 _ _ ⟨_, rfl, rfl, rfl⟩
theorem n75 (H : AHeap) : ∃ v H', ARun Go.Proofs.Try.prog 0 75 [.pointer none] H v H' ∧ v = .int .u16 0 ∧ H' = H := by
  refine walk2 f75_ok f75_n ?_
  intro Q hq1 hq2
  simp (disch := first | assumption | omega | (simp only [LN] <;> omega) | (simp (disch := first | assumption | omega | (simp only [LN] <;> omega)) only [row_alloc, row_set]; assumption)) only [f75, W_block, P3, ↓reduceIte, reduceAdd, reduceEqDiff, reduceCtorEq, initFr, reduceLT, clsA, reduceLeDiff, reduceMul, reduceSub, reduceIte]
  refine callK (n98 1 (by omega) H) ?_
  rintro _ _ ⟨rfl, rfl⟩
  simp (disch := first | assumption | omega | (simp only [LN] <;> omega) | (simp (disch := first | assumption | omega | (simp only [LN] <;> omega)) only [row_alloc, row_set]; assumption)) only [W_block, P3, ↓reduceIte, reduceAdd, reduceEqDiff, reduceCtorEq, initFr, reduceLT, clsA, reduceLeDiff, reduceMul, reduceSub, reduceIte, tyR, kdR]
  exact hq2 _ _ ⟨_, rfl, rfl, rfl⟩
theorem n64 (H : AHeap) : ∃ v H', ARun Go.Proofs.Try.prog 0 64 [.pointer none] H v H' ∧ v = .int .u64 0 ∧ H' = H := by
  refine walk2 f64_ok f64_n ?_
  intro Q hq1 hq2
  simp (disch := first | assumption | omega | (simp only [LN] <;> omega) | (simp (disch := first | assumption | omega | (simp only [LN] <;> omega)) only [row_alloc, row_set]; assumption)) only [f64, W_block, P3, ↓reduceIte, reduceAdd, reduceEqDiff, reduceCtorEq, initFr, reduceLT, clsA, reduceLeDiff, reduceMul, reduceSub, reduceIte]
  refine callK (n98 3 (by omega) H) ?_
  rintro _ _ ⟨rfl, rfl⟩
  simp (disch := first | assumption | omega | (simp only [LN] <;> omega) | (simp (disch := first | assumption | omega | (simp only [LN] <;> omega)) only [row_alloc, row_set]; assumption)) only [W_block, P3, ↓reduceIte, reduceAdd, reduceEqDiff, reduceCtorEq, initFr, reduceLT, clsA, reduceLeDiff, reduceMul, reduceSub, reduceIte, tyR, kdR]
  exact hq2 _ _ ⟨_, rfl, rfl, rfl⟩
theorem n74 (n : Int) (H : AHeap) : ∃ v H', ARun Go.Proofs.Try.prog 0 74 [.pointer none, .int .i64 n] H v H' ∧ v = .slice none 0 0 ∧ H' = H := by
  refine walk2 f74_ok f74_n ?_
  intro Q hq1 hq2
  simp (disch := first | assumption | omega | (simp only [LN] <;> omega) | (simp (disch := first | assumption | omega | (simp only [LN] <;> omega)) only [row_alloc, row_set]; assumption)) only [f74, W_block, P3, ↓reduceIte, reduceAdd, reduceEqDiff, reduceCtorEq, initFr, reduceLT, clsA, reduceLeDiff, reduceMul, reduceSub, reduceIte]
  refine callK (n103 _ H) ?_
  rintro _ _ ⟨rfl, rfl⟩
  simp (disch := first | assumption | omega | (simp only [LN] <;> omega) | (simp (disch := first | assumption | omega | (simp only [LN] <;> omega)) only [row_alloc, row_set]; assumption)) only [W_block, P3, ↓reduceIte, reduceAdd, reduceEqDiff, reduceCtorEq, initFr, reduceLT, clsA, reduceLeDiff, reduceMul, reduceSub, reduceIte]
  exact hq2 _ _ ⟨_, rfl, rfl, rfl⟩
theorem frm_w (k : Nat) (b : List UInt8) (h5 : 5 ≤ b.length) : frm k b = (b[0]? == some (UInt8.ofNat k) && num (b.drop (b.length - 4)) == crc (b.take (b.length - 4))) := by
  simp [frm, h5]
theorem t62 {H : AHeap} {x : Value} {b : List UInt8} (hx : BQ H x b) (k : Nat) (hk : k < 256) (hl : b.length ≤ 1000000000) : ∃ v H', ARun Go.Proofs.Try.prog 0 62 [.int .u8 k, x] H v H' ∧ Keeps H H' ∧
    ((v = .tuple #[.pointer none, .bool false] ∧ H' = H ∧ frm k b = false) ∨ ∃ r, v = .tuple #[ptr r 0, .bool (frm k b)] ∧ RR H' H.n H'.n r (bd b) 0) := by
  refine walk2 f62_ok f62_n ?_
  intro Q hq1 hq2
  have hs := hx.bs.sl
  have his := hs.is
  have hlen := hs.len
  rw [List.length_map] at hlen
  by_cases h5 : b.length < 5
  · simp (disch := first | assumption | omega | (simp only [LN] <;> omega) | (simp (disch := first | assumption | omega | (simp only [LN] <;> omega)) only [row_alloc, row_set]; assumption)) only [f62, W_block, P3, ↓reduceIte, reduceAdd, reduceEqDiff, reduceCtorEq, initFr, reduceLT, clsA, reduceLeDiff, reduceMul, reduceSub, reduceIte, hlen]
    exact hq2 _ _ ⟨_, rfl, Keeps.refl _, .inl ⟨rfl, rfl, by simp [frm]; omega⟩⟩
  · obtain ⟨hnn, hrow⟩ := hs.at_ (by omega) (i := 0) (by rw [List.length_map]; omega)
    rw [List.getElem_map] at hrow
    by_cases h0 : b[0] = UInt8.ofNat k
    · have e0 : ((b[0].toNat : Nat) : Int) = (k : Int) := by rw [h0]; simp; omega
      have hw : IntKind.i64.wrap ((b.length : Int) - 4) = ((b.length - 4 : Nat) : Int) := by rw [wrap_i64 (by omega) (by omega)]; omega
      obtain ⟨w1, s1, q1⟩ := hx.from_ (k := .i64) (b.length - 4) (by omega)
      simp (disch := first | assumption | omega | (simp only [LN] <;> omega) | (simp (disch := first | assumption | omega | (simp only [LN] <;> omega)) only [row_alloc, row_set]; assumption)) only [f62, W_block, P3, ↓reduceIte, reduceAdd, reduceEqDiff, reduceCtorEq, initFr, reduceLT, clsA, reduceLeDiff, reduceMul, reduceSub, reduceIte, hlen, e0, hw, s1]
      refine callK (t96 q1.bs (by rw [List.length_drop]; omega)) ?_
      rintro _ H1 ⟨r1, bv1, rfl, p1, p2, p3, k1⟩
      obtain ⟨w2, s2, q2⟩ := (hx.keeps k1).mid (k := .i64) (k' := .i64) 1 (b.length - 4) (by omega) (by omega)
      have s2' : asem (.slsl 1 x (some (.int .i64 1)) (some (.int .i64 (b.length - 4 : Nat))) none) H1 = some (w2, H1) := s2
      simp (disch := first | assumption | omega | (simp only [LN] <;> omega) | (simp (disch := first | assumption | omega | (simp only [LN] <;> omega)) only [row_alloc, row_set]; assumption)) only [W_block, P3, ↓reduceIte, reduceAdd, reduceEqDiff, reduceCtorEq, initFr, reduceLT, clsA, reduceLeDiff, reduceMul, reduceSub, reduceIte, hlen, hw, s2']
      refine callK (t96 q2.bs (by rw [List.length_take, List.length_drop]; omega)) ?_
      rintro _ H2 ⟨r2, bv2, rfl, o1, o2, o3, k2⟩
      simp (disch := first | assumption | omega | (simp only [LN] <;> omega) | (simp (disch := first | assumption | omega | (simp only [LN] <;> omega)) only [row_alloc, row_set]; assumption)) only [W_block, P3, ↓reduceIte, reduceAdd, reduceEqDiff, reduceCtorEq, initFr, reduceLT, clsA, reduceLeDiff, reduceMul, reduceSub, reduceIte, hlen, hw]
      refine callK (t65 (p1.chg (k2.chg []) (by simp) (by simp)) (by rw [List.length_drop]; omega)) ?_
      rintro _ H3 ⟨rfl, m1, k3⟩
      have kk : Keeps H H3 := (k1.trans k2).chg_trans k3 (by simp; omega)
      obtain ⟨w3, s3, q3⟩ := (hx.keeps kk).to_ (k := .i64) (b.length - 4) (by omega)
      have tx := hx.tbl
      have n1 := k1.n
      have n2 := k2.n
      simp (disch := first | assumption | omega | (simp only [LN] <;> omega) | (simp (disch := first | assumption | omega | (simp only [LN] <;> omega)) only [row_alloc, row_set]; assumption)) only [W_block, P3, ↓reduceIte, reduceAdd, reduceEqDiff, reduceCtorEq, initFr, reduceLT, clsA, reduceLeDiff, reduceMul, reduceSub, reduceIte, hlen, hw, s3, touch_sl]
      refine ⟨⟨⟨tb_older (fun y hy => Nat.lt_of_lt_of_le (tx y hy) n1), tb_keeps (fun y hy => ⟨Nat.lt_of_lt_of_le (tx y hy) n1, by simp⟩) (k2.chg [])⟩,
        tb_older (fun y hy => Nat.lt_of_lt_of_le (tx y hy) (Nat.le_trans n1 n2)), tb_keeps (fun y hy => ⟨Nat.lt_of_lt_of_le (tx y hy) (Nat.le_trans n1 n2), by have := tx y hy; simp; omega⟩) k3⟩, ?_⟩
      refine callK (t97 q3.bs (by rw [List.length_take]; omega)) ?_
      rintro _ _ ⟨rfl, rfl⟩
      simp (disch := first | assumption | omega | (simp only [LN] <;> omega) | (simp (disch := first | assumption | omega | (simp only [LN] <;> omega)) only [row_alloc, row_set]; assumption)) only [W_block, P3, ↓reduceIte, reduceAdd, reduceEqDiff, reduceCtorEq, initFr, reduceLT, clsA, reduceLeDiff, reduceMul, reduceSub, reduceIte]
      have eb : (b.drop 1).take (b.length - 4 - 1) = bd b := by unfold bd; rw [show b.length - 4 - 1 = b.length - 5 by omega]
      have eg : gotL (b.drop (b.length - 4)) false 4 = b.drop (b.length - 4) := by
        have hl4 : (b.drop (b.length - 4)).length = 4 := by rw [List.length_drop]; omega
        unfold gotL
        rw [if_neg (by unfold failB; rw [hl4]; simp), List.take_of_length_le (by rw [hl4]; decide)]
      have ef : frm k b = ((num (b.drop (b.length - 4)) : Int) == (crc (b.take (b.length - 4)) : Int)) := by
        have e1 : ((b[0]? == some (UInt8.ofNat k)) = true) := by rw [List.getElem?_eq_getElem (by omega), h0]; simp
        rw [frm_w k b (by omega), e1, Bool.true_and, Bool.eq_iff_iff, beq_iff_eq, beq_iff_eq]
        omega
      refine hq2 _ _ ⟨_, rfl, kk, .inr ⟨r2, by rw [ef, eg]; rfl, by omega, AHeap.get_lt ((o1.chg k3 (by simp; have := p1.lt; omega) (by simp; have := p1.lt; omega)).choose_spec.1), Nat.le_refl _, bv2, by omega, ?_, ?_⟩⟩
      · exact (o1.chg k3 (by simp; have := p1.lt; omega) (by simp; have := p1.lt; omega)).lt.2
      · have := o1.chg k3 (by simp; have := p1.lt; omega) (by simp; have := p1.lt; omega)
        rw [eb] at this
        rw [List.drop_zero, decide_eq_false (by omega)]
        exact this
    · have e0 : ((b[0].toNat : Nat) : Int) ≠ (k : Int) := by
        intro he
        apply h0
        apply UInt8.toNat_inj.1
        simp; omega
      simp (disch := first | assumption | omega | (simp only [LN] <;> omega) | (simp (disch := first | assumption | omega | (simp only [LN] <;> omega)) only [row_alloc, row_set]; assumption)) only [f62, W_block, P3, ↓reduceIte, reduceAdd, reduceEqDiff, reduceCtorEq, initFr, reduceLT, clsA, reduceLeDiff, reduceMul, reduceSub, reduceIte, hlen, e0]
      refine hq2 _ _ ⟨_, rfl, Keeps.refl _, .inl ⟨rfl, rfl, ?_⟩⟩
      have e1 : ((b[0]? == some (UInt8.ofNat k)) = false) := by rw [List.getElem?_eq_getElem (by omega)]; simpa using h0
      rw [frm_w k b (by omega), e1, Bool.false_and]
end Go.AM.Fd

set_option linter.unusedSimpArgs false
set_option linter.unusedVariables false
namespace Go.AM.Fd
open Nat (reduceAdd reduceEqDiff reduceLT reduceLeDiff reduceMul reduceSub)
open Go.Proofs Go.AM.F
def II (l : List Int) : List (List Value) := l.map fun n => [.int .i64 n]
end Go.AM.Fd

set_option linter.unusedSimpArgs false
set_option linter.unusedVariables false
namespace Go.AM.Fd
open Nat (reduceAdd reduceEqDiff reduceLT reduceLeDiff reduceMul reduceSub)
open Go.Proofs Go.AM.F
def cLi (v : Value) (x : Li) : List Value := [.int .u8 (x.f : Nat), .int .u8 (x.t : Nat), .int .i64 x.q, .int .i64 x.k, v]
theorem sl2 (H : AHeap) (n m : Int) (e : Nat) : Sl (H.alloc (.cells true false 1 [.int .i64 n, .int .i64 m] e)) 1 (slc H.n 0 2 2) (II [n, m]) := by
  refine ⟨⟨_, _, rfl⟩, by simp [II], ?_⟩
  exact elems_own (AHeap.get_alloc_new H _) rfl
theorem fillII (x y : Value) (n m : Int) : fillA [x, y] [(0, 1, .int .i64 n), (1, 1, .int .i64 m)] = some [.int .i64 n, .int .i64 m] := rfl
theorem mayLi (x : Li) {vb : Value} {H : AHeap} (hb : BS H vb x.B) : ∃ v H', ARun Go.Proofs.Try.prog 0 101 [.iface 65 (.agg (cLi vb x).toArray)] H v H' ∧ v = .bool (okLi x) ∧ Keeps H H' := by
  refine walk2 f101_ok f101_n ?_
  intro Q hq1 hq2
  have hone := hb.sl.one
  have his := hb.sl.is
  have hlen := hb.sl.len
  rw [List.length_map] at hlen
  have lz : Z70.length = 70 := rfl
  have oz : Z70.all Value.oneCell' = true := rfl
  by_cases h0 : 0 ≤ x.q
  · by_cases h1 : x.q ≤ 4611686018427387904
    · by_cases h2 : 0 ≤ x.k
      · by_cases h3 : x.k ≤ 4611686018427387904
        · by_cases h4 : (x.B.length : Int) ≤ 2048
          · simp (disch := first | assumption | omega | (simp only [LN] <;> omega) | (simp (disch := first | assumption | omega | (simp only [LN] <;> omega)) only [row_alloc, row_set]; assumption)) only [f101, W_block, P3, ↓reduceIte, reduceAdd, reduceEqDiff, reduceCtorEq, initFr, reduceLT, clsA, reduceLeDiff, reduceMul, reduceSub, reduceIte, cLi, hone, hlen, oz]
            exact hq2 _ _ ⟨_, rfl, congrArg Value.bool (a₁ := _) (by simp [okLi, sqB]; omega), by ((repeat (first | exact Keeps.refl _ | assumption | refine Keeps.alloc ?_ _ | (refine Keeps.set ?_ (by first | omega | (simp only [alloc_n, set_n] <;> omega)) (by first | omega | (simp only [alloc_n, set_n] <;> omega)) _) | (refine Keeps.trans' (by assumption) ?_))))⟩
          · simp (disch := first | assumption | omega | (simp only [LN] <;> omega) | (simp (disch := first | assumption | omega | (simp only [LN] <;> omega)) only [row_alloc, row_set]; assumption)) only [f101, W_block, P3, ↓reduceIte, reduceAdd, reduceEqDiff, reduceCtorEq, initFr, reduceLT, clsA, reduceLeDiff, reduceMul, reduceSub, reduceIte, cLi, hone, hlen, oz]
            exact hq2 _ _ ⟨_, rfl, congrArg Value.bool (a₁ := _) (by simp [okLi, sqB]; omega), by ((repeat (first | exact Keeps.refl _ | assumption | refine Keeps.alloc ?_ _ | (refine Keeps.set ?_ (by first | omega | (simp only [alloc_n, set_n] <;> omega)) (by first | omega | (simp only [alloc_n, set_n] <;> omega)) _) | (refine Keeps.trans' (by assumption) ?_))))⟩
        · simp (disch := first | assumption | omega | (simp only [LN] <;> omega) | (simp (disch := first | assumption | omega | (simp only [LN] <;> omega)) only [row_alloc, row_set]; assumption)) only [f101, W_block, P3, ↓reduceIte, reduceAdd, reduceEqDiff, reduceCtorEq, initFr, reduceLT, clsA, reduceLeDiff, reduceMul, reduceSub, reduceIte, cLi, hone, hlen, oz]
          exact hq2 _ _ ⟨_, rfl, congrArg Value.bool (a₁ := _) (by simp [okLi, sqB]; omega), by ((repeat (first | exact Keeps.refl _ | assumption | refine Keeps.alloc ?_ _ | (refine Keeps.set ?_ (by first | omega | (simp only [alloc_n, set_n] <;> omega)) (by first | omega | (simp only [alloc_n, set_n] <;> omega)) _) | (refine Keeps.trans' (by assumption) ?_))))⟩
      · simp (disch := first | assumption | omega | (simp only [LN] <;> omega) | (simp (disch := first | assumption | omega | (simp only [LN] <;> omega)) only [row_alloc, row_set]; assumption)) only [f101, W_block, P3, ↓reduceIte, reduceAdd, reduceEqDiff, reduceCtorEq, initFr, reduceLT, clsA, reduceLeDiff, reduceMul, reduceSub, reduceIte, cLi, hone, hlen, oz]
        exact hq2 _ _ ⟨_, rfl, congrArg Value.bool (a₁ := _) (by simp [okLi, sqB]; omega), by ((repeat (first | exact Keeps.refl _ | assumption | refine Keeps.alloc ?_ _ | (refine Keeps.set ?_ (by first | omega | (simp only [alloc_n, set_n] <;> omega)) (by first | omega | (simp only [alloc_n, set_n] <;> omega)) _) | (refine Keeps.trans' (by assumption) ?_))))⟩
    · simp (disch := first | assumption | omega | (simp only [LN] <;> omega) | (simp (disch := first | assumption | omega | (simp only [LN] <;> omega)) only [row_alloc, row_set]; assumption)) only [f101, W_block, P3, ↓reduceIte, reduceAdd, reduceEqDiff, reduceCtorEq, initFr, reduceLT, clsA, reduceLeDiff, reduceMul, reduceSub, reduceIte, cLi, hone, hlen, oz]
      exact hq2 _ _ ⟨_, rfl, congrArg Value.bool (a₁ := _) (by simp [okLi, sqB]; omega), by ((repeat (first | exact Keeps.refl _ | assumption | refine Keeps.alloc ?_ _ | (refine Keeps.set ?_ (by first | omega | (simp only [alloc_n, set_n] <;> omega)) (by first | omega | (simp only [alloc_n, set_n] <;> omega)) _) | (refine Keeps.trans' (by assumption) ?_))))⟩
  · simp (disch := first | assumption | omega | (simp only [LN] <;> omega) | (simp (disch := first | assumption | omega | (simp only [LN] <;> omega)) only [row_alloc, row_set]; assumption)) only [f101, W_block, P3, ↓reduceIte, reduceAdd, reduceEqDiff, reduceCtorEq, initFr, reduceLT, clsA, reduceLeDiff, reduceMul, reduceSub, reduceIte, cLi, hone, hlen, oz]
    exact hq2 _ _ ⟨_, rfl, congrArg Value.bool (a₁ := _) (by simp [okLi, sqB]; omega), by ((repeat (first | exact Keeps.refl _ | assumption | refine Keeps.alloc ?_ _ | (refine Keeps.set ?_ (by first | omega | (simp only [alloc_n, set_n] <;> omega)) (by first | omega | (simp only [alloc_n, set_n] <;> omega)) _) | (refine Keeps.trans' (by assumption) ?_))))⟩
end Go.AM.Fd

set_option linter.unusedSimpArgs false
set_option linter.unusedVariables false
namespace Go.AM.Fd
open Nat (reduceAdd reduceEqDiff reduceLT reduceLeDiff reduceMul reduceSub)
open Go.Proofs Go.AM.F
theorem Put.lt {H H' : AHeap} {b bv : Nat} {l : List UInt8} (h : Put H H' b bv l) : H.n ≤ H'.n := h.choose_spec.2.2.n
theorem Put.trans {A B C : AHeap} {b bv bv' : Nat} {l : List UInt8} (hl : bv < A.n) (h1 : bv' = bv ∨ A.n ≤ bv') (k : Chg [b, bv] A B) (h2 : Put B C b bv' l) : Put A C b bv l := by
  obtain ⟨bw, w, hb, k2⟩ := h2
  refine ⟨bw, w, ?_, ⟨Nat.le_trans k.n k2.n, fun x hx hn => ?_⟩⟩
  · have := k.n; omega
  · simp only [List.mem_cons, List.not_mem_nil, or_false, not_or] at hn
    rw [k2.get x (Nat.lt_of_lt_of_le hx k.n) (by simp; omega), k.get x hx (by simp; omega)]
theorem Put.keeps {A B : AHeap} {b bv : Nat} {l : List UInt8} (w : WS A b bv l) (k : Keeps A B) : Put A B b bv l :=
  ⟨bv, w.chg (k.chg []) (by simp) (by simp), .inl rfl, k.chg _⟩
def nsB (l : List Int) : List UInt8 := l.flatMap fun n => be 8 n.toNat
theorem nsB_len (l : List Int) : (nsB l).length = 8 * l.length := by
  induction l with
  | nil => rfl
  | cons x l ih =>
    rw [nsB, List.flatMap_cons, List.length_append, be_length, List.length_cons]
    have : (l.flatMap fun n => be 8 n.toNat).length = 8 * l.length := ih
    omega
theorem t80 {H : AHeap} {b bv : Nat} {l : List UInt8} (h : WS H b bv l) {v : Value} {ns : List Int} (hs : Sl H 1 v (II ns)) (hv : ∀ y, blk v = some y → y ≠ b ∧ y ≠ bv) (hn : ∀ n ∈ ns, 0 ≤ n ∧ n ≤ 4611686018427387904) (hl : l.length ≤ 10000000) (hnl : ns.length ≤ 1000) :
    ∃ w H', ARun Go.Proofs.Try.prog 0 80 [ptr b 0, v] H w H' ∧ Put H H' b bv (l ++ nsB ns) := by
  refine walk2 f80_ok f80_n ?_
  intro Q hq1 hq2
  have his := hs.is
  have hlen := hs.len
  rw [II, List.length_map] at hlen
  have hlt := h.lt
  simp (disch := first | assumption | omega | (simp only [LN] <;> omega) | (simp (disch := first | assumption | omega | (simp only [LN] <;> omega)) only [row_alloc, row_set]; assumption)) only [f80, W_block, P3, ↓reduceIte, reduceAdd, reduceEqDiff, reduceCtorEq, initFr, reduceLT, clsA, reduceLeDiff, reduceMul, reduceSub, reduceIte, hlen]
  refine W_loop2 (fun q fr K => ∃ (i bw : Nat) (c e : Value), i ≤ ns.length ∧ q = ns.length - i ∧ WS K b bw (l ++ nsB (ns.take i)) ∧ (bw = bv ∨ H.n ≤ bw) ∧ Chg [b, bv] H K ∧ fr = [ptr b 0, v, c, v, .int .i64 ns.length, .int .i64 i, e]) ns.length ⟨0, bv, undef, undef, by omega, rfl, by simpa [nsB] using h, .inl rfl, Chg.refl _ _, rfl⟩ ?_
  rintro Q' q fr K ⟨i, bw, c, e, hi, rfl, hw, hbw, kK, rfl⟩ hn' he hrt
  have nK := kK.n
  by_cases hc : i < ns.length
  · obtain ⟨hnn, hrow⟩ := (hs.chg kK (fun y hy => by have := hv y hy; simp; omega)).at_ (by omega) (i := i) (by simpa [II] using hc)
    simp only [II, List.getElem_map] at hrow
    have hb := hn _ (List.getElem_mem hc)
    have hwr : IntKind.u64.wrap ns[i] = ((ns[i].toNat : Nat) : Int) := by rw [wrap_u64]; omega
    simp (disch := first | assumption | omega | (simp only [LN] <;> omega) | (simp (disch := first | assumption | omega | (simp only [LN] <;> omega)) only [row_alloc, row_set]; assumption)) only [W_block, P3, ↓reduceIte, reduceAdd, reduceEqDiff, reduceCtorEq, initFr, reduceLT, clsA, reduceLeDiff, reduceMul, reduceSub, reduceIte, hwr]
    refine callK (t84 hw ns[i].toNat (by omega) (by
      rw [List.length_append, nsB_len, List.length_take]; omega)) ?_
    rintro w K2 ⟨bw2, hw2, hb2, k2⟩
    simp (disch := first | assumption | omega | (simp only [LN] <;> omega) | (simp (disch := first | assumption | omega | (simp only [LN] <;> omega)) only [row_alloc, row_set]; assumption)) only [W_block, P3, ↓reduceIte, reduceAdd, reduceEqDiff, reduceCtorEq, initFr, reduceLT, clsA, reduceLeDiff, reduceMul, reduceSub, reduceIte, wrap_succ (n := i) (by omega)]
    refine hn' _ _ _ ⟨i + 1, bw2, _, _, by omega, rfl, ?_, by have := hw.lt; omega, ?_, rfl⟩ (by omega)
    · rw [List.take_succ_eq_append_getElem hc, nsB, List.flatMap_append]
      simp only [List.flatMap_cons, List.flatMap_nil, List.append_nil, ← List.append_assoc]
      rw [← nsB]
      exact hw2
    · refine ⟨Nat.le_trans kK.n k2.n, fun x hx hxn => ?_⟩
      simp only [List.mem_cons, List.not_mem_nil, or_false, not_or] at hxn
      rw [k2.get x (by omega) (by simp; omega), kK.get x hx (by simp; omega)]
  · simp (disch := first | assumption | omega | (simp only [LN] <;> omega) | (simp (disch := first | assumption | omega | (simp only [LN] <;> omega)) only [row_alloc, row_set]; assumption)) only [W_block, P3, ↓reduceIte, reduceAdd, reduceEqDiff, reduceCtorEq, initFr, reduceLT, clsA, reduceLeDiff, reduceMul, reduceSub, reduceIte]
    refine he _ _ _ ?_
    simp (disch := first | assumption | omega | (simp only [LN] <;> omega) | (simp (disch := first | assumption | omega | (simp only [LN] <;> omega)) only [row_alloc, row_set]; assumption)) only [W_block, P3, ↓reduceIte, reduceAdd, reduceEqDiff, reduceCtorEq, initFr, reduceLT, clsA, reduceLeDiff, reduceMul, reduceSub, reduceIte]
    rw [List.take_of_length_le (by omega)] at hw
    exact hq1 _ _ ⟨_, rfl, bw, hw, hbw, kK⟩
def CLO (H : AHeap) (g : Nat) (cap : Value) (pre body : List UInt8) : Prop :=
  ∀ (H1 : AHeap) (b bv : Nat), Keeps H H1 → H.n ≤ b → H.n ≤ bv → WS H1 b bv pre → ∃ w H', ARun Go.Proofs.Try.prog 0 g [ptr b 0, cap] H1 w H' ∧ Put H1 H' b bv (pre ++ body)
theorem blk_slc_eq {b o n k y : Nat} (h : blk (slc b o n k) = some y) : y = b := by cases h; rfl
theorem WS.alloc {H : AHeap} {b bv : Nat} {l : List UInt8} (h : WS H b bv l) (o : AO) : WS (H.alloc o) b bv l := h.chg (((Keeps.refl H).alloc o).chg []) (by simp) (by simp)
theorem Chg2.al {H K : AHeap} {b bv : Nat} {o : AO} (d : Chg [b, bv] (H.alloc o) K) : Chg [b, bv] H K := ⟨Nat.le_trans (by rw [alloc_n]; omega) d.n, fun x hx hn => by rw [d.get x (by rw [alloc_n]; omega) hn, AHeap.get_alloc_old _ _ hx]⟩
theorem or_al {H : AHeap} {b bv : Nat} {o : AO} (h : b = bv ∨ (H.alloc o).n ≤ b) : b = bv ∨ H.n ≤ b := by rw [alloc_n] at h; omega
theorem t78 {H : AHeap} {p : Nat} {x : Li} {vb : Value} (g : H.get p = some (.cells true false 5 (cLi vb x) 65)) (hB : BS H vb x.B) (hx : rgLi x) (hok : okLi x = true) (pre : List UInt8) (hp : pre.length ≤ 1000) : CLO H 78 (ptr p 0) pre (enLi x) := by
  intro H1 b bv k1 hb hbv w
  have hok' := okLi_iff.1 hok
  refine walk2 f78_ok f78_n ?_
  intro Q hq1 hq2
  have lpH := AHeap.get_lt g
  have g := k1.at_ g
  have lp := AHeap.get_lt g
  have hlt := w.lt
  have hone := hB.sl.one
  have his := hB.sl.is
  have hlen := hB.sl.len
  rw [List.length_map] at hlen
  have hB1 := hB.keeps k1
  have hne : ∀ y ∈ tb vb, y < H.n := hB.tbl
  simp (disch := first | assumption | omega | (simp only [LN] <;> omega) | (simp (disch := first | assumption | omega | (simp only [LN] <;> omega)) only [row_alloc, row_set]; assumption)) only [f78, W_block, P3, ↓reduceIte, reduceAdd, reduceEqDiff, reduceCtorEq, initFr, reduceLT, clsA, reduceLeDiff, reduceMul, reduceSub, reduceIte, g, cLi]
  refine callK (t79 w x.f hx.hf (by omega)) ?_
  rintro _ K1 ⟨b1, w1, hb1, d1⟩
  have n1 := d1.n
  have l1 := w1.lt
  simp (disch := first | assumption | omega | (simp only [LN] <;> omega) | (simp (disch := first | assumption | omega | (simp only [LN] <;> omega)) only [row_alloc, row_set]; assumption)) only [Chg2.get d1, W_block, P3, ↓reduceIte, reduceAdd, reduceEqDiff, reduceCtorEq, initFr, reduceLT, clsA, reduceLeDiff, reduceMul, reduceSub, reduceIte, g, cLi]
  refine callK (t79 w1 x.t hx.ht (by simp [be_length]; omega)) ?_
  rintro _ K2 ⟨b2, w2, hb2, d2⟩
  have n2 := d2.n
  have l2 := w2.lt
  simp (disch := first | assumption | omega | (simp only [LN] <;> omega) | (simp (disch := first | assumption | omega | (simp only [LN] <;> omega)) only [row_alloc, row_set]; assumption)) only [Chg2.get d1, Chg2.get d2, W_block, P3, ↓reduceIte, reduceAdd, reduceEqDiff, reduceCtorEq, initFr, reduceLT, clsA, reduceLeDiff, reduceMul, reduceSub, reduceIte, g, cLi, fillII]
  refine callK (t80 (w2.alloc _) (sl2 _ _ _ _) (by intro y hy; have := blk_slc_eq hy; omega) (by simp; omega) (by simp [be_length]; omega) (by simp)) ?_
  rintro _ K3 ⟨b3, w3, hb3, d3⟩
  have hb3 := or_al hb3
  have d3 := Chg2.al d3
  have n3 := d3.n
  have l3 := w3.lt
  have hw : IntKind.u16.wrap (x.B.length : Int) = (x.B.length : Nat) := by rw [wrap_u16]; omega
  simp (disch := first | assumption | omega | (simp only [LN] <;> omega) | (simp (disch := first | assumption | omega | (simp only [LN] <;> omega)) only [row_alloc, row_set]; assumption)) only [Chg2.get d1, Chg2.get d2, Chg2.get d3, W_block, P3, ↓reduceIte, reduceAdd, reduceEqDiff, reduceCtorEq, initFr, reduceLT, clsA, reduceLeDiff, reduceMul, reduceSub, reduceIte, g, cLi, hlen, hw]
  refine callK (t81 w3 x.B.length (by omega) (by simp [be_length, nsB_len]; omega)) ?_
  rintro _ K4 ⟨b4, w4, hb4, d4⟩
  have n4 := d4.n
  have l4 := w4.lt
  have hB4 : BS K4 vb x.B := (((hB1.chgT d1 (fun y hy => by have := hne y hy; simp; omega)).chgT d2 (fun y hy => by have := hne y hy; simp; omega)).chgT d3 (fun y hy => by have := hne y hy; simp; omega)).chgT d4 (fun y hy => by have := hne y hy; simp; omega)
  simp (disch := first | assumption | omega | (simp only [LN] <;> omega) | (simp (disch := first | assumption | omega | (simp only [LN] <;> omega)) only [row_alloc, row_set]; assumption)) only [Chg2.get d1, Chg2.get d2, Chg2.get d3, Chg2.get d4, W_block, P3, ↓reduceIte, reduceAdd, reduceEqDiff, reduceCtorEq, initFr, reduceLT, clsA, reduceLeDiff, reduceMul, reduceSub, reduceIte, g, cLi]
  refine callK (t82 w4 hB4 (by simp [be_length, nsB_len]; omega)) ?_
  rintro _ K5 p5
  simp (disch := first | assumption | omega | (simp only [LN] <;> omega) | (simp (disch := first | assumption | omega | (simp only [LN] <;> omega)) only [row_alloc, row_set]; assumption)) only [W_block, P3, ↓reduceIte, reduceAdd, reduceEqDiff, reduceCtorEq, initFr, reduceLT, clsA, reduceLeDiff, reduceMul, reduceSub, reduceIte]
  refine hq1 _ _ ⟨_, rfl, ?_⟩
  have e : pre ++ enLi x = pre ++ be 1 x.f ++ be 1 x.t ++ nsB [x.q, x.k] ++ be 2 x.B.length ++ x.B := by simp [enLi, nsB, List.append_assoc]
  rw [e]
  exact Put.trans hlt.2 hb1 d1 (Put.trans l1.2 hb2 d2 (Put.trans l2.2 hb3 d3 (Put.trans l3.2 hb4 d4 p5)))
end Go.AM.Fd

set_option linter.unusedSimpArgs false
set_option linter.unusedVariables false
namespace Go.AM.Fd
open Nat (reduceAdd reduceEqDiff reduceLT reduceLeDiff reduceMul reduceSub)
open Go.Proofs Go.AM.F
theorem new_ws (H : AHeap) : WS (H.alloc (.cells true false 1 [.slice none 0 0] 166)) H.n H.n [] := ⟨_, AHeap.get_alloc_new H _, .inl ⟨rfl, rfl, rfl⟩, .inl ⟨rfl, rfl⟩⟩
theorem be1 (k : Nat) : be 1 k = [UInt8.ofNat k] := by simp [be]
def PutR (H H' : AHeap) (v : Value) (l : List UInt8) : Prop := AP H' 5 1 v l.length (cellsOf l) ∧ Keeps H H' ∧ Fresh H.n v
theorem t77 {H : AHeap} (k : Nat) (hk : k < 256) (vi : Value) (okb : Bool) (g : Nat) (cap : Value) (body : List UInt8) (hb : body.length ≤ 100000)
    (hmay : ∃ v H', ARun Go.Proofs.Try.prog 0 101 [vi] H v H' ∧ v = .bool okb ∧ Keeps H H') (hfill : okb = true → CLO H g cap (be 1 k) body) :
    ∃ v H', ARun Go.Proofs.Try.prog 0 77 [.int .u8 k, vi, .func (.func g) #[] #[cap]] H v H' ∧ PutR H H' v (if okb then chk (UInt8.ofNat k :: body) else []) := by
  refine walk2 f77_ok f77_n ?_
  intro Q hq1 hq2
  simp (disch := first | assumption | omega | (simp only [LN] <;> omega) | (simp (disch := first | assumption | omega | (simp only [LN] <;> omega)) only [row_alloc, row_set]; assumption)) only [f77, W_block, P3, ↓reduceIte, reduceAdd, reduceEqDiff, reduceCtorEq, initFr, reduceLT, clsA, reduceLeDiff, reduceMul, reduceSub, reduceIte]
  refine callK hmay ?_
  rintro _ H1 ⟨rfl, k1⟩
  cases okb with
  | false =>
    simp (disch := first | assumption | omega | (simp only [LN] <;> omega) | (simp (disch := first | assumption | omega | (simp only [LN] <;> omega)) only [row_alloc, row_set]; assumption)) only [W_block, P3, ↓reduceIte, reduceAdd, reduceEqDiff, reduceCtorEq, initFr, reduceLT, clsA, reduceLeDiff, reduceMul, reduceSub, reduceIte]
    exact hq2 _ _ ⟨_, rfl, .inl ⟨rfl, rfl, rfl⟩, k1, by intro b hb; cases hb⟩
  | true =>
    have hn1 := k1.n
    simp (disch := first | assumption | omega | (simp only [LN] <;> omega) | (simp (disch := first | assumption | omega | (simp only [LN] <;> omega)) only [row_alloc, row_set]; assumption)) only [W_block, P3, ↓reduceIte, reduceAdd, reduceEqDiff, reduceCtorEq, initFr, reduceLT, clsA, reduceLeDiff, reduceMul, reduceSub, reduceIte]
    have w0 := new_ws H1
    have k2 := (Keeps.refl H1).alloc (.cells true false 1 [.slice none 0 0] 166)
    obtain ⟨Ha, hHa⟩ : ∃ X, X = H1.alloc (.cells true false 1 [.slice none 0 0] 166) := ⟨_, rfl⟩
    rw [← hHa] at w0 k2 ⊢
    have n2 := k2.n
    refine callK (t79 w0 k hk (by simp)) ?_
    rintro _ H3 ⟨b3, w3, hb3, d3⟩
    rw [List.nil_append] at w3
    have n3 := d3.n
    have k3 : Keeps H H3 := (k1.trans k2).chg_trans d3 (by simp; omega)
    simp (disch := first | assumption | omega | (simp only [LN] <;> omega) | (simp (disch := first | assumption | omega | (simp only [LN] <;> omega)) only [row_alloc, row_set]; assumption)) only [W_block, P3, ↓reduceIte, reduceAdd, reduceEqDiff, reduceCtorEq, initFr, reduceLT, clsA, reduceLeDiff, reduceMul, reduceSub, reduceIte]
    refine callK (hfill rfl H3 H1.n b3 k3 (by omega) (by omega) w3) ?_
    rintro _ H4 ⟨b4, w4, hb4, d4⟩
    have n4 := d4.n
    have k4 : Keeps H H4 := k3.chg_trans d4 (by simp; omega)
    have hlen : (be 1 k ++ body).length ≤ 1000000 := by simp [be_length]; omega
    simp (disch := first | assumption | omega | (simp only [LN] <;> omega) | (simp (disch := first | assumption | omega | (simp only [LN] <;> omega)) only [row_alloc, row_set]; assumption)) only [W_block, P3, ↓reduceIte, reduceAdd, reduceEqDiff, reduceCtorEq, initFr, reduceLT, clsA, reduceLeDiff, reduceMul, reduceSub, reduceIte]
    refine callK (t104 w4 (by omega)) ?_
    rintro v5 H5 ⟨a5, k5, f5⟩
    simp (disch := first | assumption | omega | (simp only [LN] <;> omega) | (simp (disch := first | assumption | omega | (simp only [LN] <;> omega)) only [row_alloc, row_set]; assumption)) only [W_block, P3, ↓reduceIte, reduceAdd, reduceEqDiff, reduceCtorEq, initFr, reduceLT, clsA, reduceLeDiff, reduceMul, reduceSub, reduceIte]
    refine callK (t97 a5.bs (by omega)) ?_
    rintro _ _ ⟨rfl, rfl⟩
    simp (disch := first | assumption | omega | (simp only [LN] <;> omega) | (simp (disch := first | assumption | omega | (simp only [LN] <;> omega)) only [row_alloc, row_set]; assumption)) only [W_block, P3, ↓reduceIte, reduceAdd, reduceEqDiff, reduceCtorEq, initFr, reduceLT, clsA, reduceLeDiff, reduceMul, reduceSub, reduceIte]
    refine callK (t85 (w4.chg (k5.chg []) (by simp) (by simp)) (crc (be 1 k ++ body)) (crc_lt _) (by omega)) ?_
    rintro _ H6 ⟨b6, w6, hb6, d6⟩
    have n6 := d6.n
    have n5 := k5.n
    simp (disch := first | assumption | omega | (simp only [LN] <;> omega) | (simp (disch := first | assumption | omega | (simp only [LN] <;> omega)) only [row_alloc, row_set]; assumption)) only [W_block, P3, ↓reduceIte, reduceAdd, reduceEqDiff, reduceCtorEq, initFr, reduceLT, clsA, reduceLeDiff, reduceMul, reduceSub, reduceIte]
    refine callK (t104 w6 (by rw [List.length_append, be_length]; omega)) ?_
    rintro v7 H7 ⟨a7, k7, f7⟩
    simp (disch := first | assumption | omega | (simp only [LN] <;> omega) | (simp (disch := first | assumption | omega | (simp only [LN] <;> omega)) only [row_alloc, row_set]; assumption)) only [W_block, P3, ↓reduceIte, reduceAdd, reduceEqDiff, reduceCtorEq, initFr, reduceLT, clsA, reduceLeDiff, reduceMul, reduceSub, reduceIte]
    have k6 : Keeps H H6 := (k4.trans k5).chg_trans d6 (by simp; omega)
    refine hq2 _ _ ⟨_, rfl, ?_, k6.trans k7, fun b hb => by have := f7 b hb; have := k6.n; omega⟩
    rw [be1] at a7
    exact a7
def fLi (x : Li) : List UInt8 := if okLi x then chk (5 :: enLi x) else []
theorem CLO.keeps {H H' : AHeap} {g : Nat} {cap : Value} {pre body : List UInt8} (h : CLO H g cap pre body) (k : Keeps H H') : CLO H' g cap pre body :=
  fun H1 b bv k1 hb hbv w => h H1 b bv (k.trans k1) (Nat.le_trans k.n hb) (Nat.le_trans k.n hbv) w
theorem PutR.from_ {A B C : AHeap} {v : Value} {l : List UInt8} (k : Keeps A B) (h : PutR B C v l) : PutR A C v l := ⟨h.1, k.trans h.2.1, fun b hb => Nat.le_trans k.n (h.2.2 b hb)⟩
theorem t36 {H : AHeap} (x : Li) {vb : Value} (hx : rgLi x) (hB : BS H vb x.B) (hl : x.B.length ≤ 50000) : ∃ v H', ARun Go.Proofs.Try.prog 0 36 [.agg (cLi vb x).toArray] H v H' ∧ PutR H H' v (fLi x) := by
  refine walk2 f36_ok f36_n ?_
  intro Q hq1 hq2
  have hone := hB.sl.one
  have k0 := (Keeps.refl H).alloc (.cells true false 5 (cLi vb x) 65)
  have g := AHeap.get_alloc_new H (.cells true false 5 (cLi vb x) 65)
  have hcl : vb.cells.toList = [vb] := by obtain ⟨a, k, rfl⟩ := hB.sh; rfl
  have lx : (cLi vb x).length = 5 := rfl
  have ox : (cLi vb x).all Value.oneCell' = true := by simp only [cLi, List.all_cons, List.all_nil, hone]; rfl
  simp (disch := first | assumption | omega | (simp only [LN] <;> omega) | (simp (disch := first | assumption | omega | (simp only [LN] <;> omega)) only [row_alloc, row_set]; assumption)) only [f36, W_block, P3, ↓reduceIte, reduceAdd, reduceEqDiff, reduceCtorEq, initFr, reduceLT, clsA, reduceLeDiff, reduceMul, reduceSub, reduceIte, ox]
  have hB1 := hB.keeps k0
  refine callK (t77 5 (by omega) _ (okLi x) 78 _ (enLi x) (by rw [enLi_len]; omega) (mayLi x hB1) (fun hok => t78 g hB1 hx hok _ (by rw [be_length]; omega))) ?_
  rintro v H' p
  simp (disch := first | assumption | omega | (simp only [LN] <;> omega) | (simp (disch := first | assumption | omega | (simp only [LN] <;> omega)) only [row_alloc, row_set]; assumption)) only [W_block, P3, ↓reduceIte, reduceAdd, reduceEqDiff, reduceCtorEq, initFr, reduceLT, clsA, reduceLeDiff, reduceMul, reduceSub, reduceIte]
  exact hq2 _ _ ⟨_, rfl, PutR.from_ k0 p⟩
end Go.AM.Fd

set_option linter.unusedSimpArgs false
set_option linter.unusedVariables false
namespace Go.AM.Fd
open Nat (reduceAdd reduceEqDiff reduceLT reduceLeDiff reduceMul reduceSub)
open Go.Proofs Go.AM.F
def GotV (c : List Value) (e : Int) : Value := .tuple #[.agg c.toArray, .int .i64 e]
-- got{
theorem t76 {H : AHeap} {lo hi r s : Nat} {l : List UInt8} (h : RR H lo hi r l s) (ok : Bool) (x : Li) {vb : Value} (hB : BS H vb x.B) : ∃ v H', ARun Go.Proofs.Try.prog 0 76 [ptr r 0, .bool ok, .agg (cLi vb x).toArray] H v H' ∧ Keeps H H' ∧
    v = if ok = true ∧ l.length = s ∧ okLi x = true then GotV (cLi vb x) 0 else GotV (cLi (.slice none 0 0) Li0) 130 := by
  refine walk2 f76_ok f76_n ?_
  intro Q hq1 hq2
  have hr : ∀ fr H', resO f76.res fr H' = (celln 5 (fr.getD 4 undef) H').map fun c => .tuple #[c, fr.getD 5 undef] := fun fr H' => resCT 5 4 5 fr
  have hone := hB.sl.one
  have lx : (cLi vb x).length = 5 := rfl
  have ox : (cLi vb x).all Value.oneCell' = true := by simp only [cLi, List.all_cons, List.all_nil, hone]; rfl
  cases ok with
  | false =>
    simp (disch := first | assumption | omega | (simp only [LN] <;> omega) | (simp (disch := first | assumption | omega | (simp only [LN] <;> omega)) only [row_alloc, row_set]; assumption)) only [f76, W_block, P3, ↓reduceIte, reduceAdd, reduceEqDiff, reduceCtorEq, initFr, reduceLT, clsA, reduceLeDiff, reduceMul, reduceSub, reduceIte, ox]
    refine hq2 _ _ ⟨_, by rw [hr]; simp (disch := first | assumption | omega | (simp only [LN] <;> omega) | (simp (disch := first | assumption | omega | (simp only [LN] <;> omega)) only [row_alloc, row_set]; assumption)) only [W_block, P3, ↓reduceIte, reduceAdd, reduceEqDiff, reduceCtorEq, initFr, reduceLT, clsA, reduceLeDiff, reduceMul, reduceSub, reduceIte]; rfl, by ((repeat (first | exact Keeps.refl _ | assumption | refine Keeps.alloc ?_ _ | (refine Keeps.set ?_ (by first | omega | (simp only [alloc_n, set_n] <;> omega)) (by first | omega | (simp only [alloc_n, set_n] <;> omega)) _) | (refine Keeps.trans' (by assumption) ?_)))), by rw [if_neg (by simp)]; rfl⟩
  | true =>
    simp (disch := first | assumption | omega | (simp only [LN] <;> omega) | (simp (disch := first | assumption | omega | (simp only [LN] <;> omega)) only [row_alloc, row_set]; assumption)) only [f76, W_block, P3, ↓reduceIte, reduceAdd, reduceEqDiff, reduceCtorEq, initFr, reduceLT, clsA, reduceLeDiff, reduceMul, reduceSub, reduceIte, ox]
    refine callK (q99 (h.keeps (by ((repeat (first | exact Keeps.refl _ | assumption | refine Keeps.alloc ?_ _ | (refine Keeps.set ?_ (by first | omega | (simp only [alloc_n, set_n] <;> omega)) (by first | omega | (simp only [alloc_n, set_n] <;> omega)) _) | (refine Keeps.trans' (by assumption) ?_))))))) ?_
    rintro _ _ ⟨rfl, rfl⟩
    by_cases h1 : l.length < s
    · have e1 : decide (l.length < s) = true := by simp [h1]
      simp (disch := first | assumption | omega | (simp only [LN] <;> omega) | (simp (disch := first | assumption | omega | (simp only [LN] <;> omega)) only [row_alloc, row_set]; assumption)) only [W_block, P3, ↓reduceIte, reduceAdd, reduceEqDiff, reduceCtorEq, initFr, reduceLT, clsA, reduceLeDiff, reduceMul, reduceSub, reduceIte, ox, e1]
      refine hq2 _ _ ⟨_, by rw [hr]; simp (disch := first | assumption | omega | (simp only [LN] <;> omega) | (simp (disch := first | assumption | omega | (simp only [LN] <;> omega)) only [row_alloc, row_set]; assumption)) only [W_block, P3, ↓reduceIte, reduceAdd, reduceEqDiff, reduceCtorEq, initFr, reduceLT, clsA, reduceLeDiff, reduceMul, reduceSub, reduceIte]; rfl, by ((repeat (first | exact Keeps.refl _ | assumption | refine Keeps.alloc ?_ _ | (refine Keeps.set ?_ (by first | omega | (simp only [alloc_n, set_n] <;> omega)) (by first | omega | (simp only [alloc_n, set_n] <;> omega)) _) | (refine Keeps.trans' (by assumption) ?_)))), by rw [if_neg (by omega)]; rfl⟩
    · have e1 : decide (l.length < s) = false := by simp [h1]
      simp (disch := first | assumption | omega | (simp only [LN] <;> omega) | (simp (disch := first | assumption | omega | (simp only [LN] <;> omega)) only [row_alloc, row_set]; assumption)) only [W_block, P3, ↓reduceIte, reduceAdd, reduceEqDiff, reduceCtorEq, initFr, reduceLT, clsA, reduceLeDiff, reduceMul, reduceSub, reduceIte, ox, e1]
      refine callK (q100 (h.keeps (by ((repeat (first | exact Keeps.refl _ | assumption | refine Keeps.alloc ?_ _ | (refine Keeps.set ?_ (by first | omega | (simp only [alloc_n, set_n] <;> omega)) (by first | omega | (simp only [alloc_n, set_n] <;> omega)) _) | (refine Keeps.trans' (by assumption) ?_))))))) ?_
      rintro _ _ ⟨rfl, rfl⟩
      by_cases h2 : l.length = s
      · have e2 : ¬ (0 : Int) < ((l.length - s : Nat) : Int) := by omega
        simp (disch := first | assumption | omega | (simp only [LN] <;> omega) | (simp (disch := first | assumption | omega | (simp only [LN] <;> omega)) only [row_alloc, row_set]; assumption)) only [W_block, P3, ↓reduceIte, reduceAdd, reduceEqDiff, reduceCtorEq, initFr, reduceLT, clsA, reduceLeDiff, reduceMul, reduceSub, reduceIte, ox, e2]
        refine callK (mayLi x (hB.keeps (by ((repeat (first | exact Keeps.refl _ | assumption | refine Keeps.alloc ?_ _ | (refine Keeps.set ?_ (by first | omega | (simp only [alloc_n, set_n] <;> omega)) (by first | omega | (simp only [alloc_n, set_n] <;> omega)) _) | (refine Keeps.trans' (by assumption) ?_))))))) ?_
        rintro _ K ⟨rfl, k⟩
        have nk := k.n
        simp only [alloc_n, set_n] at nk
        cases h3 : okLi x with
        | false =>
          simp (disch := first | assumption | omega | (simp only [LN] <;> omega) | (simp (disch := first | assumption | omega | (simp only [LN] <;> omega)) only [row_alloc, row_set, Keeps.row k]; assumption)) only [Keeps.get k, Keeps.row k, W_block, P3, ↓reduceIte, reduceAdd, reduceEqDiff, reduceCtorEq, initFr, reduceLT, clsA, reduceLeDiff, reduceMul, reduceSub, reduceIte, ox, h3]
          refine hq2 _ _ ⟨_, by rw [hr]; simp (disch := first | assumption | omega | (simp only [LN] <;> omega) | (simp (disch := first | assumption | omega | (simp only [LN] <;> omega)) only [row_alloc, row_set, Keeps.row k]; assumption)) only [Keeps.get k, Keeps.row k, W_block, P3, ↓reduceIte, reduceAdd, reduceEqDiff, reduceCtorEq, initFr, reduceLT, clsA, reduceLeDiff, reduceMul, reduceSub, reduceIte]; rfl, by ((repeat (first | exact Keeps.refl _ | assumption | refine Keeps.alloc ?_ _ | (refine Keeps.set ?_ (by first | omega | (simp only [alloc_n, set_n] <;> omega)) (by first | omega | (simp only [alloc_n, set_n] <;> omega)) _) | (refine Keeps.trans' (by assumption) ?_)))), by rw [if_neg (by simp [h3])]; rfl⟩
        | true =>
          simp (disch := first | assumption | omega | (simp only [LN] <;> omega) | (simp (disch := first | assumption | omega | (simp only [LN] <;> omega)) only [row_alloc, row_set, Keeps.row k]; assumption)) only [Keeps.get k, Keeps.row k, W_block, P3, ↓reduceIte, reduceAdd, reduceEqDiff, reduceCtorEq, initFr, reduceLT, clsA, reduceLeDiff, reduceMul, reduceSub, reduceIte, ox, h3]
          refine hq2 _ _ ⟨_, by rw [hr]; simp (disch := first | assumption | omega | (simp only [LN] <;> omega) | (simp (disch := first | assumption | omega | (simp only [LN] <;> omega)) only [row_alloc, row_set, Keeps.row k]; assumption)) only [Keeps.get k, Keeps.row k, W_block, P3, ↓reduceIte, reduceAdd, reduceEqDiff, reduceCtorEq, initFr, reduceLT, clsA, reduceLeDiff, reduceMul, reduceSub, reduceIte]; rfl, by ((repeat (first | exact Keeps.refl _ | assumption | refine Keeps.alloc ?_ _ | (refine Keeps.set ?_ (by first | omega | (simp only [alloc_n, set_n] <;> omega)) (by first | omega | (simp only [alloc_n, set_n] <;> omega)) _) | (refine Keeps.trans' (by assumption) ?_)))), by rw [if_pos ⟨rfl, h2, h3⟩]; rfl⟩
      · have e2 : (0 : Int) < ((l.length - s : Nat) : Int) := by omega
        simp (disch := first | assumption | omega | (simp only [LN] <;> omega) | (simp (disch := first | assumption | omega | (simp only [LN] <;> omega)) only [row_alloc, row_set]; assumption)) only [W_block, P3, ↓reduceIte, reduceAdd, reduceEqDiff, reduceCtorEq, initFr, reduceLT, clsA, reduceLeDiff, reduceMul, reduceSub, reduceIte, ox, e2]
        refine hq2 _ _ ⟨_, by rw [hr]; simp (disch := first | assumption | omega | (simp only [LN] <;> omega) | (simp (disch := first | assumption | omega | (simp only [LN] <;> omega)) only [row_alloc, row_set]; assumption)) only [W_block, P3, ↓reduceIte, reduceAdd, reduceEqDiff, reduceCtorEq, initFr, reduceLT, clsA, reduceLeDiff, reduceMul, reduceSub, reduceIte]; rfl, by ((repeat (first | exact Keeps.refl _ | assumption | refine Keeps.alloc ?_ _ | (refine Keeps.set ?_ (by first | omega | (simp only [alloc_n, set_n] <;> omega)) (by first | omega | (simp only [alloc_n, set_n] <;> omega)) _) | (refine Keeps.trans' (by assumption) ?_)))), by rw [if_neg (by omega)]; rfl⟩
theorem n76 {H : AHeap} (x : Li) {vb : Value} (hB : BS H vb x.B) : ∃ v H', ARun Go.Proofs.Try.prog 0 76 [.pointer none, .bool false, .agg (cLi vb x).toArray] H v H' ∧ Keeps H H' ∧ v = GotV (cLi (.slice none 0 0) Li0) 130 := by
  refine walk2 f76_ok f76_n ?_
  intro Q hq1 hq2
  have hr : ∀ fr H', resO f76.res fr H' = (celln 5 (fr.getD 4 undef) H').map fun c => .tuple #[c, fr.getD 5 undef] := fun fr H' => resCT 5 4 5 fr
  have hone := hB.sl.one
  have lx : (cLi vb x).length = 5 := rfl
  have ox : (cLi vb x).all Value.oneCell' = true := by simp only [cLi, List.all_cons, List.all_nil, hone]; rfl
  simp (disch := first | assumption | omega | (simp only [LN] <;> omega) | (simp (disch := first | assumption | omega | (simp only [LN] <;> omega)) only [row_alloc, row_set]; assumption)) only [f76, W_block, P3, ↓reduceIte, reduceAdd, reduceEqDiff, reduceCtorEq, initFr, reduceLT, clsA, reduceLeDiff, reduceMul, reduceSub, reduceIte, ox]
  refine hq2 _ _ ⟨_, by rw [hr]; simp (disch := first | assumption | omega | (simp only [LN] <;> omega) | (simp (disch := first | assumption | omega | (simp only [LN] <;> omega)) only [row_alloc, row_set]; assumption)) only [W_block, P3, ↓reduceIte, reduceAdd, reduceEqDiff, reduceCtorEq, initFr, reduceLT, clsA, reduceLeDiff, reduceMul, reduceSub, reduceIte]; rfl, by ((repeat (first | exact Keeps.refl _ | assumption | refine Keeps.alloc ?_ _ | (refine Keeps.set ?_ (by first | omega | (simp only [alloc_n, set_n] <;> omega)) (by first | omega | (simp only [alloc_n, set_n] <;> omega)) _) | (refine Keeps.trans' (by assumption) ?_)))), rfl⟩
-- }got
end Go.AM.Fd

set_option linter.unusedSimpArgs false
set_option linter.unusedVariables false
namespace Go.AM.Fd
open Nat (reduceAdd reduceEqDiff reduceLT reduceLeDiff reduceMul reduceSub)
open Go.Proofs Go.AM.F
def geLi (b : List UInt8) : Option Li := if frm 5 b = true then pdLi (bd b) else none
theorem bd_le {b : List UInt8} (h : b.length ≤ 1000000000) : (bd b).length ≤ 1000000000 := by rw [bd_len]; omega
end Go.AM.Fd

set_option linter.unusedSimpArgs false
set_option linter.unusedVariables false
namespace Go.AM.Fd
open Nat (reduceAdd reduceEqDiff reduceLT reduceLeDiff reduceMul reduceSub)
open Go.Proofs Go.AM.F
theorem fillLi (f t : Nat) (q k : Int) : fillA [.int .u8 0, .int .u8 0, .int .i64 0, .int .i64 0, .slice none 0 0] [(0, 1, .int .u8 (f : Nat)), (1, 1, .int .u8 (t : Nat)), (2, 1, .int .i64 q), (3, 1, .int .i64 k)] = some (cLi (.slice none 0 0) ⟨f, t, q, k, []⟩) := rfl
def LiR (H H' : AHeap) (w : Value) (o : Option Li) : Prop := ∃ vb, Fresh H.n vb ∧ match o with
  | some x => w = GotV (cLi vb x) 0 ∧ AP H' 5 1 vb x.B.length (cellsOf x.B)
  | none => w = GotV (cLi (.slice none 0 0) Li0) 130
theorem t24 {H : AHeap} {v : Value} {b : List UInt8} (hb : BQ H v b) (hl : b.length ≤ 1000000000) : ∃ w H', ARun Go.Proofs.Try.prog 0 24 [v] H w H' ∧ Keeps H H' ∧ LiR H H' w (geLi b) := by
  refine walk2 f24_ok f24_n ?_
  intro Q hq1 hq2
  have hr : ∀ fr H', resO f24.res fr H' = (celln 5 (fr.getD 1 undef) H').map fun c => .tuple #[c, fr.getD 2 undef] := fun fr H' => resCT 5 1 2 fr
  have k0 := (Keeps.refl H).alloc (.cells true false 5 (cLi (.slice none 0 0) Li0) 65)
  have g0 := AHeap.get_alloc_new H (.cells true false 5 (cLi (.slice none 0 0) Li0) 65)
  have lz : (cLi (.slice none 0 0) Li0).length = 5 := rfl
  have ozz : (cLi (.slice none 0 0) Li0).all Value.oneCell' = true := rfl
  simp (disch := first | assumption | omega | (simp only [LN] <;> omega) | (simp (disch := first | assumption | omega | (simp only [LN] <;> omega)) only [row_alloc, row_set]; assumption)) only [f24, W_block, P3, ↓reduceIte, reduceAdd, reduceEqDiff, reduceCtorEq, initFr, reduceLT, clsA, reduceLeDiff, reduceMul, reduceSub, reduceIte, ozz]
  refine callK (t62 (hb.keeps (by ((repeat (first | exact Keeps.refl _ | assumption | refine Keeps.alloc ?_ _ | (refine Keeps.set ?_ (by first | omega | (simp only [alloc_n, set_n] <;> omega)) (by first | omega | (simp only [alloc_n, set_n] <;> omega)) _) | (refine Keeps.trans' (by assumption) ?_)))))) 5 (by omega) hl) ?_
  rintro _ K0 ⟨k, ⟨rfl, rfl, hf⟩ | ⟨r, rfl, r0⟩⟩
  · simp (disch := first | assumption | omega | (simp only [LN] <;> omega) | (simp (disch := first | assumption | omega | (simp only [LN] <;> omega)) only [row_alloc, row_set]; assumption)) only [W_block, P3, ↓reduceIte, reduceAdd, reduceEqDiff, reduceCtorEq, initFr, reduceLT, clsA, reduceLeDiff, reduceMul, reduceSub, reduceIte]
    refine callK (n63 _) ?_
    rintro _ _ ⟨rfl, rfl⟩
    simp (disch := first | assumption | omega | (simp only [LN] <;> omega) | (simp (disch := first | assumption | omega | (simp only [LN] <;> omega)) only [row_alloc, row_set]; assumption)) only [W_block, P3, ↓reduceIte, reduceAdd, reduceEqDiff, reduceCtorEq, initFr, reduceLT, clsA, reduceLeDiff, reduceMul, reduceSub, reduceIte]
    refine callK (n63 _) ?_
    rintro _ _ ⟨rfl, rfl⟩
    simp (disch := first | assumption | omega | (simp only [LN] <;> omega) | (simp (disch := first | assumption | omega | (simp only [LN] <;> omega)) only [row_alloc, row_set]; assumption)) only [W_block, P3, ↓reduceIte, reduceAdd, reduceEqDiff, reduceCtorEq, initFr, reduceLT, clsA, reduceLeDiff, reduceMul, reduceSub, reduceIte]
    refine callK (n64 _) ?_
    rintro _ _ ⟨rfl, rfl⟩
    simp (disch := first | assumption | omega | (simp only [LN] <;> omega) | (simp (disch := first | assumption | omega | (simp only [LN] <;> omega)) only [row_alloc, row_set]; assumption)) only [W_block, P3, ↓reduceIte, reduceAdd, reduceEqDiff, reduceCtorEq, initFr, reduceLT, clsA, reduceLeDiff, reduceMul, reduceSub, reduceIte]
    refine callK (n64 _) ?_
    rintro _ _ ⟨rfl, rfl⟩
    have f2 := fillLi 0 0 (IntKind.i64.wrap 0) (IntKind.i64.wrap 0)
    simp only [Int.natCast_zero] at f2
    simp (disch := first | assumption | omega | (simp only [LN] <;> omega) | (simp (disch := first | assumption | omega | (simp only [LN] <;> omega)) only [row_alloc, row_set]; assumption)) only [W_block, P3, ↓reduceIte, reduceAdd, reduceEqDiff, reduceCtorEq, initFr, reduceLT, clsA, reduceLeDiff, reduceMul, reduceSub, reduceIte, f2, cLi]
    refine callK (n75 _) ?_
    rintro _ _ ⟨rfl, rfl⟩
    simp (disch := first | assumption | omega | (simp only [LN] <;> omega) | (simp (disch := first | assumption | omega | (simp only [LN] <;> omega)) only [row_alloc, row_set]; assumption)) only [W_block, P3, ↓reduceIte, reduceAdd, reduceEqDiff, reduceCtorEq, initFr, reduceLT, clsA, reduceLeDiff, reduceMul, reduceSub, reduceIte]
    refine callK (n74 _ _) ?_
    rintro _ _ ⟨rfl, rfl⟩
    simp (disch := first | assumption | omega | (simp only [LN] <;> omega) | (simp (disch := first | assumption | omega | (simp only [LN] <;> omega)) only [row_alloc, row_set]; assumption)) only [W_block, P3, ↓reduceIte, reduceAdd, reduceEqDiff, reduceCtorEq, initFr, reduceLT, clsA, reduceLeDiff, reduceMul, reduceSub, reduceIte]
    refine callK (t73 (BS.nil _) (by simp)) ?_
    rintro v2 K2 ⟨a2, k2, fr2⟩
    have n2 := k2.n
    simp only [alloc_n] at n2
    have ho2 : v2.oneCell' = true := by obtain ⟨a, rfl⟩ := a2.shape; rfl
    have fb2 := Fresh.tb fr2
    simp only [alloc_n] at fb2
    simp (disch := first | assumption | omega | (simp only [LN] <;> omega) | (simp (disch := first | assumption | omega | (simp only [LN] <;> omega)) only [row_alloc, row_set, Keeps.row k2]; assumption)) only [Keeps.get k2, Keeps.row k2, W_block, P3, ↓reduceIte, reduceAdd, reduceEqDiff, reduceCtorEq, initFr, reduceLT, clsA, reduceLeDiff, reduceMul, reduceSub, reduceIte, cLi, ho2]
    refine callK (n76 ⟨0, 0, IntKind.i64.wrap 0, IntKind.i64.wrap 0, []⟩ (a2.bs.chgT (Chg.set K2 (show H.n + 1 < K2.n by omega) _) (fun y hy => by have := fb2 y hy; simp; omega))) ?_
    rintro _ K3 ⟨k3, rfl⟩
    have n3 := k3.n
    simp only [set_n] at n3
    have p3 : H.n + 1 < K2.n := by omega
    have kq : ∀ o, Keeps H (K3.set H.n o) := fun o => ⟨by rw [set_n]; omega, fun y hy => by
      rw [AHeap.get_set_other _ (by omega) (by omega), k3.get _ (by rw [set_n]; omega), AHeap.get_set_other _ (by omega) p3, k2.get _ (by simp only [alloc_n]; omega), AHeap.get_alloc_old _ _ (by rw [alloc_n]; omega), AHeap.get_alloc_old _ _ hy]⟩
    simp (disch := first | assumption | omega | (simp only [LN] <;> omega) | (simp (disch := first | assumption | omega | (simp only [LN] <;> omega)) only [row_alloc, row_set, Keeps.row k3, Keeps.row k2]; assumption)) only [Keeps.get k3, Keeps.get k2, Keeps.row k3, Keeps.row k2, W_block, P3, ↓reduceIte, reduceAdd, reduceEqDiff, reduceCtorEq, initFr, reduceLT, clsA, reduceLeDiff, reduceMul, reduceSub, reduceIte, GotV, cLi]
    refine hq2 _ _ ⟨_, by rw [hr]; simp (disch := first | assumption | omega | (simp only [LN] <;> omega) | (simp (disch := first | assumption | omega | (simp only [LN] <;> omega)) only [row_alloc, row_set, Keeps.row k3, Keeps.row k2]; assumption)) only [Keeps.get k3, Keeps.get k2, Keeps.row k3, Keeps.row k2, W_block, P3, ↓reduceIte, reduceAdd, reduceEqDiff, reduceCtorEq, initFr, reduceLT, clsA, reduceLeDiff, reduceMul, reduceSub, reduceIte, cLi]; rfl, kq _, ?_⟩
    refine ⟨.slice none 0 0, fun b hb => (by cases hb), ?_⟩
    have ge : geLi b = none := by unfold geLi; rw [hf]; rfl
    rw [ge]
    rfl
  · have hn0 := k.n
    simp only [alloc_n] at hn0
    have hlb := bd_le hl
    have hrl : H.n + 1 ≤ r := r0.1
    have hrk : r < K0.n := r0.2.1
    have c0 := Chg.refl [r] K0
    simp (disch := first | assumption | omega | (simp only [LN] <;> omega) | (simp (disch := first | assumption | omega | (simp only [LN] <;> omega)) only [row_alloc, row_set]; assumption)) only [W_block, P3, ↓reduceIte, reduceAdd, reduceEqDiff, reduceCtorEq, initFr, reduceLT, clsA, reduceLeDiff, reduceMul, reduceSub, reduceIte]
    refine callK (q63 r0 hlb) ?_
    rintro _ K1 ⟨rfl, r1, e1⟩
    have c1 := Chg1.tr c0 e1
    simp (disch := first | assumption | omega | (simp only [LN] <;> omega) | (simp (disch := first | assumption | omega | (simp only [LN] <;> omega)) only [row_alloc, row_set]; assumption)) only [W_block, P3, ↓reduceIte, reduceAdd, reduceEqDiff, reduceCtorEq, initFr, reduceLT, clsA, reduceLeDiff, reduceMul, reduceSub, reduceIte]
    refine callK (q63 r1 hlb) ?_
    rintro _ K2 ⟨rfl, r2, e2⟩
    have c2 := Chg1.tr c1 e2
    simp (disch := first | assumption | omega | (simp only [LN] <;> omega) | (simp (disch := first | assumption | omega | (simp only [LN] <;> omega)) only [row_alloc, row_set]; assumption)) only [W_block, P3, ↓reduceIte, reduceAdd, reduceEqDiff, reduceCtorEq, initFr, reduceLT, clsA, reduceLeDiff, reduceMul, reduceSub, reduceIte]
    refine callK (q64 r2 hlb) ?_
    rintro _ K3 ⟨rfl, r3, e3⟩
    have c3 := Chg1.tr c2 e3
    simp (disch := first | assumption | omega | (simp only [LN] <;> omega) | (simp (disch := first | assumption | omega | (simp only [LN] <;> omega)) only [row_alloc, row_set]; assumption)) only [W_block, P3, ↓reduceIte, reduceAdd, reduceEqDiff, reduceCtorEq, initFr, reduceLT, clsA, reduceLeDiff, reduceMul, reduceSub, reduceIte]
    refine callK (q64 r3 hlb) ?_
    rintro _ K4 ⟨rfl, r4, e4⟩
    have c4 := Chg1.tr c3 e4
    have n4 := c4.n
    simp (disch := first | assumption | omega | (simp only [LN] <;> omega) | (simp (disch := first | assumption | omega | (simp only [LN] <;> omega)) only [row_alloc, row_set]; assumption)) only [W_block, P3, ↓reduceIte, reduceAdd, reduceEqDiff, reduceCtorEq, initFr, reduceLT, clsA, reduceLeDiff, reduceMul, reduceSub, reduceIte, fillLi]
    have o4 : (cLi (.slice none 0 0) ⟨na (bd b) 0 1, na (bd b) (0 + 1) 1, IntKind.i64.wrap (na (bd b) (0 + 1 + 1) 8), IntKind.i64.wrap (na (bd b) (0 + 1 + 1 + 8) 8), []⟩).all Value.oneCell' = true := rfl
    have l4 : (cLi (.slice none 0 0) ⟨na (bd b) 0 1, na (bd b) (0 + 1) 1, IntKind.i64.wrap (na (bd b) (0 + 1 + 1) 8), IntKind.i64.wrap (na (bd b) (0 + 1 + 1 + 8) 8), []⟩).length = 5 := rfl
    simp (disch := first | assumption | omega | (simp only [LN] <;> omega) | (simp (disch := first | assumption | omega | (simp only [LN] <;> omega)) only [row_alloc, row_set]; assumption)) only [W_block, P3, ↓reduceIte, reduceAdd, reduceEqDiff, reduceCtorEq, initFr, reduceLT, clsA, reduceLeDiff, reduceMul, reduceSub, reduceIte, o4]
    obtain ⟨Kb, hKb⟩ : ∃ X, X = K4.alloc (.cells true false 5 (cLi (.slice none 0 0) ⟨na (bd b) 0 1, na (bd b) (0 + 1) 1, IntKind.i64.wrap (na (bd b) (0 + 1 + 1) 8), IntKind.i64.wrap (na (bd b) (0 + 1 + 1 + 8) 8), []⟩) 65) := ⟨_, rfl⟩
    have kb := (Keeps.refl K4).alloc (.cells true false 5 (cLi (.slice none 0 0) ⟨na (bd b) 0 1, na (bd b) (0 + 1) 1, IntKind.i64.wrap (na (bd b) (0 + 1 + 1) 8), IntKind.i64.wrap (na (bd b) (0 + 1 + 1 + 8) 8), []⟩) 65)
    have gb := AHeap.get_alloc_new K4 (.cells true false 5 (cLi (.slice none 0 0) ⟨na (bd b) 0 1, na (bd b) (0 + 1) 1, IntKind.i64.wrap (na (bd b) (0 + 1 + 1) 8), IntKind.i64.wrap (na (bd b) (0 + 1 + 1 + 8) 8), []⟩) 65)
    rw [← hKb] at kb gb ⊢
    have nb := kb.n
    have lb := AHeap.get_lt gb
    refine callK (q75 (r4.keeps kb) hlb) ?_
    rintro _ K5 ⟨rfl, r5, c5⟩
    have n5 := c5.n
    have hs2 := na2 (bd b) (0 + 1 + 1 + 8 + 8)
    have hw : IntKind.i64.wrap (na (bd b) (0 + 1 + 1 + 8 + 8) 2 : Nat) = (na (bd b) (0 + 1 + 1 + 8 + 8) 2 : Nat) := wrap_i64 (by omega) (by omega)
    simp (disch := first | assumption | omega | (simp only [LN] <;> omega) | (simp (disch := first | assumption | omega | (simp only [LN] <;> omega)) only [row_alloc, row_set]; assumption)) only [W_block, P3, ↓reduceIte, reduceAdd, reduceEqDiff, reduceCtorEq, initFr, reduceLT, clsA, reduceLeDiff, reduceMul, reduceSub, reduceIte, hw]
    refine callK (q74 r5 (na (bd b) (0 + 1 + 1 + 8 + 8) 2) hlb) ?_
    rintro v6 K6 ⟨B6, r6, c6, h6⟩
    have n6 := c6.n
    have hsl : (seg (bd b) (0 + 1 + 1 + 8 + 8 + 2) (na (bd b) (0 + 1 + 1 + 8 + 8) 2)).length ≤ 65536 := by
      unfold seg
      split
      · simp
      · rw [List.length_take]; omega
    simp (disch := first | assumption | omega | (simp only [LN] <;> omega) | (simp (disch := first | assumption | omega | (simp only [LN] <;> omega)) only [row_alloc, row_set]; assumption)) only [W_block, P3, ↓reduceIte, reduceAdd, reduceEqDiff, reduceCtorEq, initFr, reduceLT, clsA, reduceLeDiff, reduceMul, reduceSub, reduceIte]
    refine callK (t73 B6 (by omega)) ?_
    rintro v7 K7 ⟨a7, k7, f7⟩
    have n7 := k7.n
    have fb7 := Fresh.tb f7
    have ho7 : v7.oneCell' = true := by obtain ⟨a, rfl⟩ := a7.shape; rfl
    have g7 : K7.get K4.n = some (.cells true false 5 (cLi (.slice none 0 0) ⟨na (bd b) 0 1, na (bd b) (0 + 1) 1, IntKind.i64.wrap (na (bd b) (0 + 1 + 1) 8), IntKind.i64.wrap (na (bd b) (0 + 1 + 1 + 8) 8), []⟩) 65) := by
      rw [k7.get _ (by omega), Chg1.get c6 (by omega) (by omega), Chg1.get c5 (by omega) (by omega)]; exact gb
    have p7 := AHeap.get_lt g7
    simp (disch := first | assumption | omega | (simp only [LN] <;> omega) | (simp (disch := first | assumption | omega | (simp only [LN] <;> omega)) only [row_alloc, row_set]; assumption)) only [W_block, P3, ↓reduceIte, reduceAdd, reduceEqDiff, reduceCtorEq, initFr, reduceLT, clsA, reduceLeDiff, reduceMul, reduceSub, reduceIte, g7, cLi, ho7]
    have q7 : ∀ o, Chg [K4.n] K7 (K7.set K4.n o) := fun o => Chg.set K7 p7 o
    have R8 := fun o => (r6.keeps k7).chg (q7 o) (.inr (by omega))
    have B8 := fun o => a7.bs.chgT (q7 o) (fun y hy => by have := fb7 y hy; simp; omega)
    refine callK (t76 (R8 _) (frm 5 b) (deLi (bd b)) (B8 _)) ?_
    rintro _ K ⟨k8, rfl⟩
    have n8 := k8.n
    simp only [set_n] at n8
    have hget : ∀ y, y < K0.n → y ≠ r → K.get y = K0.get y := fun y hy hr' => by
      rw [k8.get _ (by rw [set_n]; omega), AHeap.get_set_other _ (by omega) p7, k7.get _ (by omega), Chg1.get c6 (by omega) hr', Chg1.get c5 (by omega) hr', kb.get _ (by omega), Chg1.get c4 hy hr']
    have g8 : K.get H.n = some (.cells true false 5 (cLi (.slice none 0 0) Li0) 65) := by
      rw [hget _ (by omega) (by omega), k.get _ (by rw [alloc_n]; omega)]; exact g0
    have p8 := AHeap.get_lt g8
    have a8 : AP K 5 1 v7 (deLi (bd b)).B.length (cellsOf (deLi (bd b)).B) := a7.chg ((q7 _).trans (k8.chg [K4.n]) (fun x hx => .inl hx)) (fun y hy => by have := f7 y (mem_blkL.1 hy); simp; omega)
    have kk : ∀ o, Keeps H (K.set H.n o) := fun o => ⟨by rw [set_n]; omega, fun y hy => by
      rw [AHeap.get_set_other _ (by omega) p8, hget _ (by omega) (by omega), k.get _ (by rw [alloc_n]; omega)]; exact k0.get _ hy⟩
    have f8 : Fresh H.n v7 := fun y hy => by have := f7 y hy; omega
    by_cases hc : frm 5 b = true ∧ (bd b).length = 0 + 1 + 1 + 8 + 8 + 2 + na (bd b) (0 + 1 + 1 + 8 + 8) 2 ∧ okLi (deLi (bd b)) = true
    · rw [if_pos hc]
      have ge : geLi b = some (deLi (bd b)) := by
        unfold geLi pdLi
        rw [if_pos hc.1, if_pos ⟨by have := hc.2.1; simp only [Nat.zero_add] at this; exact this, hc.2.2⟩]
      have lx : (cLi v7 (deLi (bd b))).length = 5 := rfl
      have ox : (cLi v7 (deLi (bd b))).all Value.oneCell' = true := by simp only [cLi, List.all_cons, List.all_nil, ho7]; rfl
      simp (disch := first | assumption | omega | (simp only [LN] <;> omega) | (simp (disch := first | assumption | omega | (simp only [LN] <;> omega)) only [row_alloc, row_set]; assumption)) only [W_block, P3, ↓reduceIte, reduceAdd, reduceEqDiff, reduceCtorEq, initFr, reduceLT, clsA, reduceLeDiff, reduceMul, reduceSub, reduceIte, GotV, g8, ox, lx]
      refine hq2 _ _ ⟨_, by rw [hr]; simp (disch := first | assumption | omega | (simp only [LN] <;> omega) | (simp (disch := first | assumption | omega | (simp only [LN] <;> omega)) only [row_alloc, row_set]; assumption)) only [W_block, P3, ↓reduceIte, reduceAdd, reduceEqDiff, reduceCtorEq, initFr, reduceLT, clsA, reduceLeDiff, reduceMul, reduceSub, reduceIte, g8, ox, lx]; rfl, kk _, v7, f8, ?_⟩
      rw [ge]
      exact ⟨rfl, a8.chg (Chg.set K p8 _) (fun y hy => by have := f7 y (mem_blkL.1 hy); simp; omega)⟩
    · rw [if_neg hc]
      have ge : geLi b = none := by
        unfold geLi pdLi
        split
        · rename_i hf
          rw [if_neg (fun h => hc ⟨hf, by have := h.1; simp only [Nat.zero_add]; exact this, h.2⟩)]
        · rfl
      simp (disch := first | assumption | omega | (simp only [LN] <;> omega) | (simp (disch := first | assumption | omega | (simp only [LN] <;> omega)) only [row_alloc, row_set]; assumption)) only [W_block, P3, ↓reduceIte, reduceAdd, reduceEqDiff, reduceCtorEq, initFr, reduceLT, clsA, reduceLeDiff, reduceMul, reduceSub, reduceIte, GotV, g8, ozz, lz]
      refine hq2 _ _ ⟨_, by rw [hr]; simp (disch := first | assumption | omega | (simp only [LN] <;> omega) | (simp (disch := first | assumption | omega | (simp only [LN] <;> omega)) only [row_alloc, row_set]; assumption)) only [W_block, P3, ↓reduceIte, reduceAdd, reduceEqDiff, reduceCtorEq, initFr, reduceLT, clsA, reduceLeDiff, reduceMul, reduceSub, reduceIte, g8, ozz, lz]; rfl, kk _, .slice none 0 0, fun b hb => (by cases hb), ?_⟩
      rw [ge]
      rfl
end Go.AM.Fd

set_option linter.unusedSimpArgs false
set_option linter.unusedVariables false
namespace Go.AM.Fd
open Nat (reduceAdd reduceEqDiff reduceLT reduceLeDiff reduceMul reduceSub)
open Go.Proofs Go.AM.F
theorem RR.gc {P : Program} {ng : Nat} {f : FuncId} {args : List Value} {H H' : AHeap} {lo hi r s s' : Nat} {l : List UInt8} {k : IntKind} {n : Int} (h : RR H lo hi r l s) (a : ARun P ng f args H (.int k n) H') (h' : RR H' lo hi r l s') (c : Chg [r] H H') :
    ∃ o, ARun P ng f args H (.int k n) (H.set r o) ∧ RR (H.set r o) lo hi r l s' := by
  obtain ⟨h1, h2, h3, bv, h4, h5, v0, g0, _⟩ := h
  obtain ⟨_, _, h3', bv', h4', h5', v', g', hv'⟩ := h'
  have gs : (H.set r (.cells true false 2 [v', .bool (decide (l.length < s'))] 171)).get r = some (.cells true false 2 [v', .bool (decide (l.length < s'))] 171) := AHeap.get_set_same g0 _
  have hrn := AHeap.get_lt g0
  have old : ∀ b, b ≠ r → (H.set r (.cells true false 2 [v', .bool (decide (l.length < s'))] 171)).get b = H.get b := fun b hb => AHeap.get_set_other _ hb hrn _
  refine ⟨.cells true false 2 [v', .bool (decide (l.length < s'))] 171, ?_, h1, h2, h3, bv', h4', h5', v', gs, ?_⟩
  · refine a.gcs [] rfl (by simp) (by simp) ?_ (by simp) (.inr (.int _ _))
    intro b o' hb ho
    by_cases hbr : b = r
    · subst hbr
      rw [g'] at ho; cases ho
      refine .inr ⟨_, gs, true, _, rfl, fun x => x, .cons ?_ (.cons (.bool _) .nil)⟩
      rcases hv' with ⟨rfl, _⟩ | ⟨o, c2, rm, rfl, _⟩
      · exact .nilSl
      · exact .sl (rho_old (by omega))
    · rw [Chg1.get c hb hbr] at ho
      exact .inl ⟨ho, by rw [old b hbr]; exact ho⟩
  · rcases hv' with ⟨rfl, e1, e2⟩ | ⟨o, c2, rm, rfl, e1, e2, e3, e4⟩
    · exact .inl ⟨rfl, e1, e2⟩
    · exact .inr ⟨o, c2, rm, rfl, by rw [old _ e2, ← Chg1.get c (by omega) e2]; exact e1, e2, e3, e4⟩
section
variable {H : AHeap} {lo hi r s : Nat} {l : List UInt8}
theorem e63 (h : RR H lo hi r l s) (hl : l.length ≤ 1000000000) : ∃ v H', ARun Go.Proofs.Try.prog 0 63 [ptr r 0] H v H' ∧ v = .int .u8 (na l s 1 : Nat) ∧ ∃ o, H' = H.set r o ∧ RR (H.set r o) lo hi r l (s + 1) := by
  obtain ⟨_, H', a, rfl, b, c⟩ := q63 h hl
  obtain ⟨o, p, q⟩ := h.gc a b c
  exact ⟨_, _, p, rfl, o, rfl, q⟩
theorem e75 (h : RR H lo hi r l s) (hl : l.length ≤ 1000000000) : ∃ v H', ARun Go.Proofs.Try.prog 0 75 [ptr r 0] H v H' ∧ v = .int .u16 (na l s 2 : Nat) ∧ ∃ o, H' = H.set r o ∧ RR (H.set r o) lo hi r l (s + 2) := by
  obtain ⟨_, H', a, rfl, b, c⟩ := q75 h hl
  obtain ⟨o, p, q⟩ := h.gc a b c
  exact ⟨_, _, p, rfl, o, rfl, q⟩
theorem e65 (h : RR H lo hi r l s) (hl : l.length ≤ 1000000000) : ∃ v H', ARun Go.Proofs.Try.prog 0 65 [ptr r 0] H v H' ∧ v = .int .u32 (na l s 4 : Nat) ∧ ∃ o, H' = H.set r o ∧ RR (H.set r o) lo hi r l (s + 4) := by
  obtain ⟨_, H', a, rfl, b, c⟩ := q65 h hl
  obtain ⟨o, p, q⟩ := h.gc a b c
  exact ⟨_, _, p, rfl, o, rfl, q⟩
theorem e64 (h : RR H lo hi r l s) (hl : l.length ≤ 1000000000) : ∃ v H', ARun Go.Proofs.Try.prog 0 64 [ptr r 0] H v H' ∧ v = .int .u64 (na l s 8 : Nat) ∧ ∃ o, H' = H.set r o ∧ RR (H.set r o) lo hi r l (s + 8) := by
  obtain ⟨_, H', a, rfl, b, c⟩ := q64 h hl
  obtain ⟨o, p, q⟩ := h.gc a b c
  exact ⟨_, _, p, rfl, o, rfl, q⟩
theorem RR.alloc (h : RR H lo hi r l s) (o : AO) : RR (H.alloc o) lo hi r l s := h.keeps ((Keeps.refl H).alloc o)
theorem RR.lt (h : RR H lo hi r l s) : r < H.n := Nat.lt_of_lt_of_le h.2.1 h.2.2.1
theorem RR.set (h : RR H lo hi r l s) {b : Nat} (hb : hi ≤ b) (hn : b < H.n) (o : AO) : RR (H.set b o) lo hi r l s := h.chg (Chg.set H hn o) (.inr hb)
end
end Go.AM.Fd

set_option linter.unusedSimpArgs false
set_option linter.unusedVariables false
namespace Go.AM.Fd
open Nat (reduceAdd reduceEqDiff reduceLT reduceLeDiff reduceMul reduceSub)
open Go.Proofs Go.AM.F
theorem t91 (n w : Nat) (hw : w ≤ 8) (H : AHeap) : ∃ v H', ARun Go.Proofs.Try.prog 0 91 [.int .u64 n, .int .i64 w] H v H' ∧ OB 5 H H' v (be w n) := by
  refine walk2 f91_ok f91_n ?_
  intro Q hq1 hq2
  simp (disch := first | assumption | omega | (simp only [LN] <;> omega) | (simp (disch := first | assumption | omega | (simp only [LN] <;> omega)) only [row_alloc, row_set]; assumption)) only [f91, W_block, P3, ↓reduceIte, reduceAdd, reduceEqDiff, reduceCtorEq, initFr, reduceLT, clsA, reduceLeDiff, reduceMul, reduceSub, reduceIte]
  refine callK (t106 n w hw H) ?_
  rintro v K ⟨a, k, f⟩
  simp (disch := first | assumption | omega | (simp only [LN] <;> omega) | (simp (disch := first | assumption | omega | (simp only [LN] <;> omega)) only [row_alloc, row_set]; assumption)) only [W_block, P3, ↓reduceIte, reduceAdd, reduceEqDiff, reduceCtorEq, initFr, reduceLT, clsA, reduceLeDiff, reduceMul, reduceSub, reduceIte]
  exact hq2 _ _ ⟨_, rfl, ⟨by rw [be_length]; exact a, k, f⟩⟩
theorem t92 {H K : AHeap} {v : Value} {l : List UInt8} (h : OB 5 H K v l) (hl : l.length ≤ 100000000) : ∃ w K', ARun Go.Proofs.Try.prog 0 92 [v] K w K' ∧ OB 5 H K' w (chk l) := by
  refine walk2 f92_ok f92_n ?_
  intro Q hq1 hq2
  simp (disch := first | assumption | omega | (simp only [LN] <;> omega) | (simp (disch := first | assumption | omega | (simp only [LN] <;> omega)) only [row_alloc, row_set]; assumption)) only [f92, W_block, P3, ↓reduceIte, reduceAdd, reduceEqDiff, reduceCtorEq, initFr, reduceLT, clsA, reduceLeDiff, reduceMul, reduceSub, reduceIte]
  refine callK (t107 h.bs (by omega)) ?_
  rintro _ K1 ⟨rfl, k1⟩
  have hc := crc_lt l
  have hw : IntKind.u64.wrap (crc l : Nat) = (crc l : Nat) := by rw [wrap_u64]; omega
  simp (disch := first | assumption | omega | (simp only [LN] <;> omega) | (simp (disch := first | assumption | omega | (simp only [LN] <;> omega)) only [row_alloc, row_set]; assumption)) only [W_block, P3, ↓reduceIte, reduceAdd, reduceEqDiff, reduceCtorEq, initFr, reduceLT, clsA, reduceLeDiff, reduceMul, reduceSub, reduceIte, hw]
  refine callK (t91 (crc l) 4 (by omega) K1) ?_
  rintro v2 K2 o2
  simp (disch := first | assumption | omega | (simp only [LN] <;> omega) | (simp (disch := first | assumption | omega | (simp only [LN] <;> omega)) only [row_alloc, row_set]; assumption)) only [W_block, P3, ↓reduceIte, reduceAdd, reduceEqDiff, reduceCtorEq, initFr, reduceLT, clsA, reduceLeDiff, reduceMul, reduceSub, reduceIte]
  refine (h.keeps (k1.trans o2.k)).appR o2.bs (by rw [be_length]; omega) ?_
  intro v3 K3 o3
  simp (disch := first | assumption | omega | (simp only [LN] <;> omega) | (simp (disch := first | assumption | omega | (simp only [LN] <;> omega)) only [row_alloc, row_set]; assumption)) only [W_block, P3, ↓reduceIte, reduceAdd, reduceEqDiff, reduceCtorEq, initFr, reduceLT, clsA, reduceLeDiff, reduceMul, reduceSub, reduceIte]
  exact hq2 _ _ ⟨_, rfl, o3⟩
theorem t67 {H : AHeap} {v : Value} {b : List UInt8} (hb : BQ H v b) (i w : Nat) (hi : i ≤ 1000000000) (hw : w ≤ 8) (hl : b.length ≤ 1000000000) :
    ∃ u H', ARun Go.Proofs.Try.prog 0 67 [v, .int .i64 (i : Nat), .int .i64 (w : Nat)] H u H' ∧ u = .int .u64 (na b i w : Nat) ∧ H' = H := by
  refine walk2 f67_ok f67_n ?_
  intro Q hq1 hq2
  have hs := hb.bs.sl
  have his := hs.is
  have hlen := hs.len
  rw [List.length_map] at hlen
  have hw1 : IntKind.i64.wrap ((i : Int) + (w : Int)) = ((i + w : Nat) : Int) := by rw [wrap_i64 (by omega) (by omega)]; push_cast; rfl
  by_cases hc : b.length < i + w
  · simp (disch := first | assumption | omega | (simp only [LN] <;> omega) | (simp (disch := first | assumption | omega | (simp only [LN] <;> omega)) only [row_alloc, row_set]; assumption)) only [f67, W_block, P3, ↓reduceIte, reduceAdd, reduceEqDiff, reduceCtorEq, initFr, reduceLT, clsA, reduceLeDiff, reduceMul, reduceSub, reduceIte, hlen, hw1]
    exact hq2 _ _ ⟨_, rfl, by unfold na seg; rw [if_pos hc]; rfl, rfl⟩
  · obtain ⟨u, s1, q1⟩ := hb.mid (k := .i64) (k' := .i64) i (i + w) (by omega) (by omega)
    simp (disch := first | assumption | omega | (simp only [LN] <;> omega) | (simp (disch := first | assumption | omega | (simp only [LN] <;> omega)) only [row_alloc, row_set]; assumption)) only [f67, W_block, P3, ↓reduceIte, reduceAdd, reduceEqDiff, reduceCtorEq, initFr, reduceLT, clsA, reduceLeDiff, reduceMul, reduceSub, reduceIte, hlen, hw1, s1]
    refine ⟨_, _, t102 q1.bs (by rw [List.length_take]; omega), ?_⟩
    simp (disch := first | assumption | omega | (simp only [LN] <;> omega) | (simp (disch := first | assumption | omega | (simp only [LN] <;> omega)) only [row_alloc, row_set]; assumption)) only [W_block, P3, ↓reduceIte, reduceAdd, reduceEqDiff, reduceCtorEq, initFr, reduceLT, clsA, reduceLeDiff, reduceMul, reduceSub, reduceIte]
    exact hq2 _ _ ⟨_, rfl, by unfold na seg; rw [if_neg hc, show i + w - i = w by omega]; rfl, rfl⟩
end Go.AM.Fd

set_option linter.unusedSimpArgs false
set_option linter.unusedVariables false
namespace Go.AM.Fd
open Nat (reduceAdd reduceEqDiff reduceLT reduceLeDiff reduceMul reduceSub)
open Go.Proofs Go.AM.F
theorem fillu3 (a b c : Int) : fillA [.int .u8 0, .int .u8 0, .int .u8 0] [(0, 1, .int .u8 a), (1, 1, .int .u8 b), (2, 1, .int .u8 c)] = some [.int .u8 a, .int .u8 b, .int .u8 c] := rfl
theorem sq_nat {n : Int} (h : sqB n = true) : IntKind.u64.wrap n = ((n.toNat : Nat) : Int) := by
  have := sqB_iff.1 h
  rw [wrap_u64]; omega
theorem u64w {n : Nat} (h : n < 18446744073709551616) : IntKind.u64.wrap (n : Int) = (n : Int) := by rw [wrap_u64]; omega
def strB (l : List UInt8) : Value := .string ⟨l.toArray⟩
theorem a_lenB (l : List UInt8) (H : AHeap) : asem (.len true (strB l)) H = some (.int .i64 (l.length : Nat), H) := by
  have : (⟨l.toArray⟩ : ByteArray).size = l.length := by simp [ByteArray.size]
  show some (Value.int .i64 ((⟨l.toArray⟩ : ByteArray).size : Nat), H) = _
  rw [this]
theorem cLiG (v : Value) (x : Li) : (cLi v x)[0]? = some (.int .u8 (x.f : Nat)) ∧ (cLi v x)[1]? = some (.int .u8 (x.t : Nat)) ∧ (cLi v x)[2]? = some (.int .i64 x.q) ∧ (cLi v x)[3]? = some (.int .i64 x.k) ∧ (cLi v x)[4]? = some v := ⟨rfl, rfl, rfl, rfl, rfl⟩
theorem t52 (x : Li) (hx : rgLi x) (H : AHeap) (hl : x.B.length ≤ 1000000) : ∃ v H', ARun Go.Proofs.Try.prog 0 52 [.agg (cLi (strB x.B) x).toArray] H v H' ∧ OB 5 H H' v (fLi x) := by
  refine walk2 f52_ok f52_n ?_
  intro Q hq1 hq2
  have lx : (cLi (strB x.B) x).length = 5 := rfl
  have ox : (cLi (strB x.B) x).all Value.oneCell' = true := rfl
  have kH := (Keeps.refl H).alloc (.cells true false 5 (cLi (strB x.B) x) 69)
  obtain ⟨H1, hH1⟩ : ∃ X, X = H.alloc (.cells true false 5 (cLi (strB x.B) x) 69) := ⟨_, rfl⟩
  have gx : H1.get H.n = some (.cells true false 5 (cLi (strB x.B) x) 69) := by rw [hH1]; exact AHeap.get_alloc_new _ _
  have px := AHeap.get_lt gx
  by_cases hok : okLi x = true
  rotate_left
  · have e : fLi x = [] := by unfold fLi; rw [if_neg hok]
    have hno : x.q < 0 ∨ 4611686018427387904 < x.q ∨ x.k < 0 ∨ 4611686018427387904 < x.k ∨ (2048 : Int) < (x.B.length : Int) := by
      by_cases h0 : x.q < 0 ∨ 4611686018427387904 < x.q ∨ x.k < 0 ∨ 4611686018427387904 < x.k ∨ (2048 : Int) < (x.B.length : Int)
      · exact h0
      · exact absurd (okLi_iff.2 (by omega)) hok
    by_cases c1 : x.q < 0
    · simp (disch := first | assumption | omega | (simp only [LN] <;> omega) | (simp (disch := first | assumption | omega | (simp only [LN] <;> omega)) only [row_alloc, row_set]; assumption)) only [f52, W_block, P3, ↓reduceIte, reduceAdd, reduceEqDiff, reduceCtorEq, initFr, reduceLT, clsA, reduceLeDiff, reduceMul, reduceSub, reduceIte, ox, (cLiG (strB x.B) x).1, (cLiG (strB x.B) x).2.1, (cLiG (strB x.B) x).2.2.1, (cLiG (strB x.B) x).2.2.2.1, (cLiG (strB x.B) x).2.2.2.2]
      exact hq2 _ _ ⟨_, rfl, by rw [e]; exact (OB.nil _ _).base kH⟩
    by_cases c2 : 4611686018427387904 < x.q
    · simp (disch := first | assumption | omega | (simp only [LN] <;> omega) | (simp (disch := first | assumption | omega | (simp only [LN] <;> omega)) only [row_alloc, row_set]; assumption)) only [f52, W_block, P3, ↓reduceIte, reduceAdd, reduceEqDiff, reduceCtorEq, initFr, reduceLT, clsA, reduceLeDiff, reduceMul, reduceSub, reduceIte, ox, (cLiG (strB x.B) x).1, (cLiG (strB x.B) x).2.1, (cLiG (strB x.B) x).2.2.1, (cLiG (strB x.B) x).2.2.2.1, (cLiG (strB x.B) x).2.2.2.2]
      exact hq2 _ _ ⟨_, rfl, by rw [e]; exact (OB.nil _ _).base kH⟩
    by_cases c3 : x.k < 0
    · simp (disch := first | assumption | omega | (simp only [LN] <;> omega) | (simp (disch := first | assumption | omega | (simp only [LN] <;> omega)) only [row_alloc, row_set]; assumption)) only [f52, W_block, P3, ↓reduceIte, reduceAdd, reduceEqDiff, reduceCtorEq, initFr, reduceLT, clsA, reduceLeDiff, reduceMul, reduceSub, reduceIte, ox, (cLiG (strB x.B) x).1, (cLiG (strB x.B) x).2.1, (cLiG (strB x.B) x).2.2.1, (cLiG (strB x.B) x).2.2.2.1, (cLiG (strB x.B) x).2.2.2.2]
      exact hq2 _ _ ⟨_, rfl, by rw [e]; exact (OB.nil _ _).base kH⟩
    by_cases c4 : 4611686018427387904 < x.k
    · simp (disch := first | assumption | omega | (simp only [LN] <;> omega) | (simp (disch := first | assumption | omega | (simp only [LN] <;> omega)) only [row_alloc, row_set]; assumption)) only [f52, W_block, P3, ↓reduceIte, reduceAdd, reduceEqDiff, reduceCtorEq, initFr, reduceLT, clsA, reduceLeDiff, reduceMul, reduceSub, reduceIte, ox, (cLiG (strB x.B) x).1, (cLiG (strB x.B) x).2.1, (cLiG (strB x.B) x).2.2.1, (cLiG (strB x.B) x).2.2.2.1, (cLiG (strB x.B) x).2.2.2.2]
      exact hq2 _ _ ⟨_, rfl, by rw [e]; exact (OB.nil _ _).base kH⟩
    have c5 : (2048 : Int) < (x.B.length : Int) := by omega
    simp (disch := first | assumption | omega | (simp only [LN] <;> omega) | (simp (disch := first | assumption | omega | (simp only [LN] <;> omega)) only [row_alloc, row_set]; assumption)) only [f52, W_block, P3, ↓reduceIte, reduceAdd, reduceEqDiff, reduceCtorEq, initFr, reduceLT, clsA, reduceLeDiff, reduceMul, reduceSub, reduceIte, ox, (cLiG (strB x.B) x).1, (cLiG (strB x.B) x).2.1, (cLiG (strB x.B) x).2.2.1, (cLiG (strB x.B) x).2.2.2.1, (cLiG (strB x.B) x).2.2.2.2, a_lenB]
    exact hq2 _ _ ⟨_, rfl, by rw [e]; exact (OB.nil _ _).base kH⟩
  obtain ⟨⟨c1, c2⟩, ⟨c3, c4⟩, c5⟩ := okLi_iff.1 hok
  have h1 : sqB x.q = true := sqB_iff.2 ⟨c1, c2⟩
  have h2 : sqB x.k = true := sqB_iff.2 ⟨c3, c4⟩
  have c5' : ¬ (2048 : Int) < (x.B.length : Int) := by omega
  have n1 : ¬ x.q < 0 := by omega
  have n2 : ¬ 4611686018427387904 < x.q := by omega
  have n3 : ¬ x.k < 0 := by omega
  have n4 : ¬ 4611686018427387904 < x.k := by omega
  simp (disch := first | assumption | omega | (simp only [LN] <;> omega) | (simp (disch := first | assumption | omega | (simp only [LN] <;> omega)) only [row_alloc, row_set]; assumption)) only [f52, W_block, P3, ↓reduceIte, reduceAdd, reduceEqDiff, reduceCtorEq, initFr, reduceLT, clsA, reduceLeDiff, reduceMul, reduceSub, reduceIte, ox, (cLiG (strB x.B) x).1, (cLiG (strB x.B) x).2.1, (cLiG (strB x.B) x).2.2.1, (cLiG (strB x.B) x).2.2.2.1, (cLiG (strB x.B) x).2.2.2.2, a_lenB]
  rw [← hH1] at kH ⊢
  simp (disch := first | assumption | omega | (simp only [LN] <;> omega) | (simp (disch := first | assumption | omega | (simp only [LN] <;> omega)) only [row_alloc, row_set]; assumption)) only [W_block, P3, ↓reduceIte, reduceAdd, reduceEqDiff, reduceCtorEq, initFr, reduceLT, clsA, reduceLeDiff, reduceMul, reduceSub, reduceIte, gx, (cLiG (strB x.B) x).1, (cLiG (strB x.B) x).2.1, (cLiG (strB x.B) x).2.2.1, (cLiG (strB x.B) x).2.2.2.1, (cLiG (strB x.B) x).2.2.2.2, fillu3]
  have hn1 : H1.n = H.n + 1 := by rw [hH1]; rfl
  obtain ⟨K1, hK1⟩ : ∃ X, X = H1.alloc (.cells true false 1 [.int .u8 5, .int .u8 (x.f : Nat), .int .u8 (x.t : Nat)] 5) := ⟨_, rfl⟩
  have o1 : OB 5 H1 K1 (slc (H.n + 1) 0 3 3) [UInt8.ofNat 5, UInt8.ofNat x.f, UInt8.ofNat x.t] := by rw [hK1, ← hn1]; exact OB.lit (Keeps.refl H1) (cells3 (show 5 < 256 by omega) hx.1 hx.2) rfl rfl false
  rw [← hK1]
  have k1 := o1.k
  simp (disch := first | assumption | omega | (simp only [LN] <;> omega) | (simp (disch := first | assumption | omega | (simp only [LN] <;> omega)) only [row_alloc, row_set, Keeps.row k1]; assumption)) only [Keeps.get k1, Keeps.row k1, W_block, P3, ↓reduceIte, reduceAdd, reduceEqDiff, reduceCtorEq, initFr, reduceLT, clsA, reduceLeDiff, reduceMul, reduceSub, reduceIte, gx, (cLiG (strB x.B) x).1, (cLiG (strB x.B) x).2.1, (cLiG (strB x.B) x).2.2.1, (cLiG (strB x.B) x).2.2.2.1, (cLiG (strB x.B) x).2.2.2.2, sq_nat h1]
  refine callK (t91 (x.q.toNat) 8 (by omega) _) ?_
  rintro w1 L1 p1
  simp (disch := first | assumption | omega | (simp only [LN] <;> omega) | (simp (disch := first | assumption | omega | (simp only [LN] <;> omega)) only [row_alloc, row_set, Keeps.row k1]; assumption)) only [Keeps.get k1, Keeps.row k1, W_block, P3, ↓reduceIte, reduceAdd, reduceEqDiff, reduceCtorEq, initFr, reduceLT, clsA, reduceLeDiff, reduceMul, reduceSub, reduceIte, gx, (cLiG (strB x.B) x).1, (cLiG (strB x.B) x).2.1, (cLiG (strB x.B) x).2.2.1, (cLiG (strB x.B) x).2.2.2.1, (cLiG (strB x.B) x).2.2.2.2]
  refine (o1.keeps p1.k).appR p1.bs (by simp only [List.length_append, be_length, List.length_cons, List.length_nil]; omega) ?_
  intro v2 K2 o2
  have k2 := o2.k
  simp (disch := first | assumption | omega | (simp only [LN] <;> omega) | (simp (disch := first | assumption | omega | (simp only [LN] <;> omega)) only [row_alloc, row_set, Keeps.row k2]; assumption)) only [Keeps.get k2, Keeps.row k2, W_block, P3, ↓reduceIte, reduceAdd, reduceEqDiff, reduceCtorEq, initFr, reduceLT, clsA, reduceLeDiff, reduceMul, reduceSub, reduceIte, gx, (cLiG (strB x.B) x).1, (cLiG (strB x.B) x).2.1, (cLiG (strB x.B) x).2.2.1, (cLiG (strB x.B) x).2.2.2.1, (cLiG (strB x.B) x).2.2.2.2, sq_nat h2]
  refine callK (t91 (x.k.toNat) 8 (by omega) _) ?_
  rintro w2 L2 p2
  simp (disch := first | assumption | omega | (simp only [LN] <;> omega) | (simp (disch := first | assumption | omega | (simp only [LN] <;> omega)) only [row_alloc, row_set, Keeps.row k2]; assumption)) only [Keeps.get k2, Keeps.row k2, W_block, P3, ↓reduceIte, reduceAdd, reduceEqDiff, reduceCtorEq, initFr, reduceLT, clsA, reduceLeDiff, reduceMul, reduceSub, reduceIte, gx, (cLiG (strB x.B) x).1, (cLiG (strB x.B) x).2.1, (cLiG (strB x.B) x).2.2.1, (cLiG (strB x.B) x).2.2.2.1, (cLiG (strB x.B) x).2.2.2.2]
  refine (o2.keeps p2.k).appR p2.bs (by simp only [List.length_append, be_length, List.length_cons, List.length_nil]; omega) ?_
  intro v3 K3 o3
  have k3 := o3.k
  simp (disch := first | assumption | omega | (simp only [LN] <;> omega) | (simp (disch := first | assumption | omega | (simp only [LN] <;> omega)) only [row_alloc, row_set, Keeps.row k3]; assumption)) only [Keeps.get k3, Keeps.row k3, W_block, P3, ↓reduceIte, reduceAdd, reduceEqDiff, reduceCtorEq, initFr, reduceLT, clsA, reduceLeDiff, reduceMul, reduceSub, reduceIte, gx, (cLiG (strB x.B) x).1, (cLiG (strB x.B) x).2.1, (cLiG (strB x.B) x).2.2.1, (cLiG (strB x.B) x).2.2.2.1, (cLiG (strB x.B) x).2.2.2.2, a_lenB, u64w (show x.B.length < 18446744073709551616 by omega)]
  refine callK (t91 (x.B.length) 2 (by omega) _) ?_
  rintro w3 L3 p3
  simp (disch := first | assumption | omega | (simp only [LN] <;> omega) | (simp (disch := first | assumption | omega | (simp only [LN] <;> omega)) only [row_alloc, row_set, Keeps.row k3]; assumption)) only [Keeps.get k3, Keeps.row k3, W_block, P3, ↓reduceIte, reduceAdd, reduceEqDiff, reduceCtorEq, initFr, reduceLT, clsA, reduceLeDiff, reduceMul, reduceSub, reduceIte, gx, (cLiG (strB x.B) x).1, (cLiG (strB x.B) x).2.1, (cLiG (strB x.B) x).2.2.1, (cLiG (strB x.B) x).2.2.2.1, (cLiG (strB x.B) x).2.2.2.2]
  refine (o3.keeps p3.k).appR p3.bs (by simp only [List.length_append, be_length, List.length_cons, List.length_nil]; omega) ?_
  intro v4 K4 o4
  have k4 := o4.k
  simp (disch := first | assumption | omega | (simp only [LN] <;> omega) | (simp (disch := first | assumption | omega | (simp only [LN] <;> omega)) only [row_alloc, row_set, Keeps.row k4]; assumption)) only [Keeps.get k4, Keeps.row k4, W_block, P3, ↓reduceIte, reduceAdd, reduceEqDiff, reduceCtorEq, initFr, reduceLT, clsA, reduceLeDiff, reduceMul, reduceSub, reduceIte, gx, (cLiG (strB x.B) x).1, (cLiG (strB x.B) x).2.1, (cLiG (strB x.B) x).2.2.1, (cLiG (strB x.B) x).2.2.2.1, (cLiG (strB x.B) x).2.2.2.2]
  refine o4.appsR (m := x.B) (by simp only [List.length_append, be_length, List.length_cons, List.length_nil]; omega) ?_
  intro v5 K5 o5
  simp (disch := first | assumption | omega | (simp only [LN] <;> omega) | (simp (disch := first | assumption | omega | (simp only [LN] <;> omega)) only [row_alloc, row_set]; assumption)) only [W_block, P3, ↓reduceIte, reduceAdd, reduceEqDiff, reduceCtorEq, initFr, reduceLT, clsA, reduceLeDiff, reduceMul, reduceSub, reduceIte]
  refine callK (t92 o5 (by simp only [List.length_append, be_length, List.length_cons, List.length_nil]; omega)) ?_
  rintro v6 K6 o6
  simp (disch := first | assumption | omega | (simp only [LN] <;> omega) | (simp (disch := first | assumption | omega | (simp only [LN] <;> omega)) only [row_alloc, row_set]; assumption)) only [W_block, P3, ↓reduceIte, reduceAdd, reduceEqDiff, reduceCtorEq, initFr, reduceLT, clsA, reduceLeDiff, reduceMul, reduceSub, reduceIte]
  refine hq2 _ _ ⟨_, rfl, ?_⟩
  have e : fLi x = chk ([UInt8.ofNat 5, UInt8.ofNat x.f, UInt8.ofNat x.t] ++ be 8 x.q.toNat ++ be 8 x.k.toNat ++ be 2 x.B.length ++ x.B) := by
    unfold fLi
    rw [if_pos hok]
    unfold enLi
    simp only [be1, List.append_assoc, List.cons_append, List.nil_append]
    rfl
  rw [e]
  exact o6.base kH
end Go.AM.Fd

set_option linter.unusedSimpArgs false
set_option linter.unusedVariables false
namespace Go.AM.Fd
open Nat (reduceAdd reduceEqDiff reduceLT reduceLeDiff reduceMul reduceSub)
open Go.Proofs Go.AM.F
theorem na_one {b : List UInt8} {i : Nat} (h : i < b.length) : na b i 1 = b[i].toNat := by
  unfold na seg
  rw [if_neg (by omega), List.drop_eq_getElem_cons h]
  simp only [List.take_succ_cons, List.take_zero]
  have := b[i].toNat_lt
  simp only [num, List.foldl_cons, List.foldl_nil]
  omega
theorem geLi_some {b : List UInt8} {y : Li} (h : geLi b = some y) : fLi y = b ∧ rgLi y ∧ y = deLi (bd b) ∧ b.length = 25 + y.B.length := by
  unfold geLi at h
  split at h
  · rename_i hf
    have hd : y = deLi (bd b) := by unfold pdLi at h; split at h; exact (Option.some.inj h).symm; cases h
    obtain ⟨h1, h2, h3⟩ := pdLi_e h
    have h5 := frm_len hf
    have hl := enLi_len y
    rw [h1, bd_len] at hl
    refine ⟨?_, h3, hd, by omega⟩
    unfold fLi
    rw [if_pos h2, h1]
    exact (frm_eq hf).symm
  · cases h
theorem geLi_of {x : Li} (hr : rgLi x) {b : List UInt8} (hb : b ≠ []) (h : fLi x = b) : geLi b = some x := by
  unfold fLi at h
  split at h
  · rename_i hok
    subst h
    unfold geLi
    have e : frm 5 (chk (5 :: enLi x)) = true := frm_chk (k := 5) _
    rw [if_pos e, bd_chk, pdLi_d hok hr]
  · exact absurd h.symm hb
def GotB (c : List Value) (ok : Bool) : Value := .tuple #[.agg c.toArray, .bool ok]
theorem GotB.nv {ρ : Nat → Option Nat} {c : List Value} (h : c.all plain1 = true) (ok : Bool) : NV ρ (GotB c ok) (GotB c ok) :=
  NV.tuple_of (.cons (NV.agg_of (NL.plain h)) (.cons (.bool ok) .nil))
theorem touch_b2s (v : Value) (X : AHeap) : touchA (.b2s v) X = tb v := by
  unfold touchA
  have : clsA (.b2s v) = 1 := rfl
  rw [if_pos this]
  cases v <;> try rfl
  rename_i a n k
  cases a with
  | none => rfl
  | some a =>
    obtain ⟨b, o, z⟩ := a
    cases z <;> rfl
theorem tbk {H K : AHeap} {v : Value} {b : List UInt8} (h : BS H v b) (k : Keeps H K) : olderB (tb v) H ∧ keepsB (tb v) H K := ⟨tb_older h.tbl, tb_keeps (fun y hy => ⟨h.tbl y hy, by simp⟩) (k.chg [])⟩
end Go.AM.Fd

set_option linter.unusedSimpArgs false
set_option linter.unusedVariables false
namespace Go.AM.Fd
open Nat (reduceAdd reduceEqDiff reduceLT reduceLeDiff reduceMul reduceSub)
open Go.Proofs Go.AM.F
def cLs (x : Li) : List Value := cLi (strB x.B) x
def tLi (o : Option Li) : Value := match o with
  | some x => GotB (cLs x) true
  | none => GotB (cLs Li0) false
theorem cLsL (x : Li) : (cLs x).length = 5 := rfl
theorem cLsO (x : Li) : (cLs x).all Value.oneCell' = true := rfl
theorem cLs_plain (x : Li) : (cLs x).all plain1 = true := rfl
theorem fillLs (f t : Nat) (q k : Int) (B : List UInt8) : fillA [.int .u8 0, .int .u8 0, .int .i64 0, .int .i64 0, .string ByteArray.empty] [(0, 1, .int .u8 (f : Nat)), (1, 1, .int .u8 (t : Nat)), (2, 1, .int .i64 q), (3, 1, .int .i64 k), (4, 1, .string ⟨B.toArray⟩)] = some (cLs ⟨f, t, q, k, B⟩) := rfl
theorem t25 {H : AHeap} {v : Value} {b : List UInt8} (hb : BQ H v b) (hl : b.length ≤ 1000000) : ∃ w H', ARun Go.Proofs.Try.prog 0 25 [v] H w H' ∧ w = tLi (geLi b) ∧ H' = H := by
  suffices h : ∃ w H', ARun Go.Proofs.Try.prog 0 25 [v] H w H' ∧ w = tLi (geLi b) ∧ Keeps H H' by
    obtain ⟨_, _, a, rfl, k⟩ := h
    refine ⟨_, _, a.gc0 k (.inr ?_), rfl, rfl⟩
    cases geLi b <;> exact GotB.nv (cLs_plain _) _
  refine walk2 f25_ok f25_n ?_
  intro Q hq1 hq2
  have hr : ∀ fr H', resO f25.res fr H' = (celln 5 (fr.getD 1 undef) H').map fun c => .tuple #[c, fr.getD 2 undef] := fun fr H' => resCT 5 1 2 fr
  have lz : ([.int .u8 0, .int .u8 0, .int .i64 0, .int .i64 0, .string ByteArray.empty] : List Value).length = 5 := rfl
  have ozz : ([.int .u8 0, .int .u8 0, .int .i64 0, .int .i64 0, .string ByteArray.empty] : List Value).all Value.oneCell' = true := rfl
  have k0 := (Keeps.refl H).alloc (.cells true false 5 ([.int .u8 0, .int .u8 0, .int .i64 0, .int .i64 0, .string ByteArray.empty]) 69)
  have hs := hb.bs.sl
  have his := hs.is
  have hlen := hs.len
  rw [List.length_map] at hlen
  by_cases h0 : b.length < 25
  · simp (disch := first | assumption | omega | (simp only [LN] <;> omega) | (simp (disch := first | assumption | omega | (simp only [LN] <;> omega)) only [row_alloc, row_set]; assumption)) only [f25, W_block, P3, ↓reduceIte, reduceAdd, reduceEqDiff, reduceCtorEq, initFr, reduceLT, clsA, reduceLeDiff, reduceMul, reduceSub, reduceIte, hlen, ozz]
    refine hq2 _ _ ⟨_, by rw [hr]; simp (disch := first | assumption | omega | (simp only [LN] <;> omega) | (simp (disch := first | assumption | omega | (simp only [LN] <;> omega)) only [row_alloc, row_set]; assumption)) only [W_block, P3, ↓reduceIte, reduceAdd, reduceEqDiff, reduceCtorEq, initFr, reduceLT, clsA, reduceLeDiff, reduceMul, reduceSub, reduceIte, ozz, lz]; rfl, ?_, k0⟩
    cases hg : geLi b with
    | none => rfl
    | some y => have := (geLi_some hg).2.2.2; omega
  obtain ⟨hnn, hrow⟩ := hs.at_ (by omega) (i := 1) (by rw [List.length_map]; omega)
  obtain ⟨_, hrow2⟩ := hs.at_ (by omega) (i := 2) (by rw [List.length_map]; omega)
  rw [List.getElem_map] at hrow hrow2
  have hbn := hs.bn_le (by intro e; simp at e; subst e; simp at h0) (by omega)
  rw [← na_one (by omega)] at hrow hrow2
  have hw : IntKind.i64.wrap ((b.length : Int) - 4) = ((b.length - 4 : Nat) : Int) := by rw [wrap_i64 (by omega) (by omega)]; omega
  obtain ⟨x, hx⟩ : ∃ x, x = (⟨na b 1 1, na b 2 1, sg (na b 3 8), sg (na b 11 8), (b.drop 21).take (b.length - 4 - 21)⟩ : Li) := ⟨_, rfl⟩
  have hrg : rgLi x := by rw [hx]; exact ⟨na1 _ _, na1 _ _⟩
  have hxl : x.B.length ≤ 1000000 := by rw [hx]; simp only [List.length_take, List.length_drop]; omega
  have lx : (cLs x).length = 5 := rfl
  have ox := cLsO x
  simp (disch := first | assumption | omega | (simp only [LN] <;> omega) | (simp (disch := first | assumption | omega | (simp only [LN] <;> omega)) only [row_alloc, row_set]; assumption)) only [f25, W_block, P3, ↓reduceIte, reduceAdd, reduceEqDiff, reduceCtorEq, initFr, reduceLT, clsA, reduceLeDiff, reduceMul, reduceSub, reduceIte, hlen, ozz, Int.reduceToNat]
  refine callK (t67 (hb.keeps k0) 3 8 (by omega) (by omega) (by omega)) ?_
  rintro _ _ ⟨rfl, rfl⟩
  simp (disch := first | assumption | omega | (simp only [LN] <;> omega) | (simp (disch := first | assumption | omega | (simp only [LN] <;> omega)) only [row_alloc, row_set]; assumption)) only [W_block, P3, ↓reduceIte, reduceAdd, reduceEqDiff, reduceCtorEq, initFr, reduceLT, clsA, reduceLeDiff, reduceMul, reduceSub, reduceIte, hlen, ozz, Int.reduceToNat, ite_self]
  refine callK (t67 (hb.keeps k0) 11 8 (by omega) (by omega) (by omega)) ?_
  rintro _ _ ⟨rfl, rfl⟩
  obtain ⟨u, s1, q1⟩ := (hb.keeps k0).mid (k := .i64) (k' := .i64) 21 (b.length - 4) (by omega) (by omega)
  have s1' : asem (.slsl 1 v (some (.int .i64 21)) (some (.int .i64 (b.length - 4 : Nat))) none) (H.alloc (.cells true false 5 [.int .u8 0, .int .u8 0, .int .i64 0, .int .i64 0, .string ByteArray.empty] 69)) = some (u, H.alloc (.cells true false 5 [.int .u8 0, .int .u8 0, .int .i64 0, .int .i64 0, .string ByteArray.empty] 69)) := s1
  have tv := tbk (hb.bs.keeps k0) (Keeps.refl _)
  have tu := tbk q1.bs (Keeps.refl _)
  simp (disch := first | assumption | omega | (simp only [LN] <;> omega) | (simp (disch := first | assumption | omega | (simp only [LN] <;> omega)) only [row_alloc, row_set]; assumption)) only [W_block, P3, ↓reduceIte, reduceAdd, reduceEqDiff, reduceCtorEq, initFr, reduceLT, clsA, reduceLeDiff, reduceMul, reduceSub, reduceIte, hlen, ozz, Int.reduceToNat, ite_self, hw, s1', a_b2sB q1.bs, touch_b2s, touch_sl, fillLs, cLsL, cLsO, tv.1, tv.2, tu.1, tu.2]
  rw [show (⟨na b 1 1, na b 2 1, IntKind.i64.wrap (na b 3 8), IntKind.i64.wrap (na b 11 8), (b.drop 21).take (b.length - 4 - 21)⟩ : Li) = x from hx.symm]
  simp (disch := first | assumption | omega | (simp only [LN] <;> omega) | (simp (disch := first | assumption | omega | (simp only [LN] <;> omega)) only [row_alloc, row_set]; assumption)) only [W_block, P3, ↓reduceIte, reduceAdd, reduceEqDiff, reduceCtorEq, initFr, reduceLT, clsA, reduceLeDiff, reduceMul, reduceSub, reduceIte]
  refine callK (t52 x hrg _ hxl) ?_
  rintro v2 K2 o2
  have k2 := o2.k
  have kC := k0.trans ((Keeps.refl _).alloc (.cells true false 5 (cLs x) 69))
  have tk := tbk (hb.bs.keeps kC) k2
  have n2 := k2.n
  simp only [alloc_n] at n2
  have kb := kC.trans k2
  have hb2 := hb.bs.keeps kb
  by_cases heq : fLi x = b
  · have e1 : decide (fLi x = b) = true := by simp [heq]
    have hg := geLi_of hrg (by intro e; rw [e] at h0; simp at h0) heq
    simp (disch := first | assumption | omega | (simp only [LN] <;> omega) | (simp (disch := first | assumption | omega | (simp only [LN] <;> omega)) only [row_alloc, row_set, Keeps.row k2]; assumption)) only [Keeps.get k2, Keeps.row k2, W_block, P3, ↓reduceIte, reduceAdd, reduceEqDiff, reduceCtorEq, initFr, reduceLT, clsA, reduceLeDiff, reduceMul, reduceSub, reduceIte, a_b2sB o2.bs, a_b2sB hb2, touch_b2s, ite_self, bytes_eq, e1, ox, lx, ozz, lz]
    refine ⟨tk, ?_⟩
    refine hq2 _ _ ⟨_, by rw [hr]; simp (disch := first | assumption | omega | (simp only [LN] <;> omega) | (simp (disch := first | assumption | omega | (simp only [LN] <;> omega)) only [row_alloc, row_set, Keeps.row k2]; assumption)) only [Keeps.get k2, Keeps.row k2, W_block, P3, ↓reduceIte, reduceAdd, reduceEqDiff, reduceCtorEq, initFr, reduceLT, clsA, reduceLeDiff, reduceMul, reduceSub, reduceIte, lx]; rfl, by rw [hg]; rfl, ?_⟩
    exact kb.set (Nat.le_refl _) (by omega) _
  · have e1 : decide (fLi x = b) = false := by simp [heq]
    have hg : geLi b = none := by
      cases hg : geLi b with
      | none => rfl
      | some y =>
        obtain ⟨h1, h2, h3, h4⟩ := geLi_some hg
        have hxy : x = y := by
          have ef : y.f = na b 1 1 := by rw [h3]; exact (na_bd (s := 0) (by omega)).symm
          have et : y.t = na b 2 1 := by rw [h3]; exact (na_bd (s := 1) (by omega)).symm
          have eq : y.q = sg (na b 3 8) := by rw [h3]; show sg (na (bd b) 2 8) = _; rw [← na_bd (s := 2) (by omega)]
          have ek : y.k = sg (na b 11 8) := by rw [h3]; show sg (na (bd b) 10 8) = _; rw [← na_bd (s := 10) (by omega)]
          have eB : y.B = (b.drop 21).take (b.length - 4 - 21) := by
            have e1 : y.B = seg (bd b) 20 (na (bd b) 18 2) := by rw [h3]; rfl
            rw [e1] at h4 ⊢
            generalize na (bd b) 18 2 = n at h4 ⊢
            unfold seg at h4 ⊢
            split
            · rename_i hc
              rw [if_pos hc, List.length_nil] at h4
              rw [show b.length - 4 - 21 = 0 by omega, List.take_zero]
            · rename_i hc
              rw [if_neg hc, List.length_take, List.length_drop, bd_len] at h4
              rw [bd_len] at hc
              unfold bd
              rw [List.drop_take, List.take_take, List.drop_drop]
              congr 1
              omega
          rw [hx, ← ef, ← et, ← eq, ← ek, ← eB]
        subst hxy
        exact absurd h1 heq
    simp (disch := first | assumption | omega | (simp only [LN] <;> omega) | (simp (disch := first | assumption | omega | (simp only [LN] <;> omega)) only [row_alloc, row_set, Keeps.row k2]; assumption)) only [Keeps.get k2, Keeps.row k2, W_block, P3, ↓reduceIte, reduceAdd, reduceEqDiff, reduceCtorEq, initFr, reduceLT, clsA, reduceLeDiff, reduceMul, reduceSub, reduceIte, a_b2sB o2.bs, a_b2sB hb2, touch_b2s, ite_self, bytes_eq, e1, ox, lx, ozz, lz]
    refine ⟨tk, ?_⟩
    refine hq2 _ _ ⟨_, by rw [hr]; simp (disch := first | assumption | omega | (simp only [LN] <;> omega) | (simp (disch := first | assumption | omega | (simp only [LN] <;> omega)) only [row_alloc, row_set, Keeps.row k2]; assumption)) only [Keeps.get k2, Keeps.row k2, W_block, P3, ↓reduceIte, reduceAdd, reduceEqDiff, reduceCtorEq, initFr, reduceLT, clsA, reduceLeDiff, reduceMul, reduceSub, reduceIte, ozz, lz]; rfl, by rw [hg]; rfl, ?_⟩
    exact kb.set (Nat.le_refl _) (by omega) _
end Go.AM.Fd

set_option maxRecDepth 100000
namespace Go.AM.F
def O68 : List Nat := [1, 1, 1, 1, 1, 1, 1, 1, 1, 1, 1, 1, 1, 1, 1, 1, 1, 1, 1, 1, 1, 1, 1, 1, 1, 1, 1, 1, 1, 1, 1, 1, 1, 1, 1, 1, 1, 1, 1, 1, 1, 1, 1, 1, 1, 1, 1, 1, 1, 1, 1, 1, 1, 1, 1, 1, 1, 1, 1, 1, 1, 1, 1, 1, 1, 1, 1, 1]
def O70 : List Nat := [1, 1, 1, 1, 1, 1, 1, 1, 1, 1, 1, 1, 1, 1, 1, 1, 1, 1, 1, 1, 1, 1, 1, 1, 1, 1, 1, 1, 1, 1, 1, 1, 1, 1, 1, 1, 1, 1, 1, 1, 1, 1, 1, 1, 1, 1, 1, 1, 1, 1, 1, 1, 1, 1, 1, 1, 1, 1, 1, 1, 1, 1, 1, 1, 1, 1, 1, 1, 1, 1]
def f3 : AFunc := ⟨[0, 2, 3, 4, 5, 6, 7, 8, 9, 10, 11, 12, 13, 14, 15, 16, 17, 18, 19, 20, 21, 22, 23, 24, 25, 26, 27, 28, 29, 32, 140],
 .seq (.reg [
 ⟨.mov (.c (.bool false)), .fr 1, none⟩]) <|
 .seq (.seq (.reg [
 ⟨.mov (.fr 0), .tm, none⟩,
 ⟨.len false (.tm 0), .tm, none⟩,
 ⟨.bin .gtr (.tm 0) (.c (.int .i64 3000)), .fr 29, none⟩]) <|
 .cond (.fr 29)
 (.seq (.reg [
 ⟨.callf 11 [], .tm, none⟩,
 ⟨.mov (.tm 0), .fr 1, none⟩]) <|
 .ret)
 (.skip)) <|
 .seq (.reg [
 ⟨.mov (.fr 0), .tm, none⟩,
 ⟨.b2s (.tm 0), .tm, none⟩,
 ⟨.s2b 5 (.tm 0), .tm, none⟩,
 ⟨.mov (.tm 0), .fr 2, none⟩]) <|
 .seq (.reg [
 ⟨.mov (.fr 2), .tm, none⟩,
 ⟨.callf 12 [(.tm 0)], .tm, none⟩,
 ⟨.mov (.tm 0), .tm, none⟩,
 ⟨.extract (.tm 0) 0, .tm, none⟩,
 ⟨.extract (.tm 1) 1, .tm, none⟩,
 ⟨.new 30 6 [(.int .u8 0), (.int .i64 0), (.int .u64 0), (.int .u32 0), (.int .u32 0), (.slice none 0 0)], .fr 3, none⟩,
 ⟨.storen 6 (.fr 3) (.tm 1), .no, none⟩,
 ⟨.mov (.tm 0), .fr 4, none⟩]) <|
 .seq (.reg [
 ⟨.mov (.fr 0), .tm, none⟩,
 ⟨.callf 13 [(.tm 0)], .tm, none⟩,
 ⟨.mov (.tm 0), .tm, none⟩,
 ⟨.extract (.tm 0) 0, .tm, none⟩,
 ⟨.extract (.tm 1) 1, .tm, none⟩,
 ⟨.new 34 6 [(.int .u8 0), (.int .i64 0), (.int .u64 0), (.int .u32 0), (.int .u32 0), (.slice none 0 0)], .fr 5, none⟩,
 ⟨.storen 6 (.fr 5) (.tm 1), .no, none⟩,
 ⟨.mov (.tm 0), .fr 6, none⟩]) <|
 .seq (.dreg [
 (⟨.loadn 6 (.fr 3), .tm, none⟩, []),
 (⟨.callf 15 [(.tm 0)], .tm, none⟩, []),
 (⟨.loadn 6 (.fr 5), .tm, none⟩, [1]),
 (⟨.callf 14 [(.tm 1), (.tm 0)], .tm, none⟩, []),
 (⟨.mov (.tm 0), .tm, none⟩, []),
 (⟨.mov (.fr 4), .tm, some ((.tm 0), true)⟩, []),
 (⟨.bin .eql (.tm 0) (.c (.int .i64 0)), .tm, some ((.tm 1), true)⟩, []),
 (⟨.mov (.fr 6), .tm, some ((.tm 2), true)⟩, []),
 (⟨.eqv 0 false (.tm 1) (.tm 0), .tm, some ((.tm 3), true)⟩, []),
 (⟨.pick (.tm 4) (.tm 0) (.c (.bool false)), .tm, none⟩, []),
 (⟨.mov (.tm 0), .fr 7, none⟩, [])]) <|
 .seq (.reg [
 ⟨.mov (.fr 2), .tm, none⟩,
 ⟨.callf 16 [(.tm 0)], .tm, none⟩,
 ⟨.mov (.tm 0), .tm, none⟩,
 ⟨.extract (.tm 0) 0, .tm, none⟩,
 ⟨.extract (.tm 1) 1, .tm, none⟩,
 ⟨.new 42 5 [(.int .u8 0), (.int .i64 0), (.int .i64 0), (.int .u64 0), (.int .u32 0)], .fr 8, none⟩,
 ⟨.storen 5 (.fr 8) (.tm 1), .no, none⟩,
 ⟨.mov (.tm 0), .fr 9, none⟩]) <|
 .seq (.reg [
 ⟨.mov (.fr 0), .tm, none⟩,
 ⟨.callf 17 [(.tm 0)], .tm, none⟩,
 ⟨.mov (.tm 0), .tm, none⟩,
 ⟨.extract (.tm 0) 0, .tm, none⟩,
 ⟨.extract (.tm 1) 1, .tm, none⟩,
 ⟨.new 45 5 [(.int .u8 0), (.int .i64 0), (.int .i64 0), (.int .u64 0), (.int .u32 0)], .fr 10, none⟩,
 ⟨.storen 5 (.fr 10) (.tm 1), .no, none⟩,
 ⟨.mov (.tm 0), .fr 11, none⟩]) <|
 .seq (.dreg [
 (⟨.loadn 5 (.fr 8), .tm, none⟩, []),
 (⟨.callf 18 [(.tm 0)], .tm, none⟩, []),
 (⟨.loadn 5 (.fr 10), .tm, none⟩, [1]),
 (⟨.eqs [1, 1, 1, 1, 1] false (.tm 1) (.tm 0), .tm, none⟩, []),
 (⟨.mov (.tm 0), .tm, none⟩, []),
 (⟨.mov (.fr 9), .tm, some ((.tm 0), true)⟩, []),
 (⟨.bin .eql (.tm 0) (.c (.int .i64 0)), .tm, some ((.tm 1), true)⟩, []),
 (⟨.mov (.fr 11), .tm, some ((.tm 2), true)⟩, []),
 (⟨.eqv 0 false (.tm 1) (.tm 0), .tm, some ((.tm 3), true)⟩, []),
 (⟨.pick (.tm 4) (.tm 0) (.c (.bool false)), .tm, none⟩, []),
 (⟨.mov (.tm 0), .fr 12, none⟩, [])]) <|
 .seq (.reg [
 ⟨.mov (.fr 2), .tm, none⟩,
 ⟨.callf 19 [(.tm 0)], .tm, none⟩,
 ⟨.mov (.tm 0), .tm, none⟩,
 ⟨.extract (.tm 0) 0, .tm, none⟩,
 ⟨.extract (.tm 1) 1, .tm, none⟩,
 ⟨.new 51 68 Z68, .fr 13, none⟩,
 ⟨.storen 68 (.fr 13) (.tm 1), .no, none⟩,
 ⟨.mov (.tm 0), .fr 14, none⟩]) <|
 .seq (.reg [
 ⟨.mov (.fr 0), .tm, none⟩,
 ⟨.callf 20 [(.tm 0)], .tm, none⟩,
 ⟨.mov (.tm 0), .tm, none⟩,
 ⟨.extract (.tm 0) 0, .tm, none⟩,
 ⟨.extract (.tm 1) 1, .tm, none⟩,
 ⟨.new 51 68 Z68, .fr 15, none⟩,
 ⟨.storen 68 (.fr 15) (.tm 1), .no, none⟩,
 ⟨.mov (.tm 0), .fr 16, none⟩]) <|
 .seq (.reg [
 ⟨.loadn 68 (.fr 13), .tm, none⟩,
 ⟨.loadn 68 (.fr 15), .tm, none⟩,
 ⟨.eqs O68 false (.tm 1) (.tm 0), .tm, none⟩,
 ⟨.mov (.tm 0), .tm, none⟩,
 ⟨.mov (.fr 14), .tm, some ((.tm 0), true)⟩,
 ⟨.bin .eql (.tm 0) (.c (.int .i64 0)), .tm, some ((.tm 1), true)⟩,
 ⟨.mov (.fr 16), .tm, some ((.tm 2), true)⟩,
 ⟨.eqv 0 false (.tm 1) (.tm 0), .tm, some ((.tm 3), true)⟩,
 ⟨.pick (.tm 4) (.tm 0) (.c (.bool false)), .tm, none⟩,
 ⟨.mov (.tm 0), .fr 17, none⟩]) <|
 .seq (.reg [
 ⟨.mov (.fr 2), .tm, none⟩,
 ⟨.callf 21 [(.tm 0)], .tm, none⟩,
 ⟨.mov (.tm 0), .tm, none⟩,
 ⟨.extract (.tm 0) 0, .tm, none⟩,
 ⟨.extract (.tm 1) 1, .tm, none⟩,
 ⟨.new 57 70 Z70, .fr 18, none⟩,
 ⟨.storen 70 (.fr 18) (.tm 1), .no, none⟩,
 ⟨.mov (.tm 0), .fr 19, none⟩]) <|
 .seq (.reg [
 ⟨.mov (.fr 0), .tm, none⟩,
 ⟨.callf 22 [(.tm 0)], .tm, none⟩,
 ⟨.mov (.tm 0), .tm, none⟩,
 ⟨.extract (.tm 0) 0, .tm, none⟩,
 ⟨.extract (.tm 1) 1, .tm, none⟩,
 ⟨.new 60 70 Z70, .fr 20, none⟩,
 ⟨.storen 70 (.fr 20) (.tm 1), .no, none⟩,
 ⟨.mov (.tm 0), .fr 21, none⟩]) <|
 .seq (.dreg [
 (⟨.loadn 70 (.fr 18), .tm, none⟩, []),
 (⟨.callf 23 [(.tm 0)], .tm, none⟩, []),
 (⟨.loadn 70 (.fr 20), .tm, none⟩, [1]),
 (⟨.eqs O70 false (.tm 1) (.tm 0), .tm, none⟩, []),
 (⟨.mov (.tm 0), .tm, none⟩, []),
 (⟨.mov (.fr 19), .tm, some ((.tm 0), true)⟩, []),
 (⟨.bin .eql (.tm 0) (.c (.int .i64 0)), .tm, some ((.tm 1), true)⟩, []),
 (⟨.mov (.fr 21), .tm, some ((.tm 2), true)⟩, []),
 (⟨.eqv 0 false (.tm 1) (.tm 0), .tm, some ((.tm 3), true)⟩, []),
 (⟨.pick (.tm 4) (.tm 0) (.c (.bool false)), .tm, none⟩, []),
 (⟨.mov (.tm 0), .fr 22, none⟩, [])]) <|
 .seq (.reg [
 ⟨.mov (.fr 2), .tm, none⟩,
 ⟨.callf 24 [(.tm 0)], .tm, none⟩,
 ⟨.mov (.tm 0), .tm, none⟩,
 ⟨.extract (.tm 0) 0, .tm, none⟩,
 ⟨.extract (.tm 1) 1, .tm, none⟩,
 ⟨.new 65 5 [(.int .u8 0), (.int .u8 0), (.int .i64 0), (.int .i64 0), (.slice none 0 0)], .fr 23, none⟩,
 ⟨.storen 5 (.fr 23) (.tm 1), .no, none⟩,
 ⟨.mov (.tm 0), .fr 24, none⟩]) <|
 .seq (.reg [
 ⟨.mov (.fr 0), .tm, none⟩,
 ⟨.callf 25 [(.tm 0)], .tm, none⟩,
 ⟨.mov (.tm 0), .tm, none⟩,
 ⟨.extract (.tm 0) 0, .tm, none⟩,
 ⟨.extract (.tm 1) 1, .tm, none⟩,
 ⟨.new 69 5 [(.int .u8 0), (.int .u8 0), (.int .i64 0), (.int .i64 0), (.string ByteArray.empty)], .fr 25, none⟩,
 ⟨.storen 5 (.fr 25) (.tm 1), .no, none⟩,
 ⟨.mov (.tm 0), .fr 26, none⟩]) <|
 .seq (.dreg [
 (⟨.loadn 5 (.fr 23), .tm, none⟩, []),
 (⟨.callf 26 [(.tm 0)], .tm, none⟩, []),
 (⟨.loadn 5 (.fr 25), .tm, none⟩, [1]),
 (⟨.eqs [1, 1, 1, 1, 2] false (.tm 1) (.tm 0), .tm, none⟩, []),
 (⟨.mov (.tm 0), .tm, none⟩, []),
 (⟨.mov (.fr 24), .tm, some ((.tm 0), true)⟩, []),
 (⟨.bin .eql (.tm 0) (.c (.int .i64 0)), .tm, some ((.tm 1), true)⟩, []),
 (⟨.mov (.fr 26), .tm, some ((.tm 2), true)⟩, []),
 (⟨.eqv 0 false (.tm 1) (.tm 0), .tm, some ((.tm 3), true)⟩, []),
 (⟨.pick (.tm 4) (.tm 0) (.c (.bool false)), .tm, none⟩, []),
 (⟨.mov (.tm 0), .fr 27, none⟩, [])]) <|
 .seq (.seq (.reg [
 ⟨.mov (.c (.int .i64 0)), .fr 28, none⟩]) <|
 .block 0 (.loop (.seq (.seq (.reg [
 ⟨.mov (.fr 28), .tm, none⟩,
 ⟨.faddr 4 (.fr 23), .tm, none⟩,
 ⟨.load1 (.tm 0), .tm, none⟩,
 ⟨.len false (.tm 0), .tm, none⟩,
 ⟨.bin .lss (.tm 3) (.tm 0), .fr 30, none⟩]) <|
 .cond (.fr 30)
 (.skip)
 (.exit 0)) <|
 .seq (.block 1 (.dreg [
 (⟨.faddr 4 (.fr 23), .tm, none⟩, []),
 (⟨.load1 (.tm 0), .tm, none⟩, []),
 (⟨.mov (.fr 28), .tm, none⟩, []),
 (⟨.faddr 4 (.fr 23), .tm, none⟩, []),
 (⟨.load1 (.tm 0), .tm, none⟩, []),
 (⟨.mov (.fr 28), .tm, none⟩, []),
 (⟨.iaddr 1 (.tm 1) (.tm 0), .tm, none⟩, []),
 (⟨.load1 (.tm 0), .tm, none⟩, []),
 (⟨.bin .add (.tm 0) (.c (.int .u8 1)), .tm, none⟩, []),
 (⟨.iaddr 1 (.tm 7) (.tm 6), .tm, none⟩, []),
 (⟨.store1 (.tm 0) (.tm 1), .no, none⟩, [])])) <|
 .reg [
 ⟨.mov (.fr 28), .tm, none⟩,
 ⟨.bin .add (.tm 0) (.c (.int .i64 1)), .tm, none⟩,
 ⟨.mov (.tm 0), .fr 28, none⟩]))) <|
 .seq (.reg [
 ⟨.mov (.fr 7), .tm, none⟩,
 ⟨.mov (.tm 0), .tm, none⟩,
 ⟨.mov (.fr 12), .tm, some ((.tm 0), true)⟩,
 ⟨.pick (.tm 1) (.tm 0) (.c (.bool false)), .tm, none⟩,
 ⟨.mov (.tm 0), .tm, none⟩,
 ⟨.mov (.fr 17), .tm, some ((.tm 0), true)⟩,
 ⟨.pick (.tm 1) (.tm 0) (.c (.bool false)), .tm, none⟩,
 ⟨.mov (.tm 0), .tm, none⟩,
 ⟨.mov (.fr 22), .tm, some ((.tm 0), true)⟩,
 ⟨.pick (.tm 1) (.tm 0) (.c (.bool false)), .tm, none⟩,
 ⟨.mov (.tm 0), .tm, none⟩,
 ⟨.mov (.fr 27), .tm, some ((.tm 0), true)⟩,
 ⟨.pick (.tm 1) (.tm 0) (.c (.bool false)), .tm, none⟩,
 ⟨.mov (.tm 0), .tm, none⟩,
 ⟨.mov (.fr 4), .tm, some ((.tm 0), true)⟩,
 ⟨.mov (.fr 9), .tm, some ((.tm 1), true)⟩,
 ⟨.mov (.fr 14), .tm, some ((.tm 2), true)⟩,
 ⟨.mov (.fr 19), .tm, some ((.tm 3), true)⟩,
 ⟨.mov (.fr 24), .tm, some ((.tm 4), true)⟩,
 ⟨.callf 27 [(.tm 4), (.tm 3), (.tm 2), (.tm 1), (.tm 0)], .tm, some ((.tm 5), true)⟩,
 ⟨.pick (.tm 6) (.tm 0) (.c (.bool false)), .tm, none⟩,
 ⟨.mov (.tm 0), .tm, none⟩,
 ⟨.mov (.fr 2), .tm, some ((.tm 0), true)⟩,
 ⟨.callf 28 [(.tm 0)], .tm, some ((.tm 1), true)⟩,
 ⟨.mov (.fr 0), .tm, some ((.tm 2), true)⟩,
 ⟨.callf 29 [(.tm 0)], .tm, some ((.tm 3), true)⟩,
 ⟨.bin .eql (.tm 2) (.tm 0), .tm, some ((.tm 4), true)⟩,
 ⟨.pick (.tm 5) (.tm 0) (.c (.bool false)), .tm, none⟩,
 ⟨.mov (.tm 0), .tm, none⟩,
 ⟨.mov (.fr 2), .tm, some ((.tm 0), true)⟩,
 ⟨.b2s (.tm 0), .tm, some ((.tm 1), true)⟩,
 ⟨.mov (.fr 0), .tm, some ((.tm 2), true)⟩,
 ⟨.b2s (.tm 0), .tm, some ((.tm 3), true)⟩,
 ⟨.bin .eql (.tm 2) (.tm 0), .tm, some ((.tm 4), true)⟩,
 ⟨.pick (.tm 5) (.tm 0) (.c (.bool false)), .tm, none⟩,
 ⟨.mov (.tm 0), .tm, none⟩,
 ⟨.callf 11 [], .tm, some ((.tm 0), true)⟩,
 ⟨.pick (.tm 1) (.tm 0) (.c (.bool false)), .tm, none⟩,
 ⟨.mov (.tm 0), .fr 1, none⟩]) <|
 .ret, [.t 1]⟩
def f5 : AFunc := ⟨[0, 1, 2, 3, 4, 5, 6, 7, 8, 9, 10, 11, 12, 13, 14, 15, 16, 20, 23, 55, 69, 73],
 .seq (.reg [
 ⟨.box 30 6 (.fr 0), .fr 5, none⟩,
 ⟨.box 42 5 (.fr 1), .fr 6, none⟩,
 ⟨.box 51 68 (.fr 2), .fr 7, none⟩,
 ⟨.box 57 70 (.fr 3), .fr 8, none⟩,
 ⟨.box 65 5 (.fr 4), .fr 9, none⟩,
 ⟨.mov (.c (.bool false)), .fr 10, none⟩]) <|
 .seq (.seq (.reg [
 ⟨.loadn 6 (.fr 5), .tm, none⟩,
 ⟨.loadn 5 (.fr 9), .tm, none⟩,
 ⟨.callf 43 [(.tm 1), (.tm 0)], .tm, none⟩,
 ⟨.un .not (.tm 0), .fr 17, none⟩]) <|
 .cond (.fr 17)
 (.seq (.reg [
 ⟨.callf 11 [], .tm, none⟩,
 ⟨.mov (.tm 0), .fr 10, none⟩]) <|
 .ret)
 (.skip)) <|
 .seq (.seq (.reg [
 ⟨.mov (.c (.int .i64 0)), .fr 11, none⟩]) <|
 .block 0 (.loop (.seq (.seq (.reg [
 ⟨.mov (.fr 11), .tm, none⟩,
 ⟨.bin .lss (.tm 0) (.c (.int .i64 2)), .fr 18, none⟩]) <|
 .cond (.fr 18)
 (.skip)
 (.exit 0)) <|
 .seq (.block 1 (.seq (.dreg [
 (⟨.loadn 6 (.fr 5), .tm, none⟩, []),
 (⟨.callf 44 [(.tm 0)], .tm, none⟩, []),
 (⟨.loadn 5 (.fr 6), .tm, none⟩, [1]),
 (⟨.callf 45 [(.tm 0)], .tm, none⟩, []),
 (⟨.loadn 68 (.fr 7), .tm, none⟩, [1, 3]),
 (⟨.callf 46 [(.tm 0)], .tm, none⟩, []),
 (⟨.loadn 70 (.fr 8), .tm, none⟩, [1, 3, 5]),
 (⟨.callf 47 [(.tm 0)], .tm, none⟩, []),
 (⟨.loadn 5 (.fr 9), .tm, none⟩, [1, 3, 5, 7]),
 (⟨.callf 36 [(.tm 0)], .tm, none⟩, []),
 (⟨.bslice 22 1 5 [(.slice none 0 0), (.slice none 0 0), (.slice none 0 0), (.slice none 0 0), (.slice none 0 0)] [(0, 1, (.tm 8)), (1, 1, (.tm 6)), (2, 1, (.tm 4)), (3, 1, (.tm 2)), (4, 1, (.tm 0))], .tm, none⟩, []),
 (⟨.mov (.tm 0), .fr 12, none⟩, [])]) <|
 .seq (.dreg [
 (⟨.loadn 6 (.fr 5), .tm, none⟩, []),
 (⟨.callf 15 [(.tm 0)], .tm, none⟩, []),
 (⟨.callf 48 [(.tm 0)], .tm, none⟩, []),
 (⟨.loadn 5 (.fr 6), .tm, none⟩, [1, 2]),
 (⟨.callf 18 [(.tm 0)], .tm, none⟩, []),
 (⟨.callf 49 [(.tm 0)], .tm, none⟩, []),
 (⟨.loadn 68 (.fr 7), .tm, none⟩, [1, 2, 4, 5]),
 (⟨.callf 50 [(.tm 0)], .tm, none⟩, []),
 (⟨.loadn 70 (.fr 8), .tm, none⟩, [1, 2, 4, 5, 7]),
 (⟨.callf 23 [(.tm 0)], .tm, none⟩, []),
 (⟨.callf 51 [(.tm 0)], .tm, none⟩, []),
 (⟨.loadn 5 (.fr 9), .tm, none⟩, [1, 2, 4, 5, 7, 9, 10]),
 (⟨.callf 26 [(.tm 0)], .tm, none⟩, []),
 (⟨.callf 52 [(.tm 0)], .tm, none⟩, []),
 (⟨.bslice 22 1 5 [(.slice none 0 0), (.slice none 0 0), (.slice none 0 0), (.slice none 0 0), (.slice none 0 0)] [(0, 1, (.tm 11)), (1, 1, (.tm 8)), (2, 1, (.tm 6)), (3, 1, (.tm 3)), (4, 1, (.tm 0))], .tm, none⟩, []),
 (⟨.mov (.tm 0), .fr 13, none⟩, [])]) <|
 .seq (.reg [
 ⟨.mov (.c (.int .i64 0)), .fr 14, none⟩]) <|
 .block 2 (.loop (.seq (.seq (.reg [
 ⟨.mov (.fr 14), .tm, none⟩,
 ⟨.mov (.fr 12), .tm, none⟩,
 ⟨.len false (.tm 0), .tm, none⟩,
 ⟨.bin .lss (.tm 2) (.tm 0), .fr 19, none⟩]) <|
 .cond (.fr 19)
 (.skip)
 (.exit 2)) <|
 .seq (.block 3 (.seq (.reg [
 ⟨.mov (.fr 12), .tm, none⟩,
 ⟨.mov (.fr 14), .tm, none⟩,
 ⟨.iaddr 1 (.tm 1) (.tm 0), .tm, none⟩,
 ⟨.load1 (.tm 0), .tm, none⟩,
 ⟨.mov (.tm 0), .fr 15, none⟩]) <|
 .seq (.seq (.dreg [
 (⟨.mov (.fr 15), .tm, none⟩, []),
 (⟨.b2s (.tm 0), .tm, none⟩, []),
 (⟨.mov (.fr 13), .tm, none⟩, []),
 (⟨.mov (.fr 14), .tm, none⟩, []),
 (⟨.iaddr 1 (.tm 1) (.tm 0), .tm, none⟩, []),
 (⟨.load1 (.tm 0), .tm, none⟩, []),
 (⟨.b2s (.tm 0), .tm, none⟩, []),
 (⟨.bin .neq (.tm 5) (.tm 0), .fr 20, none⟩, [])]) <|
 .cond (.fr 20)
 (.seq (.reg [
 ⟨.mov (.c (.bool false)), .fr 10, none⟩]) <|
 .ret)
 (.skip)) <|
 .seq (.reg [
 ⟨.mov (.c (.int .i64 0)), .fr 16, none⟩]) <|
 .block 4 (.loop (.seq (.seq (.reg [
 ⟨.mov (.fr 16), .tm, none⟩,
 ⟨.mov (.fr 15), .tm, none⟩,
 ⟨.len false (.tm 0), .tm, none⟩,
 ⟨.bin .lss (.tm 2) (.tm 0), .fr 21, none⟩]) <|
 .cond (.fr 21)
 (.skip)
 (.exit 4)) <|
 .seq (.block 5 (.reg [
 ⟨.mov (.fr 15), .tm, none⟩,
 ⟨.mov (.fr 16), .tm, none⟩,
 ⟨.mov (.fr 15), .tm, none⟩,
 ⟨.mov (.fr 16), .tm, none⟩,
 ⟨.iaddr 1 (.tm 1) (.tm 0), .tm, none⟩,
 ⟨.load1 (.tm 0), .tm, none⟩,
 ⟨.bin .add (.tm 0) (.c (.int .u8 1)), .tm, none⟩,
 ⟨.iaddr 1 (.tm 6) (.tm 5), .tm, none⟩,
 ⟨.store1 (.tm 0) (.tm 1), .no, none⟩])) <|
 .reg [
 ⟨.mov (.fr 16), .tm, none⟩,
 ⟨.bin .add (.tm 0) (.c (.int .i64 1)), .tm, none⟩,
 ⟨.mov (.tm 0), .fr 16, none⟩])))) <|
 .reg [
 ⟨.mov (.fr 14), .tm, none⟩,
 ⟨.bin .add (.tm 0) (.c (.int .i64 1)), .tm, none⟩,
 ⟨.mov (.tm 0), .fr 14, none⟩])))) <|
 .reg [
 ⟨.mov (.fr 11), .tm, none⟩,
 ⟨.bin .add (.tm 0) (.c (.int .i64 1)), .tm, none⟩,
 ⟨.mov (.tm 0), .fr 11, none⟩]))) <|
 .seq (.reg [
 ⟨.callf 11 [], .tm, none⟩,
 ⟨.mov (.tm 0), .fr 10, none⟩]) <|
 .ret, [.t 10]⟩
end Go.AM.F

set_option linter.unusedSimpArgs false
set_option linter.unusedVariables false
namespace Go.AM.Fd
open Nat (reduceAdd reduceEqDiff reduceLT reduceLeDiff reduceMul reduceSub)
open Go.Proofs Go.AM.F
theorem GotV.nv {ρ : Nat → Option Nat} {c : List Value} (h : c.all plain1 = true) (e : Int) : NV ρ (GotV c e) (GotV c e) :=
  NV.tuple_of (.cons (NV.agg_of (NL.plain h)) (.cons (.int _ e) .nil))
def er (ok : Bool) : Int := if ok then 0 else 130
theorem e24 {H : AHeap} {v : Value} {b : List UInt8} (hb : BQ H v b) (hl : b.length ≤ 1000000) : ∃ w H', ARun Go.Proofs.Try.prog 0 24 [v] H w H' ∧ ∃ vb, w = GotV (cLi vb ((geLi b).getD Li0)) (er (geLi b).isSome) ∧ Keeps H H' ∧ Fresh H.n vb ∧ AP H' 5 1 vb ((geLi b).getD Li0).B.length (cellsOf ((geLi b).getD Li0).B) := by
  obtain ⟨w, H', a, k, vc, f, e⟩ := t24 hb (by omega)
  refine ⟨w, H', a, ?_⟩
  cases hg : geLi b with
  | none =>
    rw [hg] at e
    exact ⟨.slice none 0 0, e, k, fun b hb => (by cases hb), .inl ⟨rfl, rfl, rfl⟩⟩
  | some x =>
    rw [hg] at e
    exact ⟨vc, e.1, k, f, e.2⟩
theorem d25 {H : AHeap} {v : Value} {b : List UInt8} (hb : BQ H v b) (hl : b.length ≤ 1000000) : ∃ w H', ARun Go.Proofs.Try.prog 0 25 [v] H w H' ∧ w = GotB (cLs ((geLi b).getD Li0)) (geLi b).isSome ∧ H' = H := by
  obtain ⟨w, H', a, e, k⟩ := t25 hb (by omega)
  exact ⟨w, H', a, by rw [e]; cases geLi b <;> rfl, k⟩
end Go.AM.Fd

set_option linter.unusedSimpArgs false
set_option linter.unusedVariables false
namespace Go.AM.Fd
open Nat (reduceAdd reduceEqDiff reduceLT reduceLeDiff reduceMul reduceSub)
open Go.Proofs Go.AM.F
theorem bq_new (H : AHeap) (room : Bool) (l : List UInt8) (n : Nat) (hn : n = l.length) : BQ (H.alloc (.cells true room 1 (cellsOf l) 5)) (slc H.n 0 n n) l := by
  subst hn
  exact (AP.bq (.inr ⟨H.n, room, rfl, by rw [cellsOf_length, Nat.mul_one], AHeap.get_alloc_new H _⟩) : BQ _ _ l)
end Go.AM.Fd

set_option linter.unusedSimpArgs false
set_option linter.unusedVariables false
namespace Go.AM.Fd
open Nat (reduceAdd reduceEqDiff reduceLT reduceLeDiff reduceMul reduceSub)
open Go.Proofs Go.AM.F
theorem PutR.bs {H H' : AHeap} {v : Value} {l : List UInt8} (h : PutR H H' v l) : BS H' v l := h.1.bs
theorem PutR.bq {H H' : AHeap} {v : Value} {l : List UInt8} (h : PutR H H' v l) : BQ H' v l := h.1.bq
end Go.AM.Fd

set_option linter.unusedSimpArgs false
set_option linter.unusedVariables false
namespace Go.AM.Fd
open Nat (reduceAdd reduceEqDiff reduceLT reduceLeDiff reduceMul reduceSub)
open Go.Proofs Go.AM.F
theorem fLi_len {x : Li} : (fLi x).length ≤ 25 + x.B.length := by
  unfold fLi
  split
  · rw [chk_len, List.length_cons, enLi_len]; omega
  · simp
section
variable {A0 A1 A2 A3' A4 v : Value} {n : Nat} {Hb K : AHeap} {Q : AQ} {fr : List Value}
--flat{
--}flat
end
end Go.AM.Fd

set_option linter.unusedSimpArgs false
set_option linter.unusedVariables false
namespace Go.AM.Fd
open Go.Proofs Go.AM.F
theorem agg_of {v : Value} (h : ∃ cs, v = .agg cs) : ∃ l : List Value, v = .agg l.toArray := by
  obtain ⟨cs, rfl⟩ := h
  exact ⟨cs.toList, by simp⟩
theorem fitLi {H : AHeap} {l : List Value} (hf : fitsL Go.Proofs.Try.prog H.get [.int .u8, .int .u8, .int .i64, .int .i64, .sl 22] l) : ∃ x vb, l = cLi vb x ∧ rgLi x ∧ BQ H vb x.B := by
  obtain ⟨a, r0, rfl, h0, g0⟩ := hf.inv
  obtain ⟨b, r1, rfl, h1, g1⟩ := g0.inv
  obtain ⟨c, r2, rfl, h2, g2⟩ := g1.inv
  obtain ⟨d, r3, rfl, h3, g3⟩ := g2.inv
  obtain ⟨e, r4, rfl, h4, g4⟩ := g3.inv
  obtain rfl := g4.end_
  obtain ⟨n0, rfl, w0⟩ := fits_u8 h0
  obtain ⟨n1, rfl, w1⟩ := fits_u8 h1
  obtain ⟨n2, rfl, _⟩ := fits_i64 h2
  obtain ⟨n3, rfl, _⟩ := fits_i64 h3
  have h4 : AR Go.Proofs.Try.prog H.get 22 [e] := h4
  obtain ⟨B, hB⟩ := h4.bq Go.Proofs.Try.underlying22 Go.Proofs.Try.underlying5 (by kernel_rfl)
  exact ⟨⟨n0, n1, n2, n3, B⟩, e, rfl, ⟨w0, w1⟩, hB⟩
end Go.AM.Fd

set_option linter.unusedSimpArgs false
set_option linter.unusedVariables false
namespace Go.AM.Fd
open Nat (reduceAdd reduceEqDiff reduceLT reduceLeDiff reduceMul reduceSub)
open Go.Proofs Go.AM.F
theorem PutR.lt {H H' : AHeap} {v : Value} {l : List UInt8} (h : PutR H H' v l) {b : Nat} (hb : blk v = some b) : H.n ≤ b ∧ b < H'.n := ⟨h.2.2 b hb, h.1.lt hb⟩
theorem PutR.isS {H H' : AHeap} {v : Value} {l : List UInt8} (h : PutR H H' v l) : isS v = true := by obtain ⟨a, rfl⟩ := h.1.shape; rfl
end Go.AM.Fd

set_option linter.unusedSimpArgs false
set_option linter.unusedVariables false
namespace Go.AM.Hk
open Go.Proofs Go.AM.F Go.AM.Fd
noncomputable def eiK (n : Nat) : Nat → (Nat → Bool) → Bool := Nat.rec (motive := fun _ => Nat → (Nat → Bool) → Bool) (fun r K => K r) (fun _ ih r K => forceN (ah r) fun r' => ih r' K) n
theorem eiK_eq : ∀ (n r : Nat) (K : Nat → Bool), eiK n r K = K (ei n r)
  | 0, r, K => rfl
  | n + 1, r, K => by
    show forceN (ah r) (fun r' => eiK n r' K) = _
    rw [forceN_eq, eiK_eq n]; rfl
noncomputable def crcK (l : List UInt8) : Nat → (Nat → Bool) → Bool := List.rec (motive := fun _ => Nat → (Nat → Bool) → Bool) (fun r K => K r) (fun c _ ih r K => forceN (Nat.xor r c.toNat) fun r1 => eiK 8 r1 fun r2 => ih r2 K) l
theorem crcK_eq : ∀ (l : List UInt8) (r : Nat) (K : Nat → Bool), crcK l r K = K (l.foldl crcS r)
  | [], r, K => rfl
  | c :: l, r, K => by
    show forceN (Nat.xor r c.toNat) (fun r1 => eiK 8 r1 fun r2 => crcK l r2 K) = _
    rw [forceN_eq, eiK_eq, crcK_eq l]; rfl
noncomputable def sumH : HF := fun xs n t K => match xs with
  | [v] => bqK v t fun l => asT (Nat.ble l.length 1000000) (crcK l 4294967295 fun r => forceN (Nat.xor 4294967295 r) fun r => K (.int .u32 (.ofNat r)) n t)
  | _ => false
theorem sumH_true {xs : List Value} {n : Nat} {t : HT} {K : CK} (h : sumH xs n t K = true) {H : AHeap} (r : Rp n t H) : ∃ v l, xs = [v] ∧ BQ H v l ∧ l.length ≤ 1000000 ∧ K (.int .u32 (crc l : Nat)) n t = true := by
  unfold sumH at h
  split at h
  · rename_i v
    obtain ⟨l, h1, h2⟩ := bqK_true r h
    obtain ⟨h3, h4⟩ := asT_true h2
    rw [crcK_eq, forceN_eq] at h4
    exact ⟨v, l, rfl, h1, Nat.le_of_ble_eq_true h3, h4⟩
  · cases h
theorem sum97 : HFok Go.Proofs.Try.prog 0 97 sumH := HFok.of fun xs n t K h H r => by
  obtain ⟨v, l, rfl, h1, h2, h3⟩ := sumH_true h r
  obtain ⟨w, H', a, rfl, rfl⟩ := t97 h1.bs (by omega)
  exact ⟨_, a, h3⟩
end Go.AM.Hk

set_option maxRecDepth 100000
namespace Go.AM.F
def f4 : AFunc := ⟨[0, 1, 2, 3, 8, 9, 10, 11, 12, 13, 14, 15, 16, 17, 18, 19, 20, 21, 22, 23, 24, 26, 40, 51, 55, 68, 72, 105, 109, 123, 124, 153, 187],
 .seq (.reg [
 ⟨.mov (.c (.bool false)), .fr 4, none⟩]) <|
 .seq (.seq (.reg [
 ⟨.mov (.fr 3), .tm, none⟩,
 ⟨.callf 30 [(.tm 0)], .fr 21, none⟩]) <|
 .cond (.fr 21)
 (.seq (.reg [
 ⟨.callf 31 [], .tm, none⟩,
 ⟨.mov (.tm 0), .fr 4, none⟩]) <|
 .ret)
 (.skip)) <|
 .seq (.reg [
 ⟨.mov (.fr 0), .tm, none⟩,
 ⟨.mov (.fr 1), .tm, none⟩,
 ⟨.mov (.fr 2), .tm, none⟩,
 ⟨.callf 32 [(.tm 2), (.tm 1), (.tm 0)], .tm, none⟩,
 ⟨.mov (.tm 0), .tm, none⟩,
 ⟨.extract (.tm 0) 0, .tm, none⟩,
 ⟨.extract (.tm 1) 1, .tm, none⟩,
 ⟨.mov (.tm 1), .fr 5, none⟩,
 ⟨.mov (.tm 0), .fr 6, none⟩]) <|
 .seq (.reg [
 ⟨.mov (.fr 0), .tm, none⟩,
 ⟨.mov (.fr 1), .tm, none⟩,
 ⟨.mov (.fr 2), .tm, none⟩,
 ⟨.callf 33 [(.tm 2), (.tm 1), (.tm 0)], .tm, none⟩,
 ⟨.mov (.tm 0), .fr 7, none⟩]) <|
 .seq (.seq (.reg [
 ⟨.mov (.fr 7), .tm, none⟩,
 ⟨.eqv 1 false (.tm 0) (.c (.pointer none)), .fr 22, none⟩]) <|
 .cond (.fr 22)
 (.seq (.reg [
 ⟨.mov (.fr 5), .tm, none⟩,
 ⟨.eqv 1 false (.tm 0) (.c (.pointer none)), .tm, none⟩,
 ⟨.mov (.tm 0), .tm, none⟩,
 ⟨.mov (.fr 6), .tm, some ((.tm 0), true)⟩,
 ⟨.bin .eql (.tm 0) (.c (.int .i64 2)), .tm, some ((.tm 1), true)⟩,
 ⟨.pick (.tm 2) (.tm 0) (.c (.bool false)), .tm, none⟩,
 ⟨.mov (.tm 0), .tm, none⟩,
 ⟨.callf 31 [], .tm, some ((.tm 0), true)⟩,
 ⟨.pick (.tm 1) (.tm 0) (.c (.bool false)), .tm, none⟩,
 ⟨.mov (.tm 0), .fr 4, none⟩]) <|
 .ret)
 (.skip)) <|
 .seq (.seq (.reg [
 ⟨.mov (.fr 6), .tm, none⟩,
 ⟨.bin .neq (.tm 0) (.c (.int .i64 0)), .fr 23, none⟩]) <|
 .cond (.fr 23)
 (.seq (.reg [
 ⟨.mov (.c (.bool false)), .fr 4, none⟩]) <|
 .ret)
 (.skip)) <|
 .seq (.seq (.reg [
 ⟨.mov (.c (.int .i64 0)), .fr 8, none⟩]) <|
 .block 0 (.loop (.seq (.seq (.reg [
 ⟨.mov (.fr 8), .tm, none⟩,
 ⟨.mov (.fr 3), .tm, none⟩,
 ⟨.len false (.tm 0), .tm, none⟩,
 ⟨.bin .lss (.tm 2) (.tm 0), .fr 24, none⟩]) <|
 .cond (.fr 24)
 (.skip)
 (.exit 0)) <|
 .seq (.block 1 (.seq (.reg [
 ⟨.mov (.fr 3), .tm, none⟩,
 ⟨.mov (.fr 8), .tm, none⟩,
 ⟨.iaddr 8 (.tm 1) (.tm 0), .tm, none⟩,
 ⟨.loadn 8 (.tm 0), .tm, none⟩,
 ⟨.new 84 8 [(.int .u8 0), (.slice none 0 0), (.int .u8 0), (.int .u8 0), (.int .i64 0), (.int .i64 0), (.slice none 0 0), (.int .i64 0)], .fr 9, none⟩,
 ⟨.storen 8 (.fr 9) (.tm 0), .no, none⟩]) <|
 .seq (.reg [
 ⟨.faddr 1 (.fr 9), .tm, none⟩,
 ⟨.load1 (.tm 0), .tm, none⟩,
 ⟨.b2s (.tm 0), .tm, none⟩,
 ⟨.s2b 5 (.tm 0), .tm, none⟩,
 ⟨.mov (.tm 0), .fr 10, none⟩]) <|
 .seq (.seq (.reg [
 ⟨.faddr 0 (.fr 9), .tm, none⟩,
 ⟨.load1 (.tm 0), .tm, none⟩,
 ⟨.bin .rem (.tm 0) (.c (.int .u8 8)), .fr 25, none⟩]) <|
 .block 2 (.seq (.seq (.reg [
 ⟨.bin .eql (.fr 25) (.c (.int .u8 0)), .tm, none⟩,
 ⟨.mov (.tm 0), .fr 30, none⟩]) <|
 .cond (.fr 30)
 (.skip)
 (.seq (.reg [
 ⟨.bin .eql (.fr 25) (.c (.int .u8 1)), .tm, none⟩,
 ⟨.mov (.tm 0), .fr 30, none⟩]) <|
 .cond (.fr 30)
 (.skip)
 (.seq (.reg [
 ⟨.bin .eql (.fr 25) (.c (.int .u8 5)), .tm, none⟩,
 ⟨.mov (.tm 0), .fr 30, none⟩]) <|
 .cond (.fr 30)
 (.skip)
 (.seq (.reg [
 ⟨.bin .eql (.fr 25) (.c (.int .u8 6)), .tm, none⟩,
 ⟨.mov (.tm 0), .fr 30, none⟩]) <|
 .cond (.fr 30)
 (.skip)
 (.reg [
 ⟨.bin .eql (.fr 25) (.c (.int .u8 7)), .tm, none⟩,
 ⟨.mov (.tm 0), .fr 30, none⟩]))))) <|
 .cond (.fr 30)
 (.seq (.reg [
 ⟨.mov (.fr 5), .tm, none⟩,
 ⟨.mov (.fr 10), .tm, none⟩,
 ⟨.callf 34 [(.tm 1), (.tm 0)], .tm, none⟩,
 ⟨.mov (.tm 0), .tm, none⟩,
 ⟨.extract (.tm 0) 0, .tm, none⟩,
 ⟨.extract (.tm 1) 1, .tm, none⟩,
 ⟨.mov (.tm 1), .fr 11, none⟩,
 ⟨.mov (.tm 0), .fr 12, none⟩]) <|
 .seq (.reg [
 ⟨.mov (.fr 7), .tm, none⟩,
 ⟨.faddr 1 (.fr 9), .tm, none⟩,
 ⟨.load1 (.tm 0), .tm, none⟩,
 ⟨.b2s (.tm 0), .tm, none⟩,
 ⟨.callf 35 [(.tm 3), (.tm 0)], .tm, none⟩,
 ⟨.mov (.tm 0), .tm, none⟩,
 ⟨.extract (.tm 0) 0, .tm, none⟩,
 ⟨.extract (.tm 1) 1, .tm, none⟩,
 ⟨.mov (.tm 1), .fr 13, none⟩,
 ⟨.mov (.tm 0), .fr 14, none⟩]) <|
 .seq (.reg [
 ⟨.mov (.fr 12), .tm, none⟩,
 ⟨.mov (.fr 14), .tm, none⟩,
 ⟨.bin .neq (.tm 1) (.tm 0), .tm, none⟩,
 ⟨.mov (.tm 0), .tm, none⟩,
 ⟨.mov (.fr 11), .tm, some ((.tm 0), false)⟩,
 ⟨.b2s (.tm 0), .tm, some ((.tm 1), false)⟩,
 ⟨.mov (.fr 13), .tm, some ((.tm 2), false)⟩,
 ⟨.b2s (.tm 0), .tm, some ((.tm 3), false)⟩,
 ⟨.bin .neq (.tm 2) (.tm 0), .tm, some ((.tm 4), false)⟩,
 ⟨.pick (.tm 5) (.c (.bool true)) (.tm 0), .fr 31, none⟩]) <|
 .cond (.fr 31)
 (.seq (.reg [
 ⟨.mov (.c (.bool false)), .fr 4, none⟩]) <|
 .ret)
 (.skip))
 (.seq (.seq (.reg [
 ⟨.faddr 0 (.fr 9), .tm, none⟩,
 ⟨.load1 (.tm 0), .tm, none⟩,
 ⟨.bin .rem (.tm 0) (.c (.int .u8 8)), .tm, none⟩,
 ⟨.bin .eql (.tm 0) (.c (.int .u8 2)), .fr 26, none⟩]) <|
 .cond (.fr 26)
 (.reg [
 ⟨.faddr 2 (.fr 9), .tm, none⟩,
 ⟨.loadn 5 (.tm 0), .tm, none⟩,
 ⟨.callf 36 [(.tm 0)], .tm, none⟩,
 ⟨.mov (.tm 0), .fr 10, none⟩])
 (.skip)) <|
 .seq (.reg [
 ⟨.mov (.fr 10), .tm, none⟩,
 ⟨.b2s (.tm 0), .tm, none⟩,
 ⟨.mov (.tm 0), .fr 15, none⟩]) <|
 .seq (.reg [
 ⟨.mov (.fr 5), .tm, none⟩,
 ⟨.mov (.fr 10), .tm, none⟩,
 ⟨.callf 37 [(.tm 1), (.tm 0)], .tm, none⟩,
 ⟨.mov (.tm 0), .tm, none⟩,
 ⟨.extract (.tm 0) 0, .tm, none⟩,
 ⟨.extract (.tm 1) 1, .tm, none⟩,
 ⟨.mov (.tm 1), .fr 16, none⟩,
 ⟨.mov (.tm 0), .fr 17, none⟩]) <|
 .seq (.reg [
 ⟨.mov (.fr 7), .tm, none⟩,
 ⟨.mov (.fr 15), .tm, none⟩,
 ⟨.s2b 5 (.tm 0), .tm, none⟩,
 ⟨.callf 38 [(.tm 2), (.tm 0)], .tm, none⟩,
 ⟨.mov (.tm 0), .tm, none⟩,
 ⟨.extract (.tm 0) 0, .tm, none⟩,
 ⟨.extract (.tm 1) 1, .tm, none⟩,
 ⟨.mov (.tm 1), .fr 18, none⟩,
 ⟨.mov (.tm 0), .fr 19, none⟩]) <|
 .seq (.seq (.reg [
 ⟨.mov (.fr 17), .tm, none⟩,
 ⟨.mov (.fr 19), .tm, none⟩,
 ⟨.bin .neq (.tm 1) (.tm 0), .tm, none⟩,
 ⟨.mov (.tm 0), .tm, none⟩,
 ⟨.mov (.fr 16), .tm, some ((.tm 0), false)⟩,
 ⟨.b2s (.tm 0), .tm, some ((.tm 1), false)⟩,
 ⟨.mov (.fr 18), .tm, some ((.tm 2), false)⟩,
 ⟨.bin .neq (.tm 1) (.tm 0), .tm, some ((.tm 3), false)⟩,
 ⟨.pick (.tm 4) (.c (.bool true)) (.tm 0), .tm, none⟩,
 ⟨.mov (.tm 0), .tm, none⟩,
 ⟨.mov (.fr 10), .tm, some ((.tm 0), false)⟩,
 ⟨.b2s (.tm 0), .tm, some ((.tm 1), false)⟩,
 ⟨.mov (.fr 15), .tm, some ((.tm 2), false)⟩,
 ⟨.bin .neq (.tm 1) (.tm 0), .tm, some ((.tm 3), false)⟩,
 ⟨.pick (.tm 4) (.c (.bool true)) (.tm 0), .fr 27, none⟩]) <|
 .cond (.fr 27)
 (.seq (.reg [
 ⟨.mov (.c (.bool false)), .fr 4, none⟩]) <|
 .ret)
 (.skip)) <|
 .seq (.seq (.reg [
 ⟨.mov (.c (.int .i64 0)), .fr 20, none⟩]) <|
 .block 3 (.loop (.seq (.seq (.reg [
 ⟨.mov (.fr 20), .tm, none⟩,
 ⟨.mov (.fr 16), .tm, none⟩,
 ⟨.len false (.tm 0), .tm, none⟩,
 ⟨.bin .lss (.tm 2) (.tm 0), .fr 28, none⟩]) <|
 .cond (.fr 28)
 (.skip)
 (.exit 3)) <|
 .seq (.block 4 (.reg [
 ⟨.mov (.fr 16), .tm, none⟩,
 ⟨.mov (.fr 20), .tm, none⟩,
 ⟨.mov (.fr 16), .tm, none⟩,
 ⟨.mov (.fr 20), .tm, none⟩,
 ⟨.iaddr 1 (.tm 1) (.tm 0), .tm, none⟩,
 ⟨.load1 (.tm 0), .tm, none⟩,
 ⟨.bin .add (.tm 0) (.c (.int .u8 1)), .tm, none⟩,
 ⟨.iaddr 1 (.tm 6) (.tm 5), .tm, none⟩,
 ⟨.store1 (.tm 0) (.tm 1), .no, none⟩])) <|
 .reg [
 ⟨.mov (.fr 20), .tm, none⟩,
 ⟨.bin .add (.tm 0) (.c (.int .i64 1)), .tm, none⟩,
 ⟨.mov (.tm 0), .fr 20, none⟩]))) <|
 .seq (.reg [
 ⟨.mov (.fr 10), .tm, none⟩,
 ⟨.b2s (.tm 0), .tm, none⟩,
 ⟨.mov (.fr 15), .tm, none⟩,
 ⟨.bin .neq (.tm 1) (.tm 0), .fr 29, none⟩]) <|
 .cond (.fr 29)
 (.seq (.reg [
 ⟨.mov (.c (.bool false)), .fr 4, none⟩]) <|
 .ret)
 (.skip)))) <|
 .seq (.dreg [
 (⟨.mov (.fr 5), .tm, none⟩, []),
 (⟨.callf 39 [(.tm 0)], .tm, none⟩, []),
 (⟨.mov (.fr 7), .tm, none⟩, []),
 (⟨.nilck (.tm 0), .tm, none⟩, []),
 (⟨.faddr 2 (.tm 0), .tm, none⟩, []),
 (⟨.load1 (.tm 0), .tm, none⟩, [1]),
 (⟨.bin .neq (.tm 4) (.tm 0), .tm, none⟩, []),
 (⟨.mov (.tm 0), .tm, none⟩, []),
 (⟨.mov (.fr 5), .tm, some ((.tm 0), false)⟩, []),
 (⟨.callf 40 [(.tm 0)], .tm, some ((.tm 1), false)⟩, []),
 (⟨.mov (.fr 7), .tm, some ((.tm 2), false)⟩, []),
 (⟨.nilck (.tm 0), .tm, some ((.tm 3), false)⟩, []),
 (⟨.faddr 3 (.tm 0), .tm, some ((.tm 4), false)⟩, []),
 (⟨.load1 (.tm 0), .tm, some ((.tm 5), false)⟩, [9]),
 (⟨.bin .neq (.tm 4) (.tm 0), .tm, some ((.tm 6), false)⟩, []),
 (⟨.pick (.tm 7) (.c (.bool true)) (.tm 0), .tm, none⟩, []),
 (⟨.mov (.tm 0), .tm, none⟩, []),
 (⟨.mov (.fr 5), .tm, some ((.tm 0), false)⟩, []),
 (⟨.callf 41 [(.tm 0)], .tm, some ((.tm 1), false)⟩, []),
 (⟨.mov (.fr 7), .tm, some ((.tm 2), false)⟩, []),
 (⟨.nilck (.tm 0), .tm, some ((.tm 3), false)⟩, []),
 (⟨.faddr 4 (.tm 0), .tm, some ((.tm 4), false)⟩, []),
 (⟨.load1 (.tm 0), .tm, some ((.tm 5), false)⟩, [18]),
 (⟨.bin .neq (.tm 4) (.tm 0), .tm, some ((.tm 6), false)⟩, []),
 (⟨.pick (.tm 7) (.c (.bool true)) (.tm 0), .tm, none⟩, []),
 (⟨.mov (.tm 0), .tm, none⟩, []),
 (⟨.mov (.fr 5), .tm, some ((.tm 0), false)⟩, []),
 (⟨.callf 42 [(.tm 0)], .tm, some ((.tm 1), false)⟩, []),
 (⟨.mov (.fr 7), .tm, some ((.tm 2), false)⟩, []),
 (⟨.nilck (.tm 0), .tm, some ((.tm 3), false)⟩, []),
 (⟨.faddr 5 (.tm 0), .tm, some ((.tm 4), false)⟩, []),
 (⟨.load1 (.tm 0), .tm, some ((.tm 5), false)⟩, [27]),
 (⟨.bin .neq (.tm 4) (.tm 0), .tm, some ((.tm 6), false)⟩, []),
 (⟨.pick (.tm 7) (.c (.bool true)) (.tm 0), .fr 32, none⟩, [])]) <|
 .cond (.fr 32)
 (.seq (.reg [
 ⟨.mov (.c (.bool false)), .fr 4, none⟩]) <|
 .ret)
 (.skip))) <|
 .reg [
 ⟨.mov (.fr 8), .tm, none⟩,
 ⟨.bin .add (.tm 0) (.c (.int .i64 1)), .tm, none⟩,
 ⟨.mov (.tm 0), .fr 8, none⟩]))) <|
 .seq (.reg [
 ⟨.callf 31 [], .tm, none⟩,
 ⟨.mov (.tm 0), .fr 4, none⟩]) <|
 .ret, [.t 4]⟩
def f8 : AFunc := ⟨[0, 2, 3, 4, 5, 6, 7, 8, 9, 10, 11, 12, 13, 15, 22, 31, 51, 55, 66, 89, 93, 104, 113, 120],
 .seq (.reg [
 ⟨.mov (.c (.bool false)), .fr 1, none⟩]) <|
 .seq (.seq (.reg [
 ⟨.mov (.fr 0), .tm, none⟩,
 ⟨.callf 30 [(.tm 0)], .fr 13, none⟩]) <|
 .cond (.fr 13)
 (.seq (.reg [
 ⟨.callf 31 [], .tm, none⟩,
 ⟨.mov (.tm 0), .fr 1, none⟩]) <|
 .ret)
 (.skip)) <|
 .seq (.reg [
 ⟨.new 113 1 [(.slice none 0 0)], .fr 2, none⟩]) <|
 .seq (.reg [
 ⟨.build [(.slice none 0 0)] [], .tm, none⟩,
 ⟨.box 117 1 (.tm 0), .tm, none⟩,
 ⟨.mov (.tm 0), .fr 3, none⟩]) <|
 .seq (.seq (.reg [
 ⟨.mov (.c (.int .i64 0)), .fr 4, none⟩]) <|
 .block 0 (.loop (.seq (.seq (.reg [
 ⟨.mov (.fr 4), .tm, none⟩,
 ⟨.mov (.fr 0), .tm, none⟩,
 ⟨.len false (.tm 0), .tm, none⟩,
 ⟨.bin .lss (.tm 2) (.tm 0), .fr 14, none⟩]) <|
 .cond (.fr 14)
 (.skip)
 (.exit 0)) <|
 .seq (.block 1 (.seq (.reg [
 ⟨.mov (.fr 0), .tm, none⟩,
 ⟨.mov (.fr 4), .tm, none⟩,
 ⟨.iaddr 8 (.tm 1) (.tm 0), .tm, none⟩,
 ⟨.loadn 8 (.tm 0), .tm, none⟩,
 ⟨.new 84 8 [(.int .u8 0), (.slice none 0 0), (.int .u8 0), (.int .u8 0), (.int .i64 0), (.int .i64 0), (.slice none 0 0), (.int .i64 0)], .fr 5, none⟩,
 ⟨.storen 8 (.fr 5) (.tm 0), .no, none⟩]) <|
 .seq (.seq (.reg [
 ⟨.faddr 0 (.fr 5), .tm, none⟩,
 ⟨.load1 (.tm 0), .tm, none⟩,
 ⟨.bin .rem (.tm 0) (.c (.int .u8 8)), .fr 15, none⟩]) <|
 .block 2 (.seq (.reg [
 ⟨.bin .eql (.fr 15) (.c (.int .u8 6)), .tm, none⟩,
 ⟨.mov (.tm 0), .fr 18, none⟩]) <|
 .cond (.fr 18)
 (.seq (.reg [
 ⟨.faddr 7 (.fr 5), .tm, none⟩,
 ⟨.load1 (.tm 0), .tm, none⟩,
 ⟨.callf 55 [(.fr 2), (.tm 0)], .tm, none⟩,
 ⟨.mov (.tm 0), .tm, none⟩,
 ⟨.extract (.tm 0) 0, .tm, none⟩,
 ⟨.extract (.tm 1) 1, .tm, none⟩,
 ⟨.mov (.tm 1), .fr 6, none⟩,
 ⟨.mov (.tm 0), .fr 7, none⟩]) <|
 .seq (.reg [
 ⟨.mov (.fr 3), .tm, none⟩,
 ⟨.faddr 7 (.fr 5), .tm, none⟩,
 ⟨.load1 (.tm 0), .tm, none⟩,
 ⟨.callf 56 [(.tm 2), (.tm 0)], .tm, none⟩,
 ⟨.mov (.tm 0), .tm, none⟩,
 ⟨.extract (.tm 0) 0, .tm, none⟩,
 ⟨.extract (.tm 1) 1, .tm, none⟩,
 ⟨.mov (.tm 1), .fr 8, none⟩,
 ⟨.mov (.tm 0), .fr 9, none⟩]) <|
 .seq (.seq (.reg [
 ⟨.mov (.fr 7), .tm, none⟩,
 ⟨.mov (.fr 9), .tm, none⟩,
 ⟨.bin .neq (.tm 1) (.tm 0), .tm, none⟩,
 ⟨.mov (.tm 0), .tm, none⟩,
 ⟨.mov (.fr 6), .tm, some ((.tm 0), false)⟩,
 ⟨.b2s (.tm 0), .tm, some ((.tm 1), false)⟩,
 ⟨.mov (.fr 8), .tm, some ((.tm 2), false)⟩,
 ⟨.bin .neq (.tm 1) (.tm 0), .tm, some ((.tm 3), false)⟩,
 ⟨.pick (.tm 4) (.c (.bool true)) (.tm 0), .fr 19, none⟩]) <|
 .cond (.fr 19)
 (.seq (.reg [
 ⟨.mov (.c (.bool false)), .fr 1, none⟩]) <|
 .ret)
 (.skip)) <|
 .seq (.reg [
 ⟨.mov (.c (.int .i64 0)), .fr 10, none⟩]) <|
 .block 5 (.loop (.seq (.seq (.reg [
 ⟨.mov (.fr 10), .tm, none⟩,
 ⟨.mov (.fr 6), .tm, none⟩,
 ⟨.len false (.tm 0), .tm, none⟩,
 ⟨.bin .lss (.tm 2) (.tm 0), .fr 20, none⟩]) <|
 .cond (.fr 20)
 (.skip)
 (.exit 5)) <|
 .seq (.block 6 (.reg [
 ⟨.mov (.fr 6), .tm, none⟩,
 ⟨.mov (.fr 10), .tm, none⟩,
 ⟨.mov (.fr 6), .tm, none⟩,
 ⟨.mov (.fr 10), .tm, none⟩,
 ⟨.iaddr 1 (.tm 1) (.tm 0), .tm, none⟩,
 ⟨.load1 (.tm 0), .tm, none⟩,
 ⟨.bin .add (.tm 0) (.c (.int .u8 1)), .tm, none⟩,
 ⟨.iaddr 1 (.tm 6) (.tm 5), .tm, none⟩,
 ⟨.store1 (.tm 0) (.tm 1), .no, none⟩])) <|
 .reg [
 ⟨.mov (.fr 10), .tm, none⟩,
 ⟨.bin .add (.tm 0) (.c (.int .i64 1)), .tm, none⟩,
 ⟨.mov (.tm 0), .fr 10, none⟩])))
 (.seq (.reg [
 ⟨.bin .eql (.fr 15) (.c (.int .u8 7)), .tm, none⟩,
 ⟨.mov (.tm 0), .fr 21, none⟩]) <|
 .cond (.fr 21)
 (.seq (.dreg [
 (⟨.faddr 7 (.fr 5), .tm, none⟩, []),
 (⟨.load1 (.tm 0), .tm, none⟩, []),
 (⟨.callf 57 [(.fr 2), (.tm 0)], .tm, none⟩, []),
 (⟨.mov (.fr 3), .tm, none⟩, []),
 (⟨.faddr 7 (.fr 5), .tm, none⟩, []),
 (⟨.load1 (.tm 0), .tm, none⟩, [2]),
 (⟨.callf 58 [(.tm 2), (.tm 0)], .tm, none⟩, []),
 (⟨.bin .neq (.tm 4) (.tm 0), .fr 22, none⟩, [])]) <|
 .cond (.fr 22)
 (.seq (.reg [
 ⟨.mov (.c (.bool false)), .fr 1, none⟩]) <|
 .ret)
 (.skip))
 (.seq (.reg [
 ⟨.faddr 1 (.fr 5), .tm, none⟩,
 ⟨.load1 (.tm 0), .tm, none⟩,
 ⟨.b2s (.tm 0), .tm, none⟩,
 ⟨.s2b 5 (.tm 0), .tm, none⟩,
 ⟨.mov (.tm 0), .fr 11, none⟩]) <|
 .seq (.seq (.dreg [
 (⟨.mov (.fr 11), .tm, none⟩, []),
 (⟨.callf 59 [(.fr 2), (.tm 0)], .tm, none⟩, []),
 (⟨.mov (.fr 3), .tm, none⟩, []),
 (⟨.faddr 1 (.fr 5), .tm, none⟩, []),
 (⟨.load1 (.tm 0), .tm, none⟩, [1]),
 (⟨.b2s (.tm 0), .tm, none⟩, [1]),
 (⟨.callf 60 [(.tm 3), (.tm 0)], .tm, none⟩, []),
 (⟨.bin .neq (.tm 5) (.tm 0), .tm, none⟩, []),
 (⟨.mov (.tm 0), .tm, none⟩, []),
 (⟨.mov (.fr 11), .tm, some ((.tm 0), false)⟩, []),
 (⟨.b2s (.tm 0), .tm, some ((.tm 1), false)⟩, []),
 (⟨.faddr 1 (.fr 5), .tm, some ((.tm 2), false)⟩, []),
 (⟨.load1 (.tm 0), .tm, some ((.tm 3), false)⟩, []),
 (⟨.b2s (.tm 0), .tm, some ((.tm 4), false)⟩, []),
 (⟨.bin .neq (.tm 3) (.tm 0), .tm, some ((.tm 5), false)⟩, []),
 (⟨.pick (.tm 6) (.c (.bool true)) (.tm 0), .fr 16, none⟩, [])]) <|
 .cond (.fr 16)
 (.seq (.reg [
 ⟨.mov (.c (.bool false)), .fr 1, none⟩]) <|
 .ret)
 (.skip)) <|
 .seq (.reg [
 ⟨.mov (.c (.int .i64 0)), .fr 12, none⟩]) <|
 .block 3 (.loop (.seq (.seq (.reg [
 ⟨.mov (.fr 12), .tm, none⟩,
 ⟨.mov (.fr 11), .tm, none⟩,
 ⟨.len false (.tm 0), .tm, none⟩,
 ⟨.bin .lss (.tm 2) (.tm 0), .fr 17, none⟩]) <|
 .cond (.fr 17)
 (.skip)
 (.exit 3)) <|
 .seq (.block 4 (.reg [
 ⟨.mov (.fr 11), .tm, none⟩,
 ⟨.mov (.fr 12), .tm, none⟩,
 ⟨.mov (.fr 11), .tm, none⟩,
 ⟨.mov (.fr 12), .tm, none⟩,
 ⟨.iaddr 1 (.tm 1) (.tm 0), .tm, none⟩,
 ⟨.load1 (.tm 0), .tm, none⟩,
 ⟨.bin .add (.tm 0) (.c (.int .u8 1)), .tm, none⟩,
 ⟨.iaddr 1 (.tm 6) (.tm 5), .tm, none⟩,
 ⟨.store1 (.tm 0) (.tm 1), .no, none⟩])) <|
 .reg [
 ⟨.mov (.fr 12), .tm, none⟩,
 ⟨.bin .add (.tm 0) (.c (.int .i64 1)), .tm, none⟩,
 ⟨.mov (.tm 0), .fr 12, none⟩])))))) <|
 .seq (.dreg [
 (⟨.callf 61 [(.fr 2)], .tm, none⟩, []),
 (⟨.mov (.fr 3), .tm, none⟩, []),
 (⟨.nilck (.tm 0), .tm, none⟩, []),
 (⟨.faddr 0 (.tm 0), .tm, none⟩, []),
 (⟨.load1 (.tm 0), .tm, none⟩, [0]),
 (⟨.len false (.tm 0), .tm, none⟩, []),
 (⟨.bin .neq (.tm 5) (.tm 0), .fr 23, none⟩, [])]) <|
 .cond (.fr 23)
 (.seq (.reg [
 ⟨.mov (.c (.bool false)), .fr 1, none⟩]) <|
 .ret)
 (.skip))) <|
 .reg [
 ⟨.mov (.fr 4), .tm, none⟩,
 ⟨.bin .add (.tm 0) (.c (.int .i64 1)), .tm, none⟩,
 ⟨.mov (.tm 0), .fr 4, none⟩]))) <|
 .seq (.reg [
 ⟨.callf 31 [], .tm, none⟩,
 ⟨.mov (.tm 0), .fr 1, none⟩]) <|
 .ret, [.t 1]⟩
def f30 : AFunc := ⟨[0, 2, 3, 4, 7, 11, 34],
 .seq (.reg [
 ⟨.mov (.c (.bool false)), .fr 1, none⟩]) <|
 .seq (.seq (.reg [
 ⟨.mov (.fr 0), .tm, none⟩,
 ⟨.len false (.tm 0), .tm, none⟩,
 ⟨.bin .gtr (.tm 0) (.c (.int .i64 200)), .fr 4, none⟩]) <|
 .cond (.fr 4)
 (.seq (.reg [
 ⟨.mov (.c (.bool true)), .fr 1, none⟩]) <|
 .ret)
 (.skip)) <|
 .seq (.reg [
 ⟨.mov (.c (.int .i64 0)), .fr 2, none⟩]) <|
 .seq (.seq (.reg [
 ⟨.mov (.c (.int .i64 0)), .fr 3, none⟩]) <|
 .block 0 (.loop (.seq (.seq (.reg [
 ⟨.mov (.fr 3), .tm, none⟩,
 ⟨.mov (.fr 0), .tm, none⟩,
 ⟨.len false (.tm 0), .tm, none⟩,
 ⟨.bin .lss (.tm 2) (.tm 0), .fr 5, none⟩]) <|
 .cond (.fr 5)
 (.skip)
 (.exit 0)) <|
 .seq (.block 1 (.seq (.seq (.reg [
 ⟨.mov (.fr 0), .tm, none⟩,
 ⟨.mov (.fr 3), .tm, none⟩,
 ⟨.iaddr 8 (.tm 1) (.tm 0), .tm, none⟩,
 ⟨.faddr 1 (.tm 0), .tm, none⟩,
 ⟨.load1 (.tm 0), .tm, none⟩,
 ⟨.len false (.tm 0), .tm, none⟩,
 ⟨.mov (.fr 2), .tm, none⟩,
 ⟨.bin .sub (.c (.int .i64 6000)) (.tm 0), .tm, none⟩,
 ⟨.bin .gtr (.tm 2) (.tm 0), .tm, none⟩,
 ⟨.mov (.tm 0), .tm, none⟩,
 ⟨.mov (.fr 0), .tm, some ((.tm 0), false)⟩,
 ⟨.mov (.fr 3), .tm, some ((.tm 1), false)⟩,
 ⟨.iaddr 8 (.tm 1) (.tm 0), .tm, some ((.tm 2), false)⟩,
 ⟨.faddr 2 (.tm 0), .tm, some ((.tm 3), false)⟩,
 ⟨.faddr 4 (.tm 0), .tm, some ((.tm 4), false)⟩,
 ⟨.load1 (.tm 0), .tm, some ((.tm 5), false)⟩,
 ⟨.len false (.tm 0), .tm, some ((.tm 6), false)⟩,
 ⟨.mov (.fr 2), .tm, some ((.tm 7), false)⟩,
 ⟨.bin .sub (.c (.int .i64 6000)) (.tm 0), .tm, some ((.tm 8), false)⟩,
 ⟨.bin .gtr (.tm 2) (.tm 0), .tm, some ((.tm 9), false)⟩,
 ⟨.pick (.tm 10) (.c (.bool true)) (.tm 0), .fr 6, none⟩]) <|
 .cond (.fr 6)
 (.seq (.reg [
 ⟨.mov (.c (.bool true)), .fr 1, none⟩]) <|
 .ret)
 (.skip)) <|
 .dreg [
 (⟨.mov (.fr 2), .tm, none⟩, []),
 (⟨.mov (.fr 0), .tm, none⟩, []),
 (⟨.mov (.fr 3), .tm, none⟩, []),
 (⟨.iaddr 8 (.tm 1) (.tm 0), .tm, none⟩, []),
 (⟨.faddr 1 (.tm 0), .tm, none⟩, []),
 (⟨.load1 (.tm 0), .tm, none⟩, []),
 (⟨.len false (.tm 0), .tm, none⟩, []),
 (⟨.bin .add (.tm 6) (.tm 0), .tm, none⟩, []),
 (⟨.mov (.fr 0), .tm, none⟩, []),
 (⟨.mov (.fr 3), .tm, none⟩, []),
 (⟨.iaddr 8 (.tm 1) (.tm 0), .tm, none⟩, []),
 (⟨.faddr 2 (.tm 0), .tm, none⟩, []),
 (⟨.faddr 4 (.tm 0), .tm, none⟩, []),
 (⟨.load1 (.tm 0), .tm, none⟩, []),
 (⟨.len false (.tm 0), .tm, none⟩, []),
 (⟨.bin .add (.tm 7) (.tm 0), .tm, none⟩, []),
 (⟨.mov (.tm 0), .fr 2, none⟩, [])])) <|
 .reg [
 ⟨.mov (.fr 3), .tm, none⟩,
 ⟨.bin .add (.tm 0) (.c (.int .i64 1)), .tm, none⟩,
 ⟨.mov (.tm 0), .fr 3, none⟩]))) <|
 .seq (.reg [
 ⟨.mov (.fr 2), .tm, none⟩,
 ⟨.bin .gtr (.tm 0) (.c (.int .i64 6000)), .tm, none⟩,
 ⟨.mov (.tm 0), .fr 1, none⟩]) <|
 .ret, [.t 1]⟩
def f31 : AFunc := ⟨[0, 1, 2, 3, 4, 5, 7, 9, 10, 11, 12, 13, 16, 30],
 .seq (.reg [
 ⟨.mov (.c (.bool false)), .fr 0, none⟩]) <|
 .seq (.reg [
 ⟨.callf 32 [(.c (.int .u8 1)), (.c (.int .u8 2)), (.c (.int .i64 1))], .tm, none⟩,
 ⟨.mov (.tm 0), .tm, none⟩,
 ⟨.extract (.tm 0) 0, .tm, none⟩,
 ⟨.extract (.tm 1) 1, .tm, none⟩,
 ⟨.mov (.tm 1), .fr 1, none⟩,
 ⟨.mov (.tm 0), .fr 2, none⟩]) <|
 .seq (.reg [
 ⟨.callf 32 [(.c (.int .u8 2)), (.c (.int .u8 1)), (.c (.int .i64 1))], .tm, none⟩,
 ⟨.mov (.tm 0), .tm, none⟩,
 ⟨.extract (.tm 0) 0, .tm, none⟩,
 ⟨.extract (.tm 1) 1, .tm, none⟩,
 ⟨.mov (.tm 1), .fr 3, none⟩,
 ⟨.mov (.tm 0), .fr 4, none⟩]) <|
 .seq (.seq (.reg [
 ⟨.mov (.fr 2), .tm, none⟩,
 ⟨.bin .neq (.tm 0) (.c (.int .i64 0)), .tm, none⟩,
 ⟨.mov (.tm 0), .tm, none⟩,
 ⟨.mov (.fr 4), .tm, some ((.tm 0), false)⟩,
 ⟨.bin .neq (.tm 0) (.c (.int .i64 0)), .tm, some ((.tm 1), false)⟩,
 ⟨.pick (.tm 2) (.c (.bool true)) (.tm 0), .fr 13, none⟩]) <|
 .cond (.fr 13)
 (.seq (.reg [
 ⟨.mov (.c (.bool false)), .fr 0, none⟩]) <|
 .ret)
 (.skip)) <|
 .seq (.reg [
 ⟨.mov (.fr 1), .tm, none⟩,
 ⟨.bslice 5 1 1 [(.int .u8 0)] [(0, 1, (.c (.int .u8 97)))], .tm, none⟩,
 ⟨.mark (.tm 0), .tm, none⟩,
 ⟨.callf 34 [(.tm 2), (.tm 0)], .tm, none⟩,
 ⟨.mov (.tm 0), .tm, none⟩,
 ⟨.extract (.tm 0) 0, .tm, none⟩,
 ⟨.extract (.tm 1) 1, .tm, none⟩,
 ⟨.mov (.tm 1), .fr 5, none⟩,
 ⟨.mov (.tm 0), .tm, none⟩]) <|
 .seq (.reg [
 ⟨.mov (.fr 1), .tm, none⟩,
 ⟨.bslice 5 1 1 [(.int .u8 0)] [(0, 1, (.c (.int .u8 98)))], .tm, none⟩,
 ⟨.mark (.tm 0), .tm, none⟩,
 ⟨.callf 34 [(.tm 2), (.tm 0)], .tm, none⟩,
 ⟨.mov (.tm 0), .tm, none⟩,
 ⟨.extract (.tm 0) 0, .tm, none⟩,
 ⟨.extract (.tm 1) 1, .tm, none⟩,
 ⟨.mov (.tm 1), .fr 6, none⟩,
 ⟨.mov (.tm 0), .tm, none⟩]) <|
 .seq (.reg [
 ⟨.mov (.fr 3), .tm, none⟩,
 ⟨.mov (.fr 6), .tm, none⟩,
 ⟨.callf 37 [(.tm 1), (.tm 0)], .tm, none⟩,
 ⟨.mov (.tm 0), .tm, none⟩,
 ⟨.extract (.tm 0) 0, .tm, none⟩,
 ⟨.extract (.tm 1) 1, .tm, none⟩,
 ⟨.mov (.tm 1), .fr 7, none⟩,
 ⟨.mov (.tm 0), .fr 8, none⟩]) <|
 .seq (.reg [
 ⟨.mov (.fr 3), .tm, none⟩,
 ⟨.mov (.fr 5), .tm, none⟩,
 ⟨.callf 37 [(.tm 1), (.tm 0)], .tm, none⟩,
 ⟨.mov (.tm 0), .tm, none⟩,
 ⟨.extract (.tm 0) 0, .tm, none⟩,
 ⟨.extract (.tm 1) 1, .tm, none⟩,
 ⟨.mov (.tm 1), .fr 9, none⟩,
 ⟨.mov (.tm 0), .fr 10, none⟩]) <|
 .seq (.reg [
 ⟨.mov (.fr 3), .tm, none⟩,
 ⟨.callf 34 [(.tm 0), (.c (.slice none 0 0))], .tm, none⟩,
 ⟨.mov (.tm 0), .tm, none⟩,
 ⟨.extract (.tm 0) 0, .tm, none⟩,
 ⟨.extract (.tm 1) 1, .tm, none⟩,
 ⟨.mov (.tm 1), .fr 11, none⟩,
 ⟨.mov (.tm 0), .tm, none⟩]) <|
 .seq (.reg [
 ⟨.mov (.fr 1), .tm, none⟩,
 ⟨.mov (.fr 11), .tm, none⟩,
 ⟨.callf 37 [(.tm 1), (.tm 0)], .tm, none⟩,
 ⟨.mov (.tm 0), .tm, none⟩,
 ⟨.extract (.tm 0) 0, .tm, none⟩,
 ⟨.extract (.tm 1) 1, .tm, none⟩,
 ⟨.mov (.tm 1), .tm, none⟩,
 ⟨.mov (.tm 1), .fr 12, none⟩]) <|
 .seq (.reg [
 ⟨.mov (.fr 7), .tm, none⟩,
 ⟨.b2s (.tm 0), .tm, none⟩,
 ⟨.bin .eql (.tm 0) (.c (.string ⟨#[98]⟩)), .tm, none⟩,
 ⟨.mov (.tm 0), .tm, none⟩,
 ⟨.mov (.fr 8), .tm, some ((.tm 0), true)⟩,
 ⟨.bin .eql (.tm 0) (.c (.int .i64 0)), .tm, some ((.tm 1), true)⟩,
 ⟨.pick (.tm 2) (.tm 0) (.c (.bool false)), .tm, none⟩,
 ⟨.mov (.tm 0), .tm, none⟩,
 ⟨.mov (.fr 9), .tm, some ((.tm 0), true)⟩,
 ⟨.len false (.tm 0), .tm, some ((.tm 1), true)⟩,
 ⟨.bin .eql (.tm 0) (.c (.int .i64 0)), .tm, some ((.tm 2), true)⟩,
 ⟨.pick (.tm 3) (.tm 0) (.c (.bool false)), .tm, none⟩,
 ⟨.mov (.tm 0), .tm, none⟩,
 ⟨.mov (.fr 10), .tm, some ((.tm 0), true)⟩,
 ⟨.bin .eql (.tm 0) (.c (.int .i64 180)), .tm, some ((.tm 1), true)⟩,
 ⟨.pick (.tm 2) (.tm 0) (.c (.bool false)), .tm, none⟩,
 ⟨.mov (.tm 0), .tm, none⟩,
 ⟨.mov (.fr 3), .tm, some ((.tm 0), true)⟩,
 ⟨.callf 40 [(.tm 0)], .tm, some ((.tm 1), true)⟩,
 ⟨.bin .eql (.tm 0) (.c (.int .i64 2)), .tm, some ((.tm 2), true)⟩,
 ⟨.pick (.tm 3) (.tm 0) (.c (.bool false)), .tm, none⟩,
 ⟨.mov (.tm 0), .tm, none⟩,
 ⟨.mov (.fr 12), .tm, some ((.tm 0), true)⟩,
 ⟨.bin .eql (.tm 0) (.c (.int .i64 0)), .tm, some ((.tm 1), true)⟩,
 ⟨.pick (.tm 2) (.tm 0) (.c (.bool false)), .tm, none⟩,
 ⟨.mov (.tm 0), .tm, none⟩,
 ⟨.mov (.fr 1), .tm, some ((.tm 0), true)⟩,
 ⟨.callf 41 [(.tm 0)], .tm, some ((.tm 1), true)⟩,
 ⟨.bin .eql (.tm 0) (.c (.int .i64 2)), .tm, some ((.tm 2), true)⟩,
 ⟨.pick (.tm 3) (.tm 0) (.c (.bool false)), .tm, none⟩,
 ⟨.mov (.tm 0), .tm, none⟩,
 ⟨.mov (.fr 1), .tm, some ((.tm 0), true)⟩,
 ⟨.callf 39 [(.tm 0)], .tm, some ((.tm 1), true)⟩,
 ⟨.bin .eql (.tm 0) (.c (.int .i64 2)), .tm, some ((.tm 2), true)⟩,
 ⟨.pick (.tm 3) (.tm 0) (.c (.bool false)), .tm, none⟩,
 ⟨.mov (.tm 0), .fr 0, none⟩]) <|
 .ret, [.t 0]⟩
def f32 : AFunc := ⟨[0, 1, 2, 6, 7, 18],
 .seq (.reg [
 ⟨.mov (.c (.pointer none)), .fr 3, none⟩,
 ⟨.mov (.c (.int .i64 0)), .fr 4, none⟩]) <|
 .seq (.seq (.reg [
 ⟨.mov (.fr 0), .tm, none⟩,
 ⟨.mov (.fr 1), .tm, none⟩,
 ⟨.bin .eql (.tm 1) (.tm 0), .tm, none⟩,
 ⟨.mov (.tm 0), .tm, none⟩,
 ⟨.mov (.fr 2), .tm, some ((.tm 0), false)⟩,
 ⟨.bin .lss (.tm 0) (.c (.int .i64 1)), .tm, some ((.tm 1), false)⟩,
 ⟨.pick (.tm 2) (.c (.bool true)) (.tm 0), .tm, none⟩,
 ⟨.mov (.tm 0), .tm, none⟩,
 ⟨.mov (.fr 2), .tm, some ((.tm 0), false)⟩,
 ⟨.bin .gtr (.tm 0) (.c (.int .i64 2305843009213693952)), .tm, some ((.tm 1), false)⟩,
 ⟨.pick (.tm 2) (.c (.bool true)) (.tm 0), .fr 5, none⟩]) <|
 .cond (.fr 5)
 (.seq (.reg [
 ⟨.mov (.c (.pointer none)), .fr 3, none⟩,
 ⟨.mov (.c (.int .i64 2)), .fr 4, none⟩]) <|
 .ret)
 (.skip)) <|
 .seq (.reg [
 ⟨.mov (.fr 0), .tm, none⟩,
 ⟨.mov (.fr 1), .tm, none⟩,
 ⟨.mov (.fr 2), .tm, none⟩,
 ⟨.bin .sub (.tm 0) (.c (.int .i64 1)), .tm, none⟩,
 ⟨.build [(.int .u8 0), (.int .u8 0), (.int .i64 0), (.int .i64 0), (.slice none 0 0)] [(0, 1, (.tm 3)), (1, 1, (.tm 2)), (2, 1, (.tm 0))], .tm, none⟩,
 ⟨.build [(.int .u8 0), (.int .u8 0), (.int .i64 0), (.int .i64 0), (.slice none 0 0), (.int .i64 0), (.int .i64 0)] [(0, 5, (.tm 0))], .tm, none⟩,
 ⟨.box 145 7 (.tm 0), .tm, none⟩,
 ⟨.mov (.tm 0), .fr 3, none⟩,
 ⟨.mov (.c (.int .i64 0)), .fr 4, none⟩]) <|
 .ret, [.t 3, .t 4]⟩
def f33 : AFunc := ⟨[0, 1, 2, 6, 17],
 .seq (.reg [
 ⟨.mov (.c (.pointer none)), .fr 3, none⟩]) <|
 .seq (.seq (.reg [
 ⟨.mov (.fr 0), .tm, none⟩,
 ⟨.mov (.fr 1), .tm, none⟩,
 ⟨.bin .eql (.tm 1) (.tm 0), .tm, none⟩,
 ⟨.mov (.tm 0), .tm, none⟩,
 ⟨.mov (.fr 2), .tm, some ((.tm 0), false)⟩,
 ⟨.bin .lss (.tm 0) (.c (.int .i64 1)), .tm, some ((.tm 1), false)⟩,
 ⟨.pick (.tm 2) (.c (.bool true)) (.tm 0), .tm, none⟩,
 ⟨.mov (.tm 0), .tm, none⟩,
 ⟨.mov (.fr 2), .tm, some ((.tm 0), false)⟩,
 ⟨.bin .gtr (.tm 0) (.c (.int .i64 2305843009213693952)), .tm, some ((.tm 1), false)⟩,
 ⟨.pick (.tm 2) (.c (.bool true)) (.tm 0), .fr 4, none⟩]) <|
 .cond (.fr 4)
 (.seq (.reg [
 ⟨.mov (.c (.pointer none)), .fr 3, none⟩]) <|
 .ret)
 (.skip)) <|
 .seq (.reg [
 ⟨.mov (.fr 0), .tm, none⟩,
 ⟨.mov (.fr 1), .tm, none⟩,
 ⟨.mov (.fr 2), .tm, none⟩,
 ⟨.bin .sub (.tm 0) (.c (.int .i64 1)), .tm, none⟩,
 ⟨.build [(.int .u8 0), (.int .u8 0), (.int .i64 0), (.int .i64 0), (.int .i64 0), (.int .i64 0)] [(0, 1, (.tm 3)), (1, 1, (.tm 2)), (2, 1, (.tm 0))], .tm, none⟩,
 ⟨.box 93 6 (.tm 0), .tm, none⟩,
 ⟨.mov (.tm 0), .fr 3, none⟩]) <|
 .ret, [.t 3]⟩
def f34 : AFunc := ⟨[0, 1, 4, 5, 6, 7, 10],
 .seq (.reg [
 ⟨.mov (.c (.slice none 0 0)), .fr 2, none⟩,
 ⟨.mov (.c (.int .i64 0)), .fr 3, none⟩]) <|
 .seq (.block 0 (.seq (.reg [
 ⟨.mov (.fr 0), .tm, none⟩,
 ⟨.eqv 1 false (.tm 0) (.c (.pointer none)), .tm, none⟩,
 ⟨.mov (.tm 0), .fr 5, none⟩]) <|
 .cond (.fr 5)
 (.seq (.reg [
 ⟨.mov (.c (.slice none 0 0)), .fr 2, none⟩,
 ⟨.mov (.c (.int .i64 1)), .fr 3, none⟩]) <|
 .ret)
 (.seq (.reg [
 ⟨.mov (.fr 1), .tm, none⟩,
 ⟨.len false (.tm 0), .tm, none⟩,
 ⟨.bin .gtr (.tm 0) (.c (.int .i64 2048)), .tm, none⟩,
 ⟨.mov (.tm 0), .tm, none⟩,
 ⟨.mov (.fr 0), .tm, some ((.tm 0), false)⟩,
 ⟨.nilck (.tm 0), .tm, some ((.tm 1), false)⟩,
 ⟨.faddr 0 (.tm 0), .tm, some ((.tm 2), false)⟩,
 ⟨.faddr 2 (.tm 0), .tm, some ((.tm 3), false)⟩,
 ⟨.load1 (.tm 0), .tm, some ((.tm 4), false)⟩,
 ⟨.bin .geq (.tm 0) (.c (.int .i64 4611686018427387904)), .tm, some ((.tm 5), false)⟩,
 ⟨.pick (.tm 6) (.c (.bool true)) (.tm 0), .tm, none⟩,
 ⟨.mov (.tm 0), .fr 6, none⟩]) <|
 .cond (.fr 6)
 (.seq (.reg [
 ⟨.mov (.c (.slice none 0 0)), .fr 2, none⟩,
 ⟨.mov (.c (.int .i64 3)), .fr 3, none⟩]) <|
 .ret)
 (.skip)))) <|
 .seq (.reg [
 ⟨.mov (.fr 0), .tm, none⟩,
 ⟨.nilck (.tm 0), .tm, none⟩,
 ⟨.faddr 0 (.tm 0), .tm, none⟩,
 ⟨.faddr 2 (.tm 0), .tm, none⟩,
 ⟨.load1 (.tm 0), .tm, none⟩,
 ⟨.bin .add (.tm 0) (.c (.int .i64 1)), .tm, none⟩,
 ⟨.nilck (.tm 5), .tm, none⟩,
 ⟨.faddr 0 (.tm 0), .tm, none⟩,
 ⟨.faddr 2 (.tm 0), .tm, none⟩,
 ⟨.store1 (.tm 0) (.tm 3), .no, none⟩]) <|
 .seq (.reg [
 ⟨.mov (.fr 0), .tm, none⟩,
 ⟨.nilck (.tm 0), .tm, none⟩,
 ⟨.faddr 0 (.tm 0), .tm, none⟩,
 ⟨.loadn 5 (.tm 0), .tm, none⟩,
 ⟨.new 65 5 [(.int .u8 0), (.int .u8 0), (.int .i64 0), (.int .i64 0), (.slice none 0 0)], .fr 4, none⟩,
 ⟨.storen 5 (.fr 4) (.tm 0), .no, none⟩]) <|
 .seq (.reg [
 ⟨.mov (.fr 1), .tm, none⟩,
 ⟨.faddr 4 (.fr 4), .tm, none⟩,
 ⟨.store1 (.tm 0) (.tm 1), .no, none⟩]) <|
 .seq (.reg [
 ⟨.loadn 5 (.fr 4), .tm, none⟩,
 ⟨.callf 36 [(.tm 0)], .tm, none⟩,
 ⟨.mov (.tm 0), .fr 2, none⟩,
 ⟨.mov (.c (.int .i64 0)), .fr 3, none⟩]) <|
 .ret, [.t 2, .t 3]⟩
def f35 : AFunc := ⟨[0, 1, 4, 5, 15],
 .seq (.reg [
 ⟨.mov (.c (.slice none 0 0)), .fr 2, none⟩,
 ⟨.mov (.c (.int .i64 0)), .fr 3, none⟩]) <|
 .seq (.seq (.reg [
 ⟨.mov (.fr 1), .tm, none⟩,
 ⟨.len true (.tm 0), .tm, none⟩,
 ⟨.bin .gtr (.tm 0) (.c (.int .i64 2048)), .tm, none⟩,
 ⟨.mov (.tm 0), .tm, none⟩,
 ⟨.mov (.fr 0), .tm, some ((.tm 0), false)⟩,
 ⟨.nilck (.tm 0), .tm, some ((.tm 1), false)⟩,
 ⟨.faddr 2 (.tm 0), .tm, some ((.tm 2), false)⟩,
 ⟨.load1 (.tm 0), .tm, some ((.tm 3), false)⟩,
 ⟨.bin .geq (.tm 0) (.c (.int .i64 4611686018427387904)), .tm, some ((.tm 4), false)⟩,
 ⟨.pick (.tm 5) (.c (.bool true)) (.tm 0), .fr 4, none⟩]) <|
 .cond (.fr 4)
 (.seq (.reg [
 ⟨.mov (.c (.slice none 0 0)), .fr 2, none⟩,
 ⟨.mov (.c (.int .i64 3)), .fr 3, none⟩]) <|
 .ret)
 (.skip)) <|
 .seq (.reg [
 ⟨.mov (.fr 0), .tm, none⟩,
 ⟨.nilck (.tm 0), .tm, none⟩,
 ⟨.faddr 2 (.tm 0), .tm, none⟩,
 ⟨.load1 (.tm 0), .tm, none⟩,
 ⟨.bin .add (.tm 0) (.c (.int .i64 1)), .tm, none⟩,
 ⟨.nilck (.tm 4), .tm, none⟩,
 ⟨.faddr 2 (.tm 0), .tm, none⟩,
 ⟨.store1 (.tm 0) (.tm 2), .no, none⟩]) <|
 .seq (.dreg [
 (⟨.mov (.fr 0), .tm, none⟩, []),
 (⟨.nilck (.tm 0), .tm, none⟩, []),
 (⟨.faddr 0 (.tm 0), .tm, none⟩, []),
 (⟨.load1 (.tm 0), .tm, none⟩, []),
 (⟨.mov (.fr 0), .tm, none⟩, []),
 (⟨.nilck (.tm 0), .tm, none⟩, []),
 (⟨.faddr 1 (.tm 0), .tm, none⟩, []),
 (⟨.load1 (.tm 0), .tm, none⟩, []),
 (⟨.mov (.fr 0), .tm, none⟩, []),
 (⟨.nilck (.tm 0), .tm, none⟩, []),
 (⟨.faddr 2 (.tm 0), .tm, none⟩, []),
 (⟨.load1 (.tm 0), .tm, none⟩, []),
 (⟨.mov (.fr 0), .tm, none⟩, []),
 (⟨.nilck (.tm 0), .tm, none⟩, []),
 (⟨.faddr 3 (.tm 0), .tm, none⟩, []),
 (⟨.load1 (.tm 0), .tm, none⟩, []),
 (⟨.mov (.fr 1), .tm, none⟩, []),
 (⟨.build [(.int .u8 0), (.int .u8 0), (.int .i64 0), (.int .i64 0), (.string ByteArray.empty)] [(0, 1, (.tm 13)), (1, 1, (.tm 9)), (2, 1, (.tm 5)), (3, 1, (.tm 1)), (4, 1, (.tm 0))], .tm, none⟩, []),
 (⟨.callf 52 [(.tm 0)], .tm, none⟩, []),
 (⟨.mov (.tm 0), .fr 2, none⟩, []),
 (⟨.mov (.c (.int .i64 0)), .fr 3, none⟩, [])]) <|
 .ret, [.t 2, .t 3]⟩
def f37 : AFunc := ⟨[0, 1, 4, 5, 6, 7, 9, 15, 19, 38, 52, 82],
 .seq (.reg [
 ⟨.mov (.c (.slice none 0 0)), .fr 2, none⟩,
 ⟨.mov (.c (.int .i64 0)), .fr 3, none⟩]) <|
 .seq (.seq (.reg [
 ⟨.mov (.fr 0), .tm, none⟩,
 ⟨.eqv 1 false (.tm 0) (.c (.pointer none)), .fr 6, none⟩]) <|
 .cond (.fr 6)
 (.seq (.reg [
 ⟨.mov (.c (.slice none 0 0)), .fr 2, none⟩,
 ⟨.mov (.c (.int .i64 1)), .fr 3, none⟩]) <|
 .ret)
 (.skip)) <|
 .seq (.reg [
 ⟨.mov (.fr 1), .tm, none⟩,
 ⟨.callf 24 [(.tm 0)], .tm, none⟩,
 ⟨.mov (.tm 0), .tm, none⟩,
 ⟨.extract (.tm 0) 0, .tm, none⟩,
 ⟨.extract (.tm 1) 1, .tm, none⟩,
 ⟨.new 65 5 [(.int .u8 0), (.int .u8 0), (.int .i64 0), (.int .i64 0), (.slice none 0 0)], .fr 4, none⟩,
 ⟨.storen 5 (.fr 4) (.tm 1), .no, none⟩,
 ⟨.mov (.tm 0), .fr 5, none⟩]) <|
 .seq (.block 0 (.seq (.reg [
 ⟨.mov (.fr 5), .tm, none⟩,
 ⟨.bin .neq (.tm 0) (.c (.int .i64 0)), .tm, none⟩,
 ⟨.mov (.tm 0), .fr 7, none⟩]) <|
 .cond (.fr 7)
 (.seq (.reg [
 ⟨.mov (.fr 5), .tm, none⟩,
 ⟨.mov (.c (.slice none 0 0)), .fr 2, none⟩,
 ⟨.mov (.tm 0), .fr 3, none⟩]) <|
 .ret)
 (.seq (.dreg [
 (⟨.faddr 0 (.fr 4), .tm, none⟩, []),
 (⟨.load1 (.tm 0), .tm, none⟩, []),
 (⟨.mov (.fr 0), .tm, none⟩, []),
 (⟨.nilck (.tm 0), .tm, none⟩, []),
 (⟨.faddr 0 (.tm 0), .tm, none⟩, []),
 (⟨.faddr 1 (.tm 0), .tm, none⟩, []),
 (⟨.load1 (.tm 0), .tm, none⟩, []),
 (⟨.bin .neq (.tm 5) (.tm 0), .tm, none⟩, []),
 (⟨.mov (.tm 0), .tm, none⟩, []),
 (⟨.faddr 1 (.fr 4), .tm, some ((.tm 0), false)⟩, []),
 (⟨.load1 (.tm 0), .tm, some ((.tm 1), false)⟩, []),
 (⟨.mov (.fr 0), .tm, some ((.tm 2), false)⟩, []),
 (⟨.nilck (.tm 0), .tm, some ((.tm 3), false)⟩, []),
 (⟨.faddr 0 (.tm 0), .tm, some ((.tm 4), false)⟩, []),
 (⟨.faddr 0 (.tm 0), .tm, some ((.tm 5), false)⟩, []),
 (⟨.load1 (.tm 0), .tm, some ((.tm 6), false)⟩, []),
 (⟨.bin .neq (.tm 5) (.tm 0), .tm, some ((.tm 7), false)⟩, []),
 (⟨.pick (.tm 8) (.c (.bool true)) (.tm 0), .tm, none⟩, []),
 (⟨.mov (.tm 0), .fr 8, none⟩, [])]) <|
 .cond (.fr 8)
 (.seq (.reg [
 ⟨.mov (.c (.slice none 0 0)), .fr 2, none⟩,
 ⟨.mov (.c (.int .i64 2)), .fr 3, none⟩]) <|
 .ret)
 (.seq (.dreg [
 (⟨.faddr 2 (.fr 4), .tm, none⟩, []),
 (⟨.load1 (.tm 0), .tm, none⟩, []),
 (⟨.mov (.fr 0), .tm, none⟩, []),
 (⟨.nilck (.tm 0), .tm, none⟩, []),
 (⟨.faddr 0 (.tm 0), .tm, none⟩, []),
 (⟨.faddr 3 (.tm 0), .tm, none⟩, []),
 (⟨.load1 (.tm 0), .tm, none⟩, []),
 (⟨.bin .leq (.tm 5) (.tm 0), .tm, none⟩, []),
 (⟨.mov (.tm 0), .fr 9, none⟩, [])]) <|
 .cond (.fr 9)
 (.seq (.reg [
 ⟨.mov (.c (.slice none 0 0)), .fr 2, none⟩,
 ⟨.mov (.c (.int .i64 180)), .fr 3, none⟩]) <|
 .ret)
 (.skip))))) <|
 .seq (.seq (.reg [
 ⟨.mov (.fr 0), .tm, none⟩,
 ⟨.nilck (.tm 0), .tm, none⟩,
 ⟨.faddr 0 (.tm 0), .tm, none⟩,
 ⟨.faddr 3 (.tm 0), .tm, none⟩,
 ⟨.load1 (.tm 0), .tm, none⟩,
 ⟨.bin .gtr (.tm 0) (.c (.int .i64 0)), .fr 10, none⟩]) <|
 .cond (.fr 10)
 (.dreg [
 (⟨.mov (.fr 0), .tm, none⟩, []),
 (⟨.nilck (.tm 0), .tm, none⟩, []),
 (⟨.faddr 6 (.tm 0), .tm, none⟩, []),
 (⟨.load1 (.tm 0), .tm, none⟩, []),
 (⟨.faddr 2 (.fr 4), .tm, none⟩, []),
 (⟨.load1 (.tm 0), .tm, none⟩, []),
 (⟨.mov (.fr 0), .tm, none⟩, []),
 (⟨.nilck (.tm 0), .tm, none⟩, []),
 (⟨.faddr 0 (.tm 0), .tm, none⟩, []),
 (⟨.faddr 3 (.tm 0), .tm, none⟩, []),
 (⟨.load1 (.tm 0), .tm, none⟩, []),
 (⟨.bin .sub (.tm 5) (.tm 0), .tm, none⟩, []),
 (⟨.bin .sub (.tm 0) (.c (.int .i64 1)), .tm, none⟩, []),
 (⟨.bin .add (.tm 9) (.tm 0), .tm, none⟩, []),
 (⟨.nilck (.tm 13), .tm, none⟩, []),
 (⟨.faddr 6 (.tm 0), .tm, none⟩, []),
 (⟨.store1 (.tm 0) (.tm 2), .no, none⟩, [])])
 (.skip)) <|
 .seq (.reg [
 ⟨.mov (.fr 0), .tm, none⟩,
 ⟨.faddr 2 (.fr 4), .tm, none⟩,
 ⟨.load1 (.tm 0), .tm, none⟩,
 ⟨.nilck (.tm 2), .tm, none⟩,
 ⟨.faddr 0 (.tm 0), .tm, none⟩,
 ⟨.faddr 3 (.tm 0), .tm, none⟩,
 ⟨.store1 (.tm 0) (.tm 3), .no, none⟩]) <|
 .seq (.seq (.dreg [
 (⟨.faddr 3 (.fr 4), .tm, none⟩, []),
 (⟨.load1 (.tm 0), .tm, none⟩, []),
 (⟨.mov (.fr 0), .tm, none⟩, []),
 (⟨.nilck (.tm 0), .tm, none⟩, []),
 (⟨.faddr 0 (.tm 0), .tm, none⟩, []),
 (⟨.faddr 2 (.tm 0), .tm, none⟩, []),
 (⟨.load1 (.tm 0), .tm, none⟩, []),
 (⟨.bin .leq (.tm 5) (.tm 0), .fr 11, none⟩, [])]) <|
 .cond (.fr 11)
 (.dreg [
 (⟨.mov (.fr 0), .tm, none⟩, []),
 (⟨.mov (.fr 0), .tm, none⟩, []),
 (⟨.nilck (.tm 0), .tm, none⟩, []),
 (⟨.faddr 5 (.tm 0), .tm, none⟩, []),
 (⟨.load1 (.tm 0), .tm, none⟩, []),
 (⟨.faddr 3 (.fr 4), .tm, none⟩, []),
 (⟨.load1 (.tm 0), .tm, none⟩, []),
 (⟨.mm true (.tm 2) (.tm 0), .tm, none⟩, []),
 (⟨.nilck (.tm 7), .tm, none⟩, []),
 (⟨.faddr 5 (.tm 0), .tm, none⟩, []),
 (⟨.store1 (.tm 0) (.tm 2), .no, none⟩, [])])
 (.skip)) <|
 .seq (.reg [
 ⟨.faddr 4 (.fr 4), .tm, none⟩,
 ⟨.load1 (.tm 0), .tm, none⟩,
 ⟨.mov (.tm 0), .fr 2, none⟩,
 ⟨.mov (.c (.int .i64 0)), .fr 3, none⟩]) <|
 .ret, [.t 2, .t 3]⟩
def f38 : AFunc := ⟨[0, 1, 4, 5, 6, 7, 13, 16, 33, 45, 82],
 .seq (.reg [
 ⟨.mov (.c (.string ByteArray.empty)), .fr 2, none⟩,
 ⟨.mov (.c (.int .i64 0)), .fr 3, none⟩]) <|
 .seq (.reg [
 ⟨.mov (.fr 1), .tm, none⟩,
 ⟨.callf 25 [(.tm 0)], .tm, none⟩,
 ⟨.mov (.tm 0), .tm, none⟩,
 ⟨.extract (.tm 0) 0, .tm, none⟩,
 ⟨.extract (.tm 1) 1, .tm, none⟩,
 ⟨.new 69 5 [(.int .u8 0), (.int .u8 0), (.int .i64 0), (.int .i64 0), (.string ByteArray.empty)], .fr 4, none⟩,
 ⟨.storen 5 (.fr 4) (.tm 1), .no, none⟩,
 ⟨.mov (.tm 0), .fr 5, none⟩]) <|
 .seq (.block 0 (.seq (.reg [
 ⟨.mov (.fr 5), .tm, none⟩,
 ⟨.un .not (.tm 0), .tm, none⟩,
 ⟨.mov (.tm 0), .fr 6, none⟩]) <|
 .cond (.fr 6)
 (.seq (.reg [
 ⟨.mov (.c (.string ByteArray.empty)), .fr 2, none⟩,
 ⟨.mov (.c (.int .i64 130)), .fr 3, none⟩]) <|
 .ret)
 (.seq (.dreg [
 (⟨.faddr 0 (.fr 4), .tm, none⟩, []),
 (⟨.load1 (.tm 0), .tm, none⟩, []),
 (⟨.mov (.fr 0), .tm, none⟩, []),
 (⟨.nilck (.tm 0), .tm, none⟩, []),
 (⟨.faddr 1 (.tm 0), .tm, none⟩, []),
 (⟨.load1 (.tm 0), .tm, none⟩, []),
 (⟨.bin .neq (.tm 4) (.tm 0), .tm, none⟩, []),
 (⟨.mov (.tm 0), .tm, none⟩, []),
 (⟨.faddr 1 (.fr 4), .tm, some ((.tm 0), false)⟩, []),
 (⟨.load1 (.tm 0), .tm, some ((.tm 1), false)⟩, []),
 (⟨.mov (.fr 0), .tm, some ((.tm 2), false)⟩, []),
 (⟨.nilck (.tm 0), .tm, some ((.tm 3), false)⟩, []),
 (⟨.faddr 0 (.tm 0), .tm, some ((.tm 4), false)⟩, []),
 (⟨.load1 (.tm 0), .tm, some ((.tm 5), false)⟩, []),
 (⟨.bin .neq (.tm 4) (.tm 0), .tm, some ((.tm 6), false)⟩, []),
 (⟨.pick (.tm 7) (.c (.bool true)) (.tm 0), .tm, none⟩, []),
 (⟨.mov (.tm 0), .fr 7, none⟩, [])]) <|
 .cond (.fr 7)
 (.seq (.reg [
 ⟨.mov (.c (.string ByteArray.empty)), .fr 2, none⟩,
 ⟨.mov (.c (.int .i64 2)), .fr 3, none⟩]) <|
 .ret)
 (.seq (.dreg [
 (⟨.faddr 2 (.fr 4), .tm, none⟩, []),
 (⟨.load1 (.tm 0), .tm, none⟩, []),
 (⟨.mov (.fr 0), .tm, none⟩, []),
 (⟨.nilck (.tm 0), .tm, none⟩, []),
 (⟨.faddr 3 (.tm 0), .tm, none⟩, []),
 (⟨.load1 (.tm 0), .tm, none⟩, []),
 (⟨.bin .leq (.tm 4) (.tm 0), .tm, none⟩, []),
 (⟨.mov (.tm 0), .fr 8, none⟩, [])]) <|
 .cond (.fr 8)
 (.seq (.reg [
 ⟨.mov (.c (.string ByteArray.empty)), .fr 2, none⟩,
 ⟨.mov (.c (.int .i64 180)), .fr 3, none⟩]) <|
 .ret)
 (.skip))))) <|
 .seq (.seq (.reg [
 ⟨.mov (.fr 0), .tm, none⟩,
 ⟨.nilck (.tm 0), .tm, none⟩,
 ⟨.faddr 3 (.tm 0), .tm, none⟩,
 ⟨.load1 (.tm 0), .tm, none⟩,
 ⟨.bin .gtr (.tm 0) (.c (.int .i64 0)), .fr 9, none⟩]) <|
 .cond (.fr 9)
 (.dreg [
 (⟨.mov (.fr 0), .tm, none⟩, []),
 (⟨.mov (.fr 0), .tm, none⟩, []),
 (⟨.nilck (.tm 0), .tm, none⟩, []),
 (⟨.faddr 5 (.tm 0), .tm, none⟩, []),
 (⟨.load1 (.tm 0), .tm, none⟩, []),
 (⟨.faddr 2 (.fr 4), .tm, none⟩, []),
 (⟨.load1 (.tm 0), .tm, none⟩, []),
 (⟨.bin .add (.tm 2) (.tm 0), .tm, none⟩, []),
 (⟨.mov (.fr 0), .tm, none⟩, []),
 (⟨.nilck (.tm 0), .tm, none⟩, []),
 (⟨.faddr 3 (.tm 0), .tm, none⟩, []),
 (⟨.load1 (.tm 0), .tm, none⟩, []),
 (⟨.bin .sub (.tm 4) (.tm 0), .tm, none⟩, []),
 (⟨.bin .sub (.tm 0) (.c (.int .i64 1)), .tm, none⟩, []),
 (⟨.nilck (.tm 13), .tm, none⟩, []),
 (⟨.faddr 5 (.tm 0), .tm, none⟩, []),
 (⟨.store1 (.tm 0) (.tm 2), .no, none⟩, [])])
 (.skip)) <|
 .seq (.reg [
 ⟨.mov (.fr 0), .tm, none⟩,
 ⟨.faddr 2 (.fr 4), .tm, none⟩,
 ⟨.load1 (.tm 0), .tm, none⟩,
 ⟨.nilck (.tm 2), .tm, none⟩,
 ⟨.faddr 3 (.tm 0), .tm, none⟩,
 ⟨.store1 (.tm 0) (.tm 2), .no, none⟩]) <|
 .seq (.seq (.dreg [
 (⟨.faddr 3 (.fr 4), .tm, none⟩, []),
 (⟨.load1 (.tm 0), .tm, none⟩, []),
 (⟨.mov (.fr 0), .tm, none⟩, []),
 (⟨.nilck (.tm 0), .tm, none⟩, []),
 (⟨.faddr 4 (.tm 0), .tm, none⟩, []),
 (⟨.load1 (.tm 0), .tm, none⟩, []),
 (⟨.bin .gtr (.tm 4) (.tm 0), .tm, none⟩, []),
 (⟨.mov (.tm 0), .tm, none⟩, []),
 (⟨.faddr 3 (.fr 4), .tm, some ((.tm 0), true)⟩, []),
 (⟨.load1 (.tm 0), .tm, some ((.tm 1), true)⟩, []),
 (⟨.mov (.fr 0), .tm, some ((.tm 2), true)⟩, []),
 (⟨.nilck (.tm 0), .tm, some ((.tm 3), true)⟩, []),
 (⟨.faddr 2 (.tm 0), .tm, some ((.tm 4), true)⟩, []),
 (⟨.load1 (.tm 0), .tm, some ((.tm 5), true)⟩, []),
 (⟨.bin .leq (.tm 4) (.tm 0), .tm, some ((.tm 6), true)⟩, []),
 (⟨.pick (.tm 7) (.tm 0) (.c (.bool false)), .fr 10, none⟩, [])]) <|
 .cond (.fr 10)
 (.reg [
 ⟨.mov (.fr 0), .tm, none⟩,
 ⟨.faddr 3 (.fr 4), .tm, none⟩,
 ⟨.load1 (.tm 0), .tm, none⟩,
 ⟨.nilck (.tm 2), .tm, none⟩,
 ⟨.faddr 4 (.tm 0), .tm, none⟩,
 ⟨.store1 (.tm 0) (.tm 2), .no, none⟩])
 (.skip)) <|
 .seq (.reg [
 ⟨.faddr 4 (.fr 4), .tm, none⟩,
 ⟨.load1 (.tm 0), .tm, none⟩,
 ⟨.mov (.tm 0), .fr 2, none⟩,
 ⟨.mov (.c (.int .i64 0)), .fr 3, none⟩]) <|
 .ret, [.t 2, .t 3]⟩
def f39 : AFunc := ⟨[0, 2, 4],
 .seq (.reg [
 ⟨.mov (.c (.int .i64 0)), .fr 1, none⟩]) <|
 .seq (.seq (.reg [
 ⟨.mov (.fr 0), .tm, none⟩,
 ⟨.eqv 1 false (.tm 0) (.c (.pointer none)), .fr 2, none⟩]) <|
 .cond (.fr 2)
 (.seq (.reg [
 ⟨.mov (.c (.int .i64 0)), .fr 1, none⟩]) <|
 .ret)
 (.skip)) <|
 .seq (.reg [
 ⟨.mov (.fr 0), .tm, none⟩,
 ⟨.nilck (.tm 0), .tm, none⟩,
 ⟨.faddr 0 (.tm 0), .tm, none⟩,
 ⟨.faddr 2 (.tm 0), .tm, none⟩,
 ⟨.load1 (.tm 0), .tm, none⟩,
 ⟨.mov (.tm 0), .fr 1, none⟩]) <|
 .ret, [.t 1]⟩
def f40 : AFunc := ⟨[0, 2, 4],
 .seq (.reg [
 ⟨.mov (.c (.int .i64 0)), .fr 1, none⟩]) <|
 .seq (.seq (.reg [
 ⟨.mov (.fr 0), .tm, none⟩,
 ⟨.eqv 1 false (.tm 0) (.c (.pointer none)), .fr 2, none⟩]) <|
 .cond (.fr 2)
 (.seq (.reg [
 ⟨.mov (.c (.int .i64 0)), .fr 1, none⟩]) <|
 .ret)
 (.skip)) <|
 .seq (.reg [
 ⟨.mov (.fr 0), .tm, none⟩,
 ⟨.nilck (.tm 0), .tm, none⟩,
 ⟨.faddr 0 (.tm 0), .tm, none⟩,
 ⟨.faddr 3 (.tm 0), .tm, none⟩,
 ⟨.load1 (.tm 0), .tm, none⟩,
 ⟨.mov (.tm 0), .fr 1, none⟩]) <|
 .ret, [.t 1]⟩
def f41 : AFunc := ⟨[0, 2, 4],
 .seq (.reg [
 ⟨.mov (.c (.int .i64 0)), .fr 1, none⟩]) <|
 .seq (.seq (.reg [
 ⟨.mov (.fr 0), .tm, none⟩,
 ⟨.eqv 1 false (.tm 0) (.c (.pointer none)), .fr 2, none⟩]) <|
 .cond (.fr 2)
 (.seq (.reg [
 ⟨.mov (.c (.int .i64 0)), .fr 1, none⟩]) <|
 .ret)
 (.skip)) <|
 .seq (.reg [
 ⟨.mov (.fr 0), .tm, none⟩,
 ⟨.nilck (.tm 0), .tm, none⟩,
 ⟨.faddr 5 (.tm 0), .tm, none⟩,
 ⟨.load1 (.tm 0), .tm, none⟩,
 ⟨.mov (.tm 0), .fr 1, none⟩]) <|
 .ret, [.t 1]⟩
def f42 : AFunc := ⟨[0, 2, 4],
 .seq (.reg [
 ⟨.mov (.c (.int .i64 0)), .fr 1, none⟩]) <|
 .seq (.seq (.reg [
 ⟨.mov (.fr 0), .tm, none⟩,
 ⟨.eqv 1 false (.tm 0) (.c (.pointer none)), .fr 2, none⟩]) <|
 .cond (.fr 2)
 (.seq (.reg [
 ⟨.mov (.c (.int .i64 0)), .fr 1, none⟩]) <|
 .ret)
 (.skip)) <|
 .seq (.reg [
 ⟨.mov (.fr 0), .tm, none⟩,
 ⟨.nilck (.tm 0), .tm, none⟩,
 ⟨.faddr 6 (.tm 0), .tm, none⟩,
 ⟨.load1 (.tm 0), .tm, none⟩,
 ⟨.mov (.tm 0), .fr 1, none⟩]) <|
 .ret, [.t 1]⟩
theorem f4_ok : compF Go.Proofs.Try.prog 0 [0, 1, 2, 3, 8, 9, 10, 11, 12, 13, 14, 15, 16, 17, 18, 19, 20, 21, 22, 23, 24, 26, 40, 51, 55, 68, 72, 105, 109, 123, 124, 153, 187] 4 = some f4 := by kernel_rfl
theorem f4_n : argsOK Go.Proofs.Try.prog 4 4 = true := by kernel_rfl
theorem f30_ok : compF Go.Proofs.Try.prog 0 [0, 2, 3, 4, 7, 11, 34] 30 = some f30 := by kernel_rfl
theorem f30_n : argsOK Go.Proofs.Try.prog 30 1 = true := by kernel_rfl
theorem f31_ok : compF Go.Proofs.Try.prog 0 [0, 1, 2, 3, 4, 5, 7, 9, 10, 11, 12, 13, 16, 30] 31 = some f31 := by kernel_rfl
theorem f31_n : argsOK Go.Proofs.Try.prog 31 0 = true := by kernel_rfl
theorem f32_ok : compF Go.Proofs.Try.prog 0 [0, 1, 2, 6, 7, 18] 32 = some f32 := by kernel_rfl
theorem f32_n : argsOK Go.Proofs.Try.prog 32 3 = true := by kernel_rfl
theorem f33_ok : compF Go.Proofs.Try.prog 0 [0, 1, 2, 6, 17] 33 = some f33 := by kernel_rfl
theorem f33_n : argsOK Go.Proofs.Try.prog 33 3 = true := by kernel_rfl
theorem f34_ok : compF Go.Proofs.Try.prog 0 [0, 1, 4, 5, 6, 7, 10] 34 = some f34 := by kernel_rfl
theorem f34_n : argsOK Go.Proofs.Try.prog 34 2 = true := by kernel_rfl
theorem f35_ok : compF Go.Proofs.Try.prog 0 [0, 1, 4, 5, 15] 35 = some f35 := by kernel_rfl
theorem f35_n : argsOK Go.Proofs.Try.prog 35 2 = true := by kernel_rfl
theorem f37_ok : compF Go.Proofs.Try.prog 0 [0, 1, 4, 5, 6, 7, 9, 15, 19, 38, 52, 82] 37 = some f37 := by kernel_rfl
theorem f37_n : argsOK Go.Proofs.Try.prog 37 2 = true := by kernel_rfl
theorem f38_ok : compF Go.Proofs.Try.prog 0 [0, 1, 4, 5, 6, 7, 13, 16, 33, 45, 82] 38 = some f38 := by kernel_rfl
theorem f38_n : argsOK Go.Proofs.Try.prog 38 2 = true := by kernel_rfl
theorem f39_ok : compF Go.Proofs.Try.prog 0 [0, 2, 4] 39 = some f39 := by kernel_rfl
theorem f39_n : argsOK Go.Proofs.Try.prog 39 1 = true := by kernel_rfl
theorem f40_ok : compF Go.Proofs.Try.prog 0 [0, 2, 4] 40 = some f40 := by kernel_rfl
theorem f40_n : argsOK Go.Proofs.Try.prog 40 1 = true := by kernel_rfl
theorem f41_ok : compF Go.Proofs.Try.prog 0 [0, 2, 4] 41 = some f41 := by kernel_rfl
theorem f41_n : argsOK Go.Proofs.Try.prog 41 1 = true := by kernel_rfl
theorem f42_ok : compF Go.Proofs.Try.prog 0 [0, 2, 4] 42 = some f42 := by kernel_rfl
theorem f42_n : argsOK Go.Proofs.Try.prog 42 1 = true := by kernel_rfl
end Go.AM.F
