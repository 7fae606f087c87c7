/- Part of the proof. -/
import Derived.Test.YtlmikadohcdclaaGKnown02
set_option linter.unusedSimpArgs false
set_option linter.unusedVariables false
namespace Go.AM.Fd
open Nat (reduceAdd reduceEqDiff reduceLT reduceLeDiff reduceMul reduceSub)
open Go.Proofs Go.AM.F
def DV : Nat := 3988292384
def ah (r : Nat) : Nat := if r % 2 = 1 then r / 2 ^^^ DV else r / 2
def ei : Nat → Nat → Nat
 | 0, r => r
 | n + 1, r => ei n (ah r)
def crcS (r : Nat) (c : UInt8) : Nat := ei 8 (r ^^^ c.toNat)
def crcL (l : List UInt8) : Nat := l.foldl crcS 4294967295
def crc (l : List UInt8) : Nat := 4294967295 ^^^ crcL l
theorem ah_lt {r : Nat} (h : r < 4294967296) : ah r < 4294967296 := by
 unfold ah
 split
 ·exact Nat.xor_lt_two_pow (n := 32) (by omega) (by decide)
 ·omega
theorem ei_lt : ∀ n {r : Nat}, r < 4294967296 → ei n r < 4294967296
 | 0, _, h => h
 | n + 1, _, h => ei_lt n (ah_lt h)
theorem xc_lt {r : Nat} (h : r < 4294967296) (c : UInt8) : r ^^^ c.toNat < 4294967296 := Nat.xor_lt_two_pow (n := 32) (by omega) (by have := c.toNat_lt; omega)
theorem crcS_lt {r : Nat} (h : r < 4294967296) (c : UInt8) : crcS r c < 4294967296 := ei_lt 8 (xc_lt h c)
theorem fold_lt : ∀ (l : List UInt8) {r : Nat}, r < 4294967296 → l.foldl crcS r < 4294967296
 | [], _, h => h
 | c :: l, _, h => fold_lt l (crcS_lt h c)
theorem crcL_lt (l : List UInt8) : crcL l < 4294967296 := fold_lt l (by decide)
theorem crc_lt (l : List UInt8) : crc l < 4294967296 := Nat.xor_lt_two_pow (n := 32) (by decide) (crcL_lt l)
theorem t94 (r : Nat) (hr : r < 4294967296) (H : AHeap) : ∃ v H', ARun Go.Proofs.Try.prog 0 94 [.int .u32 r] H v H' ∧ v = .int .u32 (ah r) ∧ H' = H := by
 refine walk2 f94_ok f94_n ?_
 intro Q hq1 hq2
 have h1 : IntKind.u32.wrap ((BitVec.ofInt IntKind.u32.bits (r : Int) &&& BitVec.ofInt IntKind.u32.bits 1).toNat : Int) = ((r % 2 : Nat) : Int) := w_and1 (k := .u32) rfl hr
 have h2 : binA .shr (.int .u32 (r : Int)) (.int .u64 1) = some (.int .u32 ((r / 2 : Nat) : Int)) := b_shrN (k := .u32) (k' := .u64) (n := r) (s := 1) (by decide)
 have h3 : IntKind.u32.wrap ((BitVec.ofInt IntKind.u32.bits ((r / 2 : Nat) : Int) ^^^ BitVec.ofInt IntKind.u32.bits 3988292384).toNat : Int) = ((r / 2 ^^^ DV : Nat) : Int) := w_xor32 (b := DV) (by omega) (by decide)
 by_cases h : r % 2 = 1
 ·have h4 : (0 : Int) < ((r % 2 : Nat) : Int) := by omega
  simp (disch := first | assumption | omega | (simp only [LN] <;> omega) | (simp (disch := first | assumption | omega | (simp only [LN] <;> omega)) only [row_alloc, row_set]; assumption)) only [f94, W_block, P3, ↓reduceIte, reduceAdd, reduceEqDiff, reduceCtorEq, initFr, reduceLT, clsA, reduceLeDiff, reduceMul, reduceSub, reduceIte, h1, h2, h3, h4]
  exact hq2 _ _ ⟨_, rfl, by rw [ah, if_pos h]; rfl, rfl⟩
 ·have h4 : ¬ (0 : Int) < ((r % 2 : Nat) : Int) := by omega
  simp (disch := first | assumption | omega | (simp only [LN] <;> omega) | (simp (disch := first | assumption | omega | (simp only [LN] <;> omega)) only [row_alloc, row_set]; assumption)) only [f94, W_block, P3, ↓reduceIte, reduceAdd, reduceEqDiff, reduceCtorEq, initFr, reduceLT, clsA, reduceLeDiff, reduceMul, reduceSub, reduceIte, h1, h2, h3, h4]
  exact hq2 _ _ ⟨_, rfl, by rw [ah, if_neg h]; rfl, rfl⟩
theorem t93 (r : Nat) (hr : r < 4294967296) (H : AHeap) : ∃ v H', ARun Go.Proofs.Try.prog 0 93 [.int .u32 r, .func (.func 94) #[] #[]] H v H' ∧ v = .int .u32 (ei 8 r) ∧ H' = H := by
 refine walk2 f93_ok f93_n ?_
 intro Q hq1 hq2
 simp (disch := first | assumption | omega | (simp only [LN] <;> omega) | (simp (disch := first | assumption | omega | (simp only [LN] <;> omega)) only [row_alloc, row_set]; assumption)) only [f93, W_block, P3, ↓reduceIte, reduceAdd, reduceEqDiff, reduceCtorEq, initFr, reduceLT, clsA, reduceLeDiff, reduceMul, reduceSub, reduceIte]
 refine W_loop2 (fun q fr K => K = H ∧ ∃ (i s : Nat) (a : Value), i ≤ 8 ∧ q = 8 - i ∧ s < 4294967296 ∧ ei (8 - i) s = ei 8 r ∧ fr = [.int .u32 s, .func (.func 94) #[] #[], .int .u32 0, .int .i64 i, a]) 8 ⟨rfl, 0, r, undef, by omega, rfl, hr, rfl, rfl⟩ ?_
 rintro Q' q fr K ⟨rfl, i, s, a, hi, rfl, hs, he8, rfl⟩ hn he hrt
 by_cases hc : i < 8
 ·simp (disch := first | assumption | omega | (simp only [LN] <;> omega) | (simp (disch := first | assumption | omega | (simp only [LN] <;> omega)) only [row_alloc, row_set]; assumption)) only [W_block, P3, ↓reduceIte, reduceAdd, reduceEqDiff, reduceCtorEq, initFr, reduceLT, clsA, reduceLeDiff, reduceMul, reduceSub, reduceIte]
  refine callK (t94 s hs K) ?_
  rintro _ _ ⟨rfl, rfl⟩
  simp (disch := first | assumption | omega | (simp only [LN] <;> omega) | (simp (disch := first | assumption | omega | (simp only [LN] <;> omega)) only [row_alloc, row_set]; assumption)) only [W_block, P3, ↓reduceIte, reduceAdd, reduceEqDiff, reduceCtorEq, initFr, reduceLT, clsA, reduceLeDiff, reduceMul, reduceSub, reduceIte, wrap_succ (n := i) (by omega)]
  refine hn _ _ _ ⟨rfl, i + 1, ah s, _, by omega, rfl, ah_lt hs, ?_, rfl⟩ (by omega)
  rw [← he8, show 8 - i = (8 - (i + 1)) + 1 by omega]; rfl
 ·obtain rfl : i = 8 := by omega
  simp (disch := first | assumption | omega | (simp only [LN] <;> omega) | (simp (disch := first | assumption | omega | (simp only [LN] <;> omega)) only [row_alloc, row_set]; assumption)) only [W_block, P3, ↓reduceIte, reduceAdd, reduceEqDiff, reduceCtorEq, initFr, reduceLT, clsA, reduceLeDiff, reduceMul, reduceSub, reduceIte]
  refine he _ _ _ ?_
  simp (disch := first | assumption | omega | (simp only [LN] <;> omega) | (simp (disch := first | assumption | omega | (simp only [LN] <;> omega)) only [row_alloc, row_set]; assumption)) only [W_block, P3, ↓reduceIte, reduceAdd, reduceEqDiff, reduceCtorEq, initFr, reduceLT, clsA, reduceLeDiff, reduceMul, reduceSub, reduceIte]
  exact hq2 _ _ ⟨_, rfl, by rw [← he8]; rfl, rfl⟩
theorem t87 {H : AHeap} {x : Value} {l : List UInt8} (hx : BS H x l) (hl : l.length ≤ 1000000000) : ∃ v H', ARun Go.Proofs.Try.prog 0 87 [x] H v H' ∧ v = .int .u32 (crc l) ∧ H' = H := by
 refine walk2 f87_ok f87_n ?_
 intro Q hq1 hq2
 have hs := hx.sl
 have his := hs.is
 have hlen := hs.len
 rw [List.length_map] at hlen
 simp (disch := first | assumption | omega | (simp only [LN] <;> omega) | (simp (disch := first | assumption | omega | (simp only [LN] <;> omega)) only [row_alloc, row_set]; assumption)) only [f87, W_block, P3, ↓reduceIte, reduceAdd, reduceEqDiff, reduceCtorEq, initFr, reduceLT, clsA, reduceLeDiff, reduceMul, reduceSub, reduceIte, hlen]
 refine W_loop2 (fun q fr K => K = H ∧ ∃ (i : Nat) (y a : Value), i ≤ l.length ∧ q = l.length - i ∧ fr = [x, .int .u32 0, .int .u32 ((l.take i).foldl crcS 4294967295 : Nat), y, x, .int .i64 l.length, .int .i64 i, a]) l.length ⟨rfl, 0, undef, undef, by omega, rfl, rfl⟩ ?_
 rintro Q' q fr K ⟨rfl, i, y, a, hi, rfl, rfl⟩ hn he hrt
 have hr := fold_lt (l.take i) (r := 4294967295) (by decide)
 generalize hR : (l.take i).foldl crcS 4294967295 = R at hr ⊢
 by_cases hc : i < l.length
 ·obtain ⟨hnn, hrow⟩ := hs.at_ (by omega) (i := i) (by simpa using hc)
  rw [List.getElem_map] at hrow
  have hw : IntKind.u32.wrap (l[i].toNat : Int) = l[i].toNat := by rw [wrap_u32]; have := l[i].toNat_lt; omega
  have hw2 := w_xor32 (a := R) (b := l[i].toNat) hr (by have := l[i].toNat_lt; omega)
  simp (disch := first | assumption | omega | (simp only [LN] <;> omega) | (simp (disch := first | assumption | omega | (simp only [LN] <;> omega)) only [row_alloc, row_set]; assumption)) only [W_block, P3, ↓reduceIte, reduceAdd, reduceEqDiff, reduceCtorEq, initFr, reduceLT, clsA, reduceLeDiff, reduceMul, reduceSub, reduceIte, hlen, hw, hw2]
  refine callK (t93 _ (xc_lt hr l[i]) K) ?_
  rintro _ _ ⟨rfl, rfl⟩
  simp (disch := first | assumption | omega | (simp only [LN] <;> omega) | (simp (disch := first | assumption | omega | (simp only [LN] <;> omega)) only [row_alloc, row_set]; assumption)) only [W_block, P3, ↓reduceIte, reduceAdd, reduceEqDiff, reduceCtorEq, initFr, reduceLT, clsA, reduceLeDiff, reduceMul, reduceSub, reduceIte, wrap_succ (n := i) (by omega)]
  refine hn _ _ _ ⟨rfl, i + 1, .int .u8 l[i].toNat, .bool true, by omega, rfl, ?_⟩ (by omega)
  rw [List.take_succ_eq_append_getElem hc, List.foldl_append, hR]
  rfl
 ·simp (disch := first | assumption | omega | (simp only [LN] <;> omega) | (simp (disch := first | assumption | omega | (simp only [LN] <;> omega)) only [row_alloc, row_set]; assumption)) only [W_block, P3, ↓reduceIte, reduceAdd, reduceEqDiff, reduceCtorEq, initFr, reduceLT, clsA, reduceLeDiff, reduceMul, reduceSub, reduceIte]
  refine he _ _ _ ?_
  have hw2 := w_xor32 (a := 4294967295) (b := R) (by decide) hr
  simp (disch := first | assumption | omega | (simp only [LN] <;> omega) | (simp (disch := first | assumption | omega | (simp only [LN] <;> omega)) only [row_alloc, row_set]; assumption)) only [W_block, P3, ↓reduceIte, reduceAdd, reduceEqDiff, reduceCtorEq, initFr, reduceLT, clsA, reduceLeDiff, reduceMul, reduceSub, reduceIte, a_uxor]
  rw [List.take_of_length_le (by omega)] at hR
  exact hq2 _ _ ⟨_, rfl, by unfold crc crcL; rw [hR, ← hw2]; rfl, rfl⟩
def TB : List Nat := [1996959894, 3993919788, 124634137, 249268274, 498536548, 997073096, 1994146192, 3988292384]
def CTB : List Value := [.int .u32 1996959894, .int .u32 3993919788, .int .u32 124634137, .int .u32 249268274, .int .u32 498536548, .int .u32 997073096, .int .u32 1994146192, .int .u32 3988292384]
def gk (u n : Nat) : Nat → Nat
 | 0 => n
 | k + 1 => if u / 2 ^ k % 2 = 1 then gk u n k ^^^ TB.getD k 0 else gk u n k
theorem CTB_at {k : Nat} (h : k < 8) : CTB[k]? = some (.int .u32 (TB.getD k 0 : Nat)) := by
 obtain rfl | rfl | rfl | rfl | rfl | rfl | rfl | rfl : k = 0 ∨ k = 1 ∨ k = 2 ∨ k = 3 ∨ k = 4 ∨ k = 5 ∨ k = 6 ∨ k = 7 := by omega
 all_goals rfl
theorem TB_lt (k : Nat) : TB.getD k 0 < 4294967296 := by
 by_cases h : k < 8
 ·obtain rfl | rfl | rfl | rfl | rfl | rfl | rfl | rfl : k = 0 ∨ k = 1 ∨ k = 2 ∨ k = 3 ∨ k = 4 ∨ k = 5 ∨ k = 6 ∨ k = 7 := by omega
  all_goals decide
 ·rw [List.getD_eq_getElem?_getD, List.getElem?_eq_none (by simp [TB]; omega)]; decide
theorem gk_lt {u n : Nat} (h : n < 4294967296) : ∀ k, gk u n k < 4294967296
 | 0 => h
 | k + 1 => by
  rw [gk]
  split
  ·exact Nat.xor_lt_two_pow (n := 32) (gk_lt h k) (TB_lt k)
  ·exact gk_lt h k
theorem bit_half (x k : Nat) : x / 2 ^ k / 2 = x / 2 ^ (k + 1) := by rw [Nat.div_div_eq_div_mul, Nat.pow_succ]
theorem xor_half (a b : Nat) : (a ^^^ b) / 2 = a / 2 ^^^ b / 2 := Nat.xor_div_two ..
theorem xor_par (a b : Nat) : (a ^^^ b) % 2 = (a % 2) ^^^ (b % 2) := Nat.xor_mod_two_pow (n := 1)
theorem ah_xor (a b : Nat) : ah (a ^^^ b) = ah a ^^^ ah b := by
 unfold ah
 rw [xor_half, xor_par]
 rcases Nat.mod_two_eq_zero_or_one a with h1 | h1 <;> rcases Nat.mod_two_eq_zero_or_one b with h2 | h2 <;> simp only [h1, h2, Nat.reduceXor, if_true, if_false, Nat.reduceEqDiff, Nat.zero_ne_one]
 ·rw [Nat.xor_assoc]
 ·rw [Nat.xor_assoc, Nat.xor_assoc, Nat.xor_comm DV]
 ·rw [show (a / 2 ^^^ DV) ^^^ (b / 2 ^^^ DV) = (a / 2 ^^^ b / 2) ^^^ (DV ^^^ DV) by rw [Nat.xor_assoc, Nat.xor_assoc, ← Nat.xor_assoc DV, ← Nat.xor_assoc (b / 2), Nat.xor_comm DV (b / 2)], Nat.xor_self, Nat.xor_zero]
theorem ei_xor : ∀ n a b, ei n (a ^^^ b) = ei n a ^^^ ei n b
 | 0, _, _ => rfl
 | n + 1, a, b => by rw [ei, ah_xor, ei_xor n]; rfl
def dd (k x : Nat) : Nat := if x / 2 ^ k % 2 = 1 then DV else 0
def tt (x k : Nat) : Nat := if x / 2 ^ k % 2 = 1 then TB.getD k 0 else 0
theorem ah_dd (x : Nat) : ah x = x / 2 ^^^ dd 0 x := by
 unfold ah dd
 rw [Nat.pow_zero, Nat.div_one]
 split
 ·rfl
 ·rw [Nat.xor_zero]
theorem ei_dd {m k : Nat} (x : Nat) (h : ei m DV = TB.getD k 0) : ei m (dd k x) = tt x k := by
 unfold dd tt
 split
 ·exact h
 ·have : ∀ n, ei n 0 = 0 := fun n => by induction n with
   | zero => rfl
   | succ n ih => rw [ei, show ah 0 = 0 from rfl, ih]
  exact this m
theorem dd_half (x k : Nat) : dd 0 (x / 2 ^ k) = dd k x := by unfold dd; rw [Nat.pow_zero, Nat.div_one]
theorem ei_step (m k x : Nat) (h : ei m DV = TB.getD k 0) : ei (m + 1) (x / 2 ^ k) = ei m (x / 2 ^ (k + 1)) ^^^ tt x k := by
 rw [ei, ah_dd, dd_half, bit_half, ei_xor, ei_dd x h]
theorem ei8 (x : Nat) : ei 8 x = x / 256 ^^^ tt x 7 ^^^ tt x 6 ^^^ tt x 5 ^^^ tt x 4 ^^^ tt x 3 ^^^ tt x 2 ^^^ tt x 1 ^^^ tt x 0 := by
 have h := ei_step 7 0 x (by decide)
 rw [Nat.pow_zero, Nat.div_one] at h
 rw [h, ei_step 6 1 x (by decide), ei_step 5 2 x (by decide), ei_step 4 3 x (by decide), ei_step 3 4 x (by decide), ei_step 2 5 x (by decide), ei_step 1 6 x (by decide), ei_step 0 7 x (by decide)]
 rfl
theorem gk_tt (u n k : Nat) : gk u n (k + 1) = gk u n k ^^^ tt u k := by
 rw [gk, tt]
 split
 ·rfl
 ·rw [Nat.xor_zero]
theorem gk8 (u n : Nat) : gk u n 8 = n ^^^ tt u 7 ^^^ tt u 6 ^^^ tt u 5 ^^^ tt u 4 ^^^ tt u 3 ^^^ tt u 2 ^^^ tt u 1 ^^^ tt u 0 := by
 rw [gk_tt, gk_tt, gk_tt, gk_tt, gk_tt, gk_tt, gk_tt, gk_tt, gk]
 ac_rfl
theorem crcS_gk (n : Nat) (c : UInt8) : crcS n c = gk ((n % 256) ^^^ c.toNat) (n / 256) 8 := by
 have hc := c.toNat_lt
 have h1 : (n % 256) ^^^ c.toNat = (n ^^^ c.toNat) % 256 := by
  have := Nat.xor_mod_two_pow (a := n) (b := c.toNat) (n := 8)
  rw [show 2 ^ 8 = 256 from rfl] at this
  rw [this, Nat.mod_eq_of_lt hc]
 have h2 : n / 256 = (n ^^^ c.toNat) / 256 := by
  have := Nat.xor_div_two_pow (a := n) (b := c.toNat) (n := 8)
  rw [show 2 ^ 8 = 256 from rfl] at this
  rw [this, Nat.div_eq_of_lt hc, Nat.xor_zero]
 have h3 : ∀ k, k < 8 → tt ((n ^^^ c.toNat) % 256) k = tt (n ^^^ c.toNat) k := by
  intro k hk
  unfold tt
  have : (n ^^^ c.toNat) % 256 / 2 ^ k % 2 = (n ^^^ c.toNat) / 2 ^ k % 2 := by
   generalize n ^^^ c.toNat = x
   obtain rfl | rfl | rfl | rfl | rfl | rfl | rfl | rfl : k = 0 ∨ k = 1 ∨ k = 2 ∨ k = 3 ∨ k = 4 ∨ k = 5 ∨ k = 6 ∨ k = 7 := by omega
   all_goals (simp only [Nat.reducePow]; omega)
  rw [this]
 unfold crcS
 rw [ei8, gk8, h1, h2, h3 0 (by omega), h3 1 (by omega), h3 2 (by omega), h3 3 (by omega), h3 4 (by omega), h3 5 (by omega), h3 6 (by omega), h3 7 (by omega)]
theorem fillTB : fillA [(.int .u32 0), (.int .u32 0), (.int .u32 0), (.int .u32 0), (.int .u32 0), (.int .u32 0), (.int .u32 0), (.int .u32 0)] [(0, 1, .int .u32 1996959894), (1, 1, .int .u32 3993919788), (2, 1, .int .u32 124634137), (3, 1, .int .u32 249268274), (4, 1, .int .u32 498536548), (5, 1, .int .u32 997073096), (6, 1, .int .u32 1994146192), (7, 1, .int .u32 3988292384)] = some CTB := rfl
theorem CTB_o : (CTB.all Value.oneCell' = true ∧ CTB.length = 8) = True := by simp [CTB, Value.oneCell']
theorem CTB_n : CTB.length = 8 := rfl
theorem t98 {H : AHeap} {x : Value} {l : List UInt8} (hx : BS H x l) (n : Nat) (hn : n < 4294967296) (hl : l.length ≤ 1000000000) : ∃ v H', ARun Go.Proofs.Try.prog 0 98 [.int .u32 n, x] H v H' ∧ v = .int .u32 (l.foldl crcS n : Nat) ∧ Keeps H H' := by
 refine walk2 f98_ok f98_n ?_
 intro Q hq1 hq2
 have his := hx.sl.is
 have hlen := hx.sl.len
 rw [List.length_map] at hlen
 simp (disch := first | assumption | omega | (simp only [LN] <;> omega) | (simp (disch := first | assumption | omega | (simp only [LN] <;> omega)) only [row_alloc, row_set]; assumption)) only [f98, W_block, P3, ↓reduceIte, reduceAdd, reduceEqDiff, reduceCtorEq, initFr, reduceLT, clsA, reduceLeDiff, reduceMul, reduceSub, reduceIte, hlen, fillTB, CTB_o]
 obtain ⟨Ha, hHa⟩ : ∃ X, X = H.alloc (.cells true false 1 CTB 24) := ⟨_, rfl⟩
 have ka := (Keeps.refl H).alloc (.cells true false 1 CTB 24)
 have g := AHeap.get_alloc_new H (.cells true false 1 CTB 24)
 rw [← hHa] at ka g ⊢
 have la := AHeap.get_lt g
 have hs := hx.sl.keeps ka
 refine W_loop2 (fun q fr K => K = Ha ∧ ∃ (i : Nat) (u k a b e : Value), i ≤ l.length ∧ q = l.length - i ∧ fr = [.int .u32 ((l.take i).foldl crcS n : Nat), x, .int .u32 0, slc H.n 0 8 8, .int .i64 i, u, k, a, b, e]) l.length ⟨rfl, 0, undef, undef, undef, undef, undef, by omega, rfl, rfl⟩ ?_
 rintro Q' q fr K ⟨rfl, i, u, k, a, b, e, hi, rfl, rfl⟩ hn' he hrt
 have hr := fold_lt (l.take i) hn
 generalize hR : (l.take i).foldl crcS n = R at hr ⊢
 by_cases hc : i < l.length
 ·obtain ⟨hnn, hrow⟩ := hs.at_ (by omega) (i := i) (by simpa using hc)
  rw [List.getElem_map] at hrow
  have hw : IntKind.u8.wrap (R : Int) = ((R % 256 : Nat) : Int) := by rw [wrap_u8]; omega
  have hw2 := w_xor8 (a := R % 256) (b := l[i].toNat) (by omega) (by have := l[i].toNat_lt; omega)
  have hw3 : binA .shr (.int .u32 (R : Int)) (.int .u64 8) = some (.int .u32 ((R / 256 : Nat) : Int)) := b_shrN (k := .u32) (k' := .u64) (n := R) (s := 8) (by decide)
  simp (disch := first | assumption | omega | (simp only [LN] <;> omega) | (simp (disch := first | assumption | omega | (simp only [LN] <;> omega)) only [row_alloc, row_set]; assumption)) only [W_block, P3, ↓reduceIte, reduceAdd, reduceEqDiff, reduceCtorEq, initFr, reduceLT, clsA, reduceLeDiff, reduceMul, reduceSub, reduceIte, hlen, hw, hw2, hw3]
  have hU : R % 256 ^^^ l[i].toNat < 256 := Nat.xor_lt_two_pow (n := 8) (by omega) (by have := l[i].toNat_lt; omega)
  have hS : crcS R l[i] = gk (R % 256 ^^^ l[i].toNat) (R / 256) 8 := crcS_gk R l[i]
  generalize R % 256 ^^^ l[i].toNat = U at hU hS ⊢
  refine W_loop2 (fun q fr K' => K' = K ∧ ∃ (k : Nat) (b e : Value), k ≤ 8 ∧ q = 8 - k ∧ fr = [.int .u32 (gk U (R / 256) k : Nat), x, .int .u32 0, slc H.n 0 8 8, .int .i64 i, .int .u8 (U : Nat), .int .i64 k, .bool true, b, e]) 8 ⟨rfl, 0, _, _, by omega, rfl, rfl⟩ ?_
  rintro Q2 q fr K' ⟨rfl, k, b, e, hk, rfl, rfl⟩ hn2 he2 hr2
  have hG := gk_lt (u := U) (n := R / 256) (by omega) k
  by_cases hk8 : k < 8
  ·have h1 : binA .shr (.int .u8 (U : Int)) (.int .i64 (k : Int)) = some (.int .u8 ((U / 2 ^ k : Nat) : Int)) := b_shrN (k := .u8) (k' := .i64) (by show k ≤ 8; omega)
   have h2 : IntKind.u8.wrap ((BitVec.ofInt IntKind.u8.bits ((U / 2 ^ k : Nat) : Int) &&& BitVec.ofInt IntKind.u8.bits 1).toNat : Int) = ((U / 2 ^ k % 2 : Nat) : Int) := w_and1 (k := .u8) rfl (Nat.lt_of_le_of_lt (Nat.div_le_self ..) hU)
   have h3 := CTB_at hk8
   have h4 := w_xor32 hG (TB_lt k)
   by_cases hb : U / 2 ^ k % 2 = 1
   ·have h5 : ((U / 2 ^ k % 2 : Nat) : Int) = 1 := by omega
    simp (disch := first | assumption | omega | (simp only [LN] <;> omega) | (simp (disch := first | assumption | omega | (simp only [LN] <;> omega)) only [row_alloc, row_set]; assumption)) only [W_block, P3, ↓reduceIte, reduceAdd, reduceEqDiff, reduceCtorEq, initFr, reduceLT, clsA, reduceLeDiff, reduceMul, reduceSub, reduceIte, h1, h2, h3, h4, h5, g, CTB_n, wrap_succ (n := k) (by omega)]
    refine hn2 _ _ _ ⟨rfl, k + 1, .bool true, .bool true, by omega, rfl, ?_⟩ (by omega)
    rw [gk, if_pos hb]
   ·have h5 : ((U / 2 ^ k % 2 : Nat) : Int) ≠ 1 := by omega
    simp (disch := first | assumption | omega | (simp only [LN] <;> omega) | (simp (disch := first | assumption | omega | (simp only [LN] <;> omega)) only [row_alloc, row_set]; assumption)) only [W_block, P3, ↓reduceIte, reduceAdd, reduceEqDiff, reduceCtorEq, initFr, reduceLT, clsA, reduceLeDiff, reduceMul, reduceSub, reduceIte, h1, h2, h3, h4, h5, g, CTB_n, wrap_succ (n := k) (by omega)]
    refine hn2 _ _ _ ⟨rfl, k + 1, .bool true, .bool false, by omega, rfl, ?_⟩ (by omega)
    rw [gk, if_neg hb]
  ·obtain rfl : k = 8 := by omega
   simp (disch := first | assumption | omega | (simp only [LN] <;> omega) | (simp (disch := first | assumption | omega | (simp only [LN] <;> omega)) only [row_alloc, row_set]; assumption)) only [W_block, P3, ↓reduceIte, reduceAdd, reduceEqDiff, reduceCtorEq, initFr, reduceLT, clsA, reduceLeDiff, reduceMul, reduceSub, reduceIte]
   refine he2 _ _ _ ?_
   simp (disch := first | assumption | omega | (simp only [LN] <;> omega) | (simp (disch := first | assumption | omega | (simp only [LN] <;> omega)) only [row_alloc, row_set]; assumption)) only [W_block, P3, ↓reduceIte, reduceAdd, reduceEqDiff, reduceCtorEq, initFr, reduceLT, clsA, reduceLeDiff, reduceMul, reduceSub, reduceIte, wrap_succ (n := i) (by omega)]
   refine hn' _ _ _ ⟨rfl, i + 1, .int .u8 (U : Nat), .int .i64 8, .bool true, .bool false, e, by omega, rfl, ?_⟩ (by omega)
   rw [List.take_succ_eq_append_getElem hc, List.foldl_append, hR]
   simp only [List.foldl_cons, List.foldl_nil, hS]
   rfl
 ·simp (disch := first | assumption | omega | (simp only [LN] <;> omega) | (simp (disch := first | assumption | omega | (simp only [LN] <;> omega)) only [row_alloc, row_set]; assumption)) only [W_block, P3, ↓reduceIte, reduceAdd, reduceEqDiff, reduceCtorEq, initFr, reduceLT, clsA, reduceLeDiff, reduceMul, reduceSub, reduceIte, hlen]
  refine he _ _ _ ?_
  simp (disch := first | assumption | omega | (simp only [LN] <;> omega) | (simp (disch := first | assumption | omega | (simp only [LN] <;> omega)) only [row_alloc, row_set]; assumption)) only [W_block, P3, ↓reduceIte, reduceAdd, reduceEqDiff, reduceCtorEq, initFr, reduceLT, clsA, reduceLeDiff, reduceMul, reduceSub, reduceIte]
  rw [List.take_of_length_le (by omega)] at hR
  exact hq2 _ _ ⟨_, rfl, by rw [hR]; rfl, ka⟩
theorem t92 {H : AHeap} {x : Value} {l : List UInt8} (hx : BS H x l) (hl : l.length ≤ 1000000000) : ∃ v H', ARun Go.Proofs.Try.prog 0 92 [x] H v H' ∧ v = .int .u32 (crc l) ∧ Keeps H H' := by
 refine walk2 f92_ok f92_n ?_
 intro Q hq1 hq2
 simp (disch := first | assumption | omega | (simp only [LN] <;> omega) | (simp (disch := first | assumption | omega | (simp only [LN] <;> omega)) only [row_alloc, row_set]; assumption)) only [f92, W_block, P3, ↓reduceIte, reduceAdd, reduceEqDiff, reduceCtorEq, initFr, reduceLT, clsA, reduceLeDiff, reduceMul, reduceSub, reduceIte]
 refine callK (t98 hx 4294967295 (by decide) hl) ?_
 rintro _ K ⟨rfl, k⟩
 have hw2 := w_xor32 (a := 4294967295) (b := l.foldl crcS 4294967295) (by decide) (fold_lt l (by decide))
 simp (disch := first | assumption | omega | (simp only [LN] <;> omega) | (simp (disch := first | assumption | omega | (simp only [LN] <;> omega)) only [row_alloc, row_set]; assumption)) only [W_block, P3, ↓reduceIte, reduceAdd, reduceEqDiff, reduceCtorEq, initFr, reduceLT, clsA, reduceLeDiff, reduceMul, reduceSub, reduceIte, a_uxor]
 exact hq2 _ _ ⟨_, rfl, by unfold crc crcL; rw [← hw2]; rfl, k⟩
end Go.AM.Fd

namespace Go.AM.Fd
open Go.Proofs Go.AM.F
def val : List UInt8 → Nat
 | [] => 0
 | c :: l => c.toNat * 256 ^ l.length + val l
theorem val_lt : ∀ l, val l < 256 ^ l.length
 | [] => by simp [val]
 | c :: l => by
  have h1 := val_lt l
  have h2 := c.toNat_lt
  have h3 : c.toNat * 256 ^ l.length ≤ 255 * 256 ^ l.length := Nat.mul_le_mul_right _ (by omega)
  simp only [val, List.length_cons, Nat.pow_succ]
  omega
theorem fold_val : ∀ (l : List UInt8) (a : Nat), (a + 1) * 256 ^ l.length ≤ 18446744073709551616 → l.foldl (fun n b => (n * 256 + b.toNat) % 18446744073709551616) a = a * 256 ^ l.length + val l
 | [], a, h => by simp [val]
 | c :: l, a, h => by
  have h2 := c.toNat_lt
  have hp : 0 < 256 ^ l.length := Nat.pow_pos (by omega)
  rw [List.length_cons, Nat.pow_succ, Nat.mul_comm (256 ^ l.length), ← Nat.mul_assoc] at h
  have h3 : (a * 256 + c.toNat + 1) * 256 ^ l.length ≤ (a + 1) * 256 * 256 ^ l.length := Nat.mul_le_mul_right _ (by omega)
  have h4 : (a * 256 + c.toNat + 1) * 1 ≤ (a * 256 + c.toNat + 1) * 256 ^ l.length := Nat.mul_le_mul_left _ hp
  rw [List.foldl_cons, Nat.mod_eq_of_lt (by omega), fold_val l _ (by omega)]
  simp only [val, List.length_cons, Nat.pow_succ]
  rw [Nat.add_mul, Nat.mul_assoc a, Nat.mul_comm 256]
  omega
theorem num_val {l : List UInt8} (h : l.length ≤ 8) : num l = val l := by
 unfold num
 rw [fold_val l 0 ?_]
 ·omega
 ·have : 256 ^ l.length ≤ 256 ^ 8 := Nat.pow_le_pow_right (by omega) h
  have e : (256 : Nat) ^ 8 = 18446744073709551616 := by decide
  omega
theorem val_be : ∀ w n, val (be w n) = n % 256 ^ w
 | 0, n => by simp [be, val, Nat.mod_one]
 | w + 1, n => by
  have e1 : n % 256 ^ (w + 1) = (n / 256 ^ w % 256) * 256 ^ w + n % 256 ^ w := by
   rw [Nat.pow_succ, Nat.mod_mul, Nat.mul_comm (256 ^ w), Nat.add_comm]
  have e3 : (UInt8.ofNat (n / 256 ^ w)).toNat = n / 256 ^ w % 256 := by simp
  rw [be, val, be_length, val_be w, e3, e1]
theorem be_val : ∀ l : List UInt8, be l.length (val l) = l
 | [] => rfl
 | c :: l => by
  have h := val_lt l
  have hp : 0 < 256 ^ l.length := Nat.pow_pos (by omega)
  rw [List.length_cons, be, val]
  have e1 : (c.toNat * 256 ^ l.length + val l) / 256 ^ l.length = c.toNat := by
   rw [Nat.add_comm, Nat.add_mul_div_right _ _ hp, Nat.div_eq_of_lt h, Nat.zero_add]
  have e2 : be l.length (c.toNat * 256 ^ l.length + val l) = be l.length (val l) := by
   rw [← be_mod _ (c.toNat * 256 ^ l.length + val l) l.length (Nat.le_refl _), Nat.add_comm, Nat.add_mul_mod_self_right, Nat.mod_eq_of_lt h]
  rw [e1, e2, be_val l]
  simp
theorem num_be (w n : Nat) (h : w ≤ 8) : num (be w n) = n % 256 ^ w := by rw [num_val (by rw [be_length]; exact h), val_be]
theorem be_num (l : List UInt8) (h : l.length ≤ 8) : be l.length (num l) = l := by rw [num_val h, be_val]
def seg (l : List UInt8) (s w : Nat) : List UInt8 := if l.length < s + w then [] else (l.drop s).take w
def na (l : List UInt8) (s w : Nat) : Nat := num (seg l s w)
theorem na_lt (l : List UInt8) (s w : Nat) : na l s w < 256 ^ w := by
 unfold na
 have h1 := num_lt' (seg l s w)
 have h2 : (seg l s w).length ≤ w := by
  unfold seg
  split
  ·simp
  ·rw [List.length_take]; omega
 exact Nat.lt_of_lt_of_le h1 (Nat.pow_le_pow_right (by omega) h2)
theorem na1 (l : List UInt8) (s : Nat) : na l s 1 < 256 := na_lt l s 1
theorem na4 (l : List UInt8) (s : Nat) : na l s 4 < 4294967296 := na_lt l s 4
theorem na8 (l : List UInt8) (s : Nat) : na l s 8 < 18446744073709551616 := na_lt l s 8
theorem be_na {l : List UInt8} {s w : Nat} (h : s + w ≤ l.length) (hw : w ≤ 8) : be w (na l s w) = (l.drop s).take w := by
 unfold na seg
 rw [if_neg (by omega)]
 have hl : ((l.drop s).take w).length = w := by rw [List.length_take, List.length_drop]; omega
 have := be_num ((l.drop s).take w) (by omega)
 rw [hl] at this
 exact this
theorem seg_in {l : List UInt8} {s w : Nat} (h : s + w ≤ l.length) : seg l s w = (l.drop s).take w := by unfold seg; rw [if_neg (by omega)]
theorem seg_app (p q : List UInt8) {s w : Nat} (h : p.length ≤ s) : seg (p ++ q) s w = seg q (s - p.length) w := by
 unfold seg
 rw [List.length_append, List.drop_append, List.drop_of_length_le h, List.nil_append]
 by_cases h1 : p.length + q.length < s + w
 ·rw [if_pos h1, if_pos (by omega)]
 ·rw [if_neg h1, if_neg (by omega)]
theorem seg_left (p q : List UInt8) {s w : Nat} (h : s + w ≤ p.length) : seg (p ++ q) s w = seg p s w := by
 unfold seg
 rw [List.length_append, if_neg (by omega), if_neg (by omega), List.drop_append, List.take_append_of_le_length (by rw [List.length_drop]; omega)]
theorem na_be (k n : Nat) (q : List UInt8) {s w : Nat} (h : k ≤ s) : na (be k n ++ q) s w = na q (s - k) w := by
 unfold na
 rw [seg_app _ _ (by rw [be_length]; exact h), be_length]
theorem na_app (p q : List UInt8) {k s w : Nat} (hp : p.length = k) (h : k ≤ s) : na (p ++ q) s w = na q (s - k) w := by
 unfold na
 rw [seg_app _ _ (by omega), hp]
theorem na_0 (n : Nat) (q : List UInt8) {w : Nat} (hw : w ≤ 8) (hn : n < 256 ^ w) : na (be w n ++ q) 0 w = n := by
 unfold na
 rw [seg_left _ _ (by rw [be_length]; omega), seg_in (by rw [be_length]; omega), List.drop_zero, List.take_of_length_le (by rw [be_length]; omega), num_be w n hw, Nat.mod_eq_of_lt hn]
theorem na_z (n : Nat) {w : Nat} (hw : w ≤ 8) (hn : n < 256 ^ w) : na (be w n) 0 w = n := by
 have := na_0 n [] hw hn
 rwa [List.append_nil] at this
theorem td (l : List UInt8) {s w t : Nat} (h : t = s + w) : (l.drop s).take w ++ l.drop t = l.drop s := by
 subst h
 rw [← List.drop_drop, List.take_append_drop]
def chk (l : List UInt8) : List UInt8 := l ++ be 4 (crc l)
def bd (b : List UInt8) : List UInt8 := (b.drop 1).take (b.length - 5)
def frm (k : Nat) (b : List UInt8) : Bool := decide (5 ≤ b.length) && (b[0]? == some (UInt8.ofNat k) && num (b.drop (b.length - 4)) == crc (b.take (b.length - 4)))
theorem bd_len (b : List UInt8) : (bd b).length = b.length - 5 := by unfold bd; rw [List.length_take, List.length_drop]; omega
theorem chk_len (l : List UInt8) : (chk l).length = l.length + 4 := by simp [chk, be_length]
theorem bd_chk (k : UInt8) (l : List UInt8) : bd (chk (k :: l)) = l := by
 unfold bd
 rw [chk_len, chk, List.cons_append, List.drop_one, List.tail_cons, List.length_cons, show l.length + 1 + 4 - 5 = l.length by omega, List.take_left]
theorem frm_len {k : Nat} {b : List UInt8} (h : frm k b = true) : 5 ≤ b.length := by
 simp only [frm, Bool.and_eq_true, decide_eq_true_eq] at h; exact h.1
theorem frm_eq {k : Nat} {b : List UInt8} (h : frm k b = true) : b = chk (UInt8.ofNat k :: bd b) := by
 simp only [frm, Bool.and_eq_true, decide_eq_true_eq, beq_iff_eq] at h
 obtain ⟨h1, h2, h3⟩ := h
 cases b with
 | nil => simp at h1
 | cons c b =>
  simp only [List.getElem?_cons_zero, Option.some.injEq] at h2
  subst h2
  have e1 : (UInt8.ofNat k :: bd (UInt8.ofNat k :: b)) = (UInt8.ofNat k :: b).take ((UInt8.ofNat k :: b).length - 4) := by
   unfold bd
   rw [List.drop_one, List.tail_cons, List.length_cons]
   rw [List.length_cons] at h1
   rw [show b.length + 1 - 4 = (b.length + 1 - 5) + 1 by omega, List.take_succ_cons]
  rw [e1]
  unfold chk
  rw [← h3]
  generalize hx : UInt8.ofNat k :: b = x at *
  have hl : (x.drop (x.length - 4)).length = 4 := by rw [List.length_drop]; omega
  have := be_num (x.drop (x.length - 4)) (by omega)
  rw [hl] at this
  rw [this, List.take_append_drop]
theorem frm_chk {k : Nat} (l : List UInt8) : frm k (chk (UInt8.ofNat k :: l)) = true := by
 have hl := chk_len (UInt8.ofNat k :: l)
 rw [List.length_cons] at hl
 simp only [frm, Bool.and_eq_true, decide_eq_true_eq, beq_iff_eq]
 refine ⟨by omega, by simp [chk], ?_⟩
 rw [hl, show l.length + 1 + 4 - 4 = (UInt8.ofNat k :: l).length by simp]
 unfold chk
 rw [List.drop_left, List.take_left, num_be 4 _ (by omega), Nat.mod_eq_of_lt (crc_lt _)]
theorem na_bd {b : List UInt8} {s w : Nat} (h : s + w + 5 ≤ b.length) : na b (s + 1) w = na (bd b) s w := by
 unfold na
 rw [seg_in (by omega), seg_in (by rw [bd_len]; omega)]
 unfold bd
 rw [List.drop_take, List.take_take, List.drop_drop, Nat.min_eq_left (by omega), Nat.add_comm 1 s]
def cyB (n : Int) : Bool := decide (0 ≤ n) && decide (n ≤ 1099511627776)
theorem cyB_iff {n : Int} : cyB n = true ↔ 0 ≤ n ∧ n ≤ 1099511627776 := by simp [cyB]
structure St where
 a : Nat
 b : Nat
 c : Nat
 t : List UInt8
 p : Nat
structure rgSt (x : St) : Prop where
 ht : x.t.length = 64
 ha : x.a < 18446744073709551616
 hb : x.b < 18446744073709551616
 hc : x.c < 18446744073709551616
 hp : x.p < 4294967296
def Z64 : List UInt8 := List.replicate 64 0
def St0 : St := ⟨0, 0, 0, Z64, 0⟩
def enSt (x : St) : List UInt8 := be 8 x.a ++ (be 8 x.b ++ (be 8 x.c ++ (x.t ++ be 4 x.p)))
def tmr (l : List UInt8) (s : Nat) : List UInt8 := if l.length < s + 64 then Z64 else (l.drop s).take 64
theorem tmr_len (l : List UInt8) (s : Nat) : (tmr l s).length = 64 := by
 unfold tmr
 split
 ·rfl
 ·rw [List.length_take, List.length_drop]; omega
def deSt (l : List UInt8) (s : Nat) : St := ⟨na l s 8, na l (s + 8) 8, na l (s + 16) 8, tmr l (s + 24), na l (s + 88) 4⟩
theorem deSt_rg (l : List UInt8) (s : Nat) : rgSt (deSt l s) := ⟨tmr_len l _, na8 l _, na8 l _, na8 l _, na4 l _⟩
def pdSt (l : List UInt8) : Option St := if l.length = 92 then some (deSt l 0) else none
theorem enSt_len {x : St} (h : x.t.length = 64) : (enSt x).length = 92 := by simp [enSt, be_length, h]
theorem tmr_in {l : List UInt8} {s : Nat} (h : s + 64 ≤ l.length) : tmr l s = (l.drop s).take 64 := by unfold tmr; rw [if_neg (by omega)]
theorem enSt_de {l : List UInt8} {s : Nat} (h : l.length = s + 92) : enSt (deSt l s) = l.drop s := by
 unfold enSt deSt
 simp only
 rw [be_na (by omega) (by omega), be_na (by omega) (by omega), be_na (by omega) (by omega), tmr_in (by omega), be_na (by omega) (by omega), List.take_of_length_le (l := l.drop (s + 88)) (by rw [List.length_drop]; omega), td l (by omega), td l (by omega), td l (by omega), td l (by omega)]
theorem tmr_app (p q : List UInt8) {k s : Nat} (hp : p.length = k) (h : k ≤ s) : tmr (p ++ q) s = tmr q (s - k) := by
 subst hp
 unfold tmr
 rw [List.length_append, List.drop_append, List.drop_of_length_le h, List.nil_append]
 by_cases h1 : p.length + q.length < s + 64
 ·rw [if_pos h1, if_pos (by omega)]
 ·rw [if_neg h1, if_neg (by omega)]
theorem deSt_en {x : St} (h : rgSt x) : deSt (enSt x) 0 = x := by
 unfold deSt enSt
 simp only [na_be, Nat.reduceLeDiff, Nat.reduceSub, Nat.le_refl, Nat.sub_self, Nat.zero_add]
 rw [na_0 _ _ (by omega) h.ha, na_0 _ _ (by omega) h.hb, na_0 _ _ (by omega) h.hc, na_app x.t _ h.ht (by omega), Nat.sub_self, na_z _ (by omega) h.hp,
  tmr_app (be 8 x.a) _ (be_length _ _) (by omega), tmr_app (be 8 x.b) _ (be_length _ _) (by omega), tmr_app (be 8 x.c) _ (be_length _ _) (by omega)]
 have : tmr (x.t ++ be 4 x.p) (24 - 8 - 8 - 8) = x.t := by
  have ht := h.ht
  unfold tmr
  rw [if_neg (by rw [List.length_append]; omega), List.drop_zero, ← ht, List.take_left]
 rw [this]
theorem pdSt_e {l : List UInt8} {x : St} (h : pdSt l = some x) : enSt x = l ∧ rgSt x := by
 unfold pdSt at h
 split at h
 ·simp only [Option.some.injEq] at h; subst h
  exact ⟨by rw [enSt_de (by omega), List.drop_zero], deSt_rg l 0⟩
 ·cases h
theorem pdSt_d {x : St} (h : rgSt x) : pdSt (enSt x) = some x := by
 unfold pdSt
 rw [if_pos (enSt_len h.ht), deSt_en h]
end Go.AM.Fd

namespace Go.AM.Fd
open Nat (reduceAdd reduceEqDiff reduceLT reduceLeDiff reduceMul reduceSub)
open Go.Proofs Go.AM.F
def RR (H : AHeap) (lo hi r : Nat) (l : List UInt8) (s : Nat) : Prop := lo ≤ r ∧ r < hi ∧ hi ≤ H.n ∧ ∃ bv, lo ≤ bv ∧ bv < hi ∧ RS H r bv (l.drop s) (decide (l.length < s))
theorem RR.keeps {H H' : AHeap} {lo hi r : Nat} {l : List UInt8} {s : Nat} (h : RR H lo hi r l s) (k : Keeps H H') : RR H' lo hi r l s := by
 obtain ⟨h1, h2, h3, bv, h4, h5, h6⟩ := h
 exact ⟨h1, h2, Nat.le_trans h3 k.n, bv, h4, h5, h6.chg (k.chg []) (by simp) (by simp)⟩
theorem RR.chg {H H' : AHeap} {lo hi r b : Nat} {l : List UInt8} {s : Nat} (h : RR H lo hi r l s) (k : Chg [b] H H') (hb : b < lo ∨ hi ≤ b) : RR H' lo hi r l s := by
 obtain ⟨h1, h2, h3, bv, h4, h5, h6⟩ := h
 exact ⟨h1, h2, Nat.le_trans h3 k.n, bv, h4, h5, h6.chg k (by simp; omega) (by simp; omega)⟩
theorem fail_at (l : List UInt8) (s w : Nat) : failB (l.drop s) (decide (l.length < s)) (w : Int) ↔ l.length < s + w := by
 unfold failB
 rw [List.length_drop, decide_eq_true_eq]
 omega
theorem Aft.rr {H H' : AHeap} {r bv lo hi s w : Nat} {l : List UInt8} (h : Aft H H' r bv (l.drop s) (decide (l.length < s)) (w : Int)) (h1 : lo ≤ r) (h2 : r < hi) (h3 : hi ≤ H'.n) (h4 : lo ≤ bv) (h5 : bv < hi) : RR H' lo hi r l (s + w) := by
 obtain ⟨bv', p1, p2⟩ := h
 refine ⟨h1, h2, h3, bv', by omega, by omega, ?_⟩
 have e1 : restL (l.drop s) (decide (l.length < s)) (w : Int) = l.drop (s + w) := by
  unfold restL
  by_cases hf : l.length < s + w
  ·rw [if_pos ((fail_at l s w).2 hf), List.drop_of_length_le (by omega)]
  ·rw [if_neg (fun h => hf ((fail_at l s w).1 h)), Int.toNat_natCast, List.drop_drop]
 have e2 : badB (l.drop s) (decide (l.length < s)) (w : Int) = decide (l.length < s + w) := by
  unfold badB
  rw [decide_eq_decide, fail_at]
 rw [e1, e2] at p1
 exact p1
theorem gotL_at (l : List UInt8) (s w : Nat) : gotL (l.drop s) (decide (l.length < s)) (w : Int) = seg l s w := by
 unfold gotL seg
 by_cases hf : l.length < s + w
 ·rw [if_pos ((fail_at l s w).2 hf), if_pos hf]
 ·rw [if_neg (fun h => hf ((fail_at l s w).1 h)), if_neg hf, Int.toNat_natCast]
section
variable {H : AHeap} {lo hi r s : Nat} {l : List UInt8}
theorem q45 (h : RR H lo hi r l s) (hl : l.length ≤ 1000000000) : ∃ v H', ARun Go.Proofs.Try.prog 0 45 [ptr r 0] H v H' ∧ v = .int .u8 (na l s 1 : Nat) ∧ RR H' lo hi r l (s + 1) ∧ Chg [r] H H' := by
 obtain ⟨h1, h2, h3, bv, h4, h5, h6⟩ := h
 obtain ⟨v, H', q, rfl, p1, p2⟩ := t45 h6 (by rw [List.length_drop]; omega)
 exact ⟨_, H', q, by rw [show (1 : Int) = ((1 : Nat) : Int) from rfl, gotL_at]; rfl, Aft.rr p1 h1 h2 (Nat.le_trans h3 p2.n) h4 h5, p2⟩
theorem q50 (h : RR H lo hi r l s) (hl : l.length ≤ 1000000000) : ∃ v H', ARun Go.Proofs.Try.prog 0 50 [ptr r 0] H v H' ∧ v = .int .u32 (na l s 4 : Nat) ∧ RR H' lo hi r l (s + 4) ∧ Chg [r] H H' := by
 obtain ⟨h1, h2, h3, bv, h4, h5, h6⟩ := h
 obtain ⟨v, H', q, rfl, p1, p2⟩ := t50 h6 (by rw [List.length_drop]; omega)
 exact ⟨_, H', q, by rw [show (4 : Int) = ((4 : Nat) : Int) from rfl, gotL_at]; rfl, Aft.rr p1 h1 h2 (Nat.le_trans h3 p2.n) h4 h5, p2⟩
theorem q46 (h : RR H lo hi r l s) (hl : l.length ≤ 1000000000) : ∃ v H', ARun Go.Proofs.Try.prog 0 46 [ptr r 0] H v H' ∧ v = .int .u64 (na l s 8 : Nat) ∧ RR H' lo hi r l (s + 8) ∧ Chg [r] H H' := by
 obtain ⟨h1, h2, h3, bv, h4, h5, h6⟩ := h
 obtain ⟨v, H', q, rfl, p1, p2⟩ := t46 h6 (by rw [List.length_drop]; omega)
 exact ⟨_, H', q, by rw [show (8 : Int) = ((8 : Nat) : Int) from rfl, gotL_at]; rfl, Aft.rr p1 h1 h2 (Nat.le_trans h3 p2.n) h4 h5, p2⟩
theorem q48 (h : RR H lo hi r l s) (w : Nat) (hl : l.length ≤ 1000000000) : ∃ v H', ARun Go.Proofs.Try.prog 0 48 [ptr r 0, .int .i64 (w : Nat)] H v H' ∧ BS H' v (seg l s w) ∧ RR H' lo hi r l (s + w) ∧ Chg [r] H H' ∧ (∀ b, blk v = some b → lo ≤ b ∧ b < hi) := by
 obtain ⟨h1, h2, h3, bv, h4, h5, h6⟩ := h
 obtain ⟨v, H', q, p0, p1, p2, p3⟩ := t48 h6 (w : Int) (by rw [List.length_drop]; omega)
 rw [gotL_at] at p0
 refine ⟨_, H', q, p0, Aft.rr p1 h1 h2 (Nat.le_trans h3 p2.n) h4 h5, p2, ?_⟩
 intro b hb
 rcases p3 with ⟨rfl, _⟩ | ⟨_, _, ⟨rfl, _⟩ | ⟨o, c, rm, rfl, _⟩⟩
 ·cases hb
 ·cases hb
 ·cases hb; exact ⟨h4, h5⟩
theorem q51 (h : RR H lo hi r l s) : ∃ v H', ARun Go.Proofs.Try.prog 0 51 [ptr r 0] H v H' ∧ v = .bool (decide (l.length < s)) ∧ H' = H := by
 obtain ⟨h1, h2, h3, bv, h4, h5, h6⟩ := h
 exact t51 h6
theorem q49 (h : RR H lo hi r l s) : ∃ v H', ARun Go.Proofs.Try.prog 0 49 [ptr r 0] H v H' ∧ v = .int .i64 (l.length - s : Nat) ∧ H' = H := by
 obtain ⟨h1, h2, h3, bv, h4, h5, h6⟩ := h
 have := t49 h6
 rwa [List.length_drop] at this
end
theorem n76 (n : Int) (H : AHeap) : ∃ v H', ARun Go.Proofs.Try.prog 0 76 [.pointer none, .int .i64 n] H v H' ∧ v = .slice none 0 0 ∧ H' = H := by
 refine walk2 f76_ok f76_n ?_
 intro Q hq1 hq2
 simp (disch := first | assumption | omega) only [f76, W_block, P3, seval, initFr, clsA]
 exact hq2 _ _ ⟨_, rfl, rfl, rfl⟩
theorem n72 (k : Nat) (hk : k < 4) (H : AHeap) : ∃ v H', ARun Go.Proofs.Try.prog 0 72 [.pointer none, .int .i64 ((2 ^ k : Nat) : Int)] H v H' ∧ v = .iface (tyR k) (.int (kdR k) 0) ∧ H' = H := by
 refine walk2 f72_ok f72_n ?_
 intro Q hq1 hq2
 simp (disch := first | assumption | omega) only [f72, W_block, P3, seval, initFr, clsA]
 refine callK (n76 _ H) ?_
 rintro _ _ ⟨rfl, rfl⟩
 simp (disch := first | assumption | omega) only [W_block, P3, seval, initFr, clsA]
 refine callK (t86 (BS.nil _) k hk (by simp)) ?_
 rintro _ _ ⟨rfl, rfl⟩
 simp (disch := first | assumption | omega) only [W_block, P3, seval, initFr, clsA]
 exact hq2 _ _ ⟨_, rfl, rfl, rfl⟩
theorem n50 (H : AHeap) : ∃ v H', ARun Go.Proofs.Try.prog 0 50 [.pointer none] H v H' ∧ v = .int .u32 0 ∧ H' = H := by
 refine walk2 f50_ok f50_n ?_
 intro Q hq1 hq2
 simp (disch := first | assumption | omega) only [f50, W_block, P3, seval, initFr, clsA]
 refine callK (n72 2 (by omega) H) ?_
 rintro _ _ ⟨rfl, rfl⟩
 simp (disch := first | assumption | omega) only [W_block, P3, seval, initFr, clsA, tyR, kdR]
 exact hq2 _ _ ⟨_, rfl, rfl, rfl⟩
theorem n46 (H : AHeap) : ∃ v H', ARun Go.Proofs.Try.prog 0 46 [.pointer none] H v H' ∧ v = .int .u64 0 ∧ H' = H := by
 refine walk2 f46_ok f46_n ?_
 intro Q hq1 hq2
 simp (disch := first | assumption | omega) only [f46, W_block, P3, seval, initFr, clsA]
 refine callK (n72 3 (by omega) H) ?_
 rintro _ _ ⟨rfl, rfl⟩
 simp (disch := first | assumption | omega) only [W_block, P3, seval, initFr, clsA, tyR, kdR]
 exact hq2 _ _ ⟨_, rfl, rfl, rfl⟩
theorem n48 (n : Int) (H : AHeap) : ∃ v H', ARun Go.Proofs.Try.prog 0 48 [.pointer none, .int .i64 n] H v H' ∧ v = .slice none 0 0 ∧ H' = H := by
 refine walk2 f48_ok f48_n ?_
 intro Q hq1 hq2
 simp (disch := first | assumption | omega) only [f48, W_block, P3, seval, initFr, clsA]
 refine callK (n76 _ H) ?_
 rintro _ _ ⟨rfl, rfl⟩
 simp (disch := first | assumption | omega) only [W_block, P3, seval, initFr, clsA]
 exact hq2 _ _ ⟨_, rfl, rfl, rfl⟩
theorem frm_w (k : Nat) (b : List UInt8) (h5 : 5 ≤ b.length) : frm k b = (b[0]? == some (UInt8.ofNat k) && num (b.drop (b.length - 4)) == crc (b.take (b.length - 4))) := by
 simp [frm, h5]
theorem t73 {H : AHeap} {x : Value} {b : List UInt8} (hx : BQ H x b) (k : Nat) (hk : k < 256) (hl : b.length ≤ 1000000000) : ∃ v H', ARun Go.Proofs.Try.prog 0 73 [.int .u8 k, x] H v H' ∧ Keeps H H' ∧
  ((v = .tuple #[.pointer none, .bool false] ∧ H' = H ∧ frm k b = false) ∨ ∃ r, v = .tuple #[ptr r 0, .bool (frm k b)] ∧ RR H' H.n H'.n r (bd b) 0) := by
 refine walk2 f73_ok f73_n ?_
 intro Q hq1 hq2
 have hs := hx.bs.sl
 have his := hs.is
 have hlen := hs.len
 rw [List.length_map] at hlen
 by_cases h5 : b.length < 5
 ·simp (disch := first | assumption | omega) only [f73, W_block, P3, seval, initFr, clsA, hlen]
  exact hq2 _ _ ⟨_, rfl, Keeps.refl _, .inl ⟨rfl, rfl, by simp [frm]; omega⟩⟩
 ·obtain ⟨hnn, hrow⟩ := hs.at_ (by omega) (i := 0) (by rw [List.length_map]; omega)
  rw [List.getElem_map] at hrow
  by_cases h0 : b[0] = UInt8.ofNat k
  ·have e0 : ((b[0].toNat : Nat) : Int) = (k : Int) := by rw [h0]; simp; omega
   have hw : IntKind.i64.wrap ((b.length : Int) - 4) = ((b.length - 4 : Nat) : Int) := by rw [wrap_i64 (by omega) (by omega)]; omega
   obtain ⟨w1, s1, q1⟩ := hx.from_ (k := .i64) (b.length - 4) (by omega)
   simp (disch := first | assumption | omega) only [f73, W_block, P3, seval, initFr, clsA, hlen, e0, hw, s1]
   refine callK (t44 q1.bs (by rw [List.length_drop]; omega)) ?_
   rintro _ H1 ⟨r1, bv1, rfl, p1, p2, p3, k1⟩
   obtain ⟨w2, s2, q2⟩ := (hx.keeps k1).mid (k := .i64) (k' := .i64) 1 (b.length - 4) (by omega) (by omega)
   have s2' : asem (.slsl 1 x (some (.int .i64 1)) (some (.int .i64 (b.length - 4 : Nat))) none) H1 = some (w2, H1) := s2
   simp (disch := first | assumption | omega) only [W_block, P3, seval, initFr, clsA, hlen, hw, s2']
   refine callK (t44 q2.bs (by rw [List.length_take, List.length_drop]; omega)) ?_
   rintro _ H2 ⟨r2, bv2, rfl, o1, o2, o3, k2⟩
   simp (disch := first | assumption | omega) only [W_block, P3, seval, initFr, clsA, hlen, hw]
   refine callK (t50 (p1.chg (k2.chg []) (by simp) (by simp)) (by rw [List.length_drop]; omega)) ?_
   rintro _ H3 ⟨rfl, m1, k3⟩
   have kk : Keeps H H3 := (k1.trans k2).chg_trans k3 (by simp; omega)
   obtain ⟨w3, s3, q3⟩ := (hx.keeps kk).to_ (k := .i64) (b.length - 4) (by omega)
   have tx := hx.tbl
   have n1 := k1.n
   have n2 := k2.n
   simp (disch := first | assumption | omega) only [W_block, P3, seval, initFr, clsA, hlen, hw, s3, touch_sl]
   refine ⟨⟨⟨tb_older (fun y hy => Nat.lt_of_lt_of_le (tx y hy) n1), tb_keeps (fun y hy => ⟨Nat.lt_of_lt_of_le (tx y hy) n1, by simp⟩) (k2.chg [])⟩,
    tb_older (fun y hy => Nat.lt_of_lt_of_le (tx y hy) (Nat.le_trans n1 n2)), tb_keeps (fun y hy => ⟨Nat.lt_of_lt_of_le (tx y hy) (Nat.le_trans n1 n2), by have := tx y hy; simp; omega⟩) k3⟩, ?_⟩
   refine callK (t87 q3.bs (by rw [List.length_take]; omega)) ?_
   rintro _ _ ⟨rfl, rfl⟩
   simp (disch := first | assumption | omega) only [W_block, P3, seval, initFr, clsA]
   have eb : (b.drop 1).take (b.length - 4 - 1) = bd b := by unfold bd; rw [show b.length - 4 - 1 = b.length - 5 by omega]
   have eg : gotL (b.drop (b.length - 4)) false 4 = b.drop (b.length - 4) := by
    have hl4 : (b.drop (b.length - 4)).length = 4 := by rw [List.length_drop]; omega
    unfold gotL
    rw [if_neg (by unfold failB; rw [hl4]; simp), List.take_of_length_le (by rw [hl4]; decide)]
   have ef : frm k b = ((num (b.drop (b.length - 4)) : Int) == (crc (b.take (b.length - 4)) : Int)) := by
    have e1 : ((b[0]? == some (UInt8.ofNat k)) = true) := by rw [List.getElem?_eq_getElem (by omega), h0]; simp
    rw [frm_w k b (by omega), e1, Bool.true_and, Bool.eq_iff_iff, beq_iff_eq, beq_iff_eq]
    omega
   refine hq2 _ _ ⟨_, rfl, kk, .inr ⟨r2, by rw [ef, eg]; rfl, by omega, AHeap.get_lt ((o1.chg k3 (by simp; have := p1.lt; omega) (by simp; have := p1.lt; omega)).choose_spec.1), Nat.le_refl _, bv2, by omega, ?_, ?_⟩⟩
   ·exact (o1.chg k3 (by simp; have := p1.lt; omega) (by simp; have := p1.lt; omega)).lt.2
   ·have := o1.chg k3 (by simp; have := p1.lt; omega) (by simp; have := p1.lt; omega)
    rw [eb] at this
    rw [List.drop_zero, decide_eq_false (by omega)]
    exact this
  ·have e0 : ((b[0].toNat : Nat) : Int) ≠ (k : Int) := by
    intro he
    apply h0
    apply UInt8.toNat_inj.1
    simp; omega
   simp (disch := first | assumption | omega) only [f73, W_block, P3, seval, initFr, clsA, hlen, e0]
   refine hq2 _ _ ⟨_, rfl, Keeps.refl _, .inl ⟨rfl, rfl, ?_⟩⟩
   have e1 : ((b[0]? == some (UInt8.ofNat k)) = false) := by rw [List.getElem?_eq_getElem (by omega)]; simpa using h0
   rw [frm_w k b (by omega), e1, Bool.false_and]
end Go.AM.Fd

namespace Go.AM.Fd
open Nat (reduceAdd reduceEqDiff reduceLT reduceLeDiff reduceMul reduceSub)
open Go.Proofs Go.AM.F
def cSt (x : St) : List Value := .int .u64 (x.a : Nat) :: .int .u64 (x.b : Nat) :: .int .u64 (x.c : Nat) :: (cellsOf x.t ++ [.int .u32 (x.p : Nat)])
theorem cellsOf_one (l : List UInt8) : (cellsOf l).all Value.oneCell' = true := by
 rw [List.all_eq_true]
 intro v hv
 simp only [cellsOf, List.mem_map] at hv
 obtain ⟨n, _, rfl⟩ := hv
 rfl
theorem cSt_one (x : St) : (cSt x).all Value.oneCell' = true := by
 simp only [cSt, List.all_cons, List.all_append, cellsOf_one, one_int, List.all_nil, Bool.and_true, Bool.true_and]
theorem cSt_len {x : St} (h : x.t.length = 64) : (cSt x).length = 68 := by simp [cSt, cellsOf_length, h]
theorem maySt (x : St) (H : AHeap) : ∃ v H', ARun Go.Proofs.Try.prog 0 88 [.iface 26 (.agg (cSt x).toArray)] H v H' ∧ v = .bool true ∧ Keeps H H' := by
 refine walk2 f88_ok f88_n ?_
 intro Q hq1 hq2
 have lz : Z70.length = 70 := rfl
 have oz : Z70.all Value.oneCell' = true := rfl
 simp (disch := first | assumption | omega | (simp only [LN] <;> omega) | (simp (disch := first | assumption | omega | (simp only [LN] <;> omega)) only [row_alloc, row_set]; assumption)) only [f88, W_block, P3, seval, initFr, clsA, oz]
 exact hq2 _ _ ⟨_, rfl, rfl, by ((repeat (first | exact Keeps.refl _ | assumption | refine Keeps.alloc ?_ _ | (refine Keeps.set ?_ (by first | omega | (simp only [alloc_n, set_n] <;> omega)) (by first | omega | (simp only [alloc_n, set_n] <;> omega)) _) | (refine Keeps.trans' (by assumption) ?_))))⟩
end Go.AM.Fd

namespace Go.AM.Fd
open Nat (reduceAdd reduceEqDiff reduceLT reduceLeDiff reduceMul reduceSub)
open Go.Proofs Go.AM.F
theorem Put.trans {A B C : AHeap} {b bv bv' : Nat} {l : List UInt8} (hl : bv < A.n) (h1 : bv' = bv ∨ A.n ≤ bv') (k : Chg [b, bv] A B) (h2 : Put B C b bv' l) : Put A C b bv l := by
 obtain ⟨bw, w, hb, k2⟩ := h2
 refine ⟨bw, w, ?_, ⟨Nat.le_trans k.n k2.n, fun x hx hn => ?_⟩⟩
 ·have := k.n; omega
 ·simp only [List.mem_cons, List.not_mem_nil, or_false, not_or] at hn
  rw [k2.get x (Nat.lt_of_lt_of_le hx k.n) (by simp; omega), k.get x hx (by simp; omega)]
def nsB (l : List Int) : List UInt8 := l.flatMap fun n => be 8 n.toNat
theorem nsB_len (l : List Int) : (nsB l).length = 8 * l.length := by
 induction l with
 | nil => rfl
 | cons x l ih =>
  rw [nsB, List.flatMap_cons, List.length_append, be_length, List.length_cons]
  have : (l.flatMap fun n => be 8 n.toNat).length = 8 * l.length := ih
  omega
theorem cSt_0 (x : St) : (cSt x)[0]? = some (.int .u64 (x.a : Nat)) := rfl
theorem cSt_1 (x : St) : (cSt x)[1]? = some (.int .u64 (x.b : Nat)) := rfl
theorem cSt_2 (x : St) : (cSt x)[2]? = some (.int .u64 (x.c : Nat)) := rfl
theorem cSt_67 {x : St} (h : x.t.length = 64) : (cSt x)[67]? = some (.int .u32 (x.p : Nat)) := by
 simp only [cSt, List.getElem?_cons_succ]
 rw [List.getElem?_append_right (by rw [cellsOf_length]; omega), cellsOf_length, h]
 rfl
theorem cSt_t {x : St} (h : x.t.length = 64) : ((cSt x).drop 3).take 64 = cellsOf x.t := by
 simp only [cSt, List.drop_succ_cons, List.drop_zero]
 rw [← h, ← cellsOf_length x.t, List.take_left]
theorem bs_st {H : AHeap} {x : St} (h : x.t.length = 64) {b e esz : Nat} {own room : Bool} (g : H.get b = some (.cells own room esz (cSt x) e)) : BS H (slc b 3 64 64) x.t := by
 refine ⟨⟨some ⟨b, 3, none⟩, 64, by rw [h]; rfl⟩, ?_⟩
 simp only [elemsA, slc, g, Nat.mul_one]
 rw [if_pos (by rw [cSt_len h]; omega), cSt_t h]
theorem t82 {H : AHeap} {b bv : Nat} {l : List UInt8} (h : WS H b bv l) {x : St} (hx : rgSt x) (hl : l.length ≤ 10000000) :
  ∃ w H', ARun Go.Proofs.Try.prog 0 82 [ptr b 0, .agg (cSt x).toArray] H w H' ∧ Put H H' b bv (l ++ enSt x) := by
 refine walk2 f82_ok f82_n ?_
 intro Q hq1 hq2
 have lx := cSt_len hx.ht
 have ox := cSt_one x
 have ht := hx.ht
 have hlt := h.lt
 have k0 := (Keeps.refl H).alloc (.cells true false 68 (cSt x) 26)
 have g := AHeap.get_alloc_new H (.cells true false 68 (cSt x) 26)
 simp (disch := first | assumption | omega) only [f82, W_block, P3, seval, initFr, clsA, ox]
 obtain ⟨Ha, hHa⟩ : ∃ X, X = H.alloc (.cells true false 68 (cSt x) 26) := ⟨_, rfl⟩
 rw [← hHa] at k0 g ⊢
 have la := AHeap.get_lt g
 simp (disch := first | assumption | omega) only [W_block, P3, seval, initFr, clsA, cSt_0]
 refine callK (t56 (h.chg (k0.chg []) (by simp) (by simp)) x.a hx.ha (by omega)) ?_
 rintro _ K1 ⟨b1, w1, hb1, d1⟩
 simp (disch := first | assumption | omega) only [Chg2.get d1, W_block, P3, seval, initFr, clsA, g, cSt_1]
 have n1 := d1.n
 refine callK (t56 w1 x.b hx.hb (by simp [be_length]; omega)) ?_
 rintro _ K2 ⟨b2, w2, hb2, d2⟩
 have n2 := d2.n
 simp (disch := first | assumption | omega) only [Chg2.get d1, Chg2.get d2, W_block, P3, seval, initFr, clsA, g, cSt_2]
 refine callK (t56 w2 x.c hx.hc (by simp [be_length]; omega)) ?_
 rintro _ K3 ⟨b3, w3, hb3, d3⟩
 have n3 := d3.n
 have g3 : K3.get H.n = some (.cells true false 68 (cSt x) 26) := by
  rw [Chg2.get d3 (by omega) (by omega) (by omega), Chg2.get d2 (by omega) (by omega) (by omega), Chg2.get d1 (by omega) (by omega) (by omega)]; exact g
 simp (disch := first | assumption | omega) only [W_block, P3, seval, initFr, clsA, a_slarr0]
 refine callK (t57 w3 (bs_st ht g3) (by simp [be_length]; omega)) ?_
 rintro _ K4 ⟨b4, w4, hb4, d4⟩
 have n4 := d4.n
 simp (disch := first | assumption | omega) only [Chg2.get d4, W_block, P3, seval, initFr, clsA, g3, cSt_67 ht]
 refine callK (t59 w4 x.p hx.hp (by simp [be_length]; omega)) ?_
 rintro _ K5 p5
 simp (disch := first | assumption | omega) only [W_block, P3, seval, initFr, clsA]
 refine hq1 _ _ ⟨_, rfl, ?_⟩
 have e : l ++ enSt x = l ++ be 8 x.a ++ be 8 x.b ++ be 8 x.c ++ x.t ++ be 4 x.p := by simp [enSt, List.append_assoc]
 rw [e]
 exact Put.trans hlt.2 (.inl rfl) (k0.chg _) (Put.trans (by omega) hb1 d1 (Put.trans (by have := w1.lt; omega) hb2 d2 (Put.trans (by have := w2.lt; omega) hb3 d3 (Put.trans (by have := w3.lt; omega) hb4 d4 p5))))
def CLO (H : AHeap) (g : Nat) (cap : Value) (pre body : List UInt8) : Prop :=
 ∀ (H1 : AHeap) (b bv : Nat), Keeps H H1 → H.n ≤ b → H.n ≤ bv → WS H1 b bv pre → ∃ w H', ARun Go.Proofs.Try.prog 0 g [ptr b 0, cap] H1 w H' ∧ Put H1 H' b bv (pre ++ body)
theorem t81 {H : AHeap} {p : Nat} {x : St} (g : H.get p = some (.cells true false 68 (cSt x) 26)) (hx : rgSt x) (pre : List UInt8) (hp : pre.length ≤ 1000) : CLO H 81 (ptr p 0) pre (enSt x) := by
 intro H1 b bv k1 hb hbv w
 refine walk2 f81_ok f81_n ?_
 intro Q hq1 hq2
 have lpH := AHeap.get_lt g
 have g := k1.at_ g
 have lp := AHeap.get_lt g
 have lx := cSt_len hx.ht
 simp (disch := first | assumption | omega) only [f81, W_block, P3, seval, initFr, clsA, g]
 refine callK (t82 w hx (by omega)) ?_
 rintro _ K1 p1
 simp (disch := first | assumption | omega) only [W_block, P3, seval, initFr, clsA]
 exact hq1 _ _ ⟨_, rfl, p1⟩
end Go.AM.Fd

namespace Go.AM.Fd
open Nat (reduceAdd reduceEqDiff reduceLT reduceLeDiff reduceMul reduceSub)
open Go.Proofs Go.AM.F
theorem new_ws (H : AHeap) : WS (H.alloc (.cells true false 1 [.slice none 0 0] 120)) H.n H.n [] := ⟨_, AHeap.get_alloc_new H _, .inl ⟨rfl, rfl, rfl⟩, .inl ⟨rfl, rfl⟩⟩
theorem be1 (k : Nat) : be 1 k = [UInt8.ofNat k] := by simp [be]
def PutR (H H' : AHeap) (v : Value) (l : List UInt8) : Prop := AP H' 5 1 v l.length (cellsOf l) ∧ Keeps H H' ∧ Fresh H.n v
theorem t80 {H : AHeap} (k : Nat) (hk : k < 256) (vi : Value) (okb : Bool) (g : Nat) (cap : Value) (body : List UInt8) (hb : body.length ≤ 100000)
  (hmay : ∃ v H', ARun Go.Proofs.Try.prog 0 88 [vi] H v H' ∧ v = .bool okb ∧ Keeps H H') (hfill : okb = true → CLO H g cap (be 1 k) body) :
  ∃ v H', ARun Go.Proofs.Try.prog 0 80 [.int .u8 k, vi, .func (.func g) #[] #[cap]] H v H' ∧ PutR H H' v (if okb then chk (UInt8.ofNat k :: body) else []) := by
 refine walk2 f80_ok f80_n ?_
 intro Q hq1 hq2
 simp (disch := first | assumption | omega) only [f80, W_block, P3, seval, initFr, clsA]
 refine callK hmay ?_
 rintro _ H1 ⟨rfl, k1⟩
 cases okb with
 | false =>
  simp (disch := first | assumption | omega) only [W_block, P3, seval, initFr, clsA]
  exact hq2 _ _ ⟨_, rfl, .inl ⟨rfl, rfl, rfl⟩, k1, by intro b hb; cases hb⟩
 | true =>
  have hn1 := k1.n
  simp (disch := first | assumption | omega) only [W_block, P3, seval, initFr, clsA]
  have w0 := new_ws H1
  have k2 := (Keeps.refl H1).alloc (.cells true false 1 [.slice none 0 0] 120)
  obtain ⟨Ha, hHa⟩ : ∃ X, X = H1.alloc (.cells true false 1 [.slice none 0 0] 120) := ⟨_, rfl⟩
  rw [← hHa] at w0 k2 ⊢
  have n2 := k2.n
  refine callK (t55 w0 k hk (by simp)) ?_
  rintro _ H3 ⟨b3, w3, hb3, d3⟩
  rw [List.nil_append] at w3
  have n3 := d3.n
  have k3 : Keeps H H3 := (k1.trans k2).chg_trans d3 (by simp; omega)
  simp (disch := first | assumption | omega) only [W_block, P3, seval, initFr, clsA]
  refine callK (hfill rfl H3 H1.n b3 k3 (by omega) (by omega) w3) ?_
  rintro _ H4 ⟨b4, w4, hb4, d4⟩
  have n4 := d4.n
  have k4 : Keeps H H4 := k3.chg_trans d4 (by simp; omega)
  have hlen : (be 1 k ++ body).length ≤ 1000000 := by simp [be_length]; omega
  simp (disch := first | assumption | omega) only [W_block, P3, seval, initFr, clsA]
  refine callK (t60 w4 (by omega)) ?_
  rintro v5 H5 ⟨a5, k5, f5⟩
  simp (disch := first | assumption | omega) only [W_block, P3, seval, initFr, clsA]
  refine callK (t87 a5.bs (by omega)) ?_
  rintro _ _ ⟨rfl, rfl⟩
  simp (disch := first | assumption | omega) only [W_block, P3, seval, initFr, clsA]
  refine callK (t59 (w4.chg (k5.chg []) (by simp) (by simp)) (crc (be 1 k ++ body)) (crc_lt _) (by omega)) ?_
  rintro _ H6 ⟨b6, w6, hb6, d6⟩
  have n6 := d6.n
  have n5 := k5.n
  simp (disch := first | assumption | omega) only [W_block, P3, seval, initFr, clsA]
  refine callK (t60 w6 (by rw [List.length_append, be_length]; omega)) ?_
  rintro v7 H7 ⟨a7, k7, f7⟩
  simp (disch := first | assumption | omega) only [W_block, P3, seval, initFr, clsA]
  have k6 : Keeps H H6 := (k4.trans k5).chg_trans d6 (by simp; omega)
  refine hq2 _ _ ⟨_, rfl, ?_, k6.trans k7, fun b hb => by have := f7 b hb; have := k6.n; omega⟩
  rw [be1] at a7
  exact a7
def fSt (x : St) : List UInt8 := chk (3 :: enSt x)
theorem PutR.from_ {A B C : AHeap} {v : Value} {l : List UInt8} (k : Keeps A B) (h : PutR B C v l) : PutR A C v l := ⟨h.1, k.trans h.2.1, fun b hb => Nat.le_trans k.n (h.2.2 b hb)⟩
theorem t58 (x : St) (hx : rgSt x) (H : AHeap) : ∃ v H', ARun Go.Proofs.Try.prog 0 58 [.agg (cSt x).toArray] H v H' ∧ PutR H H' v (fSt x) := by
 refine walk2 f58_ok f58_n ?_
 intro Q hq1 hq2
 have lx := cSt_len hx.ht
 have ox := cSt_one x
 have k0 := (Keeps.refl H).alloc (.cells true false 68 (cSt x) 26)
 have g := AHeap.get_alloc_new H (.cells true false 68 (cSt x) 26)
 simp (disch := first | assumption | omega) only [f58, W_block, P3, seval, initFr, clsA, ox]
 refine callK (t80 3 (by omega) _ true 81 _ (enSt x) (by rw [enSt_len hx.ht]; omega) (maySt x _) (fun hok => t81 g hx _ (by rw [be_length]; omega))) ?_
 rintro v H' p
 simp (disch := first | assumption | omega) only [W_block, P3, seval, initFr, clsA]
 exact hq2 _ _ ⟨_, rfl, PutR.from_ k0 p⟩
end Go.AM.Fd

namespace Go.AM.Fd
open Nat (reduceAdd reduceEqDiff reduceLT reduceLeDiff reduceMul reduceSub)
open Go.Proofs Go.AM.F
def GotV (c : List Value) (e : Int) : Value := .tuple #[.agg c.toArray, .int .i64 e]
-- got{
theorem t74 {H : AHeap} {lo hi r s : Nat} {l : List UInt8} (h : RR H lo hi r l s) (ok : Bool) (x : St) (hx : x.t.length = 64) : ∃ v H', ARun Go.Proofs.Try.prog 0 74 [ptr r 0, .bool ok, .agg (cSt x).toArray] H v H' ∧ Keeps H H' ∧
  v = if ok = true ∧ l.length = s then GotV (cSt x) 0 else GotV (cSt St0) 130 := by
 refine walk2 f74_ok f74_n ?_
 intro Q hq1 hq2
 have hr : ∀ fr H', resO f74.res fr H' = (celln 68 (fr.getD 4 undef) H').map fun c => .tuple #[c, fr.getD 5 undef] := fun fr H' => resCT 68 4 5 fr
 have lx := cSt_len hx
 have ox := cSt_one x
 have lz : Z68.length = 68 := rfl
 have oz : Z68.all Value.oneCell' = true := rfl
 cases ok with
 | false =>
  simp (disch := first | assumption | omega | (simp only [LN] <;> omega) | (simp (disch := first | assumption | omega | (simp only [LN] <;> omega)) only [row_alloc, row_set]; assumption)) only [f74, W_block, P3, seval, initFr, clsA, ox, oz]
  refine hq2 _ _ ⟨_, by rw [hr]; simp (disch := first | assumption | omega | (simp only [LN] <;> omega) | (simp (disch := first | assumption | omega | (simp only [LN] <;> omega)) only [row_alloc, row_set]; assumption)) only [W_block, P3, ↓reduceIte, reduceAdd, reduceEqDiff, reduceCtorEq, initFr, reduceLT, clsA, reduceLeDiff, reduceMul, reduceSub, reduceIte]; rfl, by ((repeat (first | exact Keeps.refl _ | assumption | refine Keeps.alloc ?_ _ | (refine Keeps.set ?_ (by first | omega | (simp only [alloc_n, set_n] <;> omega)) (by first | omega | (simp only [alloc_n, set_n] <;> omega)) _) | (refine Keeps.trans' (by assumption) ?_)))), by rw [if_neg (by simp)]; rfl⟩
 | true =>
  simp (disch := first | assumption | omega) only [f74, W_block, P3, seval, initFr, clsA, ox, oz]
  refine callK (q51 (h.keeps (by ((repeat (first | exact Keeps.refl _ | assumption | refine Keeps.alloc ?_ _ | (refine Keeps.set ?_ (by first | omega | (simp only [alloc_n, set_n] <;> omega)) (by first | omega | (simp only [alloc_n, set_n] <;> omega)) _) | (refine Keeps.trans' (by assumption) ?_))))))) ?_
  rintro _ _ ⟨rfl, rfl⟩
  by_cases h1 : l.length < s
  ·have e1 : decide (l.length < s) = true := by simp [h1]
   simp (disch := first | assumption | omega | (simp only [LN] <;> omega) | (simp (disch := first | assumption | omega | (simp only [LN] <;> omega)) only [row_alloc, row_set]; assumption)) only [W_block, P3, seval, initFr, clsA, ox, oz, e1]
   refine hq2 _ _ ⟨_, by rw [hr]; simp (disch := first | assumption | omega | (simp only [LN] <;> omega) | (simp (disch := first | assumption | omega | (simp only [LN] <;> omega)) only [row_alloc, row_set]; assumption)) only [W_block, P3, ↓reduceIte, reduceAdd, reduceEqDiff, reduceCtorEq, initFr, reduceLT, clsA, reduceLeDiff, reduceMul, reduceSub, reduceIte]; rfl, by ((repeat (first | exact Keeps.refl _ | assumption | refine Keeps.alloc ?_ _ | (refine Keeps.set ?_ (by first | omega | (simp only [alloc_n, set_n] <;> omega)) (by first | omega | (simp only [alloc_n, set_n] <;> omega)) _) | (refine Keeps.trans' (by assumption) ?_)))), by rw [if_neg (by omega)]; rfl⟩
  ·have e1 : decide (l.length < s) = false := by simp [h1]
   simp (disch := first | assumption | omega) only [W_block, P3, seval, initFr, clsA, ox, oz, e1]
   refine callK (q49 (h.keeps (by ((repeat (first | exact Keeps.refl _ | assumption | refine Keeps.alloc ?_ _ | (refine Keeps.set ?_ (by first | omega | (simp only [alloc_n, set_n] <;> omega)) (by first | omega | (simp only [alloc_n, set_n] <;> omega)) _) | (refine Keeps.trans' (by assumption) ?_))))))) ?_
   rintro _ _ ⟨rfl, rfl⟩
   by_cases h2 : l.length = s
   ·have e2 : ¬ (0 : Int) < ((l.length - s : Nat) : Int) := by omega
    simp (disch := first | assumption | omega | (simp only [LN] <;> omega) | (simp (disch := first | assumption | omega | (simp only [LN] <;> omega)) only [row_alloc, row_set]; assumption)) only [W_block, P3, seval, initFr, clsA, ox, oz, e2]
    refine callK (maySt x _) ?_
    rintro _ K ⟨rfl, k⟩
    have nk := k.n
    simp only [alloc_n, set_n] at nk
    simp (disch := first | assumption | omega | (simp only [LN] <;> omega) | (simp (disch := first | assumption | omega | (simp only [LN] <;> omega)) only [row_alloc, row_set, Keeps.row k]; assumption)) only [Keeps.get k, Keeps.row k, W_block, P3, seval, initFr, clsA, ox, oz]
    refine hq2 _ _ ⟨_, by rw [hr]; simp (disch := first | assumption | omega | (simp only [LN] <;> omega) | (simp (disch := first | assumption | omega | (simp only [LN] <;> omega)) only [row_alloc, row_set, Keeps.row k]; assumption)) only [Keeps.get k, Keeps.row k, W_block, P3, ↓reduceIte, reduceAdd, reduceEqDiff, reduceCtorEq, initFr, reduceLT, clsA, reduceLeDiff, reduceMul, reduceSub, reduceIte]; rfl, by ((repeat (first | exact Keeps.refl _ | assumption | refine Keeps.alloc ?_ _ | (refine Keeps.set ?_ (by first | omega | (simp only [alloc_n, set_n] <;> omega)) (by first | omega | (simp only [alloc_n, set_n] <;> omega)) _) | (refine Keeps.trans' (by assumption) ?_)))), by rw [if_pos ⟨rfl, h2⟩]; rfl⟩
   ·have e2 : (0 : Int) < ((l.length - s : Nat) : Int) := by omega
    simp (disch := first | assumption | omega | (simp only [LN] <;> omega) | (simp (disch := first | assumption | omega | (simp only [LN] <;> omega)) only [row_alloc, row_set]; assumption)) only [W_block, P3, seval, initFr, clsA, ox, oz, e2]
    refine hq2 _ _ ⟨_, by rw [hr]; simp (disch := first | assumption | omega | (simp only [LN] <;> omega) | (simp (disch := first | assumption | omega | (simp only [LN] <;> omega)) only [row_alloc, row_set]; assumption)) only [W_block, P3, ↓reduceIte, reduceAdd, reduceEqDiff, reduceCtorEq, initFr, reduceLT, clsA, reduceLeDiff, reduceMul, reduceSub, reduceIte]; rfl, by ((repeat (first | exact Keeps.refl _ | assumption | refine Keeps.alloc ?_ _ | (refine Keeps.set ?_ (by first | omega | (simp only [alloc_n, set_n] <;> omega)) (by first | omega | (simp only [alloc_n, set_n] <;> omega)) _) | (refine Keeps.trans' (by assumption) ?_)))), by rw [if_neg (by omega)]; rfl⟩
theorem n74 {H : AHeap} (x : St) (hx : x.t.length = 64) : ∃ v H', ARun Go.Proofs.Try.prog 0 74 [.pointer none, .bool false, .agg (cSt x).toArray] H v H' ∧ Keeps H H' ∧ v = GotV (cSt St0) 130 := by
 refine walk2 f74_ok f74_n ?_
 intro Q hq1 hq2
 have hr : ∀ fr H', resO f74.res fr H' = (celln 68 (fr.getD 4 undef) H').map fun c => .tuple #[c, fr.getD 5 undef] := fun fr H' => resCT 68 4 5 fr
 have lx := cSt_len hx
 have ox := cSt_one x
 have lz : Z68.length = 68 := rfl
 have oz : Z68.all Value.oneCell' = true := rfl
 simp (disch := first | assumption | omega | (simp only [LN] <;> omega) | (simp (disch := first | assumption | omega | (simp only [LN] <;> omega)) only [row_alloc, row_set]; assumption)) only [f74, W_block, P3, seval, initFr, clsA, ox, oz]
 refine hq2 _ _ ⟨_, by rw [hr]; simp (disch := first | assumption | omega | (simp only [LN] <;> omega) | (simp (disch := first | assumption | omega | (simp only [LN] <;> omega)) only [row_alloc, row_set]; assumption)) only [W_block, P3, ↓reduceIte, reduceAdd, reduceEqDiff, reduceCtorEq, initFr, reduceLT, clsA, reduceLeDiff, reduceMul, reduceSub, reduceIte]; rfl, by ((repeat (first | exact Keeps.refl _ | assumption | refine Keeps.alloc ?_ _ | (refine Keeps.set ?_ (by first | omega | (simp only [alloc_n, set_n] <;> omega)) (by first | omega | (simp only [alloc_n, set_n] <;> omega)) _) | (refine Keeps.trans' (by assumption) ?_)))), rfl⟩
end Go.AM.Fd

namespace Go.AM.Fd
open Nat (reduceAdd reduceEqDiff reduceLT reduceLeDiff reduceMul reduceSub)
open Go.Proofs Go.AM.F
theorem fillS (a b c : Nat) : fillA Z68 [(0, 1, .int .u64 (a : Nat)), (1, 1, .int .u64 (b : Nat)), (2, 1, .int .u64 (c : Nat))] = some (cSt ⟨a, b, c, Z64, 0⟩) := rfl
theorem fillS0 : fillA Z68 [(0, 1, .int .u64 0), (1, 1, .int .u64 0), (2, 1, .int .u64 0)] = some (cSt St0) := rfl
theorem copy_t {H : AHeap} {b e : Nat} {x : St} {v : Value} {sg : List UInt8} (g : H.get b = some (.cells true false 68 (cSt x) e)) (hx : x.t.length = 64) (hv : BS H v sg) (hl : sg.length = 64 ∨ sg = []) :
  ∃ w, asem (.copy 1 (slc b 3 64 64) v) H = some (w, if sg = [] then H else H.set b (.cells true false 68 (cSt { x with t := sg }) e)) := by
 have he := hv.el
 obtain ⟨a, k, rfl⟩ := hv.sh
 have lx := cSt_len hx
 rcases hl with hl | rfl
 ·have h0 : sg ≠ [] := by intro h; rw [h] at hl; simp at hl
  refine ⟨.int .i64 64, ?_⟩
  rw [hl] at he
  simp only [asem, slc, he, g, hl, if_neg h0, Nat.min_self, Nat.mul_one]
  rw [if_neg (by omega), if_pos ⟨trivial, by omega⟩]
  have e1 : (cSt x).take 3 ++ (cellsOf sg).take 64 ++ (cSt x).drop (3 + 64) = cSt { x with t := sg } := by
   have e0 : (cellsOf sg).take 64 = cellsOf sg := List.take_of_length_le (by rw [cellsOf_length]; omega)
   rw [e0]
   simp only [cSt, List.drop_succ_cons, List.take_succ_cons, List.take_zero, Nat.reduceAdd]
   rw [List.drop_append, List.drop_of_length_le (by rw [cellsOf_length]; omega), cellsOf_length, hx]
   rfl
  rw [e1]
  rfl
 ·simp only [List.length_nil] at he
  exact ⟨.int .i64 0, by simp [asem, slc, he, g]⟩
theorem cSt_set67 {x : St} (h : x.t.length = 64) (n : Nat) : (cSt x).set 67 (.int .u32 (n : Nat)) = cSt { x with p := n } := by
 simp only [cSt, List.set_cons_succ]
 rw [List.set_append_right _ _ (by rw [cellsOf_length]; omega), cellsOf_length, h]
 rfl
theorem t75 {H : AHeap} {lo hi r s : Nat} {l : List UInt8} (h : RR H lo hi r l s) (hl : l.length ≤ 1000000000) : ∃ v H', ARun Go.Proofs.Try.prog 0 75 [ptr r 0] H v H' ∧ v = .agg (cSt (deSt l s)).toArray ∧ RR H' lo hi r l (s + 92) ∧ Chg [r] H H' := by
 refine walk2 f75_ok f75_n ?_
 intro Q hq1 hq2
 have hr : ∀ fr H', resO f75.res fr H' = (celln 68 (fr.getD 1 undef) H') := fun fr H' => resC 1 68 fr
 have lz : Z68.length = 68 := rfl
 have oz : Z68.all Value.oneCell' = true := rfl
 have hrh := h.2.2.1
 have hr1 := h.2.1
 have k0 := (Keeps.refl H).alloc (.cells true false 68 Z68 26)
 have g0 := AHeap.get_alloc_new H (.cells true false 68 Z68 26)
 simp (disch := first | assumption | omega) only [f75, W_block, P3, seval, initFr, clsA, oz]
 obtain ⟨Ha, hHa⟩ : ∃ X, X = H.alloc (.cells true false 68 Z68 26) := ⟨_, rfl⟩
 rw [← hHa] at k0 g0 ⊢
 have l0 := AHeap.get_lt g0
 have n0 := k0.n
 refine callK (q46 (h.keeps k0) hl) ?_
 rintro _ K1 ⟨rfl, r1, c1⟩
 have n1 := c1.n
 simp (disch := first | assumption | omega) only [W_block, P3, seval, initFr, clsA]
 refine callK (q46 r1 hl) ?_
 rintro _ K2 ⟨rfl, r2, c2⟩
 have n2 := c2.n
 simp (disch := first | assumption | omega) only [W_block, P3, seval, initFr, clsA]
 refine callK (q46 r2 hl) ?_
 rintro _ K3 ⟨rfl, r3, c3⟩
 have n3 := c3.n
 have l1 : (cSt ⟨na l s 8, na l (s + 8) 8, na l (s + 8 + 8) 8, Z64, 0⟩).length = 68 := cSt_len rfl
 have o1 := cSt_one ⟨na l s 8, na l (s + 8) 8, na l (s + 8 + 8) 8, Z64, 0⟩
 simp (disch := first | assumption | omega) only [W_block, P3, seval, initFr, clsA, fillS, o1, oz]
 obtain ⟨Kb, hKb⟩ : ∃ X, X = K3.alloc (.cells true false 68 (cSt ⟨na l s 8, na l (s + 8) 8, na l (s + 8 + 8) 8, Z64, 0⟩) 26) := ⟨_, rfl⟩
 have kb := (Keeps.refl K3).alloc (.cells true false 68 (cSt ⟨na l s 8, na l (s + 8) 8, na l (s + 8 + 8) 8, Z64, 0⟩) 26)
 have gb := AHeap.get_alloc_new K3 (.cells true false 68 (cSt ⟨na l s 8, na l (s + 8) 8, na l (s + 8 + 8) 8, Z64, 0⟩) 26)
 rw [← hKb] at kb gb ⊢
 have nb := kb.n
 have lb := AHeap.get_lt gb
 simp (disch := first | assumption | omega) only [W_block, P3, seval, initFr, clsA, a_slarr0]
 refine callK (q48 (r3.keeps kb) 64 hl) ?_
 rintro v4 K4 ⟨B4, r4, c4, hv4⟩
 have n4 := c4.n
 have g4 : K4.get K3.n = some (.cells true false 68 (cSt ⟨na l s 8, na l (s + 8) 8, na l (s + 8 + 8) 8, Z64, 0⟩) 26) := by
  rw [Chg1.get c4 (by omega) (by omega)]; exact gb
 have hsg : (seg l (s + 8 + 8 + 8) 64).length = 64 ∨ seg l (s + 8 + 8 + 8) 64 = [] := by
  unfold seg
  split
  ·right; rfl
  ·left; rw [List.length_take, List.length_drop]; omega
 obtain ⟨w4, cp⟩ := copy_t g4 rfl B4 hsg
 have ht : tmr l (s + 24) = if seg l (s + 8 + 8 + 8) 64 = [] then Z64 else seg l (s + 8 + 8 + 8) 64 := by
  have e24 : s + 8 + 8 + 8 = s + 24 := by omega
  rw [e24] at hsg ⊢
  unfold tmr seg
  by_cases hlt : l.length < s + 24 + 64
  ·rw [if_pos hlt, if_pos hlt]; simp
  ·rw [if_neg hlt, if_neg hlt, if_neg]
   intro hn
   have := congrArg List.length hn
   rw [List.length_take, List.length_drop] at this
   simp at this; omega
 obtain ⟨Kc, hKc, gc, cc⟩ : ∃ Kc, (if seg l (s + 8 + 8 + 8) 64 = [] then K4 else K4.set K3.n (.cells true false 68 (cSt ⟨na l s 8, na l (s + 8) 8, na l (s + 8 + 8) 8, seg l (s + 8 + 8 + 8) 64, 0⟩) 26)) = Kc ∧ Kc.get K3.n = some (.cells true false 68 (cSt ⟨na l s 8, na l (s + 8) 8, na l (s + 8 + 8) 8, tmr l (s + 24), 0⟩) 26) ∧ Chg [K3.n] K4 Kc := by
  refine ⟨_, rfl, ?_, ?_⟩
  ·rw [ht]
   split
   ·exact g4
   ·exact AHeap.get_set_same g4 _
  ·split
   ·exact Chg.refl _ _
   ·exact Chg.set K4 (AHeap.get_lt g4) _
 rw [hKc] at cp
 have nc := cc.n
 simp (disch := first | assumption | omega) only [W_block, P3, seval, initFr, clsA, cp]
 refine callK (q50 (r4.chg cc (by omega)) hl) ?_
 rintro _ K5 ⟨rfl, r5, c5⟩
 have n5 := c5.n
 have l5 : (cSt ⟨na l s 8, na l (s + 8) 8, na l (s + 8 + 8) 8, tmr l (s + 24), 0⟩).length = 68 := cSt_len (tmr_len _ _)
 have g5 : K5.get K3.n = some (.cells true false 68 (cSt ⟨na l s 8, na l (s + 8) 8, na l (s + 8 + 8) 8, tmr l (s + 24), 0⟩) 26) := by
  rw [Chg1.get c5 (by omega) (by omega)]; exact gc
 have g0' : K5.get H.n = some (.cells true false 68 Z68 26) := by
  rw [Chg1.get c5 (by omega) (by omega), Chg1.get cc (by omega) (by omega), Chg1.get c4 (by omega) (by omega), kb.get _ (by omega), Chg1.get c3 (by omega) (by omega), Chg1.get c2 (by omega) (by omega), Chg1.get c1 (by omega) (by omega)]; exact g0
 have l6 := cSt_len (x := ⟨na l s 8, na l (s + 8) 8, na l (s + 8 + 8) 8, tmr l (s + 24), na l (s + 8 + 8 + 8 + 64) 4⟩) (tmr_len _ _)
 have o6 := cSt_one ⟨na l s 8, na l (s + 8) 8, na l (s + 8 + 8) 8, tmr l (s + 24), na l (s + 8 + 8 + 8 + 64) 4⟩
 have e6 := cSt_set67 (x := ⟨na l s 8, na l (s + 8) 8, na l (s + 8 + 8) 8, tmr l (s + 24), 0⟩) (tmr_len _ _) (na l (s + 8 + 8 + 8 + 64) 4)
 have p0 := AHeap.get_lt g0'
 have p5 := AHeap.get_lt g5
 simp (disch := first | assumption | omega) only [W_block, P3, seval, initFr, clsA, g5, g0', l5, e6, o6]
 have ed : deSt l s = ⟨na l s 8, na l (s + 8) 8, na l (s + 8 + 8) 8, tmr l (s + 24), na l (s + 8 + 8 + 8 + 64) 4⟩ := by
  unfold deSt
  simp only [Nat.add_assoc, Nat.reduceAdd]
 refine hq2 _ _ ⟨_, by rw [hr]; simp (disch := first | assumption | omega) only [W_block, P3, seval, initFr, clsA, g5, g0', l5, l6]; rfl, by rw [ed], ?_, ?_⟩
 ·have := (r5.chg (Chg.set K5 p5 (.cells true false 68 (cSt ⟨na l s 8, na l (s + 8) 8, na l (s + 8 + 8) 8, tmr l (s + 24), na l (s + 8 + 8 + 8 + 64) 4⟩) 26)) (by omega)).chg (Chg.set _ (by rw [set_n]; exact p0) (.cells true false 68 (cSt ⟨na l s 8, na l (s + 8) 8, na l (s + 8 + 8) 8, tmr l (s + 24), na l (s + 8 + 8 + 8 + 64) 4⟩) 26)) (by omega)
  rw [show s + 8 + 8 + 8 + 64 + 4 = s + 92 by omega] at this
  exact this
 ·refine ⟨by rw [set_n, set_n]; omega, fun x hx hn => ?_⟩
  simp only [List.mem_singleton] at hn
  rw [AHeap.get_set_other _ (by omega) (by rw [set_n]; exact p0), AHeap.get_set_other _ (by omega) p5, Chg1.get c5 (by omega) hn, Chg1.get cc (by omega) (by omega), Chg1.get c4 (by omega) hn, kb.get _ (by omega), Chg1.get c3 (by omega) hn, Chg1.get c2 (by omega) hn, Chg1.get c1 (by omega) hn, k0.get _ hx]
theorem n75 (H : AHeap) : ∃ v H', ARun Go.Proofs.Try.prog 0 75 [.pointer none] H v H' ∧ v = .agg (cSt St0).toArray ∧ Keeps H H' := by
 refine walk2 f75_ok f75_n ?_
 intro Q hq1 hq2
 have hr : ∀ fr H', resO f75.res fr H' = (celln 68 (fr.getD 1 undef) H') := fun fr H' => resC 1 68 fr
 have lz : Z68.length = 68 := rfl
 have oz : Z68.all Value.oneCell' = true := rfl
 have lz2 : (cSt St0).length = 68 := rfl
 have oz2 : (cSt St0).all Value.oneCell' = true := rfl
 simp (disch := first | assumption | omega) only [f75, W_block, P3, seval, initFr, clsA, oz]
 refine callK (n46 _) ?_
 rintro _ _ ⟨rfl, rfl⟩
 simp (disch := first | assumption | omega) only [W_block, P3, seval, initFr, clsA]
 refine callK (n46 _) ?_
 rintro _ _ ⟨rfl, rfl⟩
 simp (disch := first | assumption | omega) only [W_block, P3, seval, initFr, clsA]
 refine callK (n46 _) ?_
 rintro _ _ ⟨rfl, rfl⟩
 simp (disch := first | assumption | omega | (simp only [LN] <;> omega) | (simp (disch := first | assumption | omega | (simp only [LN] <;> omega)) only [row_alloc, row_set]; assumption)) only [W_block, P3, seval, initFr, clsA, fillS0, oz, oz2, a_slarr0]
 refine callK (n48 _ _) ?_
 rintro _ _ ⟨rfl, rfl⟩
 have cp : ∀ X : AHeap, X.get (H.n + 1) = some (.cells true false 68 (cSt St0) 26) → ∃ w, asem (.copy 1 (slc (H.n + 1) 3 64 64) (.slice none 0 0)) X = some (w, X) := fun X g => by
  obtain ⟨w, e⟩ := copy_t g rfl (BS.nil X) (.inr rfl)
  exact ⟨w, by simpa using e⟩
 obtain ⟨w, cp⟩ := cp _ (by rw [show H.n + 1 = (H.alloc (.cells true false 68 Z68 26)).n from rfl]; exact AHeap.get_alloc_new _ _)
 simp (disch := first | assumption | omega) only [W_block, P3, seval, initFr, clsA, cp]
 refine callK (n50 _) ?_
 rintro _ _ ⟨rfl, rfl⟩
 have e6 : (cSt St0).set 67 (.int .u32 0) = cSt St0 := rfl
 simp (disch := first | assumption | omega | (simp only [LN] <;> omega) | (simp (disch := first | assumption | omega | (simp only [LN] <;> omega)) only [row_alloc, row_set]; assumption)) only [W_block, P3, seval, initFr, clsA, e6, oz2]
 refine hq2 _ _ ⟨_, by rw [hr]; simp (disch := first | assumption | omega | (simp only [LN] <;> omega) | (simp (disch := first | assumption | omega | (simp only [LN] <;> omega)) only [row_alloc, row_set]; assumption)) only [W_block, P3, ↓reduceIte, reduceAdd, reduceEqDiff, reduceCtorEq, initFr, reduceLT, clsA, reduceLeDiff, reduceMul, reduceSub, reduceIte], rfl, by ((repeat (first | exact Keeps.refl _ | assumption | refine Keeps.alloc ?_ _ | (refine Keeps.set ?_ (by first | omega | (simp only [alloc_n, set_n] <;> omega)) (by first | omega | (simp only [alloc_n, set_n] <;> omega)) _) | (refine Keeps.trans' (by assumption) ?_))))⟩
end Go.AM.Fd

namespace Go.AM.Fd
open Nat (reduceAdd reduceEqDiff reduceLT reduceLeDiff reduceMul reduceSub)
open Go.Proofs Go.AM.F
def geSt (b : List UInt8) : Option St := if frm 3 b = true then pdSt (bd b) else none
theorem bd_le {b : List UInt8} (h : b.length ≤ 1000000000) : (bd b).length ≤ 1000000000 := by rw [bd_len]; omega
theorem t47 {H : AHeap} {v : Value} {b : List UInt8} (hb : BQ H v b) (hl : b.length ≤ 1000000000) : ∃ w H', ARun Go.Proofs.Try.prog 0 47 [v] H w H' ∧ Keeps H H' ∧ w = match geSt b with | some x => GotV (cSt x) 0 | none => GotV (cSt St0) 130 := by
 refine walk2 f47_ok f47_n ?_
 intro Q hq1 hq2
 have hr : ∀ fr H', resO f47.res fr H' = (celln 68 (fr.getD 1 undef) H').map fun c => .tuple #[c, fr.getD 2 undef] := fun fr H' => resCT 68 1 2 fr
 have k0 := (Keeps.refl H).alloc (.cells true false 68 Z68 26)
 have g0 := AHeap.get_alloc_new H (.cells true false 68 Z68 26)
 have lz : Z68.length = 68 := rfl
 have ozz : Z68.all Value.oneCell' = true := rfl
 have lz' : (cSt St0).length = 68 := rfl
 have ozz' : (cSt St0).all Value.oneCell' = true := rfl
 simp (disch := first | assumption | omega) only [f47, W_block, P3, seval, initFr, clsA, ozz]
 refine callK (t73 (hb.keeps (by ((repeat (first | exact Keeps.refl _ | assumption | refine Keeps.alloc ?_ _ | (refine Keeps.set ?_ (by first | omega | (simp only [alloc_n, set_n] <;> omega)) (by first | omega | (simp only [alloc_n, set_n] <;> omega)) _) | (refine Keeps.trans' (by assumption) ?_)))))) 3 (by omega) hl) ?_
 rintro _ K0 ⟨k, ⟨rfl, rfl, hf⟩ | ⟨r, rfl, r0⟩⟩
 ·simp (disch := first | assumption | omega) only [W_block, P3, seval, initFr, clsA]
  refine callK (n75 _) ?_
  rintro _ Ks ⟨rfl, ks⟩
  have nks := ks.n
  simp only [alloc_n] at nks
  simp (disch := first | assumption | omega) only [Keeps.get ks, Keeps.row ks, W_block, P3, seval, initFr, clsA]
  refine callK (n74 St0 rfl) ?_
  rintro _ K1 ⟨k1, rfl⟩
  have nk1 := k1.n
  try simp only [alloc_n] at nk1
  simp (disch := first | assumption | omega | (simp only [LN] <;> omega) | (simp (disch := first | assumption | omega | (simp only [LN] <;> omega)) only [row_alloc, row_set, Keeps.row ks, Keeps.row k1]; assumption)) only [Keeps.get ks, Keeps.get k1, Keeps.row ks, Keeps.row k1, W_block, P3, seval, initFr, clsA, GotV, ozz, ozz']
  refine hq2 _ _ ⟨_, by rw [hr]; simp (disch := first | assumption | omega | (simp only [LN] <;> omega) | (simp (disch := first | assumption | omega | (simp only [LN] <;> omega)) only [row_alloc, row_set, Keeps.row ks, Keeps.row k1]; assumption)) only [Keeps.get ks, Keeps.get k1, Keeps.row ks, Keeps.row k1, W_block, P3, ↓reduceIte, reduceAdd, reduceEqDiff, reduceCtorEq, initFr, reduceLT, clsA, reduceLeDiff, reduceMul, reduceSub, reduceIte, ozz, ozz']; rfl, by ((repeat (first | exact Keeps.refl _ | assumption | refine Keeps.alloc ?_ _ | (refine Keeps.set ?_ (by first | omega | (simp only [alloc_n, set_n] <;> omega)) (by first | omega | (simp only [alloc_n, set_n] <;> omega)) _) | (refine Keeps.trans' (by assumption) ?_)))), ?_⟩
  simp only [geSt, hf]
  rfl
 ·have hn0 := k.n
  simp only [alloc_n] at hn0
  have hlb := bd_le hl
  have hrl : H.n + 1 ≤ r := r0.1
  have c0 := Chg.refl [r] K0
  simp (disch := first | assumption | omega) only [W_block, P3, seval, initFr, clsA]
  refine callK (t75 r0 hlb) ?_
  rintro _ K1 ⟨rfl, r1, e1⟩
  have c1 := Chg1.tr c0 e1
  simp (disch := first | assumption | omega) only [W_block, P3, seval, initFr, clsA]
  refine callK (t74 r1 (frm 3 b) (deSt (bd b) 0) (tmr_len _ _)) ?_
  rintro _ K ⟨k6, rfl⟩
  have cc := Chg1.tr c1 (Chg1.kp k6)
  have n6 := cc.n
  have g6 : K.get H.n = some (.cells true false 68 Z68 26) := by
   rw [Chg1.get cc (by omega) (by omega), k.get _ (by rw [alloc_n]; omega)]; exact g0
  have p6 := AHeap.get_lt g6
  have kk : ∀ o, Keeps H (K.set H.n o) := fun o => ⟨by rw [set_n]; omega, fun y hy => by
   rw [AHeap.get_set_other _ (by omega) p6, Chg1.get cc (by omega) (by omega), k.get _ (by rw [alloc_n]; omega)]; exact k0.get _ hy⟩
  have ed : deSt (bd b) 0 = deSt (bd b) 0 := rfl
  rw [ed]
  by_cases hc : frm 3 b = true ∧ (bd b).length = 0 + 92
  ·rw [if_pos hc]
   have ge : geSt b = some (deSt (bd b) 0) := by unfold geSt pdSt; rw [if_pos hc.1, if_pos hc.2]
   have lx := cSt_len (x := deSt (bd b) 0) (tmr_len _ _)
   have ox := cSt_one (deSt (bd b) 0)
   simp (disch := first | assumption | omega) only [W_block, P3, seval, initFr, clsA, GotV, g6, ox, ozz]
   refine hq2 _ _ ⟨_, by rw [hr]; simp (disch := first | assumption | omega) only [W_block, P3, seval, initFr, clsA, g6, ox, ozz]; rfl, kk _, ?_⟩
   rw [ge]; rfl
  ·rw [if_neg hc]
   have ge : geSt b = none := by
    unfold geSt pdSt
    split
    ·rename_i hf
     rw [if_neg (fun h => hc ⟨hf, h⟩)]
    ·rfl
   simp (disch := first | assumption | omega) only [W_block, P3, seval, initFr, clsA, GotV, g6, ozz, ozz']
   refine hq2 _ _ ⟨_, by rw [hr]; simp (disch := first | assumption | omega) only [W_block, P3, seval, initFr, clsA, g6, ozz, ozz']; rfl, kk _, ?_⟩
   rw [ge]; rfl
end Go.AM.Fd

namespace Go.AM
def via (ρ : Nat → Option Nat) (σ : Sg) : Sg := fun b => (ρ b).bind σ
theorem via_of {ρ : Nat → Option Nat} {σ : Sg} {b c : Nat} {i : BI} (h : ρ b = some c) (k : σ c = some i) : via ρ σ b = some i := by
 unfold via; rw [h]; exact k
theorem via_inv {ρ : Nat → Option Nat} {σ : Sg} {b : Nat} {i : BI} (h : via ρ σ b = some i) : ∃ c, ρ b = some c ∧ σ c = some i := by
 unfold via at h
 cases hb : ρ b with
 | none => rw [hb] at h; cases h
 | some c => rw [hb] at h; exact ⟨c, rfl, h⟩
inductive NV (ρ : Nat → Option Nat) : Value → Value → Prop
 | bool (b : Bool) : NV ρ (.bool b) (.bool b)
 | int (k : IntKind) (n : Int) : NV ρ (.int k n) (.int k n)
 | string (s : ByteArray) : NV ρ (.string s) (.string s)
 | nilPtr : NV ρ (.pointer none) (.pointer none)
 | ptr {b c o : Nat} (h : ρ b = some c) : NV ρ (.pointer (some ⟨b, o, none⟩)) (.pointer (some ⟨c, o, none⟩))
 | nilSl : NV ρ (.slice none 0 0) (.slice none 0 0)
 | sl {b c o n k : Nat} (h : ρ b = some c) : NV ρ (.slice (some ⟨b, o, none⟩) n k) (.slice (some ⟨c, o, none⟩) n k)
 | slz {x : Addr} (hx : x.spot.isSome = true) : NV ρ (.slice (some x) 0 0) (.slice (some x) 0 0)
 | nilMap : NV ρ (.map none) (.map none)
 | map {b c : Nat} (h : ρ b = some c) : NV ρ (.map (some b)) (.map (some c))
 | func (fn : Fn) (xs xs' ys ys' : Array Value) (h1 : xs.size = xs'.size) (h2 : ∀ i (a : i < xs.size) (b : i < xs'.size), NV ρ xs[i] xs'[i])
   (h3 : ys.size = ys'.size) (h4 : ∀ i (a : i < ys.size) (b : i < ys'.size), NV ρ ys[i] ys'[i]) : NV ρ (.func fn xs ys) (.func fn xs' ys')
 | nilFunc : NV ρ .nilFunc .nilFunc
 | iface (t : TypeId) {v v' : Value} (h : NV ρ v v') : NV ρ (.iface t v) (.iface t v')
 | nilIface : NV ρ .nilIface .nilIface
 | agg (xs xs' : Array Value) (h1 : xs.size = xs'.size) (h2 : ∀ i (a : i < xs.size) (b : i < xs'.size), NV ρ xs[i] xs'[i]) : NV ρ (.agg xs) (.agg xs')
 | tuple (xs xs' : Array Value) (h1 : xs.size = xs'.size) (h2 : ∀ i (a : i < xs.size) (b : i < xs'.size), NV ρ xs[i] xs'[i]) : NV ρ (.tuple xs) (.tuple xs')
inductive NL (ρ : Nat → Option Nat) : List Value → List Value → Prop
 | nil : NL ρ [] []
 | cons {v v' : Value} {l l' : List Value} (h : NV ρ v v') (t : NL ρ l l') : NL ρ (v :: l) (v' :: l')
theorem NV.via {ρ : Nat → Option Nat} {σ : Sg} {a b : Value} (h : NV ρ a b) : ∀ {c : Value}, VR σ b c → VR (AM.via ρ σ) a c := by
 induction h with
 | bool b => intro c k; cases k; exact .bool _
 | int k n => intro c k; cases k; exact .int _ _
 | string s => intro c k; cases k; exact .string _
 | nilPtr => intro c k; cases k; exact .nilPtr
 | ptr e => intro c k; cases k with | ptr e2 => exact .ptr (via_of e e2)
 | nilSl => intro c k; cases k; exact .nilSl
 | sl e =>
  intro c k
  cases k with
  | sl e2 hn2 hk2 => exact .sl (via_of e e2) hn2 hk2
  | sl0 e2 => exact .sl0 (via_of e e2)
  | slz hx => simp at hx
 | slz hx =>
  intro c k
  cases k with
  | sl e2 hn2 hk2 => simp at hx
  | sl0 e2 => exact .slz hx
  | slz _ => exact .slz hx
 | nilMap => intro c k; cases k; exact .nilMap
 | map e => intro c k; cases k with | map e2 => exact .map (via_of e e2)
 | func fn xs xs' ys ys' h1 _ h3 _ i2 i4 =>
  intro c k
  cases k with
  | func _ _ zs _ us g1 g2 g3 g4 => exact .func fn xs zs ys us (by omega) (fun i a b => i2 i a (by omega) (g2 i (by omega) b)) (by omega) (fun i a b => i4 i a (by omega) (g4 i (by omega) b))
 | nilFunc => intro c k; cases k; exact .nilFunc
 | iface t _ ih => intro c k; cases k with | iface _ k => exact .iface t (ih k)
 | nilIface => intro c k; cases k; exact .nilIface
 | agg xs xs' h1 _ ih =>
  intro c k
  cases k with
  | agg _ zs g1 g2 => exact .agg xs zs (by omega) (fun i a b => ih i a (by omega) (g2 i (by omega) b))
 | tuple xs xs' h1 _ ih =>
  intro c k
  cases k with
  | tuple _ zs g1 g2 => exact .tuple xs zs (by omega) (fun i a b => ih i a (by omega) (g2 i (by omega) b))
theorem NL.via {ρ : Nat → Option Nat} {σ : Sg} {a b : List Value} (h : NL ρ a b) : ∀ {c : List Value}, VL σ b c → VL (AM.via ρ σ) a c := by
 induction h with
 | nil => intro c k; cases k; exact .nil
 | cons h _ ih => intro c k; cases k with | cons k1 k2 => exact .cons (h.via k1) (ih k2)
theorem NL.length {ρ : Nat → Option Nat} {a b : List Value} (h : NL ρ a b) : a.length = b.length := by
 induction h with
 | nil => rfl
 | cons _ _ ih => simp [ih]
theorem NL.one {ρ : Nat → Option Nat} {a b : List Value} (h : NL ρ a b) (hb : ∀ v ∈ b, v.oneCell' = true) : ∀ v ∈ a, v.oneCell' = true := by
 induction h with
 | nil => simp
 | cons h _ ih =>
  intro v hv
  rcases List.mem_cons.1 hv with rfl | hv
  ·have := hb _ (List.mem_cons_self ..)
   cases h <;> first | exact this | rfl
  ·exact ih (fun v hv => hb v (List.mem_cons_of_mem _ hv)) v hv
def AOr (ρ : Nat → Option Nat) (a b : AO) : Prop := match a with
 | .dead => True
 | .cells own room esz c e => ∃ own' c', b = .cells own' room esz c' e ∧ (own = true → own' = true) ∧ NL ρ c c'
 | .obj own o => ∃ own', b = .obj own' o ∧ (own = true → own' = true)
 | .loop .. => False
theorem AOr.own {ρ : Nat → Option Nat} {a b : AO} (h : AOr ρ a b) (ha : a.own = true) : b.own = true := by
 cases a with
 | dead => cases ha
 | cells own room esz c e => obtain ⟨own', c', rfl, h1, _⟩ := h; exact h1 ha
 | obj own o => obtain ⟨own', rfl, h1⟩ := h; exact h1 ha
 | loop own st pe L => exact h.elim
theorem AOr.live {ρ : Nat → Option Nat} {a b : AO} (h : AOr ρ a b) (ha : a.live = true) : b.live = true := by
 cases a with
 | dead => cases ha
 | cells own room esz c e => obtain ⟨own', c', rfl, h1, _⟩ := h; rfl
 | obj own o => obtain ⟨own', rfl, h1⟩ := h; rfl
 | loop own st pe L => exact h.elim
theorem AOr.or {ρ : Nat → Option Nat} {a b : AO} (h : AOr ρ a b) {σ : Sg} {w : World} {i : BI} (k : OR σ w i b) : OR (AM.via ρ σ) w i a := by
 cases a with
 | dead => trivial
 | cells own room esz c e =>
  obtain ⟨own', c', rfl, h1, h2⟩ := h
  obtain ⟨a1, a2, a3, a4, a9, d, fr, a5, a6, a7, a8⟩ := k
  have hl := h2.length
  exact ⟨by rw [hl]; exact a1, a2, a3, by rw [hl]; exact a4, h2.one a9, d, fr, a5, a6, by rw [hl]; exact h2.via a7, fun ho => by rw [hl]; exact a8 (h1 ho)⟩
 | obj own o => obtain ⟨own', rfl, h1⟩ := h; exact k
 | loop own st pe L => exact h.elim
variable {P : Program} {ng : Nat} {f : FuncId} {args : List Value} {H H' H'' : AHeap} {v v'' : Value}
def Stood (ng : Nat) (args : List Value) (H : AHeap) (v : Value) : Prop := ∀ (σ : Sg) (w : World) (args' : List Value), HR ng σ H.get w → VL σ args args' → ∃ x, VR σ v x
theorem ARun.gc (h : ARun P ng f args H v H') (ρ : Nat → Option Nat) (hn : H.n ≤ H''.n)
  (r0 : ∀ b, b < H.n → ρ b = some b) (r1 : ∀ b c, ρ b = some c → b < H''.n ∧ (H.n ≤ b → H.n ≤ c)) (ri : ∀ b1 b2 c, ρ b1 = some c → ρ b2 = some c → b1 = b2)
  (ro : ∀ b c o', ρ b = some c → H'.get c = some o' → (b = c ∧ b < H.n ∧ H.get b = some o' ∧ H''.get b = some o') ∨ ∃ o'', H''.get b = some o'' ∧ AOr ρ o'' o')
  (rv : (v'' = v ∧ Stood ng args H v) ∨ NV ρ v'' v) : ARun P ng f args H v'' H'' := by
 obtain ⟨h0, h1, h2⟩ := h
 refine ⟨h0, hn, fun σ w args' hr ha => ?_⟩
 refine (h2 σ w args' hr ha).mono ?_
 rintro e w' ⟨v', σ', rfl, k1, k2, k3⟩
 have old : ∀ b i, σ b = some i → b < H.n := fun b i hb => by
  obtain ⟨o, g, _⟩ := hr.obj b i hb
  exact AHeap.get_lt g
 have sub : σ.le (AM.via ρ σ') := fun b i hb => via_of (r0 b (old b i hb)) (k2.sub b i hb)
 have back : ∀ b i, b < H.n → σ' b = some i → σ b = some i := fun b i hb hs => by
  cases hsb : σ b with
  | none => have := (k2.new b i hsb hs).1.1; omega
  | some j => have := k2.sub b j hsb; rw [hs] at this; exact this.symm
 have meet_le : (meet σ' σ).le (AM.via ρ σ') := fun b i hb => by
  unfold meet at hb
  split at hb
  ·rename_i hs
   obtain ⟨j, hj⟩ := Option.isSome_iff_exists.1 hs
   exact via_of (r0 b (old b j hj)) hb
  ·cases hb
 have obj : ∀ b i, AM.via ρ σ' b = some i → ∃ c o'' o', ρ b = some c ∧ σ' c = some i ∧ H''.get b = some o'' ∧ H'.get c = some o' ∧ OR (AM.via ρ σ') w' i o'' ∧ (o''.own = true → o'.own = true) ∧ (o''.live = true → o'.live = true) := by
  intro b i hb
  obtain ⟨c, hc, hs⟩ := via_inv hb
  obtain ⟨o', g1, g2⟩ := k1.obj c i hs
  rcases ro b c o' hc g1 with ⟨rfl, hlt, e1, e2⟩ | ⟨o'', e1, e2⟩
  ·refine ⟨b, o', o', hc, hs, e2, g1, ?_, fun x => x, fun x => x⟩
   have hsb := back b i hlt hs
   obtain ⟨o2, f1, f2⟩ := hr.obj b i hsb
   rw [e1] at f1; cases f1
   exact (g2.meet f2).mono meet_le
  ·exact ⟨c, o'', o', hc, hs, e1, g1, e2.or g2, e2.own, e2.live⟩
 refine ⟨v', AM.via ρ σ', rfl, ⟨?_, ?_, ?_, ?_⟩, ⟨sub, ?_, ?_, ?_, k2.keep, k2.size, hn, k2.os, k2.tape, k2.output⟩, ?_⟩
 ·intro b i hb
  obtain ⟨c, o'', o', _, _, e1, _, e2, _⟩ := obj b i hb
  exact ⟨o'', e1, e2⟩
 ·intro b1 b2 i1 i2 o1 o2 hne hb1 hb2 ho1 ho2 hw hl
  obtain ⟨c1, p1, q1, a1, a2, a3, a4, _, a5, _⟩ := obj b1 i1 hb1
  obtain ⟨c2, p2, q2, d1, d2, d3, d4, _, _, d6⟩ := obj b2 i2 hb2
  rw [ho1] at a3; cases a3
  rw [ho2] at d3; cases d3
  exact k1.inj c1 c2 i1 i2 q1 q2 (fun hc => by subst hc; exact hne (ri b1 b2 c1 a1 d1)) a2 d2 a4 d4 (a5 hw) (d6 hl)
 ·intro b i hb
  obtain ⟨c, _, hs⟩ := via_inv hb
  exact k1.lt c i hs
 ·intro g hg
  obtain ⟨i, g1, g2, g3⟩ := hr.glob g hg
  exact ⟨i, sub g i g1, g2, g3⟩
 ·intro b i hb hs
  obtain ⟨c, hc, hs'⟩ := via_inv hs
  by_cases hlt : b < H.n
  ·have := r0 b hlt
   rw [hc] at this; cases this
   rw [back b i hlt hs'] at hb; cases hb
  ·have hcn := (r1 b c hc).2 (by omega)
   have hsc : σ c = none := by
    cases hsc : σ c with
    | none => rfl
    | some j => have := old c j hsc; omega
   exact ⟨⟨by omega, (r1 b c hc).1⟩, (k2.new c i hsc hs').2⟩
 ·intro b i o'' hb ho hw
  obtain ⟨c, p1, q1, a1, a2, a3, a4, _, a5, _⟩ := obj b i (sub b i hb)
  rw [r0 b (old b i hb)] at a1; cases a1
  rw [ho] at a3; cases a3
  exact k2.own b i q1 hb a4 (a5 hw)
 ·intro b i o'' hb ho hw
  obtain ⟨c, p1, q1, a1, a2, a3, a4, _, _, a6⟩ := obj b i (sub b i hb)
  rw [r0 b (old b i hb)] at a1; cases a1
  rw [ho] at a3; cases a3
  exact k2.live b i q1 hb a4 (a6 hw)
 ·rcases rv with ⟨rfl, hst⟩ | hrv
  ·obtain ⟨x, hx⟩ := hst σ w args' hr ha
   exact (k3.meet hx).mono meet_le
  ·exact hrv.via k3
theorem NV.plain {ρ : Nat → Option Nat} {v : Value} (h : plain1 v = true) : NV ρ v v := by
 unfold plain1 at h
 split at h <;> first | constructor | cases h
theorem NL.plain {ρ : Nat → Option Nat} : ∀ {l : List Value}, l.all plain1 = true → NL ρ l l
 | [], _ => .nil
 | v :: l, h => by
  simp only [List.all_cons, Bool.and_eq_true] at h
  exact .cons (NV.plain h.1) (NL.plain h.2)
theorem NL.get {ρ : Nat → Option Nat} {l l' : List Value} (h : NL ρ l l') : ∀ (i : Nat) (a : i < l.length) (b : i < l'.length), NV ρ l[i] l'[i] := by
 induction h with
 | nil => intro i a; simp at a
 | cons h _ ih =>
  intro i a b
  cases i with
  | zero => exact h
  | succ i => exact ih i (by simpa using a) (by simpa using b)
theorem NV.agg_of {ρ : Nat → Option Nat} {l l' : List Value} (h : NL ρ l l') : NV ρ (.agg l.toArray) (.agg l'.toArray) :=
 .agg _ _ (by simpa using h.length) (fun i a b => by simpa using h.get i (by simpa using a) (by simpa using b))
theorem NV.tuple_of {ρ : Nat → Option Nat} {l l' : List Value} (h : NL ρ l l') : NV ρ (.tuple l.toArray) (.tuple l'.toArray) :=
 .tuple _ _ (by simpa using h.length) (fun i a b => by simpa using h.get i (by simpa using a) (by simpa using b))
def rho (n : Nat) (bs : List Nat) : Nat → Option Nat := fun b => if b < n then some b else bs[b - n]?
theorem rho_old {n : Nat} {bs : List Nat} {b : Nat} (h : b < n) : rho n bs b = some b := by unfold rho; rw [if_pos h]
theorem ARun.gc0 (h : ARun P ng f args H v H') (k : Keeps H H') (hv : Stood ng args H v ∨ NV (rho H.n []) v v) : ARun P ng f args H v H := by
 refine h.gc (rho H.n []) (Nat.le_refl _) (fun b hb => rho_old hb) ?_ ?_ ?_ ?_
 ·intro b c hb
  unfold rho at hb
  split at hb
  ·cases hb; exact ⟨by assumption, by omega⟩
  ·simp at hb
 ·intro b1 b2 c h1 h2
  unfold rho at h1 h2
  split at h1 <;> split at h2 <;> simp_all
 ·intro b c o' hb ho
  unfold rho at hb
  split at hb
  ·rename_i hlt
   cases hb
   have := k.get b hlt
   rw [ho] at this
   exact .inl ⟨rfl, hlt, this.symm, this.symm⟩
  ·simp at hb
 ·rcases hv with hv | hv
  ·exact .inl ⟨rfl, hv⟩
  ·exact .inr hv
theorem ARun.gcs (h : ARun P ng f args H v H') (bs : List Nat) (hn : H''.n = H.n + bs.length) (hge : ∀ b ∈ bs, H.n ≤ b) (hnd : bs.Nodup)
  (hold : ∀ b o', b < H.n → H'.get b = some o' → (H.get b = some o' ∧ H''.get b = some o') ∨ ∃ o'', H''.get b = some o'' ∧ AOr (rho H.n bs) o'' o')
  (hnew : ∀ i b o', bs[i]? = some b → H'.get b = some o' → ∃ o'', H''.get (H.n + i) = some o'' ∧ AOr (rho H.n bs) o'' o')
  (hv : (v'' = v ∧ Stood ng args H v) ∨ NV (rho H.n bs) v'' v) : ARun P ng f args H v'' H'' := by
 refine h.gc (rho H.n bs) (by omega) (fun b hb => rho_old hb) ?_ ?_ ?_ hv
 ·intro b c hb
  unfold rho at hb
  split at hb
  ·cases hb; exact ⟨by omega, by omega⟩
  ·obtain ⟨h1, h2⟩ := List.getElem?_eq_some_iff.1 hb
   exact ⟨by omega, fun _ => hge c (List.mem_of_getElem? hb)⟩
 ·intro b1 b2 c h1 h2
  unfold rho at h1 h2
  split at h1 <;> split at h2
  ·cases h1; cases h2; rfl
  ·cases h1; have := hge _ (List.mem_of_getElem? h2); omega
  ·cases h2; have := hge _ (List.mem_of_getElem? h1); omega
  ·obtain ⟨a1, a2⟩ := List.getElem?_eq_some_iff.1 h1
   obtain ⟨d1, d2⟩ := List.getElem?_eq_some_iff.1 h2
   have := (List.getElem_inj hnd).1 (a2.trans d2.symm)
   omega
 ·intro b c o' hb ho
  unfold rho at hb
  split at hb
  ·rename_i hlt
   cases hb
   rcases hold b o' hlt ho with h | h
   ·exact .inl ⟨rfl, hlt, h⟩
   ·exact .inr h
  ·obtain ⟨o'', e1, e2⟩ := hnew _ c o' hb ho
   exact .inr ⟨o'', by rw [show H.n + (b - H.n) = b by omega] at e1; exact e1, e2⟩
structure OB (e : Nat) (H K : AHeap) (v : Value) (l : List UInt8) : Prop where
 ap : AP K e 1 v l.length (cellsOf l)
 k : Keeps H K
 f : Fresh H.n v
theorem OB.bs {e : Nat} {H K : AHeap} {v : Value} {l : List UInt8} (h : OB e H K v l) : BS K v l := h.ap.bs
theorem OB.bq {e : Nat} {H K : AHeap} {v : Value} {l : List UInt8} (h : OB e H K v l) : BQ K v l := h.ap.bq
theorem OB.keeps {e : Nat} {H K K' : AHeap} {v : Value} {l : List UInt8} (h : OB e H K v l) (k : Keeps K K') : OB e H K' v l := ⟨h.ap.keeps k, h.k.trans k, h.f⟩
theorem OB.base {e : Nat} {H0 H K : AHeap} {v : Value} {l : List UInt8} (h : OB e H K v l) (k : Keeps H0 H) : OB e H0 K v l := ⟨h.ap, k.trans h.k, fun b hb => Nat.le_trans k.n (h.f b hb)⟩
theorem OB.lit {e : Nat} {H K : AHeap} (k : Keeps H K) {l : List UInt8} {c : List Value} {n b : Nat} (hc : c = cellsOf l) (hn : n = l.length) (hb : b = K.n) (room : Bool) : OB e H (K.alloc (.cells true room 1 c e)) (slc b 0 n n) l := by
 subst hc; subst hn; subst hb
 exact ⟨.inr ⟨K.n, room, rfl, by rw [cellsOf_length, Nat.mul_one], AHeap.get_alloc_new K _⟩, k.trans ((Keeps.refl K).alloc _), fun b hb => by cases hb; exact k.n⟩
theorem OB.grow {e : Nat} {H K K' : AHeap} {v v' : Value} {l m : List UInt8} (h : OB e H K v l) (a : AP K' e 1 v' (l.length + m.length) (cellsOf l ++ cellsOf m)) (c : Chg (blkL v) K K') (hb : blk v' = blk v ∨ blk v' = some K.n) : OB e H K' v' (l ++ m) := by
 refine ⟨by rw [List.length_append, cellsOf_append]; exact a, h.k.chg_trans c (fun x hx => h.f x (mem_blkL.1 hx)), fun b hb' => ?_⟩
 rcases hb with e1 | e1
 ·exact h.f b (by rw [← e1]; exact hb')
 ·rw [e1] at hb'; cases hb'; exact h.k.n
section
variable {KF : List Value → AHeap → Prop} {fr tm : List Value} {tr : List TE} {K : AHeap}
theorem OB.appR {d : D} {r : List AOper} {e : Nat} {s x : Value} {l m : List UInt8} (h : OB e H K s l) (hx : BS K x m) (hs : l.length + m.length ≤ 1000000000)
  (hk : ∀ v' K', OB e H K' v' (l ++ m) → RW P ng r (d.frame v' fr) (d.temps v' tm) K' KF) : goR P ng (asem (.app e 1 1 s x) K) d r fr tm KF :=
 appG h.ap hx.sh hx.el (by rw [cellsOf_length, Nat.mul_one]) (by omega) (fun v' K' a c hb => hk v' K' (h.grow a c hb))
theorem OB.appD {d : D} {r : List (AOper × List Nat)} {e : Nat} {s x : Value} {l m : List UInt8} (h : OB e H K s l) (hx : BS K x m) (hs : l.length + m.length ≤ 1000000000)
  (hk : ∀ v' K', OB e H K' v' (l ++ m) → RD P ng r (d.frame v' fr) (d.temps v' tm) K' (tr ++ [⟨3, [], K, K'⟩]) KF) : goD P ng (.app e 1 1 s x) (asem (.app e 1 1 s x) K) d [] r fr tm K tr KF :=
 appGD h.ap hx.sh hx.el (by rw [cellsOf_length, Nat.mul_one]) (by omega) (fun v' K' a c hb => hk v' K' (h.grow a c hb))
end
theorem cells1 {a : Nat} (ha : a < 256) : [Value.int .u8 (a : Nat)] = cellsOf [UInt8.ofNat a] := by
 simp only [cellsOf, List.map_cons, List.map_nil, UInt8.toNat_ofNat']
 rw [Nat.mod_eq_of_lt (by omega)]
theorem cells2 {a b : Nat} (ha : a < 256) (hb : b < 256) : [Value.int .u8 (a : Nat), .int .u8 (b : Nat)] = cellsOf [UInt8.ofNat a, UInt8.ofNat b] := by
 simp only [cellsOf, List.map_cons, List.map_nil, UInt8.toNat_ofNat']
 rw [Nat.mod_eq_of_lt (by omega), Nat.mod_eq_of_lt (by omega)]
theorem callP {xs : List Value} {K : Value → AHeap → Prop} (h : ∃ w H', ARun P ng f xs H w H' ∧ w = v ∧ H' = H) (k : K v H) : ∃ v H', ARun P ng f xs H v H' ∧ K v H' := by
 obtain ⟨w, H', h1, rfl, rfl⟩ := h
 exact ⟨_, _, h1, k⟩
end Go.AM

namespace Go.AM.Fd
open Go.Proofs Go.AM.F
theorem RR.gc {P : Program} {ng : Nat} {f : FuncId} {args : List Value} {H H' : AHeap} {lo hi r s s' : Nat} {l : List UInt8} {k : IntKind} {n : Int} (h : RR H lo hi r l s) (a : ARun P ng f args H (.int k n) H') (h' : RR H' lo hi r l s') (c : Chg [r] H H') :
  ∃ o, ARun P ng f args H (.int k n) (H.set r o) ∧ RR (H.set r o) lo hi r l s' := by
 obtain ⟨h1, h2, h3, bv, h4, h5, v0, g0, _⟩ := h
 obtain ⟨_, _, h3', bv', h4', h5', v', g', hv'⟩ := h'
 have gs : (H.set r (.cells true false 2 [v', .bool (decide (l.length < s'))] 141)).get r = some (.cells true false 2 [v', .bool (decide (l.length < s'))] 141) := AHeap.get_set_same g0 _
 have hrn := AHeap.get_lt g0
 have old : ∀ b, b ≠ r → (H.set r (.cells true false 2 [v', .bool (decide (l.length < s'))] 141)).get b = H.get b := fun b hb => AHeap.get_set_other _ hb hrn _
 refine ⟨.cells true false 2 [v', .bool (decide (l.length < s'))] 141, ?_, h1, h2, h3, bv', h4', h5', v', gs, ?_⟩
 ·refine a.gcs [] rfl (by simp) (by simp) ?_ (by simp) (.inr (.int _ _))
  intro b o' hb ho
  by_cases hbr : b = r
  ·subst hbr
   rw [g'] at ho; cases ho
   refine .inr ⟨_, gs, true, _, rfl, fun x => x, .cons ?_ (.cons (.bool _) .nil)⟩
   rcases hv' with ⟨rfl, _⟩ | ⟨o, c2, rm, rfl, _⟩
   ·exact .nilSl
   ·exact .sl (rho_old (by omega))
  ·rw [Chg1.get c hb hbr] at ho
   exact .inl ⟨ho, by rw [old b hbr]; exact ho⟩
 ·rcases hv' with ⟨rfl, e1, e2⟩ | ⟨o, c2, rm, rfl, e1, e2, e3, e4⟩
  ·exact .inl ⟨rfl, e1, e2⟩
  ·exact .inr ⟨o, c2, rm, rfl, by rw [old _ e2, ← Chg1.get c (by omega) e2]; exact e1, e2, e3, e4⟩
section
variable {H : AHeap} {lo hi r s : Nat} {l : List UInt8}
theorem e45 (h : RR H lo hi r l s) (hl : l.length ≤ 1000000000) : ∃ v H', ARun Go.Proofs.Try.prog 0 45 [ptr r 0] H v H' ∧ v = .int .u8 (na l s 1 : Nat) ∧ ∃ o, H' = H.set r o ∧ RR (H.set r o) lo hi r l (s + 1) := by
 obtain ⟨_, H', a, rfl, b, c⟩ := q45 h hl
 obtain ⟨o, p, q⟩ := h.gc a b c
 exact ⟨_, _, p, rfl, o, rfl, q⟩
theorem e50 (h : RR H lo hi r l s) (hl : l.length ≤ 1000000000) : ∃ v H', ARun Go.Proofs.Try.prog 0 50 [ptr r 0] H v H' ∧ v = .int .u32 (na l s 4 : Nat) ∧ ∃ o, H' = H.set r o ∧ RR (H.set r o) lo hi r l (s + 4) := by
 obtain ⟨_, H', a, rfl, b, c⟩ := q50 h hl
 obtain ⟨o, p, q⟩ := h.gc a b c
 exact ⟨_, _, p, rfl, o, rfl, q⟩
theorem e46 (h : RR H lo hi r l s) (hl : l.length ≤ 1000000000) : ∃ v H', ARun Go.Proofs.Try.prog 0 46 [ptr r 0] H v H' ∧ v = .int .u64 (na l s 8 : Nat) ∧ ∃ o, H' = H.set r o ∧ RR (H.set r o) lo hi r l (s + 8) := by
 obtain ⟨_, H', a, rfl, b, c⟩ := q46 h hl
 obtain ⟨o, p, q⟩ := h.gc a b c
 exact ⟨_, _, p, rfl, o, rfl, q⟩
theorem RR.alloc (h : RR H lo hi r l s) (o : AO) : RR (H.alloc o) lo hi r l s := h.keeps ((Keeps.refl H).alloc o)
theorem RR.upto {H' : AHeap} (h : RR H lo hi r l s) (hn : H.n ≤ H'.n) (k : ∀ y, y < hi → H'.get y = H.get y) : RR H' lo hi r l s := by
 obtain ⟨h1, h2, h3, bv, h4, h5, v, g, hv⟩ := h
 refine ⟨h1, h2, by omega, bv, h4, h5, v, by rw [k _ h2]; exact g, ?_⟩
 rcases hv with h | ⟨o, c, rm, e0, e1, e2⟩
 ·exact .inl h
 ·exact .inr ⟨o, c, rm, e0, by rw [k _ h5]; exact e1, e2⟩
theorem RR.lt (h : RR H lo hi r l s) : r < H.n := Nat.lt_of_lt_of_le h.2.1 h.2.2.1
theorem RR.set (h : RR H lo hi r l s) {b : Nat} (hb : hi ≤ b) (hn : b < H.n) (o : AO) : RR (H.set b o) lo hi r l s := h.chg (Chg.set H hn o) (.inr hb)
end
end Go.AM.Fd

namespace Go.AM.Fd
open Nat (reduceAdd reduceEqDiff reduceLT reduceLeDiff reduceMul reduceSub)
open Go.Proofs Go.AM.F
theorem t91 (n w : Nat) (hw : w ≤ 8) (H : AHeap) : ∃ v H', ARun Go.Proofs.Try.prog 0 91 [.int .u64 n, .int .i64 w] H v H' ∧ OB 5 H H' v (be w n) := by
 refine walk2 f91_ok f91_n ?_
 intro Q hq1 hq2
 simp (disch := first | assumption | omega) only [f91, W_block, P3, seval, initFr, clsA]
 refine callK (t62 n w hw H) ?_
 rintro v K ⟨a, k, f⟩
 simp (disch := first | assumption | omega) only [W_block, P3, seval, initFr, clsA]
 exact hq2 _ _ ⟨_, rfl, ⟨by rw [be_length]; exact a, k, f⟩⟩
theorem t83 {H K : AHeap} {v : Value} {l : List UInt8} (h : OB 5 H K v l) (hl : l.length ≤ 100000000) : ∃ w K', ARun Go.Proofs.Try.prog 0 83 [v] K w K' ∧ OB 5 H K' w (chk l) := by
 refine walk2 f83_ok f83_n ?_
 intro Q hq1 hq2
 simp (disch := first | assumption | omega) only [f83, W_block, P3, seval, initFr, clsA]
 refine callK (t92 h.bs (by omega)) ?_
 rintro _ K1 ⟨rfl, k1⟩
 have hc := crc_lt l
 have hw : IntKind.u64.wrap (crc l : Nat) = (crc l : Nat) := by rw [wrap_u64]; omega
 simp (disch := first | assumption | omega) only [W_block, P3, seval, initFr, clsA, hw]
 refine callK (t91 (crc l) 4 (by omega) K1) ?_
 rintro v2 K2 o2
 simp (disch := first | assumption | omega) only [W_block, P3, seval, initFr, clsA]
 refine (h.keeps (k1.trans o2.k)).appR o2.bs (by rw [be_length]; omega) ?_
 intro v3 K3 o3
 simp (disch := first | assumption | omega) only [W_block, P3, seval, initFr, clsA]
 exact hq2 _ _ ⟨_, rfl, o3⟩
theorem t89 {H : AHeap} {v : Value} {b : List UInt8} (hb : BQ H v b) (i w : Nat) (hi : i ≤ 1000000000) (hw : w ≤ 8) (hl : b.length ≤ 1000000000) :
  ∃ u H', ARun Go.Proofs.Try.prog 0 89 [v, .int .i64 (i : Nat), .int .i64 (w : Nat)] H u H' ∧ u = .int .u64 (na b i w : Nat) ∧ H' = H := by
 refine walk2 f89_ok f89_n ?_
 intro Q hq1 hq2
 have hs := hb.bs.sl
 have his := hs.is
 have hlen := hs.len
 rw [List.length_map] at hlen
 have hw1 : IntKind.i64.wrap ((i : Int) + (w : Int)) = ((i + w : Nat) : Int) := by rw [wrap_i64 (by omega) (by omega)]; push_cast; rfl
 by_cases hc : b.length < i + w
 ·simp (disch := first | assumption | omega) only [f89, W_block, P3, seval, initFr, clsA, hlen, hw1]
  exact hq2 _ _ ⟨_, rfl, by unfold na seg; rw [if_pos hc]; rfl, rfl⟩
 ·obtain ⟨u, s1, q1⟩ := hb.mid (k := .i64) (k' := .i64) i (i + w) (by omega) (by omega)
  simp (disch := first | assumption | omega) only [f89, W_block, P3, seval, initFr, clsA, hlen, hw1, s1]
  refine ⟨_, _, t77 q1.bs (by rw [List.length_take]; omega), ?_⟩
  simp (disch := first | assumption | omega) only [W_block, P3, seval, initFr, clsA]
  exact hq2 _ _ ⟨_, rfl, by unfold na seg; rw [if_neg hc, show i + w - i = w by omega]; rfl, rfl⟩
end Go.AM.Fd

namespace Go.AM.Fd
open Nat (reduceAdd reduceEqDiff reduceLT reduceLeDiff reduceMul reduceSub)
open Go.Proofs Go.AM.F
theorem fillu1 (a : Int) : fillA [.int .u8 0] [(0, 1, .int .u8 a)] = some [.int .u8 a] := rfl
theorem fillu2 (a b : Int) : fillA [.int .u8 0, .int .u8 0] [(0, 1, .int .u8 a), (1, 1, .int .u8 b)] = some [.int .u8 a, .int .u8 b] := rfl
theorem cy_nat {n : Int} (h : cyB n = true) : IntKind.u64.wrap n = ((n.toNat : Nat) : Int) := by
 have := cyB_iff.1 h
 rw [wrap_u64]; omega
theorem u64w {n : Nat} (h : n < 18446744073709551616) : IntKind.u64.wrap (n : Int) = (n : Int) := by rw [wrap_u64]; omega
theorem cStG {x : St} (h : x.t.length = 64) : (cSt x)[0]? = some (.int .u64 (x.a : Nat)) ∧ (cSt x)[1]? = some (.int .u64 (x.b : Nat)) ∧ (cSt x)[2]? = some (.int .u64 (x.c : Nat)) ∧ (cSt x)[67]? = some (.int .u32 (x.p : Nat)) := ⟨rfl, rfl, rfl, cSt_67 h⟩
theorem cStT {x : St} (h : x.t.length = 64) {i : Nat} (hi : i < 64) : (cSt x)[3 + i]? = some (.int .u8 ((x.t[i]'(by omega)).toNat : Nat)) := by
 have e := cSt_t h
 have : ((cSt x).drop 3)[i]? = some (.int .u8 ((x.t[i]'(by omega)).toNat : Nat)) := by
  have h2 : (((cSt x).drop 3).take 64)[i]? = (cellsOf x.t)[i]? := by rw [e]
  rw [List.getElem?_take_of_lt hi] at h2
  rw [h2, cells_get (by omega)]
 rwa [List.getElem?_drop] at this
theorem t84 (x : St) (hx : rgSt x) (H : AHeap) : ∃ v H', ARun Go.Proofs.Try.prog 0 84 [.agg (cSt x).toArray] H v H' ∧ OB 5 H H' v (enSt x) := by
 refine walk2 f84_ok f84_n ?_
 intro Q hq1 hq2
 have lx := cSt_len hx.1
 have ox := cSt_one x
 have kH := (Keeps.refl H).alloc (.cells true false 68 (cSt x) 26)
 have ht := hx.1
 have ha := hx.2
 have hb := hx.3
 have hc := hx.4
 have hp := hx.5
 simp (disch := first | assumption | omega) only [f84, W_block, P3, seval, initFr, clsA, ox]
 obtain ⟨H1, hH1⟩ : ∃ X, X = H.alloc (.cells true false 68 (cSt x) 26) := ⟨_, rfl⟩
 have gx : H1.get H.n = some (.cells true false 68 (cSt x) 26) := by rw [hH1]; exact AHeap.get_alloc_new _ _
 have px := AHeap.get_lt gx
 rw [← hH1] at kH ⊢
 simp (disch := first | assumption | omega) only [W_block, P3, seval, initFr, clsA, gx, (cStG hx.1).1, (cStG hx.1).2.1, (cStG hx.1).2.2.1, (cStG hx.1).2.2.2]
 refine callK (t91 (x.a) 8 (by omega) _) ?_
 rintro v1 K1 o1
 have k1 := o1.k
 simp (disch := first | assumption | omega) only [Keeps.get k1, Keeps.row k1, W_block, P3, seval, initFr, clsA, gx, (cStG hx.1).1, (cStG hx.1).2.1, (cStG hx.1).2.2.1, (cStG hx.1).2.2.2]
 refine callK (t91 (x.b) 8 (by omega) _) ?_
 rintro w1 L1 p1
 simp (disch := first | assumption | omega) only [Keeps.get k1, Keeps.row k1, W_block, P3, seval, initFr, clsA, gx, (cStG hx.1).1, (cStG hx.1).2.1, (cStG hx.1).2.2.1, (cStG hx.1).2.2.2]
 refine (o1.keeps p1.k).appR p1.bs (by simp only [List.length_append, be_length, List.length_cons, List.length_nil]; omega) ?_
 intro v2 K2 o2
 have k2 := o2.k
 simp (disch := first | assumption | omega) only [Keeps.get k2, Keeps.row k2, W_block, P3, seval, initFr, clsA, gx, (cStG hx.1).1, (cStG hx.1).2.1, (cStG hx.1).2.2.1, (cStG hx.1).2.2.2]
 refine callK (t91 (x.c) 8 (by omega) _) ?_
 rintro w2 L2 p2
 simp (disch := first | assumption | omega) only [Keeps.get k2, Keeps.row k2, W_block, P3, seval, initFr, clsA, gx, (cStG hx.1).1, (cStG hx.1).2.1, (cStG hx.1).2.2.1, (cStG hx.1).2.2.2]
 refine (o2.keeps p2.k).appR p2.bs (by simp only [List.length_append, be_length, List.length_cons, List.length_nil]; omega) ?_
 intro v3 K3 o3
 have k3 := o3.k
 simp (disch := first | assumption | omega) only [Keeps.get k3, Keeps.row k3, W_block, P3, seval, initFr, clsA, gx, (cStG hx.1).1, (cStG hx.1).2.1, (cStG hx.1).2.2.1, (cStG hx.1).2.2.2]
 refine W_loop2 (fun q fr K => ∃ (i : Nat) (v e : Value), i ≤ 64 ∧ q = 64 - i ∧ OB 5 H1 K v (be 8 x.a ++ be 8 x.b ++ be 8 x.c ++ x.t.take i) ∧ fr = [.agg (cSt x).toArray, ptr H.n 0, .slice none 0 0, v, .int .i64 i, e]) 64 ⟨0, v3, undef, by omega, rfl, by simpa using o3, rfl⟩ ?_
 rintro Q' q fr K ⟨i, v, e, hi, rfl, o4, rfl⟩ hnx hex hrt
 have k4 := o4.k
 by_cases hc : i < 64
 ·simp (disch := first | assumption | omega) only [Keeps.get k4, Keeps.row k4, W_block, P3, seval, initFr, clsA, gx, cStT ht hc]
  have hb8 : (x.t[i]'(by omega)).toNat < 256 := UInt8.toNat_lt _
  have o5 : OB 5 H1 (K.alloc (.cells true false 1 [.int .u8 ((x.t[i]'(by omega)).toNat : Nat)] 5)) (slc K.n 0 1 1) [UInt8.ofNat (x.t[i]'(by omega)).toNat] := OB.lit k4 (cells1 hb8) rfl rfl false
  refine (o4.keeps ((Keeps.refl K).alloc _)).appR o5.bs (by simp only [List.length_append, be_length, List.length_cons, List.length_nil, List.length_take]; omega) ?_
  intro v6 K6 o6
  simp (disch := first | assumption | omega) only [W_block, P3, seval, initFr, clsA, wrap_succ (n := i) (by omega)]
  refine hnx _ _ _ ⟨i + 1, v6, _, by omega, rfl, ?_, rfl⟩ (by omega)
  rw [List.take_succ_eq_append_getElem (by omega)]
  simp only [List.append_assoc, UInt8.ofNat_toNat] at o6 ⊢
  exact o6
 ·simp (disch := first | assumption | omega) only [W_block, P3, seval, initFr, clsA]
  refine hex _ _ _ ?_
  have hi64 : i = 64 := by omega
  subst hi64
  rw [show x.t.take 64 = x.t from List.take_of_length_le (by omega)] at o4
  simp (disch := first | assumption | omega) only [Keeps.get k4, Keeps.row k4, W_block, P3, seval, initFr, clsA, gx, (cStG hx.1).1, (cStG hx.1).2.1, (cStG hx.1).2.2.1, (cStG hx.1).2.2.2, u64w (show x.p < 18446744073709551616 by omega)]
  refine callK (t91 (x.p) 4 (by omega) _) ?_
  rintro w5 L5 p5
  simp (disch := first | assumption | omega) only [W_block, P3, seval, initFr, clsA]
  refine (o4.keeps p5.k).appR p5.bs (by simp only [List.length_append, be_length]; omega) ?_
  intro v6 K6 o6
  simp (disch := first | assumption | omega) only [W_block, P3, seval, initFr, clsA]
  refine hq2 _ _ ⟨_, rfl, ?_⟩
  have ee : enSt x = be 8 x.a ++ be 8 x.b ++ be 8 x.c ++ x.t ++ be 4 x.p := by simp only [enSt, List.append_assoc]
  rw [ee]
  exact o6.base kH
theorem t63 (x : St) (hx : rgSt x) (H : AHeap) : ∃ v H', ARun Go.Proofs.Try.prog 0 63 [.agg (cSt x).toArray] H v H' ∧ OB 5 H H' v (fSt x) := by
 refine walk2 f63_ok f63_n ?_
 intro Q hq1 hq2
 have lx := cSt_len hx.1
 have ox := cSt_one x
 have kH := (Keeps.refl H).alloc (.cells true false 68 (cSt x) 26)
 simp (disch := first | assumption | omega | (simp only [LN] <;> omega) | (simp (disch := first | assumption | omega | (simp only [LN] <;> omega)) only [row_alloc, row_set]; assumption)) only [f63, W_block, P3, seval, initFr, clsA, ox]
 obtain ⟨H1, hH1⟩ : ∃ X, X = H.alloc (.cells true false 68 (cSt x) 26) := ⟨_, rfl⟩
 have gx : H1.get H.n = some (.cells true false 68 (cSt x) 26) := by rw [hH1]; exact AHeap.get_alloc_new _ _
 have px := AHeap.get_lt gx
 rw [← hH1] at kH ⊢
 obtain ⟨K1, hK1⟩ : ∃ X, X = H1.alloc (.cells true false 1 [.int .u8 3] 5) := ⟨_, rfl⟩
 have hn1 : H1.n = H.n + 1 := by rw [hH1]; rfl
 have o1 : OB 5 H1 K1 (slc (H.n + 1) 0 1 1) [UInt8.ofNat 3] := by rw [hK1, ← hn1]; exact OB.lit (Keeps.refl H1) (cells1 (show 3 < 256 by omega)) rfl rfl false
 rw [← hK1]
 have k1 := o1.k
 refine callK (t84 x hx _) ?_
 rintro w1 L1 p1
 simp (disch := first | assumption | omega) only [W_block, P3, seval, initFr, clsA]
 have hl := enSt_len hx.1
 refine (o1.keeps p1.k).appR p1.bs (by rw [hl]; simp) ?_
 intro v2 K2 o2
 simp (disch := first | assumption | omega) only [W_block, P3, seval, initFr, clsA]
 refine callK (t83 o2 (by rw [List.length_append, hl]; simp)) ?_
 rintro v3 K3 o3
 simp (disch := first | assumption | omega) only [W_block, P3, seval, initFr, clsA]
 exact hq2 _ _ ⟨_, rfl, o3.base kH⟩
end Go.AM.Fd

namespace Go.AM.Fd
open Go.Proofs Go.AM.F
theorem na_one {b : List UInt8} {i : Nat} (h : i < b.length) : na b i 1 = b[i].toNat := by
 unfold na seg
 rw [if_neg (by omega), List.drop_eq_getElem_cons h]
 simp only [List.take_succ_cons, List.take_zero]
 have := b[i].toNat_lt
 simp only [num, List.foldl_cons, List.foldl_nil]
 omega
theorem geSt_some {b : List UInt8} {y : St} (h : geSt b = some y) : fSt y = b ∧ rgSt y ∧ y = deSt (bd b) 0 ∧ b.length = 97 := by
 unfold geSt at h
 split at h
 ·rename_i hf
  have hd : y = deSt (bd b) 0 := by unfold pdSt at h; split at h; exact (Option.some.inj h).symm; cases h
  obtain ⟨h1, h3⟩ := pdSt_e h
  have h5 := frm_len hf
  have hl := enSt_len h3.1
  rw [h1, bd_len] at hl
  refine ⟨?_, h3, hd, by omega⟩
  unfold fSt
  rw [h1]
  exact (frm_eq hf).symm
 ·cases h
theorem geSt_of {x : St} (hr : rgSt x) {b : List UInt8} (h : fSt x = b) : geSt b = some x := by
 unfold fSt at h
 subst h
 unfold geSt
 have e : frm 3 (chk (3 :: enSt x)) = true := frm_chk (k := 3) _
 rw [if_pos e, bd_chk, pdSt_d hr]
def GotB (c : List Value) (ok : Bool) : Value := .tuple #[.agg c.toArray, .bool ok]
theorem GotB.nv {ρ : Nat → Option Nat} {c : List Value} (h : c.all plain1 = true) (ok : Bool) : NV ρ (GotB c ok) (GotB c ok) :=
 NV.tuple_of (.cons (NV.agg_of (NL.plain h)) (.cons (.bool ok) .nil))
theorem touch_b2s (v : Value) (X : AHeap) : touchA (.b2s v) X = tb v := by
 unfold touchA
 have : clsA (.b2s v) = 1 := rfl
 rw [if_pos this]
 cases v <;> try rfl
 rename_i a n k
 cases a with
 | none => rfl
 | some a =>
  obtain ⟨b, o, z⟩ := a
  cases z <;> rfl
theorem tbk {H K : AHeap} {v : Value} {b : List UInt8} (h : BS H v b) (k : Keeps H K) : olderB (tb v) H ∧ keepsB (tb v) H K := ⟨tb_older h.tbl, tb_keeps (fun y hy => ⟨h.tbl y hy, by simp⟩) (k.chg [])⟩
end Go.AM.Fd

namespace Go.AM.Fd
open Nat (reduceAdd reduceEqDiff reduceLT reduceLeDiff reduceMul reduceSub)
open Go.Proofs Go.AM.F
def tR (b : List UInt8) (s i : Nat) : List UInt8 := (List.range i).map (fun j => UInt8.ofNat (na b (s + j) 1)) ++ List.replicate (64 - i) 0
def deR (b : List UInt8) (s : Nat) : St := ⟨na b s 8, na b (s + 8) 8, na b (s + 16) 8, tR b (s + 24) 64, na b (s + 88) 4⟩
theorem tR_len (b : List UInt8) (s : Nat) {i : Nat} (h : i ≤ 64) : (tR b s i).length = 64 := by simp [tR]; omega
theorem tR_set (b : List UInt8) (s : Nat) {i : Nat} (h : i < 64) : (tR b s i).set i (UInt8.ofNat (na b (s + i) 1)) = tR b s (i + 1) := by
 unfold tR
 rw [List.set_append_right _ _ (by simp)]
 simp only [List.length_map, List.length_range, Nat.sub_self]
 rw [show 64 - i = (64 - (i + 1)) + 1 by omega, List.replicate_succ, List.set_cons_zero, List.range_succ, List.map_append]
 simp
theorem tR_in {b : List UInt8} {s : Nat} (h : s + 64 ≤ b.length) : tR b s 64 = (b.drop s).take 64 := by
 apply List.ext_getElem?
 intro i
 by_cases hi : i < 64
 ·rw [List.getElem?_take_of_lt hi, List.getElem?_drop]
  unfold tR
  rw [List.getElem?_append_left (by simpa using hi)]
  simp only [List.getElem?_map, List.getElem?_range hi, Option.map_some]
  rw [na_one (by omega), List.getElem?_eq_getElem (by omega)]
  simp
 ·rw [List.getElem?_eq_none (by rw [tR_len _ _ (Nat.le_refl _)]; omega), List.getElem?_eq_none (by rw [List.length_take]; omega)]
theorem deR_rg (b : List UInt8) (s : Nat) : rgSt (deR b s) := ⟨tR_len b _ (Nat.le_refl _), na8 b _, na8 b _, na8 b _, na4 b _⟩
theorem deR_in {b : List UInt8} {s : Nat} (h : s + 92 + 5 ≤ b.length) : deR b (s + 1) = deSt (bd b) s := by
 unfold deR deSt
 rw [na_bd (s := s) (by omega), show s + 1 + 8 = s + 8 + 1 by omega, na_bd (s := s + 8) (by omega), show s + 1 + 16 = s + 16 + 1 by omega, na_bd (s := s + 16) (by omega), show s + 1 + 88 = s + 88 + 1 by omega, na_bd (s := s + 88) (by omega)]
 rw [tR_in (by omega), tmr_in (by rw [bd_len]; omega)]
 unfold bd
 rw [List.drop_take, List.take_take, List.drop_drop, Nat.min_eq_left (by omega), show 1 + (s + 24) = s + 1 + 24 by omega]
theorem fillS4 (a b c p : Nat) : fillA Z68 [(0, 1, .int .u64 (a : Nat)), (1, 1, .int .u64 (b : Nat)), (2, 1, .int .u64 (c : Nat)), (67, 1, .int .u32 (p : Nat))] = some (cSt ⟨a, b, c, Z64, p⟩) := rfl
theorem cSt_setT {x : St} {i n : Nat} (hi : i < x.t.length) (hn : n < 256) : (cSt x).set (3 + i) (.int .u8 (n : Nat)) = cSt { x with t := x.t.set i (UInt8.ofNat n) } := by
 have e : (Value.int .u8 (n : Nat)) = .int .u8 ((UInt8.ofNat n).toNat : Nat) := by
  congr 1
  simp only [UInt8.toNat_ofNat']
  omega
 unfold cSt
 rw [show 3 + i = i + 1 + 1 + 1 by omega, List.set_cons_succ, List.set_cons_succ, List.set_cons_succ, List.set_append_left _ _ (by rw [cellsOf_length]; exact hi), e, cells_set]
theorem cSt_plain (x : St) : (cSt x).all plain1 = true := by
 have : (cellsOf x.t).all plain1 = true := by
  rw [List.all_eq_true]
  intro v hv
  simp only [cellsOf, List.mem_map] at hv
  obtain ⟨b, _, rfl⟩ := hv
  rfl
 simp only [cSt, List.all_cons, List.all_append, this]
 rfl
theorem t78 {H : AHeap} {v : Value} {b : List UInt8} (hb : BQ H v b) (s : Nat) (hs : s ≤ 1000) (hl : b.length ≤ 1000000000) : ∃ w H', ARun Go.Proofs.Try.prog 0 78 [v, .int .i64 (s : Nat)] H w H' ∧ w = .agg (cSt (deR b s)).toArray ∧ H' = H := by
 suffices h : ∃ w H', ARun Go.Proofs.Try.prog 0 78 [v, .int .i64 (s : Nat)] H w H' ∧ w = .agg (cSt (deR b s)).toArray ∧ Keeps H H' by
  obtain ⟨_, _, a, rfl, k⟩ := h
  exact ⟨_, _, a.gc0 k (.inr (NV.agg_of (NL.plain (cSt_plain _)))), rfl, rfl⟩
 refine walk2 f78_ok f78_n ?_
 intro Q hq1 hq2
 have hr : ∀ fr H', resO f78.res fr H' = (celln 68 (fr.getD 2 undef) H') := fun fr H' => resC 2 68 fr
 have lz : Z68.length = 68 := rfl
 have ozz : Z68.all Value.oneCell' = true := rfl
 have k0 := (Keeps.refl H).alloc (.cells true false 68 Z68 26)
 have w8 : IntKind.i64.wrap ((s : Int) + 8) = ((s + 8 : Nat) : Int) := by rw [wrap_i64 (by omega) (by omega)]; push_cast; rfl
 have w16 : IntKind.i64.wrap ((s : Int) + 16) = ((s + 16 : Nat) : Int) := by rw [wrap_i64 (by omega) (by omega)]; push_cast; rfl
 have w88 : IntKind.i64.wrap ((s : Int) + 88) = ((s + 88 : Nat) : Int) := by rw [wrap_i64 (by omega) (by omega)]; push_cast; rfl
 have w24 : IntKind.i64.wrap ((s : Int) + 24) = ((s + 24 : Nat) : Int) := by rw [wrap_i64 (by omega) (by omega)]; push_cast; rfl
 have w4 : IntKind.u32.wrap (na b (s + 88) 4 : Nat) = (na b (s + 88) 4 : Nat) := by have := na4 b (s + 88); rw [wrap_u32]; omega
 simp (disch := first | assumption | omega) only [f78, W_block, P3, seval, initFr, clsA, ozz]
 refine callK (t89 (hb.keeps k0) s 8 (by omega) (by omega) hl) ?_
 rintro _ _ ⟨rfl, rfl⟩
 simp (disch := first | assumption | omega) only [W_block, P3, seval, initFr, clsA, w8]
 refine callK (t89 (hb.keeps k0) (s + 8) 8 (by omega) (by omega) hl) ?_
 rintro _ _ ⟨rfl, rfl⟩
 simp (disch := first | assumption | omega) only [W_block, P3, seval, initFr, clsA, w16]
 refine callK (t89 (hb.keeps k0) (s + 16) 8 (by omega) (by omega) hl) ?_
 rintro _ _ ⟨rfl, rfl⟩
 simp (disch := first | assumption | omega) only [W_block, P3, seval, initFr, clsA, w88]
 refine callK (t89 (hb.keeps k0) (s + 88) 4 (by omega) (by omega) hl) ?_
 rintro _ _ ⟨rfl, rfl⟩
 have lS : ∀ a b c p : Nat, (cSt ⟨a, b, c, Z64, p⟩).length = 68 := fun a b c p => cSt_len (x := ⟨a, b, c, Z64, p⟩) rfl
 simp (disch := first | assumption | omega | (simp only [LN] <;> omega) | (simp (disch := first | assumption | omega | (simp only [LN] <;> omega)) only [row_alloc, row_set]; assumption)) only [W_block, P3, seval, initFr, clsA, w4, fillS4, ozz, lS, cSt_one]
 refine W_loop2 (fun q fr K => ∃ (i : Nat) (e : Value), i ≤ 64 ∧ q = 64 - i ∧ K = (H.alloc (.cells true false 68 Z68 26)).alloc (.cells true false 68 (cSt ⟨na b s 8, na b (s + 8) 8, na b (s + 16) 8, tR b (s + 24) i, na b (s + 88) 4⟩) 26) ∧ fr = [v, .int .i64 (s : Nat), ptr H.n 0, ptr (H.n + 1) 0, .int .i64 i, e]) 64 ⟨0, undef, by omega, rfl, rfl, rfl⟩ ?_
 rintro Q' q fr K ⟨i, e, hi, rfl, rfl, rfl⟩ hnx hex hrt
 by_cases hc : i < 64
 ·have wi : IntKind.i64.wrap (((s + 24 : Nat) : Int) + (i : Int)) = ((s + 24 + i : Nat) : Int) := by rw [wrap_i64 (by omega) (by omega)]; push_cast; rfl
  simp (disch := first | assumption | omega) only [W_block, P3, seval, initFr, clsA, w24, wi]
  refine callK (t89 ((hb.keeps k0).keeps ((Keeps.refl _).alloc _)) (s + 24 + i) 1 (by omega) (by omega) hl) ?_
  rintro _ _ ⟨rfl, rfl⟩
  have h1 := na1 b (s + 24 + i)
  have wu : IntKind.u8.wrap (na b (s + 24 + i) 1 : Nat) = (na b (s + 24 + i) 1 : Nat) := by rw [wrap_u8]; omega
  have lt := tR_len b (s + 24) hi
  have ll := cSt_len (x := ⟨na b s 8, na b (s + 8) 8, na b (s + 16) 8, tR b (s + 24) i, na b (s + 88) 4⟩) lt
  simp (disch := first | assumption | omega | (simp only [LN] <;> omega) | (simp (disch := first | assumption | omega | (simp only [LN] <;> omega)) only [row_alloc, row_set]; assumption)) only [W_block, P3, seval, initFr, clsA, wu, wrap_succ (n := i) (by omega)]
  refine hnx _ _ _ ⟨i + 1, _, by omega, rfl, ?_, rfl⟩ (by omega)
  rw [cSt_setT (x := ⟨na b s 8, na b (s + 8) 8, na b (s + 16) 8, tR b (s + 24) i, na b (s + 88) 4⟩) (by rw [lt]; exact hc) h1]
  simp only [tR_set b (s + 24) hc]
 ·have hi64 : i = 64 := by omega
  subst hi64
  simp (disch := first | assumption | omega) only [W_block, P3, seval, initFr, clsA]
  refine hex _ _ _ ?_
  have ll : (cSt (deR b s)).length = 68 := cSt_len (deR_rg b s).1
  have oo := cSt_one (deR b s)
  have ed : (⟨na b s 8, na b (s + 8) 8, na b (s + 16) 8, tR b (s + 24) 64, na b (s + 88) 4⟩ : St) = deR b s := rfl
  rw [ed]
  simp (disch := first | assumption | omega | (simp only [LN] <;> omega) | (simp (disch := first | assumption | omega | (simp only [LN] <;> omega)) only [row_alloc, row_set]; assumption)) only [W_block, P3, seval, initFr, clsA, oo, lz]
  refine hq2 _ _ ⟨_, by rw [hr]; simp (disch := first | assumption | omega | (simp only [LN] <;> omega) | (simp (disch := first | assumption | omega | (simp only [LN] <;> omega)) only [row_alloc, row_set]; assumption)) only [W_block, P3, ↓reduceIte, reduceAdd, reduceEqDiff, reduceCtorEq, initFr, reduceLT, clsA, reduceLeDiff, reduceMul, reduceSub, reduceIte], rfl, ?_⟩
  ((repeat (first | exact Keeps.refl _ | assumption | refine Keeps.alloc ?_ _ | (refine Keeps.set ?_ (by first | omega | (simp only [alloc_n, set_n] <;> omega)) (by first | omega | (simp only [alloc_n, set_n] <;> omega)) _) | (refine Keeps.trans' (by assumption) ?_))))
end Go.AM.Fd

namespace Go.AM.Fd
open Nat (reduceAdd reduceEqDiff reduceLT reduceLeDiff reduceMul reduceSub)
open Go.Proofs Go.AM.F
def tSt (o : Option St) : Value := match o with
 | some x => GotB (cSt x) true
 | none => GotB (cSt St0) false
theorem t54 {H : AHeap} {v : Value} {b : List UInt8} (hb : BQ H v b) (hl : b.length ≤ 1000000) : ∃ w H', ARun Go.Proofs.Try.prog 0 54 [v] H w H' ∧ w = tSt (geSt b) ∧ H' = H := by
 suffices h : ∃ w H', ARun Go.Proofs.Try.prog 0 54 [v] H w H' ∧ w = tSt (geSt b) ∧ Keeps H H' by
  obtain ⟨_, _, a, rfl, k⟩ := h
  refine ⟨_, _, a.gc0 k (.inr ?_), rfl, rfl⟩
  cases geSt b <;> exact GotB.nv (cSt_plain _) _
 refine walk2 f54_ok f54_n ?_
 intro Q hq1 hq2
 have hr : ∀ fr H', resO f54.res fr H' = (celln 68 (fr.getD 1 undef) H').map fun c => .tuple #[c, fr.getD 2 undef] := fun fr H' => resCT 68 1 2 fr
 have lz : (Z68 : List Value).length = 68 := rfl
 have ozz : (Z68 : List Value).all Value.oneCell' = true := rfl
 have k0 := (Keeps.refl H).alloc (.cells true false 68 (Z68) 26)
 obtain ⟨x, hx⟩ : ∃ x, x = deR b 1 := ⟨_, rfl⟩
 have hrg : rgSt x := by rw [hx]; exact deR_rg _ _
 have lx : (cSt x).length = 68 := cSt_len hrg.1
 have ox := cSt_one x
 simp (disch := first | assumption | omega) only [f54, W_block, P3, seval, initFr, clsA, ozz]
 refine callK (t78 (hb.keeps k0) 1 (by omega) (by omega)) ?_
 rintro _ _ ⟨rfl, rfl⟩
 rw [← hx]
 simp (disch := first | assumption | omega | (simp only [LN] <;> omega) | (simp (disch := first | assumption | omega | (simp only [LN] <;> omega)) only [row_alloc, row_set]; assumption)) only [W_block, P3, seval, initFr, clsA, ozz, lz, ox, lx]
 refine callK (t63 x hrg _) ?_
 rintro v2 K2 o2
 have k2 := o2.k
 have kC := k0.trans ((Keeps.refl _).alloc (.cells true false 68 (cSt x) 26))
 have tk := tbk (hb.bs.keeps kC) k2
 have n2 := k2.n
 simp only [alloc_n] at n2
 have kb := kC.trans k2
 have hb2 := hb.bs.keeps kb
 by_cases heq : fSt x = b
 ·have e1 : decide (fSt x = b) = true := by simp [heq]
  have hg := geSt_of hrg heq
  simp (disch := first | assumption | omega | (simp only [LN] <;> omega) | (simp (disch := first | assumption | omega | (simp only [LN] <;> omega)) only [row_alloc, row_set, Keeps.row k2]; assumption)) only [Keeps.get k2, Keeps.row k2, W_block, P3, seval, initFr, clsA, a_b2sB o2.bs, a_b2sB hb2, touch_b2s, ite_self, bytes_eq, e1, ox, lx, ozz, lz]
  refine ⟨tk, ?_⟩
  refine hq2 _ _ ⟨_, by rw [hr]; simp (disch := first | assumption | omega | (simp only [LN] <;> omega) | (simp (disch := first | assumption | omega | (simp only [LN] <;> omega)) only [row_alloc, row_set, Keeps.row k2]; assumption)) only [Keeps.get k2, Keeps.row k2, W_block, P3, ↓reduceIte, reduceAdd, reduceEqDiff, reduceCtorEq, initFr, reduceLT, clsA, reduceLeDiff, reduceMul, reduceSub, reduceIte, lx]; rfl, by rw [hg]; rfl, ?_⟩
  exact kb.set (Nat.le_refl _) (by omega) _
 ·have e1 : decide (fSt x = b) = false := by simp [heq]
  have hg : geSt b = none := by
   cases hg : geSt b with
   | none => rfl
   | some y =>
    obtain ⟨h1, h2, h3, h4⟩ := geSt_some hg
    have hxy : x = y := by
     rw [hx, h3]
     exact deR_in (s := 0) (by omega)
    subst hxy
    exact absurd h1 heq
  simp (disch := first | assumption | omega | (simp only [LN] <;> omega) | (simp (disch := first | assumption | omega | (simp only [LN] <;> omega)) only [row_alloc, row_set, Keeps.row k2]; assumption)) only [Keeps.get k2, Keeps.row k2, W_block, P3, seval, initFr, clsA, a_b2sB o2.bs, a_b2sB hb2, touch_b2s, ite_self, bytes_eq, e1, ox, lx, ozz, lz]
  refine ⟨tk, ?_⟩
  refine hq2 _ _ ⟨_, by rw [hr]; simp (disch := first | assumption | omega | (simp only [LN] <;> omega) | (simp (disch := first | assumption | omega | (simp only [LN] <;> omega)) only [row_alloc, row_set, Keeps.row k2]; assumption)) only [Keeps.get k2, Keeps.row k2, W_block, P3, ↓reduceIte, reduceAdd, reduceEqDiff, reduceCtorEq, initFr, reduceLT, clsA, reduceLeDiff, reduceMul, reduceSub, reduceIte, ozz, lz]; rfl, by rw [hg]; rfl, ?_⟩
  exact kb.set (Nat.le_refl _) (by omega) _
end Go.AM.Fd

set_option maxRecDepth 100000
set_option maxHeartbeats 0
namespace Go.AM.Rp
def O68 : List Nat := List.replicate 68 1
def Z68 : List Value := [(.int .u64 0), (.int .u64 0), (.int .u64 0)] ++ List.replicate 64 (.int .u8 0) ++ [(.int .u32 0)]
def Z78 : List Value := [(.int .u8 0), (.int .i64 0), (.int .i64 0), (.int .i64 0), (.int .i64 0), (.int .u64 0), (.int .u64 0), (.int .u64 0)] ++ List.replicate 64 (.int .u8 0) ++ [(.int .u32 0), (.int .u64 0), (.int .u64 0), (.int .u64 0), (.int .u32 0), (.slice none 0 0)]
def zclRpC : TypeId → List Value
 | 29 => [(.int .u64 0), (.int .u64 0), (.int .u64 0), (.int .u32 0), (.slice none 0 0)]
 | 26 => Z68
 | 41 => Z78
 | 38 => Z78
 | 90 => [(.int .i64 0), (.int .u8 0)]
 | 92 => [(.int .i64 0), (.int .u8 0)]
 | _ => []
def zvlRpC : TypeId → Value
 | _ => undef
def zklRpC : TypeId → List Nat
 | 26 => O68
 | 92 => [1, 1]
 | _ => []
def zrlRpC : Nat → TypeId → List Value
 | 1, 90 => [(.int .i64 0), (.int .u8 0)]
 | 1, 92 => [(.int .i64 0), (.int .u8 0)]
 | _, _ => []
noncomputable def f3 : AFunc := by
 refine (fun (_ : Cz zclRpC zvlRpC zklRpC zrlRpC Go.Proofs.Try.prog 0 [0, 1, 2, 3, 4, 5, 6, 7, 8, 9, 10, 11, 12, 13, 17] 3 ?a) => ?a) ?h
 case h => intro zc zv zk zr hc hv hk hr; conv => lhs; cbv; try simp only [hc, hv, hk, hr, zclRpC, zvlRpC, zklRpC, zrlRpC]
noncomputable def f9 : AFunc := by
 refine (fun (_ : Cz zclRpC zvlRpC zklRpC zrlRpC Go.Proofs.Try.prog 0 [0, 1, 2, 3, 4, 5, 6, 7, 30, 31, 32, 40] 9 ?a) => ?a) ?h
 case h => intro zc zv zk zr hc hv hk hr; conv => lhs; cbv; try simp only [hc, hv, hk, hr, zclRpC, zvlRpC, zklRpC, zrlRpC]
noncomputable def f10 : AFunc := by
 refine (fun (_ : Cz zclRpC zvlRpC zklRpC zrlRpC Go.Proofs.Try.prog 0 [0, 1, 2, 3, 4, 5, 7, 10, 37, 38, 39, 40] 10 ?a) => ?a) ?h
 case h => intro zc zv zk zr hc hv hk hr; conv => lhs; cbv; try simp only [hc, hv, hk, hr, zclRpC, zvlRpC, zklRpC, zrlRpC]
noncomputable def f11 : AFunc := by
 refine (fun (_ : Cz zclRpC zvlRpC zklRpC zrlRpC Go.Proofs.Try.prog 0 [0, 1, 2, 3, 4, 5, 6, 10, 40] 11 ?a) => ?a) ?h
 case h => intro zc zv zk zr hc hv hk hr; conv => lhs; cbv; try simp only [hc, hv, hk, hr, zclRpC, zvlRpC, zklRpC, zrlRpC]
noncomputable def f12 : AFunc := by
 refine (fun (_ : Cz zclRpC zvlRpC zklRpC zrlRpC Go.Proofs.Try.prog 0 [0, 1, 2, 3, 4, 35] 12 ?a) => ?a) ?h
 case h => intro zc zv zk zr hc hv hk hr; conv => lhs; cbv; try simp only [hc, hv, hk, hr, zclRpC, zvlRpC, zklRpC, zrlRpC]
noncomputable def f13 : AFunc := by
 refine (fun (_ : Cz zclRpC zvlRpC zklRpC zrlRpC Go.Proofs.Try.prog 0 [0, 1, 2, 3, 4, 5, 82, 87, 100] 13 ?a) => ?a) ?h
 case h => intro zc zv zk zr hc hv hk hr; conv => lhs; cbv; try simp only [hc, hv, hk, hr, zclRpC, zvlRpC, zklRpC, zrlRpC]
noncomputable def f14 : AFunc := by
 refine (fun (_ : Cz zclRpC zvlRpC zklRpC zrlRpC Go.Proofs.Try.prog 0 [0, 1, 2, 3, 4, 5, 6, 7, 33, 44] 14 ?a) => ?a) ?h
 case h => intro zc zv zk zr hc hv hk hr; conv => lhs; cbv; try simp only [hc, hv, hk, hr, zclRpC, zvlRpC, zklRpC, zrlRpC]
noncomputable def f31 : AFunc := by
 refine (fun (_ : Cz zclRpC zvlRpC zklRpC zrlRpC Go.Proofs.Try.prog 0 [0, 1, 2, 3, 5, 7, 8, 9, 10, 21] 31 ?a) => ?a) ?h
 case h => intro zc zv zk zr hc hv hk hr; conv => lhs; cbv; try simp only [hc, hv, hk, hr, zclRpC, zvlRpC, zklRpC, zrlRpC]
noncomputable def f32 : AFunc := by
 refine (fun (_ : Cz zclRpC zvlRpC zklRpC zrlRpC Go.Proofs.Try.prog 0 [0, 2, 3, 7, 41] 32 ?a) => ?a) ?h
 case h => intro zc zv zk zr hc hv hk hr; conv => lhs; cbv; try simp only [hc, hv, hk, hr, zclRpC, zvlRpC, zklRpC, zrlRpC]
theorem f3_ok : compF Go.Proofs.Try.prog 0 [0, 1, 2, 3, 4, 5, 6, 7, 8, 9, 10, 11, 12, 13, 17] 3 = some f3 := by kernel_rfl
theorem f3_n : argsOK Go.Proofs.Try.prog 3 3 = true := by kernel_rfl
theorem f9_ok : compF Go.Proofs.Try.prog 0 [0, 1, 2, 3, 4, 5, 6, 7, 30, 31, 32, 40] 9 = some f9 := by kernel_rfl
theorem f9_n : argsOK Go.Proofs.Try.prog 9 2 = true := by kernel_rfl
theorem f10_ok : compF Go.Proofs.Try.prog 0 [0, 1, 2, 3, 4, 5, 7, 10, 37, 38, 39, 40] 10 = some f10 := by kernel_rfl
theorem f10_n : argsOK Go.Proofs.Try.prog 10 2 = true := by kernel_rfl
theorem f11_ok : compF Go.Proofs.Try.prog 0 [0, 1, 2, 3, 4, 5, 6, 10, 40] 11 = some f11 := by kernel_rfl
theorem f11_n : argsOK Go.Proofs.Try.prog 11 2 = true := by kernel_rfl
theorem f12_ok : compF Go.Proofs.Try.prog 0 [0, 1, 2, 3, 4, 35] 12 = some f12 := by kernel_rfl
theorem f12_n : argsOK Go.Proofs.Try.prog 12 1 = true := by kernel_rfl
theorem f13_ok : compF Go.Proofs.Try.prog 0 [0, 1, 2, 3, 4, 5, 82, 87, 100] 13 = some f13 := by kernel_rfl
theorem f13_n : argsOK Go.Proofs.Try.prog 13 2 = true := by kernel_rfl
theorem f14_ok : compF Go.Proofs.Try.prog 0 [0, 1, 2, 3, 4, 5, 6, 7, 33, 44] 14 = some f14 := by kernel_rfl
theorem f14_n : argsOK Go.Proofs.Try.prog 14 3 = true := by kernel_rfl
theorem f31_ok : compF Go.Proofs.Try.prog 0 [0, 1, 2, 3, 5, 7, 8, 9, 10, 21] 31 = some f31 := by kernel_rfl
theorem f31_n : argsOK Go.Proofs.Try.prog 31 1 = true := by kernel_rfl
theorem f32_ok : compF Go.Proofs.Try.prog 0 [0, 2, 3, 7, 41] 32 = some f32 := by kernel_rfl
theorem f32_n : argsOK Go.Proofs.Try.prog 32 1 = true := by kernel_rfl
end Go.AM.Rp

namespace Go.AM.Rp
open Go.Proofs
theorem bi_u (b : Bool) : boolIs undef b = false := by cases b <;> rfl
def TC (l : List (Int × Int)) : List Value := l.flatMap fun x => [.int .i64 x.1, .int .u8 x.2]
theorem TC_len : ∀ l, (TC l).length = 2 * l.length
 | [] => rfl
 | x :: l => by have := TC_len l; simp only [TC, List.flatMap_cons, List.length_append, List.length_cons, List.length_nil] at this ⊢; omega
theorem TC_app (l m : List (Int × Int)) : TC (l ++ m) = TC l ++ TC m := by simp [TC]
theorem TC_at : ∀ (l : List (Int × Int)) (i : Nat) (h : i < l.length), ((TC l).drop (i * 2)).take 2 = [.int .i64 l[i].1, .int .u8 l[i].2]
 | x :: l, 0, _ => rfl
 | x :: l, i + 1, h => by
  have := TC_at l i (by simpa using h)
  rw [show (i + 1) * 2 = i * 2 + 2 by omega]
  show ((.int .i64 x.1 :: .int .u8 x.2 :: TC l).drop (i * 2 + 2)).take 2 = _
  rw [List.drop_succ_cons, List.drop_succ_cons, this]
  rfl
def TB (H : AHeap) (v : Value) (l : List (Int × Int)) : Prop := ∃ a k, v = .slice a l.length k ∧ (l ≠ [] → ∃ b own room c e, a = some ⟨b, 0, none⟩ ∧ H.get b = some (.cells own room 2 c e) ∧ c.take (2 * l.length) = TC l)
theorem TB.at_ {H : AHeap} {v : Value} {l : List (Int × Int)} (h : TB H v l) {i : Nat} (hi : i < l.length) : ∃ b k, v = slc b 0 l.length k ∧ rangeA H b (i * 2) 2 = some [.int .i64 l[i].1, .int .u8 l[i].2] ∧ cellA H b (i * 2) = some (.int .i64 l[i].1) ∧ cellA H b (i * 2 + 1) = some (.int .u8 l[i].2) := by
 obtain ⟨a, k, rfl, h⟩ := h
 obtain ⟨b, own, room, c, e, rfl, h1, h2⟩ := h (fun e => by subst e; simp at hi)
 have hl := congrArg List.length h2
 rw [TC_len, List.length_take] at hl
 have h3 := TC_at l i hi
 have h4 : (c.drop (i * 2)).take 2 = [.int .i64 l[i].1, .int .u8 l[i].2] := by
  rw [← h3, ← h2, List.drop_take, List.take_take]; congr 1; omega
 have g : ∀ j, j < 2 → c[i * 2 + j]? = ([.int .i64 l[i].1, .int .u8 l[i].2] : List Value)[j]? := fun j hj => by rw [← h4, List.getElem?_take_of_lt hj, List.getElem?_drop]
 exact ⟨b, k, rfl, by rw [rangeA_of h1, if_pos (by omega), h4], by rw [cellA_of h1]; simpa using g 0 (by omega), by rw [cellA_of h1]; simpa using g 1 (by omega)⟩
theorem TB.chg {H H' : AHeap} {v : Value} {l : List (Int × Int)} {S : List Nat} (h : TB H v l) (k : Chg S H H') (hS : ∀ x ∈ blkL v, x ∉ S) : TB H' v l := by
 obtain ⟨a, c, rfl, h⟩ := h
 refine ⟨a, c, rfl, fun hne => ?_⟩
 obtain ⟨b, own, room, cs, e, rfl, h1, h2⟩ := h hne
 exact ⟨b, own, room, cs, e, rfl, k.at_ h1 (hS b (mem_blkL.2 rfl)), h2⟩
theorem TB.keeps {H H' : AHeap} {v : Value} {l : List (Int × Int)} (h : TB H v l) (k : Keeps H H') : TB H' v l := h.chg (k.chg []) (by simp)
theorem TB.one {H : AHeap} {v : Value} {l : List (Int × Int)} (h : TB H v l) : v.oneCell' = true := by obtain ⟨a, k, rfl, _⟩ := h; rfl
theorem TB.of_ap {H : AHeap} {e : Nat} {v : Value} {l : List (Int × Int)} (h : AP H e 2 v l.length (TC l)) : TB H v l := by
 rcases h with ⟨rfl, h1, h2⟩ | ⟨b, room, rfl, h1, h2⟩
 ·exact ⟨none, 0, by rw [h1], fun hne => absurd (List.length_eq_zero_iff.1 h1) hne⟩
 ·exact ⟨_, _, rfl, fun _ => ⟨b, true, room, _, e, rfl, h2, by rw [List.take_of_length_le (by rw [TC_len]; omega)]⟩⟩
def riseF (p : Int) : List (Int × Int) → Bool
 | [] => true
 | x :: l => if x.1 ≤ p ∨ 64 ≤ x.1 then false else riseF x.1 l
theorem var2 (H : AHeap) (e : Nat) (a b : Int) : asem (.storen 2 (ptr H.n 0) (.agg [.int .i64 a, .int .u8 b].toArray)) (H.alloc (.cells true false 2 [.int .i64 0, .int .u8 0] e)) = some (undef, H.alloc (.cells true false 2 [.int .i64 a, .int .u8 b] e)) := by
 have := a_var (H := H) (n := 2) (room := false) (esz := 2) (e := e) (c := [.int .i64 0, .int .u8 0]) (xs := [.int .i64 a, .int .u8 b].toArray) rfl rfl (by simp [one_int])
 simpa using this
theorem t31 {H : AHeap} {v : Value} {l : List (Int × Int)} (h : TB H v l) (x y z w : Int) (hl : l.length ≤ 100000) : ∃ r H', ARun Try.prog 0 31 [.agg [.int .u64 x, .int .u64 y, .int .u64 z, .int .u32 w, v].toArray] H r H' ∧ r = .bool (riseF (-1) l) ∧ Keeps H H' := by
 refine walk2 f31_ok f31_n ?_
 intro Q hq1 hq2
 have hcl : (Value.agg [.int .u64 x, .int .u64 y, .int .u64 z, .int .u32 w, v].toArray).cells.toList = [.int .u64 x, .int .u64 y, .int .u64 z, .int .u32 w, v] := rfl
 have k1 := (Keeps.refl H).alloc (.cells true false 5 [.int .u64 x, .int .u64 y, .int .u64 z, .int .u32 w, v] 29)
 have g1 := AHeap.get_alloc_new H (.cells true false 5 [.int .u64 x, .int .u64 y, .int .u64 z, .int .u32 w, v] 29)
 obtain ⟨H1, hH1⟩ : ∃ X, X = H.alloc (.cells true false 5 [.int .u64 x, .int .u64 y, .int .u64 z, .int .u32 w, v] 29) := ⟨_, rfl⟩
 rw [← hH1] at k1 g1
 obtain ⟨a, kk, hv, _⟩ := id h
 have hlen : asem (.len false v) H1 = some (.int .i64 l.length, H1) := by rw [hv]; rfl
 simp only [f31, W_block, ANs, AOp.map, seval, initFr, ANc, hcl, h.one, ← hH1, cellA_of g1, hlen]
 refine W_loop2 (fun q fr H2 => ∃ (i : Nat) (p : Int) (y4 y8 y9 : Value), fr = [.agg [.int .u64 x, .int .u64 y, .int .u64 z, .int .u32 w, v].toArray, ptr H.n 0, .bool false, .int .i64 p, y4, v, .int .i64 l.length, .int .i64 i, y8, y9] ∧ i ≤ l.length ∧ q = l.length - i ∧ Keeps H H2 ∧ riseF (-1) l = riseF p (l.drop i)) l.length ?_ ?_
 ·exact ⟨0, -1, _, _, _, rfl, by omega, by omega, k1, by simp⟩
 ·rintro Q' q fr H2 ⟨i, p, y4, y8, y9, rfl, h1, rfl, k2, hr⟩ hnext hexit hret
  by_cases hi : i < l.length
  ·obtain ⟨b, k', e1, e2, e3, e4⟩ := (h.keeps k2).at_ hi
   rw [List.drop_eq_getElem_cons hi] at hr
   generalize l[i] = t at *
   have v2 := var2 H2 90 t.1 t.2
   have g2 := AHeap.get_alloc_new H2 (.cells true false 2 [.int .i64 t.1, .int .u8 t.2] 90)
   have kk := (Keeps.refl H2).alloc (.cells true false 2 [.int .i64 t.1, .int .u8 t.2] 90)
   obtain ⟨H3, hH3⟩ : ∃ X, X = H2.alloc (.cells true false 2 [.int .i64 t.1, .int .u8 t.2] 90) := ⟨_, rfl⟩
   rw [← hH3] at v2 g2 kk
   rw [e1]
   simp only [W_block, ANs, AOp.map, seval, initFr, ANc, show (i : Int) < (l.length : Int) by omega, decide_true, show (0 : Int) ≤ (i : Int) by omega, e2, v2, cellA_of g2]
   simp only [riseF] at hr
   by_cases c1 : t.1 ≤ p
   ·simp only [W_block, ANs, AOp.map, seval, initFr, ANc, bi_u, c1, decide_true]
    refine hret _ _ ?_
    refine hq2 _ _ ⟨_, rfl, ?_, k2.trans kk⟩
    rw [hr]; simp [c1]; rfl
   by_cases c2 : 64 ≤ t.1
   ·simp only [W_block, ANs, AOp.map, seval, initFr, ANc, bi_u, c1, c2, cellA_of g2, decide_true, decide_false]
    refine hret _ _ ?_
    refine hq2 _ _ ⟨_, rfl, ?_, k2.trans kk⟩
    rw [hr]; simp [c2]; rfl
   simp only [W_block, ANs, AOp.map, seval, initFr, ANc, bi_u, c1, c2, cellA_of g2, decide_false, wrap_succ (n := i) (by omega)]
   rw [if_neg (by omega)] at hr
   exact hnext _ _ _ ⟨i + 1, t.1, _, _, _, by rw [← e1], by omega, rfl, k2.trans kk, hr⟩ (by omega)
  ·simp only [W_block, ANs, AOp.map, seval, initFr, ANc, show ¬ (i : Int) < (l.length : Int) by omega, decide_false]
   refine hexit _ _ _ ?_
   simp only [W_block, ANs, AOp.map, seval, initFr, ANc]
   refine hq2 _ _ ⟨_, rfl, ?_, k2⟩
   rw [hr, List.drop_of_length_le (by omega)]; rfl
theorem t32 {H : AHeap} {v : Value} {l : List (Int × Int)} (h : TB H v l) (hl : l.length ≤ 100000) : ∃ r H', ARun Try.prog 0 32 [v] H r H' ∧ r = .bool (riseF (-1) l) ∧ H' = H := by
 refine walk2 f32_ok f32_n ?_
 intro Q hq1 hq2
 obtain ⟨a, kk, hv, _⟩ := id h
 simp only [f32, W_block, ANs, AOp.map, seval, initFr, ANc]
 refine W_loop2 (fun q fr H2 => ∃ (i : Nat) (p : Int) (y3 y4 : Value), fr = [v, .bool false, .int .i64 i, y3, y4] ∧ i ≤ l.length ∧ q = l.length - i ∧ H2 = H ∧ riseF (-1) l = riseF p (l.drop i) ∧ (i = 0 ∧ p = -1 ∨ 0 < i ∧ 0 ≤ p ∧ ∃ h : i - 1 < l.length, p = l[i - 1].1)) l.length ?_ ?_
 ·exact ⟨0, -1, _, _, rfl, by omega, by omega, rfl, by simp, .inl ⟨rfl, rfl⟩⟩
 ·rintro Q' q fr H2 ⟨i, p, y3, y4, rfl, h1, rfl, rfl, hr, hp⟩ hnext hexit hret
  by_cases hi : i < l.length
  ·obtain ⟨b, k', e1, e2, e3, e4⟩ := h.at_ hi
   rw [List.drop_eq_getElem_cons hi] at hr
   simp only [riseF] at hr
   rw [e1]
   have done : ∀ fr, fr.getD 1 undef = .bool false → riseF (-1) l = false → Q .ret fr H2 := fun fr h1 h2 => hq2 _ _ ⟨_, rfl, by rw [h2]; exact h1, rfl⟩
   simp only [W_block, ANs, AOp.map, seval, initFr, ANc, show (i : Int) < (l.length : Int) by omega, decide_true, show (0 : Int) ≤ (i : Int) by omega, e3]
   by_cases c1 : l[i].1 < 0
   ·simp only [W_block, ANs, AOp.map, seval, initFr, ANc, bi_u, c1, decide_true]
    refine hret _ _ (done _ rfl ?_)
    rw [hr, if_pos]; left; rcases hp with ⟨_, rfl⟩ | ⟨_, h, _⟩ <;> omega
   by_cases c2 : 64 ≤ l[i].1
   ·simp only [W_block, ANs, AOp.map, seval, initFr, ANc, bi_u, c1, c2, decide_true, decide_false, show (i : Int) < (l.length : Int) by omega, show (0 : Int) ≤ (i : Int) by omega, e3]
    refine hret _ _ (done _ rfl ?_)
    rw [hr, if_pos]; right; exact c2
   simp only [W_block, ANs, AOp.map, seval, initFr, ANc, bi_u, c1, c2, decide_true, decide_false, show (i : Int) < (l.length : Int) by omega, show (0 : Int) ≤ (i : Int) by omega, e3]
   rcases hp with ⟨rfl, rfl⟩ | ⟨hi0, hp0, hi1, hpe⟩
   ·simp only [W_block, ANs, AOp.map, ↓reduceIte, Nat.reduceAdd, Nat.reduceEqDiff, reduceCtorEq, initFr, Nat.reduceLT, ANc, bi_u, show ¬ (0 : Int) < ((0 : Nat) : Int) by omega, decide_false, wrap_succ (n := 0) (by omega)]
    rw [if_neg (by omega)] at hr
    exact hnext _ _ _ ⟨1, l[0].1, _, _, by rw [← e1], by omega, rfl, rfl, hr, .inr ⟨by omega, by omega, hi, rfl⟩⟩ (by omega)
   ·obtain ⟨b', k'', f1, f2, f3, f4⟩ := h.at_ hi1
    have hb : b' = b := by
     rw [e1] at f1
     simp only [slc, Value.slice.injEq, Option.some.injEq, Addr.mk.injEq] at f1
     exact f1.1.1.symm
    rw [hb] at f3
    have hsub : IntKind.i64.wrap ((i : Int) - 1) = ((i - 1 : Nat) : Int) := by rw [wrap_i64 (by omega) (by omega)]; omega
    simp only [W_block, ANs, AOp.map, seval, initFr, ANc, bi_u, show (0 : Int) < (i : Int) by omega, decide_true, decide_false, show (i : Int) < (l.length : Int) by omega, show (0 : Int) ≤ (i : Int) by omega, e3, hsub, show ((i - 1 : Nat) : Int) < (l.length : Int) by omega, show (0 : Int) ≤ ((i - 1 : Nat) : Int) by omega, f3, ← hpe]
    by_cases c3 : l[i].1 ≤ p
    ·simp only [W_block, ANs, AOp.map, seval, initFr, ANc, bi_u, c3, decide_true]
     refine hret _ _ (done _ rfl ?_)
     rw [hr, if_pos]; left; exact c3
    ·simp only [W_block, ANs, AOp.map, seval, initFr, ANc, bi_u, c3, decide_false, wrap_succ (n := i) (by omega)]
     rw [if_neg (by omega)] at hr
     exact hnext _ _ _ ⟨i + 1, l[i].1, _, _, by rw [← e1], by omega, rfl, rfl, hr, .inr ⟨by omega, by omega, hi, rfl⟩⟩ (by omega)
  ·rw [hv]
   simp only [W_block, ANs, AOp.map, seval, initFr, ANc, show ¬ (i : Int) < (l.length : Int) by omega, decide_false]
   refine hexit _ _ _ ?_
   simp only [W_block, ANs, AOp.map, seval, initFr, ANc]
   refine hq2 _ _ ⟨_, rfl, ?_, rfl⟩
   rw [hr, List.drop_of_length_le (by omega)]; rfl
end Go.AM.Rp

namespace Go.AM.Rp
open Go.Proofs
structure S where
 a : Nat
 b : Nat
 c : Nat
 t : List Int
 p : Nat
def tv (n : Int) : Value := .int .u8 n
def SC (s : S) : List Value := .int .u64 s.a :: .int .u64 s.b :: .int .u64 s.c :: (s.t.map tv ++ [.int .u32 s.p])
structure SOK (s : S) : Prop where
 ht : s.t.length = 64
 ha : s.a < 18446744073709551616
 hb : s.b < 18446744073709551616
 hc : s.c < 18446744073709551616
 hp : s.p < 4294967296
theorem SC_len {s : S} (h : s.t.length = 64) : (SC s).length = 68 := by simp [SC, h]
theorem SC_one (s : S) : (SC s).all Value.oneCell' = true := by
 simp only [SC, List.all_cons, List.all_append, one_int, List.all_nil, Bool.and_true, Bool.true_and]
 rw [List.all_eq_true]
 intro v hv
 obtain ⟨n, _, rfl⟩ := List.mem_map.1 hv
 rfl
theorem SC_t {s : S} {i : Nat} (hi : i < s.t.length) : (SC s)[3 + i]? = some (tv s.t[i]) := by
 rw [show 3 + i = i + 1 + 1 + 1 by omega]
 simp only [SC, List.getElem?_cons_succ]
 rw [List.getElem?_append_left (by simpa using hi)]
 simp [hi]
theorem SC_set {s : S} {i : Nat} (hi : i < s.t.length) (n : Int) : (SC s).set (3 + i) (tv n) = SC { s with t := s.t.set i n } := by
 rw [show 3 + i = i + 1 + 1 + 1 by omega]
 simp only [SC, List.set_cons_succ]
 rw [List.set_append_left _ _ (by simpa using hi), List.map_set]
theorem SC_67 {s : S} (h : s.t.length = 64) : (SC s)[67]? = some (.int .u32 s.p) := by
 simp only [SC, List.getElem?_cons_succ]
 rw [List.getElem?_append_right (by simp [h])]
 simp [h]
theorem SC_set67 {s : S} (h : s.t.length = 64) (n : Nat) : (SC s).set 67 (.int .u32 n) = SC { s with p := n } := by
 simp only [SC, List.set_cons_succ]
 rw [List.set_append_right _ _ (by simp [h])]
 simp [h]
def xr (w a b : Nat) : Nat := (BitVec.ofNat w a ^^^ BitVec.ofNat w b).toNat
theorem w_x64 (a b : Nat) : IntKind.u64.wrap ((BitVec.ofInt IntKind.u64.bits (a : Int) ^^^ BitVec.ofInt IntKind.u64.bits (b : Int)).toNat : Int) = (xr 64 a b : Nat) := by
 show IntKind.u64.wrap ((BitVec.ofInt 64 (a : Int) ^^^ BitVec.ofInt 64 (b : Int)).toNat : Int) = _
 rw [BitVec.ofInt_natCast, BitVec.ofInt_natCast, wrap_u64]
 have := (BitVec.ofNat 64 a ^^^ BitVec.ofNat 64 b).isLt
 unfold xr
 rw [Int.emod_eq_of_lt (by omega) (by omega)]
theorem w_x32 (a b : Nat) : IntKind.u32.wrap ((BitVec.ofInt IntKind.u32.bits (a : Int) ^^^ BitVec.ofInt IntKind.u32.bits (b : Int)).toNat : Int) = (xr 32 a b : Nat) := by
 show IntKind.u32.wrap ((BitVec.ofInt 32 (a : Int) ^^^ BitVec.ofInt 32 (b : Int)).toNat : Int) = _
 rw [BitVec.ofInt_natCast, BitVec.ofInt_natCast, wrap_u32]
 have := (BitVec.ofNat 32 a ^^^ BitVec.ofNat 32 b).isLt
 unfold xr
 rw [Int.emod_eq_of_lt (by omega) (by omega)]
theorem xr_xr (w a b : Nat) (hb : b < 2 ^ w) : xr w a (xr w a b) = b := by
 unfold xr
 rw [BitVec.ofNat_toNat, BitVec.setWidth_eq, ← BitVec.xor_assoc, BitVec.xor_self, BitVec.zero_xor, BitVec.toNat_ofNat, Nat.mod_eq_of_lt hb]
structure D where
 a : Nat
 b : Nat
 c : Nat
 p : Nat
 l : List (Int × Int)
def patchT (t : List Int) (l : List (Int × Int)) : List Int := l.foldl (fun t x => t.set x.1.toNat x.2) t
theorem patchT_len : ∀ (l : List (Int × Int)) (t : List Int), (patchT t l).length = t.length
 | [], t => rfl
 | x :: l, t => by
  have := patchT_len l (t.set x.1.toNat x.2)
  rw [List.length_set] at this
  exact this
def patchS (s : S) (d : D) : S := ⟨xr 64 s.a d.a, xr 64 s.b d.b, xr 64 s.c d.c, patchT s.t d.l, xr 32 s.p d.p⟩
def S0 : S := ⟨0, 0, 0, List.replicate 64 0, 0⟩
def patchR (s : S) (d : D) : Int × S := if riseF (-1) d.l then (0, patchS s d) else (2, S0)
theorem rise_in : ∀ (l : List (Int × Int)) (p : Int), -1 ≤ p → riseF p l = true → ∀ x ∈ l, 0 ≤ x.1 ∧ x.1 < 64
 | [], _, _, _ => by simp
 | y :: l, p, hp, h => by
  simp only [riseF] at h
  split at h
  ·cases h
  ·intro x hx
   rcases List.mem_cons.1 hx with rfl | hx
   ·omega
   ·exact rise_in l y.1 (by omega) h x hx
theorem resCn (n j i : Nat) {fr : List Value} {H : AHeap} {b : Nat} {cs : List Value} (h1 : fr.getD i undef = ptr b 0) (h2 : rangeA H b 0 n = some cs) : resO [.cn n i, .t j] fr H = some (.tuple #[.agg cs.toArray, fr.getD j undef]) := by
 simp only [resO, resVs, RX.get, h1, ptr, celln, h2, Option.map_some]
 rfl
theorem resC1 (n i : Nat) {fr : List Value} {H : AHeap} {b : Nat} {cs : List Value} (h1 : fr.getD i undef = ptr b 0) (h2 : rangeA H b 0 n = some cs) : resO [.cn n i] fr H = some (.agg cs.toArray) := by
 simp only [resO, resVs, RX.get, h1, ptr, celln, h2, Option.map_some]
 rfl
theorem full {H : AHeap} {b n e : Nat} {l : List Value} (h : H.get b = some (.cells true false n l e)) (hl : l.length = n) : rangeA H b 0 n = some l := by
 rw [rangeA_of h, if_pos (by omega), List.drop_zero, List.take_of_length_le (by omega)]
theorem set2 (H : AHeap) (b : Nat) (X Y : AO) : (H.set b X).set b Y = H.set b Y := by simp [AHeap.set]
theorem get1 {H : AHeap} {b : Nat} {o : AO} (h : H.get b = some o) (X : AO) : (H.set b X).get b = some X := AHeap.get_set_same h X
theorem stAll {H : AHeap} {b n e : Nat} {c l : List Value} (h : H.get b = some (.cells true false n c e)) (hc : c.length = n) (hl : l.length = n) (h1 : l.all Value.oneCell' = true) : asem (.storen n (ptr b 0) (.agg l.toArray)) H = some (undef, H.set b (.cells true false n l e)) := by
 rw [a_storen h, if_pos ⟨by omega, by simp [Value.cells, hl], by simpa [Value.cells] using h1⟩]
 simp only [List.take_zero, List.nil_append, Nat.zero_add, Value.cells]
 rw [List.drop_of_length_le (by omega)]
 simp
section
variable {P : Program} {ng : Nat} {fr tm : List Value} {H : AHeap} {d : D} {KF : List Value → AHeap → Prop}
theorem st_iaddrp {d : Go.AM.D} {r : List AOper} (e n : Nat) (x i : Value) : stR P ng (.iaddrp e n x i) d r fr tm H KF = goR P ng (asem (.iaddrp e n x i) H) d r fr tm KF := st_of d r (by simp) (by simp)
theorem sd_iaddrp {d : Go.AM.D} {un : List Nat} {rd : List (AOper × List Nat)} {tr : List TE} (e n : Nat) (x i : Value) : stD P ng (.iaddrp e n x i) d un rd fr tm H tr KF = goD P ng (.iaddrp e n x i) (asem (.iaddrp e n x i) H) d un rd fr tm H tr KF := stD_of d un rd (by simp) (by simp)
theorem st_idxa {d : Go.AM.D} {r : List AOper} (a : Bool) (e n : Nat) (x i : Value) : stR P ng (.idxa a e n x i) d r fr tm H KF = goR P ng (asem (.idxa a e n x i) H) d r fr tm KF := st_of d r (by simp) (by simp)
theorem st_eqs {d : Go.AM.D} {r : List AOper} (cs : List Nat) (n : Bool) (x y : Value) : stR P ng (.eqs cs n x y) d r fr tm H KF = goR P ng (asem (.eqs cs n x y) H) d r fr tm KF := st_of d r (by simp) (by simp)
theorem sd_eqs {d : Go.AM.D} {un : List Nat} {rd : List (AOper × List Nat)} {tr : List TE} (cs : List Nat) (n : Bool) (x y : Value) : stD P ng (.eqs cs n x y) d un rd fr tm H tr KF = goD P ng (.eqs cs n x y) (asem (.eqs cs n x y) H) d un rd fr tm H tr KF := stD_of d un rd (by simp) (by simp)
end
theorem a_iaddrp (b o n : Nat) (e : Nat) (k : IntKind) (i : Nat) (hi : i < n) (H : AHeap) : asem (.iaddrp e n (ptr b o) (.int k (i : Int))) H = some (ptr b (o + i * e), H) := by
 simp only [asem, ptr]
 rw [if_pos (by omega)]; simp
theorem a_st68 {H : AHeap} {b : Nat} {s : S} {e : Nat} (h : H.get b = some (.cells true false 68 (SC s) e)) (hs : s.t.length = 64) {o : Nat} (ho : o < 68) {x : Value} (hx : one1 x) : asem (.store1 (ptr b o) x) H = some (undef, H.set b (.cells true false 68 ((SC s).set o x) e)) := a_st h (by rw [SC_len hs]; exact ho) hx
theorem t10 {H : AHeap} {s : S} {d : D} {v : Value} (hs : s.t.length = 64) (h : TB H v d.l) (hl : d.l.length ≤ 100000) : ∃ r H', ARun Try.prog 0 10 [.agg (SC s).toArray, .agg [.int .u64 d.a, .int .u64 d.b, .int .u64 d.c, .int .u32 d.p, v].toArray] H r H' ∧ r = .tuple #[.agg (SC (patchR s d).2).toArray, .int .i64 (patchR s d).1] ∧ Keeps H H' := by
 refine walk2 f10_ok f10_n ?_
 intro Q hq1 hq2
 have hc5 : (Value.agg [.int .u64 d.a, .int .u64 d.b, .int .u64 d.c, .int .u32 d.p, v].toArray).cells.toList = [.int .u64 d.a, .int .u64 d.b, .int .u64 d.c, .int .u32 d.p, v] := rfl
 have hc68 : (Value.agg (SC s).toArray).cells.toList = SC s := by simp [Value.cells]
 obtain ⟨Ha, hHa⟩ : ∃ X, X = H.alloc (.cells true false 68 (SC s) 26) := ⟨_, rfl⟩
 have ka := (Keeps.refl H).alloc (.cells true false 68 (SC s) 26)
 have ga := AHeap.get_alloc_new H (.cells true false 68 (SC s) 26)
 rw [← hHa] at ka ga
 have na : Ha.n = H.n + 1 := by rw [hHa]; rfl
 obtain ⟨Hb, hHb⟩ : ∃ X, X = Ha.alloc (.cells true false 5 [.int .u64 d.a, .int .u64 d.b, .int .u64 d.c, .int .u32 d.p, v] 29) := ⟨_, rfl⟩
 have kb := (Keeps.refl Ha).alloc (.cells true false 5 [.int .u64 d.a, .int .u64 d.b, .int .u64 d.c, .int .u32 d.p, v] 29)
 have gb := AHeap.get_alloc_new Ha (.cells true false 5 [.int .u64 d.a, .int .u64 d.b, .int .u64 d.c, .int .u32 d.p, v] 29)
 rw [← hHb] at kb gb
 have nb : Hb.n = H.n + 2 := by rw [hHb, alloc_n, na]
 obtain ⟨Hc, hHc⟩ : ∃ X, X = Hb.alloc (.cells true false 68 Z68 26) := ⟨_, rfl⟩
 have kc := (Keeps.refl Hb).alloc (.cells true false 68 Z68 26)
 have gc := AHeap.get_alloc_new Hb (.cells true false 68 Z68 26)
 rw [← hHc] at kc gc
 have nc : Hc.n = H.n + 3 := by rw [hHc, alloc_n, nb]
 have ga := kc.at_ (kb.at_ ga)
 have gb := kc.at_ gb
 have kAll := (ka.trans kb).trans kc
 have z68 : Z68.all Value.oneCell' = true := rfl
 simp only [f10, W_block, ANs, AOp.map, seval, initFr, ANc, hc68, SC_one, hc5, h.one, ← hHa, ← hHb, ← hHc, z68, full gb rfl]
 obtain ⟨_, H1, r1, rfl, k1⟩ := t31 (h.keeps kAll) d.a d.b d.c d.p hl
 refine ⟨_, _, r1, ?_⟩
 unfold patchR at hq1 hq2
 have ga1 := k1.at_ ga
 have gb1 := k1.at_ gb
 have gc1 := k1.at_ gc
 have n1 := k1.n
 cases hr : riseF (-1) d.l
 ·simp only [hr, Bool.false_eq_true, if_false] at hq2
  have st : asem (.storen 68 (ptr Hb.n 0) (.agg Z68.toArray)) H1 = _ := stAll gc1 rfl rfl z68
  simp only [W_block, ANs, AOp.map, seval, initFr, ANc, fillA, st]
  refine hq2 _ _ ⟨_, resCn 68 5 4 (b := Hb.n) (cs := Z68) rfl (full (get1 gc1 _) rfl), rfl, (kAll.trans k1).chg_trans (Chg.set H1 (AHeap.get_lt gc1) _) (by simp; omega)⟩
 ·simp only [hr, if_true] at hq2
  have dc : ∀ X k, cellA (H1.set H.n X) Ha.n k = ([.int .u64 d.a, .int .u64 d.b, .int .u64 d.c, .int .u32 d.p, v] : List Value)[k]? := fun X k => cellA_of ((Chg.set H1 (b := H.n) (AHeap.get_lt ga1) X).at_ gb1 (by simp; omega))
  have s0 : cellA H1 H.n 0 = some (.int .u64 s.a) := by rw [cellA_of ga1]; rfl
  have e1 : asem (.store1 (ptr H.n 0) (.int .u64 (xr 64 s.a d.a))) H1 = some (undef, H1.set H.n (.cells true false 68 (SC { s with a := xr 64 s.a d.a }) 26)) := a_st68 ga1 hs (by omega) rfl
  have e2 : asem (.store1 (ptr H.n 1) (.int .u64 (xr 64 s.b d.b))) (H1.set H.n (.cells true false 68 (SC { s with a := xr 64 s.a d.a }) 26)) = some (undef, H1.set H.n (.cells true false 68 (SC { s with a := xr 64 s.a d.a, b := xr 64 s.b d.b }) 26)) := by
   have := a_st68 (e := 26) (s := { s with a := xr 64 s.a d.a }) (get1 ga1 _) hs (o := 1) (by omega) (x := .int .u64 (xr 64 s.b d.b)) rfl
   rw [set2] at this; exact this
  have e3 : asem (.store1 (ptr H.n 2) (.int .u64 (xr 64 s.c d.c))) (H1.set H.n (.cells true false 68 (SC { s with a := xr 64 s.a d.a, b := xr 64 s.b d.b }) 26)) = some (undef, H1.set H.n (.cells true false 68 (SC { s with a := xr 64 s.a d.a, b := xr 64 s.b d.b, c := xr 64 s.c d.c }) 26)) := by
   have := a_st68 (e := 26) (s := { s with a := xr 64 s.a d.a, b := xr 64 s.b d.b }) (get1 ga1 _) hs (o := 2) (by omega) (x := .int .u64 (xr 64 s.c d.c)) rfl
   rw [set2] at this; exact this
  have e4 : asem (.store1 (ptr H.n 67) (.int .u32 (xr 32 s.p d.p))) (H1.set H.n (.cells true false 68 (SC { s with a := xr 64 s.a d.a, b := xr 64 s.b d.b, c := xr 64 s.c d.c }) 26)) = some (undef, H1.set H.n (.cells true false 68 (SC { s with a := xr 64 s.a d.a, b := xr 64 s.b d.b, c := xr 64 s.c d.c, p := xr 32 s.p d.p }) 26)) := by
   have := a_st68 (e := 26) (s := { s with a := xr 64 s.a d.a, b := xr 64 s.b d.b, c := xr 64 s.c d.c }) (get1 ga1 _) hs (o := 67) (by omega) (x := .int .u32 (xr 32 s.p d.p)) rfl
   rw [set2, SC_set67 (by exact hs)] at this; exact this
  have c1 : cellA (H1.set H.n (.cells true false 68 (SC { s with a := xr 64 s.a d.a }) 26)) H.n 1 = some (.int .u64 s.b) := by rw [cellA_of (get1 ga1 _)]; rfl
  have c2 : cellA (H1.set H.n (.cells true false 68 (SC { s with a := xr 64 s.a d.a, b := xr 64 s.b d.b }) 26)) H.n 2 = some (.int .u64 s.c) := by rw [cellA_of (get1 ga1 _)]; rfl
  have c3 : cellA (H1.set H.n (.cells true false 68 (SC { s with a := xr 64 s.a d.a, b := xr 64 s.b d.b, c := xr 64 s.c d.c }) 26)) H.n 67 = some (.int .u32 s.p) := by rw [cellA_of (get1 ga1 _), SC_67 (by exact hs)]
  have hlen : ∀ X, asem (.len false v) X = some (.int .i64 d.l.length, X) := by obtain ⟨a, k, hv, _⟩ := h; intro X; rw [hv]; rfl
  simp only [W_block, ANs, AOp.map, seval, initFr, ANc, s0, cellA_of gb1, w_x64, w_x32, e1, c1, dc, e2, c2, e3, c3, e4, hlen]
  have kA1 := kAll.trans k1
  refine W_loop2 (fun q fr H2 => ∃ (i : Nat) (t : List Int) (y6 y7 y11 : Value), fr = [.agg (SC s).toArray, .agg [.int .u64 d.a, .int .u64 d.b, .int .u64 d.c, .int .u32 d.p, v].toArray, ptr H.n 0, ptr Ha.n 0, ptr Hb.n 0, .int .i64 0, y6, y7, v, .int .i64 d.l.length, .int .i64 i, y11] ∧ i ≤ d.l.length ∧ q = d.l.length - i ∧ Keeps H H2 ∧
   t.length = 64 ∧ patchT s.t d.l = patchT t (d.l.drop i) ∧ H2.get H.n = some (.cells true false 68 (SC ⟨xr 64 s.a d.a, xr 64 s.b d.b, xr 64 s.c d.c, t, xr 32 s.p d.p⟩) 26) ∧ H2.get Hb.n = some (.cells true false 68 Z68 26)) d.l.length ?_ ?_
  ·exact ⟨0, s.t, _, _, _, rfl, by omega, by omega, kA1.chg_trans (Chg.set H1 (AHeap.get_lt ga1) _) (by simp), hs, by simp, get1 ga1 _, (Chg.set H1 (b := H.n) (AHeap.get_lt ga1) _).at_ gc1 (by simp; omega)⟩
  ·rintro Q' q fr H2 ⟨i, t, y6, y7, y11, rfl, h1, rfl, k2, p1, p2, p3, p4⟩ hnext hexit hret
   by_cases hi : i < d.l.length
   ·obtain ⟨b, k', f1, f2, f3, f4⟩ := (h.keeps k2).at_ hi
    have hin := rise_in d.l (-1) (by omega) hr d.l[i] (List.getElem_mem hi)
    rw [List.drop_eq_getElem_cons hi] at p2
    generalize d.l[i] = x at *
    obtain ⟨⟨r, hxr⟩, hr64⟩ : (∃ r : Nat, x.1 = r) ∧ x.1 < 64 := ⟨⟨x.1.toNat, by omega⟩, hin.2⟩
    rw [hxr] at f2 f3
    have v2 := var2 H2 90 (r : Int) x.2
    have g2 := AHeap.get_alloc_new H2 (.cells true false 2 [.int .i64 (r : Int), .int .u8 x.2] 90)
    have kk := (Keeps.refl H2).alloc (.cells true false 2 [.int .i64 (r : Int), .int .u8 x.2] 90)
    obtain ⟨H3, hH3⟩ : ∃ X, X = H2.alloc (.cells true false 2 [.int .i64 (r : Int), .int .u8 x.2] 90) := ⟨_, rfl⟩
    rw [← hH3] at v2 g2 kk
    have p3' := kk.at_ p3
    have p4' := kk.at_ p4
    have hrt : r < t.length := by omega
    have st : asem (.store1 (ptr H.n (3 + r)) (.int .u8 x.2)) H3 = some (undef, H3.set H.n (.cells true false 68 (SC ⟨xr 64 s.a d.a, xr 64 s.b d.b, xr 64 s.c d.c, t.set r x.2, xr 32 s.p d.p⟩) 26)) := by
     have := a_st68 (e := 26) p3' (by exact p1) (o := 3 + r) (by omega) (x := .int .u8 x.2) rfl
     rw [this]
     have e := SC_set (s := ⟨xr 64 s.a d.a, xr 64 s.b d.b, xr 64 s.c d.c, t, xr 32 s.p d.p⟩) (i := r) hrt x.2
     unfold tv at e
     rw [e]
    rw [f1]
    simp only [W_block, ANs, AOp.map, seval, initFr, ANc, show (i : Int) < (d.l.length : Int) by omega, decide_true, show (0 : Int) ≤ (i : Int) by omega, f2, v2, cellA_of g2, st_iaddrp, a_iaddrp _ _ 64 1 _ r (by omega), st, wrap_succ (n := i) (by omega)]
    rw [← f1]
    refine hnext _ _ _ ⟨i + 1, t.set r x.2, _, _, _, rfl, by omega, rfl, (k2.trans kk).chg_trans (Chg.set H3 (AHeap.get_lt p3') _) (by simp), by simpa using p1, ?_, get1 p3' _, (Chg.set H3 (b := H.n) (AHeap.get_lt p3') _).at_ p4' (by simp; omega)⟩ (by omega)
    rw [p2]
    show patchT (t.set x.1.toNat x.2) _ = _
    rw [hxr]; rfl
   ·simp only [W_block, ANs, AOp.map, seval, initFr, ANc, show ¬ (i : Int) < (d.l.length : Int) by omega, decide_false]
    refine hexit _ _ _ ?_
    rw [List.drop_of_length_le (by omega)] at p2
    have p2 : patchT s.t d.l = t := p2
    subst p2
    have st := stAll p4 rfl (SC_len (s := patchS s d) p1) (SC_one _)
    simp only [W_block, ANs, AOp.map, seval, initFr, ANc, full p3 (SC_len (by exact p1))]
    unfold patchS at st hq2
    simp only [W_block, ANs, AOp.map, seval, initFr, ANc, st]
    exact hq2 _ _ ⟨_, resCn 68 5 4 (b := Hb.n) rfl (full (get1 p4 _) (SC_len p1)), rfl, k2.chg_trans (Chg.set H2 (AHeap.get_lt p4) _) (by simp; omega)⟩
end Go.AM.Rp

namespace Go.AM.Rp
open Go.Proofs
def Z73 : List Value := Z78.take 73
def MC (d : D) (v : Value) : List Value := Z73 ++ [.int .u64 d.a, .int .u64 d.b, .int .u64 d.c, .int .u32 d.p, v]
theorem m73 (d : D) (v : Value) : (MC d v)[73]? = some (.int .u64 d.a) := rfl
theorem m74 (d : D) (v : Value) : (MC d v)[74]? = some (.int .u64 d.b) := rfl
theorem m75 (d : D) (v : Value) : (MC d v)[75]? = some (.int .u64 d.c) := rfl
theorem m76 (d : D) (v : Value) : (MC d v)[76]? = some (.int .u32 d.p) := rfl
theorem m77 (d : D) (v : Value) : (MC d v)[77]? = some v := rfl
theorem MC_len (d : D) (v : Value) : (MC d v).length = 78 := rfl
theorem MC_one (d : D) {v : Value} (h : v.oneCell' = true) : (MC d v).all Value.oneCell' = true := by
 simp only [MC, List.all_append, List.all_cons, one_int, h, List.all_nil]; rfl
theorem t11 {H : AHeap} {s : S} {d : D} {v : Value} (hs : s.t.length = 64) (h : TB H v d.l) (hl : d.l.length ≤ 100000) : ∃ r H', ARun Try.prog 0 11 [.agg (SC s).toArray, .agg (MC d v).toArray] H r H' ∧ r = .tuple #[.agg (SC (patchR s d).2).toArray, .int .i64 (patchR s d).1] ∧ Keeps H H' := by
 refine walk2 f11_ok f11_n ?_
 intro Q hq1 hq2
 have hc5 : (Value.agg (MC d v).toArray).cells.toList = MC d v := by simp [Value.cells]
 have hc68 : (Value.agg (SC s).toArray).cells.toList = SC s := by simp [Value.cells]
 obtain ⟨Ha, hHa⟩ : ∃ X, X = H.alloc (.cells true false 68 (SC s) 26) := ⟨_, rfl⟩
 have ka := (Keeps.refl H).alloc (.cells true false 68 (SC s) 26)
 have ga := AHeap.get_alloc_new H (.cells true false 68 (SC s) 26)
 rw [← hHa] at ka ga
 have na : Ha.n = H.n + 1 := by rw [hHa]; rfl
 obtain ⟨Hb, hHb⟩ : ∃ X, X = Ha.alloc (.cells true false 78 (MC d v) 38) := ⟨_, rfl⟩
 have kb := (Keeps.refl Ha).alloc (.cells true false 78 (MC d v) 38)
 have gb := AHeap.get_alloc_new Ha (.cells true false 78 (MC d v) 38)
 rw [← hHb] at kb gb
 have nb : Hb.n = H.n + 2 := by rw [hHb, alloc_n, na]
 obtain ⟨Hc, hHc⟩ : ∃ X, X = Hb.alloc (.cells true false 68 Z68 26) := ⟨_, rfl⟩
 have kc := (Keeps.refl Hb).alloc (.cells true false 68 Z68 26)
 have gc := AHeap.get_alloc_new Hb (.cells true false 68 Z68 26)
 rw [← hHc] at kc gc
 have nc : Hc.n = H.n + 3 := by rw [hHc, alloc_n, nb]
 have ga := kc.at_ (kb.at_ ga)
 have gb := kc.at_ gb
 have kAll := (ka.trans kb).trans kc
 have z68 : Z68.all Value.oneCell' = true := rfl
 simp only [f11, W_block, ANs, AOp.map, seval, initFr, ANc, hc68, SC_one, hc5, MC_one d h.one, ← hHa, ← hHb, ← hHc, z68, cellA_of gb, m73, m74, m75, m76, m77]
 obtain ⟨_, H1, r1, rfl, rfl⟩ := t32 (h.keeps kAll) hl
 have k1 := Keeps.refl H1
 refine ⟨_, _, r1, ?_⟩
 unfold patchR at hq1 hq2
 clear hq1
 have ga1 := k1.at_ ga
 have gb1 := k1.at_ gb
 have gc1 := k1.at_ gc
 have n1 := k1.n
 cases hr : riseF (-1) d.l
 ·simp only [hr, Bool.false_eq_true, if_false] at hq2
  have st : asem (.storen 68 (ptr Hb.n 0) (.agg Z68.toArray)) H1 = _ := stAll gc1 rfl rfl z68
  simp only [W_block, ANs, AOp.map, seval, initFr, ANc, fillA, st]
  refine hq2 _ _ ⟨_, resCn 68 5 4 (b := Hb.n) (cs := Z68) rfl (full (get1 gc1 _) rfl), rfl, (kAll.trans k1).chg_trans (Chg.set H1 (AHeap.get_lt gc1) _) (by simp; omega)⟩
 ·simp only [hr, if_true] at hq2
  have dc : ∀ X k, cellA (H1.set H.n X) Ha.n k = (MC d v)[k]? := fun X k => cellA_of ((Chg.set H1 (b := H.n) (AHeap.get_lt ga1) X).at_ gb1 (by simp; omega))
  have s0 : cellA H1 H.n 0 = some (.int .u64 s.a) := by rw [cellA_of ga1]; rfl
  have e1 : asem (.store1 (ptr H.n 0) (.int .u64 (xr 64 s.a d.a))) H1 = some (undef, H1.set H.n (.cells true false 68 (SC { s with a := xr 64 s.a d.a }) 26)) := a_st68 ga1 hs (by omega) rfl
  have e2 : asem (.store1 (ptr H.n 1) (.int .u64 (xr 64 s.b d.b))) (H1.set H.n (.cells true false 68 (SC { s with a := xr 64 s.a d.a }) 26)) = some (undef, H1.set H.n (.cells true false 68 (SC { s with a := xr 64 s.a d.a, b := xr 64 s.b d.b }) 26)) := by
   have := a_st68 (e := 26) (s := { s with a := xr 64 s.a d.a }) (get1 ga1 _) hs (o := 1) (by omega) (x := .int .u64 (xr 64 s.b d.b)) rfl
   rw [set2] at this; exact this
  have e3 : asem (.store1 (ptr H.n 2) (.int .u64 (xr 64 s.c d.c))) (H1.set H.n (.cells true false 68 (SC { s with a := xr 64 s.a d.a, b := xr 64 s.b d.b }) 26)) = some (undef, H1.set H.n (.cells true false 68 (SC { s with a := xr 64 s.a d.a, b := xr 64 s.b d.b, c := xr 64 s.c d.c }) 26)) := by
   have := a_st68 (e := 26) (s := { s with a := xr 64 s.a d.a, b := xr 64 s.b d.b }) (get1 ga1 _) hs (o := 2) (by omega) (x := .int .u64 (xr 64 s.c d.c)) rfl
   rw [set2] at this; exact this
  have e4 : asem (.store1 (ptr H.n 67) (.int .u32 (xr 32 s.p d.p))) (H1.set H.n (.cells true false 68 (SC { s with a := xr 64 s.a d.a, b := xr 64 s.b d.b, c := xr 64 s.c d.c }) 26)) = some (undef, H1.set H.n (.cells true false 68 (SC { s with a := xr 64 s.a d.a, b := xr 64 s.b d.b, c := xr 64 s.c d.c, p := xr 32 s.p d.p }) 26)) := by
   have := a_st68 (e := 26) (s := { s with a := xr 64 s.a d.a, b := xr 64 s.b d.b, c := xr 64 s.c d.c }) (get1 ga1 _) hs (o := 67) (by omega) (x := .int .u32 (xr 32 s.p d.p)) rfl
   rw [set2, SC_set67 (by exact hs)] at this; exact this
  have c1 : cellA (H1.set H.n (.cells true false 68 (SC { s with a := xr 64 s.a d.a }) 26)) H.n 1 = some (.int .u64 s.b) := by rw [cellA_of (get1 ga1 _)]; rfl
  have c2 : cellA (H1.set H.n (.cells true false 68 (SC { s with a := xr 64 s.a d.a, b := xr 64 s.b d.b }) 26)) H.n 2 = some (.int .u64 s.c) := by rw [cellA_of (get1 ga1 _)]; rfl
  have c3 : cellA (H1.set H.n (.cells true false 68 (SC { s with a := xr 64 s.a d.a, b := xr 64 s.b d.b, c := xr 64 s.c d.c }) 26)) H.n 67 = some (.int .u32 s.p) := by rw [cellA_of (get1 ga1 _), SC_67 (by exact hs)]
  have hlen : ∀ X, asem (.len false v) X = some (.int .i64 d.l.length, X) := by obtain ⟨a, k, hv, _⟩ := h; intro X; rw [hv]; rfl
  simp only [W_block, ANs, AOp.map, seval, initFr, ANc, s0, cellA_of gb1, m73, m74, m75, m76, m77, w_x64, w_x32, e1, c1, dc, m73, m74, m75, m76, m77, e2, c2, e3, c3, e4, hlen]
  have kA1 := kAll.trans k1
  refine W_loop2 (fun q fr H2 => ∃ (i : Nat) (t : List Int) (y7 y8 : Value), fr = [.agg (SC s).toArray, .agg (MC d v).toArray, ptr H.n 0, ptr Ha.n 0, ptr Hb.n 0, .int .i64 0, .int .i64 i, y7, y8] ∧ i ≤ d.l.length ∧ q = d.l.length - i ∧ Keeps H H2 ∧
   t.length = 64 ∧ patchT s.t d.l = patchT t (d.l.drop i) ∧ H2.get H.n = some (.cells true false 68 (SC ⟨xr 64 s.a d.a, xr 64 s.b d.b, xr 64 s.c d.c, t, xr 32 s.p d.p⟩) 26) ∧ H2.get Hb.n = some (.cells true false 68 Z68 26) ∧ H2.get Ha.n = some (.cells true false 78 (MC d v) 38)) d.l.length ?_ ?_
  ·exact ⟨0, s.t, _, _, rfl, by omega, by omega, kA1.chg_trans (Chg.set H1 (AHeap.get_lt ga1) _) (by simp), hs, by simp, get1 ga1 _, (Chg.set H1 (b := H.n) (AHeap.get_lt ga1) _).at_ gc1 (by simp; omega), (Chg.set H1 (b := H.n) (AHeap.get_lt ga1) _).at_ gb1 (by simp; omega)⟩
  ·rintro Q' q fr H2 ⟨i, t, y7, y8, rfl, h1, rfl, k2, p1, p2, p3, p4, p5⟩ hnext hexit hret
   by_cases hi : i < d.l.length
   ·obtain ⟨b, k', f1, f2, f3, f4⟩ := (h.keeps k2).at_ hi
    have hin := rise_in d.l (-1) (by omega) hr d.l[i] (List.getElem_mem hi)
    rw [List.drop_eq_getElem_cons hi] at p2
    generalize d.l[i] = x at *
    obtain ⟨⟨r, hxr⟩, hr64⟩ : (∃ r : Nat, x.1 = r) ∧ x.1 < 64 := ⟨⟨x.1.toNat, by omega⟩, hin.2⟩
    rw [hxr] at f2 f3
    have hrt : r < t.length := by omega
    have st : asem (.store1 (ptr H.n (3 + r)) (.int .u8 x.2)) H2 = some (undef, H2.set H.n (.cells true false 68 (SC ⟨xr 64 s.a d.a, xr 64 s.b d.b, xr 64 s.c d.c, t.set r x.2, xr 32 s.p d.p⟩) 26)) := by
     have := a_st68 (e := 26) p3 (by exact p1) (o := 3 + r) (by omega) (x := .int .u8 x.2) rfl
     rw [this]
     have e := SC_set (s := ⟨xr 64 s.a d.a, xr 64 s.b d.b, xr 64 s.c d.c, t, xr 32 s.p d.p⟩) (i := r) hrt x.2
     unfold tv at e
     rw [e]
    have m77' : (MC d v)[77]? = some (slc b 0 d.l.length k') := by rw [m77, f1]
    simp only [W_block, ANs, AOp.map, seval, initFr, ANc, show (i : Int) < (d.l.length : Int) by omega, decide_true, show (0 : Int) ≤ (i : Int) by omega, hlen, f3, f4, cellA_of p5, m77', sd_iaddrp, a_iaddrp _ _ 64 1 _ r (by omega), st, wrap_succ (n := i) (by omega)]
    refine hnext _ _ _ ⟨i + 1, t.set r x.2, _, _, rfl, by omega, rfl, k2.chg_trans (Chg.set H2 (AHeap.get_lt p3) _) (by simp), by simpa using p1, ?_, get1 p3 _, (Chg.set H2 (b := H.n) (AHeap.get_lt p3) _).at_ p4 (by simp; omega), (Chg.set H2 (b := H.n) (AHeap.get_lt p3) _).at_ p5 (by simp; omega)⟩ (by omega)
    rw [p2]
    show patchT (t.set x.1.toNat x.2) _ = _
    rw [hxr]; rfl
   ·simp only [W_block, ANs, AOp.map, seval, initFr, ANc, cellA_of p5, m77, hlen, show ¬ (i : Int) < (d.l.length : Int) by omega, decide_false]
    refine hexit _ _ _ ?_
    rw [List.drop_of_length_le (by omega)] at p2
    have p2 : patchT s.t d.l = t := p2
    subst p2
    have st := stAll p4 rfl (SC_len (s := patchS s d) p1) (SC_one _)
    simp only [W_block, ANs, AOp.map, seval, initFr, ANc, full p3 (SC_len (by exact p1))]
    unfold patchS at st hq2
    simp only [W_block, ANs, AOp.map, seval, initFr, ANc, st]
    exact hq2 _ _ ⟨_, resCn 68 5 4 (b := Hb.n) rfl (full (get1 p4 _) (SC_len p1)), rfl, k2.chg_trans (Chg.set H2 (AHeap.get_lt p4) _) (by simp; omega)⟩
end Go.AM.Rp

namespace Go.AM.Rp
open Go.Proofs
theorem a_eq2 (a b : Int) (neg : Bool) (H : AHeap) : asem (.eqs [1, 1] neg (.agg [.int .i64 a, .int .u8 b].toArray) (.agg [.int .i64 a, .int .u8 b].toArray)) H = some (.bool (!neg), H) := by
 simp only [asem, eqCs, eqC, if_true, beq_self_eq_true]
 cases neg <;> rfl
theorem a_eqZ (H : AHeap) : asem (.eqs O68 true (.agg Z68.toArray) (.agg Z68.toArray)) H = some (.bool false, H) := rfl
theorem m0 (d : D) (v : Value) : (MC d v)[0]? = some (.int .u8 0) := rfl
theorem m1 (d : D) (v : Value) : (MC d v)[1]? = some (.int .i64 0) := rfl
theorem m2 (d : D) (v : Value) : (MC d v)[2]? = some (.int .i64 0) := rfl
theorem m3 (d : D) (v : Value) : (MC d v)[3]? = some (.int .i64 0) := rfl
theorem m4 (d : D) (v : Value) : (MC d v)[4]? = some (.int .i64 0) := rfl
theorem m5 {H : AHeap} {b e : Nat} {d : D} {v : Value} (h : H.get b = some (.cells true false 78 (MC d v) e)) : rangeA H b 5 68 = some Z68 := by
 rw [rangeA_of h, if_pos (by rw [MC_len]; omega)]; rfl
theorem t13 {H : AHeap} {d : D} {v v' : Value} {l : List (Int × Int)} (h : TB H v l) (h' : TB H v' l) (hl : l.length ≤ 100000) : ∃ r H', ARun Try.prog 0 13 [.agg (MC d v).toArray, .agg (MC d v').toArray] H r H' ∧ r = .bool true ∧ Keeps H H' := by
 refine walk2 f13_ok f13_n ?_
 intro Q hq1 hq2
 have hc1 : (Value.agg (MC d v).toArray).cells.toList = MC d v := by simp [Value.cells]
 have hc2 : (Value.agg (MC d v').toArray).cells.toList = MC d v' := by simp [Value.cells]
 obtain ⟨Ha, hHa⟩ : ∃ X, X = H.alloc (.cells true false 78 (MC d v) 38) := ⟨_, rfl⟩
 have ka := (Keeps.refl H).alloc (.cells true false 78 (MC d v) 38)
 have ga := AHeap.get_alloc_new H (.cells true false 78 (MC d v) 38)
 rw [← hHa] at ka ga
 obtain ⟨Hb, hHb⟩ : ∃ X, X = Ha.alloc (.cells true false 78 (MC d v') 38) := ⟨_, rfl⟩
 have kb := (Keeps.refl Ha).alloc (.cells true false 78 (MC d v') 38)
 have gb := AHeap.get_alloc_new Ha (.cells true false 78 (MC d v') 38)
 rw [← hHb] at kb gb
 have ga := kb.at_ ga
 have k2 := ka.trans kb
 have hb := h.keeps k2
 have hb' := h'.keeps k2
 have l1 : asem (.len false v) Hb = some (.int .i64 l.length, Hb) := by obtain ⟨a, k, hv, _⟩ := h; rw [hv]; rfl
 have l2 : asem (.len false v') Hb = some (.int .i64 l.length, Hb) := by obtain ⟨a, k, hv, _⟩ := h'; rw [hv]; rfl
 simp only [f13, W_block, ANs, AOp.map, seval, initFr, ANc, bi_u, hc1, hc2, MC_one d h.one, MC_one d h'.one, ← hHa, ← hHb, cellA_of ga, cellA_of gb, m0, m1, m2, m3, m4, m5 ga, m5 gb, st_eqs, a_eqZ, m73, m74, m75, m76, m77, l1, l2, bne_self_eq_false]
 refine W_loop2 (fun q fr H2 => ∃ (i : Nat) (y7 y8 : Value), fr = [.agg (MC d v).toArray, .agg (MC d v').toArray, ptr H.n 0, ptr Ha.n 0, .bool false, .int .i64 i, .bool false, y7, y8] ∧ i ≤ l.length ∧ q = l.length - i ∧ H2 = Hb) l.length ?_ ?_
 ·exact ⟨0, _, _, rfl, by omega, by omega, rfl⟩
 ·rintro Q' q fr H2 ⟨i, y7, y8, rfl, h1, rfl, rfl⟩ hnext hexit hret
  by_cases hi : i < l.length
  ·obtain ⟨b, k', e1, e2, _⟩ := hb.at_ hi
   obtain ⟨b', k'', f1, f2, _⟩ := hb'.at_ hi
   have m77' : (MC d v)[77]? = some (slc b 0 l.length k') := by rw [m77, e1]
   have m77'' : (MC d v')[77]? = some (slc b' 0 l.length k'') := by rw [m77, f1]
   simp only [W_block, ANs, AOp.map, seval, initFr, ANc, cellA_of ga, cellA_of gb, m77', m77'', show (i : Int) < (l.length : Int) by omega, decide_true, show (0 : Int) ≤ (i : Int) by omega, e2, f2, sd_eqs, a_eq2, wrap_succ (n := i) (by omega)]
   exact hnext _ _ _ ⟨i + 1, _, _, rfl, by omega, rfl, rfl⟩ (by omega)
  ·simp only [W_block, ANs, AOp.map, seval, initFr, ANc, cellA_of ga, m77, l1, show ¬ (i : Int) < (l.length : Int) by omega, decide_false]
   refine hexit _ _ _ ?_
   simp only [W_block, ANs, AOp.map, seval, initFr, ANc]
   exact hq2 _ _ ⟨_, rfl, rfl, k2⟩
theorem appD {P : Program} {ng : Nat} {fr tm : List Value} {H : AHeap} {d : Go.AM.D} {r : List (AOper × List Nat)} {tr : List TE} {KF : List Value → AHeap → Prop} {e esz bytes : Nat} {s x : Value} {n m : Nat} {c news : List Value} (h : AP H e esz s n c) (hx : ∃ a k, x = .slice a m k) (h1 : elemsA H esz x = some news) (hm : news.length = m * esz)
  (hs : (n + m) * bytes ≤ 140737488355328 ∧ n + m ≤ 140737488355328)
  (hk : ∀ v' H', AP H' e esz v' (n + m) (c ++ news) → Chg (blkL s) H H' → (blk v' = blk s ∨ blk v' = some H.n) → RD P ng r (d.frame v' fr) (d.temps v' tm) H' (tr ++ [⟨clsA (.app e esz bytes s x), touchA (.app e esz bytes s x) H, H, H'⟩]) KF) : stD P ng (.app e esz bytes s x) d [] r fr tm H tr KF := by
 rw [sd_app]
 obtain ⟨v', H', e1, e2, e3, e4⟩ := h.app (bytes := bytes) hm hs
 obtain ⟨a, k, rfl⟩ := hx
 exact ⟨v', H', by simp only [asem, h1]; exact e1, trivial, hk v' H' e2 e3 e4⟩
theorem bsl (e : Nat) (a b : Int) (H : AHeap) : asem (.bslice e 2 1 [.int .i64 0, .int .u8 0] [(0, 2, .agg [.int .i64 a, .int .u8 b].toArray)]) H = some (slc H.n 0 1 1, H.alloc (.cells true false 2 [.int .i64 a, .int .u8 b] e)) := rfl
theorem fl2 (a b : Int) : fillA [.int .i64 0, .int .u8 0] [(0, 1, .int .i64 a), (1, 1, .int .u8 b)] = some [.int .i64 a, .int .u8 b] := rfl
theorem MC_set77 (d : D) (v w : Value) : (MC d v).set 77 w = MC d w := rfl
theorem t12 {H : AHeap} {d : D} {v : Value} (h : TB H v d.l) (hl : d.l.length ≤ 100000) : ∃ r H', ARun Try.prog 0 12 [.agg (MC d v).toArray] H r H' ∧ Keeps H H' ∧ ∃ w, r = .agg (MC d w).toArray ∧ TB H' w d.l := by
 refine walk2 f12_ok f12_n ?_
 intro Q hq1 hq2
 have hc1 : (Value.agg (MC d v).toArray).cells.toList = MC d v := by simp [Value.cells]
 obtain ⟨Ha, hHa⟩ : ∃ X, X = H.alloc (.cells true false 78 (MC d v) 41) := ⟨_, rfl⟩
 have ka := (Keeps.refl H).alloc (.cells true false 78 (MC d v) 41)
 have ga := AHeap.get_alloc_new H (.cells true false 78 (MC d v) 41)
 rw [← hHa] at ka ga
 have na : Ha.n = H.n + 1 := by rw [hHa]; rfl
 obtain ⟨Hb, hHb⟩ : ∃ X, X = Ha.alloc (.cells true false 78 Z78 38) := ⟨_, rfl⟩
 have kb := (Keeps.refl Ha).alloc (.cells true false 78 Z78 38)
 have gb := AHeap.get_alloc_new Ha (.cells true false 78 Z78 38)
 rw [← hHb] at kb gb
 have nb : Hb.n = H.n + 2 := by rw [hHb, alloc_n, na]
 have ga := kb.at_ ga
 have z78 : Z78.all Value.oneCell' = true := rfl
 have fl : fillA Z78 [(0, 1, .int .u8 0), (1, 1, .int .i64 0), (2, 1, .int .i64 0), (3, 1, .int .i64 0), (4, 1, .int .i64 0), (5, 68, .agg Z68.toArray), (73, 1, .int .u64 d.a), (74, 1, .int .u64 d.b), (75, 1, .int .u64 d.c), (76, 1, .int .u32 d.p)] = some (MC d (.slice none 0 0)) := rfl
 have vc : asem (.storen 78 (ptr Hb.n 0) (.agg (MC d (.slice none 0 0)).toArray)) (Hb.alloc (.cells true false 78 Z78 38)) = some (undef, Hb.alloc (.cells true false 78 (MC d (.slice none 0 0)) 38)) := by
  have := a_var (H := Hb) (n := 78) (room := false) (esz := 78) (e := 38) (c := Z78) (xs := (MC d (.slice none 0 0)).toArray) rfl rfl (by simpa using MC_one d (v := .slice none 0 0) rfl)
  simpa using this
 obtain ⟨Hc, hHc⟩ : ∃ X, X = Hb.alloc (.cells true false 78 (MC d (.slice none 0 0)) 38) := ⟨_, rfl⟩
 have kc := (Keeps.refl Hb).alloc (.cells true false 78 (MC d (.slice none 0 0)) 38)
 have gc := AHeap.get_alloc_new Hb (.cells true false 78 (MC d (.slice none 0 0)) 38)
 rw [← hHc] at kc gc vc
 have nc : Hc.n = H.n + 3 := by rw [hHc, alloc_n, nb]
 have ga := kc.at_ ga
 have gb2 := kc.at_ gb
 have kAll := (ka.trans kb).trans kc
 have gaB : Hb.get H.n = some (.cells true false 78 (MC d v) 41) := kb.at_ (by rw [hHa]; exact AHeap.get_alloc_new H _)
 have hlen : ∀ X, asem (.len false v) X = some (.int .i64 d.l.length, X) := by obtain ⟨a, k, hv, _⟩ := h; intro X; rw [hv]; rfl
 simp only [f12, W_block, ANs, AOp.map, seval, initFr, ANc, hc1, MC_one d h.one, ← hHa, ← hHb, z78, cellA_of gaB, m0, m1, m2, m3, m4, m5 gaB, m73, m74, m75, m76, fl, vc]
 refine W_loop2 (fun q fr H2 => ∃ (i : Nat) (w y5 : Value), fr = [.agg (MC d v).toArray, ptr H.n 0, ptr Ha.n 0, ptr Hb.n 0, .int .i64 i, y5] ∧ i ≤ d.l.length ∧ q = d.l.length - i ∧ Keeps H H2 ∧ Hc.n ≤ H2.n ∧ H2.get H.n = some (.cells true false 78 (MC d v) 41) ∧ H2.get Ha.n = some (.cells true false 78 Z78 38) ∧
  H2.get Hb.n = some (.cells true false 78 (MC d w) 38) ∧ AP H2 92 2 w i (TC (d.l.take i)) ∧ Fresh Hc.n w) d.l.length ?_ ?_
 ·exact ⟨0, _, _, rfl, by omega, by omega, kAll, Nat.le_refl _, ga, gb2, gc, .inl ⟨rfl, rfl, by simp [TC]⟩, fun b hb => by cases hb⟩
 ·rintro Q' q fr H2 ⟨i, w, y5, rfl, h1, rfl, k2, n2, g1, g2, g3, ap, fw⟩ hnext hexit hret
  by_cases hi : i < d.l.length
  ·obtain ⟨b, k', f1, f2, f3, f4⟩ := (h.keeps k2).at_ hi
   have ht : d.l.take (i + 1) = d.l.take i ++ [d.l[i]] := List.take_succ_eq_append_getElem hi
   generalize d.l[i] = x at *
   have m77' : (MC d v)[77]? = some (slc b 0 d.l.length k') := by rw [m77, f1]
   have lw : ∀ z ∈ blkL w, Hc.n ≤ z ∧ z < H2.n := fun z hz => ⟨fw z (mem_blkL.1 hz), ap.lt (mem_blkL.1 hz)⟩
   have k3 := (Keeps.refl H2).alloc (.cells true false 2 [.int .i64 x.1, .int .u8 x.2] 92)
   have g4 := AHeap.get_alloc_new H2 (.cells true false 2 [.int .i64 x.1, .int .u8 x.2] 92)
   obtain ⟨H3, hH3⟩ : ∃ X, X = H2.alloc (.cells true false 2 [.int .i64 x.1, .int .u8 x.2] 92) := ⟨_, rfl⟩
   have hbsl := bsl 92 x.1 x.2 H2
   rw [← hH3] at k3 g4 hbsl
   have n3 : H3.n = H2.n + 1 := by rw [hH3]; rfl
   simp only [W_block, ANs, AOp.map, seval, initFr, ANc, cellA_of g1, cellA_of g3, m77, m77', hlen, show (i : Int) < (d.l.length : Int) by omega, decide_true, show (0 : Int) ≤ (i : Int) by omega, f3, f4, fl2, hbsl]
   refine appD (ap.keeps k3) ⟨_, _, rfl⟩ (elems_own g4 rfl) rfl (by omega) ?_
   intro w' H4 ap4 c4 hbw
   have n4 := c4.n
   have g1' := c4.at_ (k3.at_ g1) (fun hz => by have := lw _ hz; omega)
   have g2' := c4.at_ (k3.at_ g2) (fun hz => by have := lw _ hz; omega)
   have g3' := c4.at_ (k3.at_ g3) (fun hz => by have := lw _ hz; omega)
   have st : asem (.store1 (ptr Hb.n 77) w') H4 = some (undef, H4.set Hb.n (.cells true false 78 (MC d w') 38)) := by
    rw [a_st g3' (by rw [MC_len]; omega) (by obtain ⟨a, e⟩ := ap4.shape; rw [e]; rfl), MC_set77]
   have d5 := Chg.set H4 (b := Hb.n) (AHeap.get_lt g3') (.cells true false 78 (MC d w') 38)
   simp only [W_block, ANs, AOp.map, seval, initFr, ANc, st, wrap_succ (n := i) (by omega)]
   refine hnext _ _ _ ⟨i + 1, w', _, rfl, by omega, rfl, (((k2.trans k3).chg_trans c4 (fun z hz => by have := lw z hz; omega))).chg_trans d5 (by simp; omega), by have := d5.n; omega, d5.at_ g1' (by simp; omega), d5.at_ g2' (by simp; omega), get1 g3' _, ?_, ?_⟩ (by omega)
   ·rw [ht, TC_app]
    refine ap4.chg d5 (fun z hz => ?_)
    rcases hbw with e | e
    ·have := lw z (by rw [mem_blkL] at hz ⊢; rw [← e]; exact hz)
     simp; omega
    ·rw [mem_blkL, e] at hz; cases hz; simp; omega
   ·intro z hz
    rcases hbw with e | e
    ·rw [e] at hz; exact fw z hz
    ·rw [e] at hz; cases hz; omega
  ·simp only [W_block, ANs, AOp.map, seval, initFr, ANc, cellA_of g1, m77, hlen, show ¬ (i : Int) < (d.l.length : Int) by omega, decide_false]
   refine hexit _ _ _ ?_
   have hie : i = d.l.length := by omega
   subst hie
   rw [List.take_length] at ap
   obtain ⟨aw, ew⟩ := ap.shape
   have st := stAll g2 rfl (MC_len d w) (MC_one d (by rw [ew]; rfl))
   simp only [W_block, ANs, AOp.map, seval, initFr, ANc, full g3 (MC_len d w), st]
   have d5 := Chg.set H2 (b := Ha.n) (AHeap.get_lt g2) (.cells true false 78 (MC d w) 38)
   refine hq2 _ _ ⟨_, resC1 78 2 (b := Ha.n) rfl (full (get1 g2 _) (MC_len d w)), k2.chg_trans d5 (by simp; omega), w, rfl, TB.of_ap (ap.chg d5 (fun z hz => ?_))⟩
   have := fw z (mem_blkL.1 hz)
   simp; omega
end Go.AM.Rp

namespace Go.AM.Rp
open Go.Proofs
def dp (s t : List Int) : Nat → List (Int × Int)
 | 0 => []
 | n + 1 => dp s t n ++ (if t.getD n 0 = s.getD n 0 then [] else [((n : Int), t.getD n 0)])
theorem dp_le (s t : List Int) : ∀ n, (dp s t n).length ≤ n
 | 0 => by simp [dp]
 | n + 1 => by have := dp_le s t n; simp only [dp, List.length_append]; split <;> simp <;> omega
def diffD (s t : S) : D := ⟨xr 64 s.a t.a, xr 64 s.b t.b, xr 64 s.c t.c, xr 32 s.p t.p, dp s.t t.t 64⟩
def D5 (x y z w : Nat) (v : Value) : List Value := [.int .u64 x, .int .u64 y, .int .u64 z, .int .u32 w, v]
theorem rng64 {H : AHeap} {b e : Nat} {s : S} (h : H.get b = some (.cells true false 68 (SC s) e)) (hs : s.t.length = 64) : rangeA H b 3 64 = some (s.t.map tv) := by
 rw [rangeA_of h, if_pos (by rw [SC_len hs]; omega)]
 simp only [SC, List.drop]
 rw [List.take_append_of_le_length (by simp [hs]), List.take_of_length_le (by simp [hs])]
theorem a_idxa (cs : List Value) (i n : Nat) (hi : i < n) {x : Value} (hx : cs[i]? = some x) (H : AHeap) : asem (.idxa false 1 n (.agg cs.toArray) (.int .i64 (i : Int))) H = some (x, H) := by
 simp only [asem, Int.toNat_natCast, Nat.mul_one]
 rw [if_pos (by omega)]
 simp [hx]
theorem t9o {H : AHeap} {s t : S} (hs : s.t.length = 64) (ht : t.t.length = 64) : ∃ r H', ARun Try.prog 0 9 [.agg (SC s).toArray, .agg (SC t).toArray] H r H' ∧ Keeps H H' ∧ ∃ w, r = .agg (D5 (xr 64 s.a t.a) (xr 64 s.b t.b) (xr 64 s.c t.c) (xr 32 s.p t.p) w).toArray ∧ TB H' w (dp s.t t.t 64) ∧ Fresh H.n w ∧ AP H' 90 2 w (dp s.t t.t 64).length (TC (dp s.t t.t 64)) := by
 refine walk2 f9_ok f9_n ?_
 intro Q hq1 hq2
 have hc1 : (Value.agg (SC s).toArray).cells.toList = SC s := by simp [Value.cells]
 have hc2 : (Value.agg (SC t).toArray).cells.toList = SC t := by simp [Value.cells]
 obtain ⟨Ha, hHa⟩ : ∃ X, X = H.alloc (.cells true false 68 (SC s) 26) := ⟨_, rfl⟩
 have ka := (Keeps.refl H).alloc (.cells true false 68 (SC s) 26)
 have ga := AHeap.get_alloc_new H (.cells true false 68 (SC s) 26)
 rw [← hHa] at ka ga
 have na : Ha.n = H.n + 1 := by rw [hHa]; rfl
 obtain ⟨Hb, hHb⟩ : ∃ X, X = Ha.alloc (.cells true false 68 (SC t) 26) := ⟨_, rfl⟩
 have kb := (Keeps.refl Ha).alloc (.cells true false 68 (SC t) 26)
 have gb := AHeap.get_alloc_new Ha (.cells true false 68 (SC t) 26)
 rw [← hHb] at kb gb
 have nb : Hb.n = H.n + 2 := by rw [hHb, alloc_n, na]
 obtain ⟨Hc, hHc⟩ : ∃ X, X = Hb.alloc (.cells true false 5 (D5 0 0 0 0 (.slice none 0 0)) 29) := ⟨_, rfl⟩
 have kc := (Keeps.refl Hb).alloc (.cells true false 5 (D5 0 0 0 0 (.slice none 0 0)) 29)
 have gc := AHeap.get_alloc_new Hb (.cells true false 5 (D5 0 0 0 0 (.slice none 0 0)) 29)
 rw [← hHc] at kc gc
 have nc : Hc.n = H.n + 3 := by rw [hHc, alloc_n, nb]
 have hHc' : Hb.alloc (.cells true false 5 [.int .u64 0, .int .u64 0, .int .u64 0, .int .u32 0, .slice none 0 0] 29) = Hc := hHc.symm
 generalize hx1 : xr 64 s.a t.a = x1 at *
 generalize hx2 : xr 64 s.b t.b = x2 at *
 generalize hx3 : xr 64 s.c t.c = x3 at *
 generalize hx4 : xr 32 s.p t.p = x4 at *
 have fl : fillA [.int .u64 0, .int .u64 0, .int .u64 0, .int .u32 0, .slice none 0 0] [(0, 1, .int .u64 x1), (1, 1, .int .u64 x2), (2, 1, .int .u64 x3), (3, 1, .int .u32 x4)] = some (D5 x1 x2 x3 x4 (.slice none 0 0)) := rfl
 have vc : asem (.storen 5 (ptr Hc.n 0) (.agg (D5 x1 x2 x3 x4 (.slice none 0 0)).toArray)) (Hc.alloc (.cells true false 5 [.int .u64 0, .int .u64 0, .int .u64 0, .int .u32 0, .slice none 0 0] 29)) = some (undef, Hc.alloc (.cells true false 5 (D5 x1 x2 x3 x4 (.slice none 0 0)) 29)) := by
  have := a_var (H := Hc) (n := 5) (room := false) (esz := 5) (e := 29) (c := [.int .u64 0, .int .u64 0, .int .u64 0, .int .u32 0, .slice none 0 0]) (xs := (D5 x1 x2 x3 x4 (.slice none 0 0)).toArray) rfl rfl rfl
  simpa using this
 obtain ⟨Hd, hHd⟩ : ∃ X, X = Hc.alloc (.cells true false 5 (D5 x1 x2 x3 x4 (.slice none 0 0)) 29) := ⟨_, rfl⟩
 have kd := (Keeps.refl Hc).alloc (.cells true false 5 (D5 x1 x2 x3 x4 (.slice none 0 0)) 29)
 have gd := AHeap.get_alloc_new Hc (.cells true false 5 (D5 x1 x2 x3 x4 (.slice none 0 0)) 29)
 rw [← hHd] at kd gd vc
 have nd : Hd.n = H.n + 4 := by rw [hHd, alloc_n, nc]
 have ga1 := kc.at_ (kb.at_ ga)
 have gb1 := kc.at_ gb
 have gaD := kd.at_ ga1
 have gbD := kd.at_ gb1
 have gcD := kd.at_ gc
 have kAll := ((ka.trans kb).trans kc).trans kd
 have s67 : cellA Hc H.n 67 = some (.int .u32 s.p) := by rw [cellA_of ga1, SC_67 hs]
 have t67 : cellA Hc Ha.n 67 = some (.int .u32 t.p) := by rw [cellA_of gb1, SC_67 ht]
 have q0 : cellA Hc H.n 0 = some (.int .u64 s.a) := by rw [cellA_of ga1]; rfl
 have q1 : cellA Hc H.n 1 = some (.int .u64 s.b) := by rw [cellA_of ga1]; rfl
 have q2 : cellA Hc H.n 2 = some (.int .u64 s.c) := by rw [cellA_of ga1]; rfl
 have u0 : cellA Hc Ha.n 0 = some (.int .u64 t.a) := by rw [cellA_of gb1]; rfl
 have u1 : cellA Hc Ha.n 1 = some (.int .u64 t.b) := by rw [cellA_of gb1]; rfl
 have u2 : cellA Hc Ha.n 2 = some (.int .u64 t.c) := by rw [cellA_of gb1]; rfl
 simp only [f9, W_block, ANs, AOp.map, seval, initFr, ANc, hc1, hc2, SC_one, ← hHa, ← hHb, hHc', q0, q1, q2, u0, u1, u2, s67, t67, w_x64, w_x32, hx1, hx2, hx3, hx4, fl, vc, rng64 gbD ht]
 refine W_loop2 (fun q fr H2 => ∃ (i : Nat) (w y6 y7 y10 y11 : Value), fr = [.agg (SC s).toArray, .agg (SC t).toArray, ptr H.n 0, ptr Ha.n 0, ptr Hb.n 0, ptr Hc.n 0, y6, y7, .agg (t.t.map tv).toArray, .int .i64 i, y10, y11] ∧ i ≤ 64 ∧ q = 64 - i ∧ Keeps H H2 ∧ Hd.n ≤ H2.n ∧ H2.get H.n = some (.cells true false 68 (SC s) 26) ∧ H2.get Hb.n = some (.cells true false 5 (D5 0 0 0 0 (.slice none 0 0)) 29) ∧
  H2.get Hc.n = some (.cells true false 5 (D5 x1 x2 x3 x4 w) 29) ∧ AP H2 90 2 w (dp s.t t.t i).length (TC (dp s.t t.t i)) ∧ Fresh Hd.n w) 64 ?_ ?_
 ·exact ⟨0, _, _, _, _, _, rfl, by omega, by omega, kAll, Nat.le_refl _, gaD, gcD, gd, .inl ⟨rfl, rfl, rfl⟩, fun b hb => by cases hb⟩
 ·rintro Q' q fr H2 ⟨i, w, y6, y7, y10, y11, rfl, h1, rfl, k2, n2, g1, g2, g3, ap, fw⟩ hnext hexit hret
  by_cases hi : i < 64
  ·have hti : t.t.getD i 0 = t.t[i]'(by omega) := by rw [List.getD_eq_getElem?_getD, List.getElem?_eq_getElem (by omega)]; rfl
   have hsi : s.t.getD i 0 = s.t[i]'(by omega) := by rw [List.getD_eq_getElem?_getD, List.getElem?_eq_getElem (by omega)]; rfl
   have ix : (t.t.map tv)[i]? = some (tv (t.t.getD i 0)) := by rw [List.getElem?_map, List.getElem?_eq_getElem (by omega), hti]; rfl
   have cs : cellA H2 H.n (3 + i) = some (tv (s.t.getD i 0)) := by rw [cellA_of g1, SC_t (by omega), hsi]
   have hdp : dp s.t t.t (i + 1) = dp s.t t.t i ++ (if t.t.getD i 0 = s.t.getD i 0 then [] else [((i : Int), t.t.getD i 0)]) := rfl
   have hle := dp_le s.t t.t i
   generalize t.t.getD i 0 = ti at *
   generalize s.t.getD i 0 = si at *
   have lw : ∀ z ∈ blkL w, Hd.n ≤ z ∧ z < H2.n := fun z hz => ⟨fw z (mem_blkL.1 hz), ap.lt (mem_blkL.1 hz)⟩
   have d4 : cellA H2 Hc.n 4 = some w := by rw [cellA_of g3]; rfl
   change (t.t.map tv)[i]? = some (.int .u8 ti) at ix
   change cellA H2 H.n (3 + i) = some (.int .u8 si) at cs
   by_cases he : ti = si
   ·simp only [W_block, ANs, AOp.map, seval, initFr, ANc, show (i : Int) < 64 by omega, decide_true, st_idxa, a_idxa _ i 64 hi ix, st_iaddrp, a_iaddrp _ _ 64 1 _ i hi, cs, show (ti != si) = false by simp [he], wrap_succ (n := i) (by omega)]
    refine hnext _ _ _ ⟨i + 1, w, _, _, _, _, rfl, by omega, rfl, k2, n2, g1, g2, g3, ?_, fw⟩ (by omega)
    rw [hdp, if_pos he, List.append_nil]; exact ap
   ·have k3 := (Keeps.refl H2).alloc (.cells true false 2 [.int .i64 (i : Int), .int .u8 ti] 90)
    have g4 := AHeap.get_alloc_new H2 (.cells true false 2 [.int .i64 (i : Int), .int .u8 ti] 90)
    obtain ⟨H3, hH3⟩ : ∃ X, X = H2.alloc (.cells true false 2 [.int .i64 (i : Int), .int .u8 ti] 90) := ⟨_, rfl⟩
    have hbsl := bsl 90 (i : Int) ti H2
    rw [← hH3] at k3 g4 hbsl
    have n3 : H3.n = H2.n + 1 := by rw [hH3]; rfl
    simp only [W_block, ANs, AOp.map, seval, initFr, ANc, show (i : Int) < 64 by omega, decide_true, st_idxa, a_idxa _ i 64 hi ix, st_iaddrp, a_iaddrp _ _ 64 1 _ i hi, cs, show (ti != si) = true by simp [he], d4, fl2, hbsl]
    refine appR (ap.keeps k3) ⟨_, _, rfl⟩ (elems_own g4 rfl) rfl (by omega) ?_
    intro w' H4 ap4 c4 hbw
    have n4 := c4.n
    have g1' := c4.at_ (k3.at_ g1) (fun hz => by have := lw _ hz; omega)
    have g2' := c4.at_ (k3.at_ g2) (fun hz => by have := lw _ hz; omega)
    have g3' := c4.at_ (k3.at_ g3) (fun hz => by have := lw _ hz; omega)
    have st : asem (.store1 (ptr Hc.n 4) w') H4 = some (undef, H4.set Hc.n (.cells true false 5 (D5 x1 x2 x3 x4 w') 29)) := by
     rw [a_st g3' (by simp [D5]) (by obtain ⟨a, e⟩ := ap4.shape; rw [e]; rfl)]; rfl
    have d5 := Chg.set H4 (b := Hc.n) (AHeap.get_lt g3') (.cells true false 5 (D5 x1 x2 x3 x4 w') 29)
    simp only [W_block, ANs, AOp.map, seval, initFr, ANc, st, wrap_succ (n := i) (by omega)]
    refine hnext _ _ _ ⟨i + 1, w', _, _, _, _, rfl, by omega, rfl, (((k2.trans k3).chg_trans c4 (fun z hz => by have := lw z hz; omega))).chg_trans d5 (by simp; omega), by have := d5.n; omega, d5.at_ g1' (by simp; omega), d5.at_ g2' (by simp; omega), get1 g3' _, ?_, ?_⟩ (by omega)
    ·rw [hdp, if_neg he, TC_app, List.length_append]
     refine AP.chg ap4 d5 (fun z hz => ?_)
     rcases hbw with e | e
     ·have := lw z (by rw [mem_blkL] at hz ⊢; rw [← e]; exact hz)
      simp; omega
     ·rw [mem_blkL, e] at hz; cases hz; simp; omega
    ·intro z hz
     rcases hbw with e | e
     ·rw [e] at hz; exact fw z hz
     ·rw [e] at hz; cases hz; omega
  ·simp only [W_block, ANs, AOp.map, seval, initFr, ANc, show ¬ (i : Int) < 64 by omega, decide_false]
   refine hexit _ _ _ ?_
   have hie : i = 64 := by omega
   subst hie
   obtain ⟨aw, ew⟩ := ap.shape
   have st := stAll g2 rfl (show (D5 x1 x2 x3 x4 w).length = 5 from rfl) (by rw [ew]; rfl)
   simp only [W_block, ANs, AOp.map, seval, initFr, ANc, full g3 (show (D5 x1 x2 x3 x4 w).length = 5 from rfl), st]
   have d5 := Chg.set H2 (b := Hb.n) (AHeap.get_lt g2) (.cells true false 5 (D5 x1 x2 x3 x4 w) 29)
   have ap' := AP.chg ap d5 (fun z hz => by
    have := fw z (mem_blkL.1 hz)
    simp; omega)
   exact hq2 _ _ ⟨_, resC1 5 4 (b := Hb.n) rfl (full (get1 g2 _) rfl), k2.chg_trans d5 (by simp; omega), w, rfl, TB.of_ap ap', fun z hz => by have := fw z hz; omega, ap'⟩
theorem t9 {H : AHeap} {s t : S} (hs : s.t.length = 64) (ht : t.t.length = 64) : ∃ r H', ARun Try.prog 0 9 [.agg (SC s).toArray, .agg (SC t).toArray] H r H' ∧ Keeps H H' ∧ ∃ w, r = .agg (D5 (xr 64 s.a t.a) (xr 64 s.b t.b) (xr 64 s.c t.c) (xr 32 s.p t.p) w).toArray ∧ TB H' w (dp s.t t.t 64) ∧ Fresh H.n w := by
 obtain ⟨r, H', h1, h2, w, h3, h4, h5, _⟩ := t9o (H := H) hs ht
 exact ⟨r, H', h1, h2, w, h3, h4, h5⟩
end Go.AM.Rp

namespace Go.AM.Rp
open Go.Proofs
theorem MC_l (a b c p : Nat) (l : List (Int × Int)) (v : Value) : MC ⟨a, b, c, p, l⟩ v = MC ⟨a, b, c, p, []⟩ v := rfl
theorem a_stM {H : AHeap} {b : Nat} {d : D} {v : Value} {e : Nat} (h : H.get b = some (.cells true false 78 (MC d v) e)) {o : Nat} (ho : o < 78) {x : Value} (hx : one1 x) : asem (.store1 (ptr b o) x) H = some (undef, H.set b (.cells true false 78 ((MC d v).set o x) e)) := a_st h (by rw [MC_len]; exact ho) hx
theorem t14 {H : AHeap} {s t : S} (hs : s.t.length = 64) (ht : t.t.length = 64) : ∃ r H', ARun Try.prog 0 14 [.agg Z78.toArray, .agg (SC s).toArray, .agg (SC t).toArray] H r H' ∧ Keeps H H' ∧ ∃ w, r = .agg (MC (diffD s t) w).toArray ∧ TB H' w (dp s.t t.t 64) := by
 refine walk2 f14_ok f14_n ?_
 intro Q hq1 hq2
 have hc0 : (Value.agg Z78.toArray).cells.toList = Z78 := by simp [Value.cells]
 have hc1 : (Value.agg (SC s).toArray).cells.toList = SC s := by simp [Value.cells]
 have hc2 : (Value.agg (SC t).toArray).cells.toList = SC t := by simp [Value.cells]
 have z78 : Z78.all Value.oneCell' = true := rfl
 obtain ⟨Ha, hHa⟩ : ∃ X, X = H.alloc (.cells true false 78 Z78 38) := ⟨_, rfl⟩
 have ka := (Keeps.refl H).alloc (.cells true false 78 Z78 38)
 have ga := AHeap.get_alloc_new H (.cells true false 78 Z78 38)
 rw [← hHa] at ka ga
 have na : Ha.n = H.n + 1 := by rw [hHa]; rfl
 obtain ⟨Hb, hHb⟩ : ∃ X, X = Ha.alloc (.cells true false 68 (SC s) 26) := ⟨_, rfl⟩
 have kb := (Keeps.refl Ha).alloc (.cells true false 68 (SC s) 26)
 have gb := AHeap.get_alloc_new Ha (.cells true false 68 (SC s) 26)
 rw [← hHb] at kb gb
 have nb : Hb.n = H.n + 2 := by rw [hHb, alloc_n, na]
 obtain ⟨Hc, hHc⟩ : ∃ X, X = Hb.alloc (.cells true false 68 (SC t) 26) := ⟨_, rfl⟩
 have kc := (Keeps.refl Hb).alloc (.cells true false 68 (SC t) 26)
 have gc := AHeap.get_alloc_new Hb (.cells true false 68 (SC t) 26)
 rw [← hHc] at kc gc
 have nc : Hc.n = H.n + 3 := by rw [hHc, alloc_n, nb]
 obtain ⟨Hd, hHd⟩ : ∃ X, X = Hc.alloc (.cells true false 78 Z78 38) := ⟨_, rfl⟩
 have kd := (Keeps.refl Hc).alloc (.cells true false 78 Z78 38)
 have gd := AHeap.get_alloc_new Hc (.cells true false 78 Z78 38)
 rw [← hHd] at kd gd
 have nd : Hd.n = H.n + 4 := by rw [hHd, alloc_n, nc]
 have ga1 := kd.at_ (kc.at_ (kb.at_ ga))
 have gb1 := kd.at_ (kc.at_ gb)
 have gc1 := kd.at_ gc
 have kAll := ((ka.trans kb).trans kc).trans kd
 unfold diffD at hq2
 generalize hx1 : xr 64 s.a t.a = x1 at *
 generalize hx2 : xr 64 s.b t.b = x2 at *
 generalize hx3 : xr 64 s.c t.c = x3 at *
 generalize hx4 : xr 32 s.p t.p = x4 at *
 have hln := AHeap.get_lt ga1
 have oth : ∀ (X : AO) {b : Nat} {o : AO}, Hd.get b = some o → b ≠ H.n → (Hd.set H.n X).get b = some o := fun X {b o} h hne => (Chg.set Hd (b := H.n) hln X).at_ h (by simpa using hne)
 have sc : ∀ X k, cellA (Hd.set H.n X) Ha.n k = (SC s)[k]? := fun X k => cellA_of (oth X gb1 (by omega))
 have tc : ∀ X k, cellA (Hd.set H.n X) Hb.n k = (SC t)[k]? := fun X k => cellA_of (oth X gc1 (by omega))
 have q0 : (SC s)[0]? = some (.int .u64 s.a) := rfl
 have q1 : (SC s)[1]? = some (.int .u64 s.b) := rfl
 have q2 : (SC s)[2]? = some (.int .u64 s.c) := rfl
 have u0 : (SC t)[0]? = some (.int .u64 t.a) := rfl
 have u1 : (SC t)[1]? = some (.int .u64 t.b) := rfl
 have u2 : (SC t)[2]? = some (.int .u64 t.c) := rfl
 have s67 := SC_67 hs
 have t67 := SC_67 ht
 have gz : Hd.get H.n = some (.cells true false 78 (MC ⟨0, 0, 0, 0, []⟩ (.slice none 0 0)) 38) := ga1
 have e1 : asem (.store1 (ptr H.n 73) (.int .u64 x1)) Hd = some (undef, Hd.set H.n (.cells true false 78 (MC ⟨x1, 0, 0, 0, []⟩ (.slice none 0 0)) 38)) := a_stM gz (by omega) rfl
 have e2 : asem (.store1 (ptr H.n 74) (.int .u64 x2)) (Hd.set H.n (.cells true false 78 (MC ⟨x1, 0, 0, 0, []⟩ (.slice none 0 0)) 38)) = some (undef, Hd.set H.n (.cells true false 78 (MC ⟨x1, x2, 0, 0, []⟩ (.slice none 0 0)) 38)) := by
  have := a_stM (d := ⟨x1, 0, 0, 0, []⟩) (v := .slice none 0 0) (e := 38) (get1 gz _) (o := 74) (by omega) (x := .int .u64 x2) rfl
  rw [set2] at this; exact this
 have e3 : asem (.store1 (ptr H.n 75) (.int .u64 x3)) (Hd.set H.n (.cells true false 78 (MC ⟨x1, x2, 0, 0, []⟩ (.slice none 0 0)) 38)) = some (undef, Hd.set H.n (.cells true false 78 (MC ⟨x1, x2, x3, 0, []⟩ (.slice none 0 0)) 38)) := by
  have := a_stM (d := ⟨x1, x2, 0, 0, []⟩) (v := .slice none 0 0) (e := 38) (get1 gz _) (o := 75) (by omega) (x := .int .u64 x3) rfl
  rw [set2] at this; exact this
 have e4 : asem (.store1 (ptr H.n 76) (.int .u32 x4)) (Hd.set H.n (.cells true false 78 (MC ⟨x1, x2, x3, 0, []⟩ (.slice none 0 0)) 38)) = some (undef, Hd.set H.n (.cells true false 78 (MC ⟨x1, x2, x3, x4, []⟩ (.slice none 0 0)) 38)) := by
  have := a_stM (d := ⟨x1, x2, x3, 0, []⟩) (v := .slice none 0 0) (e := 38) (get1 gz _) (o := 76) (by omega) (x := .int .u32 x4) rfl
  rw [set2] at this; exact this
 have v0 : cellA Hd Ha.n 0 = some (.int .u64 s.a) := by rw [cellA_of gb1]; rfl
 have w0 : cellA Hd Hb.n 0 = some (.int .u64 t.a) := by rw [cellA_of gc1]; rfl
 simp only [f14, W_block, ANs, AOp.map, seval, initFr, ANc, hc0, hc1, hc2, SC_one, z78, ← hHa, ← hHb, ← hHc, ← hHd, v0, w0, sc, tc, q1, q2, u1, u2, s67, t67, w_x64, w_x32, hx1, hx2, hx3, hx4, e1, e2, e3, e4]
 have g0 := get1 gz (.cells true false 78 (MC ⟨x1, x2, x3, x4, []⟩ (.slice none 0 0)) 38)
 have gs0 := oth (.cells true false 78 (MC ⟨x1, x2, x3, x4, []⟩ (.slice none 0 0)) 38) gb1 (by omega)
 have gt0 := oth (.cells true false 78 (MC ⟨x1, x2, x3, x4, []⟩ (.slice none 0 0)) 38) gc1 (by omega)
 have gd0 := oth (.cells true false 78 (MC ⟨x1, x2, x3, x4, []⟩ (.slice none 0 0)) 38) gd (by omega)
 have kE : Keeps H (Hd.set H.n (.cells true false 78 (MC ⟨x1, x2, x3, x4, []⟩ (.slice none 0 0)) 38)) := kAll.chg_trans (Chg.set Hd hln _) (by simp)
 have nE : (Hd.set H.n (.cells true false 78 (MC ⟨x1, x2, x3, x4, []⟩ (.slice none 0 0)) 38)).n = Hd.n := rfl
 generalize Hd.set H.n (.cells true false 78 (MC ⟨x1, x2, x3, x4, []⟩ (.slice none 0 0)) 38) = He at *
 refine W_loop2 (fun q fr H2 => ∃ (i : Nat) (w y8 y9 : Value), fr = [.agg Z78.toArray, .agg (SC s).toArray, .agg (SC t).toArray, ptr H.n 0, ptr Ha.n 0, ptr Hb.n 0, ptr Hc.n 0, .int .i64 i, y8, y9] ∧ i ≤ 64 ∧ q = 64 - i ∧ Keeps H H2 ∧ Hd.n ≤ H2.n ∧ H2.get Ha.n = some (.cells true false 68 (SC s) 26) ∧ H2.get Hb.n = some (.cells true false 68 (SC t) 26) ∧ H2.get Hc.n = some (.cells true false 78 Z78 38) ∧
  H2.get H.n = some (.cells true false 78 (MC ⟨x1, x2, x3, x4, []⟩ w) 38) ∧ AP H2 92 2 w (dp s.t t.t i).length (TC (dp s.t t.t i)) ∧ Fresh Hd.n w) 64 ?_ ?_
 ·exact ⟨0, _, _, _, rfl, by omega, by omega, kE, by omega, gs0, gt0, gd0, g0, .inl ⟨rfl, rfl, rfl⟩, fun b hb => by cases hb⟩
 ·rintro Q' q fr H2 ⟨i, w, y8, y9, rfl, h1, rfl, k2, n2, g1, g1b, g2, g3, ap, fw⟩ hnext hexit hret
  by_cases hi : i < 64
  ·have hti : t.t.getD i 0 = t.t[i]'(by omega) := by rw [List.getD_eq_getElem?_getD, List.getElem?_eq_getElem (by omega)]; rfl
   have hsi : s.t.getD i 0 = s.t[i]'(by omega) := by rw [List.getD_eq_getElem?_getD, List.getElem?_eq_getElem (by omega)]; rfl
   have ct : cellA H2 Hb.n (3 + i) = some (tv (t.t.getD i 0)) := by rw [cellA_of g1b, SC_t (by omega), hti]
   have cs : cellA H2 Ha.n (3 + i) = some (tv (s.t.getD i 0)) := by rw [cellA_of g1, SC_t (by omega), hsi]
   have hdp : dp s.t t.t (i + 1) = dp s.t t.t i ++ (if t.t.getD i 0 = s.t.getD i 0 then [] else [((i : Int), t.t.getD i 0)]) := rfl
   have hle := dp_le s.t t.t i
   generalize t.t.getD i 0 = ti at *
   generalize s.t.getD i 0 = si at *
   have lw : ∀ z ∈ blkL w, Hd.n ≤ z ∧ z < H2.n := fun z hz => ⟨fw z (mem_blkL.1 hz), ap.lt (mem_blkL.1 hz)⟩
   change cellA H2 Hb.n (3 + i) = some (.int .u8 ti) at ct
   change cellA H2 Ha.n (3 + i) = some (.int .u8 si) at cs
   by_cases he : ti = si
   ·simp only [W_block, ANs, AOp.map, seval, initFr, ANc, show (i : Int) < 64 by omega, decide_true, sd_iaddrp, a_iaddrp _ _ 64 1 _ i hi, cs, ct, show (si != ti) = false by simp [he], wrap_succ (n := i) (by omega)]
    refine hnext _ _ _ ⟨i + 1, w, _, _, rfl, by omega, rfl, k2, n2, g1, g1b, g2, g3, ?_, fw⟩ (by omega)
    rw [hdp, if_pos he, List.append_nil]; exact ap
   ·have k3 := (Keeps.refl H2).alloc (.cells true false 2 [.int .i64 (i : Int), .int .u8 ti] 92)
    have g4 := AHeap.get_alloc_new H2 (.cells true false 2 [.int .i64 (i : Int), .int .u8 ti] 92)
    obtain ⟨H3, hH3⟩ : ∃ X, X = H2.alloc (.cells true false 2 [.int .i64 (i : Int), .int .u8 ti] 92) := ⟨_, rfl⟩
    have hbsl := bsl 92 (i : Int) ti H2
    rw [← hH3] at k3 g4 hbsl
    have n3 : H3.n = H2.n + 1 := by rw [hH3]; rfl
    simp only [W_block, ANs, AOp.map, seval, initFr, ANc, show (i : Int) < 64 by omega, decide_true, sd_iaddrp, a_iaddrp _ _ 64 1 _ i hi, cs, ct, show (si != ti) = true by simp; exact fun h => he h.symm, cellA_of g3, m77, fl2, hbsl]
    refine appD (ap.keeps k3) ⟨_, _, rfl⟩ (elems_own g4 rfl) rfl (by omega) ?_
    intro w' H4 ap4 c4 hbw
    have n4 := c4.n
    have g1' := c4.at_ (k3.at_ g1) (fun hz => by have := lw _ hz; omega)
    have g1b' := c4.at_ (k3.at_ g1b) (fun hz => by have := lw _ hz; omega)
    have g2' := c4.at_ (k3.at_ g2) (fun hz => by have := lw _ hz; omega)
    have g3' := c4.at_ (k3.at_ g3) (fun hz => by have := lw _ hz; omega)
    have st : asem (.store1 (ptr H.n 77) w') H4 = some (undef, H4.set H.n (.cells true false 78 (MC ⟨x1, x2, x3, x4, []⟩ w') 38)) := by
     rw [a_st g3' (by rw [MC_len]; omega) (by obtain ⟨a, e⟩ := ap4.shape; rw [e]; rfl), MC_set77]
    have d5 := Chg.set H4 (b := H.n) (AHeap.get_lt g3') (.cells true false 78 (MC ⟨x1, x2, x3, x4, []⟩ w') 38)
    simp only [W_block, ANs, AOp.map, seval, initFr, ANc, st, wrap_succ (n := i) (by omega)]
    refine hnext _ _ _ ⟨i + 1, w', _, _, rfl, by omega, rfl, (((k2.trans k3).chg_trans c4 (fun z hz => by have := lw z hz; omega))).chg_trans d5 (by simp), by have := d5.n; omega, d5.at_ g1' (by simp; omega), d5.at_ g1b' (by simp; omega), d5.at_ g2' (by simp; omega), get1 g3' _, ?_, ?_⟩ (by omega)
    ·rw [hdp, if_neg he, TC_app, List.length_append]
     refine AP.chg ap4 d5 (fun z hz => ?_)
     rcases hbw with e | e
     ·have := lw z (by rw [mem_blkL] at hz ⊢; rw [← e]; exact hz)
      simp; omega
     ·rw [mem_blkL, e] at hz; cases hz; simp; omega
    ·intro z hz
     rcases hbw with e | e
     ·rw [e] at hz; exact fw z hz
     ·rw [e] at hz; cases hz; omega
  ·simp only [W_block, ANs, AOp.map, seval, initFr, ANc, show ¬ (i : Int) < 64 by omega, decide_false]
   refine hexit _ _ _ ?_
   have hie : i = 64 := by omega
   subst hie
   obtain ⟨aw, ew⟩ := ap.shape
   have st := stAll g2 rfl (MC_len ⟨x1, x2, x3, x4, []⟩ w) (MC_one _ (by rw [ew]; rfl))
   simp only [W_block, ANs, AOp.map, seval, initFr, ANc, full g3 (MC_len _ w), st]
   have d5 := Chg.set H2 (b := Hc.n) (AHeap.get_lt g2) (.cells true false 78 (MC ⟨x1, x2, x3, x4, []⟩ w) 38)
   refine hq2 _ _ ⟨_, resC1 78 6 (b := Hc.n) rfl (full (get1 g2 _) (MC_len _ w)), k2.chg_trans d5 (by simp; omega), w, (by rw [MC_l x1 x2 x3 x4 (dp s.t t.t 64) w]), TB.of_ap (ap.chg d5 (fun z hz => ?_))⟩
   have := fw z (mem_blkL.1 hz)
   simp; omega
end Go.AM.Rp
