/- Part of the proof. -/
import Derived.Test.YtlmikadohcdclaaGKnown03
set_option linter.unusedSimpArgs false
set_option linter.unusedVariables false
namespace Go.AM.Rp
open Go.Proofs
theorem riseF_app : ∀ (l : List (Int × Int)) (p : Int) (x : Int × Int), riseF p l = true → (∀ y ∈ l, y.1 < x.1) → p < x.1 → x.1 < 64 → riseF p (l ++ [x]) = true
 | [], p, x, _, _, h1, h2 => by simp only [List.nil_append, riseF]; rw [if_neg (by omega)]
 | y :: l, p, x, h, h0, h1, h2 => by
  simp only [riseF] at h
  split at h
  ·cases h
  ·rename_i hc
   simp only [List.cons_append, riseF]
   rw [if_neg hc]
   exact riseF_app l y.1 x h (fun z hz => h0 z (by simp [hz])) (h0 y (by simp)) h2
theorem dp_lt (s t : List Int) : ∀ n, ∀ y ∈ dp s t n, y.1 < (n : Int)
 | 0, y, h => by simp [dp] at h
 | n + 1, y, h => by
  simp only [dp, List.mem_append] at h
  rcases h with h | h
  ·have := dp_lt s t n y h; omega
  ·split at h
   ·simp at h
   ·simp at h; subst h; simp; omega
theorem dp_rise (s t : List Int) : ∀ n, n ≤ 64 → riseF (-1) (dp s t n) = true
 | 0, _ => rfl
 | n + 1, h => by
  have ih := dp_rise s t n (by omega)
  simp only [dp]
  split
  ·rw [List.append_nil]; exact ih
  ·exact riseF_app _ _ _ ih (dp_lt s t n) (by simp; omega) (by simp; omega)
theorem dp_patch (s t : List Int) (hs : s.length = 64) (ht : t.length = 64) : ∀ n, n ≤ 64 → patchT s (dp s t n) = t.take n ++ s.drop n
 | 0, _ => by simp [dp, patchT]
 | n + 1, h => by
  have ih := dp_patch s t hs ht n (by omega)
  have hti : t.getD n 0 = t[n]'(by omega) := by rw [List.getD_eq_getElem?_getD, List.getElem?_eq_getElem (by omega)]; rfl
  have hsi : s.getD n 0 = s[n]'(by omega) := by rw [List.getD_eq_getElem?_getD, List.getElem?_eq_getElem (by omega)]; rfl
  have e1 : t.take (n + 1) = t.take n ++ [t[n]'(by omega)] := List.take_succ_eq_append_getElem (by omega)
  have e2 : s.drop n = s[n]'(by omega) :: s.drop (n + 1) := List.drop_eq_getElem_cons (by omega)
  have e3 : patchT s (dp s t (n + 1)) = patchT (patchT s (dp s t n)) (if t.getD n 0 = s.getD n 0 then [] else [((n : Int), t.getD n 0)]) := by
   simp only [dp, patchT, List.foldl_append]
  rw [e3, ih, hti, hsi]
  split
  ·rename_i hc
   show t.take n ++ s.drop n = _
   rw [e1, e2, hc, List.append_assoc]; rfl
  ·show (t.take n ++ s.drop n).set ((n : Int)).toNat (t[n]'(by omega)) = _
   rw [Int.toNat_natCast, List.set_append_right _ _ (by rw [List.length_take]; omega), List.length_take, Nat.min_eq_left (by omega), Nat.sub_self, e2, List.set_cons_zero, e1, List.append_assoc]
   rfl
theorem patch_diff {s t : S} (hs : s.t.length = 64) (h : SOK t) : patchR s (diffD s t) = (0, t) := by
 have h1 : riseF (-1) (diffD s t).l = true := dp_rise s.t t.t 64 (by omega)
 unfold patchR
 rw [if_pos h1]
 have h2 : patchT s.t (dp s.t t.t 64) = t.t := by
  rw [dp_patch s.t t.t hs h.ht 64 (by omega), List.take_of_length_le (by rw [h.ht]; omega), List.drop_of_length_le (by omega), List.append_nil]
 unfold patchS diffD
 simp only [h2]
 rw [xr_xr 64 s.a t.a h.ha, xr_xr 64 s.b t.b h.hb, xr_xr 64 s.c t.c h.hc, xr_xr 32 s.p t.p h.hp]
def Ints (l : List Value) : Prop := ∀ v ∈ l, ∃ k n, v = .int k n
theorem eqCs_self : ∀ (l : List Value), Ints l → eqCs (List.replicate l.length 1) l l = some true
 | [], _ => rfl
 | v :: l, h => by
  obtain ⟨k, n, rfl⟩ := h v (by simp)
  have := eqCs_self l (fun v hv => h v (by simp [hv]))
  simp [List.replicate, eqCs, eqC, this]
theorem SC_ints (s : S) : Ints (SC s) := by
 intro v hv
 simp only [SC, List.mem_cons, List.mem_append, List.mem_map, List.not_mem_nil, or_false] at hv
 rcases hv with rfl | rfl | rfl | ⟨n, _, rfl⟩ | rfl
 ·exact ⟨_, _, rfl⟩
 ·exact ⟨_, _, rfl⟩
 ·exact ⟨_, _, rfl⟩
 ·exact ⟨_, _, rfl⟩
 ·exact ⟨_, _, rfl⟩
theorem a_eqS {s : S} (h : s.t.length = 64) (H : AHeap) : asem (.eqs O68 false (.agg (SC s).toArray) (.agg (SC s).toArray)) H = some (.bool true, H) := by
 have e := eqCs_self (SC s) (SC_ints s)
 rw [SC_len h] at e
 have e2 : eqCs O68 (SC s) (SC s) = some true := e
 simp only [asem, e2]
 rfl
theorem patchR_len {s : S} (h : s.t.length = 64) (d : D) : (patchR s d).2.t.length = 64 := by
 unfold patchR; split
 ·exact (patchT_len d.l s.t).trans h
 ·rfl
end Go.AM.Rp

namespace Go.AM.Rp
open Go.Proofs
theorem var5 (H : AHeap) (x y z w : Nat) {v : Value} (h : v.oneCell' = true) : asem (.storen 5 (ptr H.n 0) (.agg (D5 x y z w v).toArray)) (H.alloc (.cells true false 5 [.int .u64 0, .int .u64 0, .int .u64 0, .int .u32 0, .slice none 0 0] 29)) = some (undef, H.alloc (.cells true false 5 (D5 x y z w v) 29)) := by
 have := a_var (H := H) (n := 5) (room := false) (esz := 5) (e := 29) (c := [.int .u64 0, .int .u64 0, .int .u64 0, .int .u32 0, .slice none 0 0]) (xs := (D5 x y z w v).toArray) rfl rfl (by simp [D5, one_int, h])
 simpa using this
theorem var68 (H : AHeap) {s : S} (h : s.t.length = 64) : asem (.storen 68 (ptr H.n 0) (.agg (SC s).toArray)) (H.alloc (.cells true false 68 Z68 26)) = some (undef, H.alloc (.cells true false 68 (SC s) 26)) := by
 have := a_var (H := H) (n := 68) (room := false) (esz := 68) (e := 26) (c := Z68) (xs := (SC s).toArray) rfl (by simp [SC_len h]) (by simpa using SC_one s)
 simpa using this
theorem fl78 (x y z w : Nat) (l : List (Int × Int)) (v : Value) : fillA Z78 [(73, 5, .agg (D5 x y z w v).toArray)] = some (MC ⟨x, y, z, w, l⟩ v) := rfl
theorem fl78n : fillA Z78 [] = some Z78 := rfl
theorem z68 : Z68.all Value.oneCell' = true := rfl
theorem D5_one (x y z w : Nat) {v : Value} (h : v.oneCell' = true) : (D5 x y z w v).all Value.oneCell' = true := by simp [D5, one_int, h]
end Go.AM.Rp

set_option maxRecDepth 100000
set_option maxHeartbeats 0
namespace Go.AM.Rp
def O70 : List Nat := List.replicate 70 1
def Z70 : List Value := [(.int .i64 0), (.int .i64 0), (.int .u64 0), (.int .u64 0), (.int .u64 0)] ++ List.replicate 64 (.int .u8 0) ++ [(.int .u32 0)]
def Z71 : List Value := [(.int .i64 0), (.int .i64 0), (.int .u64 0), (.int .u64 0), (.int .u64 0)] ++ List.replicate 64 (.int .u8 0) ++ [(.int .u32 0), (.bool false)]
def f4 : AFunc := ⟨[0, 2, 3, 4, 5, 6, 7, 8, 9, 10, 11, 12, 13, 14, 16, 17, 18, 19, 20, 21, 22, 23, 25, 26, 27, 30, 36, 50, 53, 60, 68, 82, 87, 98, 103, 108, 123, 130, 136, 141, 146, 156, 163, 172, 186, 192, 195, 203, 216],
 .seq (.reg [
 ⟨.mov (.c (.bool false)), .fr 1, none⟩]) <|
 .seq (.seq (.reg [
 ⟨.mov (.fr 0), .tm, none⟩,
 ⟨.len false (.tm 0), .tm, none⟩,
 ⟨.bin .gtr (.tm 0) (.c (.int .i64 300)), .fr 25, none⟩]) <|
 .cond (.fr 25)
 (.seq (.reg [
 ⟨.callf 8 [], .tm, none⟩,
 ⟨.mov (.tm 0), .fr 1, none⟩]) <|
 .ret)
 (.skip)) <|
 .seq (.reg [
 ⟨.new 48 2 [(.slice none 0 0), (.int .i64 0)], .fr 2, none⟩]) <|
 .seq (.reg [
 ⟨.new 51 1 [(.pointer none)], .fr 3, none⟩]) <|
 .seq (.reg [
 ⟨.mov (.c (.slice none 0 0)), .fr 4, none⟩]) <|
 .seq (.reg [
 ⟨.mov (.c (.slice none 0 0)), .fr 5, none⟩,
 ⟨.mov (.c (.slice none 0 0)), .fr 6, none⟩]) <|
 .seq (.reg [
 ⟨.build Z70 [(0, 1, (.c (.int .i64 1)))], .tm, none⟩,
 ⟨.new 54 70 Z70, .fr 7, none⟩,
 ⟨.storen 70 (.fr 7) (.tm 0), .no, none⟩]) <|
 .seq (.reg [
 ⟨.mov (.c (.int .i64 (-1))), .fr 8, none⟩]) <|
 .seq (.seq (.reg [
 ⟨.mov (.c (.int .i64 0)), .fr 9, none⟩]) <|
 .block 0 (.loop (.seq (.seq (.reg [
 ⟨.mov (.fr 9), .tm, none⟩,
 ⟨.mov (.fr 0), .tm, none⟩,
 ⟨.len false (.tm 0), .tm, none⟩,
 ⟨.bin .lss (.tm 2) (.tm 0), .fr 26, none⟩]) <|
 .cond (.fr 26)
 (.skip)
 (.exit 0)) <|
 .seq (.block 1 (.seq (.reg [
 ⟨.mov (.fr 0), .tm, none⟩,
 ⟨.mov (.fr 9), .tm, none⟩,
 ⟨.iaddr 70 (.tm 1) (.tm 0), .tm, none⟩,
 ⟨.faddr 1 (.tm 0), .tm, none⟩,
 ⟨.load1 (.tm 0), .tm, none⟩,
 ⟨.i2i .i64 (.tm 0), .tm, none⟩,
 ⟨.mov (.tm 0), .fr 10, none⟩]) <|
 .seq (.seq (.reg [
 ⟨.mov (.fr 0), .tm, none⟩,
 ⟨.mov (.fr 9), .tm, none⟩,
 ⟨.iaddr 70 (.tm 1) (.tm 0), .tm, none⟩,
 ⟨.faddr 0 (.tm 0), .tm, none⟩,
 ⟨.load1 (.tm 0), .tm, none⟩,
 ⟨.bin .rem (.tm 0) (.c (.int .u8 8)), .fr 27, none⟩]) <|
 .block 2 (.seq (.seq (.reg [
 ⟨.bin .eql (.fr 27) (.c (.int .u8 0)), .tm, none⟩,
 ⟨.mov (.tm 0), .fr 29, none⟩]) <|
 .cond (.fr 29)
 (.skip)
 (.reg [
 ⟨.bin .eql (.fr 27) (.c (.int .u8 1)), .tm, none⟩,
 ⟨.mov (.tm 0), .fr 29, none⟩])) <|
 .cond (.fr 29)
 (.seq (.reg [
 ⟨.faddr 1 (.fr 7), .tm, none⟩,
 ⟨.load1 (.tm 0), .tm, none⟩,
 ⟨.bin .add (.tm 0) (.c (.int .i64 1)), .tm, none⟩,
 ⟨.faddr 1 (.fr 7), .tm, none⟩,
 ⟨.store1 (.tm 0) (.tm 1), .no, none⟩]) <|
 .seq (.seq (.reg [
 ⟨.mov (.fr 10), .tm, none⟩,
 ⟨.bin .eql (.tm 0) (.c (.int .i64 0)), .fr 30, none⟩]) <|
 .cond (.fr 30)
 (.seq (.reg [
 ⟨.faddr 0 (.fr 7), .tm, none⟩,
 ⟨.load1 (.tm 0), .tm, none⟩,
 ⟨.bin .add (.tm 0) (.c (.int .i64 1)), .tm, none⟩,
 ⟨.faddr 0 (.fr 7), .tm, none⟩,
 ⟨.store1 (.tm 0) (.tm 1), .no, none⟩]) <|
 .reg [
 ⟨.faddr 1 (.fr 7), .tm, none⟩,
 ⟨.store1 (.tm 0) (.c (.int .i64 0)), .no, none⟩])
 (.skip)) <|
 .seq (.reg [
 ⟨.mov (.fr 0), .tm, none⟩,
 ⟨.mov (.fr 9), .tm, none⟩,
 ⟨.iaddr 70 (.tm 1) (.tm 0), .tm, none⟩,
 ⟨.faddr 2 (.tm 0), .tm, none⟩,
 ⟨.loadn 68 (.tm 0), .tm, none⟩,
 ⟨.faddr 2 (.fr 7), .tm, none⟩,
 ⟨.storen 68 (.tm 0) (.tm 1), .no, none⟩]) <|
 .seq (.seq (.reg [
 ⟨.loadn 70 (.fr 7), .tm, none⟩,
 ⟨.callf 15 [(.fr 2), (.tm 0)], .tm, none⟩,
 ⟨.bin .neq (.tm 0) (.c (.int .i64 0)), .fr 31, none⟩]) <|
 .cond (.fr 31)
 (.seq (.reg [
 ⟨.mov (.c (.bool false)), .fr 1, none⟩]) <|
 .ret)
 (.skip)) <|
 .reg [
 ⟨.mov (.fr 4), .tm, none⟩,
 ⟨.loadn 70 (.fr 7), .tm, none⟩,
 ⟨.bslice 54 70 1 Z70 [(0, 70, (.tm 0))], .tm, none⟩,
 ⟨.app 54 70 112 (.tm 2) (.tm 0), .tm, none⟩,
 ⟨.mov (.tm 0), .fr 4, none⟩])
 (.seq (.reg [
 ⟨.bin .eql (.fr 27) (.c (.int .u8 2)), .tm, none⟩,
 ⟨.mov (.tm 0), .fr 32, none⟩]) <|
 .cond (.fr 32)
 (.seq (.reg [
 ⟨.callf 16 [(.fr 2)], .tm, none⟩,
 ⟨.mov (.tm 0), .tm, none⟩,
 ⟨.extract (.tm 0) 0, .tm, none⟩,
 ⟨.extract (.tm 1) 1, .tm, none⟩,
 ⟨.new 41 78 Z78, .fr 11, none⟩,
 ⟨.storen 78 (.fr 11) (.tm 1), .no, none⟩,
 ⟨.mov (.tm 0), .fr 12, none⟩]) <|
 .seq (.reg [
 ⟨.mov (.fr 12), .tm, none⟩,
 ⟨.mov (.tm 0), .tm, none⟩,
 ⟨.mov (.fr 5), .tm, some ((.tm 0), true)⟩,
 ⟨.len false (.tm 0), .tm, some ((.tm 1), true)⟩,
 ⟨.bin .lss (.tm 0) (.c (.int .i64 50)), .tm, some ((.tm 2), true)⟩,
 ⟨.pick (.tm 3) (.tm 0) (.c (.bool false)), .fr 33, none⟩]) <|
 .cond (.fr 33)
 (.reg [
 ⟨.mov (.fr 5), .tm, none⟩,
 ⟨.loadn 78 (.fr 11), .tm, none⟩,
 ⟨.bslice 41 78 1 Z78 [(0, 78, (.tm 0))], .tm, none⟩,
 ⟨.app 41 78 192 (.tm 2) (.tm 0), .tm, none⟩,
 ⟨.mov (.tm 0), .fr 5, none⟩])
 (.skip))
 (.seq (.seq (.reg [
 ⟨.bin .eql (.fr 27) (.c (.int .u8 3)), .tm, none⟩,
 ⟨.mov (.tm 0), .fr 34, none⟩]) <|
 .cond (.fr 34)
 (.skip)
 (.reg [
 ⟨.bin .eql (.fr 27) (.c (.int .u8 4)), .tm, none⟩,
 ⟨.mov (.tm 0), .fr 34, none⟩])) <|
 .cond (.fr 34)
 (.seq (.seq (.reg [
 ⟨.mov (.fr 5), .tm, none⟩,
 ⟨.len false (.tm 0), .tm, none⟩,
 ⟨.bin .eql (.tm 0) (.c (.int .i64 0)), .fr 35, none⟩]) <|
 .cond (.fr 35)
 (.exit 1)
 (.skip)) <|
 .seq (.reg [
 ⟨.mov (.fr 10), .tm, none⟩,
 ⟨.mov (.fr 5), .tm, none⟩,
 ⟨.len false (.tm 0), .tm, none⟩,
 ⟨.bin .rem (.tm 2) (.tm 0), .tm, none⟩,
 ⟨.mov (.tm 0), .fr 10, none⟩]) <|
 .seq (.reg [
 ⟨.mov (.fr 5), .tm, none⟩,
 ⟨.mov (.fr 10), .tm, none⟩,
 ⟨.iaddr 78 (.tm 1) (.tm 0), .tm, none⟩,
 ⟨.loadn 78 (.tm 0), .tm, none⟩,
 ⟨.callf 17 [(.fr 3), (.tm 0)], .tm, none⟩,
 ⟨.mov (.tm 0), .tm, none⟩,
 ⟨.extract (.tm 0) 0, .tm, none⟩,
 ⟨.extract (.tm 1) 1, .tm, none⟩,
 ⟨.extract (.tm 2) 2, .tm, none⟩,
 ⟨.new 41 78 Z78, .fr 13, none⟩,
 ⟨.storen 78 (.fr 13) (.tm 2), .no, none⟩,
 ⟨.mov (.tm 1), .tm, none⟩,
 ⟨.mov (.tm 1), .fr 14, none⟩]) <|
 .seq (.seq (.reg [
 ⟨.mov (.fr 14), .tm, none⟩,
 ⟨.bin .neq (.tm 0) (.c (.int .i64 0)), .fr 36, none⟩]) <|
 .cond (.fr 36)
 (.seq (.reg [
 ⟨.mov (.c (.bool false)), .fr 1, none⟩]) <|
 .ret)
 (.skip)) <|
 .seq (.seq (.reg [
 ⟨.mov (.fr 0), .tm, none⟩,
 ⟨.mov (.fr 9), .tm, none⟩,
 ⟨.iaddr 70 (.tm 1) (.tm 0), .tm, none⟩,
 ⟨.faddr 0 (.tm 0), .tm, none⟩,
 ⟨.load1 (.tm 0), .tm, none⟩,
 ⟨.bin .rem (.tm 0) (.c (.int .u8 8)), .tm, none⟩,
 ⟨.bin .eql (.tm 0) (.c (.int .u8 3)), .fr 37, none⟩]) <|
 .cond (.fr 37)
 (.reg [
 ⟨.mov (.fr 5), .tm, none⟩,
 ⟨.mov (.fr 10), .tm, none⟩,
 ⟨.callf 18 [(.tm 1), (.tm 0)], .tm, none⟩,
 ⟨.mov (.tm 0), .fr 5, none⟩])
 (.skip)) <|
 .seq (.reg [
 ⟨.mov (.fr 6), .tm, none⟩,
 ⟨.len false (.tm 0), .tm, none⟩,
 ⟨.bin .lss (.tm 0) (.c (.int .i64 50)), .fr 38, none⟩]) <|
 .cond (.fr 38)
 (.reg [
 ⟨.mov (.fr 6), .tm, none⟩,
 ⟨.loadn 78 (.fr 13), .tm, none⟩,
 ⟨.bslice 41 78 1 Z78 [(0, 78, (.tm 0))], .tm, none⟩,
 ⟨.app 41 78 192 (.tm 2) (.tm 0), .tm, none⟩,
 ⟨.mov (.tm 0), .fr 6, none⟩])
 (.skip))
 (.seq (.seq (.reg [
 ⟨.bin .eql (.fr 27) (.c (.int .u8 5)), .tm, none⟩,
 ⟨.mov (.tm 0), .fr 39, none⟩]) <|
 .cond (.fr 39)
 (.skip)
 (.reg [
 ⟨.bin .eql (.fr 27) (.c (.int .u8 6)), .tm, none⟩,
 ⟨.mov (.tm 0), .fr 39, none⟩])) <|
 .cond (.fr 39)
 (.seq (.seq (.reg [
 ⟨.mov (.fr 6), .tm, none⟩,
 ⟨.len false (.tm 0), .tm, none⟩,
 ⟨.bin .eql (.tm 0) (.c (.int .i64 0)), .fr 40, none⟩]) <|
 .cond (.fr 40)
 (.exit 1)
 (.skip)) <|
 .seq (.reg [
 ⟨.mov (.fr 10), .tm, none⟩,
 ⟨.mov (.fr 6), .tm, none⟩,
 ⟨.len false (.tm 0), .tm, none⟩,
 ⟨.bin .rem (.tm 2) (.tm 0), .tm, none⟩,
 ⟨.mov (.tm 0), .fr 10, none⟩]) <|
 .seq (.seq (.reg [
 ⟨.mov (.fr 6), .tm, none⟩,
 ⟨.mov (.fr 10), .tm, none⟩,
 ⟨.iaddr 78 (.tm 1) (.tm 0), .tm, none⟩,
 ⟨.loadn 78 (.tm 0), .tm, none⟩,
 ⟨.callf 19 [(.fr 2), (.tm 0)], .tm, none⟩,
 ⟨.bin .neq (.tm 0) (.c (.int .i64 0)), .fr 41, none⟩]) <|
 .cond (.fr 41)
 (.seq (.reg [
 ⟨.mov (.c (.bool false)), .fr 1, none⟩]) <|
 .ret)
 (.skip)) <|
 .seq (.reg [
 ⟨.mov (.fr 0), .tm, none⟩,
 ⟨.mov (.fr 9), .tm, none⟩,
 ⟨.iaddr 70 (.tm 1) (.tm 0), .tm, none⟩,
 ⟨.faddr 0 (.tm 0), .tm, none⟩,
 ⟨.load1 (.tm 0), .tm, none⟩,
 ⟨.bin .rem (.tm 0) (.c (.int .u8 8)), .tm, none⟩,
 ⟨.bin .eql (.tm 0) (.c (.int .u8 5)), .fr 42, none⟩]) <|
 .cond (.fr 42)
 (.reg [
 ⟨.mov (.fr 6), .tm, none⟩,
 ⟨.mov (.fr 10), .tm, none⟩,
 ⟨.callf 18 [(.tm 1), (.tm 0)], .tm, none⟩,
 ⟨.mov (.tm 0), .fr 6, none⟩])
 (.skip))
 (.seq (.reg [
 ⟨.mov (.fr 5), .tm, none⟩,
 ⟨.len false (.tm 0), .tm, none⟩,
 ⟨.bin .gtr (.tm 0) (.c (.int .i64 0)), .fr 28, none⟩]) <|
 .cond (.fr 28)
 (.reg [
 ⟨.mov (.fr 5), .tm, none⟩,
 ⟨.mov (.fr 10), .tm, none⟩,
 ⟨.mov (.fr 5), .tm, none⟩,
 ⟨.len false (.tm 0), .tm, none⟩,
 ⟨.bin .rem (.tm 2) (.tm 0), .tm, none⟩,
 ⟨.callf 18 [(.tm 4), (.tm 0)], .tm, none⟩,
 ⟨.mov (.tm 0), .fr 5, none⟩])
 (.skip))))))) <|
 .seq (.reg [
 ⟨.callf 20 [(.fr 3)], .tm, none⟩,
 ⟨.mov (.tm 0), .tm, none⟩,
 ⟨.extract (.tm 0) 0, .tm, none⟩,
 ⟨.extract (.tm 1) 1, .tm, none⟩,
 ⟨.new 54 70 Z70, .fr 15, none⟩,
 ⟨.storen 70 (.fr 15) (.tm 1), .no, none⟩,
 ⟨.mov (.tm 0), .fr 16, none⟩]) <|
 .seq (.seq (.reg [
 ⟨.mov (.fr 16), .tm, none⟩,
 ⟨.un .not (.tm 0), .fr 43, none⟩]) <|
 .cond (.fr 43)
 (.exit 1)
 (.skip)) <|
 .seq (.reg [
 ⟨.mov (.fr 8), .tm, none⟩,
 ⟨.mm true (.c (.int .i64 0)) (.tm 0), .tm, none⟩,
 ⟨.mov (.tm 0), .fr 17, none⟩]) <|
 .seq (.block 3 (.loop (.seq (.seq (.dreg [
 (⟨.mov (.fr 17), .tm, none⟩, []),
 (⟨.mov (.fr 4), .tm, none⟩, []),
 (⟨.len false (.tm 0), .tm, none⟩, []),
 (⟨.bin .lss (.tm 2) (.tm 0), .tm, none⟩, []),
 (⟨.mov (.tm 0), .tm, none⟩, []),
 (⟨.mov (.fr 4), .tm, some ((.tm 0), true)⟩, []),
 (⟨.mov (.fr 17), .tm, some ((.tm 1), true)⟩, []),
 (⟨.iaddr 70 (.tm 1) (.tm 0), .tm, some ((.tm 2), true)⟩, []),
 (⟨.loadn 70 (.tm 0), .tm, some ((.tm 3), true)⟩, []),
 (⟨.loadn 70 (.fr 15), .tm, some ((.tm 4), true)⟩, []),
 (⟨.eqs O70 true (.tm 1) (.tm 0), .tm, some ((.tm 5), true)⟩, []),
 (⟨.pick (.tm 6) (.tm 0) (.c (.bool false)), .fr 44, none⟩, [])]) <|
 .cond (.fr 44)
 (.skip)
 (.exit 3)) <|
 .block 4 (.reg [
 ⟨.mov (.fr 17), .tm, none⟩,
 ⟨.bin .add (.tm 0) (.c (.int .i64 1)), .tm, none⟩,
 ⟨.mov (.tm 0), .fr 17, none⟩])))) <|
 .seq (.seq (.reg [
 ⟨.mov (.fr 17), .tm, none⟩,
 ⟨.mov (.fr 4), .tm, none⟩,
 ⟨.len false (.tm 0), .tm, none⟩,
 ⟨.bin .eql (.tm 2) (.tm 0), .fr 45, none⟩]) <|
 .cond (.fr 45)
 (.seq (.reg [
 ⟨.mov (.c (.bool false)), .fr 1, none⟩]) <|
 .ret)
 (.skip)) <|
 .reg [
 ⟨.mov (.fr 17), .tm, none⟩,
 ⟨.mov (.tm 0), .fr 8, none⟩])) <|
 .reg [
 ⟨.mov (.fr 9), .tm, none⟩,
 ⟨.bin .add (.tm 0) (.c (.int .i64 1)), .tm, none⟩,
 ⟨.mov (.tm 0), .fr 9, none⟩]))) <|
 .seq (.seq (.reg [
 ⟨.mov (.c (.int .i64 0)), .fr 18, none⟩]) <|
 .block 5 (.loop (.seq (.seq (.reg [
 ⟨.mov (.fr 18), .tm, none⟩,
 ⟨.bin .lss (.tm 0) (.c (.int .i64 2)), .fr 46, none⟩]) <|
 .cond (.fr 46)
 (.skip)
 (.exit 5)) <|
 .seq (.block 6 (.seq (.reg [
 ⟨.callf 16 [(.fr 2)], .tm, none⟩,
 ⟨.mov (.tm 0), .tm, none⟩,
 ⟨.extract (.tm 0) 0, .tm, none⟩,
 ⟨.extract (.tm 1) 1, .tm, none⟩,
 ⟨.new 41 78 Z78, .fr 19, none⟩,
 ⟨.storen 78 (.fr 19) (.tm 1), .no, none⟩,
 ⟨.mov (.tm 0), .fr 20, none⟩]) <|
 .seq (.seq (.reg [
 ⟨.mov (.fr 20), .tm, none⟩,
 ⟨.un .not (.tm 0), .fr 47, none⟩]) <|
 .cond (.fr 47)
 (.exit 5)
 (.skip)) <|
 .seq (.reg [
 ⟨.loadn 78 (.fr 19), .tm, none⟩,
 ⟨.callf 17 [(.fr 3), (.tm 0)], .tm, none⟩,
 ⟨.mov (.tm 0), .tm, none⟩,
 ⟨.extract (.tm 0) 0, .tm, none⟩,
 ⟨.extract (.tm 1) 1, .tm, none⟩,
 ⟨.extract (.tm 2) 2, .tm, none⟩,
 ⟨.new 41 78 Z78, .fr 21, none⟩,
 ⟨.storen 78 (.fr 21) (.tm 2), .no, none⟩,
 ⟨.mov (.tm 1), .tm, none⟩,
 ⟨.mov (.tm 1), .fr 22, none⟩]) <|
 .seq (.reg [
 ⟨.mov (.fr 22), .tm, none⟩,
 ⟨.bin .neq (.tm 0) (.c (.int .i64 0)), .tm, none⟩,
 ⟨.mov (.tm 0), .tm, none⟩,
 ⟨.loadn 78 (.fr 21), .tm, some ((.tm 0), false)⟩,
 ⟨.callf 19 [(.fr 2), (.tm 0)], .tm, some ((.tm 1), false)⟩,
 ⟨.bin .neq (.tm 0) (.c (.int .i64 0)), .tm, some ((.tm 2), false)⟩,
 ⟨.pick (.tm 3) (.c (.bool true)) (.tm 0), .fr 48, none⟩]) <|
 .cond (.fr 48)
 (.seq (.reg [
 ⟨.mov (.c (.bool false)), .fr 1, none⟩]) <|
 .ret)
 (.skip))) <|
 .reg [
 ⟨.mov (.fr 18), .tm, none⟩,
 ⟨.bin .add (.tm 0) (.c (.int .i64 1)), .tm, none⟩,
 ⟨.mov (.tm 0), .fr 18, none⟩]))) <|
 .seq (.reg [
 ⟨.callf 20 [(.fr 3)], .tm, none⟩,
 ⟨.mov (.tm 0), .tm, none⟩,
 ⟨.extract (.tm 0) 0, .tm, none⟩,
 ⟨.extract (.tm 1) 1, .tm, none⟩,
 ⟨.new 54 70 Z70, .fr 23, none⟩,
 ⟨.storen 70 (.fr 23) (.tm 1), .no, none⟩,
 ⟨.mov (.tm 0), .fr 24, none⟩]) <|
 .seq (.dreg [
 (⟨.mov (.fr 24), .tm, none⟩, []),
 (⟨.mov (.fr 4), .tm, none⟩, []),
 (⟨.len false (.tm 0), .tm, none⟩, []),
 (⟨.bin .gtr (.tm 0) (.c (.int .i64 0)), .tm, none⟩, []),
 (⟨.eqv 0 false (.tm 3) (.tm 0), .tm, none⟩, []),
 (⟨.mov (.tm 0), .tm, none⟩, []),
 (⟨.mov (.fr 24), .tm, some ((.tm 0), true)⟩, []),
 (⟨.un .not (.tm 0), .tm, some ((.tm 1), true)⟩, []),
 (⟨.mov (.tm 0), .tm, some ((.tm 2), true)⟩, []),
 (⟨.loadn 70 (.fr 23), .tm, some ((.tm 0), false)⟩, []),
 (⟨.mov (.fr 4), .tm, some ((.tm 1), false)⟩, []),
 (⟨.mov (.fr 4), .tm, some ((.tm 2), false)⟩, []),
 (⟨.len false (.tm 0), .tm, some ((.tm 3), false)⟩, []),
 (⟨.bin .sub (.tm 0) (.c (.int .i64 1)), .tm, some ((.tm 4), false)⟩, []),
 (⟨.iaddr 70 (.tm 3) (.tm 0), .tm, some ((.tm 5), false)⟩, []),
 (⟨.loadn 70 (.tm 0), .tm, some ((.tm 6), false)⟩, []),
 (⟨.eqs O70 false (.tm 6) (.tm 0), .tm, some ((.tm 7), false)⟩, []),
 (⟨.pick (.tm 8) (.c (.bool true)) (.tm 0), .tm, some ((.tm 11), true)⟩, []),
 (⟨.pick (.tm 12) (.tm 0) (.c (.bool false)), .tm, none⟩, []),
 (⟨.mov (.tm 0), .tm, none⟩, []),
 (⟨.callf 8 [], .tm, some ((.tm 0), true)⟩, []),
 (⟨.pick (.tm 1) (.tm 0) (.c (.bool false)), .tm, none⟩, []),
 (⟨.mov (.tm 0), .fr 1, none⟩, [])]) <|
 .ret, [.t 1]⟩
def zclRpM : TypeId → List Value
 | 48 => [(.slice none 0 0), (.int .i64 0)]
 | 51 => [(.pointer none)]
 | 74 => Z71
 | 41 => Z78
 | 54 => Z70
 | 99 => [(.slice none 0 0), (.int .i64 0)]
 | 38 => Z78
 | 72 => Z70
 | 26 => Z68
 | 90 => [(.int .i64 0), (.int .u8 0)]
 | _ => []
def zvlRpM : TypeId → Value
 | _ => undef
def zklRpM : TypeId → List Nat
 | 72 => O70
 | _ => []
def zrlRpM : Nat → TypeId → List Value
 | 2, 2 => [(.int .i64 0), (.int .i64 0)]
 | 1, 54 => Z70
 | 2, 3 => [(.int .i64 0), (.int .i64 0)]
 | 4, 2 => [(.int .i64 0), (.int .i64 0), (.int .i64 0), (.int .i64 0)]
 | 1, 72 => Z70
 | 0, 72 => []
 | _, _ => []
noncomputable def f5 : AFunc := by
 refine (fun (_ : Cz zclRpM zvlRpM zklRpM zrlRpM Go.Proofs.Try.prog 0 [0, 2, 3, 4, 5, 6, 7, 10, 18, 34] 5 ?a) => ?a) ?h
 case h => intro zc zv zk zr hc hv hk hr; conv => lhs; cbv; try simp only [hc, hv, hk, hr, zclRpM, zvlRpM, zklRpM, zrlRpM]
noncomputable def f15 : AFunc := by
 refine (fun (_ : Cz zclRpM zvlRpM zklRpM zrlRpM Go.Proofs.Try.prog 0 [0, 1, 3, 4, 5, 8, 56] 15 ?a) => ?a) ?h
 case h => intro zc zv zk zr hc hv hk hr; conv => lhs; cbv; try simp only [hc, hv, hk, hr, zclRpM, zvlRpM, zklRpM, zrlRpM]
noncomputable def f16 : AFunc := by
 refine (fun (_ : Cz zclRpM zvlRpM zklRpM zrlRpM Go.Proofs.Try.prog 0 [0, 2, 3, 4, 5, 6, 20, 39] 16 ?a) => ?a) ?h
 case h => intro zc zv zk zr hc hv hk hr; conv => lhs; cbv; try simp only [hc, hv, hk, hr, zclRpM, zvlRpM, zklRpM, zrlRpM]
noncomputable def f17 : AFunc := by
 refine (fun (_ : Cz zclRpM zvlRpM zklRpM zrlRpM Go.Proofs.Try.prog 0 [0, 1, 3, 4, 5, 6, 7, 8, 9, 13, 49, 81, 85] 17 ?a) => ?a) ?h
 case h => intro zc zv zk zr hc hv hk hr; conv => lhs; cbv; try simp only [hc, hv, hk, hr, zclRpM, zvlRpM, zklRpM, zrlRpM]
noncomputable def f18 : AFunc := by
 refine (fun (_ : Cz zclRpM zvlRpM zklRpM zrlRpM Go.Proofs.Try.prog 0 [0, 1, 4, 5] 18 ?a) => ?a) ?h
 case h => intro zc zv zk zr hc hv hk hr; conv => lhs; cbv; try simp only [hc, hv, hk, hr, zclRpM, zvlRpM, zklRpM, zrlRpM]
noncomputable def f19 : AFunc := by
 refine (fun (_ : Cz zclRpM zvlRpM zklRpM zrlRpM Go.Proofs.Try.prog 0 [0, 1, 3, 4, 5, 6, 7, 10, 19, 39] 19 ?a) => ?a) ?h
 case h => intro zc zv zk zr hc hv hk hr; conv => lhs; cbv; try simp only [hc, hv, hk, hr, zclRpM, zvlRpM, zklRpM, zrlRpM]
noncomputable def f20 : AFunc := by
 refine (fun (_ : Cz zclRpM zvlRpM zklRpM zrlRpM Go.Proofs.Try.prog 0 [0, 2, 3, 12] 20 ?a) => ?a) ?h
 case h => intro zc zv zk zr hc hv hk hr; conv => lhs; cbv; try simp only [hc, hv, hk, hr, zclRpM, zvlRpM, zklRpM, zrlRpM]
noncomputable def f21 : AFunc := by
 refine (fun (_ : Cz zclRpM zvlRpM zklRpM zrlRpM Go.Proofs.Try.prog 0 [0, 2, 3, 4, 7, 11, 24] 21 ?a) => ?a) ?h
 case h => intro zc zv zk zr hc hv hk hr; conv => lhs; cbv; try simp only [hc, hv, hk, hr, zclRpM, zvlRpM, zklRpM, zrlRpM]
noncomputable def f22 : AFunc := by
 refine (fun (_ : Cz zclRpM zvlRpM zklRpM zrlRpM Go.Proofs.Try.prog 0 [0] 22 ?a) => ?a) ?h
 case h => intro zc zv zk zr hc hv hk hr; conv => lhs; cbv; try simp only [hc, hv, hk, hr, zclRpM, zvlRpM, zklRpM, zrlRpM]
noncomputable def f23 : AFunc := by
 refine (fun (_ : Cz zclRpM zvlRpM zklRpM zrlRpM Go.Proofs.Try.prog 0 [0, 1, 2, 3, 4, 9, 10, 11, 12, 13, 14, 15, 16, 17, 18, 19, 20, 21, 22, 23, 24, 25, 26, 29, 30, 43, 55, 89, 120, 127, 165] 23 ?a) => ?a) ?h
 case h => intro zc zv zk zr hc hv hk hr; conv => lhs; cbv; try simp only [hc, hv, hk, hr, zclRpM, zvlRpM, zklRpM, zrlRpM]
noncomputable def f24 : AFunc := by
 refine (fun (_ : Cz zclRpM zvlRpM zklRpM zrlRpM Go.Proofs.Try.prog 0 [0, 1, 2, 3, 8, 9, 10, 11, 12, 13, 28] 24 ?a) => ?a) ?h
 case h => intro zc zv zk zr hc hv hk hr; conv => lhs; cbv; try simp only [hc, hv, hk, hr, zclRpM, zvlRpM, zklRpM, zrlRpM]
noncomputable def f29 : AFunc := by
 refine (fun (_ : Cz zclRpM zvlRpM zklRpM zrlRpM Go.Proofs.Try.prog 0 [0, 2, 3, 12] 29 ?a) => ?a) ?h
 case h => intro zc zv zk zr hc hv hk hr; conv => lhs; cbv; try simp only [hc, hv, hk, hr, zclRpM, zvlRpM, zklRpM, zrlRpM]
noncomputable def f30 : AFunc := by
 refine (fun (_ : Cz zclRpM zvlRpM zklRpM zrlRpM Go.Proofs.Try.prog 0 [0, 1, 3, 4, 5, 8] 30 ?a) => ?a) ?h
 case h => intro zc zv zk zr hc hv hk hr; conv => lhs; cbv; try simp only [hc, hv, hk, hr, zclRpM, zvlRpM, zklRpM, zrlRpM]
noncomputable def f33 : AFunc := by
 refine (fun (_ : Cz zclRpM zvlRpM zklRpM zrlRpM Go.Proofs.Try.prog 0 [0, 2] 33 ?a) => ?a) ?h
 case h => intro zc zv zk zr hc hv hk hr; conv => lhs; cbv; try simp only [hc, hv, hk, hr, zclRpM, zvlRpM, zklRpM, zrlRpM]
noncomputable def f34 : AFunc := by
 refine (fun (_ : Cz zclRpM zvlRpM zklRpM zrlRpM Go.Proofs.Try.prog 0 [0, 1, 2, 3, 4] 34 ?a) => ?a) ?h
 case h => intro zc zv zk zr hc hv hk hr; conv => lhs; cbv; try simp only [hc, hv, hk, hr, zclRpM, zvlRpM, zklRpM, zrlRpM]
noncomputable def f35 : AFunc := by
 refine (fun (_ : Cz zclRpM zvlRpM zklRpM zrlRpM Go.Proofs.Try.prog 0 [0, 1, 2] 35 ?a) => ?a) ?h
 case h => intro zc zv zk zr hc hv hk hr; conv => lhs; cbv; try simp only [hc, hv, hk, hr, zclRpM, zvlRpM, zklRpM, zrlRpM]
noncomputable def f36 : AFunc := by
 refine (fun (_ : Cz zclRpM zvlRpM zklRpM zrlRpM Go.Proofs.Try.prog 0 [0, 1, 2, 4, 6, 7, 8, 9, 10, 11, 17, 31] 36 ?a) => ?a) ?h
 case h => intro zc zv zk zr hc hv hk hr; conv => lhs; cbv; try simp only [hc, hv, hk, hr, zclRpM, zvlRpM, zklRpM, zrlRpM]
noncomputable def f37 : AFunc := by
 refine (fun (_ : Cz zclRpM zvlRpM zklRpM zrlRpM Go.Proofs.Try.prog 0 [0, 1, 3, 4, 39, 55] 37 ?a) => ?a) ?h
 case h => intro zc zv zk zr hc hv hk hr; conv => lhs; cbv; try simp only [hc, hv, hk, hr, zclRpM, zvlRpM, zklRpM, zrlRpM]
noncomputable def f38 : AFunc := by
 refine (fun (_ : Cz zclRpM zvlRpM zklRpM zrlRpM Go.Proofs.Try.prog 0 [0, 1, 2] 38 ?a) => ?a) ?h
 case h => intro zc zv zk zr hc hv hk hr; conv => lhs; cbv; try simp only [hc, hv, hk, hr, zclRpM, zvlRpM, zklRpM, zrlRpM]
noncomputable def f39 : AFunc := by
 refine (fun (_ : Cz zclRpM zvlRpM zklRpM zrlRpM Go.Proofs.Try.prog 0 [0, 1, 3, 4, 5, 13, 16, 26, 60] 39 ?a) => ?a) ?h
 case h => intro zc zv zk zr hc hv hk hr; conv => lhs; cbv; try simp only [hc, hv, hk, hr, zclRpM, zvlRpM, zklRpM, zrlRpM]
noncomputable def f40 : AFunc := by
 refine (fun (_ : Cz zclRpM zvlRpM zklRpM zrlRpM Go.Proofs.Try.prog 0 [0, 1, 3, 4, 5, 6, 7, 8, 17, 38, 43, 68] 40 ?a) => ?a) ?h
 case h => intro zc zv zk zr hc hv hk hr; conv => lhs; cbv; try simp only [hc, hv, hk, hr, zclRpM, zvlRpM, zklRpM, zrlRpM]
noncomputable def f41 : AFunc := by
 refine (fun (_ : Cz zclRpM zvlRpM zklRpM zrlRpM Go.Proofs.Try.prog 0 [0, 1, 3, 4, 14] 41 ?a) => ?a) ?h
 case h => intro zc zv zk zr hc hv hk hr; conv => lhs; cbv; try simp only [hc, hv, hk, hr, zclRpM, zvlRpM, zklRpM, zrlRpM]
noncomputable def f42 : AFunc := by
 refine (fun (_ : Cz zclRpM zvlRpM zklRpM zrlRpM Go.Proofs.Try.prog 0 [0, 2, 3, 4, 5, 6, 22, 36] 42 ?a) => ?a) ?h
 case h => intro zc zv zk zr hc hv hk hr; conv => lhs; cbv; try simp only [hc, hv, hk, hr, zclRpM, zvlRpM, zklRpM, zrlRpM]
noncomputable def f43 : AFunc := by
 refine (fun (_ : Cz zclRpM zvlRpM zklRpM zrlRpM Go.Proofs.Try.prog 0 [0, 1, 2, 3, 10] 43 ?a) => ?a) ?h
 case h => intro zc zv zk zr hc hv hk hr; conv => lhs; cbv; try simp only [hc, hv, hk, hr, zclRpM, zvlRpM, zklRpM, zrlRpM]
noncomputable def f61 : AFunc := by
 refine (fun (_ : Cz zclRpM zvlRpM zklRpM zrlRpM Go.Proofs.Try.prog 0 [0, 1, 2] 61 ?a) => ?a) ?h
 case h => intro zc zv zk zr hc hv hk hr; conv => lhs; cbv; try simp only [hc, hv, hk, hr, zclRpM, zvlRpM, zklRpM, zrlRpM]
noncomputable def f64 : AFunc := by
 refine (fun (_ : Cz zclRpM zvlRpM zklRpM zrlRpM Go.Proofs.Try.prog 0 [0, 2, 3, 4, 7, 15] 64 ?a) => ?a) ?h
 case h => intro zc zv zk zr hc hv hk hr; conv => lhs; cbv; try simp only [hc, hv, hk, hr, zclRpM, zvlRpM, zklRpM, zrlRpM]
noncomputable def f65 : AFunc := by
 refine (fun (_ : Cz zclRpM zvlRpM zklRpM zrlRpM Go.Proofs.Try.prog 0 [0, 2, 3, 4, 7, 15] 65 ?a) => ?a) ?h
 case h => intro zc zv zk zr hc hv hk hr; conv => lhs; cbv; try simp only [hc, hv, hk, hr, zclRpM, zvlRpM, zklRpM, zrlRpM]
noncomputable def f66 : AFunc := by
 refine (fun (_ : Cz zclRpM zvlRpM zklRpM zrlRpM Go.Proofs.Try.prog 0 [0, 2, 3, 5, 6, 7, 8, 9, 14] 66 ?a) => ?a) ?h
 case h => intro zc zv zk zr hc hv hk hr; conv => lhs; cbv; try simp only [hc, hv, hk, hr, zclRpM, zvlRpM, zklRpM, zrlRpM]
noncomputable def f67 : AFunc := by
 refine (fun (_ : Cz zclRpM zvlRpM zklRpM zrlRpM Go.Proofs.Try.prog 0 [0, 1, 4, 5, 6, 11, 12, 13, 16, 19] 67 ?a) => ?a) ?h
 case h => intro zc zv zk zr hc hv hk hr; conv => lhs; cbv; try simp only [hc, hv, hk, hr, zclRpM, zvlRpM, zklRpM, zrlRpM]
noncomputable def f68 : AFunc := by
 refine (fun (_ : Cz zclRpM zvlRpM zklRpM zrlRpM Go.Proofs.Try.prog 0 [0, 2] 68 ?a) => ?a) ?h
 case h => intro zc zv zk zr hc hv hk hr; conv => lhs; cbv; try simp only [hc, hv, hk, hr, zclRpM, zvlRpM, zklRpM, zrlRpM]
noncomputable def f69 : AFunc := by
 refine (fun (_ : Cz zclRpM zvlRpM zklRpM zrlRpM Go.Proofs.Try.prog 0 [0, 1, 2, 3, 4] 69 ?a) => ?a) ?h
 case h => intro zc zv zk zr hc hv hk hr; conv => lhs; cbv; try simp only [hc, hv, hk, hr, zclRpM, zvlRpM, zklRpM, zrlRpM]
noncomputable def f70 : AFunc := by
 refine (fun (_ : Cz zclRpM zvlRpM zklRpM zrlRpM Go.Proofs.Try.prog 0 [0, 2] 70 ?a) => ?a) ?h
 case h => intro zc zv zk zr hc hv hk hr; conv => lhs; cbv; try simp only [hc, hv, hk, hr, zclRpM, zvlRpM, zklRpM, zrlRpM]
noncomputable def f85 : AFunc := by
 refine (fun (_ : Cz zclRpM zvlRpM zklRpM zrlRpM Go.Proofs.Try.prog 0 [0, 2] 85 ?a) => ?a) ?h
 case h => intro zc zv zk zr hc hv hk hr; conv => lhs; cbv; try simp only [hc, hv, hk, hr, zclRpM, zvlRpM, zklRpM, zrlRpM]
theorem f4_ok : compF Go.Proofs.Try.prog 0 [0, 2, 3, 4, 5, 6, 7, 8, 9, 10, 11, 12, 13, 14, 16, 17, 18, 19, 20, 21, 22, 23, 25, 26, 27, 30, 36, 50, 53, 60, 68, 82, 87, 98, 103, 108, 123, 130, 136, 141, 146, 156, 163, 172, 186, 192, 195, 203, 216] 4 = some f4 := by kernel_rfl
theorem f4_n : argsOK Go.Proofs.Try.prog 4 1 = true := by kernel_rfl
theorem f5_ok : compF Go.Proofs.Try.prog 0 [0, 2, 3, 4, 5, 6, 7, 10, 18, 34] 5 = some f5 := by kernel_rfl
theorem f5_n : argsOK Go.Proofs.Try.prog 5 1 = true := by kernel_rfl
theorem f15_ok : compF Go.Proofs.Try.prog 0 [0, 1, 3, 4, 5, 8, 56] 15 = some f15 := by kernel_rfl
theorem f15_n : argsOK Go.Proofs.Try.prog 15 2 = true := by kernel_rfl
theorem f16_ok : compF Go.Proofs.Try.prog 0 [0, 2, 3, 4, 5, 6, 20, 39] 16 = some f16 := by kernel_rfl
theorem f16_n : argsOK Go.Proofs.Try.prog 16 1 = true := by kernel_rfl
theorem f17_ok : compF Go.Proofs.Try.prog 0 [0, 1, 3, 4, 5, 6, 7, 8, 9, 13, 49, 81, 85] 17 = some f17 := by kernel_rfl
theorem f17_n : argsOK Go.Proofs.Try.prog 17 2 = true := by kernel_rfl
theorem f18_ok : compF Go.Proofs.Try.prog 0 [0, 1, 4, 5] 18 = some f18 := by kernel_rfl
theorem f18_n : argsOK Go.Proofs.Try.prog 18 2 = true := by kernel_rfl
theorem f19_ok : compF Go.Proofs.Try.prog 0 [0, 1, 3, 4, 5, 6, 7, 10, 19, 39] 19 = some f19 := by kernel_rfl
theorem f19_n : argsOK Go.Proofs.Try.prog 19 2 = true := by kernel_rfl
theorem f20_ok : compF Go.Proofs.Try.prog 0 [0, 2, 3, 12] 20 = some f20 := by kernel_rfl
theorem f20_n : argsOK Go.Proofs.Try.prog 20 1 = true := by kernel_rfl
theorem f21_ok : compF Go.Proofs.Try.prog 0 [0, 2, 3, 4, 7, 11, 24] 21 = some f21 := by kernel_rfl
theorem f21_n : argsOK Go.Proofs.Try.prog 21 1 = true := by kernel_rfl
theorem f22_ok : compF Go.Proofs.Try.prog 0 [0] 22 = some f22 := by kernel_rfl
theorem f22_n : argsOK Go.Proofs.Try.prog 22 0 = true := by kernel_rfl
theorem f23_ok : compF Go.Proofs.Try.prog 0 [0, 1, 2, 3, 4, 9, 10, 11, 12, 13, 14, 15, 16, 17, 18, 19, 20, 21, 22, 23, 24, 25, 26, 29, 30, 43, 55, 89, 120, 127, 165] 23 = some f23 := by kernel_rfl
theorem f23_n : argsOK Go.Proofs.Try.prog 23 5 = true := by kernel_rfl
theorem f24_ok : compF Go.Proofs.Try.prog 0 [0, 1, 2, 3, 8, 9, 10, 11, 12, 13, 28] 24 = some f24 := by kernel_rfl
theorem f24_n : argsOK Go.Proofs.Try.prog 24 4 = true := by kernel_rfl
theorem f29_ok : compF Go.Proofs.Try.prog 0 [0, 2, 3, 12] 29 = some f29 := by kernel_rfl
theorem f29_n : argsOK Go.Proofs.Try.prog 29 1 = true := by kernel_rfl
theorem f30_ok : compF Go.Proofs.Try.prog 0 [0, 1, 3, 4, 5, 8] 30 = some f30 := by kernel_rfl
theorem f30_n : argsOK Go.Proofs.Try.prog 30 2 = true := by kernel_rfl
theorem f33_ok : compF Go.Proofs.Try.prog 0 [0, 2] 33 = some f33 := by kernel_rfl
theorem f33_n : argsOK Go.Proofs.Try.prog 33 1 = true := by kernel_rfl
theorem f34_ok : compF Go.Proofs.Try.prog 0 [0, 1, 2, 3, 4] 34 = some f34 := by kernel_rfl
theorem f34_n : argsOK Go.Proofs.Try.prog 34 2 = true := by kernel_rfl
theorem f35_ok : compF Go.Proofs.Try.prog 0 [0, 1, 2] 35 = some f35 := by kernel_rfl
theorem f35_n : argsOK Go.Proofs.Try.prog 35 1 = true := by kernel_rfl
theorem f36_ok : compF Go.Proofs.Try.prog 0 [0, 1, 2, 4, 6, 7, 8, 9, 10, 11, 17, 31] 36 = some f36 := by kernel_rfl
theorem f36_n : argsOK Go.Proofs.Try.prog 36 3 = true := by kernel_rfl
theorem f37_ok : compF Go.Proofs.Try.prog 0 [0, 1, 3, 4, 39, 55] 37 = some f37 := by kernel_rfl
theorem f37_n : argsOK Go.Proofs.Try.prog 37 2 = true := by kernel_rfl
theorem f38_ok : compF Go.Proofs.Try.prog 0 [0, 1, 2] 38 = some f38 := by kernel_rfl
theorem f38_n : argsOK Go.Proofs.Try.prog 38 1 = true := by kernel_rfl
theorem f39_ok : compF Go.Proofs.Try.prog 0 [0, 1, 3, 4, 5, 13, 16, 26, 60] 39 = some f39 := by kernel_rfl
theorem f39_n : argsOK Go.Proofs.Try.prog 39 2 = true := by kernel_rfl
theorem f40_ok : compF Go.Proofs.Try.prog 0 [0, 1, 3, 4, 5, 6, 7, 8, 17, 38, 43, 68] 40 = some f40 := by kernel_rfl
theorem f40_n : argsOK Go.Proofs.Try.prog 40 2 = true := by kernel_rfl
theorem f41_ok : compF Go.Proofs.Try.prog 0 [0, 1, 3, 4, 14] 41 = some f41 := by kernel_rfl
theorem f41_n : argsOK Go.Proofs.Try.prog 41 2 = true := by kernel_rfl
theorem f42_ok : compF Go.Proofs.Try.prog 0 [0, 2, 3, 4, 5, 6, 22, 36] 42 = some f42 := by kernel_rfl
theorem f42_n : argsOK Go.Proofs.Try.prog 42 1 = true := by kernel_rfl
theorem f43_ok : compF Go.Proofs.Try.prog 0 [0, 1, 2, 3, 10] 43 = some f43 := by kernel_rfl
theorem f43_n : argsOK Go.Proofs.Try.prog 43 1 = true := by kernel_rfl
theorem f61_ok : compF Go.Proofs.Try.prog 0 [0, 1, 2] 61 = some f61 := by kernel_rfl
theorem f61_n : argsOK Go.Proofs.Try.prog 61 1 = true := by kernel_rfl
theorem f64_ok : compF Go.Proofs.Try.prog 0 [0, 2, 3, 4, 7, 15] 64 = some f64 := by kernel_rfl
theorem f64_n : argsOK Go.Proofs.Try.prog 64 1 = true := by kernel_rfl
theorem f65_ok : compF Go.Proofs.Try.prog 0 [0, 2, 3, 4, 7, 15] 65 = some f65 := by kernel_rfl
theorem f65_n : argsOK Go.Proofs.Try.prog 65 1 = true := by kernel_rfl
theorem f66_ok : compF Go.Proofs.Try.prog 0 [0, 2, 3, 5, 6, 7, 8, 9, 14] 66 = some f66 := by kernel_rfl
theorem f66_n : argsOK Go.Proofs.Try.prog 66 1 = true := by kernel_rfl
theorem f67_ok : compF Go.Proofs.Try.prog 0 [0, 1, 4, 5, 6, 11, 12, 13, 16, 19] 67 = some f67 := by kernel_rfl
theorem f67_n : argsOK Go.Proofs.Try.prog 67 2 = true := by kernel_rfl
theorem f68_ok : compF Go.Proofs.Try.prog 0 [0, 2] 68 = some f68 := by kernel_rfl
theorem f68_n : argsOK Go.Proofs.Try.prog 68 1 = true := by kernel_rfl
theorem f69_ok : compF Go.Proofs.Try.prog 0 [0, 1, 2, 3, 4] 69 = some f69 := by kernel_rfl
theorem f69_n : argsOK Go.Proofs.Try.prog 69 2 = true := by kernel_rfl
theorem f70_ok : compF Go.Proofs.Try.prog 0 [0, 2] 70 = some f70 := by kernel_rfl
theorem f70_n : argsOK Go.Proofs.Try.prog 70 1 = true := by kernel_rfl
theorem f85_ok : compF Go.Proofs.Try.prog 0 [0, 2] 85 = some f85 := by kernel_rfl
theorem f85_n : argsOK Go.Proofs.Try.prog 85 1 = true := by kernel_rfl
end Go.AM.Rp

namespace Go.AM.Rp
open Go.Proofs
theorem t85 (H : AHeap) (n : Int) : ARun Try.prog 0 85 [.int .i64 n] H (.bool false) H := by
 suffices q : ∃ v H', ARun Try.prog 0 85 [.int .i64 n] H v H' ∧ v = .bool false ∧ H' = H by
  obtain ⟨v, H', q, rfl, rfl⟩ := q; exact q
 refine walk2 f85_ok f85_n ?_
 intro Q hq1 hq2
 simp only [f85, W_block, ANs, AOp.map, seval, initFr, ANc, bne_self_eq_false]
 exact hq2 _ _ ⟨_, rfl, rfl, rfl⟩
def cmpI (a b : Int) : Int := if a < b then -1 else if b < a then 1 else 0
theorem t67 (H : AHeap) (a b : Int) : ARun Try.prog 0 67 [.int .i64 a, .int .i64 b] H (.int .i64 (cmpI a b)) H := by
 suffices q : ∃ v H', ARun Try.prog 0 67 [.int .i64 a, .int .i64 b] H v H' ∧ v = .int .i64 (cmpI a b) ∧ H' = H by
  obtain ⟨v, H', q, rfl, rfl⟩ := q; exact q
 refine walk2 f67_ok f67_n ?_
 intro Q hq1 hq2
 simp only [f67, W_block, ANs, AOp.map, seval, initFr, ANc]
 refine ⟨_, _, t85 _ _, ?_⟩
 simp only [W_block, ANs, AOp.map, seval, initFr, ANc]
 refine ⟨_, _, t85 _ _, ?_⟩
 unfold cmpI at hq2
 by_cases h1 : a < b
 ·simp only [h1, if_true] at hq2
  simp only [W_block, ANs, AOp.map, seval, initFr, ANc, h1, decide_true]
  exact hq2 _ _ ⟨_, rfl, rfl, rfl⟩
 by_cases h2 : b < a
 ·simp only [h1, h2, if_true, if_false] at hq2
  simp only [W_block, ANs, AOp.map, seval, initFr, ANc, h1, h2, decide_true, decide_false]
  exact hq2 _ _ ⟨_, rfl, rfl, rfl⟩
 simp only [h1, h2, if_false] at hq2
 simp only [W_block, ANs, AOp.map, seval, initFr, ANc, h1, h2, decide_false]
 exact hq2 _ _ ⟨_, rfl, rfl, rfl⟩
def IL (H : AHeap) (v : Value) (l : List Int) : Prop := ∃ b k, v = slc b 0 l.length k ∧ ∀ (i : Nat) (h : i < l.length), cellA H b i = some (.int .i64 l[i])
theorem t66 {H : AHeap} {v : Value} {a b : Int} (h : IL H v [a, b]) : ARun Try.prog 0 66 [v] H (.int .i64 (if a ≠ 0 then a else b)) H := by
 suffices q : ∃ r H', ARun Try.prog 0 66 [v] H r H' ∧ r = .int .i64 (if a ≠ 0 then a else b) ∧ H' = H by
  obtain ⟨r, H', q, rfl, rfl⟩ := q; exact q
 refine walk2 f66_ok f66_n ?_
 intro Q hq1 hq2
 obtain ⟨bb, k, rfl, h1⟩ := h
 have c0 : cellA H bb 0 = some (.int .i64 a) := h1 0 (by simp)
 have c1 : cellA H bb 1 = some (.int .i64 b) := h1 1 (by simp)
 simp only [f66, W_block, ANs, AOp.map, seval, initFr, ANc, List.length_cons, List.length_nil]
 refine W_loop2 (fun q fr H2 => ∃ (i : Nat) (y3 y7 y8 : Value), fr = [slc bb 0 2 k, .int .i64 0, .int .i64 0, y3, slc bb 0 2 k, .int .i64 ((2 : Nat) : Int), .int .i64 i, y7, y8] ∧ i ≤ 2 ∧ q = 2 - i ∧ H2 = H ∧ (0 < i → a = 0) ∧ (1 < i → b = 0)) 2 ?_ ?_
 ·exact ⟨0, _, _, _, rfl, by omega, rfl, rfl, by omega, by omega⟩
 ·rintro Q' q fr H2 ⟨i, y3, y7, y8, rfl, i1, rfl, rfl, z0, z1⟩ hnext hexit hret
  have c : i = 0 ∨ i = 1 ∨ i = 2 := by omega
  rcases c with rfl | rfl | rfl
  ·by_cases ha : a = 0
   ·simp only [W_block, ANs, AOp.map, seval, initFr, ANc, show ((0 : Nat) : Int) < ((2 : Nat) : Int) by omega, decide_true, show (0 : Int) ≤ ((0 : Nat) : Int) by omega, c0, show (a != 0) = false by simp [ha], wrap_succ (n := 0) (by omega)]
    exact hnext _ _ _ ⟨1, _, _, _, rfl, by omega, rfl, rfl, fun _ => ha, by omega⟩ (by omega)
   ·simp only [ne_eq, ha, not_false_eq_true, if_true] at hq2
    simp only [W_block, ANs, AOp.map, seval, initFr, ANc, show ((0 : Nat) : Int) < ((2 : Nat) : Int) by omega, decide_true, show (0 : Int) ≤ ((0 : Nat) : Int) by omega, c0, show (a != 0) = true by simp [ha]]
    exact hret _ _ (hq2 _ _ ⟨_, rfl, rfl, rfl⟩)
  ·have ha := z0 (by omega)
   by_cases hb : b = 0
   ·simp only [W_block, ANs, AOp.map, seval, initFr, ANc, show ((1 : Nat) : Int) < ((2 : Nat) : Int) by omega, decide_true, show (0 : Int) ≤ ((1 : Nat) : Int) by omega, c1, show (b != 0) = false by simp [hb], wrap_succ (n := 1) (by omega)]
    exact hnext _ _ _ ⟨2, _, _, _, rfl, by omega, rfl, rfl, fun _ => ha, fun _ => hb⟩ (by omega)
   ·simp only [ne_eq, ha, not_true_eq_false, if_false] at hq2
    simp only [W_block, ANs, AOp.map, seval, initFr, ANc, show ((1 : Nat) : Int) < ((2 : Nat) : Int) by omega, decide_true, show (0 : Int) ≤ ((1 : Nat) : Int) by omega, c1, show (b != 0) = true by simp [hb]]
    exact hret _ _ (hq2 _ _ ⟨_, rfl, rfl, rfl⟩)
  ·have ha := z0 (by omega)
   have hb := z1 (by omega)
   simp only [W_block, ANs, AOp.map, seval, initFr, ANc, show ¬ ((2 : Nat) : Int) < ((2 : Nat) : Int) by omega, decide_false]
   refine hexit _ _ _ ?_
   simp only [W_block, ANs, AOp.map, seval, initFr, ANc]
   simp only [ne_eq, ha, not_true_eq_false, if_false, hb] at hq2
   exact hq2 _ _ ⟨_, rfl, rfl, rfl⟩
end Go.AM.Rp

namespace Go.AM.Rp
open Go.Proofs
section
variable {P : Program} {ng : Nat} {fr tm : List Value} {H : AHeap} {KF : List Value → AHeap → Prop}
theorem st_mm {d : Go.AM.D} {r : List AOper} (m : Bool) (x y : Value) : stR P ng (.mm m x y) d r fr tm H KF = goR P ng (asem (.mm m x y) H) d r fr tm KF := st_of d r (by simp) (by simp)
end
theorem a_mmx (a b : Int) (H : AHeap) : asem (.mm true (.int .i64 a) (.int .i64 b)) H = some (.int .i64 (if b > a then b else a), H) := by simp [asem]
theorem a_mmn (a b : Int) (H : AHeap) : asem (.mm false (.int .i64 a) (.int .i64 b)) H = some (.int .i64 (if b < a then b else a), H) := by simp [asem]
def mn : List Int → Int
 | [] => 0
 | x :: l => l.foldl (fun a b => if b < a then b else a) x
def mx : List Int → Int
 | [] => 0
 | x :: l => l.foldl (fun a b => if b > a then b else a) x
theorem t64 {H : AHeap} {v : Value} {x : Int} {l : List Int} (h : IL H v (x :: l)) (hl : l.length ≤ 1000) : ARun Try.prog 0 64 [v] H (.int .i64 (mn (x :: l))) H := by
 suffices q : ∃ r H', ARun Try.prog 0 64 [v] H r H' ∧ r = .int .i64 (mn (x :: l)) ∧ H' = H by
  obtain ⟨r, H', q, rfl, rfl⟩ := q; exact q
 refine walk2 f64_ok f64_n ?_
 intro Q hq1 hq2
 obtain ⟨bb, k, rfl, h1⟩ := h
 have c0 : cellA H bb 0 = some (.int .i64 x) := h1 0 (by simp)
 have hn : (x :: l).length = l.length + 1 := rfl
 simp only [f64, W_block, ANs, AOp.map, seval, initFr, ANc, show ¬ (((l.length + 1 : Nat)) : Int) < 1 by omega, decide_false, show (0 : Int) < ((l.length + 1 : Nat) : Int) by omega, show (0 : Int) ≤ 0 by omega, c0, show Int.toNat 0 = 0 from rfl]
 refine W_loop2 (fun q fr H2 => ∃ (i : Nat) (y4 y5 : Value), fr = [slc bb 0 (l.length + 1) k, .int .i64 0, .int .i64 ((l.take i).foldl (fun a b => if b < a then b else a) x), .int .i64 ((i + 1 : Nat) : Int), y4, y5] ∧ i ≤ l.length ∧ q = l.length - i ∧ H2 = H) l.length ?_ ?_
 ·exact ⟨0, _, _, rfl, by omega, by omega, rfl⟩
 ·rintro Q' q fr H2 ⟨i, y4, y5, rfl, i1, rfl, rfl⟩ hnext hexit hret
  by_cases hi : i < l.length
  ·have ci : cellA H2 bb (i + 1) = some (.int .i64 l[i]) := h1 (i + 1) (by simp; omega)
   simp only [W_block, ANs, AOp.map, seval, initFr, ANc, show ((i + 1 : Nat) : Int) < ((l.length + 1 : Nat) : Int) by omega, decide_true, show (0 : Int) ≤ ((i + 1 : Nat) : Int) by omega, ci, st_mm, a_mmn, wrap_succ (n := i + 1) (by omega)]
   have ef : (l.take (i + 1)).foldl (fun a b => if b < a then b else a) x = if l[i] < (l.take i).foldl (fun a b => if b < a then b else a) x then l[i] else (l.take i).foldl (fun a b => if b < a then b else a) x := by rw [List.take_succ_eq_append_getElem hi, List.foldl_append]; rfl
   rw [← ef]
   exact hnext _ _ _ ⟨i + 1, _, _, rfl, by omega, rfl, rfl⟩ (by omega)
  ·simp only [W_block, ANs, AOp.map, seval, initFr, ANc, show ¬ ((i + 1 : Nat) : Int) < ((l.length + 1 : Nat) : Int) by omega, decide_false]
   refine hexit _ _ _ ?_
   simp only [W_block, ANs, AOp.map, seval, initFr, ANc]
   exact hq2 _ _ ⟨_, rfl, by rw [List.take_of_length_le (by omega)]; rfl, rfl⟩
theorem t65 {H : AHeap} {v : Value} {x : Int} {l : List Int} (h : IL H v (x :: l)) (hl : l.length ≤ 1000) : ARun Try.prog 0 65 [v] H (.int .i64 (mx (x :: l))) H := by
 suffices q : ∃ r H', ARun Try.prog 0 65 [v] H r H' ∧ r = .int .i64 (mx (x :: l)) ∧ H' = H by
  obtain ⟨r, H', q, rfl, rfl⟩ := q; exact q
 refine walk2 f65_ok f65_n ?_
 intro Q hq1 hq2
 obtain ⟨bb, k, rfl, h1⟩ := h
 have c0 : cellA H bb 0 = some (.int .i64 x) := h1 0 (by simp)
 simp only [f65, W_block, ANs, AOp.map, seval, initFr, ANc, show ¬ (((l.length + 1 : Nat)) : Int) < 1 by omega, decide_false, show (0 : Int) < ((l.length + 1 : Nat) : Int) by omega, show (0 : Int) ≤ 0 by omega, c0, show Int.toNat 0 = 0 from rfl]
 refine W_loop2 (fun q fr H2 => ∃ (i : Nat) (y4 y5 : Value), fr = [slc bb 0 (l.length + 1) k, .int .i64 0, .int .i64 ((l.take i).foldl (fun a b => if b > a then b else a) x), .int .i64 ((i + 1 : Nat) : Int), y4, y5] ∧ i ≤ l.length ∧ q = l.length - i ∧ H2 = H) l.length ?_ ?_
 ·exact ⟨0, _, _, rfl, by omega, by omega, rfl⟩
 ·rintro Q' q fr H2 ⟨i, y4, y5, rfl, i1, rfl, rfl⟩ hnext hexit hret
  by_cases hi : i < l.length
  ·have ci : cellA H2 bb (i + 1) = some (.int .i64 l[i]) := h1 (i + 1) (by simp; omega)
   simp only [W_block, ANs, AOp.map, seval, initFr, ANc, show ((i + 1 : Nat) : Int) < ((l.length + 1 : Nat) : Int) by omega, decide_true, show (0 : Int) ≤ ((i + 1 : Nat) : Int) by omega, ci, st_mm, a_mmx, wrap_succ (n := i + 1) (by omega)]
   have ef : (l.take (i + 1)).foldl (fun a b => if b > a then b else a) x = if l[i] > (l.take i).foldl (fun a b => if b > a then b else a) x then l[i] else (l.take i).foldl (fun a b => if b > a then b else a) x := by rw [List.take_succ_eq_append_getElem hi, List.foldl_append]; rfl
   rw [← ef]
   exact hnext _ _ _ ⟨i + 1, _, _, rfl, by omega, rfl, rfl⟩ (by omega)
  ·simp only [W_block, ANs, AOp.map, seval, initFr, ANc, show ¬ ((i + 1 : Nat) : Int) < ((l.length + 1 : Nat) : Int) by omega, decide_false]
   refine hexit _ _ _ ?_
   simp only [W_block, ANs, AOp.map, seval, initFr, ANc]
   exact hq2 _ _ ⟨_, rfl, by rw [List.take_of_length_le (by omega)]; rfl, rfl⟩
def inB (l : List Int) : Bool := decide (0 ≤ mn l) && decide (mx l ≤ 1099511627776)
theorem t33 {H : AHeap} {v : Value} {x : Int} {l : List Int} (h : IL H v (x :: l)) (hl : l.length ≤ 1000) : ARun Try.prog 0 33 [v] H (.bool (inB (x :: l))) H := by
 suffices q : ∃ r H', ARun Try.prog 0 33 [v] H r H' ∧ r = .bool (inB (x :: l)) ∧ H' = H by
  obtain ⟨r, H', q, rfl, rfl⟩ := q; exact q
 refine walk2 f33_ok f33_n ?_
 intro Q hq1 hq2
 simp only [f33, W_block, ANs, AOp.map, seval, initFr, ANc]
 refine ⟨_, _, t64 h hl, ?_⟩
 unfold inB at hq2
 by_cases h1 : 0 ≤ mn (x :: l)
 ·simp only [h1, decide_true, Bool.true_and] at hq2
  simp only [W_block, ANs, AOp.map, seval, initFr, ANc, h1, decide_true]
  refine ⟨_, _, t65 h hl, ?_⟩
  simp only [W_block, ANs, AOp.map, seval, initFr, ANc]
  exact hq2 _ _ ⟨_, rfl, rfl, rfl⟩
 ·simp only [h1, decide_false, Bool.false_and] at hq2
  simp only [W_block, ANs, AOp.map, seval, initFr, ANc, bi_u, h1, decide_false]
  exact hq2 _ _ ⟨_, rfl, rfl, rfl⟩
end Go.AM.Rp

namespace Go.AM.Rp
open Go.Proofs
structure Lg where
 e : Int
 c : Int
 s : S
def LC (x : Lg) : List Value := .int .i64 x.e :: .int .i64 x.c :: SC x.s
theorem LC_len {x : Lg} (h : x.s.t.length = 64) : (LC x).length = 70 := by simp [LC, SC_len h]
theorem LC_one (x : Lg) : (LC x).all Value.oneCell' = true := by
 simp only [LC, List.all_cons, SC_one, one_int]; rfl
def cmpL (x y : Lg) : Int := if cmpI x.e y.e ≠ 0 then cmpI x.e y.e else cmpI x.c y.c
theorem bsl2 (e : Nat) (a b : Int) (H : AHeap) : asem (.bslice e 1 2 [.int .i64 0, .int .i64 0] [(0, 1, .int .i64 a), (1, 1, .int .i64 b)]) H = some (slc H.n 0 2 2, H.alloc (.cells true false 1 [.int .i64 a, .int .i64 b] e)) := rfl
theorem il2 (e : Nat) (a b : Int) (H : AHeap) : IL (H.alloc (.cells true false 1 [.int .i64 a, .int .i64 b] e)) (slc H.n 0 2 2) [a, b] := by
 refine ⟨_, _, rfl, fun i h => ?_⟩
 rw [cellA_of (AHeap.get_alloc_new H _)]
 have c : i = 0 ∨ i = 1 := by simp at h; omega
 rcases c with rfl | rfl <;> rfl
theorem t34 {H : AHeap} (x y : Lg) : ∃ r H', ARun Try.prog 0 34 [.agg (LC x).toArray, .agg (LC y).toArray] H r H' ∧ r = .int .i64 (cmpL x y) ∧ Keeps H H' := by
 refine walk2 f34_ok f34_n ?_
 intro Q hq1 hq2
 have hc1 : (Value.agg (LC x).toArray).cells.toList = LC x := by simp [Value.cells]
 have hc2 : (Value.agg (LC y).toArray).cells.toList = LC y := by simp [Value.cells]
 obtain ⟨Ha, hHa⟩ : ∃ X, X = H.alloc (.cells true false 70 (LC x) 54) := ⟨_, rfl⟩
 have ka := (Keeps.refl H).alloc (.cells true false 70 (LC x) 54)
 have ga := AHeap.get_alloc_new H (.cells true false 70 (LC x) 54)
 rw [← hHa] at ka ga
 obtain ⟨Hb, hHb⟩ : ∃ X, X = Ha.alloc (.cells true false 70 (LC y) 54) := ⟨_, rfl⟩
 have kb := (Keeps.refl Ha).alloc (.cells true false 70 (LC y) 54)
 have gb := AHeap.get_alloc_new Ha (.cells true false 70 (LC y) 54)
 rw [← hHb] at kb gb
 have ga := kb.at_ ga
 have x0 : cellA Hb H.n 0 = some (.int .i64 x.e) := by rw [cellA_of ga]; rfl
 have x1 : cellA Hb H.n 1 = some (.int .i64 x.c) := by rw [cellA_of ga]; rfl
 have y0 : cellA Hb Ha.n 0 = some (.int .i64 y.e) := by rw [cellA_of gb]; rfl
 have y1 : cellA Hb Ha.n 1 = some (.int .i64 y.c) := by rw [cellA_of gb]; rfl
 have la := AHeap.get_lt ga
 have lb := AHeap.get_lt gb
 simp only [f34, W_block, ANs, AOp.map, seval, initFr, ANc, hc1, hc2, LC_one, ← hHa, ← hHb, x0, y0]
 refine ⟨_, _, t67 _ _ _, trivial, ?_⟩
 simp only [W_block, ANs, AOp.map, seval, initFr, ANc, x1, y1]
 refine ⟨by simp [oblA, clsA, touchA, readsA, ptr, keepsB, olderB, AOp.map, la], by simp [oblA, clsA, touchA, readsA, ptr, keepsB, olderB, AOp.map, lb], ?_⟩
 refine ⟨_, _, t67 _ _ _, trivial, ?_⟩
 simp only [W_block, ANs, AOp.map, seval, initFr, ANc, bsl2]
 refine ⟨_, _, t66 (il2 3 (cmpI x.e y.e) (cmpI x.c y.c) Hb), trivial, ?_⟩
 simp only [W_block, ANs, AOp.map, seval, initFr, ANc]
 exact hq2 _ _ ⟨_, rfl, rfl, (ka.trans kb).trans ((Keeps.refl Hb).alloc _)⟩
end Go.AM.Rp

namespace Go.AM.Rp
open Go.Proofs
theorem z70 : Z70.all Value.oneCell' = true := rfl
def L0 : Lg := ⟨0, 0, S0⟩
theorem Z70_eq : Z70 = LC L0 := rfl
theorem fl70 : fillA Z70 [] = some Z70 := rfl
theorem var70 (H : AHeap) {x : Lg} (h : x.s.t.length = 64) : asem (.storen 70 (ptr H.n 0) (.agg (LC x).toArray)) (H.alloc (.cells true false 70 Z70 54)) = some (undef, H.alloc (.cells true false 70 (LC x) 54)) := by
 have := a_var (H := H) (n := 70) (room := false) (esz := 70) (e := 54) (c := Z70) (xs := (LC x).toArray) rfl (by simp [LC_len h]) (by simpa using LC_one x)
 simpa using this
def RvS (H : AHeap) (r : Nat) (x : Option Lg) : Prop :=
 match x with
 | none => H.get r = some (.cells true false 1 [.pointer none] 51)
 | some x => ∃ b, H.get r = some (.cells true false 1 [ptr b 0] 51) ∧ H.get b = some (.cells true false 70 (LC x) 54) ∧ b ≠ r
theorem resCn1 (n j : Nat) {fr : List Value} {H : AHeap} {b : Nat} {cs : List Value} (h1 : fr.getD 1 undef = ptr b 0) (h2 : rangeA H b 0 n = some cs) : resO [.cn n 1, .t j] fr H = some (.tuple #[.agg cs.toArray, fr.getD j undef]) := resCn n j 1 h1 h2
theorem t20 {H : AHeap} {r : Nat} {x : Option Lg} (h : RvS H r x) (hx : ∀ y, x = some y → y.s.t.length = 64) : ∃ v H', ARun Try.prog 0 20 [ptr r 0] H v H' ∧ v = .tuple #[.agg (LC (x.getD L0)).toArray, .bool x.isSome] ∧ Keeps H H' := by
 refine walk2 f20_ok f20_n ?_
 intro Q hq1 hq2
 obtain ⟨Ha, hHa⟩ : ∃ X, X = H.alloc (.cells true false 70 Z70 54) := ⟨_, rfl⟩
 have ka := (Keeps.refl H).alloc (.cells true false 70 Z70 54)
 have ga := AHeap.get_alloc_new H (.cells true false 70 Z70 54)
 rw [← hHa] at ka ga
 cases x with
 | none =>
  have g := ka.at_ (show H.get r = _ from h)
  have c0 : cellA Ha r 0 = some (.pointer none) := by rw [cellA_of g]; rfl
  have st := stAll ga rfl (show Z70.length = 70 from rfl) z70
  simp only [f20, W_block, ANs, AOp.map, seval, initFr, ANc, z70, ← hHa, c0, fl70, st]
  exact hq2 _ _ ⟨_, resCn1 70 2 (b := H.n) (cs := Z70) rfl (full (get1 ga _) rfl), rfl, ka.chg_trans (Chg.set Ha (AHeap.get_lt ga) _) (by simp)⟩
 | some x =>
  obtain ⟨b, h1, h2, h3⟩ := h
  have hl := hx x rfl
  have g1 := ka.at_ h1
  have g2 := ka.at_ h2
  have c0 : cellA Ha r 0 = some (ptr b 0) := by rw [cellA_of g1]; rfl
  have st := stAll ga rfl (LC_len hl) (LC_one x)
  simp only [f20, W_block, ANs, AOp.map, seval, initFr, ANc, z70, ← hHa, c0, full g2 (LC_len hl), st]
  exact hq2 _ _ ⟨_, resCn1 70 2 (b := H.n) rfl (full (get1 ga _) (LC_len hl)), rfl, ka.chg_trans (Chg.set Ha (AHeap.get_lt ga) _) (by simp)⟩
structure Msg where
 k : Nat
 e : Int
 c : Int
 be : Int
 b : Int
 s : S
 d : D
def GC (m : Msg) (v : Value) : List Value := .int .u8 m.k :: .int .i64 m.e :: .int .i64 m.c :: .int .i64 m.be :: .int .i64 m.b :: (SC m.s ++ D5 m.d.a m.d.b m.d.c m.d.p v)
theorem GC_len {m : Msg} (h : m.s.t.length = 64) (v : Value) : (GC m v).length = 78 := by simp [GC, SC_len h, D5]
theorem GC_one (m : Msg) {v : Value} (h : v.oneCell' = true) : (GC m v).all Value.oneCell' = true := by
 simp only [GC, List.all_cons, List.all_append, SC_one, D5_one _ _ _ _ h, one_int]; rfl
theorem GC_d {H : AHeap} {b e : Nat} {m : Msg} {v : Value} (hs : m.s.t.length = 64) (h : H.get b = some (.cells true false 78 (GC m v) e)) : rangeA H b 73 5 = some (D5 m.d.a m.d.b m.d.c m.d.p v) := by
 rw [rangeA_of h, if_pos (by rw [GC_len hs]; omega)]
 simp only [GC, List.drop]
 rw [List.drop_append_of_le_length (by rw [SC_len hs]; omega), List.drop_of_length_le (by rw [SC_len hs]; omega)]
 rfl
theorem GC_s {H : AHeap} {b e : Nat} {m : Msg} {v : Value} (hs : m.s.t.length = 64) (h : H.get b = some (.cells true false 78 (GC m v) e)) : rangeA H b 5 68 = some (SC m.s) := by
 rw [rangeA_of h, if_pos (by rw [GC_len hs]; omega)]
 simp only [GC, List.drop]
 rw [List.take_append_of_le_length (by rw [SC_len hs]; omega), List.take_of_length_le (by rw [SC_len hs]; omega)]
theorem bsl4 (e : Nat) (a b c d : Int) (H : AHeap) : asem (.bslice e 1 4 [.int .i64 0, .int .i64 0, .int .i64 0, .int .i64 0] [(0, 1, .int .i64 a), (1, 1, .int .i64 b), (2, 1, .int .i64 c), (3, 1, .int .i64 d)]) H = some (slc H.n 0 4 4, H.alloc (.cells true false 1 [.int .i64 a, .int .i64 b, .int .i64 c, .int .i64 d] e)) := rfl
theorem il4 (e : Nat) (a b c d : Int) (H : AHeap) : IL (H.alloc (.cells true false 1 [.int .i64 a, .int .i64 b, .int .i64 c, .int .i64 d] e)) (slc H.n 0 4 4) [a, b, c, d] := by
 refine ⟨_, _, rfl, fun i h => ?_⟩
 rw [cellA_of (AHeap.get_alloc_new H _)]
 have c : i = 0 ∨ i = 1 ∨ i = 2 ∨ i = 3 := by simp at h; omega
 rcases c with rfl | rfl | rfl | rfl <;> rfl
def mayB (m : Msg) : Bool := decide (1 ≤ m.k) && decide (m.k ≤ 4) && inB [m.e, m.c, m.be, m.b] && riseF (-1) m.d.l
theorem t35 {H : AHeap} {m : Msg} {v : Value} (hs : m.s.t.length = 64) (h : TB H v m.d.l) (hl : m.d.l.length ≤ 100000) : ∃ r H', ARun Try.prog 0 35 [.agg (GC m v).toArray] H r H' ∧ r = .bool (mayB m) ∧ Keeps H H' := by
 refine walk2 f35_ok f35_n ?_
 intro Q hq1 hq2
 have hc1 : (Value.agg (GC m v).toArray).cells.toList = GC m v := by simp [Value.cells]
 obtain ⟨Ha, hHa⟩ : ∃ X, X = H.alloc (.cells true false 78 (GC m v) 41) := ⟨_, rfl⟩
 have ka := (Keeps.refl H).alloc (.cells true false 78 (GC m v) 41)
 have ga := AHeap.get_alloc_new H (.cells true false 78 (GC m v) 41)
 rw [← hHa] at ka ga
 have c0 : cellA Ha H.n 0 = some (.int .u8 m.k) := by rw [cellA_of ga]; rfl
 have c1 : cellA Ha H.n 1 = some (.int .i64 m.e) := by rw [cellA_of ga]; rfl
 have c2 : cellA Ha H.n 2 = some (.int .i64 m.c) := by rw [cellA_of ga]; rfl
 have c3 : cellA Ha H.n 3 = some (.int .i64 m.be) := by rw [cellA_of ga]; rfl
 have c4 : cellA Ha H.n 4 = some (.int .i64 m.b) := by rw [cellA_of ga]; rfl
 unfold mayB at hq2
 simp only [f35, W_block, ANs, AOp.map, seval, initFr, ANc, hc1, GC_one m h.one, ← hHa, c0]
 by_cases h1 : 1 ≤ m.k
 case neg =>
  simp only [h1, decide_false, Bool.false_and] at hq2
  simp only [W_block, ANs, AOp.map, seval, initFr, ANc, bi_u, show ¬ (1 : Int) ≤ (m.k : Int) by omega, decide_false]
  exact hq2 _ _ ⟨_, rfl, rfl, ka⟩
 by_cases h2 : m.k ≤ 4
 case neg =>
  simp only [h1, h2, decide_true, decide_false, Bool.false_and, Bool.and_false] at hq2
  simp only [W_block, ANs, AOp.map, seval, initFr, ANc, bi_u, c0, show (1 : Int) ≤ (m.k : Int) by omega, show ¬ (m.k : Int) ≤ 4 by omega, decide_true, decide_false]
  exact hq2 _ _ ⟨_, rfl, rfl, ka⟩
 simp only [h1, h2, decide_true, Bool.true_and] at hq2
 simp only [W_block, ANs, AOp.map, seval, initFr, ANc, bi_u, c0, c1, c2, c3, c4, show (1 : Int) ≤ (m.k : Int) by omega, show (m.k : Int) ≤ 4 by omega, decide_true, bsl4]
 have kb := (Keeps.refl Ha).alloc (.cells true false 1 [.int .i64 m.e, .int .i64 m.c, .int .i64 m.be, .int .i64 m.b] 2)
 refine ⟨_, _, t33 (il4 2 m.e m.c m.be m.b Ha) (by simp), ?_⟩
 have gb := kb.at_ ga
 cases h3 : inB [m.e, m.c, m.be, m.b]
 ·simp only [h3, Bool.false_and] at hq2
  simp only [W_block, ANs, AOp.map, seval, initFr, ANc, bi_u]
  exact hq2 _ _ ⟨_, rfl, rfl, ka.trans kb⟩
 ·simp only [h3, Bool.true_and] at hq2
  simp only [W_block, ANs, AOp.map, seval, initFr, ANc, bi_u, GC_d hs gb]
  obtain ⟨_, H2, r2, rfl, k2⟩ := t31 (h.keeps (ka.trans kb)) m.d.a m.d.b m.d.c m.d.p hl
  refine ⟨_, _, r2, ?_⟩
  simp only [W_block, ANs, AOp.map, seval, initFr, ANc]
  exact hq2 _ _ ⟨_, rfl, rfl, (ka.trans kb).trans k2⟩
end Go.AM.Rp

namespace Go.AM.Rp
open Go.Proofs
def G0 : Msg := ⟨0, 0, 0, 0, 0, S0, ⟨0, 0, 0, 0, []⟩⟩
theorem Z78_G : Z78 = GC G0 (.slice none 0 0) := rfl
def ackM (x : Lg) : Msg := { G0 with k := 3, e := x.e, c := x.c }
def needM : Msg := { G0 with k := 4 }
def hearR (x : Option Lg) (m : Msg) : Msg × Bool × Int × Option Lg :=
 if mayB m = false ∨ 2 < m.k then (G0, false, 2, x)
 else match x with
  | some x0 => if cmpL ⟨m.e, m.c, m.s⟩ x0 ≤ 0 then (ackM x0, false, 0, some x0)
   else if m.k = 1 then (ackM ⟨m.e, m.c, m.s⟩, true, 0, some ⟨m.e, m.c, m.s⟩)
   else if cmpL ⟨m.be, m.b, S0⟩ x0 ≠ 0 then (needM, false, 0, some x0)
   else (ackM ⟨m.e, m.c, m.s⟩, true, 0, some ⟨m.e, m.c, (patchR x0.s m.d).2⟩)
  | none => if m.k = 1 then (ackM ⟨m.e, m.c, m.s⟩, true, 0, some ⟨m.e, m.c, m.s⟩) else (needM, false, 0, none)
theorem resC3 {fr : List Value} {H : AHeap} {b : Nat} {cs : List Value} (h1 : fr.getD 3 undef = ptr b 0) (h2 : rangeA H b 0 78 = some cs) : resO [.cn 78 3, .t 4, .t 5] fr H = some (.tuple #[.agg cs.toArray, fr.getD 4 undef, fr.getD 5 undef]) := by
 simp only [resO, resVs, RX.get, h1, ptr, celln, h2, Option.map_some]
 rfl
theorem fl70b (a b : Int) : fillA Z70 [(0, 1, .int .i64 a), (1, 1, .int .i64 b)] = some (LC ⟨a, b, S0⟩) := rfl
theorem fl70s (a b : Int) {s : S} (hs : s.t.length = 64) : fillA Z70 [(0, 1, .int .i64 a), (1, 1, .int .i64 b), (2, 68, .agg (SC s).toArray)] = some (LC ⟨a, b, s⟩) := by
 have h1 : (Value.int .i64 a).cells.toList = [.int .i64 a] := rfl
 have h2 : (Value.int .i64 b).cells.toList = [.int .i64 b] := rfl
 have h3 : (Value.agg (SC s).toArray).cells.toList = SC s := by simp [Value.cells]
 have hz : ∃ z : List Value, Z70 = .int .i64 0 :: .int .i64 0 :: z ∧ z.length = 68 := ⟨Z68, rfl, rfl⟩
 obtain ⟨z, hz, hl2⟩ := hz
 have hl := SC_len hs
 simp only [fillA, h1, h2, h3, hz, hl, hl2, List.length_cons, List.length_nil, List.take, List.drop, List.nil_append, List.singleton_append, List.cons_append, Nat.reduceAdd]
 simp only [and_self, Nat.reduceLeDiff, if_true, List.nil_append, List.cons_append]
 rw [List.drop_of_length_le (by omega)]
 simp [LC]
theorem flA (e c : Int) : fillA Z78 [(0, 1, .int .u8 3), (1, 1, .int .i64 e), (2, 1, .int .i64 c)] = some (GC { G0 with k := 3, e := e, c := c } (.slice none 0 0)) := rfl
theorem flN : fillA Z78 [(0, 1, .int .u8 4)] = some (GC needM (.slice none 0 0)) := rfl
theorem G_len (m : Msg) (hs : m.s = S0) (v : Value) : (GC m v).length = 78 := GC_len (by rw [hs]; rfl) v
theorem t17 {H : AHeap} {r : Nat} {x : Option Lg} {m : Msg} {v : Value} (h : RvS H r x) (hx : ∀ y, x = some y → y.s.t.length = 64) (hs : m.s.t.length = 64) (ht : TB H v m.d.l) (hl : m.d.l.length ≤ 100000) :
  ∃ w H', ARun Try.prog 0 17 [ptr r 0, .agg (GC m v).toArray] H w H' ∧ w = .tuple #[.agg (GC (hearR x m).1 (.slice none 0 0)).toArray, .bool (hearR x m).2.1, .int .i64 (hearR x m).2.2.1] ∧ RvS H' r (hearR x m).2.2.2 ∧ Chg [r] H H' ∧ (cellA H' r 0 = cellA H r 0 ∨ ∃ b, cellA H' r 0 = some (ptr b 0) ∧ H.n ≤ b) := by
 refine walk2 f17_ok f17_n ?_
 intro Q hq1 hq2
 have hc1 : (Value.agg (GC m v).toArray).cells.toList = GC m v := by simp [Value.cells]
 obtain ⟨Ha, hHa⟩ : ∃ X, X = H.alloc (.cells true false 78 (GC m v) 41) := ⟨_, rfl⟩
 have ka := (Keeps.refl H).alloc (.cells true false 78 (GC m v) 41)
 have ga := AHeap.get_alloc_new H (.cells true false 78 (GC m v) 41)
 rw [← hHa] at ka ga
 have na : Ha.n = H.n + 1 := by rw [hHa]; rfl
 obtain ⟨Hb, hHb⟩ : ∃ X, X = Ha.alloc (.cells true false 78 Z78 41) := ⟨_, rfl⟩
 have kb := (Keeps.refl Ha).alloc (.cells true false 78 Z78 41)
 have gb := AHeap.get_alloc_new Ha (.cells true false 78 Z78 41)
 rw [← hHb] at kb gb
 have nb : Hb.n = H.n + 2 := by rw [hHb, alloc_n, na]
 have ga := kb.at_ ga
 have kAll := ka.trans kb
 have z78 : Z78.all Value.oneCell' = true := rfl
 have ml := GC_len hs v
 have hrn : r < H.n := by
  cases x with
  | none => exact AHeap.get_lt h
  | some x => obtain ⟨b, h1, _⟩ := h; exact AHeap.get_lt h1
 have rk : ∀ {X : AHeap} {y : Option Lg}, RvS H r y → Keeps H X → RvS X r y := by
  intro X y hy k
  cases y with
  | none => exact k.at_ hy
  | some y => obtain ⟨b, h1, h2, h3⟩ := hy; exact ⟨b, k.at_ h1, k.at_ h2, h3⟩
 have rc : ∀ {X : AHeap}, Keeps H X → (cellA X r 0 = cellA H r 0 ∨ ∃ b, cellA X r 0 = some (ptr b 0) ∧ H.n ≤ b) := fun k => .inl (by unfold cellA; rw [k.get r hrn])
 have n3 := hrn
 simp only [f17, W_block, ANs, AOp.map, seval, initFr, ANc, hc1, GC_one m ht.one, ← hHa, ← hHb, z78, full ga ml]
 obtain ⟨_, H1, r1, rfl, k1⟩ := t35 (H := Hb) (m := m) (v := v) hs (ht.keeps kAll) hl
 refine ⟨_, _, r1, ?_⟩
 have ga1 := k1.at_ ga
 have gb1 := k1.at_ gb
 have n1 := k1.n
 have kA1 := kAll.trans k1
 have c0 : cellA H1 H.n 0 = some (.int .u8 m.k) := by rw [cellA_of ga1]; rfl
 have c1 : cellA H1 H.n 1 = some (.int .i64 m.e) := by rw [cellA_of ga1]; rfl
 have c2 : cellA H1 H.n 2 = some (.int .i64 m.c) := by rw [cellA_of ga1]; rfl
 have c5 := GC_s hs ga1
 have stZ : asem (.storen 78 (ptr Ha.n 0) (.agg Z78.toArray)) H1 = _ := stAll gb1 rfl rfl z78
 unfold hearR at hq2
 by_cases hb : mayB m = false ∨ 2 < m.k
 ·simp only [hb, if_true] at hq2
  have kF : Keeps H (H1.set Ha.n (.cells true false 78 Z78 41)) := kA1.chg_trans (Chg.set H1 (AHeap.get_lt gb1) _) (by simp; omega)
  have fin : ∀ fr : List Value, fr.getD 3 undef = ptr Ha.n 0 → fr.getD 4 undef = .bool false → fr.getD 5 undef = .int .i64 2 → Q .ret fr (H1.set Ha.n (.cells true false 78 Z78 41)) := fun fr e3 e4 e5 => hq2 _ _ ⟨_, resC3 e3 (full (get1 gb1 _) (show Z78.length = 78 from rfl)), by rw [e4, e5, Z78_G], rk h kF, kF.chg _, rc kF⟩
  cases hmay : mayB m
  ·simp only [W_block, ANs, AOp.map, seval, initFr, ANc, bi_u, fl78n, stZ]
   exact fin _ rfl rfl rfl
  ·have h2 : 2 < m.k := by rcases hb with h | h; rw [hmay] at h; cases h; exact h
   simp only [W_block, ANs, AOp.map, seval, initFr, ANc, bi_u, c0, show (2 : Int) < (m.k : Int) by omega, decide_true, fl78n, stZ]
   exact fin _ rfl rfl rfl
 simp only [hb, if_false] at hq2
 have hmay : mayB m = true := by cases hm : mayB m; exact absurd (.inl hm) hb; rfl
 have h2 : ¬ 2 < m.k := fun h => hb (.inr h)
 have hk1 : 1 ≤ m.k := by unfold mayB at hmay; simp at hmay; omega
 have vy := var70 H1 (x := ⟨m.e, m.c, m.s⟩) hs
 obtain ⟨Hc, hHc⟩ : ∃ X, X = H1.alloc (.cells true false 70 (LC ⟨m.e, m.c, m.s⟩) 54) := ⟨_, rfl⟩
 have kc := (Keeps.refl H1).alloc (.cells true false 70 (LC ⟨m.e, m.c, m.s⟩) 54)
 have gc := AHeap.get_alloc_new H1 (.cells true false 70 (LC ⟨m.e, m.c, m.s⟩) 54)
 rw [← hHc] at kc gc vy
 have nc : Hc.n = H1.n + 1 := by rw [hHc]; rfl
 have ga2 := kc.at_ ga1
 have d3 : cellA Hc H.n 3 = some (.int .i64 m.be) := by rw [cellA_of ga2]; rfl
 have d4 : cellA Hc H.n 4 = some (.int .i64 m.b) := by rw [cellA_of ga2]; rfl
 have vb := var70 Hc (x := ⟨m.be, m.b, S0⟩) rfl
 obtain ⟨Hd, hHd⟩ : ∃ X, X = Hc.alloc (.cells true false 70 (LC ⟨m.be, m.b, S0⟩) 54) := ⟨_, rfl⟩
 have kd := (Keeps.refl Hc).alloc (.cells true false 70 (LC ⟨m.be, m.b, S0⟩) 54)
 have gd := AHeap.get_alloc_new Hc (.cells true false 70 (LC ⟨m.be, m.b, S0⟩) 54)
 rw [← hHd] at kd gd vb
 have nd : Hd.n = H1.n + 2 := by rw [hHd, alloc_n, nc]
 have gyd := kd.at_ gc
 have gad := kd.at_ ga2
 have gbd := kd.at_ (kc.at_ gb1)
 have kD := (kA1.trans kc).trans kd
 simp only [W_block, ANs, AOp.map, seval, initFr, ANc, bi_u, hmay, c0, show ¬ (2 : Int) < (m.k : Int) by omega, decide_false, c1, c2, c5, fl70s m.e m.c hs, fl70b, z70, vy, d3, d4, vb]
 cases x with
 | none =>
  have gr := kD.at_ (show H.get r = some (.cells true false 1 [.pointer none] 51) from h)
  have p0 : cellA Hd r 0 = some (.pointer none) := by rw [cellA_of gr]; rfl
  have cd0 : cellA Hd H.n 0 = some (.int .u8 m.k) := by rw [cellA_of gad]; rfl
  by_cases hk : m.k = 1
  ·simp only [hk, if_true] at hq2
   simp only [W_block, ANs, AOp.map, seval, initFr, ANc, bi_u, p0, cd0, show ((m.k : Int) == 1) = true by simp [hk]]
   have st1 : asem (.store1 (ptr r 0) (ptr H1.n 0)) Hd = some (undef, Hd.set r (.cells true false 1 [ptr H1.n 0] 51)) := by rw [a_st (o := 0) (x := ptr H1.n 0) gr (by simp) rfl]; rfl
   have dr := Chg.set Hd (b := r) (AHeap.get_lt gr) (.cells true false 1 [ptr H1.n 0] 51)
   have gy' := dr.at_ gyd (by simp; omega)
   have gz' := dr.at_ gbd (by simp; omega)
   have gr' := get1 gr (.cells true false 1 [ptr H1.n 0] 51)
   have e0 : cellA (Hd.set r (.cells true false 1 [ptr H1.n 0] 51)) H1.n 0 = some (.int .i64 m.e) := by rw [cellA_of gy']; rfl
   have e1 : cellA (Hd.set r (.cells true false 1 [ptr H1.n 0] 51)) H1.n 1 = some (.int .i64 m.c) := by rw [cellA_of gy']; rfl
   have st2 := stAll gz' (show Z78.length = 78 from rfl) (G_len (ackM ⟨m.e, m.c, m.s⟩) rfl (.slice none 0 0)) (GC_one _ rfl)
   unfold ackM at st2 hq2
   simp only [W_block, ANs, AOp.map, seval, initFr, ANc, bi_u, st1, e0, e1, flA, st2]
   have d2 := Chg.set (Hd.set r (.cells true false 1 [ptr H1.n 0] 51)) (b := Ha.n) (AHeap.get_lt gz') (.cells true false 78 (GC { G0 with k := 3, e := m.e, c := m.c } (.slice none 0 0)) 41)
   refine hq2 _ _ ⟨_, resC3 (b := Ha.n) rfl (full (get1 gz' _) (G_len _ rfl _)), rfl, ⟨H1.n, d2.at_ gr' (by simp; omega), d2.at_ gy' (by simp; omega), by omega⟩, ((kD.chg [r]).trans dr (fun x hx => .inl hx)).trans d2 (by simp; omega), .inr ⟨H1.n, by rw [cellA_of (d2.at_ gr' (by simp; omega))]; rfl, by omega⟩⟩
  ·simp only [hk, if_false] at hq2
   simp only [W_block, ANs, AOp.map, seval, initFr, ANc, bi_u, p0, cd0, show ((m.k : Int) == 1) = false by simp; omega, flN]
   have st2 := stAll gbd (show Z78.length = 78 from rfl) (G_len (needM) rfl (.slice none 0 0)) (GC_one _ rfl)
   simp only [W_block, ANs, AOp.map, seval, initFr, ANc, bi_u, st2]
   have d2 := Chg.set Hd (b := Ha.n) (AHeap.get_lt gbd) (.cells true false 78 (GC (needM) (.slice none 0 0)) 41)
   have kF := kD.chg_trans d2 (by simp; omega)
   exact hq2 _ _ ⟨_, resC3 (b := Ha.n) rfl (full (get1 gbd _) (G_len _ rfl _)), rfl, rk h kF, kF.chg _, rc kF⟩
 | some x0 =>
  have hl0 := hx x0 rfl
  obtain ⟨b, h1, hb2, hb3⟩ := id h
  have gr := kD.at_ h1
  have gx := kD.at_ hb2
  have p0 : cellA Hd r 0 = some (ptr b 0) := by rw [cellA_of gr]; rfl
  have hbn := AHeap.get_lt hb2
  simp only [W_block, ANs, AOp.map, seval, initFr, ANc, bi_u, p0, full gyd (LC_len (x := ⟨m.e, m.c, m.s⟩) hs), full gx (LC_len hl0)]
  obtain ⟨_, He, r34, rfl, k34⟩ := t34 (H := Hd) ⟨m.e, m.c, m.s⟩ x0
  refine ⟨_, _, r34, trivial, ?_⟩
  have kE := kD.trans k34
  have grE := k34.at_ gr
  have gxE := k34.at_ gx
  have gyE := k34.at_ gyd
  have gbE := k34.at_ gbd
  have gaE := k34.at_ gad
  have gdE := k34.at_ gd
  have pE : cellA He r 0 = some (ptr b 0) := by rw [cellA_of grE]; rfl
  have cE0 : cellA He H.n 0 = some (.int .u8 m.k) := by rw [cellA_of gaE]; rfl
  have x0e : cellA He b 0 = some (.int .i64 x0.e) := by rw [cellA_of gxE]; rfl
  have x0c : cellA He b 1 = some (.int .i64 x0.c) := by rw [cellA_of gxE]; rfl
  by_cases hc : cmpL ⟨m.e, m.c, m.s⟩ x0 ≤ 0
  ·simp only [hc, if_true] at hq2
   unfold ackM at hq2
   simp only [W_block, ANs, AOp.map, seval, initFr, ANc, bi_u, hc, decide_true, pE, x0e, x0c, flA]
   have st2 := stAll gbE (show Z78.length = 78 from rfl) (G_len ({ G0 with k := 3, e := x0.e, c := x0.c }) rfl (.slice none 0 0)) (GC_one _ rfl)
   simp only [W_block, ANs, AOp.map, seval, initFr, ANc, bi_u, st2]
   have d2 := Chg.set He (b := Ha.n) (AHeap.get_lt gbE) (.cells true false 78 (GC ({ G0 with k := 3, e := x0.e, c := x0.c }) (.slice none 0 0)) 41)
   have kF := kE.chg_trans d2 (by simp; omega)
   exact hq2 _ _ ⟨_, resC3 (b := Ha.n) rfl (full (get1 gbE _) (G_len _ rfl _)), rfl, rk h kF, kF.chg _, rc kF⟩
  simp only [hc, if_false] at hq2
  by_cases hk : m.k = 1
  ·simp only [hk, if_true] at hq2
   simp only [W_block, ANs, AOp.map, seval, initFr, ANc, bi_u, hc, decide_false, cE0, show ((m.k : Int) == 1) = true by simp [hk]]
   have st1 : asem (.store1 (ptr r 0) (ptr H1.n 0)) He = some (undef, He.set r (.cells true false 1 [ptr H1.n 0] 51)) := by rw [a_st (o := 0) (x := ptr H1.n 0) grE (by simp) rfl]; rfl
   have dr := Chg.set He (b := r) (AHeap.get_lt grE) (.cells true false 1 [ptr H1.n 0] 51)
   have gy' := dr.at_ gyE (by simp; omega)
   have gz' := dr.at_ gbE (by simp; omega)
   have gr' := get1 grE (.cells true false 1 [ptr H1.n 0] 51)
   have e0 : cellA (He.set r (.cells true false 1 [ptr H1.n 0] 51)) H1.n 0 = some (.int .i64 m.e) := by rw [cellA_of gy']; rfl
   have e1 : cellA (He.set r (.cells true false 1 [ptr H1.n 0] 51)) H1.n 1 = some (.int .i64 m.c) := by rw [cellA_of gy']; rfl
   have st2 := stAll gz' (show Z78.length = 78 from rfl) (G_len (ackM ⟨m.e, m.c, m.s⟩) rfl (.slice none 0 0)) (GC_one _ rfl)
   unfold ackM at st2 hq2
   simp only [W_block, ANs, AOp.map, seval, initFr, ANc, bi_u, st1, e0, e1, flA, st2]
   have d2 := Chg.set (He.set r (.cells true false 1 [ptr H1.n 0] 51)) (b := Ha.n) (AHeap.get_lt gz') (.cells true false 78 (GC { G0 with k := 3, e := m.e, c := m.c } (.slice none 0 0)) 41)
   refine hq2 _ _ ⟨_, resC3 (b := Ha.n) rfl (full (get1 gz' _) (G_len _ rfl _)), rfl, ⟨H1.n, d2.at_ gr' (by simp; omega), d2.at_ gy' (by simp; omega), by omega⟩, ((kE.chg [r]).trans dr (fun x hx => .inl hx)).trans d2 (by simp; omega), .inr ⟨H1.n, by rw [cellA_of (d2.at_ gr' (by simp; omega))]; rfl, by omega⟩⟩
  simp only [hk, if_false] at hq2
  simp only [W_block, ANs, AOp.map, seval, initFr, ANc, bi_u, hc, decide_false, cE0, show ((m.k : Int) == 1) = false by simp; omega, pE, full gdE (LC_len (x := ⟨m.be, m.b, S0⟩) rfl), full gxE (LC_len hl0)]
  obtain ⟨_, Hf, r35, rfl, k35⟩ := t34 (H := He) ⟨m.be, m.b, S0⟩ x0
  refine ⟨_, _, r35, trivial, ?_⟩
  have kF' := kE.trans k35
  have grF := k35.at_ grE
  have gxF := k35.at_ gxE
  have gyF := k35.at_ gyE
  have gbF := k35.at_ gbE
  have gaF := k35.at_ gaE
  have pF : cellA Hf r 0 = some (ptr b 0) := by rw [cellA_of grF]; rfl
  by_cases hd : cmpL ⟨m.be, m.b, S0⟩ x0 = 0
  case neg =>
   simp only [ne_eq, hd, not_false_eq_true, if_true] at hq2
   simp only [W_block, ANs, AOp.map, seval, initFr, ANc, bi_u, show (cmpL ⟨m.be, m.b, S0⟩ x0 != 0) = true by simp [hd], flN]
   have st2 := stAll gbF (show Z78.length = 78 from rfl) (G_len (needM) rfl (.slice none 0 0)) (GC_one _ rfl)
   simp only [W_block, ANs, AOp.map, seval, initFr, ANc, bi_u, st2]
   have d2 := Chg.set Hf (b := Ha.n) (AHeap.get_lt gbF) (.cells true false 78 (GC (needM) (.slice none 0 0)) 41)
   have kG := kF'.chg_trans d2 (by simp; omega)
   exact hq2 _ _ ⟨_, resC3 (b := Ha.n) rfl (full (get1 gbF _) (G_len _ rfl _)), rfl, rk h kG, kG.chg _, rc kG⟩
  simp only [ne_eq, hd, not_true_eq_false, if_false] at hq2
  have sx : rangeA Hf b 2 68 = some (SC x0.s) := by
   rw [rangeA_of gxF, if_pos (by rw [LC_len hl0]; omega)]; simp only [LC, List.drop]; rw [List.take_of_length_le (by rw [SC_len hl0]; omega)]
  simp only [W_block, ANs, AOp.map, seval, initFr, ANc, bi_u, show (cmpL ⟨m.be, m.b, S0⟩ x0 != 0) = false by simp [hd], pF, sx, GC_d hs gaF]
  obtain ⟨_, Hg, r10, rfl, k10⟩ := t10 (H := Hf) (s := x0.s) (d := m.d) (v := v) hl0 (ht.keeps kF') hl
  refine ⟨_, _, r10, trivial, ?_⟩
  have kG := kF'.trans k10
  have grG := k10.at_ grF
  have gyG := k10.at_ gyF
  have gbG := k10.at_ gbF
  have pl := patchR_len hl0 m.d
  generalize (patchR x0.s m.d).2 = s' at *
  generalize (patchR x0.s m.d).1 = e' at *
  have sty : asem (.storen 68 (ptr H1.n 2) (.agg (SC s').toArray)) Hg = some (undef, Hg.set H1.n (.cells true false 70 (LC ⟨m.e, m.c, s'⟩) 54)) := by
   rw [a_storen gyG, if_pos ⟨by rw [LC_len (x := ⟨m.e, m.c, m.s⟩) hs]; omega, by simp [Value.cells, SC_len pl], by simpa [Value.cells] using SC_one s'⟩]
   simp only [LC, Value.cells, List.take, List.drop, List.cons_append, List.nil_append]
   rw [List.drop_of_length_le (by rw [SC_len hs]; omega)]
   simp
  have dy := Chg.set Hg (b := H1.n) (AHeap.get_lt gyG) (.cells true false 70 (LC ⟨m.e, m.c, s'⟩) 54)
  have gyH := get1 gyG (.cells true false 70 (LC ⟨m.e, m.c, s'⟩) 54)
  have grH := dy.at_ grG (by simp; omega)
  have gbH := dy.at_ gbG (by simp; omega)
  have kH := kG.chg_trans dy (by simp; omega)
  simp only [W_block, ANs, AOp.map, seval, initFr, ANc, sty]
  generalize Hg.set H1.n (.cells true false 70 (LC ⟨m.e, m.c, s'⟩) 54) = Hh at *
  have st1 : asem (.store1 (ptr r 0) (ptr H1.n 0)) Hh = some (undef, Hh.set r (.cells true false 1 [ptr H1.n 0] 51)) := by rw [a_st (o := 0) (x := ptr H1.n 0) grH (by simp) rfl]; rfl
  have dr := Chg.set Hh (b := r) (AHeap.get_lt grH) (.cells true false 1 [ptr H1.n 0] 51)
  have gy' := dr.at_ gyH (by simp; omega)
  have gz' := dr.at_ gbH (by simp; omega)
  have gr' := get1 grH (.cells true false 1 [ptr H1.n 0] 51)
  have e0 : cellA (Hh.set r (.cells true false 1 [ptr H1.n 0] 51)) H1.n 0 = some (.int .i64 m.e) := by rw [cellA_of gy']; rfl
  have e1 : cellA (Hh.set r (.cells true false 1 [ptr H1.n 0] 51)) H1.n 1 = some (.int .i64 m.c) := by rw [cellA_of gy']; rfl
  have st2 := stAll gz' (show Z78.length = 78 from rfl) (G_len (ackM ⟨m.e, m.c, m.s⟩) rfl (.slice none 0 0)) (GC_one _ rfl)
  unfold ackM at st2 hq2
  simp only [W_block, ANs, AOp.map, seval, initFr, ANc, bi_u, st1, e0, e1, flA, st2]
  have d2 := Chg.set (Hh.set r (.cells true false 1 [ptr H1.n 0] 51)) (b := Ha.n) (AHeap.get_lt gz') (.cells true false 78 (GC { G0 with k := 3, e := m.e, c := m.c } (.slice none 0 0)) 41)
  refine hq2 _ _ ⟨_, resC3 (b := Ha.n) rfl (full (get1 gz' _) (G_len _ rfl _)), rfl, ⟨H1.n, d2.at_ gr' (by simp; omega), d2.at_ gy' (by simp; omega), by omega⟩, ((kH.chg [r]).trans dr (fun x hx => .inl hx)).trans d2 (by simp; omega), .inr ⟨H1.n, by rw [cellA_of (d2.at_ gr' (by simp; omega))]; rfl, by omega⟩⟩
end Go.AM.Rp

namespace Go.AM.Rp
open Go.Proofs
def FL (l : List Lg) : List Value := l.flatMap LC
theorem FL_app (l m : List Lg) : FL (l ++ m) = FL l ++ FL m := by simp [FL]
def Ok64 (l : List Lg) : Prop := ∀ x ∈ l, x.s.t.length = 64
theorem FL_len : ∀ (l : List Lg), Ok64 l → (FL l).length = 70 * l.length
 | [], _ => rfl
 | x :: l, h => by
  have h1 := FL_len l (fun y hy => h y (by simp [hy]))
  have h2 := LC_len (h x (by simp))
  simp only [FL, List.flatMap_cons, List.length_append, List.length_cons] at h1 ⊢
  omega
theorem FL_at : ∀ (l : List Lg), Ok64 l → ∀ (i : Nat) (h : i < l.length), ((FL l).drop (70 * i)).take 70 = LC l[i]
 | x :: l, h, 0, _ => by
  have h2 := LC_len (h x (by simp))
  simp only [FL, List.flatMap_cons, Nat.mul_zero, List.drop_zero]
  rw [List.take_append_of_le_length (by omega), List.take_of_length_le (by omega)]; rfl
 | x :: l, h, i + 1, hi => by
  have h1 := FL_at l (fun y hy => h y (by simp [hy])) i (by simpa using hi)
  have h2 := LC_len (h x (by simp))
  simp only [FL, List.flatMap_cons] at h1 ⊢
  rw [show 70 * (i + 1) = (LC x).length + 70 * i by omega, List.drop_append]
  rw [List.drop_of_length_le (by omega), Nat.add_sub_cancel_left, List.nil_append, h1]; rfl
def SL (H : AHeap) (v : Value) (l : List Lg) : Prop :=
 (v = .slice none 0 0 ∧ l = []) ∨ ∃ b o room c, v = slc b o l.length l.length ∧ H.get b = some (.cells true room 70 c 54) ∧ c.drop o = FL l ∧ o ≤ c.length
theorem SL.chg {H H' : AHeap} {v : Value} {l : List Lg} {S : List Nat} (h : SL H v l) (k : Chg S H H') (hS : ∀ x ∈ blkL v, x ∉ S) : SL H' v l := by
 rcases h with h | ⟨b, o, room, c, rfl, h1, h2, h3⟩
 ·exact .inl h
 ·exact .inr ⟨b, o, room, c, rfl, k.at_ h1 (hS b (mem_blkL.2 rfl)), h2, h3⟩
theorem SL.lt {H : AHeap} {v : Value} {l : List Lg} (h : SL H v l) {b : Nat} (hb : blk v = some b) : b < H.n := by
 rcases h with ⟨rfl, _⟩ | ⟨b', o, room, c, rfl, h1, _⟩
 ·cases hb
 ·cases hb; exact AHeap.get_lt h1
theorem SL.at_ {H : AHeap} {v : Value} {l : List Lg} (h : SL H v l) (hk : Ok64 l) {i : Nat} (hi : i < l.length) : ∃ b o, v = slc b o l.length l.length ∧ rangeA H b (o + i * 70) 70 = some (LC l[i]) := by
 rcases h with ⟨_, rfl⟩ | ⟨b, o, room, c, rfl, h1, h2, h3⟩
 ·simp at hi
 ·refine ⟨b, o, rfl, ?_⟩
  have hl := congrArg List.length h2
  rw [List.length_drop, FL_len l hk] at hl
  rw [rangeA_of h1, if_pos (by omega), ← List.drop_drop, h2, Nat.mul_comm, FL_at l hk i hi]
theorem SL.app {H : AHeap} {v : Value} {l : List Lg} (h : SL H v l) (hk : Ok64 l) {x : Lg} (hx : x.s.t.length = 64) (hl : l.length ≤ 1000) :
  ∃ v' H', appA H 54 70 112 v 1 (LC x) = some (v', H') ∧ SL H' v' (l ++ [x]) ∧ Chg (blkL v) H H' ∧ blk v' = some H.n := by
 have hn : (l ++ [x]).length = l.length + 1 := by simp
 have hL := LC_len hx
 have hF : FL (l ++ [x]) = FL l ++ LC x := by rw [FL_app]; simp [FL]
 rcases h with ⟨rfl, rfl⟩ | ⟨b, o, room, c, rfl, h1, h2, h3⟩
 ·refine ⟨slc H.n 0 1 1, H.alloc (.cells true true 70 (LC x) 54), ?_, .inr ⟨H.n, 0, true, LC x, rfl, AHeap.get_alloc_new H _, by rw [hF]; rfl, by omega⟩, ((Keeps.refl H).alloc _).chg _, rfl⟩
  simp only [appA]
  rw [if_pos ⟨trivial, trivial⟩, if_neg (by omega), if_pos (by omega)]
 ·have hlc := congrArg List.length h2
  rw [List.length_drop, FL_len l hk] at hlc
  have htk : (c.drop o).take (l.length * 70) = FL l := by rw [h2, List.take_of_length_le (by rw [FL_len l hk]; omega)]
  cases room with
  | false =>
   refine ⟨slc H.n 0 (l.length + 1) (l.length + 1), H.alloc (.cells true true 70 (FL l ++ LC x) 54), ?_, .inr ⟨H.n, 0, true, _, by rw [hn], AHeap.get_alloc_new H _, by rw [List.drop_zero, hF], by omega⟩, ((Keeps.refl H).alloc _).chg _, rfl⟩
   simp only [appA, slc, h1, htk]
   rw [if_neg (by omega), if_pos (by omega), if_pos ⟨trivial, trivial, by omega⟩, if_neg (by omega), if_pos (Or.inl trivial)]
  | true =>
   have hb := AHeap.get_lt h1
   refine ⟨slc H.n 0 (l.length + 1) (l.length + 1), (H.set b .dead).alloc (.cells true true 70 (FL l ++ LC x) 54), ?_, .inr ⟨H.n, 0, true, _, by rw [hn], AHeap.get_alloc_new (H.set b .dead) _, by rw [List.drop_zero, hF], by omega⟩, ?_, rfl⟩
   ·simp only [appA, slc, h1, htk]
    rw [if_neg (by omega), if_pos (by omega), if_pos ⟨trivial, trivial, by omega⟩, if_neg (by omega), if_neg (by rintro (h | h); cases h; omega)]
    rfl
   ·exact ((Chg.set H hb _).trans (((Keeps.refl (H.set b .dead)).alloc _).chg []) (by simp)).mono (by intro z hz; simp at hz; rw [hz, mem_blkL]; rfl)
end Go.AM.Rp

namespace Go.AM.Rp
open Go.Proofs
theorem SL.sh {H : AHeap} {v : Value} {l : List Lg} (h : SL H v l) : ∃ a, v = .slice a l.length l.length := by
 rcases h with ⟨rfl, rfl⟩ | ⟨b, o, room, c, rfl, _⟩
 ·exact ⟨_, rfl⟩
 ·exact ⟨_, rfl⟩
theorem SL.drop1 {H : AHeap} {v : Value} {l : List Lg} (h : SL H v l) (hk : Ok64 l) (hl : 1 ≤ l.length) : ∃ v', asem (.slsl 70 v (some (.int .i64 1)) none none) H = some (v', H) ∧ SL H v' (l.drop 1) ∧ blk v' = blk v := by
 rcases h with ⟨_, rfl⟩ | ⟨b, o, room, c, rfl, h1, h2, h3⟩
 ·simp at hl
 ·have hlc := congrArg List.length h2
  rw [List.length_drop, FL_len l hk] at hlc
  refine ⟨slc b (o + 1 * 70) (l.length - 1) (l.length - 1), ?_, .inr ⟨b, o + 70, room, c, by rw [List.length_drop], h1, ?_, by omega⟩, rfl⟩
  ·exact a_slsl h1 (bnd_none _ _) (bnd_none _ _) (bnd_some .i64 1 0 l.length hl)
  ·rw [← List.drop_drop, h2]
   match l, hl, hk with
   | x :: l, _, hk =>
    have h2 := LC_len (hk x (by simp))
    show (LC x ++ FL l).drop 70 = FL l
    rw [← h2, List.drop_append, List.drop_length, Nat.sub_self]; rfl
theorem fl70a {x : Lg} (h : x.s.t.length = 64) : fillA Z70 [(0, 70, .agg (LC x).toArray)] = some (LC x) := by
 have h3 : (Value.agg (LC x).toArray).cells.toList = LC x := by simp [Value.cells]
 have hl := LC_len h
 simp only [fillA, h3, hl, show Z70.length = 70 from rfl]
 simp [show Z70.drop 70 = [] from rfl]
theorem bsl70 {x : Lg} (h : x.s.t.length = 64) (H : AHeap) : asem (.bslice 54 70 1 Z70 [(0, 70, .agg (LC x).toArray)]) H = some (slc H.n 0 1 1, H.alloc (.cells true false 70 (LC x) 54)) := by
 rw [a_bslice (fl70a h), if_pos ⟨LC_one x, by rw [LC_len h]⟩]
section
variable {P : Program} {ng : Nat} {fr tm : List Value} {H : AHeap} {KF : List Value → AHeap → Prop}
theorem sd_mm {d : Go.AM.D} {un : List Nat} {rd : List (AOper × List Nat)} {tr : List TE} (m : Bool) (x y : Value) : stD P ng (.mm m x y) d un rd fr tm H tr KF = goD P ng (.mm m x y) (asem (.mm m x y) H) d un rd fr tm H tr KF := stD_of d un rd (by simp) (by simp)
end
theorem a_app1 {H H' : AHeap} {v v' : Value} {b : Nat} {x : Lg} (hx : x.s.t.length = 64) (g : H.get b = some (.cells true false 70 (LC x) 54)) (e : appA H 54 70 112 v 1 (LC x) = some (v', H')) : asem (.app 54 70 112 v (slc b 0 1 1)) H = some (v', H') := by
 have el : elemsA H 70 (slc b 0 1 1) = some (LC x) := by
  simp only [elemsA, slc, g]
  rw [if_pos (by rw [LC_len hx]; omega), List.drop_zero, List.take_of_length_le (by rw [LC_len hx]; omega)]
 simp only [asem, slc] at el ⊢
 simp only [el]
 exact e
def SdS (H : AHeap) (s : Nat) (l : List Lg) (a : Nat) : Prop := ∃ v, H.get s = some (.cells true false 2 [v, .int .i64 a] 48) ∧ SL H v l ∧ blk v ≠ some s ∧ Ok64 l
def SdV (H : AHeap) (s : Nat) (v : Value) (l : List Lg) (a : Nat) : Prop := H.get s = some (.cells true false 2 [v, .int .i64 a] 48) ∧ SL H v l ∧ blk v ≠ some s ∧ Ok64 l
theorem SdV.s {H : AHeap} {s : Nat} {v : Value} {l : List Lg} {a : Nat} (h : SdV H s v l a) : SdS H s l a := ⟨v, h⟩
def lst (l : List Lg) : Lg := l.getD (l.length - 1) L0
def offerR (l : List Lg) (a : Nat) (x : Lg) : Int × List Lg × Nat :=
 if inB [x.e, x.c] = false then (2, l, a)
 else if 0 < l.length ∧ cmpL x (lst l) ≤ 0 then (2, l, a)
 else if 8 < l.length + 1 then (0, (l ++ [x]).drop 1, a - 1)
 else (0, l ++ [x], a)
theorem t15 {H : AHeap} {s : Nat} {v : Value} {l : List Lg} {a : Nat} {x : Lg} (h : SdV H s v l a) (hx : x.s.t.length = 64) (hl : l.length ≤ 100) (ha : a ≤ 1000) :
  ∃ w H', ARun Try.prog 0 15 [ptr s 0, .agg (LC x).toArray] H w H' ∧ w = .int .i64 (offerR l a x).1 ∧ ∃ v', SdV H' s v' (offerR l a x).2.1 (offerR l a x).2.2 ∧ Chg (s :: blkL v) H H' ∧ ∀ b, blk v' = some b → blk v = some b ∨ H.n ≤ b := by
 refine walk2 f15_ok f15_n ?_
 intro Q hq1 hq2
 obtain ⟨hs, hv, hne, hk⟩ := h
 obtain ⟨va, hva⟩ := hv.sh
 have hsl := AHeap.get_lt hs
 have hc1 : (Value.agg (LC x).toArray).cells.toList = LC x := by simp [Value.cells]
 obtain ⟨Ha, hHa⟩ : ∃ X, X = H.alloc (.cells true false 70 (LC x) 54) := ⟨_, rfl⟩
 have ka := (Keeps.refl H).alloc (.cells true false 70 (LC x) 54)
 have ga := AHeap.get_alloc_new H (.cells true false 70 (LC x) 54)
 rw [← hHa] at ka ga
 have c0 : cellA Ha H.n 0 = some (.int .i64 x.e) := by rw [cellA_of ga]; rfl
 have c1 : cellA Ha H.n 1 = some (.int .i64 x.c) := by rw [cellA_of ga]; rfl
 simp only [f15, W_block, ANs, AOp.map, seval, initFr, ANc, hc1, LC_one, ← hHa, c0, c1, bsl2]
 have kb := (Keeps.refl Ha).alloc (.cells true false 1 [.int .i64 x.e, .int .i64 x.c] 2)
 refine ⟨_, _, t33 (il2 2 x.e x.c Ha) (by simp), trivial, ?_⟩
 generalize hHb : Ha.alloc (.cells true false 1 [.int .i64 x.e, .int .i64 x.c] 2) = Hb at *
 have kAB := ka.trans kb
 have gab := kb.at_ ga
 have hsb := kAB.at_ hs
 have hvb : SL Hb v l := hv.chg (kAB.chg []) (by simp)
 have keep : ∀ {X : AHeap}, Keeps H X → ∃ v', SdV X s v' l a ∧ Chg (s :: blkL v) H X ∧ ∀ b, blk v' = some b → blk v = some b ∨ H.n ≤ b := fun k => ⟨v, ⟨k.at_ hs, hv.chg (k.chg []) (by simp), hne, hk⟩, k.chg _, fun b hb => .inl hb⟩
 unfold offerR at hq2
 cases hin : inB [x.e, x.c]
 ·simp only [hin, if_true] at hq2
  simp only [W_block, ANs, AOp.map, seval, initFr, ANc, bi_u]
  exact hq2 _ _ ⟨_, rfl, rfl, keep kAB⟩
 simp only [hin, Bool.true_eq_false, if_false] at hq2
 have hlen : ∀ X, asem (.len false v) X = some (.int .i64 l.length, X) := by intro X; rw [hva]; rfl
 have p0 : cellA Hb s 0 = some v := by rw [cellA_of hsb]; rfl
 by_cases h0 : 0 < l.length
 case neg =>
  simp only [h0, false_and, if_false] at hq2
  simp only [W_block, ANs, AOp.map, seval, initFr, ANc, bi_u, p0, hlen, show ¬ (0 : Int) < (l.length : Int) by omega, decide_false]
  have hsX := kAB.at_ hs
  have hvX := hv.chg (kAB.chg []) (by simp)
  have hbs := bsl70 hx Hb
  have kc := (Keeps.refl Hb).alloc (.cells true false 70 (LC x) 54)
  have gc := AHeap.get_alloc_new Hb (.cells true false 70 (LC x) 54)
  obtain ⟨Hc, hHc⟩ : ∃ Y, Y = Hb.alloc (.cells true false 70 (LC x) 54) := ⟨_, rfl⟩
  rw [← hHc] at hbs kc gc
  have hvc := hvX.chg (kc.chg []) (by simp)
  obtain ⟨v', Hd, f1, f2, f3, f4⟩ := hvc.app hk hx (by omega)
  have hap := a_app1 hx gc f1
  have cD : Chg (s :: blkL v) H Hd := ((kAB.trans kc).chg (s :: blkL v)).trans (f3.mono (T := s :: blkL v) (fun z hz => by simp [hz])) (fun z hz => .inl hz)
  have hsd := f3.at_ (kc.at_ hsX) (by rw [mem_blkL]; exact hne)
  have hk2 : Ok64 (l ++ [x]) := by
   intro y hy
   rcases List.mem_append.1 hy with hy | hy
   ·exact hk y hy
   ·simp at hy; rw [hy]; exact hx
  obtain ⟨va', hva'⟩ := f2.sh
  have st : asem (.store1 (ptr s 0) v') Hd = some (undef, Hd.set s (.cells true false 2 [v', .int .i64 a] 48)) := by rw [a_st (o := 0) (x := v') hsd (by simp) (by rw [hva']; rfl)]; rfl
  have nX := kAB.n
  have nc := kc.n
  have hne' : blk v' ≠ some s := by rw [f4]; intro e; cases e; omega
  have g1 := get1 hsd (.cells true false 2 [v', .int .i64 a] 48)
  have f5 := f2.chg (Chg.set Hd (AHeap.get_lt hsd) (.cells true false 2 [v', .int .i64 a] 48)) (by intro z hz; rw [mem_blkL] at hz; intro e; simp at e; rw [e] at hz; exact hne' hz)
  have q0 : cellA (Hd.set s (.cells true false 2 [v', .int .i64 a] 48)) s 0 = some v' := by rw [cellA_of g1]; rfl
  have q1 : cellA (Hd.set s (.cells true false 2 [v', .int .i64 a] 48)) s 1 = some (.int .i64 a) := by rw [cellA_of g1]; rfl
  have hlen' : ∀ Y, asem (.len false v') Y = some (.int .i64 ((l.length + 1 : Nat) : Int), Y) := by intro Y; rw [hva']; simp [asem, lenA]
  by_cases h8 : 8 < l.length + 1
  ·simp only [h8, if_true] at hq2
   obtain ⟨w, d1, d2, d3⟩ := f5.drop1 hk2 (by simp)
   obtain ⟨vw, hvw⟩ := d2.sh
   have hsub : IntKind.i64.wrap ((a : Int) - 1) = (a : Int) - 1 := wrap_i64 (by omega) (by omega)
   have hmx : (if (a : Int) - 1 > 0 then (a : Int) - 1 else 0) = ((a - 1 : Nat) : Int) := by split <;> omega
   have s1 : asem (.store1 (ptr s 0) w) (Hd.set s (.cells true false 2 [v', .int .i64 a] 48)) = some (undef, Hd.set s (.cells true false 2 [w, .int .i64 a] 48)) := by rw [a_st (o := 0) (x := w) g1 (by simp) (by rw [hvw]; rfl), set2]; rfl
   have g2 := get1 hsd (.cells true false 2 [w, .int .i64 a] 48)
   have s2 : asem (.store1 (ptr s 1) (.int .i64 ((a - 1 : Nat) : Int))) (Hd.set s (.cells true false 2 [w, .int .i64 a] 48)) = some (undef, Hd.set s (.cells true false 2 [w, .int .i64 ((a - 1 : Nat) : Int)] 48)) := by rw [a_st (o := 1) (x := .int .i64 ((a - 1 : Nat) : Int)) g2 (by simp) rfl, set2]; rfl
   simp only [W_block, ANs, AOp.map, seval, initFr, ANc, bi_u, cellA_of hsX, full gab (LC_len hx), hbs, sd_app, hap, st, q0, hlen', show (8 : Int) < ((l.length + 1 : Nat) : Int) by omega, decide_true, d1, q1, hsub, sd_mm, a_mmx, hmx, s1, s2]
   refine hq2 _ _ ⟨_, rfl, rfl, w, ⟨get1 hsd _, ?_, by rw [d3]; exact hne', fun y hy => hk2 y (List.mem_of_mem_drop hy)⟩, cD.trans (Chg.set Hd (AHeap.get_lt hsd) _) (by simp), fun b hb => .inr (by rw [d3, f4] at hb; cases hb; omega)⟩
   have h5 := d2.chg (Chg.set (Hd.set s (.cells true false 2 [v', .int .i64 a] 48)) (AHeap.get_lt g1) (.cells true false 2 [w, .int .i64 ((a - 1 : Nat) : Int)] 48)) (by intro z hz; rw [mem_blkL, d3] at hz; intro e; simp at e; rw [e] at hz; exact hne' hz)
   rw [set2] at h5; exact h5
  ·simp only [h8, if_false] at hq2
   simp only [W_block, ANs, AOp.map, seval, initFr, ANc, bi_u, cellA_of hsX, full gab (LC_len hx), hbs, sd_app, hap, st, q0, hlen', show ¬ (8 : Int) < ((l.length + 1 : Nat) : Int) by omega, decide_false]
   exact hq2 _ _ ⟨_, rfl, rfl, v', ⟨g1, f5, hne', hk2⟩, cD.trans (Chg.set Hd (AHeap.get_lt hsd) _) (by simp), fun b hb => .inr (by rw [f4] at hb; cases hb; omega)⟩
 obtain ⟨bb, oo, e1, e2⟩ := hvb.at_ hk (i := l.length - 1) (by omega)
 have hls : lst l = l[l.length - 1] := by unfold lst; rw [List.getD_eq_getElem?_getD, List.getElem?_eq_getElem (by omega)]; rfl
 rw [← hls] at e2
 have p0' : cellA Hb s 0 = some (slc bb oo l.length l.length) := by rw [p0, e1]
 have hsub1 : IntKind.i64.wrap ((l.length : Int) - 1) = ((l.length - 1 : Nat) : Int) := by rw [wrap_i64 (by omega) (by omega)]; omega
 simp only [W_block, ANs, AOp.map, seval, initFr, ANc, bi_u, p0', show (0 : Int) < (l.length : Int) by omega, decide_true, full gab (LC_len hx), hsub1, show (0 : Int) ≤ ((l.length - 1 : Nat) : Int) by omega, show ((l.length - 1 : Nat) : Int) < (l.length : Int) by omega, e2]
 obtain ⟨_, Hx, r34, rfl, k34⟩ := t34 (H := Hb) x (lst l)
 refine ⟨_, _, r34, trivial, ?_⟩
 have kX := kAB.trans k34
 have gaX := k34.at_ gab
 by_cases hcm : cmpL x (lst l) ≤ 0
 ·simp only [h0, hcm, and_self, if_true] at hq2
  simp only [W_block, ANs, AOp.map, seval, initFr, ANc, bi_u, hcm, decide_true]
  exact hq2 _ _ ⟨_, rfl, rfl, keep kX⟩
 simp only [hcm, and_false, if_false] at hq2
 simp only [W_block, ANs, AOp.map, seval, initFr, ANc, bi_u, hcm, decide_false]
 have hsX := kX.at_ hs
 have hvX := hv.chg (kX.chg []) (by simp)
 have hbs := bsl70 hx Hx
 have kc := (Keeps.refl Hx).alloc (.cells true false 70 (LC x) 54)
 have gc := AHeap.get_alloc_new Hx (.cells true false 70 (LC x) 54)
 obtain ⟨Hc, hHc⟩ : ∃ Y, Y = Hx.alloc (.cells true false 70 (LC x) 54) := ⟨_, rfl⟩
 rw [← hHc] at hbs kc gc
 have hvc := hvX.chg (kc.chg []) (by simp)
 obtain ⟨v', Hd, f1, f2, f3, f4⟩ := hvc.app hk hx (by omega)
 have hap := a_app1 hx gc f1
 have cD : Chg (s :: blkL v) H Hd := ((kX.trans kc).chg (s :: blkL v)).trans (f3.mono (T := s :: blkL v) (fun z hz => by simp [hz])) (fun z hz => .inl hz)
 have hsd := f3.at_ (kc.at_ hsX) (by rw [mem_blkL]; exact hne)
 have hk2 : Ok64 (l ++ [x]) := by
  intro y hy
  rcases List.mem_append.1 hy with hy | hy
  ·exact hk y hy
  ·simp at hy; rw [hy]; exact hx
 obtain ⟨va', hva'⟩ := f2.sh
 have st : asem (.store1 (ptr s 0) v') Hd = some (undef, Hd.set s (.cells true false 2 [v', .int .i64 a] 48)) := by rw [a_st (o := 0) (x := v') hsd (by simp) (by rw [hva']; rfl)]; rfl
 have nX := kX.n
 have nc := kc.n
 have hne' : blk v' ≠ some s := by rw [f4]; intro e; cases e; omega
 have g1 := get1 hsd (.cells true false 2 [v', .int .i64 a] 48)
 have f5 := f2.chg (Chg.set Hd (AHeap.get_lt hsd) (.cells true false 2 [v', .int .i64 a] 48)) (by intro z hz; rw [mem_blkL] at hz; intro e; simp at e; rw [e] at hz; exact hne' hz)
 have q0 : cellA (Hd.set s (.cells true false 2 [v', .int .i64 a] 48)) s 0 = some v' := by rw [cellA_of g1]; rfl
 have q1 : cellA (Hd.set s (.cells true false 2 [v', .int .i64 a] 48)) s 1 = some (.int .i64 a) := by rw [cellA_of g1]; rfl
 have hlen' : ∀ Y, asem (.len false v') Y = some (.int .i64 ((l.length + 1 : Nat) : Int), Y) := by intro Y; rw [hva']; simp [asem, lenA]
 by_cases h8 : 8 < l.length + 1
 ·simp only [h8, if_true] at hq2
  obtain ⟨w, d1, d2, d3⟩ := f5.drop1 hk2 (by simp)
  obtain ⟨vw, hvw⟩ := d2.sh
  have hsub : IntKind.i64.wrap ((a : Int) - 1) = (a : Int) - 1 := wrap_i64 (by omega) (by omega)
  have hmx : (if (a : Int) - 1 > 0 then (a : Int) - 1 else 0) = ((a - 1 : Nat) : Int) := by split <;> omega
  have s1 : asem (.store1 (ptr s 0) w) (Hd.set s (.cells true false 2 [v', .int .i64 a] 48)) = some (undef, Hd.set s (.cells true false 2 [w, .int .i64 a] 48)) := by rw [a_st (o := 0) (x := w) g1 (by simp) (by rw [hvw]; rfl), set2]; rfl
  have g2 := get1 hsd (.cells true false 2 [w, .int .i64 a] 48)
  have s2 : asem (.store1 (ptr s 1) (.int .i64 ((a - 1 : Nat) : Int))) (Hd.set s (.cells true false 2 [w, .int .i64 a] 48)) = some (undef, Hd.set s (.cells true false 2 [w, .int .i64 ((a - 1 : Nat) : Int)] 48)) := by rw [a_st (o := 1) (x := .int .i64 ((a - 1 : Nat) : Int)) g2 (by simp) rfl, set2]; rfl
  simp only [W_block, ANs, AOp.map, seval, initFr, ANc, bi_u, cellA_of hsX, full gaX (LC_len hx), hbs, sd_app, hap, st, q0, hlen', show (8 : Int) < ((l.length + 1 : Nat) : Int) by omega, decide_true, d1, q1, hsub, sd_mm, a_mmx, hmx, s1, s2]
  refine hq2 _ _ ⟨_, rfl, rfl, w, ⟨get1 hsd _, ?_, by rw [d3]; exact hne', fun y hy => hk2 y (List.mem_of_mem_drop hy)⟩, cD.trans (Chg.set Hd (AHeap.get_lt hsd) _) (by simp), fun b hb => .inr (by rw [d3, f4] at hb; cases hb; omega)⟩
  have h5 := d2.chg (Chg.set (Hd.set s (.cells true false 2 [v', .int .i64 a] 48)) (AHeap.get_lt g1) (.cells true false 2 [w, .int .i64 ((a - 1 : Nat) : Int)] 48)) (by intro z hz; rw [mem_blkL, d3] at hz; intro e; simp at e; rw [e] at hz; exact hne' hz)
  rw [set2] at h5; exact h5
 ·simp only [h8, if_false] at hq2
  simp only [W_block, ANs, AOp.map, seval, initFr, ANc, bi_u, cellA_of hsX, full gaX (LC_len hx), hbs, sd_app, hap, st, q0, hlen', show ¬ (8 : Int) < ((l.length + 1 : Nat) : Int) by omega, decide_false]
  exact hq2 _ _ ⟨_, rfl, rfl, v', ⟨g1, f5, hne', hk2⟩, cD.trans (Chg.set Hd (AHeap.get_lt hsd) _) (by simp), fun b hb => .inr (by rw [f4] at hb; cases hb; omega)⟩
end Go.AM.Rp

namespace Go.AM.Rp
open Go.Proofs
def ackL (l : List Lg) (a : Nat) : Lg := if a = 0 then L0 else l.getD (a - 1) L0
theorem ackL_ok {l : List Lg} {a : Nat} (hk : Ok64 l) (ha : a ≤ l.length) : (ackL l a).s.t.length = 64 := by
 unfold ackL; split
 ·rfl
 ·rw [List.getD_eq_getElem?_getD, List.getElem?_eq_getElem (by omega)]
  exact hk _ (List.getElem_mem _)
theorem t29 {H : AHeap} {s : Nat} {l : List Lg} {a : Nat} (h : SdS H s l a) (hl : l.length ≤ 100) (ha : a ≤ l.length) :
  ∃ w H', ARun Try.prog 0 29 [ptr s 0] H w H' ∧ w = .tuple #[.agg (LC (ackL l a)).toArray, .bool (decide (0 < a))] ∧ Keeps H H' := by
 refine walk2 f29_ok f29_n ?_
 intro Q hq1 hq2
 obtain ⟨v, hs, hv, hne, hk⟩ := h
 obtain ⟨Ha, hHa⟩ : ∃ X, X = H.alloc (.cells true false 70 Z70 54) := ⟨_, rfl⟩
 have ka := (Keeps.refl H).alloc (.cells true false 70 Z70 54)
 have ga := AHeap.get_alloc_new H (.cells true false 70 Z70 54)
 rw [← hHa] at ka ga
 have hsa := ka.at_ hs
 have hva := hv.chg (ka.chg []) (by simp)
 have p0 : cellA Ha s 0 = some v := by rw [cellA_of hsa]; rfl
 have p1 : cellA Ha s 1 = some (.int .i64 a) := by rw [cellA_of hsa]; rfl
 unfold ackL at hq2
 by_cases h0 : a = 0
 ·have st := stAll ga rfl (show Z70.length = 70 from rfl) z70
  subst h0
  simp only [if_true] at hq2
  simp only [f29, W_block, ANs, AOp.map, seval, initFr, ANc, bi_u, z70, ← hHa, p1, show (((0 : Nat) : Int) == 0) = true by rfl, fl70, st]
  exact hq2 _ _ ⟨_, resCn1 70 2 (b := H.n) (cs := Z70) rfl (full (get1 ga _) rfl), rfl, ka.chg_trans (Chg.set Ha (AHeap.get_lt ga) _) (by simp)⟩
 ·simp only [h0, if_false] at hq2
  obtain ⟨bb, oo, e1, e2⟩ := hva.at_ hk (i := a - 1) (by omega)
  have hls : l.getD (a - 1) L0 = l[a - 1] := by rw [List.getD_eq_getElem?_getD, List.getElem?_eq_getElem (by omega)]; rfl
  have hko : (l[a - 1]).s.t.length = 64 := hk _ (List.getElem_mem _)
  rw [hls] at hq2
  have p0' : cellA Ha s 0 = some (slc bb oo l.length l.length) := by rw [p0, e1]
  have hsub1 : IntKind.i64.wrap ((a : Int) - 1) = ((a - 1 : Nat) : Int) := by rw [wrap_i64 (by omega) (by omega)]; omega
  have st := stAll ga (show Z70.length = 70 from rfl) (LC_len hko) (LC_one _)
  simp only [f29, W_block, ANs, AOp.map, seval, initFr, ANc, bi_u, z70, ← hHa, p1, show ((a : Int) == 0) = false by simp [h0], p0', hsub1, show (0 : Int) ≤ ((a - 1 : Nat) : Int) by omega, show ((a - 1 : Nat) : Int) < (l.length : Int) by omega, e2, st]
  exact hq2 _ _ ⟨_, resCn1 70 2 (b := H.n) rfl (full (get1 ga _) (LC_len hko)), by rw [show decide (0 < a) = true by simp; omega]; rfl, ka.chg_trans (Chg.set Ha (AHeap.get_lt ga) _) (by simp)⟩
end Go.AM.Rp

namespace Go.AM.Rp
open Go.Proofs
def sendR (l : List Lg) (a : Nat) : Msg × Bool :=
 if a = l.length then (G0, false)
 else if 0 < a then (⟨2, (lst l).e, (lst l).c, (ackL l a).e, (ackL l a).c, S0, diffD (ackL l a).s (lst l).s⟩, true)
 else ({ G0 with k := 1, e := (lst l).e, c := (lst l).c, s := (lst l).s }, true)
theorem Z78_split : Z78 = .int .u8 0 :: .int .i64 0 :: .int .i64 0 :: .int .i64 0 :: .int .i64 0 :: (Z68 ++ D5 0 0 0 0 (.slice none 0 0)) := by kernel_rfl
theorem flP (e c be b : Int) (d : D) (w : Value) : fillA Z78 [(0, 1, .int .u8 2), (1, 1, .int .i64 e), (2, 1, .int .i64 c), (3, 1, .int .i64 be), (4, 1, .int .i64 b), (73, 5, .agg (D5 d.a d.b d.c d.p w).toArray)] = some (GC ⟨2, e, c, be, b, S0, d⟩ w) := by
 kernel_rfl
theorem Z68_len : Z68.length = 68 := by kernel_rfl
theorem flW (e c : Int) {s : S} (hs : s.t.length = 64) : fillA Z78 [(0, 1, .int .u8 1), (1, 1, .int .i64 e), (2, 1, .int .i64 c), (5, 68, .agg (SC s).toArray)] = some (GC { G0 with k := 1, e := e, c := c, s := s } (.slice none 0 0)) := by
 have h0 : (Value.int .u8 1).cells.toList = [.int .u8 1] := rfl
 have h1 : (Value.int .i64 e).cells.toList = [.int .i64 e] := rfl
 have h2 : (Value.int .i64 c).cells.toList = [.int .i64 c] := rfl
 have h3 : (Value.agg (SC s).toArray).cells.toList = SC s := by simp [Value.cells]
 have hz := Z78_split
 have hl2 := Z68_len
 generalize Z68 = z at *
 have hl := SC_len hs
 have hD : (D5 0 0 0 0 (.slice none 0 0)).length = 5 := rfl
 obtain ⟨zz, hzz⟩ : ∃ zz, zz = z ++ D5 0 0 0 0 (.slice none 0 0) := ⟨_, rfl⟩
 have hzl : zz.length = 73 := by rw [hzz, List.length_append, hl2, hD]
 have hzd : zz.drop 68 = D5 0 0 0 0 (.slice none 0 0) := by rw [hzz, List.drop_append_of_le_length (by omega), List.drop_of_length_le (by omega)]; rfl
 rw [hz, ← hzz]
 simp only [fillA, h0, h1, h2, h3, hl, hzl, List.length_append, List.length_cons, List.length_nil, List.take, List.drop, List.nil_append, List.singleton_append, List.cons_append, Nat.reduceAdd]
 simp only [and_self, Nat.reduceLeDiff, if_true, List.nil_append, List.cons_append, hzd]
 rfl
theorem t16o {H : AHeap} {s : Nat} {l : List Lg} {a : Nat} (h : SdS H s l a) (hl : l.length ≤ 100) (ha : a ≤ l.length) :
  ∃ w H', ARun Try.prog 0 16 [ptr s 0] H w H' ∧ Keeps H H' ∧ ∃ u, w = .tuple #[.agg (GC (sendR l a).1 u).toArray, .bool (sendR l a).2] ∧ TB H' u (sendR l a).1.d.l ∧ Fresh H.n u ∧ AP H' 90 2 u (sendR l a).1.d.l.length (TC (sendR l a).1.d.l) := by
 refine walk2 f16_ok f16_n ?_
 intro Q hq1 hq2
 have h' := h
 obtain ⟨v, hs, hv, hne, hk⟩ := h'
 obtain ⟨va, hva⟩ := hv.sh
 obtain ⟨Ha, hHa⟩ : ∃ X, X = H.alloc (.cells true false 78 Z78 41) := ⟨_, rfl⟩
 have ka := (Keeps.refl H).alloc (.cells true false 78 Z78 41)
 have ga := AHeap.get_alloc_new H (.cells true false 78 Z78 41)
 rw [← hHa] at ka ga
 have na : Ha.n = H.n + 1 := by rw [hHa]; rfl
 have z78 : Z78.all Value.oneCell' = true := rfl
 have hsa := ka.at_ hs
 have p0 : cellA Ha s 0 = some v := by rw [cellA_of hsa]; rfl
 have p1 : cellA Ha s 1 = some (.int .i64 a) := by rw [cellA_of hsa]; rfl
 have hlen : ∀ X, asem (.len false v) X = some (.int .i64 l.length, X) := by intro X; rw [hva]; rfl
 unfold sendR at hq2
 by_cases h0 : a = l.length
 ·simp only [h0, if_true] at hq2
  have st := stAll ga (show Z78.length = 78 from rfl) (show Z78.length = 78 from rfl) z78
  simp only [f16, W_block, ANs, AOp.map, seval, initFr, ANc, bi_u, z78, ← hHa, p1, p0, hlen, show ((a : Int) == (l.length : Int)) = true by simp [h0], fl78n, st]
  exact hq2 _ _ ⟨_, resCn1 78 2 (b := H.n) (cs := Z78) rfl (full (get1 ga _) rfl), ka.chg_trans (Chg.set Ha (AHeap.get_lt ga) _) (by simp), .slice none 0 0, rfl, ⟨none, 0, rfl, fun h => absurd rfl h⟩, fun b hb => (by cases hb), .inl ⟨rfl, rfl, rfl⟩⟩
 simp only [h0, if_false] at hq2
 have hva2 := hv.chg (ka.chg []) (by simp)
 obtain ⟨bb, oo, e1, e2⟩ := hva2.at_ hk (i := l.length - 1) (by omega)
 have hls : lst l = l[l.length - 1] := by unfold lst; rw [List.getD_eq_getElem?_getD, List.getElem?_eq_getElem (by omega)]; rfl
 have hly : (lst l).s.t.length = 64 := by rw [hls]; exact hk _ (List.getElem_mem _)
 have hlb := ackL_ok hk ha
 rw [← hls] at e2
 generalize lst l = y at *
 have p0' : cellA Ha s 0 = some (slc bb oo l.length l.length) := by rw [p0, e1]
 have hsub1 : IntKind.i64.wrap ((l.length : Int) - 1) = ((l.length - 1 : Nat) : Int) := by rw [wrap_i64 (by omega) (by omega)]; omega
 have vy := var70 Ha hly
 obtain ⟨Hb, hHb⟩ : ∃ X, X = Ha.alloc (.cells true false 70 (LC y) 54) := ⟨_, rfl⟩
 have kb := (Keeps.refl Ha).alloc (.cells true false 70 (LC y) 54)
 have gb := AHeap.get_alloc_new Ha (.cells true false 70 (LC y) 54)
 rw [← hHb] at kb gb vy
 have kAB := ka.trans kb
 have gab := kb.at_ ga
 simp only [f16, W_block, ANs, AOp.map, seval, initFr, ANc, bi_u, z78, ← hHa, p1, p0', show ((a : Int) == (l.length : Int)) = false by simp; omega, hsub1, show (0 : Int) ≤ ((l.length - 1 : Nat) : Int) by omega, show ((l.length - 1 : Nat) : Int) < (l.length : Int) by omega, e2, z70, vy]
 obtain ⟨_, Hc, r29, rfl, kc⟩ := t29 (H := Hb) (s := s) (l := l) (a := a) ⟨v, kAB.at_ hs, hv.chg (kAB.chg []) (by simp), hne, hk⟩ hl ha
 refine ⟨_, _, r29, ?_⟩
 generalize ackL l a = bs at *
 have vz := var70 Hc hlb
 obtain ⟨Hd, hHd⟩ : ∃ X, X = Hc.alloc (.cells true false 70 (LC bs) 54) := ⟨_, rfl⟩
 have kd := (Keeps.refl Hc).alloc (.cells true false 70 (LC bs) 54)
 have gd := AHeap.get_alloc_new Hc (.cells true false 70 (LC bs) 54)
 rw [← hHd] at kd gd vz
 have kcd := kc.trans kd
 have gbd := kcd.at_ gb
 have gad := kcd.at_ gab
 have kD := kAB.trans kcd
 have sl68 : ∀ {X : AHeap} {b : Nat} {z : Lg}, z.s.t.length = 64 → X.get b = some (.cells true false 70 (LC z) 54) → rangeA X b 2 68 = some (SC z.s) := by
  intro X b z hz g
  rw [rangeA_of g, if_pos (by rw [LC_len hz]; omega)]; simp only [LC, List.drop]; rw [List.take_of_length_le (by rw [SC_len hz]; omega)]
 have y0 : cellA Hd Ha.n 0 = some (.int .i64 y.e) := by rw [cellA_of gbd]; rfl
 have y1 : cellA Hd Ha.n 1 = some (.int .i64 y.c) := by rw [cellA_of gbd]; rfl
 have b0 : cellA Hd Hc.n 0 = some (.int .i64 bs.e) := by rw [cellA_of gd]; rfl
 have b1 : cellA Hd Hc.n 1 = some (.int .i64 bs.c) := by rw [cellA_of gd]; rfl
 by_cases h1 : 0 < a
 ·simp only [h1, if_true] at hq2
  simp only [W_block, ANs, AOp.map, seval, initFr, ANc, bi_u, h1, decide_true, z70, vz, y0, y1, b0, b1, sl68 hly gbd, sl68 hlb gd]
  obtain ⟨_, He, r9, ke, w, rfl, tw, fw, apw⟩ := t9o (H := Hd) (s := bs.s) (t := y.s) hlb hly
  refine ⟨_, _, r9, ?_, ?_⟩
  ·simp [oblA, clsA, touchA, readsA, ptr, keepsB, olderB, AOp.map]; exact ⟨ke.get _ (AHeap.get_lt gbd), ke.get _ (AHeap.get_lt gd)⟩
  have gae := ke.at_ gad
  have st := stAll gae (show Z78.length = 78 from rfl) (GC_len (m := ⟨2, y.e, y.c, bs.e, bs.c, S0, diffD bs.s y.s⟩) rfl w) (GC_one _ tw.one)
  have fp : fillA Z78 [(0, 1, .int .u8 2), (1, 1, .int .i64 y.e), (2, 1, .int .i64 y.c), (3, 1, .int .i64 bs.e), (4, 1, .int .i64 bs.c), (73, 5, .agg (D5 (xr 64 bs.s.a y.s.a) (xr 64 bs.s.b y.s.b) (xr 64 bs.s.c y.s.c) (xr 32 bs.s.p y.s.p) w).toArray)] = some (GC ⟨2, y.e, y.c, bs.e, bs.c, S0, diffD bs.s y.s⟩ w) := flP y.e y.c bs.e bs.c (diffD bs.s y.s) w
  have kF := (kD.trans ke).chg_trans (Chg.set He (AHeap.get_lt gae) (.cells true false 78 (GC ⟨2, y.e, y.c, bs.e, bs.c, S0, diffD bs.s y.s⟩ w) 41)) (by simp)
  simp only [W_block, ANs, AOp.map, seval, initFr, ANc, bi_u, fp, st]
  exact hq2 _ _ ⟨_, resCn1 78 2 (b := H.n) rfl (full (get1 gae _) (GC_len (m := ⟨2, y.e, y.c, bs.e, bs.c, S0, diffD bs.s y.s⟩) rfl w)), kF, w, rfl, tw.chg (Chg.set He (AHeap.get_lt gae) _) (by
   intro z hz
   have := fw z (mem_blkL.1 hz)
   have := kD.n
   have := AHeap.get_lt gad
   simp; omega), fun b hb => by
   have := fw b hb
   have := kD.n
   omega, AP.chg apw (Chg.set He (AHeap.get_lt gae) _) (by
   intro z hz
   have := fw z (mem_blkL.1 hz)
   have := kD.n
   have := AHeap.get_lt gad
   simp; omega)⟩
 ·simp only [h1, if_false] at hq2
  simp only [W_block, ANs, AOp.map, seval, initFr, ANc, bi_u, h1, decide_false, z70, vz, y0, y1, sl68 hly gbd, flW y.e y.c hly]
  have st := stAll gad (show Z78.length = 78 from rfl) (GC_len (m := { G0 with k := 1, e := y.e, c := y.c, s := y.s }) hly (.slice none 0 0)) (GC_one _ rfl)
  simp only [W_block, ANs, AOp.map, seval, initFr, ANc, bi_u, st]
  exact hq2 _ _ ⟨_, resCn1 78 2 (b := H.n) rfl (full (get1 gad _) (GC_len (m := { G0 with k := 1, e := y.e, c := y.c, s := y.s }) hly _)), kD.chg_trans (Chg.set Hd (AHeap.get_lt gad) _) (by simp), .slice none 0 0, rfl, ⟨none, 0, rfl, fun h => absurd rfl h⟩, fun b hb => (by cases hb), .inl ⟨rfl, rfl, rfl⟩⟩
theorem t16 {H : AHeap} {s : Nat} {l : List Lg} {a : Nat} (h : SdS H s l a) (hl : l.length ≤ 100) (ha : a ≤ l.length) :
  ∃ w H', ARun Try.prog 0 16 [ptr s 0] H w H' ∧ Keeps H H' ∧ ∃ u, w = .tuple #[.agg (GC (sendR l a).1 u).toArray, .bool (sendR l a).2] ∧ TB H' u (sendR l a).1.d.l ∧ Fresh H.n u := by
 obtain ⟨w, H', h1, h2, u, h3, h4, h5, _⟩ := t16o h hl ha
 exact ⟨w, H', h1, h2, u, h3, h4, h5⟩
end Go.AM.Rp

namespace Go.AM.Rp
open Go.Proofs
def beginR (x : Option Lg) (y : Lg) : Int × Option Lg := if inB [y.e, y.c] then (0, some y) else (2, x)
theorem t30 {H : AHeap} {r : Nat} {x : Option Lg} {y : Lg} (h : RvS H r x) : ∃ w H', ARun Try.prog 0 30 [ptr r 0, .agg (LC y).toArray] H w H' ∧ w = .int .i64 (beginR x y).1 ∧ RvS H' r (beginR x y).2 ∧ Chg [r] H H' ∧ (cellA H' r 0 = cellA H r 0 ∨ ∃ b, cellA H' r 0 = some (ptr b 0) ∧ H.n ≤ b) := by
 refine walk2 f30_ok f30_n ?_
 intro Q hq1 hq2
 have hc1 : (Value.agg (LC y).toArray).cells.toList = LC y := by simp [Value.cells]
 obtain ⟨p, hp⟩ : ∃ p, H.get r = some (.cells true false 1 [p] 51) := by
  cases x with
  | none => exact ⟨_, h⟩
  | some x => obtain ⟨b, h1, _⟩ := h; exact ⟨_, h1⟩
 have hrn := AHeap.get_lt hp
 have rk : ∀ {X : AHeap}, Keeps H X → RvS X r x := by
  intro X k
  cases x with
  | none => exact k.at_ h
  | some y => obtain ⟨b, h1, h2, h3⟩ := h; exact ⟨b, k.at_ h1, k.at_ h2, h3⟩
 obtain ⟨Ha, hHa⟩ : ∃ X, X = H.alloc (.cells true false 70 (LC y) 54) := ⟨_, rfl⟩
 have ka := (Keeps.refl H).alloc (.cells true false 70 (LC y) 54)
 have ga := AHeap.get_alloc_new H (.cells true false 70 (LC y) 54)
 rw [← hHa] at ka ga
 have c0 : cellA Ha H.n 0 = some (.int .i64 y.e) := by rw [cellA_of ga]; rfl
 have c1 : cellA Ha H.n 1 = some (.int .i64 y.c) := by rw [cellA_of ga]; rfl
 simp only [f30, W_block, ANs, AOp.map, seval, initFr, ANc, hc1, LC_one, ← hHa, c0, c1, bsl2]
 have kb := (Keeps.refl Ha).alloc (.cells true false 1 [.int .i64 y.e, .int .i64 y.c] 2)
 refine ⟨_, _, t33 (il2 2 y.e y.c Ha) (by simp), ?_⟩
 generalize Ha.alloc (.cells true false 1 [.int .i64 y.e, .int .i64 y.c] 2) = Hb at *
 have kAB := ka.trans kb
 have gy := kb.at_ ga
 have hpb := kAB.at_ hp
 unfold beginR at hq2
 cases hin : inB [y.e, y.c]
 ·simp only [hin, Bool.false_eq_true, if_false] at hq2
  simp only [W_block, ANs, AOp.map, seval, initFr, ANc]
  exact hq2 _ _ ⟨_, rfl, rfl, rk kAB, kAB.chg _, .inl (by unfold cellA; rw [kAB.get r hrn])⟩
 ·simp only [hin, if_true] at hq2
  have st : asem (.store1 (ptr r 0) (ptr H.n 0)) Hb = some (undef, Hb.set r (.cells true false 1 [ptr H.n 0] 51)) := by rw [a_st (o := 0) (x := ptr H.n 0) hpb (by simp) rfl]; rfl
  have dr := Chg.set Hb (b := r) (AHeap.get_lt hpb) (.cells true false 1 [ptr H.n 0] 51)
  simp only [W_block, ANs, AOp.map, seval, initFr, ANc, st]
  exact hq2 _ _ ⟨_, rfl, rfl, ⟨H.n, get1 hpb _, dr.at_ gy (by simp; omega), by omega⟩, (kAB.chg [r]).trans dr (fun x hx => .inl hx), .inr ⟨H.n, by rw [cellA_of (get1 hpb _)]; rfl, Nat.le_refl _⟩⟩
end Go.AM.Rp

namespace Go.AM.Rp
open Go.Proofs
theorem t18 {H : AHeap} {v : Value} {n k : Nat} {c : List Value} (h : AP H 41 78 v n c) (hk : k < n) (hn : n ≤ 1000) :
  ∃ w H', ARun Try.prog 0 18 [v, .int .i64 k] H w H' ∧ AP H' 41 78 w (n - 1) (c.take (k * 78) ++ c.drop ((k + 1) * 78)) ∧ Keeps H H' ∧ Fresh H.n w := by
 refine walk2 f18_ok f18_n ?_
 intro Q hq1 hq2
 rcases h with ⟨_, rfl, _⟩ | ⟨b, room, rfl, hc, hb⟩
 ·omega
 have s1 := a_slsl (o := 0) hb (bnd_none n n) (bnd_some .i64 k n n (by omega)) (bnd_none 0 k)
 have el1 : elemsA H 78 (slc b (0 + 0 * 78) (k - 0) (n - 0)) = some (c.take (k * 78)) := by
  simp only [elemsA, slc, hb, Nat.zero_mul, Nat.sub_zero, Nat.add_zero]
  rw [if_pos (by omega), List.drop_zero]
 simp only [f18, W_block, ANs, AOp.map, seval, initFr, ANc, s1]
 refine appR (n := 0) (c := []) (.inl ⟨rfl, rfl, rfl⟩) ⟨_, _, rfl⟩ el1 (by rw [List.length_take]; omega) (by omega) ?_
 intro v1 H1 ap1 c1 hb1
 have k1 : Keeps H H1 := c1.keeps (by intro z hz; rw [mem_blkL] at hz; cases hz)
 have hbk := k1.at_ hb
 have f1 : Fresh H.n v1 := by
  intro z hz
  rcases hb1 with e | e
  ·rw [e] at hz; cases hz
  ·rw [e] at hz; cases hz; exact Nat.le_refl _
 have s2 := a_slsl (o := 0) hbk (bnd_none n n) (bnd_none n n) (bnd_some .i64 (k + 1) 0 n (by omega))
 have el2 : elemsA H1 78 (slc b (0 + (k + 1) * 78) (n - (k + 1)) (n - (k + 1))) = some (c.drop ((k + 1) * 78)) := by
  simp only [elemsA, slc, hbk, Nat.zero_add]
  rw [if_pos (by omega), List.take_of_length_le (by rw [List.length_drop]; omega)]
 simp only [W_block, ANs, AOp.map, seval, initFr, ANc, wrap_succ (n := k) (by omega), s2]
 simp only [List.nil_append, Nat.zero_add, Nat.sub_zero] at ap1 el2
 refine appR ap1 ⟨_, _, rfl⟩ (by simpa using el2) (by rw [List.length_drop]; omega) (by omega) ?_
 intro v2 H2 ap2 c2 hb2
 simp only [W_block, ANs, AOp.map, seval, initFr, ANc]
 have k2 : Keeps H H2 := k1.chg_trans c2 (by intro z hz; exact f1 z (mem_blkL.1 hz))
 refine hq2 _ _ ⟨_, rfl, ?_, k2, ?_⟩
 ·have : k + (n - (k + 1)) = n - 1 := by omega
  rw [this] at ap2
  exact ap2
 ·intro z hz
  change blk v2 = some z at hz
  rcases hb2 with e | e
  ·rw [e] at hz; exact f1 z hz
  ·rw [e] at hz; cases hz; exact k1.n
end Go.AM.Rp

namespace Go.AM.Rp
open Go.Proofs
theorem LC_0 (x : Lg) : (LC x)[0]? = some (.int .i64 x.e) := rfl
theorem LC_1 (x : Lg) : (LC x)[1]? = some (.int .i64 x.c) := rfl
theorem SL.sl {H : AHeap} {v : Value} {l : List Lg} (h : SL H v l) (hk : Ok64 l) : Sl H 70 v (l.map LC) := by
 have hfl : (l.map LC).flatten = FL l := by simp [FL, List.flatMap_def]
 have hr : ∀ r ∈ l.map LC, r.length = 70 := by
  intro r hr; simp at hr; obtain ⟨y, hy, rfl⟩ := hr; exact LC_len (hk y hy)
 rcases h with ⟨rfl, rfl⟩ | ⟨b, o, room, c, rfl, h1, h2, h3⟩
 ·exact Sl.nil H 70
 ·refine ⟨⟨_, l.length, by rw [List.length_map]; rfl⟩, hr, ?_⟩
  have hl := congrArg List.length h2
  rw [List.length_drop, FL_len l hk] at hl
  simp only [elemsA, slc, h1, hfl]
  rw [if_pos (by omega), h2, List.take_of_length_le (by rw [FL_len l hk]; omega)]
def Rise (l : List Lg) : Prop := ∀ (i j : Nat) (hi : i < l.length) (hj : j < l.length), i < j → cmpL l[i] l[j] < 0
theorem cmpI_lt {a b : Int} : cmpI a b < 0 ↔ a < b := by unfold cmpI; split <;> first | omega | (split <;> omega)
theorem cmpI_eq {a b : Int} : cmpI a b = 0 ↔ a = b := by unfold cmpI; split <;> first | omega | (split <;> omega)
theorem cmpL_lt {x y : Lg} : cmpL x y < 0 ↔ x.e < y.e ∨ x.e = y.e ∧ x.c < y.c := by
 have h1 := @cmpI_lt x.e y.e
 have h2 := @cmpI_eq x.e y.e
 have h3 := @cmpI_lt x.c y.c
 unfold cmpL
 by_cases h : cmpI x.e y.e = 0
 ·simp only [h, ne_eq, not_true_eq_false, if_false]; omega
 ·rw [if_pos h]; omega
theorem cmpL_eq {x y : Lg} : cmpL x y = 0 ↔ x.e = y.e ∧ x.c = y.c := by
 have h2 := @cmpI_eq x.e y.e
 have h3 := @cmpI_eq x.c y.c
 unfold cmpL
 by_cases h : cmpI x.e y.e = 0
 ·simp only [h, ne_eq, not_true_eq_false, if_false]; omega
 ·rw [if_pos h]; omega
theorem t36 {H : AHeap} {v : Value} {l : List Lg} {x : Lg} (h : SL H v l) (hk : Ok64 l) (hx : x.s.t.length = 64) (hr : Rise l) (hl : l.length ≤ 1000) :
  ∃ w H', ARun Try.prog 0 36 [v, .agg (LC x).toArray, .func (.func 34) #[] #[]] H w H' ∧ Keeps H H' ∧ ∃ (i : Nat) (ok : Bool), w = .tuple #[.int .i64 i, .bool ok] ∧ (ok = true → ∃ h : i < l.length, cmpL l[i] x = 0) ∧ (ok = false → ∀ (j : Nat) (h : j < l.length), cmpL l[j] x ≠ 0) := by
 refine walk2 f36_ok f36_n ?_
 intro Q hq1 hq2
 have hs := h.sl hk
 have his := hs.is
 have hlen := hs.len
 rw [List.length_map] at hlen
 have lx := LC_len hx
 simp (disch := (first | assumption | omega | (simp only [alloc_n, set_n] <;> omega) | (simp (disch := (first | assumption | omega | (simp only [alloc_n, set_n] <;> omega))) only [row_alloc, row_set]; assumption))) only [f36, W_block, ANs, A3s, AOp.map, ↓reduceIte, Nat.reduceAdd, Nat.reduceEqDiff, reduceCtorEq, initFr, Nat.reduceLT, clsA, List.take, List.drop, Nat.reduceLeDiff, Nat.reduceMul, Nat.reduceSub, reduceIte, ANc, A3c, LC_one, hlen]
 obtain ⟨Ha, hHa⟩ : ∃ X, X = H.alloc (.cells true false 70 (LC x) 54) := ⟨_, rfl⟩
 have ka := (Keeps.refl H).alloc (.cells true false 70 (LC x) 54)
 have ga := AHeap.get_alloc_new H (.cells true false 70 (LC x) 54)
 rw [← hHa] at ka ga ⊢
 have la := AHeap.get_lt ga
 refine W_loop2 (fun q fr K => Keeps Ha K ∧ ∃ (i j : Nat) (a b c : Value), i ≤ j ∧ j ≤ l.length ∧ q = j - i ∧ (∀ (k : Nat) (h : k < l.length), k < i → cmpL l[k] x < 0) ∧ (∀ (k : Nat) (h : k < l.length), j ≤ k → 0 ≤ cmpL l[k] x) ∧
  fr = [v, .agg (LC x).toArray, .func (.func 34) #[] #[], ptr H.n 0, .int .i64 0, .bool false, .int .i64 l.length, .int .i64 i, .int .i64 j, a, b, c]) l.length ⟨Keeps.refl _, 0, l.length, undef, undef, undef, by omega, by omega, rfl, by omega, by omega, rfl⟩ ?_
 rintro Q' q fr K ⟨kK, i, j, a, b, c, hij, hjl, rfl, hlo, hhi, rfl⟩ hn he hrt
 have g := kK.at_ ga
 have nK := kK.n
 by_cases hc : i < j
 ·have hsk := (hs.keeps ka).keeps kK
  have hm : (i + j) / 2 < l.length := by omega
  obtain ⟨hnn, hrow⟩ := hsk.at_ (by omega) (i := (i + j) / 2) (by simpa using hm)
  rw [List.getElem_map] at hrow
  have hw : IntKind.i64.wrap ((i : Int) + (j : Int)) = ((i + j : Nat) : Int) := by rw [wrap_i64 (by omega) (by omega)]; push_cast; rfl
  have hw2 : IntKind.u64.wrap ((i + j : Nat) : Int) = ((i + j : Nat) : Int) := by rw [wrap_u64]; omega
  have hw3 : IntKind.i64.wrap (((i + j) / 2 : Nat) : Int) = (((i + j) / 2 : Nat) : Int) := wrap_i64 (by omega) (by omega)
  simp (disch := (first | assumption | omega | (simp only [alloc_n, set_n] <;> omega) | (simp (disch := (first | assumption | omega | (simp only [alloc_n, set_n] <;> omega))) only [row_alloc, row_set]; assumption))) only [W_block, ANs, A3s, AOp.map, ↓reduceIte, Nat.reduceAdd, Nat.reduceEqDiff, reduceCtorEq, initFr, Nat.reduceLT, clsA, List.take, List.drop, Nat.reduceLeDiff, Nat.reduceMul, Nat.reduceSub, reduceIte, ANc, A3c, hw, hw2, hw3, b_shr1, g]
  refine callK (t34 (H := K) l[(i + j) / 2] x) ?_
  rintro _ K2 ⟨rfl, k2⟩
  simp (disch := (first | assumption | omega | (simp only [alloc_n, set_n] <;> omega) | (simp (disch := (first | assumption | omega | (simp only [alloc_n, set_n] <;> omega))) only [row_alloc, row_set]; assumption))) only [W_block, ANs, A3s, AOp.map, ↓reduceIte, Nat.reduceAdd, Nat.reduceEqDiff, reduceCtorEq, initFr, Nat.reduceLT, clsA, List.take, List.drop, Nat.reduceLeDiff, Nat.reduceMul, Nat.reduceSub, reduceIte, ANc, A3c]
  have kk := kK.trans k2
  by_cases hcm : cmpL l[(i + j) / 2] x < 0
  ·simp (disch := (first | assumption | omega | (simp only [alloc_n, set_n] <;> omega) | (simp (disch := (first | assumption | omega | (simp only [alloc_n, set_n] <;> omega))) only [row_alloc, row_set]; assumption))) only [W_block, ANs, A3s, AOp.map, ↓reduceIte, Nat.reduceAdd, Nat.reduceEqDiff, reduceCtorEq, initFr, Nat.reduceLT, clsA, List.take, List.drop, Nat.reduceLeDiff, Nat.reduceMul, Nat.reduceSub, reduceIte, ANc, A3c, wrap_succ (n := (i + j) / 2) (by omega)]
   refine hn _ _ _ ⟨kk, (i + j) / 2 + 1, j, _, _, _, by omega, hjl, rfl, ?_, hhi, rfl⟩ (by omega)
   intro k hk2 hk3
   rcases Nat.lt_or_ge k ((i + j) / 2) with h1 | h1
   ·have := cmpL_lt.1 (hr _ _ hk2 hm h1)
    rw [cmpL_lt] at hcm ⊢
    omega
   ·have : k = (i + j) / 2 := by omega
    subst this; exact hcm
  ·simp (disch := (first | assumption | omega | (simp only [alloc_n, set_n] <;> omega) | (simp (disch := (first | assumption | omega | (simp only [alloc_n, set_n] <;> omega))) only [row_alloc, row_set]; assumption))) only [W_block, ANs, A3s, AOp.map, ↓reduceIte, Nat.reduceAdd, Nat.reduceEqDiff, reduceCtorEq, initFr, Nat.reduceLT, clsA, List.take, List.drop, Nat.reduceLeDiff, Nat.reduceMul, Nat.reduceSub, reduceIte, ANc, A3c]
   refine hn _ _ _ ⟨kk, i, (i + j) / 2, _, _, _, by omega, by omega, rfl, hlo, ?_, rfl⟩ (by omega)
   intro k hk2 hk3
   rcases Nat.lt_or_ge ((i + j) / 2) k with h1 | h1
   ·have := cmpL_lt.1 (hr _ _ hm hk2 h1)
    apply Decidable.byContradiction
    intro hng
    apply hcm
    have hng := cmpL_lt.1 (Int.not_le.1 hng)
    rw [cmpL_lt]
    omega
   ·have : k = (i + j) / 2 := by omega
    subst this; omega
 ·simp (disch := (first | assumption | omega | (simp only [alloc_n, set_n] <;> omega) | (simp (disch := (first | assumption | omega | (simp only [alloc_n, set_n] <;> omega))) only [row_alloc, row_set]; assumption))) only [W_block, ANs, A3s, AOp.map, ↓reduceIte, Nat.reduceAdd, Nat.reduceEqDiff, reduceCtorEq, initFr, Nat.reduceLT, clsA, List.take, List.drop, Nat.reduceLeDiff, Nat.reduceMul, Nat.reduceSub, reduceIte, ANc, A3c]
  refine he _ _ _ ?_
  have hij' : i = j := by omega
  subst hij'
  by_cases hn : i < l.length
  ·have hsk := (hs.keeps ka).keeps kK
   obtain ⟨hnn, hrow⟩ := hsk.at_ (by omega) (i := i) (by simpa using hn)
   rw [List.getElem_map] at hrow
   simp (disch := (first | assumption | omega | (simp only [alloc_n, set_n] <;> omega) | (simp (disch := (first | assumption | omega | (simp only [alloc_n, set_n] <;> omega))) only [row_alloc, row_set]; assumption))) only [W_block, ANs, A3s, AOp.map, ↓reduceIte, Nat.reduceAdd, Nat.reduceEqDiff, reduceCtorEq, initFr, Nat.reduceLT, clsA, List.take, List.drop, Nat.reduceLeDiff, Nat.reduceMul, Nat.reduceSub, reduceIte, ANc, A3c, g]
   refine callK (t34 (H := K) l[i] x) ?_
   rintro _ K2 ⟨rfl, k2⟩
   simp (disch := (first | assumption | omega | (simp only [alloc_n, set_n] <;> omega) | (simp (disch := (first | assumption | omega | (simp only [alloc_n, set_n] <;> omega))) only [row_alloc, row_set]; assumption))) only [W_block, ANs, A3s, AOp.map, ↓reduceIte, Nat.reduceAdd, Nat.reduceEqDiff, reduceCtorEq, initFr, Nat.reduceLT, clsA, List.take, List.drop, Nat.reduceLeDiff, Nat.reduceMul, Nat.reduceSub, reduceIte, ANc, A3c]
   refine hq2 _ _ ⟨_, rfl, (ka.trans kK).trans k2, i, _, rfl, ?_, ?_⟩
   ·intro h0; exact ⟨hn, by simpa using h0⟩
   ·intro h0 k hk2 hk3
    have h0' : ¬ cmpL l[i] x = 0 := by simpa using h0
    have h1 := hhi i hn (Nat.le_refl _)
    rcases Nat.lt_or_ge k i with h2 | h2
    ·have := hlo k hk2 h2; omega
    ·rcases Nat.lt_or_ge i k with h3 | h3
     ·have h4 := cmpL_lt.1 (hr _ _ hn hk2 h3)
      have h5 := cmpL_eq.1 hk3
      have h6 : cmpL l[i] x < 0 := by rw [cmpL_lt]; omega
      omega
     ·have : k = i := by omega
      subst this; exact h0' hk3
  ·simp (disch := (first | assumption | omega | (simp only [alloc_n, set_n] <;> omega) | (simp (disch := (first | assumption | omega | (simp only [alloc_n, set_n] <;> omega))) only [row_alloc, row_set]; assumption))) only [W_block, ANs, A3s, AOp.map, ↓reduceIte, Nat.reduceAdd, Nat.reduceEqDiff, reduceCtorEq, initFr, Nat.reduceLT, clsA, List.take, List.drop, Nat.reduceLeDiff, Nat.reduceMul, Nat.reduceSub, reduceIte, ANc, A3c]
   refine hq2 _ _ ⟨_, rfl, ka.trans kK, i, _, rfl, (fun h => by cases h), ?_⟩
   intro _ k hk2 hk3
   have := hlo k hk2 (by omega); omega
end Go.AM.Rp

namespace Go.AM.Rp
open Go.Proofs
theorem GC_0 (m : Msg) (v : Value) : (GC m v)[0]? = some (.int .u8 m.k) := rfl
theorem GC_1 (m : Msg) (v : Value) : (GC m v)[1]? = some (.int .i64 m.e) := rfl
theorem GC_2 (m : Msg) (v : Value) : (GC m v)[2]? = some (.int .i64 m.c) := rfl
theorem GC_3 (m : Msg) (v : Value) : (GC m v)[3]? = some (.int .i64 m.be) := rfl
theorem GC_4 (m : Msg) (v : Value) : (GC m v)[4]? = some (.int .i64 m.b) := rfl
def keyIs (e c : Int) (y : Lg) : Bool := y.e == e && y.c == c
def hearS (l : List Lg) (a : Nat) (m : Msg) : Int × Nat :=
 if mayB m = false ∨ m.k < 3 then (2, a)
 else if m.k = 4 then (0, 0)
 else match l.findIdx? (keyIs m.e m.c) with
  | some i => (0, max a (i + 1))
  | none => (0, a)
theorem rise_find {l : List Lg} (hr : Rise l) {i : Nat} (hi : i < l.length) {e c : Int} (he : l[i].e = e) (hc : l[i].c = c) : l.findIdx? (keyIs e c) = some i := by
 rw [List.findIdx?_eq_some_iff_getElem]
 refine ⟨hi, by simp [keyIs, he, hc], fun j hj => ?_⟩
 have := cmpL_lt.1 (hr j i (by omega) hi hj)
 simp [keyIs]; omega
theorem find_none {l : List Lg} {e c : Int} (h : ∀ (j : Nat) (hj : j < l.length), ¬ (l[j].e = e ∧ l[j].c = c)) : l.findIdx? (keyIs e c) = none := by
 rw [List.findIdx?_eq_none_iff]
 intro x hx
 obtain ⟨j, hj, rfl⟩ := List.mem_iff_getElem.1 hx
 have := h j hj
 simp [keyIs]; intro h1 h2; exact this ⟨h1, h2⟩
theorem t19 {H : AHeap} {s : Nat} {u v : Value} {l : List Lg} {a : Nat} {m : Msg} (h : SdV H s u l a) (hr : Rise l) (hl : l.length ≤ 100) (ha : a ≤ l.length) (hs : m.s.t.length = 64) (ht : TB H v m.d.l) (hml : m.d.l.length ≤ 100000) :
  ∃ w H', ARun Try.prog 0 19 [ptr s 0, .agg (GC m v).toArray] H w H' ∧ w = .int .i64 (hearS l a m).1 ∧ SdV H' s u l (hearS l a m).2 ∧ Chg [s] H H' := by
 refine walk2 f19_ok f19_n ?_
 intro Q hq1 hq2
 obtain ⟨h1, h2, h3, h4⟩ := h
 have ls := AHeap.get_lt h1
 have ml := GC_len hs v
 have mo := GC_one m ht.one
 have keep : ∀ {X : AHeap}, Keeps H X → SdV X s u l a := fun k => ⟨k.at_ h1, h2.chg (k.chg []) (by simp), h3, h4⟩
 simp (disch := (first | assumption | omega | (simp only [alloc_n, set_n] <;> omega) | (simp (disch := (first | assumption | omega | (simp only [alloc_n, set_n] <;> omega))) only [row_alloc, row_set]; assumption))) only [f19, W_block, ANs, A3s, AOp.map, ↓reduceIte, Nat.reduceAdd, Nat.reduceEqDiff, reduceCtorEq, initFr, Nat.reduceLT, clsA, List.take, List.drop, Nat.reduceLeDiff, Nat.reduceMul, Nat.reduceSub, reduceIte, ANc, A3c, mo]
 have ka := (Keeps.refl H).alloc (.cells true false 78 (GC m v) 41)
 refine callK (t35 (m := m) (v := v) hs (ht.keeps ka) hml) ?_
 rintro _ K ⟨rfl, kK⟩
 have nK := kK.n
 rw [alloc_n] at nK
 have kk := ka.trans kK
 have hu := kk.at_ h1
 unfold hearS at hq2
 cases hmay : mayB m
 ·simp only [hmay, true_or, if_true] at hq2
  simp (disch := (first | assumption | omega | (simp only [alloc_n, set_n] <;> omega) | (simp (disch := (first | assumption | omega | (simp only [alloc_n, set_n] <;> omega))) only [row_alloc, row_set, Keeps.row kK]; assumption))) only [Keeps.get kK, Keeps.row kK, W_block, ANs, A3s, AOp.map, ↓reduceIte, Nat.reduceAdd, Nat.reduceEqDiff, reduceCtorEq, initFr, Nat.reduceLT, clsA, List.take, List.drop, Nat.reduceLeDiff, Nat.reduceMul, Nat.reduceSub, reduceIte, ANc, A3c, GC_0]
  exact hq2 _ _ ⟨_, rfl, rfl, keep kk, kk.chg _⟩
 by_cases hk : m.k < 3
 ·simp only [hk, or_true, if_true] at hq2
  simp (disch := (first | assumption | omega | (simp only [alloc_n, set_n] <;> omega) | (simp (disch := (first | assumption | omega | (simp only [alloc_n, set_n] <;> omega))) only [row_alloc, row_set, Keeps.row kK]; assumption))) only [Keeps.get kK, Keeps.row kK, W_block, ANs, A3s, AOp.map, ↓reduceIte, Nat.reduceAdd, Nat.reduceEqDiff, reduceCtorEq, initFr, Nat.reduceLT, clsA, List.take, List.drop, Nat.reduceLeDiff, Nat.reduceMul, Nat.reduceSub, reduceIte, ANc, A3c, GC_0]
  exact hq2 _ _ ⟨_, rfl, rfl, keep kk, kk.chg _⟩
 simp only [hmay, hk, Bool.true_eq_false, or_self, if_false] at hq2
 by_cases hk4 : m.k = 4
 ·simp only [hk4, if_true] at hq2
  simp (disch := (first | assumption | omega | (simp only [alloc_n, set_n] <;> omega) | (simp (disch := (first | assumption | omega | (simp only [alloc_n, set_n] <;> omega))) only [row_alloc, row_set, Keeps.row kK]; assumption))) only [Keeps.get kK, Keeps.row kK, W_block, ANs, A3s, AOp.map, ↓reduceIte, Nat.reduceAdd, Nat.reduceEqDiff, reduceCtorEq, initFr, Nat.reduceLT, clsA, List.take, List.drop, Nat.reduceLeDiff, Nat.reduceMul, Nat.reduceSub, reduceIte, ANc, A3c, GC_0, h1]
  exact hq2 _ _ ⟨_, rfl, rfl, ⟨get1 hu _, (keep kk).2.1.chg (Chg.set K (by omega) _) (by intro z hz e; simp at e; subst e; exact h3 (mem_blkL.1 hz)), h3, h4⟩, (kk.chg [s]).set' (.inr (by simp)) (by omega) _⟩
 simp only [hk4, if_false] at hq2
 have fl : ∀ a b : Int, fillA Z70 [(0, 1, .int .i64 a), (1, 1, .int .i64 b)] = some (LC ⟨a, b, S0⟩) := fun a b => rfl
 simp (disch := (first | assumption | omega | (simp only [alloc_n, set_n] <;> omega) | (simp (disch := (first | assumption | omega | (simp only [alloc_n, set_n] <;> omega))) only [row_alloc, row_set, Keeps.row kK]; assumption))) only [Keeps.get kK, Keeps.row kK, W_block, ANs, A3s, AOp.map, ↓reduceIte, Nat.reduceAdd, Nat.reduceEqDiff, reduceCtorEq, initFr, Nat.reduceLT, clsA, List.take, List.drop, Nat.reduceLeDiff, Nat.reduceMul, Nat.reduceSub, reduceIte, ANc, A3c, GC_0, GC_1, GC_2, h1, fl]
 refine callK (t36 (H := K) (v := u) (l := l) (x := ⟨m.e, m.c, S0⟩) (keep kk).2.1 h4 rfl hr (by omega)) ?_
 rintro _ K2 ⟨k2, i, ok, rfl, hok, hno⟩
 have n2 := k2.n
 have kk2 := kk.trans k2
 have hu2 := kk2.at_ h1
 simp (disch := (first | assumption | omega | (simp only [alloc_n, set_n] <;> omega) | (simp (disch := (first | assumption | omega | (simp only [alloc_n, set_n] <;> omega))) only [row_alloc, row_set, Keeps.row kK, Keeps.row k2]; assumption))) only [Keeps.get kK, Keeps.get k2, Keeps.row kK, Keeps.row k2, W_block, ANs, A3s, AOp.map, ↓reduceIte, Nat.reduceAdd, Nat.reduceEqDiff, reduceCtorEq, initFr, Nat.reduceLT, clsA, List.take, List.drop, Nat.reduceLeDiff, Nat.reduceMul, Nat.reduceSub, reduceIte, ANc, A3c, h1]
 cases ok
 ·have := find_none (l := l) (e := m.e) (c := m.c) (fun j hj hh => hno rfl j hj (cmpL_eq.2 hh))
  simp only [this] at hq2
  simp (disch := (first | assumption | omega | (simp only [alloc_n, set_n] <;> omega) | (simp (disch := (first | assumption | omega | (simp only [alloc_n, set_n] <;> omega))) only [row_alloc, row_set]; assumption))) only [W_block, ANs, A3s, AOp.map, ↓reduceIte, Nat.reduceAdd, Nat.reduceEqDiff, reduceCtorEq, initFr, Nat.reduceLT, clsA, List.take, List.drop, Nat.reduceLeDiff, Nat.reduceMul, Nat.reduceSub, reduceIte, ANc, A3c]
  exact hq2 _ _ ⟨_, rfl, rfl, keep kk2, kk2.chg _⟩
 ·obtain ⟨hi, he⟩ := hok rfl
  have he := cmpL_eq.1 he
  have := rise_find hr hi he.1 he.2
  simp only [this] at hq2
  have hmx : max (a : Int) ((i + 1 : Nat) : Int) = ((max a (i + 1) : Nat) : Int) := by omega
  simp (disch := (first | assumption | omega | (simp only [alloc_n, set_n] <;> omega) | (simp (disch := (first | assumption | omega | (simp only [alloc_n, set_n] <;> omega))) only [row_alloc, row_set, Keeps.row kK, Keeps.row k2]; assumption))) only [Keeps.get kK, Keeps.get k2, Keeps.row kK, Keeps.row k2, W_block, ANs, A3s, AOp.map, ↓reduceIte, Nat.reduceAdd, Nat.reduceEqDiff, reduceCtorEq, initFr, Nat.reduceLT, clsA, List.take, List.drop, Nat.reduceLeDiff, Nat.reduceMul, Nat.reduceSub, reduceIte, ANc, A3c, h1, wrap_succ (n := i) (by omega), hmx]
  exact hq2 _ _ ⟨_, rfl, rfl, ⟨get1 hu2 _, (keep kk2).2.1.chg (Chg.set K2 (by omega) _) (by intro z hz e; simp at e; subst e; exact h3 (mem_blkL.1 hz)), h3, h4⟩, (kk2.chg [s]).set' (.inr (by simp)) (by omega) _⟩
end Go.AM.Rp

namespace Go.AM.Rp
open Go.Proofs
structure Pre where
 l : List Value
 len : l.length = 73
 one : l.all Value.oneCell' = true
def MP (p : Pre) (d : D) (v : Value) : List Value := p.l ++ [.int .u64 d.a, .int .u64 d.b, .int .u64 d.c, .int .u32 d.p, v]
theorem MP_at (p : Pre) (d : D) (v : Value) (k : Nat) : (MP p d v)[73 + k]? = ([.int .u64 d.a, .int .u64 d.b, .int .u64 d.c, .int .u32 d.p, v] : List Value)[k]? := by
 rw [MP, List.getElem?_append_right (by rw [p.len]; omega), p.len, Nat.add_sub_cancel_left]
theorem n73 (p : Pre) (d : D) (v : Value) : (MP p d v)[73]? = some (.int .u64 d.a) := MP_at p d v 0
theorem n74 (p : Pre) (d : D) (v : Value) : (MP p d v)[74]? = some (.int .u64 d.b) := MP_at p d v 1
theorem n75 (p : Pre) (d : D) (v : Value) : (MP p d v)[75]? = some (.int .u64 d.c) := MP_at p d v 2
theorem n76 (p : Pre) (d : D) (v : Value) : (MP p d v)[76]? = some (.int .u32 d.p) := MP_at p d v 3
theorem n77 (p : Pre) (d : D) (v : Value) : (MP p d v)[77]? = some v := MP_at p d v 4
theorem MP_len (p : Pre) (d : D) (v : Value) : (MP p d v).length = 78 := by rw [MP, List.length_append, p.len]; rfl
theorem MP_one (p : Pre) (d : D) {v : Value} (h : v.oneCell' = true) : (MP p d v).all Value.oneCell' = true := by
 simp only [MP, List.all_append, p.one, List.all_cons, one_int, h, List.all_nil]; rfl
theorem MP_set (p : Pre) (d : D) (v : Value) (k : Nat) (x : Value) : (MP p d v).set (73 + k) x = p.l ++ ([.int .u64 d.a, .int .u64 d.b, .int .u64 d.c, .int .u32 d.p, v] : List Value).set k x := by
 rw [MP, List.set_append_right _ _ (by rw [p.len]; omega), p.len, Nat.add_sub_cancel_left]
theorem MP_set73 (p : Pre) (d : D) (v : Value) (n : Nat) : (MP p d v).set 73 (.int .u64 n) = MP p { d with a := n } v := MP_set p d v 0 _
theorem MP_set74 (p : Pre) (d : D) (v : Value) (n : Nat) : (MP p d v).set 74 (.int .u64 n) = MP p { d with b := n } v := MP_set p d v 1 _
theorem MP_set75 (p : Pre) (d : D) (v : Value) (n : Nat) : (MP p d v).set 75 (.int .u64 n) = MP p { d with c := n } v := MP_set p d v 2 _
theorem MP_set76 (p : Pre) (d : D) (v : Value) (n : Nat) : (MP p d v).set 76 (.int .u32 n) = MP p { d with p := n } v := MP_set p d v 3 _
theorem MP_set77 (p : Pre) (d : D) (v w : Value) : (MP p d v).set 77 w = MP p d w := MP_set p d v 4 w
theorem MP_l (p : Pre) (a b c q : Nat) (l : List (Int × Int)) (v : Value) : MP p ⟨a, b, c, q, l⟩ v = MP p ⟨a, b, c, q, []⟩ v := rfl
def Mz (p : Pre) : List Value := MP p ⟨0, 0, 0, 0, []⟩ (.slice none 0 0)
def pre (m : Msg) (h : m.s.t.length = 64) : Pre := ⟨.int .u8 m.k :: .int .i64 m.e :: .int .i64 m.c :: .int .i64 m.be :: .int .i64 m.b :: SC m.s, by simp [SC_len h], by simp only [List.all_cons, SC_one, one_int]; rfl⟩
theorem t11g (p : Pre) {H : AHeap} {s : S} {d : D} {v : Value} (hs : s.t.length = 64) (h : TB H v d.l) (hl : d.l.length ≤ 100000) : ∃ r H', ARun Try.prog 0 11 [.agg (SC s).toArray, .agg (MP p d v).toArray] H r H' ∧ r = .tuple #[.agg (SC (patchR s d).2).toArray, .int .i64 (patchR s d).1] ∧ Keeps H H' := by
 refine walk2 f11_ok f11_n ?_
 intro Q hq1 hq2
 have hc5 : (Value.agg (MP p d v).toArray).cells.toList = MP p d v := by simp [Value.cells]
 have hc68 : (Value.agg (SC s).toArray).cells.toList = SC s := by simp [Value.cells]
 obtain ⟨Ha, hHa⟩ : ∃ X, X = H.alloc (.cells true false 68 (SC s) 26) := ⟨_, rfl⟩
 have ka := (Keeps.refl H).alloc (.cells true false 68 (SC s) 26)
 have ga := AHeap.get_alloc_new H (.cells true false 68 (SC s) 26)
 rw [← hHa] at ka ga
 have na : Ha.n = H.n + 1 := by rw [hHa]; rfl
 obtain ⟨Hb, hHb⟩ : ∃ X, X = Ha.alloc (.cells true false 78 (MP p d v) 38) := ⟨_, rfl⟩
 have kb := (Keeps.refl Ha).alloc (.cells true false 78 (MP p d v) 38)
 have gb := AHeap.get_alloc_new Ha (.cells true false 78 (MP p d v) 38)
 rw [← hHb] at kb gb
 have nb : Hb.n = H.n + 2 := by rw [hHb, alloc_n, na]
 obtain ⟨Hc, hHc⟩ : ∃ X, X = Hb.alloc (.cells true false 68 Z68 26) := ⟨_, rfl⟩
 have kc := (Keeps.refl Hb).alloc (.cells true false 68 Z68 26)
 have gc := AHeap.get_alloc_new Hb (.cells true false 68 Z68 26)
 rw [← hHc] at kc gc
 have nc : Hc.n = H.n + 3 := by rw [hHc, alloc_n, nb]
 have ga := kc.at_ (kb.at_ ga)
 have gb := kc.at_ gb
 have kAll := (ka.trans kb).trans kc
 have z68 : Z68.all Value.oneCell' = true := rfl
 simp only [f11, W_block, ANs, AOp.map, seval, initFr, ANc, hc68, SC_one, hc5, MP_one p d h.one, ← hHa, ← hHb, ← hHc, z68, cellA_of gb, n73, n74, n75, n76, n77]
 obtain ⟨_, H1, r1, rfl, rfl⟩ := t32 (h.keeps kAll) hl
 have k1 := Keeps.refl H1
 refine ⟨_, _, r1, ?_⟩
 unfold patchR at hq1 hq2
 clear hq1
 have ga1 := k1.at_ ga
 have gb1 := k1.at_ gb
 have gc1 := k1.at_ gc
 have n1 := k1.n
 cases hr : riseF (-1) d.l
 ·simp only [hr, Bool.false_eq_true, if_false] at hq2
  have st : asem (.storen 68 (ptr Hb.n 0) (.agg Z68.toArray)) H1 = _ := stAll gc1 rfl rfl z68
  simp only [W_block, ANs, AOp.map, seval, initFr, ANc, fillA, st]
  refine hq2 _ _ ⟨_, resCn 68 5 4 (b := Hb.n) (cs := Z68) rfl (full (get1 gc1 _) rfl), rfl, (kAll.trans k1).chg_trans (Chg.set H1 (AHeap.get_lt gc1) _) (by simp; omega)⟩
 ·simp only [hr, if_true] at hq2
  have dc : ∀ X k, cellA (H1.set H.n X) Ha.n k = (MP p d v)[k]? := fun X k => cellA_of ((Chg.set H1 (b := H.n) (AHeap.get_lt ga1) X).at_ gb1 (by simp; omega))
  have s0 : cellA H1 H.n 0 = some (.int .u64 s.a) := by rw [cellA_of ga1]; rfl
  have e1 : asem (.store1 (ptr H.n 0) (.int .u64 (xr 64 s.a d.a))) H1 = some (undef, H1.set H.n (.cells true false 68 (SC { s with a := xr 64 s.a d.a }) 26)) := a_st68 ga1 hs (by omega) rfl
  have e2 : asem (.store1 (ptr H.n 1) (.int .u64 (xr 64 s.b d.b))) (H1.set H.n (.cells true false 68 (SC { s with a := xr 64 s.a d.a }) 26)) = some (undef, H1.set H.n (.cells true false 68 (SC { s with a := xr 64 s.a d.a, b := xr 64 s.b d.b }) 26)) := by
   have := a_st68 (e := 26) (s := { s with a := xr 64 s.a d.a }) (get1 ga1 _) hs (o := 1) (by omega) (x := .int .u64 (xr 64 s.b d.b)) rfl
   rw [set2] at this; exact this
  have e3 : asem (.store1 (ptr H.n 2) (.int .u64 (xr 64 s.c d.c))) (H1.set H.n (.cells true false 68 (SC { s with a := xr 64 s.a d.a, b := xr 64 s.b d.b }) 26)) = some (undef, H1.set H.n (.cells true false 68 (SC { s with a := xr 64 s.a d.a, b := xr 64 s.b d.b, c := xr 64 s.c d.c }) 26)) := by
   have := a_st68 (e := 26) (s := { s with a := xr 64 s.a d.a, b := xr 64 s.b d.b }) (get1 ga1 _) hs (o := 2) (by omega) (x := .int .u64 (xr 64 s.c d.c)) rfl
   rw [set2] at this; exact this
  have e4 : asem (.store1 (ptr H.n 67) (.int .u32 (xr 32 s.p d.p))) (H1.set H.n (.cells true false 68 (SC { s with a := xr 64 s.a d.a, b := xr 64 s.b d.b, c := xr 64 s.c d.c }) 26)) = some (undef, H1.set H.n (.cells true false 68 (SC { s with a := xr 64 s.a d.a, b := xr 64 s.b d.b, c := xr 64 s.c d.c, p := xr 32 s.p d.p }) 26)) := by
   have := a_st68 (e := 26) (s := { s with a := xr 64 s.a d.a, b := xr 64 s.b d.b, c := xr 64 s.c d.c }) (get1 ga1 _) hs (o := 67) (by omega) (x := .int .u32 (xr 32 s.p d.p)) rfl
   rw [set2, SC_set67 (by exact hs)] at this; exact this
  have c1 : cellA (H1.set H.n (.cells true false 68 (SC { s with a := xr 64 s.a d.a }) 26)) H.n 1 = some (.int .u64 s.b) := by rw [cellA_of (get1 ga1 _)]; rfl
  have c2 : cellA (H1.set H.n (.cells true false 68 (SC { s with a := xr 64 s.a d.a, b := xr 64 s.b d.b }) 26)) H.n 2 = some (.int .u64 s.c) := by rw [cellA_of (get1 ga1 _)]; rfl
  have c3 : cellA (H1.set H.n (.cells true false 68 (SC { s with a := xr 64 s.a d.a, b := xr 64 s.b d.b, c := xr 64 s.c d.c }) 26)) H.n 67 = some (.int .u32 s.p) := by rw [cellA_of (get1 ga1 _), SC_67 (by exact hs)]
  have hlen : ∀ X, asem (.len false v) X = some (.int .i64 d.l.length, X) := by obtain ⟨a, k, hv, _⟩ := h; intro X; rw [hv]; rfl
  simp only [W_block, ANs, AOp.map, seval, initFr, ANc, s0, cellA_of gb1, n73, n74, n75, n76, n77, w_x64, w_x32, e1, c1, dc, n73, n74, n75, n76, n77, e2, c2, e3, c3, e4, hlen]
  have kA1 := kAll.trans k1
  refine W_loop2 (fun q fr H2 => ∃ (i : Nat) (t : List Int) (y7 y8 : Value), fr = [.agg (SC s).toArray, .agg (MP p d v).toArray, ptr H.n 0, ptr Ha.n 0, ptr Hb.n 0, .int .i64 0, .int .i64 i, y7, y8] ∧ i ≤ d.l.length ∧ q = d.l.length - i ∧ Keeps H H2 ∧
   t.length = 64 ∧ patchT s.t d.l = patchT t (d.l.drop i) ∧ H2.get H.n = some (.cells true false 68 (SC ⟨xr 64 s.a d.a, xr 64 s.b d.b, xr 64 s.c d.c, t, xr 32 s.p d.p⟩) 26) ∧ H2.get Hb.n = some (.cells true false 68 Z68 26) ∧ H2.get Ha.n = some (.cells true false 78 (MP p d v) 38)) d.l.length ?_ ?_
  ·exact ⟨0, s.t, _, _, rfl, by omega, by omega, kA1.chg_trans (Chg.set H1 (AHeap.get_lt ga1) _) (by simp), hs, by simp, get1 ga1 _, (Chg.set H1 (b := H.n) (AHeap.get_lt ga1) _).at_ gc1 (by simp; omega), (Chg.set H1 (b := H.n) (AHeap.get_lt ga1) _).at_ gb1 (by simp; omega)⟩
  ·rintro Q' q fr H2 ⟨i, t, y7, y8, rfl, h1, rfl, k2, p1, p2, p3, p4, p5⟩ hnext hexit hret
   by_cases hi : i < d.l.length
   ·obtain ⟨b, k', f1, f2, f3, f4⟩ := (h.keeps k2).at_ hi
    have hin := rise_in d.l (-1) (by omega) hr d.l[i] (List.getElem_mem hi)
    rw [List.drop_eq_getElem_cons hi] at p2
    generalize d.l[i] = x at *
    obtain ⟨⟨r, hxr⟩, hr64⟩ : (∃ r : Nat, x.1 = r) ∧ x.1 < 64 := ⟨⟨x.1.toNat, by omega⟩, hin.2⟩
    rw [hxr] at f2 f3
    have hrt : r < t.length := by omega
    have st : asem (.store1 (ptr H.n (3 + r)) (.int .u8 x.2)) H2 = some (undef, H2.set H.n (.cells true false 68 (SC ⟨xr 64 s.a d.a, xr 64 s.b d.b, xr 64 s.c d.c, t.set r x.2, xr 32 s.p d.p⟩) 26)) := by
     have := a_st68 (e := 26) p3 (by exact p1) (o := 3 + r) (by omega) (x := .int .u8 x.2) rfl
     rw [this]
     have e := SC_set (s := ⟨xr 64 s.a d.a, xr 64 s.b d.b, xr 64 s.c d.c, t, xr 32 s.p d.p⟩) (i := r) hrt x.2
     unfold tv at e
     rw [e]
    have n77' : (MP p d v)[77]? = some (slc b 0 d.l.length k') := by rw [n77, f1]
    simp only [W_block, ANs, AOp.map, seval, initFr, ANc, show (i : Int) < (d.l.length : Int) by omega, decide_true, show (0 : Int) ≤ (i : Int) by omega, hlen, f3, f4, cellA_of p5, n77', sd_iaddrp, a_iaddrp _ _ 64 1 _ r (by omega), st, wrap_succ (n := i) (by omega)]
    refine hnext _ _ _ ⟨i + 1, t.set r x.2, _, _, rfl, by omega, rfl, k2.chg_trans (Chg.set H2 (AHeap.get_lt p3) _) (by simp), by simpa using p1, ?_, get1 p3 _, (Chg.set H2 (b := H.n) (AHeap.get_lt p3) _).at_ p4 (by simp; omega), (Chg.set H2 (b := H.n) (AHeap.get_lt p3) _).at_ p5 (by simp; omega)⟩ (by omega)
    rw [p2]
    show patchT (t.set x.1.toNat x.2) _ = _
    rw [hxr]; rfl
   ·simp only [W_block, ANs, AOp.map, seval, initFr, ANc, cellA_of p5, n77, hlen, show ¬ (i : Int) < (d.l.length : Int) by omega, decide_false]
    refine hexit _ _ _ ?_
    rw [List.drop_of_length_le (by omega)] at p2
    have p2 : patchT s.t d.l = t := p2
    subst p2
    have st := stAll p4 rfl (SC_len (s := patchS s d) p1) (SC_one _)
    simp only [W_block, ANs, AOp.map, seval, initFr, ANc, full p3 (SC_len (by exact p1))]
    unfold patchS at st hq2
    simp only [W_block, ANs, AOp.map, seval, initFr, ANc, st]
    exact hq2 _ _ ⟨_, resCn 68 5 4 (b := Hb.n) rfl (full (get1 p4 _) (SC_len p1)), rfl, k2.chg_trans (Chg.set H2 (AHeap.get_lt p4) _) (by simp; omega)⟩
theorem a_stMP {p : Pre} {H : AHeap} {b : Nat} {d : D} {v : Value} {e : Nat} (h : H.get b = some (.cells true false 78 (MP p d v) e)) {o : Nat} (ho : o < 78) {x : Value} (hx : one1 x) : asem (.store1 (ptr b o) x) H = some (undef, H.set b (.cells true false 78 ((MP p d v).set o x) e)) := a_st h (by rw [MP_len]; exact ho) hx
theorem t14g (p : Pre) {H : AHeap} {s t : S} (hs : s.t.length = 64) (ht : t.t.length = 64) : ∃ r H', ARun Try.prog 0 14 [.agg (Mz p).toArray, .agg (SC s).toArray, .agg (SC t).toArray] H r H' ∧ Keeps H H' ∧ ∃ w, r = .agg (MP p (diffD s t) w).toArray ∧ TB H' w (dp s.t t.t 64) ∧ Fresh H.n w := by
 refine walk2 f14_ok f14_n ?_
 intro Q hq1 hq2
 have hc0 : (Value.agg (Mz p).toArray).cells.toList = Mz p := by simp [Value.cells]
 have mz1 : (Mz p).all Value.oneCell' = true := MP_one p _ rfl
 have hc1 : (Value.agg (SC s).toArray).cells.toList = SC s := by simp [Value.cells]
 have hc2 : (Value.agg (SC t).toArray).cells.toList = SC t := by simp [Value.cells]
 have z78 : Z78.all Value.oneCell' = true := rfl
 obtain ⟨Ha, hHa⟩ : ∃ X, X = H.alloc (.cells true false 78 (Mz p) 38) := ⟨_, rfl⟩
 have ka := (Keeps.refl H).alloc (.cells true false 78 (Mz p) 38)
 have ga := AHeap.get_alloc_new H (.cells true false 78 (Mz p) 38)
 rw [← hHa] at ka ga
 have na : Ha.n = H.n + 1 := by rw [hHa]; rfl
 obtain ⟨Hb, hHb⟩ : ∃ X, X = Ha.alloc (.cells true false 68 (SC s) 26) := ⟨_, rfl⟩
 have kb := (Keeps.refl Ha).alloc (.cells true false 68 (SC s) 26)
 have gb := AHeap.get_alloc_new Ha (.cells true false 68 (SC s) 26)
 rw [← hHb] at kb gb
 have nb : Hb.n = H.n + 2 := by rw [hHb, alloc_n, na]
 obtain ⟨Hc, hHc⟩ : ∃ X, X = Hb.alloc (.cells true false 68 (SC t) 26) := ⟨_, rfl⟩
 have kc := (Keeps.refl Hb).alloc (.cells true false 68 (SC t) 26)
 have gc := AHeap.get_alloc_new Hb (.cells true false 68 (SC t) 26)
 rw [← hHc] at kc gc
 have nc : Hc.n = H.n + 3 := by rw [hHc, alloc_n, nb]
 obtain ⟨Hd, hHd⟩ : ∃ X, X = Hc.alloc (.cells true false 78 Z78 38) := ⟨_, rfl⟩
 have kd := (Keeps.refl Hc).alloc (.cells true false 78 Z78 38)
 have gd := AHeap.get_alloc_new Hc (.cells true false 78 Z78 38)
 rw [← hHd] at kd gd
 have nd : Hd.n = H.n + 4 := by rw [hHd, alloc_n, nc]
 have ga1 := kd.at_ (kc.at_ (kb.at_ ga))
 have gb1 := kd.at_ (kc.at_ gb)
 have gc1 := kd.at_ gc
 have kAll := ((ka.trans kb).trans kc).trans kd
 unfold diffD at hq2
 generalize hx1 : xr 64 s.a t.a = x1 at *
 generalize hx2 : xr 64 s.b t.b = x2 at *
 generalize hx3 : xr 64 s.c t.c = x3 at *
 generalize hx4 : xr 32 s.p t.p = x4 at *
 have hln := AHeap.get_lt ga1
 have oth : ∀ (X : AO) {b : Nat} {o : AO}, Hd.get b = some o → b ≠ H.n → (Hd.set H.n X).get b = some o := fun X {b o} h hne => (Chg.set Hd (b := H.n) hln X).at_ h (by simpa using hne)
 have sc : ∀ X k, cellA (Hd.set H.n X) Ha.n k = (SC s)[k]? := fun X k => cellA_of (oth X gb1 (by omega))
 have tc : ∀ X k, cellA (Hd.set H.n X) Hb.n k = (SC t)[k]? := fun X k => cellA_of (oth X gc1 (by omega))
 have q0 : (SC s)[0]? = some (.int .u64 s.a) := rfl
 have q1 : (SC s)[1]? = some (.int .u64 s.b) := rfl
 have q2 : (SC s)[2]? = some (.int .u64 s.c) := rfl
 have u0 : (SC t)[0]? = some (.int .u64 t.a) := rfl
 have u1 : (SC t)[1]? = some (.int .u64 t.b) := rfl
 have u2 : (SC t)[2]? = some (.int .u64 t.c) := rfl
 have s67 := SC_67 hs
 have t67 := SC_67 ht
 have gz : Hd.get H.n = some (.cells true false 78 (MP p ⟨0, 0, 0, 0, []⟩ (.slice none 0 0)) 38) := ga1
 have e1 : asem (.store1 (ptr H.n 73) (.int .u64 x1)) Hd = some (undef, Hd.set H.n (.cells true false 78 (MP p ⟨x1, 0, 0, 0, []⟩ (.slice none 0 0)) 38)) := by rw [a_stMP (p := p) gz (o := 73) (by omega) (x := .int .u64 x1) rfl, MP_set73]
 have e2 : asem (.store1 (ptr H.n 74) (.int .u64 x2)) (Hd.set H.n (.cells true false 78 (MP p ⟨x1, 0, 0, 0, []⟩ (.slice none 0 0)) 38)) = some (undef, Hd.set H.n (.cells true false 78 (MP p ⟨x1, x2, 0, 0, []⟩ (.slice none 0 0)) 38)) := by
  have := a_stMP (p := p) (d := ⟨x1, 0, 0, 0, []⟩) (v := .slice none 0 0) (e := 38) (get1 gz _) (o := 74) (by omega) (x := .int .u64 x2) rfl
  rw [set2, MP_set74] at this; exact this
 have e3 : asem (.store1 (ptr H.n 75) (.int .u64 x3)) (Hd.set H.n (.cells true false 78 (MP p ⟨x1, x2, 0, 0, []⟩ (.slice none 0 0)) 38)) = some (undef, Hd.set H.n (.cells true false 78 (MP p ⟨x1, x2, x3, 0, []⟩ (.slice none 0 0)) 38)) := by
  have := a_stMP (p := p) (d := ⟨x1, x2, 0, 0, []⟩) (v := .slice none 0 0) (e := 38) (get1 gz _) (o := 75) (by omega) (x := .int .u64 x3) rfl
  rw [set2, MP_set75] at this; exact this
 have e4 : asem (.store1 (ptr H.n 76) (.int .u32 x4)) (Hd.set H.n (.cells true false 78 (MP p ⟨x1, x2, x3, 0, []⟩ (.slice none 0 0)) 38)) = some (undef, Hd.set H.n (.cells true false 78 (MP p ⟨x1, x2, x3, x4, []⟩ (.slice none 0 0)) 38)) := by
  have := a_stMP (p := p) (d := ⟨x1, x2, x3, 0, []⟩) (v := .slice none 0 0) (e := 38) (get1 gz _) (o := 76) (by omega) (x := .int .u32 x4) rfl
  rw [set2, MP_set76] at this; exact this
 have v0 : cellA Hd Ha.n 0 = some (.int .u64 s.a) := by rw [cellA_of gb1]; rfl
 have w0 : cellA Hd Hb.n 0 = some (.int .u64 t.a) := by rw [cellA_of gc1]; rfl
 simp only [f14, W_block, ANs, AOp.map, seval, initFr, ANc, hc0, hc1, hc2, SC_one, z78, mz1, ← hHa, ← hHb, ← hHc, ← hHd, v0, w0, sc, tc, q1, q2, u1, u2, s67, t67, w_x64, w_x32, hx1, hx2, hx3, hx4, e1, e2, e3, e4]
 have g0 := get1 gz (.cells true false 78 (MP p ⟨x1, x2, x3, x4, []⟩ (.slice none 0 0)) 38)
 have gs0 := oth (.cells true false 78 (MP p ⟨x1, x2, x3, x4, []⟩ (.slice none 0 0)) 38) gb1 (by omega)
 have gt0 := oth (.cells true false 78 (MP p ⟨x1, x2, x3, x4, []⟩ (.slice none 0 0)) 38) gc1 (by omega)
 have gd0 := oth (.cells true false 78 (MP p ⟨x1, x2, x3, x4, []⟩ (.slice none 0 0)) 38) gd (by omega)
 have kE : Keeps H (Hd.set H.n (.cells true false 78 (MP p ⟨x1, x2, x3, x4, []⟩ (.slice none 0 0)) 38)) := kAll.chg_trans (Chg.set Hd hln _) (by simp)
 have nE : (Hd.set H.n (.cells true false 78 (MP p ⟨x1, x2, x3, x4, []⟩ (.slice none 0 0)) 38)).n = Hd.n := rfl
 generalize Hd.set H.n (.cells true false 78 (MP p ⟨x1, x2, x3, x4, []⟩ (.slice none 0 0)) 38) = He at *
 refine W_loop2 (fun q fr H2 => ∃ (i : Nat) (w y8 y9 : Value), fr = [.agg (Mz p).toArray, .agg (SC s).toArray, .agg (SC t).toArray, ptr H.n 0, ptr Ha.n 0, ptr Hb.n 0, ptr Hc.n 0, .int .i64 i, y8, y9] ∧ i ≤ 64 ∧ q = 64 - i ∧ Keeps H H2 ∧ Hd.n ≤ H2.n ∧ H2.get Ha.n = some (.cells true false 68 (SC s) 26) ∧ H2.get Hb.n = some (.cells true false 68 (SC t) 26) ∧ H2.get Hc.n = some (.cells true false 78 Z78 38) ∧
  H2.get H.n = some (.cells true false 78 (MP p ⟨x1, x2, x3, x4, []⟩ w) 38) ∧ AP H2 92 2 w (dp s.t t.t i).length (TC (dp s.t t.t i)) ∧ Fresh Hd.n w) 64 ?_ ?_
 ·exact ⟨0, _, _, _, rfl, by omega, by omega, kE, by omega, gs0, gt0, gd0, g0, .inl ⟨rfl, rfl, rfl⟩, fun b hb => by cases hb⟩
 ·rintro Q' q fr H2 ⟨i, w, y8, y9, rfl, h1, rfl, k2, n2, g1, g1b, g2, g3, ap, fw⟩ hnext hexit hret
  by_cases hi : i < 64
  ·have hti : t.t.getD i 0 = t.t[i]'(by omega) := by rw [List.getD_eq_getElem?_getD, List.getElem?_eq_getElem (by omega)]; rfl
   have hsi : s.t.getD i 0 = s.t[i]'(by omega) := by rw [List.getD_eq_getElem?_getD, List.getElem?_eq_getElem (by omega)]; rfl
   have ct : cellA H2 Hb.n (3 + i) = some (tv (t.t.getD i 0)) := by rw [cellA_of g1b, SC_t (by omega), hti]
   have cs : cellA H2 Ha.n (3 + i) = some (tv (s.t.getD i 0)) := by rw [cellA_of g1, SC_t (by omega), hsi]
   have hdp : dp s.t t.t (i + 1) = dp s.t t.t i ++ (if t.t.getD i 0 = s.t.getD i 0 then [] else [((i : Int), t.t.getD i 0)]) := rfl
   have hle := dp_le s.t t.t i
   generalize t.t.getD i 0 = ti at *
   generalize s.t.getD i 0 = si at *
   have lw : ∀ z ∈ blkL w, Hd.n ≤ z ∧ z < H2.n := fun z hz => ⟨fw z (mem_blkL.1 hz), ap.lt (mem_blkL.1 hz)⟩
   change cellA H2 Hb.n (3 + i) = some (.int .u8 ti) at ct
   change cellA H2 Ha.n (3 + i) = some (.int .u8 si) at cs
   by_cases he : ti = si
   ·simp only [W_block, ANs, AOp.map, seval, initFr, ANc, show (i : Int) < 64 by omega, decide_true, sd_iaddrp, a_iaddrp _ _ 64 1 _ i hi, cs, ct, show (si != ti) = false by simp [he], wrap_succ (n := i) (by omega)]
    refine hnext _ _ _ ⟨i + 1, w, _, _, rfl, by omega, rfl, k2, n2, g1, g1b, g2, g3, ?_, fw⟩ (by omega)
    rw [hdp, if_pos he, List.append_nil]; exact ap
   ·have k3 := (Keeps.refl H2).alloc (.cells true false 2 [.int .i64 (i : Int), .int .u8 ti] 92)
    have g4 := AHeap.get_alloc_new H2 (.cells true false 2 [.int .i64 (i : Int), .int .u8 ti] 92)
    obtain ⟨H3, hH3⟩ : ∃ X, X = H2.alloc (.cells true false 2 [.int .i64 (i : Int), .int .u8 ti] 92) := ⟨_, rfl⟩
    have hbsl := bsl 92 (i : Int) ti H2
    rw [← hH3] at k3 g4 hbsl
    have n3 : H3.n = H2.n + 1 := by rw [hH3]; rfl
    simp only [W_block, ANs, AOp.map, seval, initFr, ANc, show (i : Int) < 64 by omega, decide_true, sd_iaddrp, a_iaddrp _ _ 64 1 _ i hi, cs, ct, show (si != ti) = true by simp; exact fun h => he h.symm, cellA_of g3, n77, fl2, hbsl]
    refine appD (ap.keeps k3) ⟨_, _, rfl⟩ (elems_own g4 rfl) rfl (by omega) ?_
    intro w' H4 ap4 c4 hbw
    have n4 := c4.n
    have g1' := c4.at_ (k3.at_ g1) (fun hz => by have := lw _ hz; omega)
    have g1b' := c4.at_ (k3.at_ g1b) (fun hz => by have := lw _ hz; omega)
    have g2' := c4.at_ (k3.at_ g2) (fun hz => by have := lw _ hz; omega)
    have g3' := c4.at_ (k3.at_ g3) (fun hz => by have := lw _ hz; omega)
    have st : asem (.store1 (ptr H.n 77) w') H4 = some (undef, H4.set H.n (.cells true false 78 (MP p ⟨x1, x2, x3, x4, []⟩ w') 38)) := by
     rw [a_st g3' (by rw [MP_len]; omega) (by obtain ⟨a, e⟩ := ap4.shape; rw [e]; rfl), MP_set77]
    have d5 := Chg.set H4 (b := H.n) (AHeap.get_lt g3') (.cells true false 78 (MP p ⟨x1, x2, x3, x4, []⟩ w') 38)
    simp only [W_block, ANs, AOp.map, seval, initFr, ANc, st, wrap_succ (n := i) (by omega)]
    refine hnext _ _ _ ⟨i + 1, w', _, _, rfl, by omega, rfl, (((k2.trans k3).chg_trans c4 (fun z hz => by have := lw z hz; omega))).chg_trans d5 (by simp), by have := d5.n; omega, d5.at_ g1' (by simp; omega), d5.at_ g1b' (by simp; omega), d5.at_ g2' (by simp; omega), get1 g3' _, ?_, ?_⟩ (by omega)
    ·rw [hdp, if_neg he, TC_app, List.length_append]
     refine AP.chg ap4 d5 (fun z hz => ?_)
     rcases hbw with e | e
     ·have := lw z (by rw [mem_blkL] at hz ⊢; rw [← e]; exact hz)
      simp; omega
     ·rw [mem_blkL, e] at hz; cases hz; simp; omega
    ·intro z hz
     rcases hbw with e | e
     ·rw [e] at hz; exact fw z hz
     ·rw [e] at hz; cases hz; omega
  ·simp only [W_block, ANs, AOp.map, seval, initFr, ANc, show ¬ (i : Int) < 64 by omega, decide_false]
   refine hexit _ _ _ ?_
   have hie : i = 64 := by omega
   subst hie
   obtain ⟨aw, ew⟩ := ap.shape
   have st := stAll g2 rfl (MP_len p ⟨x1, x2, x3, x4, []⟩ w) (MP_one p _ (by rw [ew]; rfl))
   simp only [W_block, ANs, AOp.map, seval, initFr, ANc, full g3 (MP_len p _ w), st]
   have d5 := Chg.set H2 (b := Hc.n) (AHeap.get_lt g2) (.cells true false 78 (MP p ⟨x1, x2, x3, x4, []⟩ w) 38)
   refine hq2 _ _ ⟨_, resC1 78 6 (b := Hc.n) rfl (full (get1 g2 _) (MP_len p _ w)), k2.chg_trans d5 (by simp; omega), w, (by rw [MP_l p x1 x2 x3 x4 (dp s.t t.t 64) w]), TB.of_ap (ap.chg d5 (fun z hz => by
    have := fw z (mem_blkL.1 hz)
    simp; omega)), fun z hz => by have := fw z hz; omega⟩
end Go.AM.Rp

namespace Go.AM.Rp
open Nat (reduceAdd reduceEqDiff reduceLT reduceLeDiff reduceMul reduceSub)
open Go.Proofs
section
variable {m : Msg} (hm : m.s.t.length = 64) (v w : Value)
include hm
theorem GC_73 : (GC m v)[73]? = some (.int .u64 m.d.a) := n73 (pre m hm) m.d v
theorem GC_74 : (GC m v)[74]? = some (.int .u64 m.d.b) := n74 (pre m hm) m.d v
theorem GC_75 : (GC m v)[75]? = some (.int .u64 m.d.c) := n75 (pre m hm) m.d v
theorem GC_76 : (GC m v)[76]? = some (.int .u32 m.d.p) := n76 (pre m hm) m.d v
theorem GC_77 : (GC m v)[77]? = some v := n77 (pre m hm) m.d v
theorem GC_set77 : (GC m v).set 77 w = GC m w := MP_set77 (pre m hm) m.d v w
end
theorem a_eqSn {m : Msg} (hm : m.s.t.length = 64) (H : AHeap) : asem (.eqs O68 true (.agg (SC m.s).toArray) (.agg (SC m.s).toArray)) H = some (.bool false, H) := by
 have e := eqCs_self (SC m.s) (SC_ints m.s)
 rw [SC_len hm] at e
 have e2 : eqCs O68 (SC m.s) (SC m.s) = some true := e
 simp only [asem, e2]; rfl
theorem fill_set1 {c : List Value} {o : Nat} {v : Value} {r : List (Nat × Nat × Value)} (hv : v.cells.toList = [v]) (ho : o < c.length) : fillA c ((o, 1, v) :: r) = fillA (c.set o v) r := by
 rw [fill_cons, hv, if_pos ⟨rfl, by omega⟩, List.set_eq_take_append_cons_drop, if_pos ho]
 simp
theorem flG6 {m : Msg} (hm : m.s.t.length = 64) (r : List (Nat × Nat × Value)) : fillA Z78 ((0, 1, .int .u8 m.k) :: (1, 1, .int .i64 m.e) :: (2, 1, .int .i64 m.c) :: (3, 1, .int .i64 m.be) :: (4, 1, .int .i64 m.b) :: (5, 68, .agg (SC m.s).toArray) :: r) = fillA (Mz (pre m hm)) r := by
 have h3 : (Value.agg (SC m.s).toArray).cells.toList = SC m.s := by simp [Value.cells]
 have hl2 := Z68_len
 have hl := SC_len hm
 have hz := Z78_split
 generalize Z68 = z at *
 rw [hz]
 rw [fill_set1 rfl (by simp), fill_set1 rfl (by simp), fill_set1 rfl (by simp), fill_set1 rfl (by simp), fill_set1 rfl (by simp)]
 simp only [List.set_cons_zero, List.set_cons_succ]
 rw [fill_cons, h3, if_pos ⟨hl, by simp [hl2]⟩]
 congr 1
 simp only [List.take_succ_cons, List.take_zero, List.drop_succ_cons, Nat.reduceAdd]
 rw [List.drop_append_of_le_length (by omega), List.drop_of_length_le (by omega)]
 rfl
theorem flG {m : Msg} (hm : m.s.t.length = 64) : fillA Z78 [(0, 1, .int .u8 m.k), (1, 1, .int .i64 m.e), (2, 1, .int .i64 m.c), (3, 1, .int .i64 m.be), (4, 1, .int .i64 m.b), (5, 68, .agg (SC m.s).toArray), (73, 1, .int .u64 m.d.a), (74, 1, .int .u64 m.d.b), (75, 1, .int .u64 m.d.c), (76, 1, .int .u32 m.d.p)] = some (GC m (.slice none 0 0)) := by
 rw [flG6 hm]
 unfold Mz
 rw [fill_set1 rfl (by rw [MP_len]; omega), MP_set73, fill_set1 rfl (by rw [MP_len]; omega), MP_set74, fill_set1 rfl (by rw [MP_len]; omega), MP_set75, fill_set1 rfl (by rw [MP_len]; omega), MP_set76, fill0]
 rfl
theorem t13g {H : AHeap} {m : Msg} (hm : m.s.t.length = 64) {v v' : Value} {l : List (Int × Int)} (h : TB H v l) (h' : TB H v' l) (hl : l.length ≤ 100000) : ∃ r H', ARun Try.prog 0 13 [.agg (GC m v).toArray, .agg (GC m v').toArray] H r H' ∧ r = .bool true ∧ Keeps H H' := by
 refine walk2 f13_ok f13_n ?_
 intro Q hq1 hq2
 have hc1 : (Value.agg (GC m v).toArray).cells.toList = GC m v := by simp [Value.cells]
 have hc2 : (Value.agg (GC m v').toArray).cells.toList = GC m v' := by simp [Value.cells]
 obtain ⟨Ha, hHa⟩ : ∃ X, X = H.alloc (.cells true false 78 (GC m v) 38) := ⟨_, rfl⟩
 have ka := (Keeps.refl H).alloc (.cells true false 78 (GC m v) 38)
 have ga := AHeap.get_alloc_new H (.cells true false 78 (GC m v) 38)
 rw [← hHa] at ka ga
 obtain ⟨Hb, hHb⟩ : ∃ X, X = Ha.alloc (.cells true false 78 (GC m v') 38) := ⟨_, rfl⟩
 have kb := (Keeps.refl Ha).alloc (.cells true false 78 (GC m v') 38)
 have gb := AHeap.get_alloc_new Ha (.cells true false 78 (GC m v') 38)
 rw [← hHb] at kb gb
 have ga := kb.at_ ga
 have k2 := ka.trans kb
 have hb := h.keeps k2
 have hb' := h'.keeps k2
 have l1 : asem (.len false v) Hb = some (.int .i64 l.length, Hb) := by obtain ⟨a, k, hv, _⟩ := h; rw [hv]; rfl
 have l2 : asem (.len false v') Hb = some (.int .i64 l.length, Hb) := by obtain ⟨a, k, hv, _⟩ := h'; rw [hv]; rfl
 simp only [f13, W_block, ANs, AOp.map, seval, initFr, ANc, bi_u, hc1, hc2, GC_one m h.one, GC_one m h'.one, ← hHa, ← hHb, cellA_of ga, cellA_of gb, GC_0, GC_1, GC_2, GC_3, GC_4, GC_s hm ga, GC_s hm gb, st_eqs, a_eqSn hm, GC_73 hm, GC_74 hm, GC_75 hm, GC_76 hm, GC_77 hm, l1, l2, bne_self_eq_false]
 refine W_loop2 (fun q fr H2 => ∃ (i : Nat) (y7 y8 : Value), fr = [.agg (GC m v).toArray, .agg (GC m v').toArray, ptr H.n 0, ptr Ha.n 0, .bool false, .int .i64 i, .bool false, y7, y8] ∧ i ≤ l.length ∧ q = l.length - i ∧ H2 = Hb) l.length ?_ ?_
 ·exact ⟨0, _, _, rfl, by omega, by omega, rfl⟩
 ·rintro Q' q fr H2 ⟨i, y7, y8, rfl, h1, rfl, rfl⟩ hnext hexit hret
  by_cases hi : i < l.length
  ·obtain ⟨b, k', e1, e2, _⟩ := hb.at_ hi
   obtain ⟨b', k'', f1, f2, _⟩ := hb'.at_ hi
   have m77' : (GC m v)[77]? = some (slc b 0 l.length k') := by rw [GC_77 hm, e1]
   have m77'' : (GC m v')[77]? = some (slc b' 0 l.length k'') := by rw [GC_77 hm, f1]
   simp only [W_block, ANs, AOp.map, seval, initFr, ANc, cellA_of ga, cellA_of gb, m77', m77'', show (i : Int) < (l.length : Int) by omega, decide_true, show (0 : Int) ≤ (i : Int) by omega, e2, f2, sd_eqs, a_eq2, wrap_succ (n := i) (by omega)]
   exact hnext _ _ _ ⟨i + 1, _, _, rfl, by omega, rfl, rfl⟩ (by omega)
  ·simp only [W_block, ANs, AOp.map, seval, initFr, ANc, cellA_of ga, GC_77 hm, l1, show ¬ (i : Int) < (l.length : Int) by omega, decide_false]
   refine hexit _ _ _ ?_
   simp only [W_block, ANs, AOp.map, seval, initFr, ANc]
   exact hq2 _ _ ⟨_, rfl, rfl, k2⟩
theorem t12g {H : AHeap} {m : Msg} (hm : m.s.t.length = 64) {v : Value} (h : TB H v m.d.l) (hl : m.d.l.length ≤ 100000) : ∃ r H', ARun Try.prog 0 12 [.agg (GC m v).toArray] H r H' ∧ Keeps H H' ∧ ∃ w, r = .agg (GC m w).toArray ∧ TB H' w m.d.l ∧ Fresh H.n w := by
 refine walk2 f12_ok f12_n ?_
 intro Q hq1 hq2
 have hc1 : (Value.agg (GC m v).toArray).cells.toList = GC m v := by simp [Value.cells]
 obtain ⟨Ha, hHa⟩ : ∃ X, X = H.alloc (.cells true false 78 (GC m v) 41) := ⟨_, rfl⟩
 have ka := (Keeps.refl H).alloc (.cells true false 78 (GC m v) 41)
 have ga := AHeap.get_alloc_new H (.cells true false 78 (GC m v) 41)
 rw [← hHa] at ka ga
 have na : Ha.n = H.n + 1 := by rw [hHa]; rfl
 obtain ⟨Hb, hHb⟩ : ∃ X, X = Ha.alloc (.cells true false 78 Z78 38) := ⟨_, rfl⟩
 have kb := (Keeps.refl Ha).alloc (.cells true false 78 Z78 38)
 have gb := AHeap.get_alloc_new Ha (.cells true false 78 Z78 38)
 rw [← hHb] at kb gb
 have nb : Hb.n = H.n + 2 := by rw [hHb, alloc_n, na]
 have ga := kb.at_ ga
 have z78 : Z78.all Value.oneCell' = true := rfl
 have fl := flG hm
 have vc : asem (.storen 78 (ptr Hb.n 0) (.agg (GC m (.slice none 0 0)).toArray)) (Hb.alloc (.cells true false 78 Z78 38)) = some (undef, Hb.alloc (.cells true false 78 (GC m (.slice none 0 0)) 38)) := by
  have := a_var (H := Hb) (n := 78) (room := false) (esz := 78) (e := 38) (c := Z78) (xs := (GC m (.slice none 0 0)).toArray) rfl (by simpa using GC_len hm (.slice none 0 0)) (by simpa using GC_one m (v := .slice none 0 0) rfl)
  simpa using this
 obtain ⟨Hc, hHc⟩ : ∃ X, X = Hb.alloc (.cells true false 78 (GC m (.slice none 0 0)) 38) := ⟨_, rfl⟩
 have kc := (Keeps.refl Hb).alloc (.cells true false 78 (GC m (.slice none 0 0)) 38)
 have gc := AHeap.get_alloc_new Hb (.cells true false 78 (GC m (.slice none 0 0)) 38)
 rw [← hHc] at kc gc vc
 have nc : Hc.n = H.n + 3 := by rw [hHc, alloc_n, nb]
 have ga := kc.at_ ga
 have gb2 := kc.at_ gb
 have kAll := (ka.trans kb).trans kc
 have gaB : Hb.get H.n = some (.cells true false 78 (GC m v) 41) := kb.at_ (by rw [hHa]; exact AHeap.get_alloc_new H _)
 have hlen : ∀ X, asem (.len false v) X = some (.int .i64 m.d.l.length, X) := by obtain ⟨a, k, hv, _⟩ := h; intro X; rw [hv]; rfl
 simp only [f12, W_block, ANs, AOp.map, seval, initFr, ANc, hc1, GC_one m h.one, ← hHa, ← hHb, z78, cellA_of gaB, GC_0, GC_1, GC_2, GC_3, GC_4, GC_s hm gaB, GC_73 hm, GC_74 hm, GC_75 hm, GC_76 hm, fl, vc]
 refine W_loop2 (fun q fr H2 => ∃ (i : Nat) (w y5 : Value), fr = [.agg (GC m v).toArray, ptr H.n 0, ptr Ha.n 0, ptr Hb.n 0, .int .i64 i, y5] ∧ i ≤ m.d.l.length ∧ q = m.d.l.length - i ∧ Keeps H H2 ∧ Hc.n ≤ H2.n ∧ H2.get H.n = some (.cells true false 78 (GC m v) 41) ∧ H2.get Ha.n = some (.cells true false 78 Z78 38) ∧
  H2.get Hb.n = some (.cells true false 78 (GC m w) 38) ∧ AP H2 92 2 w i (TC (m.d.l.take i)) ∧ Fresh Hc.n w) m.d.l.length ?_ ?_
 ·exact ⟨0, _, _, rfl, by omega, by omega, kAll, Nat.le_refl _, ga, gb2, gc, .inl ⟨rfl, rfl, by simp [TC]⟩, fun b hb => by cases hb⟩
 ·rintro Q' q fr H2 ⟨i, w, y5, rfl, h1, rfl, k2, n2, g1, g2, g3, ap, fw⟩ hnext hexit hret
  by_cases hi : i < m.d.l.length
  ·obtain ⟨b, k', f1, f2, f3, f4⟩ := (h.keeps k2).at_ hi
   have ht : m.d.l.take (i + 1) = m.d.l.take i ++ [m.d.l[i]] := List.take_succ_eq_append_getElem hi
   generalize m.d.l[i] = x at *
   have m77' : (GC m v)[77]? = some (slc b 0 m.d.l.length k') := by rw [GC_77 hm, f1]
   have lw : ∀ z ∈ blkL w, Hc.n ≤ z ∧ z < H2.n := fun z hz => ⟨fw z (mem_blkL.1 hz), ap.lt (mem_blkL.1 hz)⟩
   have k3 := (Keeps.refl H2).alloc (.cells true false 2 [.int .i64 x.1, .int .u8 x.2] 92)
   have g4 := AHeap.get_alloc_new H2 (.cells true false 2 [.int .i64 x.1, .int .u8 x.2] 92)
   obtain ⟨H3, hH3⟩ : ∃ X, X = H2.alloc (.cells true false 2 [.int .i64 x.1, .int .u8 x.2] 92) := ⟨_, rfl⟩
   have hbsl := bsl 92 x.1 x.2 H2
   rw [← hH3] at k3 g4 hbsl
   have n3 : H3.n = H2.n + 1 := by rw [hH3]; rfl
   simp only [W_block, ANs, AOp.map, seval, initFr, ANc, cellA_of g1, cellA_of g3, GC_77 hm w, m77', hlen, show (i : Int) < (m.d.l.length : Int) by omega, decide_true, show (0 : Int) ≤ (i : Int) by omega, f3, f4, fl2, hbsl]
   refine appD (ap.keeps k3) ⟨_, _, rfl⟩ (elems_own g4 rfl) rfl (by omega) ?_
   intro w' H4 ap4 c4 hbw
   have n4 := c4.n
   have g1' := c4.at_ (k3.at_ g1) (fun hz => by have := lw _ hz; omega)
   have g2' := c4.at_ (k3.at_ g2) (fun hz => by have := lw _ hz; omega)
   have g3' := c4.at_ (k3.at_ g3) (fun hz => by have := lw _ hz; omega)
   have st : asem (.store1 (ptr Hb.n 77) w') H4 = some (undef, H4.set Hb.n (.cells true false 78 (GC m w') 38)) := by
    rw [a_st g3' (by rw [GC_len hm]; omega) (by obtain ⟨a, e⟩ := ap4.shape; rw [e]; rfl), GC_set77 hm]
   have d5 := Chg.set H4 (b := Hb.n) (AHeap.get_lt g3') (.cells true false 78 (GC m w') 38)
   simp only [W_block, ANs, AOp.map, seval, initFr, ANc, st, wrap_succ (n := i) (by omega)]
   refine hnext _ _ _ ⟨i + 1, w', _, rfl, by omega, rfl, (((k2.trans k3).chg_trans c4 (fun z hz => by have := lw z hz; omega))).chg_trans d5 (by simp; omega), by have := d5.n; omega, d5.at_ g1' (by simp; omega), d5.at_ g2' (by simp; omega), get1 g3' _, ?_, ?_⟩ (by omega)
   ·rw [ht, TC_app]
    refine ap4.chg d5 (fun z hz => ?_)
    rcases hbw with e | e
    ·have := lw z (by rw [mem_blkL] at hz ⊢; rw [← e]; exact hz)
     simp; omega
    ·rw [mem_blkL, e] at hz; cases hz; simp; omega
   ·intro z hz
    rcases hbw with e | e
    ·rw [e] at hz; exact fw z hz
    ·rw [e] at hz; cases hz; omega
  ·simp only [W_block, ANs, AOp.map, seval, initFr, ANc, cellA_of g1, GC_77 hm, hlen, show ¬ (i : Int) < (m.d.l.length : Int) by omega, decide_false]
   refine hexit _ _ _ ?_
   have hie : i = m.d.l.length := by omega
   subst hie
   rw [List.take_length] at ap
   obtain ⟨aw, ew⟩ := ap.shape
   have st := stAll g2 rfl (GC_len hm w) (GC_one m (by rw [ew]; rfl))
   simp only [W_block, ANs, AOp.map, seval, initFr, ANc, full g3 (GC_len hm w), st]
   have d5 := Chg.set H2 (b := Ha.n) (AHeap.get_lt g2) (.cells true false 78 (GC m w) 38)
   refine hq2 _ _ ⟨_, resC1 78 2 (b := Ha.n) rfl (full (get1 g2 _) (GC_len hm w)), k2.chg_trans d5 (by simp; omega), w, rfl, TB.of_ap (ap.chg d5 (fun z hz => by
    have := fw z (mem_blkL.1 hz)
    simp; omega)), fun z hz => by have := fw z hz; omega⟩
end Go.AM.Rp

namespace Go.AM.Rp
open Go.Proofs
def inI (n : Int) : Bool := decide (0 ≤ n) && decide (n ≤ 1099511627776)
theorem inB2_eq (a b : Int) : inB [a, b] = (inI a && inI b) := by
 have h1 : ∀ x y : Int, (if y < x then y else x) = min x y := by intro x y; split <;> omega
 have h2 : ∀ x y : Int, (if y > x then y else x) = max x y := by intro x y; split <;> omega
 rw [Bool.eq_iff_iff]
 simp only [inB, inI, Bool.and_eq_true, decide_eq_true_eq, mn, mx, List.foldl, h1, h2]
 omega
theorem inB4_eq (a b c d : Int) : inB [a, b, c, d] = (inI a && inI b && inI c && inI d) := by
 have h1 : ∀ x y : Int, (if y < x then y else x) = min x y := by intro x y; split <;> omega
 have h2 : ∀ x y : Int, (if y > x then y else x) = max x y := by intro x y; split <;> omega
 rw [Bool.eq_iff_iff]
 simp only [inB, inI, Bool.and_eq_true, decide_eq_true_eq, mn, mx, List.foldl, h1, h2]
 omega
def laterB (x y : Lg) : Bool := decide (y.e < x.e) || (decide (x.e = y.e) && decide (y.c < x.c))
theorem laterB_eq (x y : Lg) : laterB x y = !decide (cmpL x y ≤ 0) := by
 have h1 := @cmpL_lt x y
 have h2 := @cmpL_eq x y
 rw [Bool.eq_iff_iff]
 simp only [laterB, Bool.or_eq_true, Bool.and_eq_true, decide_eq_true_eq, Bool.not_eq_true', decide_eq_false_iff_not]
 omega
theorem t68 (H : AHeap) (n : Int) : ∃ v H', ARun Try.prog 0 68 [.int .i64 n] H v H' ∧ v = .bool (inI n) ∧ H' = H := by
 refine walk2 f68_ok f68_n ?_
 intro Q hq1 hq2
 by_cases h : 0 ≤ n
 ·simp (disch := (first | assumption | omega | (simp only [alloc_n, set_n] <;> omega) | (simp (disch := (first | assumption | omega | (simp only [alloc_n, set_n] <;> omega))) only [row_alloc, row_set]; assumption))) only [f68, W_block, ANs, A3s, AOp.map, ↓reduceIte, Nat.reduceAdd, Nat.reduceEqDiff, reduceCtorEq, initFr, Nat.reduceLT, clsA, List.take, List.drop, Nat.reduceLeDiff, Nat.reduceMul, Nat.reduceSub, reduceIte, ANc, A3c]
  exact hq2 _ _ ⟨_, rfl, by show Value.bool _ = _; simp [inI, h], rfl⟩
 ·simp (disch := (first | assumption | omega | (simp only [alloc_n, set_n] <;> omega) | (simp (disch := (first | assumption | omega | (simp only [alloc_n, set_n] <;> omega))) only [row_alloc, row_set]; assumption))) only [f68, W_block, ANs, A3s, AOp.map, ↓reduceIte, Nat.reduceAdd, Nat.reduceEqDiff, reduceCtorEq, initFr, Nat.reduceLT, clsA, List.take, List.drop, Nat.reduceLeDiff, Nat.reduceMul, Nat.reduceSub, reduceIte, ANc, A3c]
  exact hq2 _ _ ⟨_, rfl, by show Value.bool _ = _; simp [inI, h], rfl⟩
theorem t69 (H : AHeap) (x y : Lg) : ∃ v H', ARun Try.prog 0 69 [.agg (LC x).toArray, .agg (LC y).toArray] H v H' ∧ v = .bool (laterB x y) ∧ Keeps H H' := by
 refine walk2 f69_ok f69_n ?_
 intro Q hq1 hq2
 have k := ((Keeps.refl H).alloc (.cells true false 70 (LC x) 72)).alloc (.cells true false 70 (LC y) 72)
 by_cases h1 : y.e < x.e
 ·simp (disch := (first | assumption | omega | (simp only [alloc_n, set_n] <;> omega) | (simp (disch := (first | assumption | omega | (simp only [alloc_n, set_n] <;> omega))) only [row_alloc, row_set]; assumption))) only [f69, W_block, ANs, A3s, AOp.map, ↓reduceIte, Nat.reduceAdd, Nat.reduceEqDiff, reduceCtorEq, initFr, Nat.reduceLT, clsA, List.take, List.drop, Nat.reduceLeDiff, Nat.reduceMul, Nat.reduceSub, reduceIte, ANc, A3c, LC_one, LC_0, LC_1]
  exact hq2 _ _ ⟨_, rfl, by show Value.bool _ = _; simp [laterB, h1], k⟩
 by_cases h2 : x.e = y.e
 ·simp (disch := (first | assumption | omega | (simp only [alloc_n, set_n] <;> omega) | (simp (disch := (first | assumption | omega | (simp only [alloc_n, set_n] <;> omega))) only [row_alloc, row_set]; assumption))) only [f69, W_block, ANs, A3s, AOp.map, ↓reduceIte, Nat.reduceAdd, Nat.reduceEqDiff, reduceCtorEq, initFr, Nat.reduceLT, clsA, List.take, List.drop, Nat.reduceLeDiff, Nat.reduceMul, Nat.reduceSub, reduceIte, ANc, A3c, LC_one, LC_0, LC_1]
  exact hq2 _ _ ⟨_, rfl, by show Value.bool _ = _; simp [laterB, h1, h2], k⟩
 ·simp (disch := (first | assumption | omega | (simp only [alloc_n, set_n] <;> omega) | (simp (disch := (first | assumption | omega | (simp only [alloc_n, set_n] <;> omega))) only [row_alloc, row_set]; assumption))) only [f69, W_block, ANs, A3s, AOp.map, ↓reduceIte, Nat.reduceAdd, Nat.reduceEqDiff, reduceCtorEq, initFr, Nat.reduceLT, clsA, List.take, List.drop, Nat.reduceLeDiff, Nat.reduceMul, Nat.reduceSub, reduceIte, ANc, A3c, LC_one, LC_0, LC_1]
  exact hq2 _ _ ⟨_, rfl, by show Value.bool _ = _; simp [laterB, h1, h2], k⟩
theorem t38 (H : AHeap) {x : Lg} (hx : x.s.t.length = 64) : ∃ v H', ARun Try.prog 0 38 [.agg (LC x).toArray] H v H' ∧ v = .agg (LC x).toArray ∧ Keeps H H' := by
 refine walk2 f38_ok f38_n ?_
 intro Q hq1 hq2
 have lx := LC_len hx
 have zl : Z70.length = 70 := rfl
 have ls : ((LC x).drop 2).take 68 = SC x.s := by
  show (SC x.s).take 68 = _; rw [List.take_of_length_le (by rw [SC_len hx]; omega)]
 have k := ((Keeps.refl H).alloc (.cells true false 70 (LC x) 54)).alloc (.cells true false 70 (LC x) 72)
 simp (disch := (first | assumption | omega | (simp only [alloc_n, set_n] <;> omega) | (simp (disch := (first | assumption | omega | (simp only [alloc_n, set_n] <;> omega))) only [row_alloc, row_set]; assumption))) only [f38, W_block, ANs, A3s, AOp.map, ↓reduceIte, Nat.reduceAdd, Nat.reduceEqDiff, reduceCtorEq, initFr, Nat.reduceLT, clsA, List.take, List.drop, Nat.reduceLeDiff, Nat.reduceMul, Nat.reduceSub, reduceIte, ANc, A3c, LC_one, LC_0, LC_1, z70, ls, fl70s x.e x.c hx]
 refine hq2 _ _ ⟨_, ?_, rfl, k⟩
 simp (disch := (first | assumption | omega | (simp only [alloc_n, set_n] <;> omega) | (simp (disch := (first | assumption | omega | (simp only [alloc_n, set_n] <;> omega))) only [row_alloc, row_set]; assumption))) only [f38, W_block, ANs, A3s, AOp.map, ↓reduceIte, Nat.reduceAdd, Nat.reduceEqDiff, reduceCtorEq, initFr, Nat.reduceLT, clsA, List.take, List.drop, Nat.reduceLeDiff, Nat.reduceMul, Nat.reduceSub, reduceIte, ANc, A3c]
def RC (x : Lg) (b : Bool) : List Value := LC x ++ [.bool b]
theorem RC_0 (x : Lg) (b : Bool) : (RC x b)[0]? = some (.int .i64 x.e) := rfl
theorem RC_1 (x : Lg) (b : Bool) : (RC x b)[1]? = some (.int .i64 x.c) := rfl
theorem RC_70 {x : Lg} (hx : x.s.t.length = 64) (b : Bool) : (RC x b)[70]? = some (.bool b) := by
 rw [RC, List.getElem?_append_right (by rw [LC_len hx]; omega), LC_len hx]; rfl
theorem RC_len {x : Lg} (hx : x.s.t.length = 64) (b : Bool) : (RC x b).length = 71 := by rw [RC, List.length_append, LC_len hx]; rfl
theorem RC_x {x : Lg} (hx : x.s.t.length = 64) (b : Bool) : (RC x b).take 70 = LC x := by
 rw [RC, List.take_append_of_le_length (by rw [LC_len hx]; omega), List.take_of_length_le (by rw [LC_len hx]; omega)]
theorem RC_s {x : Lg} (hx : x.s.t.length = 64) (b : Bool) : ((RC x b).drop 2).take 68 = SC x.s := by
 show (SC x.s ++ [Value.bool b]).take 68 = _
 rw [List.take_append_of_le_length (by rw [SC_len hx]; omega), List.take_of_length_le (by rw [SC_len hx]; omega)]
theorem RC_set70 {x : Lg} (hx : x.s.t.length = 64) (b c : Bool) : (RC x b).set 70 (Value.bool c) = RC x c := by
 rw [RC, List.set_append_right _ _ (by rw [LC_len hx]; omega), LC_len hx]; rfl
theorem RC_upd {x : Lg} (hx : x.s.t.length = 64) (b : Bool) (y : Lg) : LC y ++ (RC x b).drop 70 = RC y b := by
 rw [RC, List.drop_append_of_le_length (by rw [LC_len hx]; omega), List.drop_of_length_le (by rw [LC_len hx]; omega)]; rfl
def RfS (H : AHeap) (r : Nat) (x : Option Lg) : Prop := H.get r = some (.cells true false 71 (RC (x.getD L0) x.isSome) 74)
theorem flA' (e c : Int) : fillA Z78 [(0, 1, .int .u8 3), (1, 1, .int .i64 e), (2, 1, .int .i64 c)] = some (GC { G0 with k := 3, e := e, c := c } (.slice none 0 0)) := rfl
theorem t70 {H : AHeap} {r : Nat} {x : Lg} {b : Bool} (h : H.get r = some (.cells true false 71 (RC x b) 74)) : ∃ v H', ARun Try.prog 0 70 [ptr r 0] H v H' ∧ v = .agg (GC (ackM x) (.slice none 0 0)).toArray ∧ Keeps H H' := by
 refine walk2 f70_ok f70_n ?_
 intro Q hq1 hq2
 have lr := AHeap.get_lt h
 have z78 : Z78.all Value.oneCell' = true := rfl
 have zl : Z78.length = 78 := rfl
 have lg := G_len { G0 with k := 3, e := x.e, c := x.c } rfl (.slice none 0 0)
 have k := (Keeps.refl H).alloc (.cells true false 78 (GC { G0 with k := 3, e := x.e, c := x.c } (.slice none 0 0)) 38)
 have og := GC_one { G0 with k := 3, e := x.e, c := x.c } (v := .slice none 0 0) rfl
 simp (disch := (first | assumption | omega | (simp only [alloc_n, set_n] <;> omega) | (simp (disch := (first | assumption | omega | (simp only [alloc_n, set_n] <;> omega))) only [row_alloc, row_set]; assumption))) only [f70, W_block, ANs, A3s, AOp.map, ↓reduceIte, Nat.reduceAdd, Nat.reduceEqDiff, reduceCtorEq, initFr, Nat.reduceLT, clsA, List.take, List.drop, Nat.reduceLeDiff, Nat.reduceMul, Nat.reduceSub, reduceIte, ANc, A3c, z78, h, RC_0, RC_1, flA', og]
 refine hq2 _ _ ⟨_, ?_, rfl, k⟩
 simp (disch := (first | assumption | omega | (simp only [alloc_n, set_n] <;> omega) | (simp (disch := (first | assumption | omega | (simp only [alloc_n, set_n] <;> omega))) only [row_alloc, row_set]; assumption))) only [f70, W_block, ANs, A3s, AOp.map, ↓reduceIte, Nat.reduceAdd, Nat.reduceEqDiff, reduceCtorEq, initFr, Nat.reduceLT, clsA, List.take, List.drop, Nat.reduceLeDiff, Nat.reduceMul, Nat.reduceSub, reduceIte, ANc, A3c]
 rfl
theorem t41 {H : AHeap} {r : Nat} {x : Option Lg} {y : Lg} (h : RfS H r x) (hx : (x.getD L0).s.t.length = 64) (hy : y.s.t.length = 64) : ∃ w H', ARun Try.prog 0 41 [ptr r 0, .agg (LC y).toArray] H w H' ∧ w = .int .i64 (beginR x y).1 ∧ RfS H' r (beginR x y).2 ∧ Chg [r] H H' := by
 refine walk2 f41_ok f41_n ?_
 intro Q hq1 hq2
 have h' : H.get r = some (.cells true false 71 (RC (x.getD L0) x.isSome) 74) := h
 have lr := AHeap.get_lt h'
 have k := (Keeps.refl H).alloc (.cells true false 70 (LC y) 72)
 have ly := LC_len hy
 have lc := RC_len hx x.isSome
 have lc2 := RC_len hy x.isSome
 unfold beginR at hq2
 rw [inB2_eq] at hq2
 simp (disch := (first | assumption | omega | (simp only [alloc_n, set_n] <;> omega) | (simp (disch := (first | assumption | omega | (simp only [alloc_n, set_n] <;> omega))) only [row_alloc, row_set]; assumption))) only [f41, W_block, ANs, A3s, AOp.map, ↓reduceIte, Nat.reduceAdd, Nat.reduceEqDiff, reduceCtorEq, initFr, Nat.reduceLT, clsA, List.take, List.drop, Nat.reduceLeDiff, Nat.reduceMul, Nat.reduceSub, reduceIte, ANc, A3c, LC_one, LC_0, LC_1]
 refine callK (t68 _ y.e) ?_
 rintro _ K ⟨rfl, rfl⟩
 cases h1 : inI y.e with
 | false =>
  simp only [h1, Bool.false_and, Bool.false_eq_true, if_false] at hq2
  simp (disch := (first | assumption | omega | (simp only [alloc_n, set_n] <;> omega) | (simp (disch := (first | assumption | omega | (simp only [alloc_n, set_n] <;> omega))) only [row_alloc, row_set]; assumption))) only [W_block, ANs, A3s, AOp.map, ↓reduceIte, Nat.reduceAdd, Nat.reduceEqDiff, reduceCtorEq, initFr, Nat.reduceLT, clsA, List.take, List.drop, Nat.reduceLeDiff, Nat.reduceMul, Nat.reduceSub, reduceIte, ANc, A3c]
  exact hq2 _ _ ⟨_, rfl, rfl, k.at_ h', k.chg _⟩
 | true =>
  simp (disch := (first | assumption | omega | (simp only [alloc_n, set_n] <;> omega) | (simp (disch := (first | assumption | omega | (simp only [alloc_n, set_n] <;> omega))) only [row_alloc, row_set]; assumption))) only [W_block, ANs, A3s, AOp.map, ↓reduceIte, Nat.reduceAdd, Nat.reduceEqDiff, reduceCtorEq, initFr, Nat.reduceLT, clsA, List.take, List.drop, Nat.reduceLeDiff, Nat.reduceMul, Nat.reduceSub, reduceIte, ANc, A3c, LC_1]
  refine callK (t68 _ y.c) ?_
  rintro _ K ⟨rfl, rfl⟩
  cases h2 : inI y.c with
  | false =>
   simp only [h1, h2, Bool.and_false, Bool.false_eq_true, if_false] at hq2
   simp (disch := (first | assumption | omega | (simp only [alloc_n, set_n] <;> omega) | (simp (disch := (first | assumption | omega | (simp only [alloc_n, set_n] <;> omega))) only [row_alloc, row_set]; assumption))) only [W_block, ANs, A3s, AOp.map, ↓reduceIte, Nat.reduceAdd, Nat.reduceEqDiff, reduceCtorEq, initFr, Nat.reduceLT, clsA, List.take, List.drop, Nat.reduceLeDiff, Nat.reduceMul, Nat.reduceSub, reduceIte, ANc, A3c]
   exact hq2 _ _ ⟨_, rfl, rfl, k.at_ h', k.chg _⟩
  | true =>
   simp only [h1, h2, Bool.and_self, if_true] at hq2
   simp (disch := (first | assumption | omega | (simp only [alloc_n, set_n] <;> omega) | (simp (disch := (first | assumption | omega | (simp only [alloc_n, set_n] <;> omega))) only [row_alloc, row_set]; assumption))) only [W_block, ANs, A3s, AOp.map, ↓reduceIte, Nat.reduceAdd, Nat.reduceEqDiff, reduceCtorEq, initFr, Nat.reduceLT, clsA, List.take, List.drop, Nat.reduceLeDiff, Nat.reduceMul, Nat.reduceSub, reduceIte, ANc, A3c, h', RC_upd hx, RC_set70 hy, LC_one]
   refine hq2 _ _ ⟨_, rfl, rfl, ?_, ?_⟩
   ·show _ = some (AO.cells true false 71 (RC y true) 74)
    simp (disch := (first | assumption | omega | (simp only [alloc_n, set_n] <;> omega) | (simp (disch := (first | assumption | omega | (simp only [alloc_n, set_n] <;> omega))) only [row_alloc, row_set]; assumption))) only [W_block, ANs, A3s, AOp.map, ↓reduceIte, Nat.reduceAdd, Nat.reduceEqDiff, reduceCtorEq, initFr, Nat.reduceLT, clsA, List.take, List.drop, Nat.reduceLeDiff, Nat.reduceMul, Nat.reduceSub, reduceIte, ANc, A3c, h']
   ·exact (((Chg.refl [r] H).set' (.inr (by simp)) lr _).alloc _)
theorem t61 {H : AHeap} {m : Msg} {v : Value} (hs : m.s.t.length = 64) (h : TB H v m.d.l) (hl : m.d.l.length ≤ 100000) : ∃ r H', ARun Try.prog 0 61 [.agg (GC m v).toArray] H r H' ∧ r = .bool (mayB m) ∧ Keeps H H' := by
 refine walk2 f61_ok f61_n ?_
 intro Q hq1 hq2
 have k := (Keeps.refl H).alloc (.cells true false 78 (GC m v) 38)
 have og := GC_one m h.one
 unfold mayB at hq2
 rw [inB4_eq] at hq2
 simp (disch := (first | assumption | omega | (simp only [alloc_n, set_n] <;> omega) | (simp (disch := (first | assumption | omega | (simp only [alloc_n, set_n] <;> omega))) only [row_alloc, row_set]; assumption))) only [f61, W_block, ANs, A3s, AOp.map, ↓reduceIte, Nat.reduceAdd, Nat.reduceEqDiff, reduceCtorEq, initFr, Nat.reduceLT, clsA, List.take, List.drop, Nat.reduceLeDiff, Nat.reduceMul, Nat.reduceSub, reduceIte, ANc, A3c, og, GC_0]
 by_cases h1 : 1 ≤ m.k
 case neg =>
  simp only [h1, decide_false, Bool.false_and] at hq2
  simp (disch := (first | assumption | omega | (simp only [alloc_n, set_n] <;> omega) | (simp (disch := (first | assumption | omega | (simp only [alloc_n, set_n] <;> omega))) only [row_alloc, row_set]; assumption))) only [W_block, ANs, A3s, AOp.map, ↓reduceIte, Nat.reduceAdd, Nat.reduceEqDiff, reduceCtorEq, initFr, Nat.reduceLT, clsA, List.take, List.drop, Nat.reduceLeDiff, Nat.reduceMul, Nat.reduceSub, reduceIte, ANc, A3c]
  exact hq2 _ _ ⟨_, rfl, rfl, k⟩
 by_cases h2 : m.k ≤ 4
 case neg =>
  simp only [h1, h2, decide_false, decide_true, Bool.false_and, Bool.and_false] at hq2
  simp (disch := (first | assumption | omega | (simp only [alloc_n, set_n] <;> omega) | (simp (disch := (first | assumption | omega | (simp only [alloc_n, set_n] <;> omega))) only [row_alloc, row_set]; assumption))) only [W_block, ANs, A3s, AOp.map, ↓reduceIte, Nat.reduceAdd, Nat.reduceEqDiff, reduceCtorEq, initFr, Nat.reduceLT, clsA, List.take, List.drop, Nat.reduceLeDiff, Nat.reduceMul, Nat.reduceSub, reduceIte, ANc, A3c, GC_0]
  exact hq2 _ _ ⟨_, rfl, rfl, k⟩
 simp only [h1, h2, decide_true, Bool.true_and] at hq2
 simp (disch := (first | assumption | omega | (simp only [alloc_n, set_n] <;> omega) | (simp (disch := (first | assumption | omega | (simp only [alloc_n, set_n] <;> omega))) only [row_alloc, row_set]; assumption))) only [W_block, ANs, A3s, AOp.map, ↓reduceIte, Nat.reduceAdd, Nat.reduceEqDiff, reduceCtorEq, initFr, Nat.reduceLT, clsA, List.take, List.drop, Nat.reduceLeDiff, Nat.reduceMul, Nat.reduceSub, reduceIte, ANc, A3c, GC_0, GC_1]
 refine callK (t68 _ m.e) ?_
 rintro _ K ⟨rfl, rfl⟩
 cases e1 : inI m.e
 ·simp only [e1, Bool.false_and] at hq2
  simp (disch := (first | assumption | omega | (simp only [alloc_n, set_n] <;> omega) | (simp (disch := (first | assumption | omega | (simp only [alloc_n, set_n] <;> omega))) only [row_alloc, row_set]; assumption))) only [W_block, ANs, A3s, AOp.map, ↓reduceIte, Nat.reduceAdd, Nat.reduceEqDiff, reduceCtorEq, initFr, Nat.reduceLT, clsA, List.take, List.drop, Nat.reduceLeDiff, Nat.reduceMul, Nat.reduceSub, reduceIte, ANc, A3c]
  exact hq2 _ _ ⟨_, rfl, rfl, k⟩
 simp (disch := (first | assumption | omega | (simp only [alloc_n, set_n] <;> omega) | (simp (disch := (first | assumption | omega | (simp only [alloc_n, set_n] <;> omega))) only [row_alloc, row_set]; assumption))) only [W_block, ANs, A3s, AOp.map, ↓reduceIte, Nat.reduceAdd, Nat.reduceEqDiff, reduceCtorEq, initFr, Nat.reduceLT, clsA, List.take, List.drop, Nat.reduceLeDiff, Nat.reduceMul, Nat.reduceSub, reduceIte, ANc, A3c, GC_2]
 refine callK (t68 _ m.c) ?_
 rintro _ K ⟨rfl, rfl⟩
 cases e2 : inI m.c
 ·simp only [e1, e2, Bool.false_and, Bool.and_false] at hq2
  simp (disch := (first | assumption | omega | (simp only [alloc_n, set_n] <;> omega) | (simp (disch := (first | assumption | omega | (simp only [alloc_n, set_n] <;> omega))) only [row_alloc, row_set]; assumption))) only [W_block, ANs, A3s, AOp.map, ↓reduceIte, Nat.reduceAdd, Nat.reduceEqDiff, reduceCtorEq, initFr, Nat.reduceLT, clsA, List.take, List.drop, Nat.reduceLeDiff, Nat.reduceMul, Nat.reduceSub, reduceIte, ANc, A3c]
  exact hq2 _ _ ⟨_, rfl, rfl, k⟩
 simp (disch := (first | assumption | omega | (simp only [alloc_n, set_n] <;> omega) | (simp (disch := (first | assumption | omega | (simp only [alloc_n, set_n] <;> omega))) only [row_alloc, row_set]; assumption))) only [W_block, ANs, A3s, AOp.map, ↓reduceIte, Nat.reduceAdd, Nat.reduceEqDiff, reduceCtorEq, initFr, Nat.reduceLT, clsA, List.take, List.drop, Nat.reduceLeDiff, Nat.reduceMul, Nat.reduceSub, reduceIte, ANc, A3c, GC_3]
 refine callK (t68 _ m.be) ?_
 rintro _ K ⟨rfl, rfl⟩
 cases e3 : inI m.be
 ·simp only [e1, e2, e3, Bool.false_and, Bool.and_false] at hq2
  simp (disch := (first | assumption | omega | (simp only [alloc_n, set_n] <;> omega) | (simp (disch := (first | assumption | omega | (simp only [alloc_n, set_n] <;> omega))) only [row_alloc, row_set]; assumption))) only [W_block, ANs, A3s, AOp.map, ↓reduceIte, Nat.reduceAdd, Nat.reduceEqDiff, reduceCtorEq, initFr, Nat.reduceLT, clsA, List.take, List.drop, Nat.reduceLeDiff, Nat.reduceMul, Nat.reduceSub, reduceIte, ANc, A3c]
  exact hq2 _ _ ⟨_, rfl, rfl, k⟩
 simp (disch := (first | assumption | omega | (simp only [alloc_n, set_n] <;> omega) | (simp (disch := (first | assumption | omega | (simp only [alloc_n, set_n] <;> omega))) only [row_alloc, row_set]; assumption))) only [W_block, ANs, A3s, AOp.map, ↓reduceIte, Nat.reduceAdd, Nat.reduceEqDiff, reduceCtorEq, initFr, Nat.reduceLT, clsA, List.take, List.drop, Nat.reduceLeDiff, Nat.reduceMul, Nat.reduceSub, reduceIte, ANc, A3c, GC_4]
 refine callK (t68 _ m.b) ?_
 rintro _ K ⟨rfl, rfl⟩
 cases e4 : inI m.b
 ·simp only [e1, e2, e3, e4, Bool.false_and, Bool.and_false] at hq2
  simp (disch := (first | assumption | omega | (simp only [alloc_n, set_n] <;> omega) | (simp (disch := (first | assumption | omega | (simp only [alloc_n, set_n] <;> omega))) only [row_alloc, row_set]; assumption))) only [W_block, ANs, A3s, AOp.map, ↓reduceIte, Nat.reduceAdd, Nat.reduceEqDiff, reduceCtorEq, initFr, Nat.reduceLT, clsA, List.take, List.drop, Nat.reduceLeDiff, Nat.reduceMul, Nat.reduceSub, reduceIte, ANc, A3c]
  exact hq2 _ _ ⟨_, rfl, rfl, k⟩
 simp only [e1, e2, e3, e4, Bool.true_and] at hq2
 simp (disch := (first | assumption | omega | (simp only [alloc_n, set_n] <;> omega) | (simp (disch := (first | assumption | omega | (simp only [alloc_n, set_n] <;> omega))) only [row_alloc, row_set]; assumption))) only [W_block, ANs, A3s, AOp.map, ↓reduceIte, Nat.reduceAdd, Nat.reduceEqDiff, reduceCtorEq, initFr, Nat.reduceLT, clsA, List.take, List.drop, Nat.reduceLeDiff, Nat.reduceMul, Nat.reduceSub, reduceIte, ANc, A3c, GC_77 hs]
 refine callK (t32 (h.keeps k) hl) ?_
 rintro _ K ⟨rfl, rfl⟩
 simp (disch := (first | assumption | omega | (simp only [alloc_n, set_n] <;> omega) | (simp (disch := (first | assumption | omega | (simp only [alloc_n, set_n] <;> omega))) only [row_alloc, row_set]; assumption))) only [W_block, ANs, A3s, AOp.map, ↓reduceIte, Nat.reduceAdd, Nat.reduceEqDiff, reduceCtorEq, initFr, Nat.reduceLT, clsA, List.take, List.drop, Nat.reduceLeDiff, Nat.reduceMul, Nat.reduceSub, reduceIte, ANc, A3c]
 exact hq2 _ _ ⟨_, rfl, rfl, k⟩
theorem t43 {H : AHeap} {m : Msg} {v : Value} (hs : m.s.t.length = 64) (h : AP H 90 2 v m.d.l.length (TC m.d.l)) (hl : m.d.l.length ≤ 64) : ∃ r H', ARun Try.prog 0 43 [.agg (GC m v).toArray] H r H' ∧ Chg (blkL v) H H' := by
 obtain ⟨r, H', h1, _, h2⟩ : ∃ r H', ARun Try.prog 0 43 [.agg (GC m v).toArray] H r H' ∧ True ∧ Chg (blkL v) H H' := by
  refine walk2 f43_ok f43_n ?_
  intro Q hq1 hq2
  have k := (Keeps.refl H).alloc (.cells true false 78 (GC m v) 41)
  obtain ⟨a, ha⟩ := h.shape
  have his : isS v = true := by rw [ha]; rfl
  have hlen : lenS v = m.d.l.length := by rw [ha]; rfl
  have og := GC_one m (v := v) (by rw [ha]; rfl)
  have bnv := AP.bn h
  simp (disch := (first | assumption | omega | (simp only [alloc_n, set_n] <;> omega) | (simp (disch := (first | assumption | omega | (simp only [alloc_n, set_n] <;> omega))) only [row_alloc, row_set]; assumption))) only [f43, W_block, ANs, A3s, AOp.map, ↓reduceIte, Nat.reduceAdd, Nat.reduceEqDiff, reduceCtorEq, initFr, Nat.reduceLT, clsA, List.take, List.drop, Nat.reduceLeDiff, Nat.reduceMul, Nat.reduceSub, reduceIte, ANc, A3c, og, GC_77 hs]
  rcases h with ⟨rfl, h0, _⟩ | ⟨b, room, rfl, h1, h2⟩
  ·refine W_loop2 (fun q fr K => K = H.alloc (.cells true false 78 (GC m (.slice none 0 0)) 41) ∧ ∃ y4 : Value, fr = [.agg (GC m (.slice none 0 0)).toArray, ptr H.n 0, .slice none 0 0, .int .i64 0, y4]) 0 ⟨rfl, _, rfl⟩ ?_
   rintro Q' q fr K ⟨rfl, y4, rfl⟩ hn he hr
   simp (disch := (first | assumption | omega | (simp only [alloc_n, set_n] <;> omega) | (simp (disch := (first | assumption | omega | (simp only [alloc_n, set_n] <;> omega))) only [row_alloc, row_set]; assumption))) only [W_block, ANs, A3s, AOp.map, ↓reduceIte, Nat.reduceAdd, Nat.reduceEqDiff, reduceCtorEq, initFr, Nat.reduceLT, clsA, List.take, List.drop, Nat.reduceLeDiff, Nat.reduceMul, Nat.reduceSub, reduceIte, ANc, A3c]
   refine he _ _ _ ?_
   simp (disch := (first | assumption | omega | (simp only [alloc_n, set_n] <;> omega) | (simp (disch := (first | assumption | omega | (simp only [alloc_n, set_n] <;> omega))) only [row_alloc, row_set]; assumption))) only [W_block, ANs, A3s, AOp.map, ↓reduceIte, Nat.reduceAdd, Nat.reduceEqDiff, reduceCtorEq, initFr, Nat.reduceLT, clsA, List.take, List.drop, Nat.reduceLeDiff, Nat.reduceMul, Nat.reduceSub, reduceIte, ANc, A3c]
   exact hq1 _ _ ⟨_, rfl, trivial, k.chg _⟩
  ·have hb := AHeap.get_lt h2
   refine W_loop2 (fun q fr K => ∃ (i : Nat) (c : List Value) (y4 : Value), q = m.d.l.length - i ∧ i ≤ m.d.l.length ∧ K.get b = some (.cells true room 2 c 90) ∧ c.length = m.d.l.length * 2 ∧ Chg [b] H K ∧ fr = [.agg (GC m (slc b 0 m.d.l.length m.d.l.length)).toArray, ptr H.n 0, slc b 0 m.d.l.length m.d.l.length, .int .i64 i, y4]) m.d.l.length
    ⟨0, _, _, rfl, by omega, k.at_ h2, h1, k.chg _, rfl⟩ ?_
   rintro Q' q fr K ⟨i, c, y4, rfl, hi, hK, hc, hch, rfl⟩ hn he hr
   have lb := AHeap.get_lt hK
   by_cases hlt : i < m.d.l.length
   ·have fl : fillA [.int .i64 0, .int .u8 0] [(0, 1, .int .i64 99)] = some [.int .i64 99, .int .u8 0] := rfl
    have st : asem (.storen 2 (ptr b (i * 2)) (.agg [.int .i64 99, .int .u8 0].toArray)) K = some (undef, K.set b (.cells true room 2 (c.take (i * 2) ++ [.int .i64 99, .int .u8 0] ++ c.drop (i * 2 + 2)) 90)) := by
     rw [a_storen hK, if_pos ⟨by omega, rfl, rfl⟩]; rfl
    simp (disch := (first | assumption | omega | (simp only [alloc_n, set_n] <;> omega) | (simp (disch := (first | assumption | omega | (simp only [alloc_n, set_n] <;> omega))) only [row_alloc, row_set]; assumption))) only [W_block, ANs, A3s, AOp.map, ↓reduceIte, Nat.reduceAdd, Nat.reduceEqDiff, reduceCtorEq, initFr, Nat.reduceLT, clsA, List.take, List.drop, Nat.reduceLeDiff, Nat.reduceMul, Nat.reduceSub, reduceIte, ANc, A3c, fl, st, wrap_succ (n := i) (by omega)]
    refine hn _ _ _ ⟨i + 1, _, _, rfl, by omega, get1 hK _, ?_, hch.set' (.inr (by simp)) lb _, rfl⟩ (by omega)
    simp; omega
   ·simp (disch := (first | assumption | omega | (simp only [alloc_n, set_n] <;> omega) | (simp (disch := (first | assumption | omega | (simp only [alloc_n, set_n] <;> omega))) only [row_alloc, row_set]; assumption))) only [W_block, ANs, A3s, AOp.map, ↓reduceIte, Nat.reduceAdd, Nat.reduceEqDiff, reduceCtorEq, initFr, Nat.reduceLT, clsA, List.take, List.drop, Nat.reduceLeDiff, Nat.reduceMul, Nat.reduceSub, reduceIte, ANc, A3c]
    refine he _ _ _ ?_
    simp (disch := (first | assumption | omega | (simp only [alloc_n, set_n] <;> omega) | (simp (disch := (first | assumption | omega | (simp only [alloc_n, set_n] <;> omega))) only [row_alloc, row_set]; assumption))) only [W_block, ANs, A3s, AOp.map, ↓reduceIte, Nat.reduceAdd, Nat.reduceEqDiff, reduceCtorEq, initFr, Nat.reduceLT, clsA, List.take, List.drop, Nat.reduceLeDiff, Nat.reduceMul, Nat.reduceSub, reduceIte, ANc, A3c]
    exact hq1 _ _ ⟨_, rfl, trivial, hch.mono (by intro z hz; simp at hz; subst hz; simp [mem_blkL, blk, slc])⟩
 exact ⟨r, H', h1, h2⟩
theorem t22 (H : AHeap) : ∃ w H', ARun Try.prog 0 22 [] H w H' ∧ w = ptr H.n 0 ∧ H' = H.alloc (.cells true false 2 [.slice none 0 0, .int .i64 (-1)] 99) := by
 refine walk2 f22_ok f22_n ?_
 intro Q hq1 hq2
 have fl : fillA [.slice none 0 0, .int .i64 0] [(1, 1, .int .i64 (-1))] = some [.slice none 0 0, .int .i64 (-1)] := rfl
 simp (disch := (first | assumption | omega | (simp only [alloc_n, set_n] <;> omega) | (simp (disch := (first | assumption | omega | (simp only [alloc_n, set_n] <;> omega))) only [row_alloc, row_set]; assumption))) only [f22, W_block, ANs, A3s, AOp.map, ↓reduceIte, Nat.reduceAdd, Nat.reduceEqDiff, reduceCtorEq, initFr, Nat.reduceLT, clsA, List.take, List.drop, Nat.reduceLeDiff, Nat.reduceMul, Nat.reduceSub, reduceIte, ANc, A3c, fl]
 exact hq2 _ _ ⟨_, rfl, rfl, rfl⟩
end Go.AM.Rp
