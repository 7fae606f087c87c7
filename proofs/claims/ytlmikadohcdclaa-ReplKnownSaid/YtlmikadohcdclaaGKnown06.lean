/- Part of the proof. -/
import Derived.Test.YtlmikadohcdclaaGKnown05
set_option linter.unusedSimpArgs false
set_option linter.unusedVariables false
namespace Go.AM.Rg
open Nat (reduceAdd reduceEqDiff reduceLT reduceLeDiff reduceMul reduceSub)
open Go.Proofs Go.AM.F Go.AM.Fd
def tmL (b : List UInt8) (n : Nat) : List (Int × Int) := (List.range n).map fun i => ((na b (62 + 2 * i) 1 : Nat), (na b (62 + 2 * i + 1) 1 : Nat))
theorem tmL_len (b : List UInt8) (n : Nat) : (tmL b n).length = n := by simp [tmL]
theorem tmL_succ (b : List UInt8) (n : Nat) : tmL b (n + 1) = tmL b n ++ [(((na b (62 + 2 * n) 1 : Nat) : Int), ((na b (62 + 2 * n + 1) 1 : Nat) : Int))] := by
 unfold tmL; rw [List.range_succ, List.map_append]; rfl
theorem tmL_in {b : List UInt8} {n : Nat} {t : Int × Int} (h : t ∈ tmL b n) : 0 ≤ t.1 ∧ t.1 < 256 ∧ 0 ≤ t.2 ∧ t.2 < 256 := by
 simp only [tmL, List.mem_map] at h
 obtain ⟨i, _, rfl⟩ := h
 have h1 := na1 b (62 + 2 * i)
 have h2 := na1 b (62 + 2 * i + 1)
 exact ⟨by show (0 : Int) ≤ _; omega, by show _ < (256 : Int); omega, by show (0 : Int) ≤ _; omega, by show _ < (256 : Int); omega⟩
def iw (n : Nat) : Int := IntKind.i64.wrap (n : Nat)
theorem iw_b (n : Nat) : i64B (iw n) := by
 unfold i64B iw
 simp only [IntKind.wrap, IntKind.bits, IntKind.signed]
 simp
 split <;> omega
def D0 : Rp.D := ⟨0, 0, 0, 0, []⟩
def hM (b : List UInt8) : Ms := ⟨na b 0 1, iw (na b 1 8), iw (na b 9 8), iw (na b 17 8), iw (na b 25 8), St0, D0⟩
def nT (b : List UInt8) : Nat := na b 61 1
def dM (b : List UInt8) : Rp.D := ⟨na b 33 8, na b 41 8, na b 49 8, na b 57 4, tmL b (nT b)⟩
def gS (b : List UInt8) : Option St := geSt (b.drop 33)
def rdM (b : List UInt8) : Ms := if (hM b).k = 1 then { hM b with s := (gS b).getD St0 } else if (hM b).k = 2 then { hM b with d := dM b } else hM b
def zz (x y : Int) : Bool := decide (x = 0) && decide (y = 0)
def okM (b : List UInt8) : Bool :=
 (decide ((hM b).k = 1) && ((gS b).isSome && zz (hM b).be (hM b).b)) || decide ((hM b).k = 2) || (decide ((hM b).k = 3) && zz (hM b).be (hM b).b) || (decide ((hM b).k = 4) && (zz (hM b).be (hM b).b && zz (hM b).e (hM b).c))
def geM (b : List UInt8) : Option Ms := if 33 ≤ b.length ∧ okM b = true ∧ pM (rdM b) = b then some (rdM b) else none
theorem rgD0 : ∀ t ∈ D0.l, i64B t.1 ∧ 0 ≤ t.2 ∧ t.2 < 256 := fun t h => by cases h
theorem rgSt0 : rgSt St0 := ⟨rfl, by decide, by decide, by decide, by decide⟩
theorem gS_rg (b : List UInt8) : rgSt ((gS b).getD St0) := by
 unfold gS
 cases h : geSt (b.drop 33) with
 | none => exact rgSt0
 | some y => exact (geSt_some h).2.1
theorem rdM_rg (b : List UInt8) : rgM (rdM b) := by
 unfold rdM
 split
 ·exact ⟨na1 b 0, iw_b _, iw_b _, iw_b _, iw_b _, gS_rg b, (by decide : 0 < 18446744073709551616), (by decide : 0 < 18446744073709551616), (by decide : 0 < 18446744073709551616), (by decide : 0 < 4294967296), rgD0⟩
 split
 ·refine ⟨na1 b 0, iw_b _, iw_b _, iw_b _, iw_b _, rgSt0, na8 b 33, na8 b 41, na8 b 49, na4 b 57, fun t ht => ?_⟩
  have := tmL_in ht
  exact ⟨⟨by omega, by omega⟩, by omega, by omega⟩
 ·exact ⟨na1 b 0, iw_b _, iw_b _, iw_b _, iw_b _, rgSt0, (by decide : 0 < 18446744073709551616), (by decide : 0 < 18446744073709551616), (by decide : 0 < 18446744073709551616), (by decide : 0 < 4294967296), rgD0⟩
theorem rdM_len (b : List UInt8) : (rdM b).d.l.length ≤ 255 := by
 have h1 := na1 b 61
 unfold rdM
 split
 ·exact Nat.zero_le _
 split
 ·show (tmL b (nT b)).length ≤ 255
  rw [tmL_len]; unfold nT; omega
 ·exact Nat.zero_le _
section
variable {x : Ms} (h : x.s.t.length = 64) (v : Value)
include h
theorem cM_sets (s : St) : (cM x v).take 5 ++ cSt s ++ (cM x v).drop 73 = cM { x with s := s } v := by
 rw [← toS_c s]
 have h1 : (Rp.SC (toS x.s)).length = 68 := Rp.SC_len (toS_len h)
 simp only [cM, Rp.GC, M, List.take_succ_cons, List.take_zero, List.drop_succ_cons, List.cons_append, List.nil_append]
 rw [List.drop_append_of_le_length (by omega), List.drop_of_length_le (by omega)]
 rfl
theorem cM_MP : ∃ p : Rp.Pre, ∀ (d : Rp.D) (v : Value), cM { x with d := d } v = Rp.MP p d v := ⟨Rp.pre (M x) (toS_len h), fun d v => rfl⟩
theorem cM_set73 (n : Nat) : (cM x v).set 73 (.int .u64 n) = cM { x with d := { x.d with a := n } } v := by
 obtain ⟨p, hp⟩ := cM_MP h; have h1 : cM x v = _ := hp x.d v; rw [h1, hp]; exact Rp.MP_set73 p _ _ _
theorem cM_set74 (n : Nat) : (cM x v).set 74 (.int .u64 n) = cM { x with d := { x.d with b := n } } v := by
 obtain ⟨p, hp⟩ := cM_MP h; have h1 : cM x v = _ := hp x.d v; rw [h1, hp]; exact Rp.MP_set74 p _ _ _
theorem cM_set75 (n : Nat) : (cM x v).set 75 (.int .u64 n) = cM { x with d := { x.d with c := n } } v := by
 obtain ⟨p, hp⟩ := cM_MP h; have h1 : cM x v = _ := hp x.d v; rw [h1, hp]; exact Rp.MP_set75 p _ _ _
theorem cM_set76 (n : Nat) : (cM x v).set 76 (.int .u32 n) = cM { x with d := { x.d with p := n } } v := by
 obtain ⟨p, hp⟩ := cM_MP h; have h1 : cM x v = _ := hp x.d v; rw [h1, hp]; exact Rp.MP_set76 p _ _ _
theorem cM_set77 (w : Value) : (cM x v).set 77 w = cM x w := by
 obtain ⟨p, hp⟩ := cM_MP h
 have h1 : cM x v = _ := hp x.d v
 have h2 : cM x w = _ := hp x.d w
 rw [h1, h2]; exact Rp.MP_set77 p _ _ _
theorem cM_set5 (d : Rp.D) (w : Value) : (cM x v).take 73 ++ [.int .u64 d.a, .int .u64 d.b, .int .u64 d.c, .int .u32 d.p, w] ++ (cM x v).drop 78 = cM { x with d := d } w := by
 obtain ⟨p, hp⟩ := cM_MP h
 have h1 : cM x v = _ := hp x.d v
 rw [h1, hp]
 unfold Rp.MP
 rw [List.take_append_of_le_length (by rw [p.len]; omega), List.take_of_length_le (by rw [p.len]; omega), List.drop_of_length_le (by simp [p.len]), List.append_nil]
end
theorem fillM (k : Nat) (e c be b : Int) : fillA Z78 [(0, 1, .int .u8 k), (1, 1, .int .i64 e), (2, 1, .int .i64 c), (3, 1, .int .i64 be), (4, 1, .int .i64 b)] = some (cM ⟨k, e, c, be, b, St0, D0⟩ (.slice none 0 0)) := rfl
theorem Z78_M : Z78 = cM M0 (.slice none 0 0) := rfl
theorem t52 {H : AHeap} {u v : Value} {l m : List UInt8} (hu : BS H u l) (hv : BS H v m) : ∃ w H', ARun Try.prog 0 52 [u, v] H w H' ∧ w = .bool (decide (l = m)) ∧ H' = H := by
 refine walk2 f52_ok f52_n ?_
 intro Q hq1 hq2
 simp (disch := first | assumption | omega) only [f52, W_block, P3, seval, initFr, clsA, a_b2sB hu, a_b2sB hv, bytes_eq]
 exact hq2 _ _ ⟨_, rfl, rfl, rfl⟩
theorem t53 {H : AHeap} {v : Value} {b : List UInt8} (hb : BQ H v b) (i w : Nat) (hi : i ≤ 1000000000) (hw : w ≤ 8) (hl : b.length ≤ 1000000000) :
  ∃ u H', ARun Try.prog 0 53 [v, .int .i64 (i : Nat), .int .i64 (w : Nat)] H u H' ∧ u = .int .u64 (na b i w : Nat) ∧ H' = H := by
 refine walk2 f53_ok f53_n ?_
 intro Q hq1 hq2
 have hs := hb.bs.sl
 have his := hs.is
 have hlen := hs.len
 rw [List.length_map] at hlen
 have hw1 : IntKind.i64.wrap ((i : Int) + (w : Int)) = ((i + w : Nat) : Int) := by rw [wrap_i64 (by omega) (by omega)]; push_cast; rfl
 by_cases hc : b.length < i + w
 ·simp (disch := first | assumption | omega) only [f53, W_block, P3, seval, initFr, clsA, hlen, hw1]
  exact hq2 _ _ ⟨_, rfl, by unfold na seg; rw [if_pos hc]; rfl, rfl⟩
 ·obtain ⟨u, s1, q1⟩ := hb.mid (k := .i64) (k' := .i64) i (i + w) (by omega) (by omega)
  simp (disch := first | assumption | omega) only [f53, W_block, P3, seval, initFr, clsA, hlen, hw1, s1]
  refine ⟨_, _, t77 q1.bs (by rw [List.length_take]; omega), ?_⟩
  simp (disch := first | assumption | omega) only [W_block, P3, seval, initFr, clsA]
  exact hq2 _ _ ⟨_, rfl, by unfold na seg; rw [if_neg hc, show i + w - i = w by omega]; rfl, rfl⟩
end Go.AM.Rg

namespace Go.AM
def cpre : Nat → ACode → ACode
 | 0, _ => .skip
 | 1, .seq a _ => a
 | n + 2, .seq a b => .seq a (cpre (n + 1) b)
 | _ + 1, c => c
def cpost : Nat → ACode → ACode
 | 0, c => c
 | n + 1, .seq _ b => cpost n b
 | _ + 1, _ => .skip
def cok : Nat → ACode → Bool
 | 0, _ => false
 | 1, .seq _ _ => true
 | n + 2, .seq _ b => cok (n + 1) b
 | _ + 1, _ => false
variable {P : Program} {ng : Nat} {H : AHeap} {Q : AQ} {fr : List Value}
theorem andThen2 (Q : AQ) (K K' : List Value → AHeap → Prop) : (Q.andThen K).andThen K' = Q.andThen K' := by
 funext e fr H
 cases e <;> rfl
theorem W_pp : ∀ (n : Nat) (c : ACode) (Q : AQ) (fr : List Value) (H : AHeap), cok n c = true → W P ng c Q fr H = W P ng (cpre n c) (Q.andThen (W P ng (cpost n c) Q)) fr H
 | 0, c, Q, fr, H, h => by simp [cok] at h
 | 1, c, Q, fr, H, h => by
  cases c <;> simp [cok] at h
  rfl
 | n + 2, c, Q, fr, H, h => by
  cases c <;> simp [cok] at h
  rename_i a b
  simp only [cpre, cpost, W_seq]
  rw [andThen2]
  congr 1
  funext e fr H
  cases e
  ·exact W_pp (n + 1) b Q fr H h
  all_goals rfl
theorem W_part {c : ACode} (n : Nat) (M : List Value → AHeap → Prop) (hok : cok n c = true)
  (h1 : ∀ Q' : AQ, (∀ fr H, M fr H → Q' .normal fr H) → (∀ i fr H, Q (.exit i) fr H → Q' (.exit i) fr H) → (∀ fr H, Q .ret fr H → Q' .ret fr H) → W P ng (cpre n c) Q' fr H)
  (h2 : ∀ fr H, M fr H → W P ng (cpost n c) Q fr H) : W P ng c Q fr H := by
 rw [W_pp n c Q fr H hok]
 exact h1 _ (fun fr H h => h2 fr H h) (fun _ _ _ h => h) (fun _ _ h => h)
end Go.AM

namespace Go.AM.Rg
open Nat (reduceAdd reduceEqDiff reduceLT reduceLeDiff reduceMul reduceSub)
open Go.Proofs Go.AM.F Go.AM.Fd
def G26 (H' : AHeap) (w : Value) (b : List UInt8) : Prop := match geM b with
 | some x => ∃ u, w = .tuple #[.agg (cM x u).toArray, .bool true] ∧ Rp.TB H' u x.d.l
 | none => w = .tuple #[.agg (cM M0 (.slice none 0 0)).toArray, .bool false]
def M26 (v : Value) (b : List UInt8) (H : AHeap) (fr : List Value) (K : AHeap) : Prop :=
 ∃ (m : Nat) (u : Value) (e4 e5 e6 e7 e8 e9 e10 e11 e12 e13 : Value), fr = [v, ptr H.n 0, .bool false, ptr m 0, e4, e5, e6, e7, e8, e9, e10, e11, e12, e13] ∧
  33 ≤ b.length ∧ (na b 0 1 = 1 → (gS b).isSome = true ∧ (hM b).be = 0 ∧ (hM b).b = 0) ∧ K.get m = some (.cells true false 78 (cM (rdM b) u) 38) ∧ H.n < m ∧ Rp.TB K u (rdM b).d.l ∧ Keeps (H.alloc (.cells true false 78 (cM M0 (.slice none 0 0)) 38)) K
theorem fillT (x y : Int) : fillA [.int .i64 0, .int .u8 0] [(0, 1, .int .i64 x), (1, 1, .int .u8 y)] = some [.int .i64 x, .int .u8 y] := rfl
theorem fillT2 (x y : Int) : fillA [.int .i64 0, .int .u8 0] [(0, 2, .agg #[.int .i64 x, .int .u8 y])] = some [.int .i64 x, .int .u8 y] := rfl
set_option maxHeartbeats 1000000 in
theorem p26 {H : AHeap} {v : Value} {b : List UInt8} (hb : BQ H v b) (hl : b.length ≤ 100000) (Q' : AQ) (h0 : ∀ fr K, M26 v b H fr K → Q' .normal fr K)
  (hr : ∀ fr K, resO f26.res fr K = some (.tuple #[.agg (cM M0 (.slice none 0 0)).toArray, .bool false]) → Keeps H K → geM b = none → Q' .ret fr K) : W Try.prog 0 (cpre 5 f26.body) Q' (initFr f26.sl [v]) H := by
 have z78 : Z78.all Value.oneCell' = true := rfl
 have z68 : Z68.all Value.oneCell' = true := rfl
 have l68 : Z68.length = 68 := rfl
 have hs := hb.bs.sl
 have his := hs.is
 have hlen := hs.len
 rw [List.length_map] at hlen
 simp (disch := first | assumption | omega) only [f26, cpre, W_block, P3, seval, initFr, clsA, z78, hlen]
 have lz : Z78.length = 78 := rfl
 obtain ⟨H1, hH1⟩ : ∃ X, X = H.alloc (.cells true false 78 Z78 38) := ⟨_, rfl⟩
 have k1 : Keeps H H1 := by rw [hH1]; exact (Keeps.refl H).alloc _
 have g1 : H1.get H.n = some (.cells true false 78 Z78 38) := by rw [hH1]; exact AHeap.get_alloc_new _ _
 have p1 := AHeap.get_lt g1
 have n1 : H1.n = H.n + 1 := by rw [hH1, alloc_n]
 rw [← hH1]
 have st0 : ∀ K : AHeap, K.get H.n = some (.cells true false 78 Z78 38) → ∀ fr : List Value, fr.getD 1 undef = ptr H.n 0 → fr.getD 2 undef = .bool false → resO f26.res fr K = some (.tuple #[.agg (cM M0 (.slice none 0 0)).toArray, .bool false]) := by
  intro K gK fr e1 e2
  rw [show resO f26.res fr K = (celln 78 (fr.getD 1 undef) K).map fun c => .tuple #[c, fr.getD 2 undef] from resCT 78 1 2 fr, e1, e2]
  simp (disch := first | assumption | omega) only [W_block, P3, seval, initFr, clsA, gK, lz]
  rfl
 have kS : ∀ K, Keeps H1 K → Keeps H (K.set H.n (.cells true false 78 Z78 38)) := fun K k => (k1.trans k).set (Nat.le_refl _) (by have := k.n; omega) _
 by_cases h33 : b.length < 33
 ·have hd : decide ((b.length : Int) < 33) = true := by simp; omega
  rw [hd]
  simp (disch := first | assumption | omega) only [W_block, P3, seval, initFr, clsA, g1, z78, lz]
  refine hr _ _ (st0 _ (AHeap.get_set_same g1 _) _ rfl rfl) (kS _ (Keeps.refl _)) ?_
  unfold geM; rw [if_neg (by omega)]
 have hd : decide ((b.length : Int) < 33) = false := by simp; omega
 rw [hd]
 obtain ⟨hn0, hr0⟩ := hs.at_ (by omega) (i := 0) (by rw [List.length_map]; omega)
 have hb1 := hb.keeps k1
 obtain ⟨hn0, hr0⟩ := hb1.bs.sl.at_ (by omega) (i := 0) (by rw [List.length_map]; omega)
 rw [List.getElem_map, ← na_one (by omega)] at hr0
 simp (disch := first | assumption | omega) only [W_block, P3, seval, initFr, clsA, hlen, hr0]
 refine callP (t53 hb1 1 8 (by omega) (by omega) (by omega)) ?_
 simp (disch := first | assumption | omega) only [W_block, P3, seval, initFr, clsA, ite_self]
 refine callP (t53 hb1 9 8 (by omega) (by omega) (by omega)) ?_
 simp (disch := first | assumption | omega) only [W_block, P3, seval, initFr, clsA, ite_self]
 refine callP (t53 hb1 17 8 (by omega) (by omega) (by omega)) ?_
 simp (disch := first | assumption | omega) only [W_block, P3, seval, initFr, clsA, ite_self]
 refine callP (t53 hb1 25 8 (by omega) (by omega) (by omega)) ?_
 have fM := fillM (na b 0 1) (IntKind.i64.wrap (na b 1 8 : Nat)) (IntKind.i64.wrap (na b 9 8 : Nat)) (IntKind.i64.wrap (na b 17 8 : Nat)) (IntKind.i64.wrap (na b 25 8 : Nat))
 have eM : (⟨na b 0 1, IntKind.i64.wrap (na b 1 8 : Nat), IntKind.i64.wrap (na b 9 8 : Nat), IntKind.i64.wrap (na b 17 8 : Nat), IntKind.i64.wrap (na b 25 8 : Nat), St0, D0⟩ : Ms) = hM b := rfl
 rw [eM] at fM
 have ht : (hM b).s.t.length = 64 := rfl
 have lM := cM_len (.slice none 0 0) ht
 have oM := cM_one (hM b) (v := .slice none 0 0) rfl
 simp (disch := first | assumption | omega) only [W_block, P3, seval, initFr, clsA, ite_self, fM, z78, lz, lM, oM]
 obtain ⟨H2, hH2⟩ : ∃ X, X = H1.alloc (.cells true false 78 (cM (hM b) (.slice none 0 0)) 38) := ⟨_, rfl⟩
 have k2 : Keeps H1 H2 := by rw [hH2]; exact (Keeps.refl H1).alloc _
 have g2 : H2.get H1.n = some (.cells true false 78 (cM (hM b) (.slice none 0 0)) 38) := by rw [hH2]; exact AHeap.get_alloc_new _ _
 have g12 := k2.at_ g1
 have n2 : H2.n = H1.n + 1 := by rw [hH2, alloc_n]
 rw [← hH2]
 have hb2 := hb1.keeps k2
 have ek : (hM b).k = na b 0 1 := rfl
 have kb := na1 b 0
 have kOut : ∀ K o, Keeps H2 K → Keeps H1 (K.set H1.n o) := fun K o k => (k2.trans k).set (Nat.le_refl _) (by have := k.n; omega) _
 by_cases hk1 : na b 0 1 = 1
 ·have e1 : (((na b 0 1 : Nat) : Int) == 1) = true := by simp [hk1]
  have rd1 : rdM b = { hM b with s := (gS b).getD St0 } := by unfold rdM; rw [if_pos (by rw [ek]; exact hk1)]
  have hoM : okM b = ((gS b).isSome && zz (hM b).be (hM b).b) := by unfold okM; rw [ek, hk1]; simp
  obtain ⟨u3, s3, q3⟩ := hb2.from_ (k := .i64) 33 (by omega)
  have s3 : asem (.slsl 1 v (some (.int .i64 33)) none none) H2 = some (u3, H2) := s3
  simp (disch := first | assumption | omega) only [W_block, P3, seval, initFr, clsA, cM_0, ek, hk1, s3]
  refine callP (t54 q3 (by rw [List.length_drop]; omega)) ?_
  cases hgs : geSt (b.drop 33) with
  | none =>
   have gn : geM b = none := by unfold geM; rw [if_neg]; rintro ⟨_, h2, _⟩; rw [hoM] at h2; unfold gS at h2; rw [hgs] at h2; cases h2
   have o0 := cSt_one St0
   have l0 : (cSt St0).length = 68 := rfl
   simp (disch := first | assumption | omega) only [W_block, P3, seval, initFr, clsA, tSt, GotB, z68, l68, o0, l0, g12, z78, lz]
   exact hr _ _ (st0 _ (((Keeps.refl _).alloc _).at_ (AHeap.get_set_same g12 _)) _ rfl rfl) ((kS _ k2).alloc _) gn
  | some y =>
   have oy := cSt_one y
   have hy := (geSt_some hgs).2.1.ht
   have ly := cSt_len hy
   have gs2 := ((Keeps.refl H2).alloc (.cells true false 68 (cSt y) 26)).at_ g2
   by_cases c1 : (hM b).be = 0
   ·by_cases c2 : (hM b).b = 0
    ·have cs := cM_sets (x := hM b) rfl (.slice none 0 0) y
     have er : rdM b = { hM b with s := y } := by rw [rd1]; unfold gS; rw [hgs]; rfl
     rw [← er] at cs
     have k0 : (cM (rdM b) (.slice none 0 0))[0]? = some (.int .u8 1) := by rw [cM_0, er]; show some (Value.int .u8 ((hM b).k : Nat)) = _; rw [ek, hk1]; rfl
     simp (disch := first | assumption | omega | (simp only [LN] <;> omega) | (simp (disch := first | assumption | omega | (simp only [LN] <;> omega)) only [row_alloc, row_set]; assumption)) only [W_block, P3, seval, initFr, clsA, tSt, GotB, z68, l68, oy, ly, g2, cM_3, cM_4, c1, c2, cs, k0]
     refine h0 _ _ ⟨H1.n, .slice none 0 0, _, _, _, _, _, _, _, _, _, _, rfl, by omega, fun _ => ⟨by unfold gS; rw [hgs]; rfl, c1, c2⟩, ((Keeps.refl _).alloc _).at_ (AHeap.get_set_same g2 _), by omega, ?_, ?_⟩
     ·rw [er]; exact ⟨none, 0, rfl, fun h => absurd rfl h⟩
     ·rw [← Z78_M, ← hH1]; exact (kOut _ _ (Keeps.refl _)).alloc _
    ·have gn : geM b = none := by unfold geM; rw [if_neg]; rintro ⟨_, h2, _⟩; rw [hoM] at h2; simp [zz, c2] at h2
     simp (disch := first | assumption | omega) only [W_block, P3, seval, initFr, clsA, tSt, GotB, z68, l68, oy, ly, g2, cM_3, cM_4, c1, c2, g12, z78, lz]
     exact hr _ _ (st0 _ (((Keeps.refl _).alloc _).at_ (AHeap.get_set_same g12 _)) _ rfl rfl) ((kS _ k2).alloc _) gn
   ·have gn : geM b = none := by unfold geM; rw [if_neg]; rintro ⟨_, h2, _⟩; rw [hoM] at h2; simp [zz, c1] at h2
    simp (disch := first | assumption | omega) only [W_block, P3, seval, initFr, clsA, tSt, GotB, z68, l68, oy, ly, g2, cM_3, cM_4, c1, g12, z78, lz]
    exact hr _ _ (st0 _ (((Keeps.refl _).alloc _).at_ (AHeap.get_set_same g12 _)) _ rfl rfl) ((kS _ k2).alloc _) gn
 have n1k : ¬ ((na b 0 1 : Nat) : Int) = 1 := by omega
 by_cases hk2 : na b 0 1 = 2
 ·have rd2 : rdM b = { hM b with d := dM b } := by unfold rdM; rw [if_neg (by rw [ek]; omega), if_pos (by rw [ek]; exact hk2)]
  obtain ⟨x1, hx1⟩ : ∃ x : Ms, x = { hM b with d := ⟨na b 33 8, 0, 0, 0, []⟩ } := ⟨_, rfl⟩
  obtain ⟨x2, hx2⟩ : ∃ x : Ms, x = { hM b with d := ⟨na b 33 8, na b 41 8, 0, 0, []⟩ } := ⟨_, rfl⟩
  obtain ⟨x3, hx3⟩ : ∃ x : Ms, x = { hM b with d := ⟨na b 33 8, na b 41 8, na b 49 8, 0, []⟩ } := ⟨_, rfl⟩
  obtain ⟨x4, hx4⟩ : ∃ x : Ms, x = { hM b with d := ⟨na b 33 8, na b 41 8, na b 49 8, na b 57 4, []⟩ } := ⟨_, rfl⟩
  have s1 : (cM (hM b) (.slice none 0 0)).set 73 (.int .u64 (na b 33 8 : Nat)) = cM x1 (.slice none 0 0) := by rw [hx1]; exact cM_set73 rfl _ _
  have s2 : (cM x1 (.slice none 0 0)).set 74 (.int .u64 (na b 41 8 : Nat)) = cM x2 (.slice none 0 0) := by rw [hx1, hx2]; exact cM_set74 rfl _ _
  have s3 : (cM x2 (.slice none 0 0)).set 75 (.int .u64 (na b 49 8 : Nat)) = cM x3 (.slice none 0 0) := by rw [hx2, hx3]; exact cM_set75 rfl _ _
  have s4 : (cM x3 (.slice none 0 0)).set 76 (.int .u32 (na b 57 4 : Nat)) = cM x4 (.slice none 0 0) := by rw [hx3, hx4]; exact cM_set76 rfl _ _
  have ln : ∀ {x : Ms}, x.s.t.length = 64 → (cM x (.slice none 0 0)).length = 78 := fun h => cM_len _ h
  have l1 : (cM x1 (.slice none 0 0)).length = 78 := by rw [hx1]; exact ln rfl
  have l2 : (cM x2 (.slice none 0 0)).length = 78 := by rw [hx2]; exact ln rfl
  have l3 : (cM x3 (.slice none 0 0)).length = 78 := by rw [hx3]; exact ln rfl
  have l4 : (cM x4 (.slice none 0 0)).length = 78 := by rw [hx4]; exact ln rfl
  simp (disch := first | assumption | omega) only [W_block, P3, seval, initFr, clsA, g2, cM_0, ek, hk2, n1k]
  refine callP (t53 hb2 33 8 (by omega) (by omega) (by omega)) ?_
  simp (disch := first | assumption | omega) only [W_block, P3, seval, initFr, clsA, g2, s1, lM]
  refine callP (t53 (hb1.keeps (kOut _ _ (Keeps.refl H2))) 41 8 (by omega) (by omega) (by omega)) ?_
  simp (disch := first | assumption | omega) only [W_block, P3, seval, initFr, clsA, g2, s2, l1]
  refine callP (t53 (hb1.keeps (kOut _ _ (Keeps.refl H2))) 49 8 (by omega) (by omega) (by omega)) ?_
  simp (disch := first | assumption | omega) only [W_block, P3, seval, initFr, clsA, g2, s3, l2]
  refine callP (t53 (hb1.keeps (kOut _ _ (Keeps.refl H2))) 57 4 (by omega) (by omega) (by omega)) ?_
  have w57 : IntKind.u32.wrap (na b 57 4 : Nat) = (na b 57 4 : Nat) := by have := na4 b 57; rw [wrap_u32]; omega
  simp (disch := first | assumption | omega) only [W_block, P3, seval, initFr, clsA, g2, s4, l3, w57]
  refine callP (t53 (hb1.keeps (kOut _ _ (Keeps.refl H2))) 61 1 (by omega) (by omega) (by omega)) ?_
  have n61 := na1 b 61
  have w61 : IntKind.i64.wrap (na b 61 1 : Nat) = (na b 61 1 : Nat) := wrap_i64 (by omega) (by omega)
  simp (disch := first | assumption | omega) only [W_block, P3, seval, initFr, clsA, w61]
  obtain ⟨n, hn⟩ : ∃ n, n = na b 61 1 := ⟨_, rfl⟩
  rw [← hn] at n61 ⊢
  have hx4l : ∀ l u, cM { x4 with d := { x4.d with l := l } } u = cM x4 u := fun _ _ => rfl
  have ht4 : x4.s.t.length = 64 := by rw [hx4]; rfl
  refine W_loop2 (fun q fr K => ∃ (i : Nat) (u e12 : Value), i ≤ n ∧ q = n - i ∧ K.get H1.n = some (.cells true false 78 (cM x4 u) 38) ∧ AP K 92 2 u (tmL b i).length (Rp.TC (tmL b i)) ∧ Fresh (H1.n + 1) u ∧ Keeps H1 K ∧
   fr = [v, ptr H.n 0, .bool false, ptr H1.n 0, undef, undef, .int .i64 n, .int .i64 i, .bool false, .bool false, undef, .bool true, e12, undef]) n ⟨0, .slice none 0 0, _, by omega, rfl, AHeap.get_set_same g2 _, .inl ⟨rfl, rfl, rfl⟩, fun b hb => (by cases hb), kOut _ _ (Keeps.refl H2), rfl⟩ ?_
  rintro Q2 q fr K ⟨i, u, e12, hi, rfl, gK, ap, fu, kK, rfl⟩ hnx hex hrt
  have pK := AHeap.get_lt gK
  have nK := kK.n
  by_cases hc : i < n
  ·have l4u := cM_len u ht4
   have m77 := cM_77 u ht4
   have m1 : IntKind.i64.wrap (2 * (i : Int)) = ((2 * i : Nat) : Int) := by rw [wrap_i64 (by omega) (by omega)]; push_cast; rfl
   have m2 : IntKind.i64.wrap (62 + ((2 * i : Nat) : Int)) = ((62 + 2 * i : Nat) : Int) := by rw [wrap_i64 (by omega) (by omega)]; push_cast; rfl
   have m3 : IntKind.i64.wrap (63 + ((2 * i : Nat) : Int)) = ((62 + 2 * i + 1 : Nat) : Int) := by rw [wrap_i64 (by omega) (by omega)]; push_cast; omega
   simp (disch := first | assumption | omega) only [W_block, P3, seval, initFr, clsA, gK, m77, m1, m2]
   refine callP (t53 (hb1.keeps kK) (62 + 2 * i) 1 (by omega) (by omega) (by omega)) ?_
   have c1 := na1 b (62 + 2 * i)
   have c2 := na1 b (62 + 2 * i + 1)
   have v1 : IntKind.i64.wrap (na b (62 + 2 * i) 1 : Nat) = (na b (62 + 2 * i) 1 : Nat) := wrap_i64 (by omega) (by omega)
   have v2 : IntKind.u8.wrap (na b (62 + 2 * i + 1) 1 : Nat) = (na b (62 + 2 * i + 1) 1 : Nat) := by rw [wrap_u8]; omega
   simp (disch := first | assumption | omega) only [W_block, P3, seval, initFr, clsA, gK, m77, m1, m3, ite_self, v1]
   refine callP (t53 (hb1.keeps kK) (62 + 2 * i + 1) 1 (by omega) (by omega) (by omega)) ?_
   simp (disch := first | assumption | omega) only [W_block, P3, seval, initFr, clsA, gK, ite_self, v2, fillT, fillT2]
   obtain ⟨e7, he7⟩ : ∃ e7 : List Value, e7 = [.int .i64 (na b (62 + 2 * i) 1 : Nat), .int .u8 (na b (62 + 2 * i + 1) 1 : Nat)] := ⟨_, rfl⟩
   rw [← he7]
   have apn := ap.keeps ((Keeps.refl K).alloc (.cells true false 2 e7 92))
   refine appGD apn ⟨_, _, rfl⟩ (elems_new rfl (by rw [he7]; rfl)) (by rw [he7]; rfl) (by rw [tmL_len]; omega) ?_
   intro v9 K9 ap9 c9 hb9
   have n9 := c9.n
   simp only [alloc_n] at n9 hb9
   have fv9 : Fresh (H1.n + 1) v9 := fun y hy => by
    rcases hb9 with e | e
    ·exact fu y (by rw [← e]; exact hy)
    ·rw [e] at hy; cases hy; omega
   have k9 : Keeps H1 K9 := ⟨by omega, fun y hy => by
    rw [c9.get _ (by rw [alloc_n]; omega) (fun hz => by have := fu y (mem_blkL.1 hz); omega), AHeap.get_alloc_old _ _ (by omega)]; exact kK.get _ hy⟩
   have gk9 : K9.get H1.n = some (.cells true false 78 (cM x4 u) 38) := by
    rw [c9.get _ (by rw [alloc_n]; omega) (fun hz => by have := fu _ (mem_blkL.1 hz); omega), AHeap.get_alloc_old _ _ (by omega)]; exact gK
   have ho9 : v9.oneCell' = true := by obtain ⟨a, e⟩ := ap9.shape; rw [e]; rfl
   have s77 := cM_set77 ht4 u v9
   simp (disch := first | assumption | omega) only [W_block, P3, seval, initFr, clsA, gk9, l4u, ho9, s77, wrap_succ (n := i) (by omega)]
   refine hnx _ _ _ ⟨i + 1, v9, _, by omega, rfl, AHeap.get_set_same gk9 _, ?_, fv9, k9.set (Nat.le_refl _) (by omega) _, rfl⟩ (by omega)
   have e9 : Rp.TC (tmL b (i + 1)) = Rp.TC (tmL b i) ++ e7 := by rw [tmL_succ, Rp.TC_app, he7]; rfl
   rw [e9, tmL_len, ← tmL_len b i, tmL_len]
   rw [tmL_len] at ap9
   exact ap9.chg (Chg.set K9 (by omega) _) (fun y hy => by have := fv9 y (mem_blkL.1 hy); simp; omega)
  ·have hin : i = n := by omega
   subst hin
   simp (disch := first | assumption | omega) only [W_block, P3, seval, initFr, clsA]
   refine hex _ _ _ ?_
   have er : cM (rdM b) u = cM x4 u := by rw [rd2, hx4]; rfl
   have el : (rdM b).d.l = tmL b i := by rw [rd2]; show tmL b (nT b) = _; rw [show nT b = i from hn.symm]
   refine h0 _ _ ⟨H1.n, u, _, _, _, _, _, _, _, _, _, _, rfl, by omega, fun h => by omega, by rw [er]; exact gK, by omega, by rw [el]; exact Rp.TB.of_ap ap, ?_⟩
   rw [← Z78_M, ← hH1]; exact kK
 ·have rd3 : rdM b = hM b := by unfold rdM; rw [if_neg (by rw [ek]; omega), if_neg (by rw [ek]; omega)]
  simp (disch := first | assumption | omega) only [W_block, P3, seval, initFr, clsA, g2, cM_0, ek, n1k, show ¬ ((na b 0 1 : Nat) : Int) = 2 by omega]
  refine h0 _ _ ⟨H1.n, _, _, _, _, _, _, _, _, _, _, _, rfl, by omega, fun h => by omega, by rw [rd3]; exact g2, by omega, by rw [rd3]; exact ⟨none, 0, rfl, fun h => absurd rfl h⟩, ?_⟩
  rw [← Z78_M, ← hH1]; exact k2
end Go.AM.Rg

namespace Go.AM.Rg
open Nat (reduceAdd reduceEqDiff reduceLT reduceLeDiff reduceMul reduceSub)
open Go.Proofs Go.AM.F Go.AM.Fd
theorem rd_k (b : List UInt8) : (rdM b).k = na b 0 1 ∧ (rdM b).e = (hM b).e ∧ (rdM b).c = (hM b).c ∧ (rdM b).be = (hM b).be ∧ (rdM b).b = (hM b).b := by
 unfold rdM
 split
 ·exact ⟨rfl, rfl, rfl, rfl, rfl⟩
 split
 ·exact ⟨rfl, rfl, rfl, rfl, rfl⟩
 ·exact ⟨rfl, rfl, rfl, rfl, rfl⟩
theorem TB.off {K : AHeap} {u : Value} {l : List (Int × Int)} {b z e : Nat} {c : List Value} (h : Rp.TB K u l) (g : K.get b = some (.cells true false (z + 3) c e)) (o : AO) : Rp.TB (K.set b o) u l := by
 refine h.chgL (fun hne y hy => ?_)
 obtain ⟨a, k, rfl, h1⟩ := h
 obtain ⟨b1, own, room, cs, e1, rfl, h2, h3⟩ := h1 hne
 rw [mem_blkL] at hy
 cases hy
 refine AHeap.get_set_other _ ?_ (AHeap.get_lt g) _
 intro e2
 have e2 : b1 = b := e2
 rw [e2, g] at h2
 cases h2
set_option maxHeartbeats 1000000 in
theorem t26 {H : AHeap} {v : Value} {b : List UInt8} (hb : BQ H v b) (hl : b.length ≤ 100000) : ∃ w H', ARun Try.prog 0 26 [v] H w H' ∧ Keeps H H' ∧ G26 H' w b := by
 refine walk2 f26_ok f26_n ?_
 intro Q hq1 hq2
 refine W_part 5 (M26 v b H) (by kernel_rfl) (fun Q' h1 _ h3 => p26 hb hl Q' h1 (fun fr K e k g => h3 _ _ (hq2 _ _ ⟨_, e, k, by unfold G26; rw [g]⟩))) ?_
 rintro fr K ⟨m, u, e4, e5, e6, e7, e8, e9, e10, e11, e12, e13, rfl, h33, hg1, gm, hm, tb, kk⟩
 obtain ⟨x, hx⟩ : ∃ x, x = rdM b := ⟨_, rfl⟩
 have hrg := rdM_rg b
 have hln := rdM_len b
 obtain ⟨q0, q1, q2, q3, q4⟩ := rd_k b
 rw [← hx] at gm tb hrg hln q0 q1 q2 q3 q4
 have ht := hrg.s.ht
 have lx := cM_len u ht
 have ox := cM_one x tb.one
 have z78 : Z78.all Value.oneCell' = true := rfl
 have lz : Z78.length = 78 := rfl
 have hz := kk.at_ (AHeap.get_alloc_new H _)
 rw [← Z78_M] at hz
 have pm := AHeap.get_lt gm
 have kH : Keeps H K := ((Keeps.refl H).alloc _).trans kk
 have nH := kk.n
 rw [alloc_n] at nH
 have res : ∀ (K : AHeap) (c : List Value) (o : Bool), K.get H.n = some (.cells true false 78 c 38) → c.length = 78 → ∀ fr : List Value, fr.getD 1 undef = ptr H.n 0 → fr.getD 2 undef = .bool o → resO f26.res fr K = some (.tuple #[.agg c.toArray, .bool o]) := by
  intro K c o gK lc fr e1 e2
  rw [show resO f26.res fr K = (celln 78 (fr.getD 1 undef) K).map fun c => .tuple #[c, fr.getD 2 undef] from resCT 78 1 2 fr, e1, e2]
  simp (disch := first | assumption | omega) only [W_block, P3, seval, initFr, clsA, gK, lc]
 have fin0 : ∀ K' : AHeap, Keeps K K' → geM b = none → ∀ fr : List Value, fr.getD 1 undef = ptr H.n 0 → fr.getD 2 undef = .bool false → Q .ret fr (K'.set H.n (.cells true false 78 Z78 38)) := by
  intro K' k g fr e1 e2
  have := k.n
  refine hq2 _ _ ⟨_, res _ _ false (AHeap.get_set_same (k.at_ hz) _) lz fr e1 e2, (kH.trans k).set (Nat.le_refl _) (by omega) _, ?_⟩
  unfold G26; rw [g]; rfl
 have hno : okM b = false → geM b = none := fun h => by unfold geM; rw [if_neg]; rintro ⟨_, h2, _⟩; rw [h] at h2; cases h2
 have hok : okM b = ((decide (x.k = 1) && ((gS b).isSome && zz x.be x.b)) || decide (x.k = 2) || (decide (x.k = 3) && zz x.be x.b) || (decide (x.k = 4) && (zz x.be x.b && zz x.e x.c))) := by
  unfold okM; rw [q0, q1, q2, q3, q4]; rfl
 by_cases A : x.k = 3 ∧ ¬ (x.be = 0 ∧ x.b = 0)
 ·obtain ⟨a1, a2⟩ := A
  have g : geM b = none := hno (by rw [hok, a1]; simp [zz]; omega)
  by_cases c1 : x.be = 0
  ·have c2 : ¬ x.b = 0 := fun h => a2 ⟨c1, h⟩
   simp (disch := first | assumption | omega) only [f26, cpost, W_block, P3, seval, initFr, clsA, gm, cM_0, cM_3, cM_4, a1, c1, c2, hz, z78, lz]
   exact fin0 K (Keeps.refl K) g _ rfl rfl
  ·simp (disch := first | assumption | omega) only [f26, cpost, W_block, P3, seval, initFr, clsA, gm, cM_0, cM_3, cM_4, a1, c1, hz, z78, lz]
   exact fin0 K (Keeps.refl K) g _ rfl rfl
 by_cases B : x.k = 4 ∧ ¬ (x.e = 0 ∧ x.c = 0 ∧ x.be = 0 ∧ x.b = 0)
 ·obtain ⟨a1, a2⟩ := B
  have g : geM b = none := hno (by rw [hok, a1]; simp [zz]; omega)
  have a3 : ¬ ((4 : Int) = 3) := by omega
  by_cases c1 : x.e = 0
  ·by_cases c2 : x.c = 0
   ·by_cases c3 : x.be = 0
    ·have c4 : ¬ x.b = 0 := fun h => a2 ⟨c1, c2, c3, h⟩
     simp (disch := first | assumption | omega) only [f26, cpost, W_block, P3, seval, initFr, clsA, gm, cM_0, cM_1, cM_2, cM_3, cM_4, a1, c1, c2, c3, c4, hz, z78, lz]
     exact fin0 K (Keeps.refl K) g _ rfl rfl
    ·simp (disch := first | assumption | omega) only [f26, cpost, W_block, P3, seval, initFr, clsA, gm, cM_0, cM_1, cM_2, cM_3, cM_4, a1, c1, c2, c3, hz, z78, lz]
     exact fin0 K (Keeps.refl K) g _ rfl rfl
   ·simp (disch := first | assumption | omega) only [f26, cpost, W_block, P3, seval, initFr, clsA, gm, cM_0, cM_1, cM_2, cM_3, cM_4, a1, c1, c2, hz, z78, lz]
    exact fin0 K (Keeps.refl K) g _ rfl rfl
  ·simp (disch := first | assumption | omega) only [f26, cpost, W_block, P3, seval, initFr, clsA, gm, cM_0, cM_1, cM_2, cM_3, cM_4, a1, c1, hz, z78, lz]
   exact fin0 K (Keeps.refl K) g _ rfl rfl
 have D : (x.k = 3 ∧ x.be = 0 ∧ x.b = 0) ∨ (x.k = 4 ∧ x.e = 0 ∧ x.c = 0 ∧ x.be = 0 ∧ x.b = 0) ∨ (x.k ≠ 3 ∧ x.k ≠ 4) := by omega
 have gok : pM x = b → geM b = some x := by
  intro h
  have hmay : Rp.mayB (M x) = true := by
   cases hm : Rp.mayB (M x) with
   | true => rfl
   | false => unfold pM at h; rw [hm] at h; rw [← h] at h33; simp at h33
  have hk := may_inv hmay
  have h2 : okM b = true := by
   rw [hok]
   rcases D with ⟨d1, d2, d3⟩ | ⟨d1, d2, d3, d4, d5⟩ | ⟨d1, d2⟩
   ·simp [zz, d1, d2, d3]
   ·simp [zz, d1, d2, d3, d4, d5]
   ·have : x.k = 1 ∨ x.k = 2 := by omega
    rcases this with d | d
    ·have h1 := hg1 (by omega)
     rw [q3, q4]
     simp [zz, d, h1.1, h1.2.1, h1.2.2]
    ·simp [d]
  unfold geM
  rw [← hx, if_pos ⟨h33, h2, h⟩]
 rcases D with ⟨d1, d2, d3⟩ | ⟨d1, d2, d3, d4, d5⟩ | ⟨d1, d2⟩
 simp (disch := first | assumption | omega) only [f26, cpost, W_block, P3, seval, initFr, clsA, gm, cM_0, cM_1, cM_2, cM_3, cM_4, d1, d2, d3, lx]
 rotate_left
 simp (disch := first | assumption | omega) only [f26, cpost, W_block, P3, seval, initFr, clsA, gm, cM_0, cM_1, cM_2, cM_3, cM_4, d1, d2, d3, d4, d5, lx]
 rotate_left
 simp (disch := first | assumption | omega) only [f26, cpost, W_block, P3, seval, initFr, clsA, gm, cM_0, cM_1, cM_2, cM_3, cM_4, show ¬ ((x.k : Nat) : Int) = 3 by omega, show ¬ ((x.k : Nat) : Int) = 4 by omega, lx]
 rotate_left
 all_goals
  refine callK (t28 hrg tb (by omega)) ?_
  rintro w2 K2 o2
  have k2 := o2.k
  have hb2 := hb.bs.keeps (kH.trans k2)
  have tk := tbk (hb.bs.keeps kH) k2
  by_cases heq : pM x = b
  ·have e1 : decide (pM x = b) = true := by simp [heq]
   simp (disch := first | assumption | omega) only [Keeps.get k2, Keeps.row k2, W_block, P3, seval, initFr, clsA, a_b2sB o2.bs, a_b2sB hb2, touch_b2s, ite_self, bytes_eq, e1, gm, lx, ox, hz, lz]
   refine ⟨tk, hq2 _ _ ⟨_, res _ _ true (AHeap.get_set_same (k2.at_ hz) _) lx _ rfl rfl, (kH.trans k2).set (Nat.le_refl _) (by have := k2.n; omega) _, ?_⟩⟩
   unfold G26
   rw [gok heq]
   exact ⟨u, rfl, TB.off (tb.keeps k2) (k2.at_ hz) _⟩
  ·have e1 : decide (pM x = b) = false := by simp [heq]
   simp (disch := first | assumption | omega) only [Keeps.get k2, Keeps.row k2, W_block, P3, seval, initFr, clsA, a_b2sB o2.bs, a_b2sB hb2, touch_b2s, ite_self, bytes_eq, e1, gm, lx, ox, hz, lz, z78]
   refine ⟨tk, fin0 K2 k2 ?_ _ rfl rfl⟩
   unfold geM; rw [if_neg]; rintro ⟨_, _, h3⟩; rw [← hx] at h3; exact heq h3
end Go.AM.Rg

namespace Go.AM.Rg
open Nat (reduceAdd reduceEqDiff reduceLT reduceLeDiff reduceMul reduceSub)
open Go.Proofs Go.AM.F Go.AM.Fd
def ok0 (b : List UInt8) : Bool := decide (na b 0 1 = 2) || zz (hM b).be (hM b).b
def M4 (v : Value) (b : List UInt8) (H : AHeap) (fr : List Value) (K : AHeap) : Prop :=
 ∃ m r hi : Nat, fr = [v, ptr H.n 0, .int .i64 0, ptr r 0, ptr m 0, .bool (ok0 b), undef, undef, undef, undef, undef, undef, undef, undef, undef, undef] ∧
  K.get m = some (.cells true false 78 (cM (hM b) (.slice none 0 0)) 41) ∧ hi ≤ m ∧ RR K (H.n + 1) hi r b 33 ∧ Keeps (H.alloc (.cells true false 78 (cM M0 (.slice none 0 0)) 41)) K
set_option maxHeartbeats 1000000 in
theorem p25a {H : AHeap} {v : Value} {b : List UInt8} (hb : BQ H v b) (hl : b.length ≤ 100000) (Q' : AQ) (h0 : ∀ fr K, M4 v b H fr K → Q' .normal fr K) : W Try.prog 0 (cpre 4 f25.body) Q' (initFr f25.sl [v]) H := by
 have z78 : Z78.all Value.oneCell' = true := rfl
 have lz : Z78.length = 78 := rfl
 have hl9 : b.length ≤ 1000000000 := by omega
 simp (disch := first | assumption | omega) only [f25, cpre, W_block, P3, seval, initFr, clsA, z78]
 have k1 := (Keeps.refl H).alloc (.cells true false 78 Z78 41)
 refine callK (t44 (hb.keeps k1).bs hl9) ?_
 rintro _ K0 ⟨r, bv, rfl, rs, hr, hbv, k0⟩
 rw [alloc_n] at hr hbv
 have r0 : RR K0 (H.n + 1) K0.n r b 0 := ⟨hr, rs.lt.1, Nat.le_refl _, bv, hbv, rs.lt.2, by rw [List.drop_zero, show decide (b.length < 0) = false by simp]; exact rs⟩
 have hrk := r0.2.1
 simp (disch := first | assumption | omega) only [W_block, P3, seval, initFr, clsA]
 refine callK (e45 r0 hl9) ?_
 rintro _ _ ⟨rfl, o1, rfl, r1⟩
 simp (disch := first | assumption | omega) only [W_block, P3, seval, initFr, clsA]
 refine callK (e46 r1 hl9) ?_
 rintro _ _ ⟨rfl, o2, rfl, r2⟩
 rw [set_set] at r2
 simp (disch := first | assumption | omega) only [W_block, P3, seval, initFr, clsA]
 refine callK (e46 r2 hl9) ?_
 rintro _ _ ⟨rfl, o3, rfl, r3⟩
 rw [set_set] at r3
 simp (disch := first | assumption | omega) only [W_block, P3, seval, initFr, clsA]
 refine callK (e46 r3 hl9) ?_
 rintro _ _ ⟨rfl, o4, rfl, r4⟩
 rw [set_set] at r4
 simp (disch := first | assumption | omega) only [W_block, P3, seval, initFr, clsA]
 refine callK (e46 r4 hl9) ?_
 rintro _ _ ⟨rfl, o5, rfl, r5⟩
 rw [set_set] at r5
 have fM := fillM (na b 0 1) (IntKind.i64.wrap (na b 1 8 : Nat)) (IntKind.i64.wrap (na b 9 8 : Nat)) (IntKind.i64.wrap (na b 17 8 : Nat)) (IntKind.i64.wrap (na b 25 8 : Nat))
 have eM : (⟨na b 0 1, IntKind.i64.wrap (na b 1 8 : Nat), IntKind.i64.wrap (na b 9 8 : Nat), IntKind.i64.wrap (na b 17 8 : Nat), IntKind.i64.wrap (na b 25 8 : Nat), St0, D0⟩ : Ms) = hM b := rfl
 rw [eM] at fM
 have ht : (hM b).s.t.length = 64 := rfl
 have lM := cM_len (.slice none 0 0) ht
 have oM := cM_one (hM b) (v := .slice none 0 0) rfl
 have e0 : ∀ o, ((K0.set r o5).alloc o).get K0.n = some o := fun o => by have := AHeap.get_alloc_new (K0.set r o5) o; rwa [set_n] at this
 have kF : ∀ o, Keeps (H.alloc (.cells true false 78 (cM M0 (.slice none 0 0)) 41)) ((K0.set r o5).alloc o) := fun o => by
  rw [← Z78_M]; exact (k0.set (by rw [alloc_n]; omega) hrk _).alloc o
 have hQ : ∀ o, ok0 b = o → Q' .normal [v, ptr H.n 0, .int .i64 0, ptr r 0, ptr K0.n 0, .bool o, undef, undef, undef, undef, undef, undef, undef, undef, undef, undef] ((K0.set r o5).alloc (.cells true false 78 (cM (hM b) (.slice none 0 0)) 41)) := by
  rintro _ rfl
  exact h0 _ _ ⟨K0.n, r, K0.n, rfl, e0 _, Nat.le_refl _, r5.alloc _, kF _⟩
 have ek : (hM b).k = na b 0 1 := rfl
 have hrn : K0.n ≠ r := by omega
 simp (disch := first | assumption | omega | (simp only [LN] <;> omega) | (simp (disch := first | assumption | omega | (simp only [LN] <;> omega)) only [row_alloc, row_set]; assumption)) only [W_block, P3, seval, initFr, clsA, fM, z78, lz, lM, oM]
 by_cases c0 : na b 0 1 = 2
 ·simp (disch := first | assumption | omega | (simp only [LN] <;> omega) | (simp (disch := first | assumption | omega | (simp only [LN] <;> omega)) only [row_alloc, row_set]; assumption)) only [W_block, P3, ↓reduceIte, reduceAdd, reduceEqDiff, reduceCtorEq, initFr, reduceLT, clsA, reduceLeDiff, reduceMul, reduceSub, reduceIte, cM_0, cM_3, cM_4, ek, c0]
  exact hQ true (by unfold ok0; simp [c0])
 have n0 : ¬ ((na b 0 1 : Nat) : Int) = 2 := by omega
 by_cases c1 : (hM b).be = 0
 ·by_cases c2 : (hM b).b = 0
  ·simp (disch := first | assumption | omega | (simp only [LN] <;> omega) | (simp (disch := first | assumption | omega | (simp only [LN] <;> omega)) only [row_alloc, row_set]; assumption)) only [W_block, P3, seval, initFr, clsA, cM_0, cM_3, cM_4, ek, n0, c1, c2]
   exact hQ true (by unfold ok0 zz; simp [c1, c2])
  ·simp (disch := first | assumption | omega | (simp only [LN] <;> omega) | (simp (disch := first | assumption | omega | (simp only [LN] <;> omega)) only [row_alloc, row_set]; assumption)) only [W_block, P3, seval, initFr, clsA, cM_0, cM_3, cM_4, ek, n0, c1, c2]
   exact hQ false (by unfold ok0 zz; simp [c0, c1, c2])
 ·simp (disch := first | assumption | omega | (simp only [LN] <;> omega) | (simp (disch := first | assumption | omega | (simp only [LN] <;> omega)) only [row_alloc, row_set]; assumption)) only [W_block, P3, seval, initFr, clsA, cM_0, cM_3, cM_4, ek, n0, c1]
  exact hQ false (by unfold ok0 zz; simp [c0, c1])
def okC (b : List UInt8) : Bool := if na b 0 1 = 1 then ok0 b && (gS b).isSome else if na b 0 1 = 4 then ok0 b && zz (hM b).e (hM b).c else ok0 b
def posM (b : List UInt8) : Nat := if na b 0 1 = 1 then 33 + (b.length - 33) else if na b 0 1 = 2 then 62 + 2 * nT b else 33
def M5 (v : Value) (b : List UInt8) (H : AHeap) (fr : List Value) (K : AHeap) : Prop :=
 ∃ (m r hi : Nat) (u e6 e7 e8 e9 e10 e11 e12 e13 e14 e15 : Value), fr = [v, ptr H.n 0, .int .i64 0, ptr r 0, ptr m 0, .bool (okC b), e6, e7, e8, e9, e10, e11, e12, e13, e14, e15] ∧
  K.get m = some (.cells true false 78 (cM (rdM b) u) 41) ∧ H.n < m ∧ RR K (H.n + 1) hi r b (posM b) ∧ Rp.TB K u (rdM b).d.l ∧ Keeps (H.alloc (.cells true false 78 (cM M0 (.slice none 0 0)) 41)) K
theorem seg_all (b : List UInt8) : seg b 33 (b.length - 33) = b.drop 33 := by
 unfold seg
 split
 ·rw [List.drop_of_length_le (by omega)]
 ·rw [List.take_of_length_le (by rw [List.length_drop]; omega)]
set_option maxHeartbeats 1000000 in
theorem p25b {H K : AHeap} {v : Value} {b : List UInt8} {fr : List Value} (hl : b.length ≤ 100000) (h : M4 v b H fr K) (Q' : AQ) (h0 : ∀ fr K, M5 v b H fr K → Q' .normal fr K) : W Try.prog 0 (cpre 1 (cpost 4 f25.body)) Q' fr K := by
 obtain ⟨m, r, hi, rfl, gm, hm, rr, kk⟩ := h
 have hl9 : b.length ≤ 1000000000 := by omega
 have pm := AHeap.get_lt gm
 have ek : (hM b).k = na b 0 1 := rfl
 have hrm : r < m := Nat.lt_of_lt_of_le rr.2.1 hm
 have hrH : H.n + 1 ≤ r := rr.1
 have nK := kk.n
 rw [alloc_n] at nK
 have nilTB : ∀ K, Rp.TB K (.slice none 0 0) [] := fun K => ⟨none, 0, rfl, fun h => absurd rfl h⟩
 have kset : ∀ {X : AHeap} {y : Nat} (o : AO), Keeps (H.alloc (.cells true false 78 (cM M0 (.slice none 0 0)) 41)) X → H.n + 1 ≤ y → y < X.n → Keeps (H.alloc (.cells true false 78 (cM M0 (.slice none 0 0)) 41)) (X.set y o) := fun o k h1 h2 => k.set (by rw [alloc_n]; omega) h2 o
 by_cases c1 : na b 0 1 = 1
 ·simp (disch := first | assumption | omega) only [f25, cpre, cpost, W_block, P3, seval, initFr, clsA, gm, cM_0, ek, c1]
  refine callP (q49 rr) ?_
  simp (disch := first | assumption | omega) only [W_block, P3, seval, initFr, clsA]
  refine callK (q48q rr (b.length - 33) hl9) ?_
  rintro w1 K1 ⟨bq, r1, ch1⟩
  simp (disch := first | assumption | omega) only [W_block, P3, seval, initFr, clsA]
  refine callK (t47 bq (by rw [seg_all]; rw [List.length_drop]; omega)) ?_
  rintro _ K2 ⟨k2, rfl⟩
  have n1 := ch1.n
  have n2 := k2.n
  have gm2 : K2.get m = some (.cells true false 78 (cM (hM b) (.slice none 0 0)) 41) := by rw [k2.get _ (by omega), Chg1.get ch1 pm (by omega)]; exact gm
  have r2 := r1.keeps k2
  have k02 : Keeps (H.alloc (.cells true false 78 (cM M0 (.slice none 0 0)) 41)) K2 := (kk.chg_trans ch1 (by simp [alloc_n]; omega)).trans k2
  rw [seg_all]
  have rd1 : rdM b = { hM b with s := (gS b).getD St0 } := by unfold rdM; rw [if_pos (by rw [ek]; exact c1)]
  have z68 : Z68.all Value.oneCell' = true := rfl
  have l68 : Z68.length = 68 := rfl
  have lM := cM_len (.slice none 0 0) (show (hM b).s.t.length = 64 from rfl)
  have fin : ∀ (y : St) (e : Int) (ok : Bool), y.t.length = 64 → (gS b).getD St0 = y → okC b = ok → ∀ (e9 e10 e11 e12 e13 e14 e15 : Value), Q' .normal [v, ptr H.n 0, .int .i64 0, ptr r 0, ptr m 0, .bool ok, ptr K2.n 0, .int .i64 e, .int .u8 1, e9, e10, e11, e12, e13, e14, e15] ((K2.set m (.cells true false 78 (cM { hM b with s := y } (.slice none 0 0)) 41)).alloc (.cells true false 68 (cSt y) 26)) := by
   rintro y e _ hy h1 rfl e9 e10 e11 e12 e13 e14 e15
   refine h0 _ _ ⟨m, r, hi, .slice none 0 0, _, _, _, e9, e10, e11, e12, e13, e14, e15, rfl, ?_, by omega, ?_, ?_, ?_⟩
   ·rw [rd1, h1]; exact ((Keeps.refl _).alloc _).at_ (AHeap.get_set_same gm2 _)
   ·unfold posM; rw [if_pos c1]; exact (r2.set hm (by omega) _).alloc _
   ·rw [rd1]; exact nilTB _
   ·exact (kset _ k02 (by omega) (by omega)).alloc _
  cases hgs : geSt (b.drop 33) with
  | none =>
   have o0 := cSt_one St0
   have l0 : (cSt St0).length = 68 := rfl
   have cs := cM_sets (x := hM b) rfl (.slice none 0 0) St0
   have hok : okC b = false := by unfold okC; rw [if_pos c1]; unfold gS; rw [hgs]; simp
   have hg0 : (gS b).getD St0 = St0 := by unfold gS; rw [hgs]; rfl
   cases hb0 : ok0 b with
   | true =>
    simp (disch := first | assumption | omega) only [W_block, P3, seval, initFr, clsA, GotV, z68, l68, o0, l0, gm2, cs, lM]
    exact fin St0 130 false rfl hg0 hok _ _ _ _ _ _ _
   | false =>
    simp (disch := first | assumption | omega) only [W_block, P3, seval, initFr, clsA, GotV, z68, l68, o0, l0, gm2, cs, lM]
    exact fin St0 130 false rfl hg0 hok _ _ _ _ _ _ _
  | some y =>
   have o0 := cSt_one y
   have hy := (geSt_some hgs).2.1.ht
   have l0 := cSt_len hy
   have cs := cM_sets (x := hM b) rfl (.slice none 0 0) y
   have hg0 : (gS b).getD St0 = y := by unfold gS; rw [hgs]; rfl
   cases hb0 : ok0 b with
   | true =>
    have hok : okC b = true := by unfold okC; rw [if_pos c1]; unfold gS; rw [hgs, hb0]; rfl
    simp (disch := first | assumption | omega) only [W_block, P3, seval, initFr, clsA, GotV, z68, l68, o0, l0, gm2, cs, lM]
    exact fin y 0 true hy hg0 hok _ _ _ _ _ _ _
   | false =>
    have hok : okC b = false := by unfold okC; rw [if_pos c1]; unfold gS; rw [hgs, hb0]; rfl
    simp (disch := first | assumption | omega) only [W_block, P3, seval, initFr, clsA, GotV, z68, l68, o0, l0, gm2, cs, lM]
    exact fin y 0 false hy hg0 hok _ _ _ _ _ _ _
 have n1k : ¬ ((na b 0 1 : Nat) : Int) = 1 := by omega
 by_cases c2 : na b 0 1 = 2
 ·simp (disch := first | assumption | omega) only [f25, cpre, cpost, W_block, P3, seval, initFr, clsA, gm, cM_0, ek, n1k, c2]
  refine callK (e46 rr hl9) ?_
  rintro _ _ ⟨rfl, o1, rfl, r1⟩
  simp (disch := first | assumption | omega) only [W_block, P3, seval, initFr, clsA]
  refine callK (e46 r1 hl9) ?_
  rintro _ _ ⟨rfl, o2, rfl, r2⟩
  rw [set_set] at r2
  simp (disch := first | assumption | omega) only [W_block, P3, seval, initFr, clsA]
  refine callK (e46 r2 hl9) ?_
  rintro _ _ ⟨rfl, o3, rfl, r3⟩
  rw [set_set] at r3
  simp (disch := first | assumption | omega) only [W_block, P3, seval, initFr, clsA]
  refine callK (e50 r3 hl9) ?_
  rintro _ _ ⟨rfl, o4, rfl, r4⟩
  rw [set_set] at r4
  have hrK : r < K.n := by omega
  have gm4 : (K.set r o4).get m = some (.cells true false 78 (cM (hM b) (.slice none 0 0)) 41) := by rw [AHeap.get_set_other _ (by omega) hrK]; exact gm
  obtain ⟨d4, hd4⟩ : ∃ d : Rp.D, d = ⟨na b 33 8, na b 41 8, na b 49 8, na b 57 4, []⟩ := ⟨_, rfl⟩
  obtain ⟨x4, hx4⟩ : ∃ x : Ms, x = { hM b with d := d4 } := ⟨_, rfl⟩
  have f5 : fillA [.int .u64 0, .int .u64 0, .int .u64 0, .int .u32 0, .slice none 0 0] [(0, 1, .int .u64 (na b 33 8 : Nat)), (1, 1, .int .u64 (na b 41 8 : Nat)), (2, 1, .int .u64 (na b 49 8 : Nat)), (3, 1, .int .u32 (na b 57 4 : Nat))] = some [.int .u64 d4.a, .int .u64 d4.b, .int .u64 d4.c, .int .u32 d4.p, .slice none 0 0] := by rw [hd4]; rfl
  have lM := cM_len (.slice none 0 0) (show (hM b).s.t.length = 64 from rfl)
  have s5 := cM_set5 (x := hM b) rfl (.slice none 0 0) d4 (.slice none 0 0)
  rw [← hx4] at s5
  simp (disch := first | assumption | omega) only [W_block, P3, seval, initFr, clsA, f5, gm4, lM, s5]
  have r5 := r4.set hm (by rw [set_n]; omega) (.cells true false 78 (cM x4 (.slice none 0 0)) 41)
  refine callK (e45 r5 hl9) ?_
  rintro _ _ ⟨rfl, o6, rfl, r6⟩
  simp (disch := first | assumption | omega) only [W_block, P3, seval, initFr, clsA]
  have hn256 := na1 b (33 + 8 + 8 + 8 + 4)
  obtain ⟨n, hn⟩ : ∃ n, n = na b (33 + 8 + 8 + 8 + 4) 1 := ⟨_, rfl⟩
  rw [← hn] at hn256 ⊢
  have ht4 : x4.s.t.length = 64 := by rw [hx4]; rfl
  have hmK : m < (K.set r o4).n := by rw [set_n]; omega
  have eN : ((K.set r o4).set m (.cells true false 78 (cM x4 (.slice none 0 0)) 41)).n = K.n := by rw [set_n, set_n]
  refine W_loop2 (fun q fr X => ∃ (i : Nat) (u e13 : Value), i ≤ n ∧ q = n - i ∧ RR X (H.n + 1) hi r b (62 + 2 * i) ∧ X.get m = some (.cells true false 78 (cM x4 u) 41) ∧ AP X 90 2 u (tmL b i).length (Rp.TC (tmL b i)) ∧ Fresh (m + 1) u ∧ Keeps (H.alloc (.cells true false 78 (cM M0 (.slice none 0 0)) 41)) X ∧
   fr = [v, ptr H.n 0, .int .i64 0, ptr r 0, ptr m 0, .bool (ok0 b), undef, undef, .int .u8 2, .bool false, .bool true, .int .u8 n, .int .u8 i, e13, undef, undef]) n ⟨0, .slice none 0 0, undef, by omega, rfl, r6, ?_, .inl ⟨rfl, rfl, rfl⟩, fun b hb => (by cases hb), ?_, rfl⟩ ?_
  ·rw [AHeap.get_set_other _ (by omega) (by rw [eN]; exact hrK)]; exact AHeap.get_set_same gm4 _
  ·exact kset _ (kset _ (kset _ kk hrH hrK) (by omega) (by rw [set_n]; omega)) hrH (by rw [eN]; exact hrK)
  rintro Q2 q fr X ⟨i, u, e13, hi2, rfl, rx, gX, ap, fu, kX, rfl⟩ hnx hex hrt
  have pX := AHeap.get_lt gX
  have hrX := rx.lt
  by_cases hc : i < n
  ·have l4u := cM_len u ht4
   have m77 := cM_77 u ht4
   simp (disch := first | assumption | omega) only [W_block, P3, seval, initFr, clsA, gX, m77]
   refine callK (e45 rx hl9) ?_
   rintro _ _ ⟨rfl, o7, rfl, r7⟩
   simp (disch := first | assumption | omega) only [W_block, P3, seval, initFr, clsA, gX, m77, ite_self]
   refine callK (e45 r7 hl9) ?_
   rintro _ _ ⟨rfl, o8, rfl, r8⟩
   rw [set_set] at r8
   have c1 := na1 b (62 + 2 * i)
   have v1 : IntKind.i64.wrap (na b (62 + 2 * i) 1 : Nat) = (na b (62 + 2 * i) 1 : Nat) := wrap_i64 (by omega) (by omega)
   simp (disch := first | assumption | omega) only [W_block, P3, seval, initFr, clsA, gX, m77, ite_self, v1, fillT, fillT2]
   obtain ⟨e7, he7⟩ : ∃ e7 : List Value, e7 = [.int .i64 (na b (62 + 2 * i) 1 : Nat), .int .u8 (na b (62 + 2 * i + 1) 1 : Nat)] := ⟨_, rfl⟩
   rw [← he7]
   have apn : AP ((X.set r o8).alloc (.cells true false 2 e7 90)) 90 2 u (tmL b i).length (Rp.TC (tmL b i)) :=
    ap.chg ((Chg.set X hrX o8).trans (((Keeps.refl _).alloc (.cells true false 2 e7 90)).chg [r]) (fun x hx => .inl hx)) (fun y hy => by have := fu y (mem_blkL.1 hy); simp; omega)
   refine appGD apn ⟨_, _, rfl⟩ (elems_new rfl (by rw [he7]; rfl)) (by rw [he7]; rfl) (by rw [tmL_len]; omega) ?_
   intro v9 X9 ap9 c9 hb9
   have n9 := c9.n
   simp only [alloc_n, set_n] at n9 hb9
   have fv9 : Fresh (m + 1) v9 := fun y hy => by
    rcases hb9 with e | e
    ·exact fu y (by rw [← e]; exact hy)
    ·rw [e] at hy; cases hy; omega
   have g9 : ∀ y, y < m + 1 → X9.get y = (X.set r o8).get y := fun y hy => by
    rw [c9.get _ (by rw [alloc_n, set_n]; omega) (fun hz => by have := fu y (mem_blkL.1 hz); omega), AHeap.get_alloc_old _ _ (by rw [set_n]; omega)]
   have gm9 := g9 m (by omega)
   rw [AHeap.get_set_other _ (by omega) hrX, gX] at gm9
   have k9 : Keeps (H.alloc (.cells true false 78 (cM M0 (.slice none 0 0)) 41)) X9 := by
    refine ⟨?_, fun y hy => ?_⟩
    ·have := kX.n; omega
    ·rw [alloc_n] at hy
     rw [g9 y (by omega), AHeap.get_set_other _ (by omega) hrX]; exact kX.get _ (by rw [alloc_n]; omega)
   have ho9 : v9.oneCell' = true := by obtain ⟨a, e⟩ := ap9.shape; rw [e]; rfl
   have s77 := cM_set77 ht4 u v9
   have w8 : IntKind.u8.wrap ((i : Int) + 1) = ((i + 1 : Nat) : Int) := by rw [wrap_u8]; omega
   simp (disch := first | assumption | omega) only [W_block, P3, seval, initFr, clsA, gm9, l4u, ho9, s77, w8]
   refine hnx _ _ _ ⟨i + 1, v9, _, by omega, rfl, ?_, AHeap.get_set_same gm9 _, ?_, fv9, kset _ k9 (by omega) (by omega), rfl⟩ (by omega)
   ·refine r8.upto (by simp only [set_n]; omega) (fun y hy => ?_)
    rw [AHeap.get_set_other _ (by omega) (by omega), g9 _ (by omega)]
   ·have e9 : Rp.TC (tmL b (i + 1)) = Rp.TC (tmL b i) ++ e7 := by rw [tmL_succ, Rp.TC_app, he7]; rfl
    rw [e9, tmL_len, ← tmL_len b i, tmL_len]
    rw [tmL_len] at ap9
    exact ap9.chg (Chg.set X9 (by omega) _) (fun y hy => by have := fv9 y (mem_blkL.1 hy); simp; omega)
  ·have hin : i = n := by omega
   subst hin
   simp (disch := first | assumption | omega) only [W_block, P3, seval, initFr, clsA]
   refine hex _ _ _ ?_
   simp (disch := first | assumption | omega) only [W_block, P3, seval, initFr, clsA]
   have rd2 : rdM b = { hM b with d := dM b } := by unfold rdM; rw [if_neg (by rw [ek]; omega), if_pos (by rw [ek]; exact c2)]
   have hnT : nT b = i := by rw [hn]; rfl
   have er : cM (rdM b) u = cM x4 u := by rw [rd2, hx4, hd4]; rfl
   have el : (rdM b).d.l = tmL b i := by rw [rd2]; show tmL b (nT b) = _; rw [hnT]
   have hok : okC b = ok0 b := by unfold okC; rw [if_neg c1, if_neg (by omega)]
   rw [← hok]
   exact h0 _ _ ⟨m, r, hi, u, _, _, _, _, _, _, _, _, _, _, rfl, by rw [er]; exact gX, by omega, by unfold posM; rw [if_neg c1, if_pos c2, hnT]; exact rx, by rw [el]; exact Rp.TB.of_ap ap, kX⟩
 have n2k : ¬ ((na b 0 1 : Nat) : Int) = 2 := by omega
 have rd3 : rdM b = hM b := by unfold rdM; rw [if_neg (by rw [ek]; omega), if_neg (by rw [ek]; omega)]
 have hp : posM b = 33 := by unfold posM; rw [if_neg c1, if_neg c2]
 have fin : ∀ ok, okC b = ok → ∀ (e9 e10 e11 e12 e13 e14 e15 : Value), Q' .normal [v, ptr H.n 0, .int .i64 0, ptr r 0, ptr m 0, .bool ok, undef, undef, .int .u8 (na b 0 1 : Nat), e9, e10, e11, e12, e13, e14, e15] K := by
  rintro _ rfl e9 e10 e11 e12 e13 e14 e15
  exact h0 _ _ ⟨m, r, hi, .slice none 0 0, _, _, _, e9, e10, e11, e12, e13, e14, e15, rfl, by rw [rd3]; exact gm, by omega, by rw [hp]; exact rr, by rw [rd3]; exact nilTB _, kk⟩
 by_cases c4 : na b 0 1 = 4
 ·have hok : okC b = (ok0 b && zz (hM b).e (hM b).c) := by unfold okC; rw [if_neg c1, if_pos c4]
  cases hb0 : ok0 b with
  | false =>
   simp (disch := first | assumption | omega) only [f25, cpre, cpost, W_block, P3, seval, initFr, clsA, gm, cM_0, cM_1, cM_2, ek, n1k, n2k, c4, hb0]
   have := fin false (by rw [hok, hb0]; rfl)
   rw [c4] at this
   exact this _ _ _ _ _ _ _
  | true =>
   by_cases d1 : (hM b).e = 0
   ·by_cases d2 : (hM b).c = 0
    ·simp (disch := first | assumption | omega) only [f25, cpre, cpost, W_block, P3, seval, initFr, clsA, gm, cM_0, cM_1, cM_2, ek, n1k, n2k, c4, hb0, d1, d2]
     have := fin true (by rw [hok, hb0]; simp [zz, d1, d2])
     rw [c4] at this
     exact this _ _ _ _ _ _ _
    ·simp (disch := first | assumption | omega) only [f25, cpre, cpost, W_block, P3, seval, initFr, clsA, gm, cM_0, cM_1, cM_2, ek, n1k, n2k, c4, hb0, d1, d2]
     have := fin false (by rw [hok, hb0]; simp [zz, d1, d2])
     rw [c4] at this
     exact this _ _ _ _ _ _ _
   ·simp (disch := first | assumption | omega) only [f25, cpre, cpost, W_block, P3, seval, initFr, clsA, gm, cM_0, cM_1, cM_2, ek, n1k, n2k, c4, hb0, d1]
    have := fin false (by rw [hok, hb0]; simp [zz, d1])
    rw [c4] at this
    exact this _ _ _ _ _ _ _
 ·simp (disch := first | assumption | omega) only [f25, cpre, cpost, W_block, P3, seval, initFr, clsA, gm, cM_0, ek, n1k, n2k, show ¬ ((na b 0 1 : Nat) : Int) = 4 by omega]
  exact fin (ok0 b) (by unfold okC; rw [if_neg c1, if_neg c4]) _ _ _ _ _ _ _
end Go.AM.Rg

namespace Go.AM.Rg
open Nat (reduceAdd reduceEqDiff reduceLT reduceLeDiff reduceMul reduceSub)
open Go.Proofs Go.AM.F Go.AM.Fd
def G25 (H' : AHeap) (w : Value) (b : List UInt8) : Prop := match geM b with
 | some x => ∃ u, w = GotV (cM x u) 0 ∧ Rp.TB H' u x.d.l
 | none => w = GotV (cM M0 (.slice none 0 0)) 130
theorem ge_facts {b : List UInt8} (hb : b ≠ []) (h : pM (rdM b) = b) : okC b = okM b ∧ ¬ b.length < posM b ∧ 33 ≤ b.length := by
 have hmay : Rp.mayB (M (rdM b)) = true := by
  cases hm : Rp.mayB (M (rdM b)) with
  | true => rfl
  | false => unfold pM at h; rw [hm] at h; exact absurd h.symm hb
 obtain ⟨m1, m2, m3, m4, m5, m6, m7, m8⟩ := may_inv hmay
 obtain ⟨q0, q1, q2, q3, q4⟩ := rd_k b
 have he : enM (rdM b) = b := by unfold pM at h; rwa [hmay, if_pos rfl] at h
 have hrg := rdM_rg b
 have ht := hrg.s.ht
 have hlen := congrArg List.length he
 unfold enM at hlen
 rw [List.length_append, hdM_len] at hlen
 rw [q0] at m1 m2 hlen
 have ek : (hM b).k = na b 0 1 := rfl
 have : na b 0 1 = 1 ∨ na b 0 1 = 2 ∨ na b 0 1 = 3 ∨ na b 0 1 = 4 := by omega
 rcases this with k | k | k | k
 ·refine ⟨?_, ?_, by omega⟩
  ·unfold okC okM ok0; rw [ek, k]; simp [Bool.and_comm]
  ·unfold posM; rw [if_pos k]; omega
 ·refine ⟨?_, ?_, by omega⟩
  ·unfold okC okM ok0; rw [ek, k]; simp
  ·have rd2 : rdM b = { hM b with d := dM b } := by unfold rdM; rw [if_neg (by rw [ek]; omega), if_pos (by rw [ek]; exact k)]
   rw [k, if_neg (by omega), if_pos rfl, dB_len, rd2] at hlen
   have e : (dM b).l.length = nT b := tmL_len _ _
   have hlen : 33 + (29 + 2 * (dM b).l.length) = b.length := hlen
   rw [e] at hlen
   unfold posM; rw [if_neg (by omega), if_pos k]; omega
 ·refine ⟨?_, ?_, by omega⟩
  ·unfold okC okM ok0; rw [ek, k]; simp
  ·unfold posM; rw [if_neg (by omega), if_neg (by omega)]; omega
 ·refine ⟨?_, ?_, by omega⟩
  ·unfold okC okM ok0; rw [ek, k]; simp
  ·unfold posM; rw [if_neg (by omega), if_neg (by omega)]; omega
theorem ge_iff (b : List UInt8) : geM b = if okC b = true ∧ ¬ b.length < posM b ∧ b ≠ [] ∧ pM (rdM b) = b then some (rdM b) else none := by
 unfold geM
 by_cases h : b ≠ [] ∧ pM (rdM b) = b
 ·obtain ⟨h1, h2, h3⟩ := ge_facts h.1 h.2
  rw [h1]
  by_cases h4 : okM b = true
  ·rw [if_pos ⟨h3, h4, h.2⟩, if_pos ⟨h4, h2, h⟩]
  ·rw [if_neg (fun x => h4 x.2.1), if_neg (fun x => h4 x.1)]
 ·rw [if_neg, if_neg]
  ·rintro ⟨_, _, x⟩; exact h x
  ·rintro ⟨x1, _, x2⟩; exact h ⟨by intro e; rw [e] at x1; simp at x1, x2⟩
set_option maxHeartbeats 1000000 in
theorem t25 {H : AHeap} {v : Value} {b : List UInt8} (hb : BQ H v b) (hl : b.length ≤ 100000) : ∃ w H', ARun Try.prog 0 25 [v] H w H' ∧ Keeps H H' ∧ G25 H' w b := by
 refine walk2 f25_ok f25_n ?_
 intro Q hq1 hq2
 refine W_part 4 (M4 v b H) (by kernel_rfl) (fun Q' h1 _ _ => p25a hb hl Q' h1) ?_
 intro fr K h4
 refine W_part 1 (M5 v b H) (by kernel_rfl) (fun Q' h1 _ _ => p25b hl h4 Q' h1) ?_
 clear h4 fr K
 rintro fr K ⟨m, r, hi, u, e6, e7, e8, e9, e10, e11, e12, e13, e14, e15, rfl, gm, hm, rr, tb, kk⟩
 obtain ⟨x, hx⟩ : ∃ x, x = rdM b := ⟨_, rfl⟩
 have hge := ge_iff b
 have hrg := rdM_rg b
 have hln := rdM_len b
 rw [← hx] at gm tb hrg hln hge
 have ht := hrg.s.ht
 have lx := cM_len u ht
 have ox := cM_one x tb.one
 have z78 : Z78.all Value.oneCell' = true := rfl
 have lz : Z78.length = 78 := rfl
 have hz := kk.at_ (AHeap.get_alloc_new H _)
 rw [← Z78_M] at hz
 have pm := AHeap.get_lt gm
 have kH : Keeps H K := ((Keeps.refl H).alloc _).trans kk
 have nH := kk.n
 rw [alloc_n] at nH
 have hs := (hb.keeps kH).bs.sl
 have his := hs.is
 have hlen := hs.len
 rw [List.length_map] at hlen
 have res : ∀ (K : AHeap) (c : List Value) (o : Int), K.get H.n = some (.cells true false 78 c 41) → c.length = 78 → ∀ fr : List Value, fr.getD 1 undef = ptr H.n 0 → fr.getD 2 undef = .int .i64 o → resO f25.res fr K = some (GotV c o) := by
  intro K c o gK lc fr e1 e2
  rw [show resO f25.res fr K = (celln 78 (fr.getD 1 undef) K).map fun c => .tuple #[c, fr.getD 2 undef] from resCT 78 1 2 fr, e1, e2]
  simp (disch := first | assumption | omega) only [W_block, P3, seval, initFr, clsA, gK, lc, GotV]
 have fin0 : ∀ K' : AHeap, Keeps K K' → geM b = none → ∀ fr : List Value, fr.getD 1 undef = ptr H.n 0 → fr.getD 2 undef = .int .i64 130 → Q .ret fr (K'.set H.n (.cells true false 78 Z78 41)) := by
  intro K' k g fr e1 e2
  have := k.n
  refine hq2 _ _ ⟨_, res _ _ 130 (AHeap.get_set_same (k.at_ hz) _) lz fr e1 e2, (kH.trans k).set (Nat.le_refl _) (by omega) _, ?_⟩
  unfold G25; rw [g]; rfl
 cases hok : okC b with
 | false =>
  simp (disch := first | assumption | omega) only [f25, cpost, W_block, P3, seval, initFr, clsA, hz, z78, lz]
  exact fin0 K (Keeps.refl K) (by rw [hge, if_neg]; rintro ⟨h, _⟩; rw [hok] at h; cases h) _ rfl rfl
 | true =>
  simp (disch := first | assumption | omega) only [f25, cpost, W_block, P3, seval, initFr, clsA]
  refine callP (q51 rr) ?_
  by_cases hp : b.length < posM b
  ·have ed : decide (b.length < posM b) = true := by simp [hp]
   rw [ed]
   simp (disch := first | assumption | omega) only [W_block, P3, seval, initFr, clsA, hz, z78, lz]
   exact fin0 K (Keeps.refl K) (by rw [hge, if_neg]; rintro ⟨_, h, _⟩; exact h hp) _ rfl rfl
  have ed : decide (b.length < posM b) = false := by simp [hp]
  rw [ed]
  by_cases hn : b = []
  ·have hl0 : b.length = 0 := by rw [hn]; rfl
   simp (disch := first | assumption | omega) only [W_block, P3, seval, initFr, clsA, hlen, hl0, hz, z78, lz]
   exact fin0 K (Keeps.refl K) (by rw [hge, if_neg]; rintro ⟨_, _, h, _⟩; exact h hn) _ rfl rfl
  have hpos : ¬ ((b.length : Nat) : Int) = 0 := by
   have : 0 < b.length := List.length_pos_iff.2 hn
   omega
  simp (disch := first | assumption | omega) only [W_block, P3, seval, initFr, clsA, hlen, hpos, gm, lx]
  refine callK (t27 hrg tb (by omega)) ?_
  rintro w2 K2 o2
  have k2 := o2.k
  have hb2 := hb.bs.keeps (kH.trans k2)
  simp (disch := first | assumption | omega) only [W_block, P3, seval, initFr, clsA]
  refine callP (t52 o2.bs hb2) ?_
  by_cases heq : pM x = b
  ·have e1 : decide (pM x = b) = true := by simp [heq]
   rw [e1]
   simp (disch := first | assumption | omega) only [Keeps.get k2, Keeps.row k2, W_block, P3, seval, initFr, clsA, gm, lx, ox, hz, lz]
   refine hq2 _ _ ⟨_, res _ _ 0 (AHeap.get_set_same (k2.at_ hz) _) lx _ rfl rfl, (kH.trans k2).set (Nat.le_refl _) (by have := k2.n; omega) _, ?_⟩
   unfold G25
   rw [hge, if_pos ⟨hok, hp, hn, heq⟩]
   exact ⟨u, rfl, TB.off (tb.keeps k2) (k2.at_ hz) _⟩
  ·have e1 : decide (pM x = b) = false := by simp [heq]
   rw [e1]
   simp (disch := first | assumption | omega) only [Keeps.get k2, Keeps.row k2, W_block, P3, seval, initFr, clsA, gm, lx, ox, hz, lz, z78]
   exact fin0 K2 k2 (by rw [hge, if_neg]; rintro ⟨_, _, _, h⟩; exact heq h) _ rfl rfl
end Go.AM.Rg

namespace Go.AM.Rg
open Nat (reduceAdd reduceEqDiff reduceLT reduceLeDiff reduceMul reduceSub)
open Go.Proofs Go.AM.F Go.AM.Fd
def geY (b : List UInt8) : Ms := (geM b).getD M0
def okY (b : List UInt8) : Bool := (geM b).isSome
theorem rgM0 : rgM M0 := ⟨by decide, by unfold i64B; decide, by unfold i64B; decide, by unfold i64B; decide, by unfold i64B; decide, rgSt0, by decide, by decide, by decide, by decide, fun t h => by cases h⟩
theorem geM_inv {b : List UInt8} {y : Ms} (h : geM b = some y) : y = rdM b ∧ pM y = b := by
 unfold geM at h
 split at h
 ·rename_i hc
  cases h
  exact ⟨rfl, hc.2.2⟩
 ·cases h
theorem geY_rg (b : List UInt8) : rgM (geY b) ∧ (geY b).d.l.length ≤ 255 := by
 unfold geY
 cases h : geM b with
 | none => exact ⟨rgM0, Nat.zero_le _⟩
 | some y => obtain ⟨rfl, _⟩ := geM_inv h; exact ⟨rdM_rg b, rdM_len b⟩
theorem geY_p {b : List UInt8} (h : okY b = true) : pM (geY b) = b := by
 unfold okY at h
 unfold geY
 cases e : geM b with
 | none => rw [e] at h; cases h
 | some y => exact (geM_inv e).2
theorem u25 {H : AHeap} {v : Value} {b : List UInt8} (hb : BQ H v b) (hl : b.length ≤ 100000) : ∃ w H', ARun Try.prog 0 25 [v] H w H' ∧ ∃ u, w = .tuple #[.agg (cM (geY b) u).toArray, .int .i64 (if okY b then 0 else 130)] ∧ Rp.TB H' u (geY b).d.l ∧ Keeps H H' := by
 obtain ⟨w, H', r, k, g⟩ := t25 hb hl
 unfold G25 at g
 unfold geY okY
 cases e : geM b with
 | none => rw [e] at g; exact ⟨w, H', r, _, g, ⟨none, 0, rfl, fun h => absurd rfl h⟩, k⟩
 | some y => rw [e] at g; obtain ⟨u, g1, g2⟩ := g; exact ⟨w, H', r, u, g1, g2, k⟩
theorem u26 {H : AHeap} {v : Value} {b : List UInt8} (hb : BQ H v b) (hl : b.length ≤ 100000) : ∃ w H', ARun Try.prog 0 26 [v] H w H' ∧ ∃ u, w = .tuple #[.agg (cM (geY b) u).toArray, .bool (okY b)] ∧ Rp.TB H' u (geY b).d.l ∧ Keeps H H' := by
 obtain ⟨w, H', r, k, g⟩ := t26 hb hl
 unfold G26 at g
 unfold geY okY
 cases e : geM b with
 | none => rw [e] at g; exact ⟨w, H', r, _, g, ⟨none, 0, rfl, fun h => absurd rfl h⟩, k⟩
 | some y => rw [e] at g; obtain ⟨u, g1, g2⟩ := g; exact ⟨w, H', r, u, g1, g2, k⟩
theorem pM_len {x : Ms} (h : x.s.t.length = 64) : (pM x).length ≤ 1000 := by
 unfold pM
 split
 ·rename_i hm
  have := (may_inv hm).2.2.2.2.2.2.2
  unfold enM
  rw [List.length_append, hdM_len]
  split
  ·rw [fSt_len h]; omega
  split
  ·rw [dB_len]; omega
  ·simp
 ·simp
theorem q12 {H : AHeap} {x : Ms} (ht : x.s.t.length = 64) {u : Value} (h : Rp.TB H u x.d.l) (hl : x.d.l.length ≤ 100000) : ∃ r H', ARun Try.prog 0 12 [.agg (cM x u).toArray] H r H' ∧ ∃ w, r = .agg (cM x w).toArray ∧ Rp.TB H' w x.d.l ∧ Keeps H H' := by
 obtain ⟨r, H', a, k, w, e, t, _⟩ := Rp.t12g (m := M x) (toS_len ht) h hl
 exact ⟨r, H', a, w, e, t, k⟩
theorem q13 {H : AHeap} {x : Ms} (ht : x.s.t.length = 64) {u w : Value} (h : Rp.TB H u x.d.l) (h' : Rp.TB H w x.d.l) (hl : x.d.l.length ≤ 100000) : ∃ r H', ARun Try.prog 0 13 [.agg (cM x u).toArray, .agg (cM x w).toArray] H r H' ∧ r = .bool true ∧ Keeps H H' :=
 Rp.t13g (m := M x) (toS_len ht) h h' hl
def M6 (x : Ms) (u v : Value) (fr : List Value) (K : AHeap) : Prop :=
 ∃ (p e2 e4 e5 e6 e7 e8 e14 e15 e16 : Value), fr = [.agg (cM x u).toArray, v, e2, .bool false, e4, e5, e6, e7, e8, p, undef, undef, undef, undef, e14, e15, e16] ∧ BQ K p (pM x)
set_option maxHeartbeats 1000000 in
theorem p6 {H : AHeap} {x : Ms} {u v : Value} {b : List UInt8} (hx : rgM x) (tb : Rp.TB H u x.d.l) (hb : BQ H v b) (Q : AQ) (hq1 : ∀ fr K, M6 x u v fr K → Q .normal fr K) (hq2 : ∀ fr K, resO f6.res fr K = some (.bool true) → Q .ret fr K) : W Try.prog 0 (cpre 8 f6.body) Q (initFr f6.sl [.agg (cM x u).toArray, v]) H := by
 have ht := hx.s.ht
 have lx := cM_len u ht
 have ox := cM_one x tb.one
 have z78 : Z78.all Value.oneCell' = true := rfl
 have lz : Z78.length = 78 := rfl
 have hs := hb.bs.sl
 have his := hs.is
 have hlen := hs.len
 rw [List.length_map] at hlen
 have hul := TB_len tb
 have hul1 := hul.1
 have hul2 := hul.2
 by_cases c1 : (200 : Int) < (x.d.l.length : Nat)
 ·simp (disch := first | assumption | omega) only [f6, cpre, W_block, P3, seval, initFr, clsA, ox, cM_77, hul2, c1]
  refine ⟨_, _, Rp.works_any _, ?_⟩
  simp (disch := first | assumption | omega) only [W_block, P3, seval, initFr, clsA]
  exact hq2 _ _ rfl
 by_cases c2 : (1000 : Int) < (b.length : Nat)
 ·simp (disch := first | assumption | omega) only [f6, cpre, W_block, P3, seval, initFr, clsA, ox, cM_77, hul2, c1, hlen, c2]
  refine ⟨_, _, Rp.works_any _, ?_⟩
  simp (disch := first | assumption | omega) only [W_block, P3, seval, initFr, clsA]
  exact hq2 _ _ rfl
 have c1' : x.d.l.length ≤ 200 := by omega
 have c2' : b.length ≤ 1000 := by omega
 obtain ⟨H1, hH1⟩ : ∃ X, X = H.alloc (.cells true false 78 (cM x u) 41) := ⟨_, rfl⟩
 have k1 : Keeps H H1 := by rw [hH1]; exact (Keeps.refl H).alloc _
 have g1 : H1.get H.n = some (.cells true false 78 (cM x u) 41) := by rw [hH1]; exact AHeap.get_alloc_new _ _
 have hb1 := hb.keeps k1
 simp (disch := first | assumption | omega) only [f6, cpre, W_block, P3, seval, initFr, clsA, ox, cM_77, hul2, c1, hlen, c2]
 rw [← hH1]
 simp (disch := first | assumption | omega) only [W_block, P3, seval, initFr, clsA, a_b2sB hb1.bs, a_s2bl]
 obtain ⟨H2, hH2⟩ : ∃ X, X = H1.alloc (.cells true true 1 (cellsOf b) 5) := ⟨_, rfl⟩
 have o2 : OB 5 H1 H2 (slc H1.n 0 b.length b.length) b := by rw [hH2]; exact OB.lit (Keeps.refl _) rfl rfl rfl true
 rw [← hH2]
 obtain ⟨vi, hvi⟩ : ∃ vi, vi = slc H1.n 0 b.length b.length := ⟨_, rfl⟩
 rw [← hvi] at o2 ⊢
 refine callK (u25 o2.bq (by omega)) ?_
 rintro _ H3 ⟨u3, rfl, tb3, k3⟩
 obtain ⟨y, hy⟩ : ∃ y, y = geY b := ⟨_, rfl⟩
 have hyr := geY_rg b
 rw [← hy] at hyr tb3 ⊢
 obtain ⟨hyr, hyl⟩ := hyr
 have hyt := hyr.s.ht
 have l3 := cM_len u3 hyt
 have x3 := cM_one y tb3.one
 simp (disch := first | assumption | omega) only [W_block, P3, seval, initFr, clsA, z78, lz, l3, x3]
 obtain ⟨H4, hH4⟩ : ∃ X, X = H3.alloc (.cells true false 78 (cM y u3) 41) := ⟨_, rfl⟩
 have k4 : Keeps H3 H4 := by rw [hH4]; exact (Keeps.refl H3).alloc _
 have g4 : H4.get H3.n = some (.cells true false 78 (cM y u3) 41) := by rw [hH4]; exact AHeap.get_alloc_new _ _
 have kk4 := (o2.k.trans k3).trans k4
 rw [← hH4]
 refine callK (u26 (hb1.keeps kk4) (by omega)) ?_
 rintro _ H5 ⟨u5, rfl, tb5, k5⟩
 rw [← hy] at tb5 ⊢
 have l5 := cM_len u5 hyt
 have x5 := cM_one y tb5.one
 simp (disch := first | assumption | omega) only [W_block, P3, seval, initFr, clsA, z78, lz, l5, x5]
 obtain ⟨H6, hH6⟩ : ∃ X, X = H5.alloc (.cells true false 78 (cM y u5) 38) := ⟨_, rfl⟩
 have k6 : Keeps H5 H6 := by rw [hH6]; exact (Keeps.refl H5).alloc _
 have g6 : H6.get H5.n = some (.cells true false 78 (cM y u5) 38) := by rw [hH6]; exact AHeap.get_alloc_new _ _
 rw [← hH6]
 have k16 := (kk4.trans k5).trans k6
 have g16 := k16.at_ g1
 simp (disch := first | assumption | omega) only [W_block, P3, seval, initFr, clsA, g16, lx]
 refine callK (t27 hx (tb.keeps (k1.trans k16)) (by omega)) ?_
 rintro p H7 o7
 simp (disch := first | assumption | omega) only [W_block, P3, seval, initFr, clsA]
 have k7 := o7.k
 have g17 := k7.at_ g16
 have hp7 := o7.bs
 simp (disch := first | assumption | omega) only [W_block, P3, seval, initFr, clsA, a_b2sB hp7, g17, lx]
 refine callK (q12 ht (tb.keeps ((k1.trans k16).trans k7)) (by omega)) ?_
 rintro _ H8 ⟨u8, rfl, tb8, k8⟩
 simp (disch := first | assumption | omega) only [W_block, P3, seval, initFr, clsA]
 refine ⟨by rw [if_pos (.inl trivial), touch_b2s]; exact (tbk hp7 k8).2, ?_⟩
 refine callK (t28 hx tb8 (by omega)) ?_
 rintro p9 H9 o9
 have k9 := o9.k
 have kk9 := k8.trans k9
 have g49 := kk9.at_ (k7.at_ ((k5.trans k6).at_ g4))
 simp (disch := first | assumption | omega) only [W_block, P3, seval, initFr, clsA, a_b2sB o9.bs, bytes_eq, decide_true, g49, l3]
 refine ⟨by rw [if_pos (.inl trivial), touch_b2s]; exact (tbk (hp7.keeps k8) k9).2, ?_⟩
 have tbA := tb3.keeps ((((k4.trans k5).trans k6).trans k7).trans kk9)
 refine callK (q12 hyt tbA (by omega)) ?_
 rintro _ H10 ⟨u10, rfl, tb10, k10⟩
 have k79 := kk9.trans k10
 have g610 := k79.at_ (k7.at_ g6)
 simp (disch := first | assumption | omega) only [W_block, P3, seval, initFr, clsA, g610, l5]
 have g69 := kk9.at_ (k7.at_ g6)
 have tb5b := tb5.keeps ((k6.trans k7).trans k79)
 refine ⟨⟨AHeap.get_lt g69, g69.symm⟩, ?_⟩
 refine callK (q13 hyt tb10 tb5b (by omega)) ?_
 rintro _ H11 ⟨rfl, k11⟩
 have k27 := ((((k3.trans k4).trans k5).trans k6).trans k7)
 have hin := (o2.bs.keeps k27).keeps (k79.trans k11)
 have hb11 := hb1.bs.keeps ((o2.k.trans k27).trans (k79.trans k11))
 have hp11 := o7.bq.keeps (k79.trans k11)
 have g4b := (k79.trans k11).at_ (k7.at_ ((k5.trans k6).at_ g4))
 cases hok : okY b with
 | false =>
  simp (disch := first | assumption | omega) only [W_block, P3, seval, initFr, clsA, a_b2sB hin, a_b2sB hb11, bytes_eq, decide_true]
  exact hq1 _ _ ⟨p, _, _, _, _, _, _, _, _, _, rfl, hp11⟩
 | true =>
  simp (disch := first | assumption | omega) only [W_block, P3, seval, initFr, clsA, a_b2sB hin, a_b2sB hb11, bytes_eq, decide_true, g4b, l3]
  refine callK (t27 hyr (tb3.keeps ((((k4.trans k5).trans k6).trans k7).trans (k79.trans k11))) (by omega)) ?_
  rintro p12 H12 o12
  have ey : pM y = b := by rw [hy]; exact geY_p hok
  have o12' := o12.bs
  rw [ey] at o12'
  simp (disch := first | assumption | omega) only [W_block, P3, seval, initFr, clsA, a_b2sB o12', a_b2sB (hb11.keeps o12.k), bytes_eq, decide_true, touch_b2s, ite_self]
  refine ⟨tbk hb11 o12.k, ?_⟩
  exact hq1 _ _ ⟨p, _, _, _, _, _, _, _, _, _, rfl, hp11.keeps o12.k⟩
set_option maxHeartbeats 1000000 in
theorem t6 {H : AHeap} {x : Ms} {u v : Value} {b : List UInt8} (hx : rgM x) (tb : Rp.TB H u x.d.l) (hb : BQ H v b) : ∃ w H', ARun Try.prog 0 6 [.agg (cM x u).toArray, v] H w H' ∧ w = .bool true := by
 refine walk2 f6_ok f6_n ?_
 intro Q hq1 hq2
 refine W_part 8 (M6 x u v) (by kernel_rfl) (fun Q' h1 _ h3 => p6 hx tb hb Q' h1 (fun fr K e => h3 _ _ (hq2 _ _ ⟨_, e, rfl⟩))) ?_
 rintro fr K ⟨p, e2, e4, e5, e6, e7, e8, e14, e15, e16, rfl, hp⟩
 have hpl := pM_len (x := x) hx.s.ht
 have z78 : Z78.all Value.oneCell' = true := rfl
 have lz : Z78.length = 78 := rfl
 simp (disch := first | assumption | omega) only [f6, cpost, W_block, P3, seval, initFr, clsA]
 refine callK (u25 hp (by omega)) ?_
 rintro _ H3 ⟨u3, rfl, tb3, k3⟩
 obtain ⟨y, hy⟩ : ∃ y, y = geY (pM x) := ⟨_, rfl⟩
 have hyr := geY_rg (pM x)
 rw [← hy] at hyr tb3 ⊢
 obtain ⟨hyr, hyl⟩ := hyr
 have hyt := hyr.s.ht
 have l3 := cM_len u3 hyt
 have x3 := cM_one y tb3.one
 simp (disch := first | assumption | omega) only [W_block, P3, seval, initFr, clsA, z78, lz, l3, x3]
 obtain ⟨H4, hH4⟩ : ∃ X, X = H3.alloc (.cells true false 78 (cM y u3) 41) := ⟨_, rfl⟩
 have k4 : Keeps H3 H4 := by rw [hH4]; exact (Keeps.refl H3).alloc _
 have g4 : H4.get H3.n = some (.cells true false 78 (cM y u3) 41) := by rw [hH4]; exact AHeap.get_alloc_new _ _
 rw [← hH4]
 refine callK (u26 (hp.keeps (k3.trans k4)) (by omega)) ?_
 rintro _ H5 ⟨u5, rfl, tb5, k5⟩
 rw [← hy] at tb5 ⊢
 have l5 := cM_len u5 hyt
 have x5 := cM_one y tb5.one
 simp (disch := first | assumption | omega) only [W_block, P3, seval, initFr, clsA, z78, lz, l5, x5]
 obtain ⟨H6, hH6⟩ : ∃ X, X = H5.alloc (.cells true false 78 (cM y u5) 38) := ⟨_, rfl⟩
 have k6 : Keeps H5 H6 := by rw [hH6]; exact (Keeps.refl H5).alloc _
 have g6 : H6.get H5.n = some (.cells true false 78 (cM y u5) 38) := by rw [hH6]; exact AHeap.get_alloc_new _ _
 have g46 := (k5.trans k6).at_ g4
 have n6 := AHeap.get_lt g6
 rw [← hH6]
 cases hok : okY (pM x) with
 | false =>
  simp (disch := first | assumption | omega) only [W_block, P3, seval, initFr, clsA, g46, l3]
  refine callK (q12 hyt (tb3.keeps ((k4.trans k5).trans k6)) (by omega)) ?_
  rintro _ H10 ⟨u10, rfl, tb10, k10⟩
  have g610 := k10.at_ g6
  simp (disch := first | assumption | omega) only [W_block, P3, seval, initFr, clsA, g610, l5]
  refine ⟨g6.symm, ?_⟩
  refine callK (q13 hyt tb10 (tb5.keeps (k6.trans k10)) (by omega)) ?_
  rintro _ H11 ⟨rfl, k11⟩
  simp (disch := first | assumption | omega) only [W_block, P3, seval, initFr, clsA]
  refine ⟨_, _, Rp.works_any _, trivial, ?_⟩
  simp (disch := first | assumption | omega) only [W_block, P3, seval, initFr, clsA]
  exact hq2 _ _ ⟨_, rfl, rfl⟩
 | true =>
  simp (disch := first | assumption | omega) only [W_block, P3, seval, initFr, clsA, g46, l3]
  refine callK (q12 hyt (tb3.keeps ((k4.trans k5).trans k6)) (by omega)) ?_
  rintro _ H10 ⟨u10, rfl, tb10, k10⟩
  have g610 := k10.at_ g6
  simp (disch := first | assumption | omega) only [W_block, P3, seval, initFr, clsA, g610, l5]
  refine ⟨g6.symm, ?_⟩
  refine callK (q13 hyt tb10 (tb5.keeps (k6.trans k10)) (by omega)) ?_
  rintro _ H11 ⟨rfl, k11⟩
  simp (disch := first | assumption | omega) only [W_block, P3, seval, initFr, clsA]
  refine ⟨_, _, Rp.works_any _, trivial, ?_⟩
  simp (disch := first | assumption | omega) only [W_block, P3, seval, initFr, clsA]
  exact hq2 _ _ ⟨_, rfl, rfl⟩
end Go.AM.Rg

namespace Go.AM
def LayOK (i : Nat) (fr : List Value) (H : AHeap) : Prop := ∃ (b n e : Nat) (c : List Value), fr[i]? = some (slc b 0 n n) ∧ 0 < n ∧ H.get b = some (.cells true true 1 c e) ∧ c.length = n
def Lay (i : Nat) (fr : List Value) (H : AHeap) (fr' : List Value) (H' : AHeap) : Prop :=
 ∃ (b n k e : Nat) (c c2 : List Value), fr[i]? = some (slc b 0 n n) ∧ 0 < n ∧ H.get b = some (.cells true true 1 c e) ∧ c.length = n ∧ n + c2.length = k ∧ (∀ v ∈ c2, v.oneCell' = true) ∧
  fr' = fr.set i (slc H.n 0 n k) ∧ H' = (H.set b .dead).alloc (.cells true false 1 (c ++ c2) e)
variable {P : Program} {ng : Nat}
def WS (P : Program) (ng : Nat) : ACode → AQ → List Value → AHeap → Prop
 | .seq a b, Q, fr, H => WS P ng a (Q.andThen fun fr H => WS P ng b Q fr H ∨ ∃ i, LayOK i fr H ∧ ∀ fr' H', Lay i fr H fr' H' → WS P ng b Q fr' H') fr H
 | .cond c t e, Q, fr, H => match c.ev fr [] with
  | .bool b => if b then WS P ng t Q fr H else WS P ng e Q fr H
  | _ => False
 | .block id c, Q, fr, H => WS P ng c (Q.inBlock id) fr H
 | .loop c, Q, fr, H => ∃ (I : Nat → List Value → AHeap → Prop) (n : Nat), I n fr H ∧ ∀ k fr H, I k fr H → WS P ng c (Q.andThen fun fr H => ∃ k', k' < k ∧ I k' fr H) fr H
 | c, Q, fr, H => W P ng c Q fr H
theorem WS_of_W : ∀ (ac : ACode) {Q : AQ} {fr : List Value} {H : AHeap}, W P ng ac Q fr H → WS P ng ac Q fr H := by
 intro ac
 induction ac with
 | seq a b iha ihb =>
  intro Q fr H h
  refine iha (W_mono ?_ h)
  intro e fr H h
  cases e with
  | normal => exact .inl (ihb h)
  | exit id => exact h
  | ret => exact h
  | goto l => exact h
  | panic ch => exact h
  | outgrown => exact h
 | cond c t e iht ihe =>
  intro Q fr H h
  simp only [W, WS] at h ⊢
  split at h
  ·rename_i b hb
   rw [hb]
   cases b
   ·exact ihe h
   ·exact iht h
  ·exact h.elim
 | block id c ih => intro Q fr H h; exact ih h
 | loop c ih =>
  intro Q fr H h
  obtain ⟨I, n, h0, h1⟩ := h
  exact ⟨I, n, h0, fun k fr H hk => ih (h1 k fr H hk)⟩
 | _ => intro Q fr H h; exact h
theorem lay_sound {σ0 : Sg} {H0 : AHeap} {w0 : World} {σ : Sg} {H : AHeap} {w : World} {N : Nat} {sl : List Nat} {ds : List Deferred} {fr : List Value} {a : Act} (he : ER σ N sl [] ds fr [] a) (hr : HR ng σ H.get w) (hx : Ext H0.n σ0 H0.get w0 H.n σ H.get w) (hd : DM w0.heap.size σ w ds) {i : Nat} (hl : LayOK i fr H) :
  ∃ fr' H' σ', Lay i fr H fr' H' ∧ ER σ' N sl [] ds fr' [] a ∧ HR ng σ' H'.get w ∧ Ext H0.n σ0 H0.get w0 H'.n σ' H'.get w ∧ DM w0.heap.size σ' w ds := by
 obtain ⟨b, n, e, c, h1, h2, h3, h4⟩ := hl
 have hif : i < fr.length := (List.getElem?_eq_some_iff.1 h1).1
 have his : i < sl.length := by rw [← he.frl]; exact hif
 obtain ⟨v', g1, g2⟩ := he.frv i sl[i] _ (List.getElem?_eq_getElem his) h1
 unfold slc at g2
 cases g2 with
 | sl0 _ => omega
 | slz hx => simp at hx
 | @sl _ _ _ _ k' j hj hnk hk =>
  obtain ⟨ob, q1, q2⟩ := hr.obj b j hj
  rw [h3] at q1; cases q1
  have q2' := q2
  obtain ⟨a1, a2, a3, a4, a9, c', fz, a5, a6, a7, a8⟩ := q2
  have hnk' : n ≤ k' := by rcases hk with hk | hk <;> omega
  have htop : k' ≤ j.top := by
   rcases hk with hk | ⟨_, _, _, hk⟩
   ·omega
   ·rw [a3] at hk; omega
  have hcl : c'.toList.length = j.off + j.top := by simpa using a6
  let c2 : List Value := (c'.toList.drop (j.off + n)).take (k' - n)
  have hc2 : c2.length = k' - n := by simp only [c2, List.length_take, List.length_drop, hcl]; omega
  have hgd : ∀ v ∈ c2, gnd v := fun v hv => (a8 rfl).2 rfl v (by rw [h4]; exact List.mem_of_mem_take hv)
  have hlt := AHeap.get_lt h3
  have hdr : HR ng σ (H.set b .dead).get w := HR.upd (o2 := .dead) hr hj h3 rfl (fun _ _ => rfl) rfl (fun x hx => AHeap.get_set_other H hx hlt _) (AHeap.get_set_same h3 _) trivial
  have hfresh := hr.none_of_ge (Nat.le_refl H.n)
  let nb : BI := ⟨j.c, j.off, k', j.top, 1, false⟩
  have hle : σ.le (σ.up H.n nb) := Sg.le_up _ hfresh
  have hvl : ∀ {l : List Value}, (∀ v ∈ l, gnd v) → VL σ l l := by
   intro l
   induction l with
   | nil => intro _; exact .nil
   | cons x l ih => intro h; exact .cons ((h x (by simp)).1.mono (fun _ _ h => by cases h)) (ih (fun v hv => h v (by simp [hv])))
  have hor : OR σ w nb (.cells true false 1 (c ++ c2) e) := by
   refine ⟨?_, rfl, rfl, ?_, ?_, c', fz, a5, a6, ?_, fun _ => ⟨(a8 rfl).1, fun h => by cases h⟩⟩
   ·show k' = _; rw [List.length_append, hc2, h4]; omega
   ·show _ ≤ j.top; rw [List.length_append, hc2, h4]; omega
   ·intro v hv
    rcases List.mem_append.1 hv with hv | hv
    ·exact a9 v hv
    ·exact (hgd v hv).2
   ·have key : (c'.toList.drop nb.off).take (c ++ c2).length = (c'.toList.drop j.off).take c.length ++ c2 := by
     show (c'.toList.drop j.off).take (c ++ c2).length = _
     rw [List.length_append, List.take_add, List.drop_drop, hc2, h4]
    rw [key]
    exact a7.append (hvl hgd)
  have hne0 : ∀ x, x ≠ H.n → ((H.set b .dead).alloc (.cells true false 1 (c ++ c2) e)).get x = (H.set b .dead).get x := fun x hx => AHeap.get_alloc_ne _ _ hx
  have hnew : ((H.set b .dead).alloc (.cells true false 1 (c ++ c2) e)).get H.n = some (.cells true false 1 (c ++ c2) e) := AHeap.get_alloc_new (H.set b .dead) _
  have hR : HR ng (σ.up H.n nb) ((H.set b .dead).alloc (.cells true false 1 (c ++ c2) e)).get w := by
   refine HR.add hdr hfresh hne0 hnew (hr.lt b j hj) hor ?_
   intro x jx ox hxs hox hlv
   by_cases hxb : x = b
   ·subst hxb
    rw [AHeap.get_set_same h3] at hox; cases hox
    simp [AO.live, AO.own] at hlv
   ·rw [AHeap.get_set_other H hxb hlt] at hox
    have hlive : ox.live = true := by rcases hlv with ⟨h1, _⟩ | ⟨h1, _⟩; exact h1; exact AO.live_of_own h1
    exact fun he => hr.inj b x j jx _ ox (Ne.symm hxb) hj hxs h3 hox rfl hlive he.symm
  have hE : Ext H.n σ H.get w ((H.set b .dead).alloc (.cells true false 1 (c ++ c2) e)).n (σ.up H.n nb) ((H.set b .dead).alloc (.cells true false 1 (c ++ c2) e)).get w := by
   refine ⟨hle, fun x jx hx hx' => ?_, fun x jx o' hx ho' hown => ?_, fun x jx o' hx ho' hlv => ?_, fun q hq hne => rfl, Nat.le_refl _, by simp [AHeap.set, AHeap.alloc], rfl, rfl, rfl⟩
   ·by_cases hxn : x = H.n
    ·subst hxn
     rw [Sg.up_same] at hx'; cases hx'
     exact ⟨⟨Nat.le_refl _, by simp [AHeap.set, AHeap.alloc]⟩, .inr ⟨b, j, _, hj, h3, rfl, rfl⟩⟩
    ·rw [Sg.up_other σ _ hxn, hx] at hx'; cases hx'
   ·have hxn : x ≠ H.n := fun he => by rw [he, hfresh] at hx; cases hx
    rw [hne0 x hxn] at ho'
    by_cases hxb : x = b
    ·subst hxb
     rw [AHeap.get_set_same h3] at ho'; cases ho'
     simp [AO.own] at hown
    ·rw [AHeap.get_set_other H hxb hlt] at ho'; exact ⟨o', ho', hown⟩
   ·have hxn : x ≠ H.n := fun he => by rw [he, hfresh] at hx; cases hx
    rw [hne0 x hxn] at ho'
    by_cases hxb : x = b
    ·subst hxb
     rw [AHeap.get_set_same h3] at ho'; cases ho'
     simp [AO.live] at hlv
    ·rw [AHeap.get_set_other H hxb hlt] at ho'; exact ⟨o', ho', hlv⟩
  refine ⟨fr.set i (slc H.n 0 n k'), _, σ.up H.n nb, ⟨b, n, k', e, c, c2, h1, h2, h3, h4, by rw [hc2]; omega, fun v hv => (hgd v hv).2, rfl, rfl⟩, ?_, hR, hx.trans hE, hd.ext hE⟩
  refine ⟨he.size, by rw [List.length_set]; exact he.frl, he.tml, ?_, fun i s v h => by simp at h, he.dfr⟩
  intro q s v hs hv
  by_cases hq : i = q
  ·subst hq
   rw [List.getElem?_set_self hif] at hv
   cases hv
   rw [List.getElem?_eq_getElem his] at hs
   cases hs
   refine ⟨_, g1, ?_⟩
   have hv := VR.sl (σ := σ.up H.n nb) (b := H.n) (o := 0) (n := n) (k := k') (k' := k') (i := nb) (Sg.up_same _ _ _) hnk' (.inl rfl)
   exact hv
  ·rw [List.getElem?_set_ne hq] at hv
   obtain ⟨v', p1, p2⟩ := he.frv q s v hs hv
   exact ⟨v', p1, p2.mono hle⟩
theorem WS_sound {F : Fence} (hF : IsW F) {m : Nat} {N : Nat} {sl : List Nat} (hnd : sl.Nodup) : ∀ (c : Code) (ac : ACode), compC P ng N sl c = some ac → (F = Fence.wide ∨ noRF c = true) → ∀ (Q : AQ) (fr : List Value) (H : AHeap), WS P ng ac Q fr H →
  ∀ (σ0 : Sg) (H0 : AHeap) (w0 : World) (σ : Sg) (a : Act) (w : World) (ds : List Deferred), ER σ N sl [] ds fr [] a → HR ng σ H.get w → Ext H0.n σ0 H0.get w0 H.n σ H.get w → DM w0.heap.size σ w ds → c.wpIn F m P (LQ ng N sl σ0 H0 w0 Q) a w := by
 intro c
 induction c with
 | seq x y ihx ihy =>
  intro ac hc hf Q fr H hw σ0 H0 w0 σ a w ds he hr hx hd
  simp only [compC] at hc
  split at hc
  ·rename_i ax ay h1 h2
   simp only [Option.some.injEq] at hc; subst hc
   refine wpIn_seq (wpIn_mono (ihx ax h1 (hf.imp_right (fun h => by simp only [noRF, Bool.and_eq_true] at h; exact h.1)) _ fr H hw σ0 H0 w0 σ a w ds he hr hx hd) ?_)
   intro e a' w' hq
   cases e with
   | normal =>
    obtain ⟨fr', H', σ', ds', k1, k2, k3, k5, k4⟩ := hq
    have hfy := hf.imp_right (fun h => by simp only [noRF, Bool.and_eq_true] at h; exact h.2)
    rcases k4 with k4 | ⟨i, k4, k6⟩
    ·exact ihy ay h2 hfy Q fr' H' k4 σ0 H0 w0 σ' a' w' ds' k1 k2 k3 k5
    ·obtain ⟨fr2, H2, σ2, m0, m1, m2, m3, m4⟩ := lay_sound k1 k2 k3 k5 k4
     exact ihy ay h2 hfy Q fr2 H2 (k6 _ _ m0) σ0 H0 w0 σ2 a' w' ds' m1 m2 m3 m4
   | exit id => exact hq
   | ret => exact hq
   | goto l => exact hq
   | panic ch => exact hq
   | outgrown => exact hq
  ·cases hc
 | cond c t e iht ihe =>
  intro ac hc hf Q fr H hw σ0 H0 w0 σ a w ds he hr hx hd
  simp only [compC] at hc
  split at hc
  ·rename_i x y z h1 h2 h3
   simp only [Option.some.injEq] at hc; subst hc
   have hv := compX_sound he hr h1
   simp only [WS] at hw
   split at hw
   ·rename_i b hb
    rw [hb] at hv
    refine wpIn_cond (t := b) hv.bool_inv ?_
    cases b
    ·exact ihe z h3 (hf.imp_right (fun h => by simp only [noRF, Bool.and_eq_true] at h; exact h.2)) Q fr H (by simpa using hw) σ0 H0 w0 σ a w ds he hr hx hd
    ·exact iht y h2 (hf.imp_right (fun h => by simp only [noRF, Bool.and_eq_true] at h; exact h.1)) Q fr H (by simpa using hw) σ0 H0 w0 σ a w ds he hr hx hd
   ·exact hw.elim
  ·cases hc
 | block id c ih =>
  intro ac hc hf Q fr H hw σ0 H0 w0 σ a w ds he hr hx hd
  simp only [compC, Option.map_eq_some_iff] at hc
  obtain ⟨x, h1, rfl⟩ := hc
  refine wpIn_block (wpIn_mono (ih x h1 (hf.imp_right (fun h => by simpa only [noRF] using h)) _ fr H hw σ0 H0 w0 σ a w ds he hr hx hd) ?_)
  intro e a' w' hq
  cases e with
  | exit id' =>
   obtain ⟨fr', H', σ', ds', k1, k2, k3, k5, k4⟩ := hq
   simp only [AQ.inBlock] at k4
   simp only [Exit.inBlock]
   split
   ·rename_i hid; rw [if_pos hid] at k4; exact ⟨fr', H', σ', ds', k1, k2, k3, k5, k4⟩
   ·rename_i hid; rw [if_neg hid] at k4; exact ⟨fr', H', σ', ds', k1, k2, k3, k5, k4⟩
  | normal => exact hq
  | ret => exact hq
  | goto l => exact hq
  | panic ch => exact hq
  | outgrown => exact hq
 | loop c ih =>
  intro ac hc hf Q fr H hw σ0 H0 w0 σ a w ds he hr hx hd
  simp only [compC, Option.map_eq_some_iff] at hc
  obtain ⟨x, h1, rfl⟩ := hc
  simp only [WS] at hw
  obtain ⟨I, n, h0, hstep⟩ := hw
  refine wpIn_loop_ghost (fun k a w => ∃ fr H σ ds, ER σ N sl [] ds fr [] a ∧ HR ng σ H.get w ∧ Ext H0.n σ0 H0.get w0 H.n σ H.get w ∧ DM w0.heap.size σ w ds ∧ I k fr H) n ⟨fr, H, σ, ds, he, hr, hx, hd, h0⟩ ?_
  rintro k a' w' ⟨fr', H', σ', ds', k1, k2, k3, k5, k4⟩
  refine wpIn_mono (ih x h1 (hf.imp_right (fun h => by simpa only [noRF] using h)) _ fr' H' (hstep k fr' H' k4) σ0 H0 w0 σ' a' w' ds' k1 k2 k3 k5) ?_
  intro e a2 w2 hq
  cases e with
  | normal =>
   obtain ⟨fr2, H2, σ2, ds2, m1, m2, m3, m6, k', m4, m5⟩ := hq
   exact ⟨k', m4, fr2, H2, σ2, ds2, m1, m2, m3, m6, m5⟩
  | exit id => exact hq
  | ret => exact hq
  | goto l => exact hq
  | panic ch => exact hq
  | outgrown => exact hq
 | skip => intro ac hc hf Q fr H hw; exact W_sound hF hnd .skip ac hc hf Q fr H (by simp only [compC, Option.some.injEq] at hc; subst hc; exact hw)
 | exit id => intro ac hc hf Q fr H hw; exact W_sound hF hnd (.exit id) ac hc hf Q fr H (by simp only [compC, Option.some.injEq] at hc; subst hc; exact hw)
 | ret => intro ac hc hf Q fr H hw; exact W_sound hF hnd .ret ac hc hf Q fr H (by simp only [compC, Option.some.injEq] at hc; subst hc; exact hw)
 | region id ops draw =>
  intro ac hc hf Q fr H hw
  refine W_sound hF hnd (.region id ops draw) ac hc hf Q fr H ?_
  cases draw
  ·simp only [compC, Option.map_eq_some_iff] at hc
   obtain ⟨al, hal, rfl⟩ := hc
   exact hw
  ·simp only [compC] at hc
   split at hc
   ·simp only [Option.map_eq_some_iff] at hc
    obtain ⟨al, hal, rfl⟩ := hc
    exact hw
   ·cases hc
 | rangeFunc g ps x y ihx ihy =>
  intro ac hc hf Q fr H hw
  refine W_sound hF hnd (.rangeFunc g ps x y) ac hc hf Q fr H ?_
  simp only [compC, Option.map_eq_some_iff] at hc
  obtain ⟨ax, hax, rfl⟩ := hc
  exact hw
 | scope c ih => intro ac hc; simp [compC] at hc
 | label l => intro ac hc; simp [compC] at hc
 | goto l => intro ac hc; simp [compC] at hc
 | refuse w => intro ac hc; simp [compC] at hc
theorem VR.plain {σ : Sg} {v v' : Value} (h : VR σ v v') (hv : plain1 v = true) : v' = v := by
 cases h <;> first | rfl | (simp [plain1] at hv; done) | skip
 all_goals simp [plain1] at hv
 all_goals omega
theorem runLay {f : Nat} {sl : List Nat} {af : AFunc} (hc : compF P ng sl f = some af) {args : List Value} {H : AHeap} {v : Value} (hno : NoOwn H) (hv : plain1 v = true)
  (hargs : argsOK P f args.length = true)
  (h : ∀ Q : AQ, (∀ fr H2, resO af.res fr H2 = some v → Q .normal fr H2) → (∀ fr H2, resO af.res fr H2 = some v → Q .ret fr H2) → WS P ng af.body Q (initFr af.sl args) H) : ARun P ng f args H v H := by
 have hargs : ∀ fn, P.funcs[f]? = some fn → args.length ≤ fn.ntmps := fun fn hf => by unfold argsOK at hargs; rw [hf] at hargs; simpa using hargs
 have h := h (fun e fr H2 => match e with | .normal | .ret => resO af.res fr H2 = some v | _ => False) (fun _ _ h => h) (fun _ _ h => h)
 unfold compF at hc
 split at hc
 ·cases hc
 ·rename_i fn hfn
  split at hc
  ·cases hc
  ·rename_i c hb
   split at hc
   ·rename_i hcond
    simp only [Bool.and_eq_true, Bool.not_eq_true'] at hcond
    obtain ⟨⟨h1, h2⟩, h3⟩ := hcond
    split at hc
    ·rename_i b r hcb hcr
     simp only [Option.some.injEq] at hc; subst hc
     have hle := hargs fn hfn
     refine ⟨⟨fn, hfn⟩, Nat.le_refl _, ?_⟩
     intro σ w args' hr hva
     have hl := hva.length
     refine .body ⟨fn, hfn, by simp [hb], h3⟩ ?_
     refine (callsIn_wide (n := 0)).1 (callsIn_of_wp_marks hfn hb trivial ?_)
     have he : ER σ fn.ntmps sl [] [] (initFr sl args) [] { tmps := args'.toArray ++ Array.replicate (fn.ntmps - args'.toArray.size) undef, defers := [] } := by
      refine ⟨by simp; omega, by simp [initFr], rfl, ?_, fun i s v h => by simp at h, rfl⟩
      intro i s u hs hu
      simp only [initFr, List.getElem?_map, hs, Option.map_some, Option.some.injEq] at hu
      subst hu
      have hsN : s < fn.ntmps := by simpa using List.all_eq_true.1 h2 s (List.mem_of_getElem? hs)
      by_cases hsa : s < args.length
      ·obtain ⟨v', k1, k2⟩ := hva.get (i := s) (v := args[s]) (List.getElem?_eq_getElem hsa)
       refine ⟨v', ?_, by simpa [List.getD, List.getElem?_eq_getElem hsa] using k2⟩
       rw [Array.getElem?_append_left (by simp; omega)]
       simpa using k1
      ·refine ⟨undef, ?_, ?_⟩
       ·rw [Array.getElem?_append_right (by simp; omega)]
        rw [Array.getElem?_replicate, if_pos (by simp; omega)]
       ·rw [List.getD, List.getElem?_eq_none (by omega)]
        exact .tuple _ _ rfl (fun i a => by simp at a)
     refine wpIn_mono (WS_sound .wide (nodupB_spec h1) c b hcb (.inl rfl) _ _ H h σ H w σ _ w [] he hr (Ext.refl _ _ _ _) trivial) ?_
     intro e a' w' hq
     have last : ∀ fr H2 σ' ds0, ER σ' fn.ntmps sl [] ds0 fr [] a' → resO r fr H2 = some v → ∀ (ds : List Deferred) (w' : World), HR ng σ' H2.get w' → Ext H.n σ H.get w H2.n σ' H2.get w' → DM w.heap.size σ' w' ds →
       LeavesInM Fence.wide 0 P fn a'.tmps (fun e w' => ∃ v' σ', e = .returned v' ∧ HR ng σ' H.get w' ∧ Ext H.n σ H.get w H.n σ' H.get w' ∧ VR σ' v v') ds .returning w' := by
      rintro fr H2 σ' ds0 k1 hres ds
      induction ds with
      | nil =>
       intro w' k2 k3 _
       simp only [resO, Option.map_eq_some_iff] at hres
       obtain ⟨us, hus, hvu⟩ := hres
       obtain ⟨vs, m1, m2⟩ := compRes_sound k1 (P := P) (w := w') k2 fn.results.toList r hcr us hus
       have hrun : (results fn a'.tmps).run P w' = .ok (if h : vs.length = 1 then vs[0] else .tuple vs.toArray) w' := by
        unfold results
        rw [Array.mapM_eq_mapM_toList]
        simp only [Sem.run_bind, Sem.run_map]
        refine (congrArg (fun r => Result.andThen (Result.andThen r _) _) m1).trans ?_
        simp only [Result.andThen_ok, Sem.run_pure]
        by_cases h1 : vs.length = 1 <;> simp [h1]
       have hk : ∀ k, k < w.heap.size → w'.heap[k]? = w.heap[k]? := fun k hk => k3.keep k hk (fun b i o hb ho hw => by rw [hno b o ho] at hw; cases hw)
       refine ⟨_, hrun, v, σ, ?_, hr.other k3.size (fun b i hb => hk _ (hr.lt b i hb)), ⟨Sg.le.refl σ, (fun b i hb hb' => by rw [hb] at hb'; cases hb'), fun _ _ o' _ g hw => ⟨o', g, hw⟩, fun _ _ o' _ g hw => ⟨o', g, hw⟩, fun k hlt _ => hk k hlt, k3.size, Nat.le_refl _, k3.os, k3.tape, k3.output⟩, plain1_VR hv⟩
       have hvr : VR σ' v (if h : vs.length = 1 then vs[0] else .tuple vs.toArray) := by
        have ml := m2.length
        rw [← hvu]
        unfold tupV
        split
        ·rename_i u
         match vs, m2 with
         | [u], .cons hu .nil => simpa using hu
        ·rename_i hne
         have h1 : ¬ vs.length = 1 := by
          intro h1
          rw [← ml] at h1
          match us, h1 with
          | [i], _ => exact hne i rfl
         rw [dif_neg h1]
         exact VR.tuple_of m2
       have := VR.plain hvr hv
       rw [this]
      | cons d ds ih =>
       rintro w' k2 k3 ⟨⟨D, rfl, q2, q3, q4, q5⟩, q6⟩
       refine ⟨by simp, .inl ⟨D, w'.putObj D (.deferred none), rfl, run_takeDeferred q3, ?_⟩⟩
       exact ih _ (k2.other (by simp) (fun b i hb => World.putObj_heap_other (q4 b i hb))) (k3.other (by simp) (fun k hk => World.putObj_heap_other (by omega)) rfl rfl rfl) (DM.shut q5 q6)
     cases e with
     | normal => obtain ⟨fr, H2, σ', ds, k1, k2, k3, k5, k4⟩ := hq; rw [← k1.dfr] at k5; exact last fr H2 σ' _ k1 k4 _ _ k2 k3 k5
     | ret => obtain ⟨fr, H2, σ', ds, k1, k2, k3, k5, k4⟩ := hq; rw [← k1.dfr] at k5; exact last fr H2 σ' _ k1 k4 _ _ k2 k3 k5
     | exit id => obtain ⟨fr, H2, σ', ds, k1, k2, k3, k5, k4⟩ := hq; exact k4.elim
     | goto l => exact hq.elim
     | panic ch => exact hq.elim
     | outgrown => exact hq.elim
    ·cases hc
   ·cases hc
theorem WS_pp : ∀ (n : Nat) (c : ACode) (Q : AQ) (fr : List Value) (H : AHeap), cok n c = true → W P ng (cpre n c) (Q.andThen fun fr H => WS P ng (cpost n c) Q fr H ∨ ∃ i, LayOK i fr H ∧ ∀ fr' H', Lay i fr H fr' H' → WS P ng (cpost n c) Q fr' H') fr H → WS P ng c Q fr H
 | 0, c, Q, fr, H, h, _ => by simp [cok] at h
 | 1, c, Q, fr, H, h, hw => by
  cases c <;> simp [cok] at h
  rename_i a b
  exact WS_of_W a hw
 | n + 2, c, Q, fr, H, h, hw => by
  cases c <;> simp [cok] at h
  rename_i a b
  refine WS_of_W a ?_
  simp only [cpre, cpost, W_seq] at hw
  refine W_mono ?_ hw
  intro e fr H h2
  cases e with
  | normal => exact .inl (WS_pp (n + 1) b Q fr H h (W_mono (fun e fr H h3 => by cases e <;> exact h3) h2))
  | exit id => exact h2
  | ret => exact h2
  | goto l => exact h2
  | panic ch => exact h2
  | outgrown => exact h2
theorem WS_part {c : ACode} {Q : AQ} {fr : List Value} {H : AHeap} (n : Nat) (M : List Value → AHeap → Prop) (hok : cok n c = true)
  (h1 : ∀ Q' : AQ, (∀ fr H, M fr H → Q' .normal fr H) → (∀ i fr H, Q (.exit i) fr H → Q' (.exit i) fr H) → (∀ fr H, Q .ret fr H → Q' .ret fr H) → W P ng (cpre n c) Q' fr H)
  (h2 : ∀ fr H, M fr H → WS P ng (cpost n c) Q fr H ∨ ∃ i, LayOK i fr H ∧ ∀ fr' H', Lay i fr H fr' H' → WS P ng (cpost n c) Q fr' H') : WS P ng c Q fr H :=
 WS_pp n c Q fr H hok (h1 _ (fun fr H h => h2 fr H h) (fun _ _ _ h => h) (fun _ _ h => h))
theorem WS_loop2 {c : ACode} {Q : AQ} {fr : List Value} {H : AHeap} (I : Nat → List Value → AHeap → Prop) (n : Nat) (h0 : I n fr H)
  (hs : ∀ (Q' : AQ) (k : Nat) (fr : List Value) (H : AHeap), I k fr H → (∀ k' fr H, I k' fr H → k' < k → Q' .normal fr H) → (∀ i fr H, Q (.exit i) fr H → Q' (.exit i) fr H) → (∀ fr H, Q .ret fr H → Q' .ret fr H) → WS P ng c Q' fr H) : WS P ng (.loop c) Q fr H :=
 ⟨I, n, h0, fun k fr H hk => hs _ k fr H hk (fun k' fr H h1 h2 => ⟨k', h2, h1⟩) (fun _ _ _ h => h) (fun _ _ h => h)⟩
theorem WS_seqW {a b : ACode} {Q : AQ} {fr : List Value} {H : AHeap} (h : W P ng a (Q.andThen fun fr H => WS P ng b Q fr H) fr H) : WS P ng (.seq a b) Q fr H := by
 refine WS_of_W a (W_mono ?_ h)
 intro e fr H h
 cases e <;> first | exact .inl h | exact h
theorem WS_seqL {a b : ACode} {Q : AQ} {fr : List Value} {H : AHeap} (h : WS P ng a (Q.andThen fun fr H => WS P ng b Q fr H ∨ ∃ i, LayOK i fr H ∧ ∀ fr' H', Lay i fr H fr' H' → WS P ng b Q fr' H') fr H) : WS P ng (.seq a b) Q fr H := h
theorem WS_block {id : Nat} {c : ACode} {Q : AQ} {fr : List Value} {H : AHeap} (h : WS P ng c (Q.inBlock id) fr H) : WS P ng (.block id c) Q fr H := h
end Go.AM

set_option maxRecDepth 100000
namespace Go.AM.R7
def Z78 : List Value := [(.int .u8 0), (.int .i64 0), (.int .i64 0), (.int .i64 0), (.int .i64 0), (.int .u64 0), (.int .u64 0), (.int .u64 0)] ++ List.replicate 64 (.int .u8 0) ++ [(.int .u32 0), (.int .u64 0), (.int .u64 0), (.int .u64 0), (.int .u32 0), (.slice none 0 0)]
def Z70 : List Value := [(.int .i64 0), (.int .i64 0), (.int .u64 0), (.int .u64 0), (.int .u64 0)] ++ List.replicate 64 (.int .u8 0) ++ [(.int .u32 0)]
def Z68 : List Value := [(.int .u64 0), (.int .u64 0), (.int .u64 0)] ++ List.replicate 64 (.int .u8 0) ++ [(.int .u32 0)]
def Z149 : List Value := [(.int .u8 0), (.int .i64 0), (.int .i64 0), (.int .u64 0), (.int .u64 0), (.int .u64 0)] ++ List.replicate 64 (.int .u8 0) ++ [(.int .u32 0), (.int .u8 0), (.int .i64 0), (.int .i64 0), (.int .i64 0), (.int .i64 0), (.int .u64 0), (.int .u64 0), (.int .u64 0)] ++ List.replicate 64 (.int .u8 0) ++ [(.int .u32 0), (.int .u64 0), (.int .u64 0), (.int .u64 0), (.int .u32 0), (.slice none 0 0)]
def Z298 : List Value := (List.replicate 2 Z149).flatten
def Z2533 : List Value := (List.replicate 17 Z149).flatten
def Z70b : List Value := [(.int .u8 0), (.int .u8 0), (.int .u64 0), (.int .u64 0), (.int .u64 0)] ++ List.replicate 64 (.int .u8 0) ++ [(.int .u32 0)]
def Z700 : List Value := (List.replicate 10 Z70b).flatten
def f7 : AFunc := ⟨[0, 1, 2, 4, 6, 8, 9, 11, 12, 13, 14, 15, 16, 17, 18, 19, 20, 21, 22, 23, 24, 84, 130, 132, 166, 170, 192, 202, 219],
 .seq (.reg [
 ⟨.mov (.c (.bool false)), .fr 0, none⟩]) <|
 .seq (.reg [
 ⟨.mov (.c (.pointer none)), .fr 1, none⟩]) <|
 .seq (.reg [
 ⟨.mov (.c (.pointer none)), .fr 2, none⟩]) <|
 .seq (.reg [
 ⟨.mov (.fr 1), .tm, none⟩,
 ⟨.callf 16 [(.tm 0)], .tm, none⟩,
 ⟨.mov (.tm 0), .tm, none⟩,
 ⟨.extract (.tm 0) 0, .tm, none⟩,
 ⟨.extract (.tm 1) 1, .tm, none⟩,
 ⟨.new 41 78 Z78, .tm, none⟩,
 ⟨.storen 78 (.tm 0) (.tm 2), .no, none⟩,
 ⟨.mov (.tm 1), .fr 3, none⟩]) <|
 .seq (.reg [
 ⟨.mov (.fr 1), .tm, none⟩,
 ⟨.callf 29 [(.tm 0)], .tm, none⟩,
 ⟨.mov (.tm 0), .tm, none⟩,
 ⟨.extract (.tm 0) 0, .tm, none⟩,
 ⟨.extract (.tm 1) 1, .tm, none⟩,
 ⟨.new 54 70 Z70, .tm, none⟩,
 ⟨.storen 70 (.tm 0) (.tm 2), .no, none⟩,
 ⟨.mov (.tm 1), .fr 4, none⟩]) <|
 .seq (.reg [
 ⟨.mov (.fr 2), .tm, none⟩,
 ⟨.build Z78 [], .tm, none⟩,
 ⟨.callf 17 [(.tm 1), (.tm 0)], .tm, none⟩,
 ⟨.mov (.tm 0), .tm, none⟩,
 ⟨.extract (.tm 0) 0, .tm, none⟩,
 ⟨.extract (.tm 1) 1, .tm, none⟩,
 ⟨.extract (.tm 2) 2, .tm, none⟩,
 ⟨.new 41 78 Z78, .tm, none⟩,
 ⟨.storen 78 (.tm 0) (.tm 3), .no, none⟩,
 ⟨.mov (.tm 2), .fr 5, none⟩,
 ⟨.mov (.tm 1), .fr 6, none⟩]) <|
 .seq (.reg [
 ⟨.mov (.fr 2), .tm, none⟩,
 ⟨.callf 20 [(.tm 0)], .tm, none⟩,
 ⟨.mov (.tm 0), .tm, none⟩,
 ⟨.extract (.tm 0) 0, .tm, none⟩,
 ⟨.extract (.tm 1) 1, .tm, none⟩,
 ⟨.new 54 70 Z70, .tm, none⟩,
 ⟨.storen 70 (.tm 0) (.tm 2), .no, none⟩,
 ⟨.mov (.tm 1), .fr 7, none⟩]) <|
 .seq (.reg [
 ⟨.mov (.fr 1), .tm, none⟩,
 ⟨.build Z70 [], .tm, none⟩,
 ⟨.callf 15 [(.tm 1), (.tm 0)], .tm, none⟩,
 ⟨.bin .eql (.tm 0) (.c (.int .i64 1)), .tm, none⟩,
 ⟨.mov (.tm 0), .tm, none⟩,
 ⟨.mov (.fr 3), .tm, some ((.tm 0), true)⟩,
 ⟨.un .not (.tm 0), .tm, some ((.tm 1), true)⟩,
 ⟨.pick (.tm 2) (.tm 0) (.c (.bool false)), .tm, none⟩,
 ⟨.mov (.tm 0), .tm, none⟩,
 ⟨.mov (.fr 1), .tm, some ((.tm 0), true)⟩,
 ⟨.build Z78 [], .tm, some ((.tm 1), true)⟩,
 ⟨.callf 19 [(.tm 1), (.tm 0)], .tm, some ((.tm 2), true)⟩,
 ⟨.bin .eql (.tm 0) (.c (.int .i64 1)), .tm, some ((.tm 3), true)⟩,
 ⟨.pick (.tm 4) (.tm 0) (.c (.bool false)), .tm, none⟩,
 ⟨.mov (.tm 0), .tm, none⟩,
 ⟨.mov (.fr 4), .tm, some ((.tm 0), true)⟩,
 ⟨.un .not (.tm 0), .tm, some ((.tm 1), true)⟩,
 ⟨.pick (.tm 2) (.tm 0) (.c (.bool false)), .tm, none⟩,
 ⟨.mov (.tm 0), .tm, none⟩,
 ⟨.mov (.fr 2), .tm, some ((.tm 0), true)⟩,
 ⟨.build Z70 [], .tm, some ((.tm 1), true)⟩,
 ⟨.callf 30 [(.tm 1), (.tm 0)], .tm, some ((.tm 2), true)⟩,
 ⟨.bin .eql (.tm 0) (.c (.int .i64 1)), .tm, some ((.tm 3), true)⟩,
 ⟨.pick (.tm 4) (.tm 0) (.c (.bool false)), .tm, none⟩,
 ⟨.mov (.tm 0), .tm, none⟩,
 ⟨.mov (.fr 5), .tm, some ((.tm 0), true)⟩,
 ⟨.un .not (.tm 0), .tm, some ((.tm 1), true)⟩,
 ⟨.pick (.tm 2) (.tm 0) (.c (.bool false)), .tm, none⟩,
 ⟨.mov (.tm 0), .tm, none⟩,
 ⟨.mov (.fr 6), .tm, some ((.tm 0), true)⟩,
 ⟨.bin .eql (.tm 0) (.c (.int .i64 1)), .tm, some ((.tm 1), true)⟩,
 ⟨.pick (.tm 2) (.tm 0) (.c (.bool false)), .tm, none⟩,
 ⟨.mov (.tm 0), .tm, none⟩,
 ⟨.mov (.fr 7), .tm, some ((.tm 0), true)⟩,
 ⟨.un .not (.tm 0), .tm, some ((.tm 1), true)⟩,
 ⟨.pick (.tm 2) (.tm 0) (.c (.bool false)), .tm, none⟩,
 ⟨.mov (.tm 0), .fr 8, none⟩]) <|
 .seq (.reg [
 ⟨.new 26 68 Z68, .fr 9, none⟩,
 ⟨.new 26 68 Z68, .fr 10, none⟩]) <|
 .seq (.seq (.reg [
 ⟨.mov (.c (.int .i64 0)), .fr 11, none⟩]) <|
 .block 0 (.loop (.seq (.seq (.reg [
 ⟨.mov (.fr 11), .tm, none⟩,
 ⟨.bin .lss (.tm 0) (.c (.int .i64 64)), .fr 21, none⟩]) <|
 .cond (.fr 21)
 (.skip)
 (.exit 0)) <|
 .seq (.block 1 (.reg [
 ⟨.mov (.fr 11), .tm, none⟩,
 ⟨.mov (.fr 11), .tm, none⟩,
 ⟨.bin .add (.tm 0) (.c (.int .i64 1)), .tm, none⟩,
 ⟨.i2i .u8 (.tm 0), .tm, none⟩,
 ⟨.faddr 3 (.fr 9), .tm, none⟩,
 ⟨.iaddrp 1 64 (.tm 0) (.tm 4), .tm, none⟩,
 ⟨.store1 (.tm 0) (.tm 2), .no, none⟩])) <|
 .reg [
 ⟨.mov (.fr 11), .tm, none⟩,
 ⟨.bin .add (.tm 0) (.c (.int .i64 1)), .tm, none⟩,
 ⟨.mov (.tm 0), .fr 11, none⟩]))) <|
 .seq (.reg [
 ⟨.faddr 3 (.fr 10), .tm, none⟩,
 ⟨.iaddrp 1 64 (.tm 0) (.c (.int .i64 5)), .tm, none⟩,
 ⟨.store1 (.tm 0) (.c (.int .u8 9)), .no, none⟩]) <|
 .seq (.seq (.reg [
 ⟨.loadn 68 (.fr 9), .tm, none⟩,
 ⟨.build Z68 [], .tm, none⟩,
 ⟨.build [(.int .i64 0), (.int .u8 0)] [(0, 1, (.c (.int .i64 0))), (1, 1, (.c (.int .u8 1)))], .tm, none⟩,
 ⟨.build [(.int .i64 0), (.int .u8 0)] [(0, 1, (.c (.int .i64 63))), (1, 1, (.c (.int .u8 2)))], .tm, none⟩,
 ⟨.bslice 90 2 2 [(.int .i64 0), (.int .u8 0), (.int .i64 0), (.int .u8 0)] [(0, 2, (.tm 1)), (2, 2, (.tm 0))], .tm, none⟩,
 ⟨.build [(.int .u64 0), (.int .u64 0), (.int .u64 0), (.int .u32 0), (.slice none 0 0)] [(4, 1, (.tm 0))], .tm, none⟩,
 ⟨.callf 3 [(.tm 5), (.tm 4), (.tm 0)], .tm, none⟩,
 ⟨.un .not (.tm 0), .tm, none⟩,
 ⟨.mov (.tm 0), .tm, none⟩,
 ⟨.loadn 68 (.fr 10), .tm, some ((.tm 0), false)⟩,
 ⟨.loadn 68 (.fr 9), .tm, some ((.tm 1), false)⟩,
 ⟨.build [(.int .i64 0), (.int .u8 0)] [(0, 1, (.c (.int .i64 1))), (1, 1, (.c (.int .u8 1)))], .tm, some ((.tm 2), false)⟩,
 ⟨.build [(.int .i64 0), (.int .u8 0)] [(0, 1, (.c (.int .i64 1))), (1, 1, (.c (.int .u8 2)))], .tm, some ((.tm 3), false)⟩,
 ⟨.bslice 90 2 2 [(.int .i64 0), (.int .u8 0), (.int .i64 0), (.int .u8 0)] [(0, 2, (.tm 1)), (2, 2, (.tm 0))], .tm, some ((.tm 4), false)⟩,
 ⟨.build [(.int .u64 0), (.int .u64 0), (.int .u64 0), (.int .u32 0), (.slice none 0 0)] [(4, 1, (.tm 0))], .tm, some ((.tm 5), false)⟩,
 ⟨.callf 3 [(.tm 5), (.tm 4), (.tm 0)], .tm, some ((.tm 6), false)⟩,
 ⟨.un .not (.tm 0), .tm, some ((.tm 7), false)⟩,
 ⟨.pick (.tm 8) (.c (.bool true)) (.tm 0), .tm, none⟩,
 ⟨.mov (.tm 0), .tm, none⟩,
 ⟨.loadn 68 (.fr 10), .tm, some ((.tm 0), false)⟩,
 ⟨.loadn 68 (.fr 10), .tm, some ((.tm 1), false)⟩,
 ⟨.build [(.int .i64 0), (.int .u8 0)] [(0, 1, (.c (.int .i64 64))), (1, 1, (.c (.int .u8 1)))], .tm, some ((.tm 2), false)⟩,
 ⟨.bslice 90 2 1 [(.int .i64 0), (.int .u8 0)] [(0, 2, (.tm 0))], .tm, some ((.tm 3), false)⟩,
 ⟨.build [(.int .u64 0), (.int .u64 0), (.int .u64 0), (.int .u32 0), (.slice none 0 0)] [(4, 1, (.tm 0))], .tm, some ((.tm 4), false)⟩,
 ⟨.callf 3 [(.tm 4), (.tm 3), (.tm 0)], .tm, some ((.tm 5), false)⟩,
 ⟨.un .not (.tm 0), .tm, some ((.tm 6), false)⟩,
 ⟨.pick (.tm 7) (.c (.bool true)) (.tm 0), .tm, none⟩,
 ⟨.mov (.tm 0), .tm, none⟩,
 ⟨.loadn 68 (.fr 10), .tm, some ((.tm 0), false)⟩,
 ⟨.loadn 68 (.fr 10), .tm, some ((.tm 1), false)⟩,
 ⟨.build [(.int .i64 0), (.int .u8 0)] [(0, 1, (.c (.int .i64 (-1)))), (1, 1, (.c (.int .u8 1)))], .tm, some ((.tm 2), false)⟩,
 ⟨.bslice 90 2 1 [(.int .i64 0), (.int .u8 0)] [(0, 2, (.tm 0))], .tm, some ((.tm 3), false)⟩,
 ⟨.build [(.int .u64 0), (.int .u64 0), (.int .u64 0), (.int .u32 0), (.slice none 0 0)] [(4, 1, (.tm 0))], .tm, some ((.tm 4), false)⟩,
 ⟨.callf 3 [(.tm 4), (.tm 3), (.tm 0)], .tm, some ((.tm 5), false)⟩,
 ⟨.un .not (.tm 0), .tm, some ((.tm 6), false)⟩,
 ⟨.pick (.tm 7) (.c (.bool true)) (.tm 0), .fr 22, none⟩]) <|
 .cond (.fr 22)
 (.seq (.reg [
 ⟨.mov (.c (.bool false)), .fr 0, none⟩]) <|
 .ret)
 (.skip)) <|
 .seq (.seq (.reg [
 ⟨.mov (.c (.int .u8 0)), .fr 12, none⟩]) <|
 .block 2 (.loop (.seq (.seq (.reg [
 ⟨.mov (.fr 12), .tm, none⟩,
 ⟨.bin .lss (.tm 0) (.c (.int .u8 6)), .fr 23, none⟩]) <|
 .cond (.fr 23)
 (.skip)
 (.exit 2)) <|
 .seq (.block 3 (.seq (.dreg [
 (⟨.mov (.fr 12), .tm, none⟩, []),
 (⟨.loadn 68 (.fr 10), .tm, none⟩, []),
 (⟨.loadn 68 (.fr 10), .tm, none⟩, []),
 (⟨.loadn 68 (.fr 9), .tm, none⟩, []),
 (⟨.callf 9 [(.tm 1), (.tm 0)], .tm, none⟩, [1]),
 (⟨.build Z78 [(0, 1, (.tm 4)), (1, 1, (.c (.int .i64 1))), (2, 1, (.c (.int .i64 1099511627776))), (5, 68, (.tm 3)), (73, 5, (.tm 0))], .tm, none⟩, []),
 (⟨.new 41 78 Z78, .fr 13, none⟩, []),
 (⟨.storen 78 (.fr 13) (.tm 0), .no, none⟩, [])]) <|
 .seq (.reg [
 ⟨.loadn 78 (.fr 13), .tm, none⟩,
 ⟨.new 41 78 Z78, .fr 14, none⟩,
 ⟨.storen 78 (.fr 14) (.tm 0), .no, none⟩]) <|
 .seq (.reg [
 ⟨.faddr 4 (.fr 14), .tm, none⟩,
 ⟨.store1 (.tm 0) (.c (.int .i64 (-1))), .no, none⟩]) <|
 .seq (.reg [
 ⟨.loadn 78 (.fr 13), .tm, none⟩,
 ⟨.new 41 78 Z78, .fr 15, none⟩,
 ⟨.storen 78 (.fr 15) (.tm 0), .no, none⟩]) <|
 .seq (.reg [
 ⟨.faddr 4 (.fr 15), .tm, none⟩,
 ⟨.store1 (.tm 0) (.c (.int .i64 3)), .no, none⟩,
 ⟨.faddr 3 (.fr 15), .tm, none⟩,
 ⟨.store1 (.tm 0) (.c (.int .i64 1)), .no, none⟩]) <|
 .seq (.reg [
 ⟨.loadn 78 (.fr 13), .tm, none⟩,
 ⟨.callf 27 [(.tm 0)], .tm, none⟩,
 ⟨.mov (.tm 0), .fr 16, none⟩]) <|
 .seq (.seq (.dreg [
 (⟨.loadn 78 (.fr 13), .tm, none⟩, []),
 (⟨.mov (.fr 16), .tm, none⟩, []),
 (⟨.callf 6 [(.tm 1), (.tm 0)], .tm, none⟩, []),
 (⟨.un .not (.tm 0), .tm, none⟩, []),
 (⟨.mov (.tm 0), .tm, none⟩, []),
 (⟨.loadn 78 (.fr 14), .tm, some ((.tm 0), false)⟩, []),
 (⟨.loadn 78 (.fr 15), .tm, some ((.tm 1), false)⟩, []),
 (⟨.callf 27 [(.tm 0)], .tm, some ((.tm 2), false)⟩, [5]),
 (⟨.callf 6 [(.tm 2), (.tm 0)], .tm, some ((.tm 3), false)⟩, []),
 (⟨.un .not (.tm 0), .tm, some ((.tm 4), false)⟩, []),
 (⟨.pick (.tm 5) (.c (.bool true)) (.tm 0), .tm, none⟩, []),
 (⟨.mov (.tm 0), .tm, none⟩, []),
 (⟨.loadn 78 (.fr 15), .tm, some ((.tm 0), false)⟩, []),
 (⟨.mov (.fr 16), .tm, some ((.tm 1), false)⟩, []),
 (⟨.bslice 5 1 1 [(.int .u8 0)] [(0, 1, (.c (.int .u8 0)))], .tm, some ((.tm 2), false)⟩, []),
 (⟨.app 5 1 1 (.tm 1) (.tm 0), .tm, some ((.tm 3), false)⟩, [12]),
 (⟨.callf 6 [(.tm 3), (.tm 0)], .tm, some ((.tm 4), false)⟩, []),
 (⟨.un .not (.tm 0), .tm, some ((.tm 5), false)⟩, []),
 (⟨.pick (.tm 6) (.c (.bool true)) (.tm 0), .fr 24, none⟩, [])]) <|
 .cond (.fr 24)
 (.seq (.reg [
 ⟨.mov (.c (.bool false)), .fr 0, none⟩]) <|
 .ret)
 (.skip)) <|
 .seq (.reg [
 ⟨.mov (.c (.int .i64 0)), .fr 17, none⟩]) <|
 .block 4 (.loop (.seq (.seq (.reg [
 ⟨.mov (.fr 17), .tm, none⟩,
 ⟨.mov (.fr 16), .tm, none⟩,
 ⟨.len false (.tm 0), .tm, none⟩,
 ⟨.bin .lss (.tm 2) (.tm 0), .fr 25, none⟩]) <|
 .cond (.fr 25)
 (.skip)
 (.exit 4)) <|
 .seq (.block 5 (.seq (.reg [
 ⟨.mov (.fr 16), .tm, none⟩,
 ⟨.mov (.fr 17), .tm, none⟩,
 ⟨.mov (.fr 16), .tm, none⟩,
 ⟨.mov (.fr 17), .tm, none⟩,
 ⟨.iaddr 1 (.tm 1) (.tm 0), .tm, none⟩,
 ⟨.load1 (.tm 0), .tm, none⟩,
 ⟨.bin .xor (.tm 0) (.c (.int .u8 1)), .tm, none⟩,
 ⟨.iaddr 1 (.tm 6) (.tm 5), .tm, none⟩,
 ⟨.store1 (.tm 0) (.tm 1), .no, none⟩]) <|
 .seq (.seq (.dreg [
 (⟨.loadn 78 (.fr 13), .tm, none⟩, []),
 (⟨.mov (.fr 16), .tm, none⟩, []),
 (⟨.callf 6 [(.tm 1), (.tm 0)], .tm, none⟩, []),
 (⟨.un .not (.tm 0), .tm, none⟩, []),
 (⟨.mov (.tm 0), .tm, none⟩, []),
 (⟨.loadn 78 (.fr 13), .tm, some ((.tm 0), false)⟩, []),
 (⟨.mov (.fr 16), .tm, some ((.tm 1), false)⟩, []),
 (⟨.mov (.fr 17), .tm, some ((.tm 2), false)⟩, []),
 (⟨.slsl 1 (.tm 1) none (some (.tm 0)) none, .tm, some ((.tm 3), false)⟩, []),
 (⟨.callf 6 [(.tm 3), (.tm 0)], .tm, some ((.tm 4), false)⟩, []),
 (⟨.un .not (.tm 0), .tm, some ((.tm 5), false)⟩, []),
 (⟨.pick (.tm 6) (.c (.bool true)) (.tm 0), .fr 26, none⟩, [])]) <|
 .cond (.fr 26)
 (.seq (.reg [
 ⟨.mov (.c (.bool false)), .fr 0, none⟩]) <|
 .ret)
 (.skip)) <|
 .reg [
 ⟨.mov (.fr 16), .tm, none⟩,
 ⟨.mov (.fr 17), .tm, none⟩,
 ⟨.mov (.fr 16), .tm, none⟩,
 ⟨.mov (.fr 17), .tm, none⟩,
 ⟨.iaddr 1 (.tm 1) (.tm 0), .tm, none⟩,
 ⟨.load1 (.tm 0), .tm, none⟩,
 ⟨.bin .xor (.tm 0) (.c (.int .u8 1)), .tm, none⟩,
 ⟨.iaddr 1 (.tm 6) (.tm 5), .tm, none⟩,
 ⟨.store1 (.tm 0) (.tm 1), .no, none⟩])) <|
 .reg [
 ⟨.mov (.fr 17), .tm, none⟩,
 ⟨.bin .add (.tm 0) (.c (.int .i64 1)), .tm, none⟩,
 ⟨.mov (.tm 0), .fr 17, none⟩])))) <|
 .reg [
 ⟨.mov (.fr 12), .tm, none⟩,
 ⟨.bin .add (.tm 0) (.c (.int .u8 1)), .tm, none⟩,
 ⟨.mov (.tm 0), .fr 12, none⟩]))) <|
 .seq (.reg [
 ⟨.mov (.c (.slice none 0 0)), .fr 18, none⟩]) <|
 .seq (.seq (.reg [
 ⟨.mov (.c (.int .i64 0)), .fr 19, none⟩]) <|
 .block 6 (.loop (.seq (.seq (.reg [
 ⟨.mov (.fr 19), .tm, none⟩,
 ⟨.bin .lss (.tm 0) (.c (.int .i64 12)), .fr 27, none⟩]) <|
 .cond (.fr 27)
 (.skip)
 (.exit 6)) <|
 .seq (.block 7 (.reg [
 ⟨.mov (.fr 18), .tm, none⟩,
 ⟨.mov (.fr 19), .tm, none⟩,
 ⟨.loadn 68 (.fr 9), .tm, none⟩,
 ⟨.build Z70 [(0, 1, (.c (.int .i64 1))), (1, 1, (.tm 1)), (2, 68, (.tm 0))], .tm, none⟩,
 ⟨.build Z149 [(0, 1, (.c (.int .u8 0))), (1, 70, (.tm 0))], .tm, none⟩,
 ⟨.mov (.fr 19), .tm, none⟩,
 ⟨.bin .rem (.tm 0) (.c (.int .i64 2)), .tm, none⟩,
 ⟨.bin .mul (.tm 0) (.c (.int .i64 5)), .tm, none⟩,
 ⟨.bin .add (.c (.int .i64 2)) (.tm 0), .tm, none⟩,
 ⟨.i2i .u8 (.tm 0), .tm, none⟩,
 ⟨.build Z149 [(0, 1, (.tm 0))], .tm, none⟩,
 ⟨.bslice 79 149 2 Z298 [(0, 149, (.tm 6)), (149, 149, (.tm 0))], .tm, none⟩,
 ⟨.app 79 149 312 (.tm 11) (.tm 0), .tm, none⟩,
 ⟨.mov (.tm 0), .fr 18, none⟩])) <|
 .reg [
 ⟨.mov (.fr 19), .tm, none⟩,
 ⟨.bin .add (.tm 0) (.c (.int .i64 1)), .tm, none⟩,
 ⟨.mov (.tm 0), .fr 19, none⟩]))) <|
 .seq (.seq (.reg [
 ⟨.mov (.c (.int .i64 0)), .fr 20, none⟩]) <|
 .block 8 (.loop (.seq (.seq (.reg [
 ⟨.mov (.fr 20), .tm, none⟩,
 ⟨.bin .lss (.tm 0) (.c (.int .i64 9)), .fr 28, none⟩]) <|
 .cond (.fr 28)
 (.skip)
 (.exit 8)) <|
 .seq (.block 9 (.reg [
 ⟨.mov (.fr 18), .tm, none⟩,
 ⟨.mov (.fr 20), .tm, none⟩,
 ⟨.loadn 68 (.fr 10), .tm, none⟩,
 ⟨.build Z70 [(0, 1, (.c (.int .i64 2))), (1, 1, (.tm 1)), (2, 68, (.tm 0))], .tm, none⟩,
 ⟨.build Z149 [(0, 1, (.c (.int .u8 0))), (1, 70, (.tm 0))], .tm, none⟩,
 ⟨.bslice 79 149 1 Z149 [(0, 149, (.tm 0))], .tm, none⟩,
 ⟨.app 79 149 312 (.tm 5) (.tm 0), .tm, none⟩,
 ⟨.mov (.tm 0), .fr 18, none⟩])) <|
 .reg [
 ⟨.mov (.fr 20), .tm, none⟩,
 ⟨.bin .add (.tm 0) (.c (.int .i64 1)), .tm, none⟩,
 ⟨.mov (.tm 0), .fr 20, none⟩]))) <|
 .seq (.reg [
 ⟨.mov (.fr 18), .tm, none⟩,
 ⟨.build Z149 [(0, 1, (.c (.int .u8 2)))], .tm, none⟩,
 ⟨.build Z78 [(0, 1, (.c (.int .u8 3))), (1, 1, (.c (.int .i64 2))), (2, 1, (.c (.int .i64 4)))], .tm, none⟩,
 ⟨.build Z149 [(0, 1, (.c (.int .u8 3))), (71, 78, (.tm 0))], .tm, none⟩,
 ⟨.build Z149 [(0, 1, (.c (.int .u8 2)))], .tm, none⟩,
 ⟨.build Z78 [(0, 1, (.c (.int .u8 3))), (1, 1, (.c (.int .i64 2))), (2, 1, (.c (.int .i64 3)))], .tm, none⟩,
 ⟨.build Z149 [(0, 1, (.c (.int .u8 3))), (71, 78, (.tm 0))], .tm, none⟩,
 ⟨.build Z78 [(0, 1, (.c (.int .u8 3))), (1, 1, (.c (.int .i64 2))), (2, 1, (.c (.int .i64 9)))], .tm, none⟩,
 ⟨.build Z149 [(0, 1, (.c (.int .u8 3))), (71, 78, (.tm 0))], .tm, none⟩,
 ⟨.build Z149 [(0, 1, (.c (.int .u8 7)))], .tm, none⟩,
 ⟨.build Z78 [(0, 1, (.c (.int .u8 4)))], .tm, none⟩,
 ⟨.build Z149 [(0, 1, (.c (.int .u8 3))), (71, 78, (.tm 0))], .tm, none⟩,
 ⟨.build Z149 [(0, 1, (.c (.int .u8 7)))], .tm, none⟩,
 ⟨.build Z70 [(0, 1, (.c (.int .i64 1))), (1, 1, (.c (.int .i64 99)))], .tm, none⟩,
 ⟨.build Z149 [(0, 1, (.c (.int .u8 0))), (1, 70, (.tm 0))], .tm, none⟩,
 ⟨.build Z70 [(0, 1, (.c (.int .i64 3))), (1, 1, (.c (.int .i64 (-1))))], .tm, none⟩,
 ⟨.build Z149 [(0, 1, (.c (.int .u8 0))), (1, 70, (.tm 0))], .tm, none⟩,
 ⟨.build Z70 [(0, 1, (.c (.int .i64 9))), (1, 1, (.c (.int .i64 9)))], .tm, none⟩,
 ⟨.build Z149 [(0, 1, (.c (.int .u8 6))), (1, 70, (.tm 0))], .tm, none⟩,
 ⟨.build Z149 [(0, 1, (.c (.int .u8 7)))], .tm, none⟩,
 ⟨.build Z70 [(0, 1, (.c (.int .i64 (-9))))], .tm, none⟩,
 ⟨.build Z149 [(0, 1, (.c (.int .u8 6))), (1, 70, (.tm 0))], .tm, none⟩,
 ⟨.build Z78 [(0, 1, (.c (.int .u8 3)))], .tm, none⟩,
 ⟨.build Z149 [(0, 1, (.c (.int .u8 4))), (71, 78, (.tm 0))], .tm, none⟩,
 ⟨.build Z78 [(0, 1, (.c (.int .u8 1)))], .tm, none⟩,
 ⟨.build Z149 [(0, 1, (.c (.int .u8 3))), (71, 78, (.tm 0))], .tm, none⟩,
 ⟨.loadn 68 (.fr 10), .tm, none⟩,
 ⟨.loadn 68 (.fr 9), .tm, none⟩,
 ⟨.callf 9 [(.tm 1), (.tm 0)], .tm, none⟩,
 ⟨.build Z78 [(0, 1, (.c (.int .u8 2))), (1, 1, (.c (.int .i64 9))), (2, 1, (.c (.int .i64 10))), (3, 1, (.c (.int .i64 9))), (4, 1, (.c (.int .i64 9))), (73, 5, (.tm 0))], .tm, none⟩,
 ⟨.build Z149 [(0, 1, (.c (.int .u8 5))), (71, 78, (.tm 0))], .tm, none⟩,
 ⟨.build Z78 [(0, 1, (.c (.int .u8 2))), (1, 1, (.c (.int .i64 9))), (2, 1, (.c (.int .i64 12))), (3, 1, (.c (.int .i64 9))), (4, 1, (.c (.int .i64 9)))], .tm, none⟩,
 ⟨.build Z149 [(0, 1, (.c (.int .u8 5))), (71, 78, (.tm 0))], .tm, none⟩,
 ⟨.bslice 79 149 17 Z2533 [(0, 149, (.tm 31)), (149, 149, (.tm 29)), (298, 149, (.tm 28)), (447, 149, (.tm 26)), (596, 149, (.tm 24)), (745, 149, (.tm 23)), (894, 149, (.tm 21)), (1043, 149, (.tm 20)), (1192, 149, (.tm 18)), (1341, 149, (.tm 16)), (1490, 149, (.tm 14)), (1639, 149, (.tm 13)), (1788, 149, (.tm 11)), (1937, 149, (.tm 9)), (2086, 149, (.tm 7)), (2235, 149, (.tm 2)), (2384, 149, (.tm 0))], .tm, none⟩,
 ⟨.app 79 149 312 (.tm 33) (.tm 0), .tm, none⟩,
 ⟨.mov (.tm 0), .fr 18, none⟩]) <|
 .seq (.reg [
 ⟨.mov (.fr 8), .tm, none⟩,
 ⟨.mov (.tm 0), .tm, none⟩,
 ⟨.mov (.fr 18), .tm, some ((.tm 0), true)⟩,
 ⟨.callf 5 [(.tm 0)], .tm, some ((.tm 1), true)⟩,
 ⟨.pick (.tm 2) (.tm 0) (.c (.bool false)), .tm, none⟩,
 ⟨.mov (.tm 0), .tm, none⟩,
 ⟨.mov (.fr 18), .tm, some ((.tm 0), true)⟩,
 ⟨.slsl 149 (.tm 0) (some (.c (.int .i64 30))) none none, .tm, some ((.tm 1), true)⟩,
 ⟨.callf 5 [(.tm 0)], .tm, some ((.tm 2), true)⟩,
 ⟨.pick (.tm 3) (.tm 0) (.c (.bool false)), .tm, none⟩,
 ⟨.mov (.tm 0), .tm, none⟩,
 ⟨.loadn 68 (.fr 10), .tm, some ((.tm 0), true)⟩,
 ⟨.build Z70b [(0, 1, (.c (.int .u8 0))), (1, 1, (.c (.int .u8 1))), (2, 68, (.tm 0))], .tm, some ((.tm 1), true)⟩,
 ⟨.loadn 68 (.fr 10), .tm, some ((.tm 2), true)⟩,
 ⟨.build Z70b [(0, 1, (.c (.int .u8 2))), (1, 1, (.c (.int .u8 0))), (2, 68, (.tm 0))], .tm, some ((.tm 3), true)⟩,
 ⟨.loadn 68 (.fr 10), .tm, some ((.tm 4), true)⟩,
 ⟨.build Z70b [(0, 1, (.c (.int .u8 4))), (1, 1, (.c (.int .u8 0))), (2, 68, (.tm 0))], .tm, some ((.tm 5), true)⟩,
 ⟨.loadn 68 (.fr 9), .tm, some ((.tm 6), true)⟩,
 ⟨.build Z70b [(0, 1, (.c (.int .u8 0))), (1, 1, (.c (.int .u8 1))), (2, 68, (.tm 0))], .tm, some ((.tm 7), true)⟩,
 ⟨.loadn 68 (.fr 10), .tm, some ((.tm 8), true)⟩,
 ⟨.build Z70b [(0, 1, (.c (.int .u8 2))), (1, 1, (.c (.int .u8 0))), (2, 68, (.tm 0))], .tm, some ((.tm 9), true)⟩,
 ⟨.loadn 68 (.fr 10), .tm, some ((.tm 10), true)⟩,
 ⟨.build Z70b [(0, 1, (.c (.int .u8 5))), (1, 1, (.c (.int .u8 0))), (2, 68, (.tm 0))], .tm, some ((.tm 11), true)⟩,
 ⟨.loadn 68 (.fr 10), .tm, some ((.tm 12), true)⟩,
 ⟨.build Z70b [(0, 1, (.c (.int .u8 0))), (1, 1, (.c (.int .u8 0))), (2, 68, (.tm 0))], .tm, some ((.tm 13), true)⟩,
 ⟨.loadn 68 (.fr 10), .tm, some ((.tm 14), true)⟩,
 ⟨.build Z70b [(0, 1, (.c (.int .u8 2))), (1, 1, (.c (.int .u8 0))), (2, 68, (.tm 0))], .tm, some ((.tm 15), true)⟩,
 ⟨.loadn 68 (.fr 10), .tm, some ((.tm 16), true)⟩,
 ⟨.build Z70b [(0, 1, (.c (.int .u8 3))), (1, 1, (.c (.int .u8 1))), (2, 68, (.tm 0))], .tm, some ((.tm 17), true)⟩,
 ⟨.loadn 68 (.fr 10), .tm, some ((.tm 18), true)⟩,
 ⟨.build Z70b [(0, 1, (.c (.int .u8 3))), (1, 1, (.c (.int .u8 0))), (2, 68, (.tm 0))], .tm, some ((.tm 19), true)⟩,
 ⟨.bslice 56 70 10 Z700 [(0, 70, (.tm 18)), (70, 70, (.tm 16)), (140, 70, (.tm 14)), (210, 70, (.tm 12)), (280, 70, (.tm 10)), (350, 70, (.tm 8)), (420, 70, (.tm 6)), (490, 70, (.tm 4)), (560, 70, (.tm 2)), (630, 70, (.tm 0))], .tm, some ((.tm 20), true)⟩,
 ⟨.callf 4 [(.tm 0)], .tm, some ((.tm 21), true)⟩,
 ⟨.pick (.tm 22) (.tm 0) (.c (.bool false)), .tm, none⟩,
 ⟨.mov (.tm 0), .tm, none⟩,
 ⟨.callf 8 [], .tm, some ((.tm 0), true)⟩,
 ⟨.pick (.tm 1) (.tm 0) (.c (.bool false)), .tm, none⟩,
 ⟨.mov (.tm 0), .fr 0, none⟩]) <|
 .ret, [.t 0]⟩
theorem f7_ok : compF Go.Proofs.Try.prog 0 [0, 1, 2, 4, 6, 8, 9, 11, 12, 13, 14, 15, 16, 17, 18, 19, 20, 21, 22, 23, 24, 84, 130, 132, 166, 170, 192, 202, 219] 7 = some f7 := by kernel_rfl
theorem f7_n : argsOK Go.Proofs.Try.prog 7 0 = true := by kernel_rfl
end Go.AM.R7

namespace Go.AM
namespace Hk
end Hk
theorem BQ.unown {H : AHeap} {v : Value} {l : List UInt8} (h : BQ H v l) : BQ H.unown v l := by
 rcases h with h | h | ⟨b, o, k, own, room, esz, c, e, rfl, h1, h2, h3, h4, h5⟩
 ·exact .inl h
 ·exact .inr (.inl h)
 ·exact .inr (.inr ⟨b, o, k, false, room, esz, c, e, rfl, h1, by rw [AHeap.unown_get, h2]; rfl, h3, h4, h5⟩)
theorem elems_unown (H : AHeap) (esz : Nat) (v : Value) : elemsA H.unown esz v = elemsA H esz v := by
 unfold elemsA
 split
 ·rfl
 ·rename_i b o n k
  rw [AHeap.unown_get]
  cases H.get b with
  | none => rfl
  | some o => cases o <;> rfl
 ·rfl
 ·rfl
theorem Sl.unown {H : AHeap} {esz : Nat} {v : Value} {rows : List (List Value)} (h : Sl H esz v rows) : Sl H.unown esz v rows := ⟨h.sh, h.row, by rw [elems_unown]; exact h.el⟩
end Go.AM

namespace Go.AM.R7
open Nat (reduceAdd reduceEqDiff reduceLT reduceLeDiff reduceMul reduceSub)
open Go.Proofs Go.AM.F Go.AM.Fd Go.AM.Rg
theorem TB.unown {H : AHeap} {v : Value} {l : List (Int × Int)} (h : Rp.TB H v l) : Rp.TB H.unown v l := by
 obtain ⟨a, k, rfl, h1⟩ := h
 refine ⟨a, k, rfl, fun hne => ?_⟩
 obtain ⟨b, own, room, c, e, rfl, h2, h3⟩ := h1 hne
 exact ⟨b, false, room, c, e, rfl, by rw [AHeap.unown_get, h2]; rfl, h3⟩
theorem q6 {H : AHeap} {x : Ms} {u v : Value} {b : List UInt8} (hx : rgM x) (tb : Rp.TB H u x.d.l) (hb : BQ H v b) : ARun Try.prog 0 6 [.agg (cM x u).toArray, v] H (.bool true) H := by
 obtain ⟨w, H', r, rfl⟩ := t6 (H := H.unown) hx (TB.unown tb) hb.unown
 exact r.pure rfl
theorem q3 {H : AHeap} {s t : Rp.S} {d : Rp.D} {v : Value} (hs : Rp.SOK s) (ht : Rp.SOK t) (h : Rp.TB H v d.l) : ARun Try.prog 0 3 [.agg (Rp.SC s).toArray, .agg (Rp.SC t).toArray, .agg (Rp.D5 d.a d.b d.c d.p v).toArray] H (.bool true) H := by
 obtain ⟨w, H', r, rfl⟩ := Rp.t3 (H := H.unown) hs ht (TB.unown h)
 exact r.pure rfl
theorem n16 (H : AHeap) : ∃ v H', ARun Try.prog 0 16 [.pointer none] H v H' ∧ v = .tuple #[.agg Rp.Z78.toArray, .bool false] ∧ Keeps H H' := by
 refine walk2 Rp.f16_ok Rp.f16_n ?_
 intro Q hq1 hq2
 have z : Rp.Z78.all Value.oneCell' = true := rfl
 have l : Rp.Z78.length = 78 := rfl
 have g := AHeap.get_alloc_new H (.cells true false 78 Rp.Z78 41)
 simp (disch := first | assumption | omega) only [Rp.f16, W_block, P3, seval, initFr, clsA, z, l]
 refine hq2 _ _ ⟨_, ?_, rfl, ?_⟩
 ·rw [show ∀ fr K, resO Rp.f16.res fr K = (celln 78 (fr.getD 1 undef) K).map fun c => .tuple #[c, fr.getD 2 undef] from fun fr K => resCT 78 1 2 fr]
  simp (disch := first | assumption | omega) only [W_block, P3, seval, initFr, clsA, g, l]
 ·exact (Keeps.refl H).alloc _
theorem n29 (H : AHeap) : ∃ v H', ARun Try.prog 0 29 [.pointer none] H v H' ∧ v = .tuple #[.agg Rp.Z70.toArray, .bool false] ∧ Keeps H H' := by
 refine walk2 Rp.f29_ok Rp.f29_n ?_
 intro Q hq1 hq2
 have z : Rp.Z70.all Value.oneCell' = true := rfl
 have l : Rp.Z70.length = 70 := rfl
 have g := AHeap.get_alloc_new H (.cells true false 70 Rp.Z70 54)
 simp (disch := first | assumption | omega) only [Rp.f29, W_block, P3, seval, initFr, clsA, z, l]
 refine hq2 _ _ ⟨_, ?_, rfl, ?_⟩
 ·rw [show ∀ fr K, resO Rp.f29.res fr K = (celln 70 (fr.getD 1 undef) K).map fun c => .tuple #[c, fr.getD 2 undef] from fun fr K => resCT 70 1 2 fr]
  simp (disch := first | assumption | omega) only [W_block, P3, seval, initFr, clsA, g, l]
 ·exact (Keeps.refl H).alloc _
theorem n20 (H : AHeap) : ∃ v H', ARun Try.prog 0 20 [.pointer none] H v H' ∧ v = .tuple #[.agg Rp.Z70.toArray, .bool false] ∧ Keeps H H' := by
 refine walk2 Rp.f20_ok Rp.f20_n ?_
 intro Q hq1 hq2
 have z : Rp.Z70.all Value.oneCell' = true := rfl
 have l : Rp.Z70.length = 70 := rfl
 have g := AHeap.get_alloc_new H (.cells true false 70 Rp.Z70 54)
 simp (disch := first | assumption | omega) only [Rp.f20, W_block, P3, seval, initFr, clsA, z, l]
 refine hq2 _ _ ⟨_, ?_, rfl, ?_⟩
 ·rw [show ∀ fr K, resO Rp.f20.res fr K = (celln 70 (fr.getD 1 undef) K).map fun c => .tuple #[c, fr.getD 2 undef] from fun fr K => resCT 70 1 2 fr]
  simp (disch := first | assumption | omega) only [W_block, P3, seval, initFr, clsA, g, l]
 ·exact (Keeps.refl H).alloc _
theorem n17 (H : AHeap) : ∃ v H', ARun Try.prog 0 17 [.pointer none, .agg Rp.Z78.toArray] H v H' ∧ v = .tuple #[.agg Rp.Z78.toArray, .bool false, .int .i64 1] ∧ Keeps H H' := by
 refine walk2 Rp.f17_ok Rp.f17_n ?_
 intro Q hq1 hq2
 have z : Rp.Z78.all Value.oneCell' = true := rfl
 have l : Rp.Z78.length = 78 := rfl
 simp (disch := first | assumption | omega | (simp only [LN] <;> omega) | (simp (disch := first | assumption | omega | (simp only [LN] <;> omega)) only [row_alloc, row_set]; assumption)) only [Rp.f17, W_block, P3, seval, initFr, clsA, z, l]
 refine hq2 _ _ ⟨_, ?_, rfl, ?_⟩
 ·have g := AHeap.get_alloc_new (H.alloc (.cells true false 78 Rp.Z78 41)) (.cells true false 78 Rp.Z78 41)
  exact Rp.resC3 (b := H.n + 1) rfl (Rp.full g l)
 ·exact ((Keeps.refl H).alloc _).alloc _
theorem n15 (H : AHeap) : ∃ v H', ARun Try.prog 0 15 [.pointer none, .agg Rp.Z70.toArray] H v H' ∧ v = .int .i64 1 ∧ Keeps H H' := by
 refine walk2 Rp.f15_ok Rp.f15_n ?_
 intro Q hq1 hq2
 have z : Rp.Z70.all Value.oneCell' = true := rfl
 simp (disch := first | assumption | omega) only [Rp.f15, W_block, P3, seval, initFr, clsA, z]
 exact hq2 _ _ ⟨_, rfl, rfl, (Keeps.refl H).alloc _⟩
theorem n19 (H : AHeap) : ∃ v H', ARun Try.prog 0 19 [.pointer none, .agg Rp.Z78.toArray] H v H' ∧ v = .int .i64 1 ∧ Keeps H H' := by
 refine walk2 Rp.f19_ok Rp.f19_n ?_
 intro Q hq1 hq2
 have z : Rp.Z78.all Value.oneCell' = true := rfl
 simp (disch := first | assumption | omega) only [Rp.f19, W_block, P3, seval, initFr, clsA, z]
 exact hq2 _ _ ⟨_, rfl, rfl, (Keeps.refl H).alloc _⟩
theorem n30 (H : AHeap) : ∃ v H', ARun Try.prog 0 30 [.pointer none, .agg Rp.Z70.toArray] H v H' ∧ v = .int .i64 1 ∧ Keeps H H' := by
 refine walk2 Rp.f30_ok Rp.f30_n ?_
 intro Q hq1 hq2
 have z : Rp.Z70.all Value.oneCell' = true := rfl
 simp (disch := first | assumption | omega) only [Rp.f30, W_block, P3, seval, initFr, clsA, z]
 exact hq2 _ _ ⟨_, rfl, rfl, (Keeps.refl H).alloc _⟩
end Go.AM.R7

namespace Go.AM.R7
open Nat (reduceAdd reduceEqDiff reduceLT reduceLeDiff reduceMul reduceSub)
open Go.Proofs Go.AM.F Go.AM.Fd Go.AM.Rg
def tFull : List UInt8 := (List.range 64).map fun i => UInt8.ofNat (i + 1)
def full : St := ⟨0, 0, 0, tFull, 0⟩
def odd : St := ⟨0, 0, 0, Fd.Z64.set 5 9, 0⟩
def fillT (i : Nat) : St := ⟨0, 0, 0, (List.range 64).map (fun j => if j < i then UInt8.ofNat (j + 1) else 0), 0⟩
theorem fillT_0 : fillT 0 = St0 := rfl
theorem fillT_64 : fillT 64 = full := by kernel_rfl
theorem fillT_len (i : Nat) : (fillT i).t.length = 64 := by simp [fillT]
theorem cSt_set {x : St} (h : x.t.length = 64) {i : Nat} (hi : i < 64) (n : Nat) (hn : n < 256) : (cSt x).set (3 + i) (.int .u8 (n : Nat)) = cSt { x with t := x.t.set i (UInt8.ofNat n) } := by
 have e : (Value.int .u8 (n : Nat)) = .int .u8 ((UInt8.ofNat n).toNat : Nat) := by rw [UInt8.toNat_ofNat', Nat.mod_eq_of_lt (by omega)]
 rw [e]
 simp only [cSt, cellsOf]
 rw [show 3 + i = i + 1 + 1 + 1 by omega]
 simp only [List.set_cons_succ]
 rw [List.set_append_left _ _ (by simp [h]; exact hi), List.map_set]
theorem fillT_set {i : Nat} (hi : i < 64) : (cSt (fillT i)).set (3 + i) (.int .u8 ((i + 1 : Nat) : Int)) = cSt (fillT (i + 1)) := by
 rw [cSt_set (fillT_len i) hi _ (by omega)]
 congr 1
 unfold fillT
 simp only [St.mk.injEq, true_and, and_true]
 apply List.ext_getElem
 ·simp
 ·intro j h1 h2
  simp only [List.length_set, List.length_map, List.length_range] at h1
  rw [List.getElem_set]
  simp only [List.getElem_map, List.getElem_range]
  by_cases hj : i = j
  ·subst hj; simp
  ·rw [if_neg hj]
   by_cases h3 : j < i
   ·rw [if_pos h3, if_pos (by omega)]
   ·rw [if_neg h3, if_neg (by omega)]
theorem odd_set : (cSt St0).set (3 + Int.toNat 5) (.int .u8 9) = cSt odd := rfl
theorem rgFull : rgSt full := ⟨by simp [full, tFull], by decide, by decide, by decide, by decide⟩
theorem rgOdd : rgSt odd := ⟨rfl, by decide, by decide, by decide, by decide⟩
theorem sok {x : St} (h : rgSt x) : Rp.SOK (toS x) := ⟨toS_len h.ht, h.2, h.3, h.4, h.5⟩
theorem q3' {H : AHeap} {x y : St} (hx : rgSt x) (hy : rgSt y) {v : Value} {l : List (Int × Int)} (h : Rp.TB H v l) : ARun Try.prog 0 3 [.agg (cSt x).toArray, .agg (cSt y).toArray, .agg #[.int .u64 0, .int .u64 0, .int .u64 0, .int .u32 0, v]] H (.bool true) H := by
 have := q3 (H := H) (sok hx) (sok hy) (d := ⟨0, 0, 0, 0, l⟩) h
 rw [toS_c, toS_c] at this
 exact this
theorem TB.lit {H : AHeap} {l : List (Int × Int)} {n : Nat} {c : List Value} (hn : n = l.length) (hc : c = Rp.TC l) : Rp.TB (H.alloc (.cells true false 2 c 90)) (slc H.n 0 n n) l := by
 subst hn; subst hc
 exact ⟨some ⟨H.n, 0, none⟩, l.length, rfl, fun _ => ⟨H.n, true, false, _, 90, rfl, AHeap.get_alloc_new _ _, by rw [← Rp.TC_len, List.take_length]⟩⟩
theorem f22 (a c b d : Int) : fillA [.int .i64 0, .int .u8 0, .int .i64 0, .int .u8 0] [(0, 2, .agg #[.int .i64 a, .int .u8 b]), (2, 2, .agg #[.int .i64 c, .int .u8 d])] = some [.int .i64 a, .int .u8 b, .int .i64 c, .int .u8 d] := rfl
theorem f41 (b o n k : Nat) : fillA [.int .u64 0, .int .u64 0, .int .u64 0, .int .u32 0, .slice none 0 0] [(4, 1, slc b o n k)] = some [.int .u64 0, .int .u64 0, .int .u64 0, .int .u32 0, slc b o n k] := rfl
def M12 (fr : List Value) (K : AHeap) : Prop :=
 ∃ (F O : Nat) (e11 e21 e22 e23 e24 e25 e26 e27 e28 : Value), fr = [.bool false, .pointer none, .pointer none, .bool false, .bool false, .bool false, .int .i64 1, .bool false, .bool true, ptr F 0, ptr O 0, e11, undef, undef, undef, undef, undef, undef, undef, undef, undef, e21, e22, e23, e24, e25, e26, e27, e28] ∧
  K.get F = some (.cells true false 68 (cSt full) 26) ∧ K.get O = some (.cells true false 68 (cSt odd) 26) ∧ F ≠ O
set_option maxHeartbeats 2000000 in
theorem p8 (H : AHeap) (Q' : AQ) (h0 : ∀ fr K, fr = [.bool false, .pointer none, .pointer none, .bool false, .bool false, .bool false, .int .i64 1, .bool false, .bool true, undef, undef, undef, undef, undef, undef, undef, undef, undef, undef, undef, undef, undef, undef, undef, undef, undef, undef, undef, undef] → Q' .normal fr K) : W Try.prog 0 (cpre 8 f7.body) Q' (initFr f7.sl []) H := by
 have e78 : Z78 = Rp.Z78 := rfl
 have e70 : Z70 = Rp.Z70 := rfl
 have o78 : Rp.Z78.all Value.oneCell' = true := rfl
 have o70 : Rp.Z70.all Value.oneCell' = true := rfl
 have l78 : Rp.Z78.length = 78 := rfl
 have l70 : Rp.Z70.length = 70 := rfl
 simp (disch := first | assumption | omega) only [f7, cpre, W_block, P3, seval, initFr, clsA]
 refine callK (n16 _) ?_
 rintro _ K1 ⟨rfl, k1⟩
 simp (disch := first | assumption | omega) only [W_block, P3, seval, initFr, clsA, e78, o78, l78]
 refine callK (n29 _) ?_
 rintro _ K2 ⟨rfl, k2⟩
 simp (disch := first | assumption | omega) only [W_block, P3, seval, initFr, clsA, e70, o70, l70]
 refine callK (n17 _) ?_
 rintro _ K3 ⟨rfl, k3⟩
 simp (disch := first | assumption | omega) only [W_block, P3, seval, initFr, clsA, o78, l78]
 refine callK (n20 _) ?_
 rintro _ K4 ⟨rfl, k4⟩
 simp (disch := first | assumption | omega) only [W_block, P3, seval, initFr, clsA, o70, l70]
 refine callK (n15 _) ?_
 rintro _ K5 ⟨rfl, k5⟩
 simp (disch := first | assumption | omega) only [W_block, P3, seval, initFr, clsA]
 refine callK (n19 _) ?_
 rintro _ K6 ⟨rfl, k6⟩
 simp (disch := first | assumption | omega) only [W_block, P3, seval, initFr, clsA]
 refine callK (n30 _) ?_
 rintro _ K7 ⟨rfl, k7⟩
 simp (disch := first | assumption | omega) only [W_block, P3, seval, initFr, clsA]
 exact h0 _ _ rfl
set_option maxHeartbeats 2000000 in
theorem p12 (H : AHeap) (Q' : AQ) (h0 : ∀ fr K, M12 fr K → Q' .normal fr K) : W Try.prog 0 (cpre 4 (cpost 8 f7.body)) Q' [.bool false, .pointer none, .pointer none, .bool false, .bool false, .bool false, .int .i64 1, .bool false, .bool true, undef, undef, undef, undef, undef, undef, undef, undef, undef, undef, undef, undef, undef, undef, undef, undef, undef, undef, undef, undef] H := by
 have e68 : Z68 = cSt St0 := rfl
 have o68 := cSt_one St0
 have l68 : (cSt St0).length = 68 := rfl
 simp (disch := first | assumption | omega) only [f7, cpre, cpost, W_block, P3, seval, initFr, clsA, e68, o68]
 refine W_loop2 (fun q fr K => ∃ (i : Nat) (e21 : Value), i ≤ 64 ∧ q = 64 - i ∧ K.get H.n = some (.cells true false 68 (cSt (fillT i)) 26) ∧ K.get (H.n + 1) = some (.cells true false 68 (cSt St0) 26) ∧ fr = [.bool false, .pointer none, .pointer none, .bool false, .bool false, .bool false, .int .i64 1, .bool false, .bool true, ptr H.n 0, ptr (H.n + 1) 0, .int .i64 i, undef, undef, undef, undef, undef, undef, undef, undef, undef, e21, undef, undef, undef, undef, undef, undef, undef]) 64 ⟨0, _, by omega, rfl, ?_, ?_, rfl⟩ ?_
 ·rw [fillT_0, AHeap.get_alloc_old _ _ (by rw [alloc_n]; omega)]; exact AHeap.get_alloc_new _ _
 ·have := AHeap.get_alloc_new (H.alloc (.cells true false 68 (cSt St0) 26)) (.cells true false 68 (cSt St0) 26); exact this
 rintro Q2 q fr K ⟨i, e21, hi, rfl, g9, g10, rfl⟩ hnx hex hrt
 have n9 := AHeap.get_lt g9
 have n10 := AHeap.get_lt g10
 by_cases hc : i < 64
 ·have w1 : IntKind.i64.wrap ((i : Int) + 1) = ((i + 1 : Nat) : Int) := wrap_succ (by omega)
  have w2 : IntKind.u8.wrap ((i + 1 : Nat) : Int) = ((i + 1 : Nat) : Int) := by rw [wrap_u8]; omega
  have lf := cSt_len (fillT_len i)
  have sf := fillT_set hc
  simp (disch := first | assumption | omega) only [W_block, P3, seval, initFr, clsA, w1, w2, g9, lf, sf]
  refine hnx _ _ _ ⟨i + 1, _, by omega, rfl, AHeap.get_set_same g9 _, ?_, rfl⟩ (by omega)
  rw [AHeap.get_set_other _ (by omega) n9]; exact g10
 ·have hi64 : i = 64 := by omega
  subst hi64
  rw [fillT_64] at g9
  simp (disch := first | assumption | omega) only [W_block, P3, seval, initFr, clsA]
  refine hex _ _ _ ?_
  simp (disch := first | assumption | omega | (simp only [LN] <;> omega) | (simp (disch := first | assumption | omega | (simp only [LN] <;> omega)) only [row_alloc, row_set]; assumption)) only [W_block, P3, ↓reduceIte, reduceAdd, reduceEqDiff, reduceCtorEq, initFr, reduceLT, clsA, reduceLeDiff, reduceMul, reduceSub, reduceIte, g10, l68]
  rw [odd_set]
  have g9b : (K.set (H.n + 1) (.cells true false 68 (cSt odd) 26)).get H.n = some (.cells true false 68 (cSt full) 26) := by rw [AHeap.get_set_other _ (by omega) n10]; exact g9
  have g10b : (K.set (H.n + 1) (.cells true false 68 (cSt odd) 26)).get (H.n + 1) = some (.cells true false 68 (cSt odd) 26) := AHeap.get_set_same g10 _
  obtain ⟨X, hX⟩ : ∃ X, X = K.set (H.n + 1) (.cells true false 68 (cSt odd) 26) := ⟨_, rfl⟩
  rw [← hX] at g9b g10b ⊢
  have lf : (cSt full).length = 68 := rfl
  have lo : (cSt odd).length = 68 := rfl
  have nf := AHeap.get_lt g9b
  have no := AHeap.get_lt g10b
  have t1 := TB.lit (H := X) (l := [(0, 1), (63, 2)]) (n := 2) (c := [.int .i64 0, .int .u8 1, .int .i64 63, .int .u8 2]) rfl rfl
  simp (disch := first | assumption | omega) only [W_block, P3, seval, initFr, clsA, g9, g9b, lf, Rg.fillT, f22, f41]
  refine ⟨_, _, q3' rgFull rgSt0 t1, ?_⟩
  simp (disch := first | assumption | omega) only [W_block, P3, seval, initFr, clsA, g9b, g10b, lf, lo, Rg.fillT, f22, f41]
  obtain ⟨X1, hX1⟩ : ∃ Y, Y = X.alloc (.cells true false 2 [.int .i64 0, .int .u8 1, .int .i64 63, .int .u8 2] 90) := ⟨_, rfl⟩
  rw [← hX1]
  have k1 : Keeps X X1 := by rw [hX1]; exact (Keeps.refl X).alloc _
  have g91 := k1.at_ g9b
  have g101 := k1.at_ g10b
  have t2 := TB.lit (H := X1) (l := [(1, 1), (1, 2)]) (n := 2) (c := [.int .i64 1, .int .u8 1, .int .i64 1, .int .u8 2]) rfl rfl
  refine ⟨_, _, q3' rgOdd rgFull (by rw [hX1] at t2 ⊢; exact t2), ?_⟩
  obtain ⟨X2, hX2⟩ : ∃ Y, Y = X1.alloc (.cells true false 2 [.int .i64 1, .int .u8 1, .int .i64 1, .int .u8 2] 90) := ⟨_, rfl⟩
  have k2 : Keeps X1 X2 := by rw [hX2]; exact (Keeps.refl X1).alloc _
  have g92 := k2.at_ g91
  have g102 := k2.at_ g101
  rw [← hX2]
  have t3 := TB.lit (H := X2) (l := [(64, 1)]) (n := 1) (c := [.int .i64 64, .int .u8 1]) rfl rfl
  simp (disch := first | assumption | omega) only [W_block, P3, seval, initFr, clsA, g92, g102, lf, lo, Rg.fillT, Rg.fillT2, f22, f41]
  refine ⟨_, _, q3' rgOdd rgOdd t3, ?_⟩
  obtain ⟨X3, hX3⟩ : ∃ Y, Y = X2.alloc (.cells true false 2 [.int .i64 64, .int .u8 1] 90) := ⟨_, rfl⟩
  have k3 : Keeps X2 X3 := by rw [hX3]; exact (Keeps.refl X2).alloc _
  have g93 := k3.at_ g92
  have g103 := k3.at_ g102
  rw [← hX3]
  have t4 := TB.lit (H := X3) (l := [(-1, 1)]) (n := 1) (c := [.int .i64 (-1), .int .u8 1]) rfl rfl
  simp (disch := first | assumption | omega) only [W_block, P3, seval, initFr, clsA, g93, g103, lf, lo, Rg.fillT, Rg.fillT2, f22, f41]
  refine ⟨_, _, q3' rgOdd rgOdd t4, ?_⟩
  obtain ⟨X4, hX4⟩ : ∃ Y, Y = X3.alloc (.cells true false 2 [.int .i64 (-1), .int .u8 1] 90) := ⟨_, rfl⟩
  have k4 : Keeps X3 X4 := by rw [hX4]; exact (Keeps.refl X3).alloc _
  rw [← hX4]
  simp (disch := first | assumption | omega) only [W_block, P3, seval, initFr, clsA]
  exact h0 _ _ ⟨H.n, H.n + 1, _, _, _, _, _, _, _, _, _, rfl, k4.at_ g93, k4.at_ g103, by omega⟩
end Go.AM.R7

namespace Go.AM.R7
open Nat (reduceAdd reduceEqDiff reduceLT reduceLeDiff reduceMul reduceSub)
open Go.Proofs Go.AM.F Go.AM.Fd Go.AM.Rg
def sL : ACode → ACode
 | .seq a _ => a
 | c => c
def sR : ACode → ACode
 | .seq _ b => b
 | c => c
def inn : ACode → ACode
 | .block _ c => c
 | .loop c => c
 | c => c
def KB : ACode := inn (sL (sR (inn (inn (sR (sL (cpost 12 f7.body)))))))
def LD : List (Int × Int) := Rp.dp (toS odd).t (toS full).t 64
theorem LDok : (LD.all fun t => decide (0 ≤ t.1) && decide (t.1 < 64) && decide (0 ≤ t.2) && decide (t.2 < 256)) = true := by kernel_rfl
theorem LD_in {t : Int × Int} (h : t ∈ LD) : i64B t.1 ∧ 0 ≤ t.2 ∧ t.2 < 256 := by
 have := List.all_eq_true.1 LDok t h
 simp only [Bool.and_eq_true, decide_eq_true_eq] at this
 exact ⟨⟨by omega, by omega⟩, by omega, by omega⟩
theorem LD_len : LD.length ≤ 64 := Rp.dp_le _ _ 64
def dd : Rp.D := ⟨0, 0, 0, 0, LD⟩
def mk (k : Nat) : Ms := ⟨k, 1, 1099511627776, 0, 0, odd, dd⟩
def nk (k : Nat) : Ms := ⟨k, 1, 1099511627776, 0, -1, odd, dd⟩
def kk (k : Nat) : Ms := ⟨k, 1, 1099511627776, 1, 3, odd, dd⟩
theorem rg_ (k : Nat) (hk : k < 6) (be b : Int) (h1 : i64B be) (h2 : i64B b) : rgM ⟨k, 1, 1099511627776, be, b, odd, dd⟩ :=
 ⟨by show k < 256; omega, (by unfold i64B; decide : i64B 1), (by unfold i64B; decide : i64B 1099511627776), h1, h2, rgOdd, (by decide : 0 < 18446744073709551616), (by decide : 0 < 18446744073709551616), (by decide : 0 < 18446744073709551616), (by decide : 0 < 4294967296), fun t h => LD_in h⟩
theorem rgm {k : Nat} (hk : k < 6) : rgM (mk k) := rg_ k hk 0 0 (by unfold i64B; decide) (by unfold i64B; decide)
theorem rgn {k : Nat} (hk : k < 6) : rgM (nk k) := rg_ k hk 0 (-1) (by unfold i64B; decide) (by unfold i64B; decide)
theorem rgk {k : Nat} (hk : k < 6) : rgM (kk k) := rg_ k hk 1 3 (by unfold i64B; decide) (by unfold i64B; decide)
set_option maxRecDepth 100000 in
theorem fillMk (k : Nat) (w : Value) : fillA Z78 [(0, 1, .int .u8 k), (1, 1, .int .i64 1), (2, 1, .int .i64 1099511627776), (5, 68, .agg (cSt odd).toArray), (73, 5, .agg (Rp.D5 0 0 0 0 w).toArray)] = some (cM (mk k) w) := rfl
theorem t9' (H : AHeap) : ∃ r H', ARun Try.prog 0 9 [.agg (cSt odd).toArray, .agg (cSt full).toArray] H r H' ∧ ∃ w, r = .agg (Rp.D5 0 0 0 0 w).toArray ∧ Rp.TB H' w LD ∧ Keeps H H' ∧ Fresh H.n w := by
 obtain ⟨r, H', h1, h2, w, h3, h4, h5⟩ := Rp.t9 (H := H) (s := toS odd) (t := toS full) rfl (toS_len rgFull.ht)
 rw [toS_c, toS_c] at h1
 exact ⟨r, H', h1, w, h3, h4, h2, h5⟩
def frK (F O k : Nat) (e11 : Value) (l : List Value) : List Value := [.bool false, .pointer none, .pointer none, .bool false, .bool false, .bool false, .int .i64 1, .bool false, .bool true, ptr F 0, ptr O 0, e11, .int .u8 (k : Nat)] ++ l
theorem t27s {H : AHeap} {x : Ms} {v : Value} (hx : rgM x) (h : Rp.TB H v x.d.l) (hl : x.d.l.length ≤ 100000) : ∃ w H', ARun Try.prog 0 27 [.agg (cM x v).toArray] H w H' ∧ OB 5 H H' w (pM x) ∧ (pM x = [] → w = .slice none 0 0) := by
 cases hm : Rp.mayB (M x) with
 | true =>
  obtain ⟨w, H', r, o⟩ := t27 hx h hl
  refine ⟨w, H', r, o, fun e => ?_⟩
  unfold pM enM at e
  rw [hm, if_pos rfl] at e
  have := congrArg List.length e
  rw [List.length_append, hdM_len] at this
  simp at this
 | false =>
  have hp : pM x = [] := by unfold pM; rw [hm]; rfl
  refine walk2 f27_ok f27_n ?_
  intro Q hq1 hq2
  have ht := hx.s.ht
  have lM := cM_len v ht
  have oM := cM_one x h.one
  have kB := (Keeps.refl H).alloc (.cells true false 78 (cM x v) 41)
  simp (disch := first | assumption | omega) only [f27, W_block, P3, seval, initFr, clsA, oM]
  refine callK (Rp.t35 (m := M x) (toS_len ht) (h.keeps kB) hl) ?_
  rintro _ K1 ⟨rfl, k1⟩
  simp (disch := first | assumption | omega) only [W_block, P3, seval, initFr, clsA, hm]
  refine hq2 _ _ ⟨_, rfl, ?_, fun _ => rfl⟩
  rw [hp]
  exact ⟨.inl ⟨rfl, rfl, rfl⟩, kB.trans k1, fun b hb => by cases hb⟩
theorem set4 (x : Ms) (v : Value) (b : Int) : (cM x v).set 4 (.int .i64 b) = cM { x with b := b } v := rfl
theorem set3 (x : Ms) (v : Value) (b : Int) : (cM x v).set 3 (.int .i64 b) = cM { x with be := b } v := rfl
set_option maxHeartbeats 1000000 in
theorem b6 {K : AHeap} {F O k : Nat} {e11 e13 e14 e15 e16 e17 e18 e19 e20 e21 e22 e23 e24 e25 e26 e27 e28 : Value} (gF : K.get F = some (.cells true false 68 (cSt full) 26)) (gO : K.get O = some (.cells true false 68 (cSt odd) 26)) (hk : k < 6) (Q' : AQ)
  (h0 : ∀ (n : Nat) (w p : Value) (K' : AHeap), K'.get n = some (.cells true false 78 (cM (mk k) w) 41) → K'.get (n + 1) = some (.cells true false 78 (cM (nk k) w) 41) → K'.get (n + 2) = some (.cells true false 78 (cM (kk k) w) 41) → Rp.TB K' w LD → Keeps K K' → (∃ X, K.n ≤ n ∧ n + 3 ≤ X.n ∧ Keeps K X ∧ X.get n = some (.cells true false 78 (cM (mk k) w) 41) ∧ X.get (n + 1) = some (.cells true false 78 (cM (nk k) w) 41) ∧ X.get (n + 2) = some (.cells true false 78 (cM (kk k) w) 41) ∧ Rp.TB X w LD ∧ OB 5 X K' p (pM (mk k)) ∧ (pM (mk k) = [] → p = .slice none 0 0)) →
   Q' .normal (frK F O k e11 [ptr n 0, ptr (n + 1) 0, ptr (n + 2) 0, p, e17, e18, e19, e20, e21, e22, e23, e24, e25, e26, e27, e28]) K') : W Try.prog 0 (cpre 6 KB) Q' (frK F O k e11 [e13, e14, e15, e16, e17, e18, e19, e20, e21, e22, e23, e24, e25, e26, e27, e28]) K := by
 have lf : (cSt full).length = 68 := rfl
 have lo : (cSt odd).length = 68 := rfl
 have z78 : Z78.all Value.oneCell' = true := rfl
 have lz : Z78.length = 78 := rfl
 simp (disch := first | assumption | omega) only [KB, inn, sL, sR, f7, cpre, cpost, frK, List.cons_append, List.nil_append, W_block, P3, seval, initFr, clsA, gF, gO, lf, lo]
 refine callK (t9' K) ?_
 rintro _ K1 ⟨w, rfl, tb, k1, _⟩
 have fm := fillMk k w
 have ht := (rgm hk).s.ht
 have lm := cM_len w ht
 have om := cM_one (mk k) tb.one
 have pO := AHeap.get_lt gO
 have nO := k1.at_ gO
 simp (disch := first | assumption | omega | (simp only [LN] <;> omega) | (simp (disch := first | assumption | omega | (simp only [LN] <;> omega)) only [row_alloc, row_set, Keeps.row k1]; assumption)) only [Keeps.get k1, Keeps.row k1, W_block, P3, seval, initFr, clsA, fm, z78, lz, lm, om, gO]
 refine ⟨by simp, ?_⟩
 rw [set4, set4, set3]
 have ls : (cM { { mk k with b := 3 } with be := 1 } w).length = 78 := cM_len w ht
 simp (disch := first | assumption | omega | (simp only [LN] <;> omega) | (simp (disch := first | assumption | omega | (simp only [LN] <;> omega)) only [row_alloc, row_set]; assumption)) only [W_block, P3, seval, initFr, clsA, cM_len w (x := { mk k with b := 3 }) ht, lm]
 obtain ⟨X, hX⟩ : ∃ X, X = ((K1.alloc (.cells true false 78 (cM (mk k) w) 41)).alloc (.cells true false 78 (cM (nk k) w) 41)).alloc (.cells true false 78 (cM (kk k) w) 41) := ⟨_, rfl⟩
 have kX : Keeps K1 X := by rw [hX]; exact (((Keeps.refl K1).alloc _).alloc _).alloc _
 have nX : X.n = K1.n + 3 := by rw [hX]; rfl
 have x0 : X.get K1.n = some (.cells true false 78 (cM (mk k) w) 41) := by
  rw [hX, AHeap.get_alloc_old _ _ (by rw [alloc_n, alloc_n]; omega), AHeap.get_alloc_old _ _ (by rw [alloc_n]; omega)]; exact AHeap.get_alloc_new _ _
 have x1 : X.get (K1.n + 1) = some (.cells true false 78 (cM (nk k) w) 41) := by
  rw [hX, AHeap.get_alloc_old _ _ (by rw [alloc_n, alloc_n]; omega)]; exact AHeap.get_alloc_new (K1.alloc _) _
 have x2 : X.get (K1.n + 2) = some (.cells true false 78 (cM (kk k) w) 41) := by
  rw [hX]; exact AHeap.get_alloc_new ((K1.alloc _).alloc _) _
 have n1 := k1.n
 have eX : ((K1.alloc (.cells true false 78 (cM (mk k) w) 41)).alloc (.cells true false 78 (cM { mk k with b := -1 } w) 41)).alloc (.cells true false 78 (cM { { mk k with b := 3 } with be := 1 } w) 41) = X := hX.symm
 rw [eX]
 refine callK (t27s (rgm hk) (tb.keeps kX) (by have := LD_len; show LD.length ≤ _; omega)) ?_
 rintro p K2 ⟨o2, onil⟩
 simp (disch := first | assumption | omega) only [W_block, P3, seval, initFr, clsA]
 exact h0 K1.n w p K2 (o2.k.at_ x0) (o2.k.at_ x1) (o2.k.at_ x2) (tb.keeps (kX.trans o2.k)) ((k1.trans kX).trans o2.k) ⟨X, n1, by omega, k1.trans kX, x0, x1, x2, tb.keeps kX, o2, onil⟩
def PS (lo : Nat) (K : AHeap) (p : Value) (l : List UInt8) : Prop := (p = .slice none 0 0 ∧ l = []) ∨
 ∃ (b k : Nat) (c2 : List Value), p = slc b 0 l.length k ∧ K.get b = some (.cells true false 1 (cellsOf l ++ c2) 5) ∧ l.length + c2.length = k ∧ 0 < l.length ∧ lo ≤ b
theorem PS.bq {lo : Nat} {K : AHeap} {p : Value} {l : List UInt8} (h : PS lo K p l) : BQ K p l := by
 rcases h with ⟨rfl, rfl⟩ | ⟨b, k, c2, rfl, h1, h2, h3, h4⟩
 ·exact .inl ⟨rfl, rfl⟩
 ·refine .inr (.inr ⟨b, 0, k, true, false, 1, _, 5, rfl, by omega, h1, .inl rfl, ?_, ?_⟩)
  ·rw [List.drop_zero, List.take_append_of_le_length (by rw [cellsOf_length]; omega), List.take_of_length_le (by rw [cellsOf_length]; omega)]
  ·rw [List.length_append, cellsOf_length]; omega
theorem PS.keeps {lo : Nat} {K K' : AHeap} {p : Value} {l : List UInt8} (h : PS lo K p l) (k : Keeps K K') : PS lo K' p l := by
 rcases h with h | ⟨b, n, c2, e, h1, h2⟩
 ·exact .inl h
 ·exact .inr ⟨b, n, c2, e, k.at_ h1, h2⟩
theorem PS.of_ob {X K : AHeap} {p : Value} {l : List UInt8} (h : OB 5 X K p l) (hn : l = [] → p = .slice none 0 0) :
  PS X.n K p l ∨ ∃ b, p = slc b 0 l.length l.length ∧ K.get b = some (.cells true true 1 (cellsOf l) 5) ∧ 0 < l.length ∧ X.n ≤ b := by
 by_cases hl : l = []
 ·exact .inl (.inl ⟨hn hl, hl⟩)
 ·have hpos : 0 < l.length := List.length_pos_iff.2 hl
  rcases h.ap with ⟨_, e, _⟩ | ⟨b, room, rfl, h1, h2⟩
  ·omega
  ·have hb := h.f b rfl
   cases room
   ·exact .inl (.inr ⟨b, l.length, [], rfl, by rw [List.append_nil]; exact h2, rfl, hpos, hb⟩)
   ·exact .inr ⟨b, rfl, h2, hpos, hb⟩
theorem PS.app {lo : Nat} {K : AHeap} {p : Value} {l : List UInt8} (h : PS lo K p l) (hlo : lo ≤ K.n) (hl : l.length ≤ 1000) {s : Nat} (hs : K.get s = some (.cells true false 1 [.int .u8 0] 5)) :
  ∃ v K', asem (.app 5 1 1 p (slc s 0 1 1)) K = some (v, K') ∧ BQ K' v (l ++ [0]) ∧ PS lo K' p l ∧ ∀ X : AHeap, X.n ≤ lo → Keeps X K → Keeps X K' := by
 have he : elemsA K 1 (slc s 0 1 1) = some [.int .u8 0] := by simp [elemsA, slc, hs]
 have ha : asem (.app 5 1 1 p (slc s 0 1 1)) K = appA K 5 1 1 p 1 [.int .u8 0] := by
  show (match elemsA K 1 (slc s 0 1 1) with | some news => appA K 5 1 1 p 1 news | none => none) = _
  rw [he]
 rw [ha]
 have new : ∀ c : List Value, c = cellsOf (l ++ [0]) → BQ (K.alloc (.cells true true 1 c 5)) (slc K.n 0 (l.length + 1) (l.length + 1)) (l ++ [0]) := by
  rintro c rfl
  refine .inr (.inr ⟨K.n, 0, l.length + 1, true, true, 1, _, 5, by rw [List.length_append]; rfl, by simp, AHeap.get_alloc_new _ _, .inl rfl, ?_, ?_⟩)
  ·rw [List.drop_zero, List.take_of_length_le (by rw [cellsOf_length]; omega)]
  ·rw [cellsOf_length]; omega
 rcases h with ⟨rfl, rfl⟩ | ⟨b, k, c2, rfl, h1, h2, h3, h4⟩
 ·refine ⟨slc K.n 0 1 1, K.alloc (.cells true true 1 [.int .u8 0] 5), rfl, new _ rfl, .inl ⟨rfl, rfl⟩, fun X _ k => k.alloc _⟩
 ·have hc : (cellsOf l ++ c2).length = k := by rw [List.length_append, cellsOf_length]; exact h2
  have t1 : (cellsOf l ++ c2).take l.length = cellsOf l := by rw [List.take_append_of_le_length (by rw [cellsOf_length]; omega), List.take_of_length_le (by rw [cellsOf_length]; omega)]
  by_cases hk : l.length + 1 ≤ k
  ·have e : appA K 5 1 1 (slc b 0 l.length k) 1 [.int .u8 0] = some (slc b 0 (l.length + 1) k, K.set b (.cells true false 1 (cellsOf l ++ ([.int .u8 0] ++ c2.drop 1)) 5)) := by
    simp only [appA, slc, h1]
    rw [if_neg (by omega), if_pos (by omega), if_pos ⟨trivial, trivial, by rw [hc]; omega⟩, if_pos hk]
    simp only [Nat.zero_add, Nat.mul_one, t1, List.length_cons, List.length_nil, if_true]
    rw [List.drop_append, List.drop_of_length_le (by rw [cellsOf_length]; omega), List.nil_append, cellsOf_length, show l.length + 1 - l.length = 1 by omega, List.append_assoc]
   have hb := AHeap.get_lt h1
   have g' := AHeap.get_set_same h1 (.cells true false 1 (cellsOf l ++ ([.int .u8 0] ++ c2.drop 1)) 5)
   refine ⟨_, _, e, .inr (.inr ⟨b, 0, k, true, false, 1, _, 5, by rw [List.length_append]; rfl, by simpa using hk, g', .inl rfl, ?_, ?_⟩), .inr ⟨b, k, [.int .u8 0] ++ c2.drop 1, rfl, g', by simp; omega, h3, h4⟩, fun X hX kX => kX.set (by omega) hb _⟩
   ·have e2 : cellsOf (l ++ [0]) = cellsOf l ++ [.int .u8 0] := by rw [cellsOf_append]; rfl
    rw [List.drop_zero, e2, ← List.append_assoc, List.take_append_of_le_length (by simp [cellsOf_length]), List.take_of_length_le (by simp [cellsOf_length])]
   ·simp [cellsOf_length]
  ·have e : appA K 5 1 1 (slc b 0 l.length k) 1 [.int .u8 0] = some (slc K.n 0 (l.length + 1) (l.length + 1), K.alloc (.cells true true 1 (cellsOf l ++ [.int .u8 0]) 5)) := by
    simp only [appA, slc, h1]
    rw [if_neg (by omega), if_pos (by omega), if_pos ⟨trivial, trivial, by rw [hc]; omega⟩, if_neg hk, if_pos (.inl trivial)]
    simp only [List.drop_zero, Nat.mul_one, t1]
   refine ⟨_, _, e, new _ (by rw [cellsOf_append]; rfl), .inr ⟨b, k, c2, rfl, by rw [AHeap.get_alloc_old _ _ (AHeap.get_lt h1)]; exact h1, h2, h3, h4⟩, fun X _ kX => kX.alloc _⟩
theorem PS.set {lo : Nat} {K : AHeap} {b k : Nat} {l : List UInt8} {c2 : List Value} (h1 : K.get b = some (.cells true false 1 (cellsOf l ++ c2) 5)) (h2 : l.length + c2.length = k) (h4 : lo ≤ b) {i : Nat} (hi : i < l.length) (x : UInt8) :
  (cellsOf l ++ c2).set i (.int .u8 (x.toNat : Nat)) = cellsOf (l.set i x) ++ c2 ∧ PS lo (K.set b (.cells true false 1 (cellsOf (l.set i x) ++ c2) 5)) (slc b 0 l.length k) (l.set i x) := by
 refine ⟨?_, .inr ⟨b, k, c2, by rw [List.length_set], AHeap.get_set_same h1 _, by rw [List.length_set]; exact h2, by rw [List.length_set]; omega, h4⟩⟩
 rw [List.set_append_left _ _ (by rw [cellsOf_length]; exact hi)]
 simp only [cellsOf, List.map_set]
end Go.AM.R7

namespace Go.AM.R7
open Nat (reduceAdd reduceEqDiff reduceLT reduceLeDiff reduceMul reduceSub)
open Go.Proofs Go.AM.F Go.AM.Fd Go.AM.Rg
structure SX (X : AHeap) (F O k n : Nat) (w : Value) : Prop where
 gF : X.get F = some (.cells true false 68 (cSt full) 26)
 gO : X.get O = some (.cells true false 68 (cSt odd) 26)
 g0 : X.get n = some (.cells true false 78 (cM (mk k) w) 41)
 g1 : X.get (n + 1) = some (.cells true false 78 (cM (nk k) w) 41)
 g2 : X.get (n + 2) = some (.cells true false 78 (cM (kk k) w) 41)
 tb : Rp.TB X w LD
theorem SX.keeps {X Y : AHeap} {F O k n : Nat} {w : Value} (h : SX X F O k n w) (kp : Keeps X Y) : SX Y F O k n w := ⟨kp.at_ h.gF, kp.at_ h.gO, kp.at_ h.g0, kp.at_ h.g1, kp.at_ h.g2, h.tb.keeps kp⟩
theorem u8_some (z : Int) : ∃ x : UInt8, IntKind.u8.wrap z = (x.toNat : Nat) := by
 refine ⟨UInt8.ofNat (z % 256).toNat, ?_⟩
 rw [wrap_u8, UInt8.toNat_ofNat']
 omega
set_option maxHeartbeats 2000000 in
theorem b7 {X K : AHeap} {F O k n : Nat} {w p : Value} {l : List UInt8} {e11 e17 e18 e19 e20 e21 e22 e23 e24 e25 e26 e27 e28 : Value} (sx : SX X F O k n w) (kX : Keeps X K) (hp : PS X.n K p l) (hl : l.length ≤ 1000) (hk : k < 6) (Q' : AQ)
  (h0 : ∀ (l : List UInt8) (K' : AHeap) (e17 e24 e25 e26 : Value), SX X F O k n w → Keeps X K' → Q' .normal (frK F O k e11 [ptr n 0, ptr (n + 1) 0, ptr (n + 2) 0, p, e17, e18, e19, e20, e21, e22, e23, e24, e25, e26, e27, e28]) K') : W Try.prog 0 (cpost 6 KB) Q' (frK F O k e11 [ptr n 0, ptr (n + 1) 0, ptr (n + 2) 0, p, e17, e18, e19, e20, e21, e22, e23, e24, e25, e26, e27, e28]) K := by
 have sK := sx.keeps kX
 have g0 := sK.g0
 have g1 := sK.g1
 have g2 := sK.g2
 have lm := cM_len w (rgm hk).s.ht
 have ln := cM_len w (rgn hk).s.ht
 have lk := cM_len w (rgk hk).s.ht
 have hld := LD_len
 simp (disch := first | assumption | omega) only [KB, inn, sL, sR, f7, cpost, frK, List.cons_append, List.nil_append, W_block, P3, seval, initFr, clsA, g0, lm]
 refine ⟨_, _, q6 (rgm hk) sK.tb hp.bq, ?_⟩
 simp (disch := first | assumption | omega) only [W_block, P3, seval, initFr, clsA, g1, g2, ln, lk]
 refine callK (t27 (rgk hk) sK.tb (by show LD.length ≤ _; omega)) ?_
 rintro u K1 o1
 have k1 := o1.k
 have pn := AHeap.get_lt g1
 have n1 := k1.n
 simp (disch := first | assumption | omega) only [Keeps.get k1, Keeps.row k1, W_block, P3, seval, initFr, clsA, g1, g2]
 refine ⟨trivial, ?_⟩
 refine ⟨_, _, q6 (rgn hk) (sK.tb.keeps k1) o1.bq, ?_⟩
 have g21 := k1.at_ g2
 simp (disch := first | assumption | omega) only [W_block, P3, seval, initFr, clsA, g21, lk, fillu1]
 obtain ⟨K2, hK2⟩ : ∃ Y, Y = K1.alloc (.cells true false 1 [.int .u8 0] 5) := ⟨_, rfl⟩
 have k2 : Keeps K1 K2 := by rw [hK2]; exact (Keeps.refl K1).alloc _
 have s2 : K2.get K1.n = some (.cells true false 1 [.int .u8 0] 5) := by rw [hK2]; exact AHeap.get_alloc_new _ _
 have n2 := k2.n
 have nX := kX.n
 rw [← hK2]
 have hp2 := (hp.keeps k1).keeps k2
 obtain ⟨v3, K3, a1, a2, a3, a4⟩ := hp2.app (by omega) hl s2
 have kX3 := a4 X (Nat.le_refl _) ((kX.trans k1).trans k2)
 refine ⟨v3, K3, a1, ?_, ?_⟩
 ·have q1 := (sx.keeps kX3).g2
  have q2 := k2.at_ g21
  have p21 := AHeap.get_lt g21
  simp [oblA, clsA, touchA, readsA, keepsB, olderB, q1, q2, g21, p21]
 have s3 := sx.keeps kX3
 refine ⟨_, _, q6 (rgk hk) s3.tb a2, ?_⟩
 simp (disch := first | assumption | omega) only [W_block, P3, seval, initFr, clsA]
 have hlen : lenS p = l.length ∧ isS p = true := by
  rcases hp with ⟨rfl, rfl⟩ | ⟨b, kk, c2, rfl, _⟩ <;> exact ⟨rfl, rfl⟩
 have hl1 := hlen.1
 have hl2 := hlen.2
 refine W_loop2 (fun q fr K => ∃ (i : Nat) (l' : List UInt8) (e25 e26 : Value), i ≤ l.length ∧ q = l.length - i ∧ l'.length = l.length ∧ PS X.n K p l' ∧ Keeps X K ∧ fr = [.bool false, .pointer none, .pointer none, .bool false, .bool false, .bool false, .int .i64 1, .bool false, .bool true, ptr F 0, ptr O 0, e11, .int .u8 (k : Nat), ptr n 0, ptr (n + 1) 0, ptr (n + 2) 0, p, .int .i64 i, e18, e19, e20, e21, e22, e23, .bool false, e25, e26, e27, e28]) l.length ⟨0, l, _, _, by omega, rfl, rfl, a3, kX3, rfl⟩ ?_
 rintro Q2 q fr K4 ⟨i, l', f25, f26, hi, rfl, hl', hp4, kX4, rfl⟩ hnx hex hrt
 have s4 := sx.keeps kX4
 by_cases hc : i < l.length
 ·rcases hp4 with ⟨rfl, rfl⟩ | ⟨b, k2', c2, rfl, h1, h2, h3, h4⟩
  ·simp at hl'; omega
  have hlc : (cellsOf l' ++ c2)[i]? = some (.int .u8 (l'[i]'(by omega)).toNat) := by
   rw [List.getElem?_append_left (by rw [cellsOf_length]; omega)]
   simp [cellsOf, hl', hc]
  have lc := congrArg List.length (rfl : (cellsOf l' ++ c2) = _)
  simp (disch := first | assumption | omega) only [W_block, P3, seval, initFr, clsA, hl1, h1, hlc]
  have hlt : i < (cellsOf l' ++ c2).length := by rw [List.length_append, cellsOf_length]; omega
  obtain ⟨x, hx⟩ := u8_some (((BitVec.ofInt IntKind.u8.bits ((l'[i]'(by omega)).toNat : Nat) ^^^ BitVec.ofInt IntKind.u8.bits 1).toNat : Nat) : Int)
  obtain ⟨sc, ps5⟩ := PS.set h1 h2 h4 (i := i) (by omega) x
  rw [if_pos hlt, hx, sc]
  obtain ⟨K5, hK5⟩ : ∃ Y, Y = K4.set b (.cells true false 1 (cellsOf (l'.set i x) ++ c2) 5) := ⟨_, rfl⟩
  have kX5 : Keeps X K5 := by rw [hK5]; exact kX4.set h4 (AHeap.get_lt h1) _
  have g5 : K5.get b = some (.cells true false 1 (cellsOf (l'.set i x) ++ c2) 5) := by rw [hK5]; exact AHeap.get_set_same h1 _
  rw [← hK5] at ps5 ⊢
  have s5 := sx.keeps kX5
  have g05 := s5.g0
  have hl5 : (l'.set i x).length = l.length := by rw [List.length_set, hl']
  obtain ⟨v6, e6, bq6⟩ := ps5.bq.to_ (k := .i64) i (by omega)
  simp (disch := first | assumption | omega) only [W_block, P3, seval, initFr, clsA, g05, lm]
  refine ⟨_, _, q6 (rgm hk) s5.tb ps5.bq, ?_⟩
  simp (disch := first | assumption | omega) only [W_block, P3, seval, initFr, clsA, g05, lm, e6]
  refine ⟨_, _, q6 (rgm hk) s5.tb bq6, ?_⟩
  have hlc5 : (cellsOf (l'.set i x) ++ c2)[i]? = some (.int .u8 (x.toNat : Nat)) := by
   rw [List.getElem?_append_left (by rw [cellsOf_length]; omega)]
   simp [cellsOf, hl', hc]
  have hll : (slc b 0 l'.length k2') = slc b 0 l'.length k2' := rfl
  simp (disch := first | assumption | omega) only [W_block, P3, seval, initFr, clsA, g5, hlc5]
  have hlt5 : i < (cellsOf (l'.set i x) ++ c2).length := by rw [List.length_append, cellsOf_length]; omega
  obtain ⟨y, hy⟩ := u8_some (((BitVec.ofInt IntKind.u8.bits (x.toNat : Nat) ^^^ BitVec.ofInt IntKind.u8.bits 1).toNat : Nat) : Int)
  have h27 : (l'.set i x).length + c2.length = k2' := by rw [List.length_set]; exact h2
  obtain ⟨sc7, ps7⟩ := PS.set g5 h27 h4 (i := i) (by omega) y
  rw [List.length_set] at ps7
  rw [if_pos hlt5, hy, sc7]
  have kX7 : Keeps X (K5.set b (.cells true false 1 (cellsOf ((l'.set i x).set i y) ++ c2) 5)) := kX5.set h4 (AHeap.get_lt g5) _
  simp (disch := first | assumption | omega) only [W_block, P3, seval, initFr, clsA, wrap_succ (n := i) (by omega)]
  exact hnx _ _ _ ⟨i + 1, (l'.set i x).set i y, _, _, by omega, rfl, by rw [List.length_set, hl5], ps7, kX7, rfl⟩ (by omega)
 ·simp (disch := first | assumption | omega) only [W_block, P3, seval, initFr, clsA, hl1]
  refine hex _ _ _ ?_
  exact h0 l' K4 _ _ _ _ sx kX4
end Go.AM.R7

namespace Go.AM.R7
open Nat (reduceAdd reduceEqDiff reduceLT reduceLeDiff reduceMul reduceSub)
open Go.Proofs Go.AM.F Go.AM.Fd Go.AM.Rg
def KC : ACode := inn (inn (sR (sL (cpost 12 f7.body))))
theorem lay_keeps {X K K' : AHeap} {i b : Nat} {l : List UInt8} {fr fr' : List Value} (h : Lay i fr K fr' K') (hf : fr[i]? = some (slc b 0 l.length l.length)) (g : K.get b = some (.cells true true 1 (cellsOf l) 5)) (hb : X.n ≤ b) (k : Keeps X K) :
  ∃ n', fr' = fr.set i (slc K.n 0 l.length n') ∧ PS X.n K' (slc K.n 0 l.length n') l ∧ Keeps X K' := by
 obtain ⟨b1, n, k1, e, c, c2, h1, h2, h3, h4, h5, h6, rfl, rfl⟩ := h
 rw [hf] at h1
 have h1 : slc b 0 l.length l.length = slc b1 0 n n := Option.some.inj h1
 unfold slc at h1
 simp only [Value.slice.injEq, Option.some.injEq, Addr.mk.injEq] at h1
 obtain ⟨⟨hb1, _, _⟩, hn, _⟩ := h1
 subst hb1
 rw [g] at h3
 cases h3
 subst hn
 have hlt := AHeap.get_lt g
 have kn := k.n
 refine ⟨k1, rfl, .inr ⟨K.n, k1, c2, rfl, AHeap.get_alloc_new (K.set b .dead) _, h5, h2, by omega⟩, (k.set hb hlt _).alloc _⟩
set_option maxHeartbeats 1000000 in
theorem p13 {K : AHeap} {F O : Nat} {e11 e12 e13 e14 e15 e16 e17 e18 e19 e20 e21 e22 e23 e24 e25 e26 e27 e28 : Value} (gF : K.get F = some (.cells true false 68 (cSt full) 26)) (gO : K.get O = some (.cells true false 68 (cSt odd) 26)) (Q : AQ)
  (h0 : ∀ (K' : AHeap) (e12 e13 e14 e15 e16 e17 e18 e19 e20 e21 e22 e23 e24 e25 e26 e27 e28 : Value), K'.get F = some (.cells true false 68 (cSt full) 26) → K'.get O = some (.cells true false 68 (cSt odd) 26) → Q .normal [.bool false, .pointer none, .pointer none, .bool false, .bool false, .bool false, .int .i64 1, .bool false, .bool true, ptr F 0, ptr O 0, e11, e12, e13, e14, e15, e16, e17, e18, e19, e20, e21, e22, e23, e24, e25, e26, e27, e28] K') :
  WS Try.prog 0 (sL (cpost 12 f7.body)) Q [.bool false, .pointer none, .pointer none, .bool false, .bool false, .bool false, .int .i64 1, .bool false, .bool true, ptr F 0, ptr O 0, e11, e12, e13, e14, e15, e16, e17, e18, e19, e20, e21, e22, e23, e24, e25, e26, e27, e28] K := by
 show WS Try.prog 0 (.seq (sL (sL (cpost 12 f7.body))) (.block 2 (.loop KC))) Q _ K
 refine WS_seqW ?_
 simp (disch := first | assumption | omega) only [f7, sL, sR, cpost, W_block, P3, seval, initFr, clsA]
 refine WS_block ?_
 refine WS_loop2 (fun q fr K => ∃ (k : Nat) (e13 e14 e15 e16 e17 e18 e19 e20 e21 e22 e23 e24 e25 e26 e27 e28 : Value), k ≤ 6 ∧ q = 6 - k ∧ K.get F = some (.cells true false 68 (cSt full) 26) ∧ K.get O = some (.cells true false 68 (cSt odd) 26) ∧ fr = frK F O k e11 [e13, e14, e15, e16, e17, e18, e19, e20, e21, e22, e23, e24, e25, e26, e27, e28]) 6 ⟨0, e13, e14, e15, e16, e17, e18, e19, e20, e21, e22, e23, e24, e25, e26, e27, e28, by omega, rfl, gF, gO, rfl⟩ ?_
 rintro Q2 q fr K2 ⟨k, f13, f14, f15, f16, f17, f18, f19, f20, f21, f22, f23, f24, f25, f26, f27, f28, hk, rfl, gF2, gO2, rfl⟩ hnx hex hrt
 show WS Try.prog 0 (.seq (sL KC) (.seq (.block 3 KB) (sR (sR KC)))) Q2 _ K2
 refine WS_seqW ?_
 by_cases hc : k < 6
 ·simp (disch := first | assumption | omega) only [KC, f7, sL, sR, inn, cpost, frK, List.cons_append, List.nil_append, W_block, P3, seval, initFr, clsA]
  refine WS_seqL (WS_block ?_)
  have inc : ∀ (K' : AHeap) (e13 e14 e15 e16 e17 e18 e19 e20 e21 e22 e23 e24 e25 e26 e27 e28 : Value), K'.get F = some (.cells true false 68 (cSt full) 26) → K'.get O = some (.cells true false 68 (cSt odd) 26) → WS Try.prog 0 (.reg [⟨.mov (.fr 12), .tm, none⟩, ⟨.bin .add (.tm 0) (.c (.int .u8 1)), .tm, none⟩, ⟨.mov (.tm 0), .fr 12, none⟩]) Q2 (frK F O k e11 [e13, e14, e15, e16, e17, e18, e19, e20, e21, e22, e23, e24, e25, e26, e27, e28]) K' := by
   intro K' e13 e14 e15 e16 e17 e18 e19 e20 e21 e22 e23 e24 e25 e26 e27 e28 gF' gO'
   refine WS_of_W _ ?_
   have w8 : IntKind.u8.wrap ((k : Int) + 1) = ((k + 1 : Nat) : Int) := by rw [wrap_u8]; omega
   simp (disch := first | assumption | omega) only [frK, List.cons_append, List.nil_append, W_block, P3, seval, initFr, clsA, w8]
   exact hnx _ _ _ ⟨k + 1, e13, e14, e15, e16, e17, e18, e19, e20, e21, e22, e23, e24, e25, e26, e27, e28, by omega, rfl, gF', gO', rfl⟩ (by omega)
  refine WS_part 6 (fun fr K' => ∃ (n : Nat) (w p : Value) (X : AHeap) (e17 e18 e19 e20 e21 e22 e23 e24 e25 e26 e27 e28 : Value), fr = frK F O k e11 [ptr n 0, ptr (n + 1) 0, ptr (n + 2) 0, p, e17, e18, e19, e20, e21, e22, e23, e24, e25, e26, e27, e28] ∧ SX X F O k n w ∧ Keeps X K' ∧ OB 5 X K' p (pM (mk k)) ∧ (pM (mk k) = [] → p = .slice none 0 0)) (by kernel_rfl) ?_ ?_
  ·intro Q' h1 _ _
   refine b6 gF2 gO2 hc Q' ?_
   rintro n w p K' _ _ _ _ _ ⟨X, x1, x2, x3, x4, x5, x6, x7, x8, x9⟩
   exact h1 _ _ ⟨n, w, p, X, _, _, _, _, _, _, _, _, _, _, _, _, rfl, ⟨x3.at_ gF2, x3.at_ gO2, x4, x5, x6, x7⟩, x8.k, x8, x9⟩
  ·rintro fr K' ⟨n, w, p, X, e17, e18, e19, e20, e21, e22, e23, e24, e25, e26, e27, e28, rfl, sx, kX, ob, onil⟩
   have hpl := pM_len (x := mk k) (rgm hc).s.ht
   rcases PS.of_ob ob onil with hp | ⟨b, rfl, gb, hpos, hb⟩
   ·refine .inl (WS_of_W _ (b7 sx kX hp hpl hc _ ?_))
    intro l' K3 e17 e24 e25 e26 sx' kX'
    exact .inl (inc K3 _ _ _ _ _ _ _ _ _ _ _ _ _ _ _ _ (kX'.at_ sx'.gF) (kX'.at_ sx'.gO))
   ·refine .inr ⟨16, ⟨b, _, 5, _, rfl, hpos, gb, by rw [cellsOf_length]⟩, ?_⟩
    intro fr' K3 lay
    obtain ⟨n', rfl, hp, kX3⟩ := lay_keeps lay rfl gb hb kX
    refine WS_of_W _ (b7 sx kX3 hp hpl hc _ ?_)
    intro l' K4 e17 e24 e25 e26 sx' kX'
    exact .inl (inc K4 _ _ _ _ _ _ _ _ _ _ _ _ _ _ _ _ (kX'.at_ sx'.gF) (kX'.at_ sx'.gO))
 ·simp (disch := first | assumption | omega) only [KC, f7, sL, sR, inn, cpost, frK, List.cons_append, List.nil_append, W_block, P3, seval, initFr, clsA]
  refine hex _ _ _ ?_
  exact h0 K2 _ _ _ _ _ _ _ _ _ _ _ _ _ _ _ _ _ gF2 gO2
end Go.AM.R7
