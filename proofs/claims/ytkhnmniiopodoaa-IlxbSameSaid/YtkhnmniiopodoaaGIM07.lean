/- Part of the proof. -/
import Derived.Test.YtkhnmniiopodoaaGIM06
set_option linter.unusedSimpArgs false
set_option linter.unusedVariables false
set_option linter.unusedSimpArgs false
set_option linter.unusedVariables false
namespace Go.AM.Fd
open Go.Proofs Go.AM.F
structure SI (L : Ly) (us : Nat → Bool) (s : Sta) : Prop where
  u : s.us = us
  ul : ∀ i, us i = true → s.lo i = true
  cl : ∀ i, s.ca i = true → s.lo i = true
  ln : ∀ i, s.lo i = true → i < L.r.length
theorem si_tidy (L : Ly) (s : Sta) : SI L (tidyS L s).us (tidyS L s) := by
  refine ⟨rfl, fun i h => ?_, fun i h => ?_, fun i h => ?_⟩
  · have h' : (s.us i && (s.lo i && lowP L.r.length i)) = true := h
    show (s.lo i && lowP L.r.length i) = true
    simp only [Bool.and_eq_true] at h' ⊢; exact h'.2
  · have h' : (s.ca i && (s.lo i && lowP L.r.length i)) = true := h
    show (s.lo i && lowP L.r.length i) = true
    simp only [Bool.and_eq_true] at h' ⊢; exact h'.2
  · have h' : (s.lo i && lowP L.r.length i) = true := h
    simp only [Bool.and_eq_true, lowP, decide_eq_true_eq] at h'
    omega
theorem si_com {L : Ly} {x : Inp} {us : Nat → Bool} {s : Sta} (h : SI L us s) (kd n : Int) : SI L us (comD L x s kd n) := by
  unfold comD
  split
  · rename_i hok
    simp only [okC, Bool.and_eq_true, decide_eq_true_eq] at hok
    split
    · rename_i hk
      have hn : n.toNat < L.r.length := by
        have := hok.2.2
        rw [hk.1, if_neg (by omega)] at this
        omega
      refine ⟨h.u, fun i hi => ?_, fun i hi => ?_, fun i hi => ?_⟩
      · show (s.lo i || decide (i = n.toNat)) = true
        rw [h.ul i hi]; rfl
      · show (s.lo i || decide (i = n.toNat)) = true
        rw [h.cl i hi]; rfl
      · have hi' : (s.lo i || decide (i = n.toNat)) = true := hi
        simp only [Bool.or_eq_true, decide_eq_true_eq] at hi'
        rcases hi' with h1 | h1
        · exact h.ln i h1
        · omega
    · split
      · rename_i hk
        simp only [Bool.and_eq_true] at hk
        refine ⟨h.u, h.ul, fun i hi => ?_, h.ln⟩
        have hi' : (s.ca i || decide (i = n.toNat)) = true := hi
        simp only [Bool.or_eq_true, decide_eq_true_eq] at hi'
        rcases hi' with h1 | h1
        · exact h.cl i h1
        · rw [h1]; exact hk.2.1.1
      · split
        · exact ⟨h.u, h.ul, h.cl, h.ln⟩
        · exact h
  · exact h
theorem si_cmd {L : Ly} {x : Inp} {us : Nat → Bool} : ∀ {cs : List (Int × Int)} {s : Sta}, SI L us s → SI L us (cmdD L x s cs)
  | [], s, h => h
  | c :: cs, s, h => si_cmd (cs := cs) (si_com h c.1 c.2)
def at_eq (s t : Sta) (j : Nat) : Prop := s.lo j = t.lo j ∧ s.us j = t.us j ∧ s.ca j = t.ca j ∧ s.ti j = t.ti j
theorem at_refl (s : Sta) (j : Nat) : at_eq s s j := ⟨rfl, rfl, rfl, rfl⟩
theorem at_trans {s t u : Sta} {j : Nat} (h : at_eq s t j) (k : at_eq t u j) : at_eq s u j := ⟨h.1.trans k.1, h.2.1.trans k.2.1, h.2.2.1.trans k.2.2.1, h.2.2.2.trans k.2.2.2⟩
theorem ro_po (L : Ly) (x : Inp) (us : Nat → Bool) (s : Sta) (i : Nat) : (roD L x us s i).po = s.po := by
  unfold roD relS; repeat' split
  all_goals rfl
theorem ro_other (L : Ly) (x : Inp) (us : Nat → Bool) (s : Sta) {i j : Nat} (h : j ≠ i) : at_eq (roD L x us s i) s j := by
  unfold roD relS at_eq upd
  repeat' split
  all_goals simp [h]
theorem ro_here (L : Ly) (x : Inp) (us : Nat → Bool) {s t : Sta} {i : Nat} (h : at_eq s t i) : at_eq (roD L x us s i) (roD L x us t i) i := by
  obtain ⟨h1, h2, h3, h4⟩ := h
  unfold roD relS at_eq upd
  rw [h3, h4]
  repeat' split
  all_goals simp [h1, h2, h3, h4]
theorem ros_at (L : Ly) (x : Inp) (us : Nat → Bool) (s : Sta) (j : Nat) : ∀ k, at_eq (rosD L x us s k) (if j < k ∧ s.lo j = true then roD L x us s j else s) j ∧ (rosD L x us s k).po = s.po
  | 0 => ⟨by rw [if_neg (by omega)]; exact at_refl _ _, rfl⟩
  | k + 1 => by
    obtain ⟨ih, ihp⟩ := ros_at L x us s j k
    rw [rosD_s]
    by_cases e : j = k
    · subst e
      rw [if_neg (by omega)] at ih
      have hl := ih.1
      cases hlo : s.lo j with
      | false =>
        rw [hlo] at hl
        rw [if_neg (by rw [hl]; simp), if_neg (by simp)]
        exact ⟨ih, ihp⟩
      | true =>
        rw [hlo] at hl
        rw [if_pos hl, if_pos ⟨by omega, rfl⟩]
        exact ⟨ro_here L x us ih, by rw [ro_po]; exact ihp⟩
    · have ec : (j < k + 1 ∧ s.lo j = true) = (j < k ∧ s.lo j = true) := by
        apply propext
        exact ⟨fun h => ⟨by omega, h.2⟩, fun h => ⟨by omega, h.2⟩⟩
      simp only [ec]
      split
      · exact ⟨at_trans (ro_other L x us _ e) ih, by rw [ro_po]; exact ihp⟩
      · exact ⟨ih, ihp⟩
theorem sta_ext {s t : Sta} (h : ∀ j, at_eq s t j) (hp : s.po = t.po) : s = t := by
  obtain ⟨a, b, c, d, e⟩ := s
  obtain ⟨a', b', c', d', e'⟩ := t
  simp only at hp
  subst hp
  have h1 : a = a' := funext fun j => (h j).1
  have h2 : b = b' := funext fun j => (h j).2.1
  have h3 : c = c' := funext fun j => (h j).2.2.1
  have h4 : d = d' := funext fun j => (h j).2.2.2
  subst h1 h2 h3 h4; rfl
theorem end_eq {L : Ly} {x : Inp} (he : checkE L = 0) {us : Nat → Bool} {s : Sta} (h : SI L us s) : endS L x us s = rosD L x us s L.r.length := by
  refine sta_ext (fun j => ?_) (by rw [(ros_at L x us s 0 L.r.length).2]; rfl)
  have hr := (ros_at L x us s j L.r.length).1
  obtain ⟨r1, r2, r3, r4⟩ := hr
  unfold at_eq
  rw [r1, r2, r3, r4]
  clear r1 r2 r3 r4
  have hu : s.us j = us j := by rw [h.u]
  show (s.lo j && !relB L x us s j) = _ ∧ ((s.lo j && !relB L x us s j) && (us j || entB L x j)) = _ ∧ (s.ca j && !relB L x us s j) = _ ∧ (if relB L x us s j then 0 else if waitB L x us s j && !decide (s.ti j = 0) then s.ti j - 1 else s.ti j) = _
  cases hlo : s.lo j with
  | false =>
    have hus : us j = false := by
      cases hx : us j with
      | false => rfl
      | true => have := h.ul j hx; rw [hlo] at this; cases this
    have hca : s.ca j = false := by
      cases hx : s.ca j with
      | false => rfl
      | true => have := h.cl j hx; rw [hlo] at this; cases this
    rw [if_neg (by simp)]
    have hw : waitB L x us s j = false := by unfold waitB; rw [hca]; rfl
    have hrel : relB L x us s j = false := by unfold relB; rw [hus, hw]; simp
    rw [hrel, hw, hca, hlo, hu, hus]; simp
  | true =>
    have hj := h.ln j hlo
    rw [if_pos ⟨hj, rfl⟩]
    have hfree : freeB L x j = frD x (ro L j) := by unfold freeB; rw [free_eq he hj]; simp [hj]
    have hent := ent_eq (x := x) hj
    unfold relB waitB roD relS upd
    rw [hfree, hent]
    cases hus : us j <;> cases hen : hasB x.oc ((ro L j).path.getD 0 0) <;> cases hfr : frD x (ro L j) <;> cases hca : s.ca j <;> by_cases ht : s.ti j = 0 <;>
      (have ht' : (0 < s.ti j) = (¬ s.ti j = 0) := by apply propext; omega
       rw [hus] at hu
       simp [hlo, hu, hca, ht, ht'])
theorem step_eq {L : Ly} (he : checkE L = 0) (s : Sta) (x : Inp) (cs : List (Int × Int)) : stepB L s x cs = stepD L s x cs := by
  unfold stepB stepD
  rw [cmd_eq he]
  exact end_eq he (si_cmd (si_tidy L s))
theorem pr_eq {L : Ly} {x : Inp} (he : checkE L = 0) (s : Sta) (i : Nat) : prB L x s i = (decide (i < L.r.length) && proD L x s i) := by
  unfold prB proD freeB detB
  by_cases hi : i < L.r.length
  · rw [free_eq he hi]
    have hg := check_good he (List.getElem_mem hi)
    rw [← ro_eq hi] at hg
    have lp := (may_lim (check_may he)).p
    have e : ((none32 fun p => nor L i p && !sideN x p) && (none32 fun p => rev L i p && !sideR x p)) = (nds (ro L i)).all fun z => if z.2 then sideR x z.1.toNat else sideN x z.1.toNat := by
      rw [Bool.eq_iff_iff, Bool.and_eq_true, n32_iff, n32_iff, List.all_eq_true]
      constructor
      · rintro ⟨h1, h2⟩ ⟨zp, zb⟩ hz
        obtain ⟨g0, g1⟩ := hg.nd _ hz
        obtain ⟨m, rfl⟩ : ∃ m : Nat, zp = (m : Int) := ⟨zp.toNat, by simp only at g0; omega⟩
        have hm : m < 32 := by simp only at g1; omega
        have hmt : (Int.toNat (m : Int)) = m := by omega
        simp only [hmt]
        cases zb with
        | false =>
          have hc : nor L i m = true := List.contains_iff_mem.2 hz
          have := h1 m hm
          rw [hc] at this
          simpa using this
        | true =>
          have hc : rev L i m = true := List.contains_iff_mem.2 hz
          have := h2 m hm
          rw [hc] at this
          simpa using this
      · intro h
        refine ⟨fun p hp => ?_, fun p hp => ?_⟩
        · cases hc : nor L i p with
          | false => rfl
          | true =>
            have := h _ (List.contains_iff_mem.1 (show (nds (ro L i)).contains ((p : Int), false) = true from hc))
            have hmt : (Int.toNat (p : Int)) = p := by omega
            simp only [hmt, Bool.false_eq_true, if_false] at this
            rw [this]; rfl
        · cases hc : rev L i p with
          | false => rfl
          | true =>
            have := h _ (List.contains_iff_mem.1 (show (nds (ro L i)).contains ((p : Int), true) = true from hc))
            have hmt : (Int.toNat (p : Int)) = p := by omega
            simp only [hmt, if_true] at this
            rw [this]; rfl
    rw [e]
    simp only [hi, decide_true, Bool.true_and]
    cases s.lo i <;> cases s.us i <;> cases s.ca i <;> cases frD x (ro L i) <;> simp
  · simp [hi]
end Go.AM.Fd

set_option linter.unusedSimpArgs false
set_option linter.unusedVariables false
set_option maxRecDepth 20000
namespace Go.AM.Fd
open Nat (reduceAdd reduceEqDiff reduceLT reduceLeDiff reduceMul reduceSub)
open Go.Proofs Go.AM.F
theorem ar_slc {P : Program} {H : AHeap} {v : Value} {t e esz : Nat} (hu : P.underlying t = some (.slice e)) (hz : P.cellsOf e = esz) (h : AR P H.get t [v]) : ∃ rows, (SlC H esz v rows ∧ rows.length ≤ 9223372036854775807) ∧ ∀ r ∈ rows, AR P H.get e r := by
  obtain ⟨rows, ⟨hs, hl⟩, hr⟩ := ar_rows hu hz h
  refine ⟨rows, ⟨⟨hs, ?_⟩, hl⟩, hr⟩
  rcases h.slice_inv hu with h2 | ⟨x, hx, h2⟩ | ⟨b, n, k, c, u, h2, h3, h4, _, h6, _⟩
  · cases h2; exact .inl rfl
  · cases h2
    obtain ⟨b, o, q⟩ := x
    cases q with
    | none => cases hx
    | some q => exact .inr (.inl ⟨b, o, q, rfl⟩)
  · cases h2
    rw [hz] at h6
    exact .inr (.inr ⟨b, n, k, _, _, c, u, rfl, h4, h6⟩)
theorem inp_of {H : AHeap} {cells : List Value} (h : AR Go.Proofs.Try.prog H.get 43 cells) : ∃ (x : Inp) (cv : Value) (cs : List (Int × Int)), cells = inl x cv ∧ SlC H 2 cv (cs.map cRow) ∧ cs.length ≤ 9223372036854775807 ∧ ∀ c ∈ cs, 0 ≤ c.1 ∧ c.1 < 256 := by
  have h1 := h.flat (d := 6) (ks := [.int .u64, .int .u32, .int .u32, .sl 41]) (by kernel_rfl)
  obtain ⟨a, as1, e1, ha, h2⟩ := h1.inv
  obtain ⟨b, bs, rfl, hb, h3⟩ := h2.inv
  obtain ⟨c, cs, rfl, hc, h4⟩ := h3.inv
  obtain ⟨d, ds, rfl, hd, h5⟩ := h4.inv
  have := h5.end_; subst this
  obtain ⟨n1, rfl, g1⟩ := fits_u64 ha
  obtain ⟨n2, rfl, g2⟩ := fits_u32 hb
  obtain ⟨n3, rfl, g3⟩ := fits_u32 hc
  obtain ⟨f1, q1⟩ := s64_of (x := (n1 : Int)) (by omega) (by omega)
  obtain ⟨f2, q2⟩ := s32_of (x := (n2 : Int)) (by omega) (by omega)
  obtain ⟨f3, q3⟩ := s32_of (x := (n3 : Int)) (by omega) (by omega)
  obtain ⟨rows, ⟨hr, lr⟩, hrow⟩ := ar_slc (e := 70) (esz := 2) (by kernel_rfl) (by kernel_rfl) hd
  obtain ⟨l, rfl, hl⟩ := list_choose (f := cRow) (Q := fun c : Int × Int => 0 ≤ c.1 ∧ c.1 < 256) (l := rows) (fun r hm => by
    have h1 := (hrow r hm).flat (d := 5) (ks := [.int .u8, .int .i64]) (by kernel_rfl)
    obtain ⟨a, as1, rfl, ha, h2⟩ := h1.inv
    obtain ⟨b, bs, rfl, hb, h3⟩ := h2.inv
    have := h3.end_; subst this
    obtain ⟨n, rfl, g⟩ := fits_u8 ha
    obtain ⟨m, rfl, _⟩ := hb
    exact ⟨((n : Int), m), rfl, by simp only; omega, by simp only; omega⟩)
  exact ⟨⟨f1, f2, f3⟩, d, l, by rw [e1, q1, q2, q3]; rfl, hr, by simpa using lr, hl⟩
theorem av_inp2 {H : AHeap} {v : Value} (h : AV Go.Proofs.Try.prog H.get 43 v) : ∃ (x : Inp) (cv : Value) (cs : List (Int × Int)), v = .agg (inl x cv).toArray ∧ SlC H 2 cv (cs.map cRow) ∧ cs.length ≤ 9223372036854775807 ∧ ∀ c ∈ cs, 0 ≤ c.1 ∧ c.1 < 256 := by
  obtain ⟨as_, rfl⟩ := h.2.1 (by kernel_rfl)
  obtain ⟨x, cv, cs, e, h2⟩ := inp_of h.1
  have ec : (Value.agg as_).cells.toList = as_.toList := rfl
  rw [ec] at e
  exact ⟨x, cv, cs, by rw [← e], h2⟩
theorem eq_out2 (K : AHeap) (neg : Bool) (f g : Nat → Bool) : asem (.eqs [1, 1] neg (.agg #[S64 f, S32 g]) (.agg #[S64 f, S32 g])) K = some (.bool (if neg then false else true), K) := by
  simp [asem, eqCs, eqC, S64, S32]
theorem staB_rfl (s : Sta) : staB s s = true := by unfold staB; simp
set_option maxHeartbeats 8000000 in
theorem lawSame : ∀ H args, NoOwn H → AVs Go.Proofs.Try.prog H.get [27, 32, 43] args → ∃ H', ARun Go.Proofs.Try.prog 0 6 args H (.bool true) H' := by
  intro H args _ h
  match args, h with
  | [v, z, y], ⟨h0, h1, h2, _⟩ =>
    obtain ⟨u, xs, L, rfl, hl, hi⟩ := av_ly h0
    obtain ⟨s, rfl⟩ := av_state h1
    obtain ⟨x, cv, cs, rfl, hc, hcl, hkd⟩ := av_inp2 h2
    suffices h' : ∃ w H', ARun Go.Proofs.Try.prog 0 6 [.agg u.l.toArray, .agg (stl s).toArray, .agg (inl x cv).toArray] H w H' ∧ w = .bool true by
      obtain ⟨_, K, a, rfl⟩ := h'
      exact ⟨K, a⟩
    refine walk2 f6_ok f6_n ?_
    intro Q hq1 hq2
    have ho := ly_ones hl
    have ll : u.l.length = 4 := rfl
    have hinl : inl x cv = [S64 x.oc, S32 x.nr, S32 x.rv, cv] := rfl
    have isc := Sl.is hc.s
    have onec := Sl.one hc.s
    have clen : lenS cv = cs.length := by have := Sl.len hc.s; simpa using this
    obtain ⟨K0, hK0⟩ : ∃ X, X = ((H.alloc (.cells true false 4 u.l 27)).alloc (.cells true false 68 (stl s) 32)).alloc (.cells true false 4 (inl x cv) 43) := ⟨_, rfl⟩
    have k0 : Keeps H K0 := by rw [hK0]; exact (((Keeps.refl H).alloc _).alloc _).alloc _
    have n0 : K0.n = H.n + 3 := by rw [hK0]; rfl
    have gl0 : K0.get H.n = some (.cells true false 4 u.l 27) := by rw [hK0]; exact (((Keeps.refl _).alloc _).alloc _).at_ (AHeap.get_alloc_new H _)
    have gs0 : K0.get (H.n + 1) = some (.cells true false 68 (stl s) 32) := by rw [hK0]; exact ((Keeps.refl _).alloc _).at_ (AHeap.get_alloc_new (H.alloc _) _)
    have gi0 : K0.get (H.n + 2) = some (.cells true false 4 (inl x cv) 43) := by rw [hK0]; exact AHeap.get_alloc_new ((H.alloc _).alloc _) _
    have hl0 := hl.keeps k0
    have hc0 := hc.keeps k0
    rw [hinl] at hK0 gi0 ⊢
    simp (disch := first | assumption | omega | (simp only [LN] <;> omega) | (simp (disch := first | assumption | omega | (simp only [LN] <;> omega)) only [row_alloc, row_set]; assumption)) only [f6, W_block, P3, ↓reduceIte, reduceAdd, reduceEqDiff, reduceCtorEq, initFr, reduceLT, clsA, reduceLeDiff, reduceMul, reduceSub, reduceIte, ho, ll, stl_one, stl_len, onec, o_s64, o_s32, one_s64, one_s32]
    simp only [← hK0]
    refine callK (t7 hl0 hi) ?_
    rintro _ K1 ⟨k1, hm⟩
    rcases hm with rfl | ⟨b, he, rfl, hMF⟩
    · simp (disch := first | assumption | omega | (simp only [LN] <;> omega) | (simp (disch := first | assumption | omega | (simp only [LN] <;> omega)) only [row_alloc, row_set]; assumption)) only [W_block, P3, ↓reduceIte, reduceAdd, reduceEqDiff, reduceCtorEq, initFr, reduceLT, clsA, reduceLeDiff, reduceMul, reduceSub, reduceIte]
      refine callK (t8 _) ?_
      rintro _ X ⟨rfl, hX⟩
      rw [hX]
      simp (disch := first | assumption | omega | (simp only [LN] <;> omega) | (simp (disch := first | assumption | omega | (simp only [LN] <;> omega)) only [row_alloc, row_set]; assumption)) only [W_block, P3, ↓reduceIte, reduceAdd, reduceEqDiff, reduceCtorEq, initFr, reduceLT, clsA, reduceLeDiff, reduceMul, reduceSub, reduceIte]
      exact hq2 _ _ ⟨_, rfl, rfl⟩
    have gi1 := k1.at_ gi0
    have gs1 := k1.at_ gs0
    have gl1 := k1.at_ gl0
    by_cases hbig : (100 : Int) < ((cs.length : Nat) : Int)
    · simp (disch := first | assumption | omega | (simp only [LN] <;> omega) | (simp (disch := first | assumption | omega | (simp only [LN] <;> omega)) only [row_alloc, row_set]; assumption)) only [W_block, P3, ↓reduceIte, reduceAdd, reduceEqDiff, reduceCtorEq, initFr, reduceLT, clsA, reduceLeDiff, reduceMul, reduceSub, reduceIte, gi1, isc, clen, hbig]
      refine callK (t8 _) ?_
      rintro _ X ⟨rfl, hX⟩
      rw [hX]
      simp (disch := first | assumption | omega | (simp only [LN] <;> omega) | (simp (disch := first | assumption | omega | (simp only [LN] <;> omega)) only [row_alloc, row_set]; assumption)) only [W_block, P3, ↓reduceIte, reduceAdd, reduceEqDiff, reduceCtorEq, initFr, reduceLT, clsA, reduceLeDiff, reduceMul, reduceSub, reduceIte]
      exact hq2 _ _ ⟨_, rfl, rfl⟩
    have hL := may_lim (check_may he)
    have lrr := hL.r
    simp (disch := first | assumption | omega | (simp only [LN] <;> omega) | (simp (disch := first | assumption | omega | (simp only [LN] <;> omega)) only [row_alloc, row_set]; assumption)) only [W_block, P3, ↓reduceIte, reduceAdd, reduceEqDiff, reduceCtorEq, initFr, reduceLT, clsA, reduceLeDiff, reduceMul, reduceSub, reduceIte, gi1, gl1, isc, clen, hbig, ll]
    refine callK (t16 (hl0.keeps k1) hi he) ?_
    rintro _ K2 ⟨k2, a, rfl, hA⟩
    have hM := hMF.r.keeps k2
    have gi2 := k2.at_ gi1
    have gs2 := k2.at_ gs1
    have hc2 := (hc0.keeps k1).keeps k2
    have l1 := AHeap.get_lt gs2
    have l2 := AHeap.get_lt gi2
    have hcs : cs.length ≤ 1000000 := by omega
    have hcl2 : CL K2 cv cs := hc2.s
    have t1 := fun Z (k : Keeps K2 Z) => t14 (s := s) (x := x) (hM.keeps k) hL (hcl2.keeps k) hcs
    have t2 := fun Z (k : Keeps K2 Z) => t17 (s := s) (x := x) (hA.keeps k) he (hc2.keeps k) hcs hkd
    have hst := step_eq he s x cs
    have hpr : prB L x (stepD L s x cs) = fun i => decide (i < L.r.length) && proD L x (stepD L s x cs) i := funext fun i => pr_eq he _ i
    rw [hst, hpr] at t1
    obtain ⟨t, ht⟩ : ∃ t, t = stepD L s x cs := ⟨_, rfl⟩
    obtain ⟨pr, hprr⟩ : ∃ pr : Nat → Bool, pr = fun i => decide (i < L.r.length) && proD L x t i := ⟨_, rfl⟩
    simp only [hinl] at t1 t2
    rw [← ht, ← hprr] at t1 t2
    simp (disch := first | assumption | omega | (simp only [LN] <;> omega) | (simp (disch := first | assumption | omega | (simp only [LN] <;> omega)) only [row_alloc, row_set]; assumption)) only [W_block, P3, ↓reduceIte, reduceAdd, reduceEqDiff, reduceCtorEq, initFr, reduceLT, clsA, reduceLeDiff, reduceMul, reduceSub, reduceIte, gs2, gi2, rng68, l1, l2]
    refine callK (t1 _ (Keeps.refl _)) ?_
    rintro _ X' ⟨rfl, hX'⟩
    rw [hX']
    obtain ⟨Y1, hY1⟩ : ∃ Z, Z = (K2.alloc (.cells true false 68 (stl t) 32)).alloc (.cells true false 2 [S64 pr, S32 t.po] 52) := ⟨_, rfl⟩
    have kk1 : Keeps K2 Y1 := by rw [hY1]; exact ((Keeps.refl K2).alloc _).alloc _
    have ga1 : Y1.get K2.n = some (.cells true false 68 (stl t) 32) := by rw [hY1]; exact ((Keeps.refl _).alloc _).at_ (AHeap.get_alloc_new K2 _)
    have gb1 : Y1.get (K2.n + 1) = some (.cells true false 2 [S64 pr, S32 t.po] 52) := by rw [hY1]; exact AHeap.get_alloc_new (K2.alloc _) _
    have gs3 := kk1.at_ gs2
    have gi3 := kk1.at_ gi2
    simp (disch := first | assumption | omega | (simp only [LN] <;> omega) | (simp (disch := first | assumption | omega | (simp only [LN] <;> omega)) only [row_alloc, row_set]; assumption)) only [W_block, P3, ↓reduceIte, reduceAdd, reduceEqDiff, reduceCtorEq, initFr, reduceLT, clsA, reduceLeDiff, reduceMul, reduceSub, reduceIte, gs2, gi2, rng68, stn68s, stl_one, stl_len, Z68I_z, o_s64, o_s32, one_s64, one_s32, l1, l2]
    simp only [← hY1]
    have m1 := AHeap.get_lt gs3
    have m2 := AHeap.get_lt gi3
    refine callK (t2 _ kk1) ?_
    rintro _ X' ⟨rfl, hX'⟩
    rw [hX']
    obtain ⟨Y2, hY2⟩ : ∃ Z, Z = (Y1.alloc (.cells true false 68 (stl t) 32)).alloc (.cells true false 2 [S64 pr, S32 t.po] 52) := ⟨_, rfl⟩
    have kk2 : Keeps Y1 Y2 := by rw [hY2]; exact ((Keeps.refl Y1).alloc _).alloc _
    have ga2 : Y2.get Y1.n = some (.cells true false 68 (stl t) 32) := by rw [hY2]; exact ((Keeps.refl _).alloc _).at_ (AHeap.get_alloc_new Y1 _)
    have gb2 : Y2.get (Y1.n + 1) = some (.cells true false 2 [S64 pr, S32 t.po] 52) := by rw [hY2]; exact AHeap.get_alloc_new (Y1.alloc _) _
    have gs4 := kk2.at_ gs3
    have e1a := kk2.at_ ga1
    have e1b := kk2.at_ gb1
    have m3 := AHeap.get_lt gs4
    have m4 := AHeap.get_lt e1a
    have m5 := AHeap.get_lt e1b
    have m6 := AHeap.get_lt ga2
    have m7 := AHeap.get_lt gb2
    have eqs0 := fun K a c => eq_stl K false a c
    have eqo := fun K => eq_out2 K false pr t.po
    have rg2 : ∀ (o r : Bool) (T : Nat), rangeO (some (.cells o r 2 [S64 pr, S32 t.po] T)) 0 2 = some [S64 pr, S32 t.po] := fun o r T => rng_full rfl
    have bb : ∀ x : Bool, (x == x) = true := fun x => by cases x <;> rfl
    have hM4 := (hM.keeps kk1).keeps kk2
    have hA4 := (hA.keeps kk1).keeps kk2
    simp (disch := first | assumption | omega | (simp only [LN] <;> omega) | (simp (disch := first | assumption | omega | (simp only [LN] <;> omega)) only [row_alloc, row_set]; assumption)) only [W_block, P3, ↓reduceIte, reduceAdd, reduceEqDiff, reduceCtorEq, initFr, reduceLT, clsA, reduceLeDiff, reduceMul, reduceSub, reduceIte, gs3, gi3, rng68, stn68s, stl_one, stl_len, Z68I_z, o_s64, o_s32, one_s64, one_s32, m1, m2]
    simp only [← hY2]
    simp (disch := first | assumption | omega | (simp only [LN] <;> omega) | (simp (disch := first | assumption | omega | (simp only [LN] <;> omega)) only [row_alloc, row_set]; assumption)) only [W_block, P3, ↓reduceIte, reduceAdd, reduceEqDiff, reduceCtorEq, initFr, reduceLT, clsA, reduceLeDiff, reduceMul, reduceSub, reduceIte, gs4, e1a, e1b, ga2, gb2, m3, m4, m5, m6, m7, rng68, rg2, eqs0, eqo, staB_rfl, O68I_r]
    refine callK (t9 hM4 s) ?_
    rintro _ X ⟨rfl, hX⟩
    rw [hX]
    simp (disch := first | assumption | omega | (simp only [LN] <;> omega) | (simp (disch := first | assumption | omega | (simp only [LN] <;> omega)) only [row_alloc, row_set]; assumption)) only [W_block, P3, ↓reduceIte, reduceAdd, reduceEqDiff, reduceCtorEq, initFr, reduceLT, clsA, reduceLeDiff, reduceMul, reduceSub, reduceIte, gs4, e1a, e1b, ga2, gb2, m3, m4, m5, m6, m7, rng68, rg2, eqs0, eqo, staB_rfl, O68I_r]
    refine callK (t18 hA4 lrr s) ?_
    rintro _ X ⟨rfl, hX⟩
    rw [hX]
    simp (disch := first | assumption | omega | (simp only [LN] <;> omega) | (simp (disch := first | assumption | omega | (simp only [LN] <;> omega)) only [row_alloc, row_set]; assumption)) only [W_block, P3, ↓reduceIte, reduceAdd, reduceEqDiff, reduceCtorEq, initFr, reduceLT, clsA, reduceLeDiff, reduceMul, reduceSub, reduceIte, gs4, e1a, e1b, ga2, gb2, m3, m4, m5, m6, m7, rng68, rg2, eqs0, eqo, staB_rfl, O68I_r]
    refine callK (t11 hM4 lrr s) ?_
    rintro _ X ⟨rfl, hX⟩
    rw [hX, rgt_eq he]
    simp (disch := first | assumption | omega | (simp only [LN] <;> omega) | (simp (disch := first | assumption | omega | (simp only [LN] <;> omega)) only [row_alloc, row_set]; assumption)) only [W_block, P3, ↓reduceIte, reduceAdd, reduceEqDiff, reduceCtorEq, initFr, reduceLT, clsA, reduceLeDiff, reduceMul, reduceSub, reduceIte, gs4, e1a, e1b, ga2, gb2, m3, m4, m5, m6, m7, rng68, rg2, eqs0, eqo, staB_rfl, O68I_r]
    refine callK (t19 hA4 he s) ?_
    rintro _ X ⟨rfl, hX⟩
    rw [hX]
    simp (disch := first | assumption | omega | (simp only [LN] <;> omega) | (simp (disch := first | assumption | omega | (simp only [LN] <;> omega)) only [row_alloc, row_set]; assumption)) only [W_block, P3, ↓reduceIte, reduceAdd, reduceEqDiff, reduceCtorEq, initFr, reduceLT, clsA, reduceLeDiff, reduceMul, reduceSub, reduceIte, bb]
    refine callK (t8 _) ?_
    rintro _ X ⟨rfl, hX⟩
    rw [hX]
    simp (disch := first | assumption | omega | (simp only [LN] <;> omega) | (simp (disch := first | assumption | omega | (simp only [LN] <;> omega)) only [row_alloc, row_set]; assumption)) only [W_block, P3, ↓reduceIte, reduceAdd, reduceEqDiff, reduceCtorEq, initFr, reduceLT, clsA, reduceLeDiff, reduceMul, reduceSub, reduceIte]
    exact hq2 _ _ ⟨_, rfl, rfl⟩
end Go.AM.Fd
