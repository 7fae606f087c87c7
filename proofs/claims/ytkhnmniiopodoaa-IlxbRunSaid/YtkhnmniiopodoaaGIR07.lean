/- Part of the proof. -/
import Derived.Test.YtkhnmniiopodoaaGIR06
set_option linter.unusedSimpArgs false
set_option linter.unusedVariables false
set_option linter.unusedSimpArgs false
set_option linter.unusedVariables false
set_option maxRecDepth 20000
namespace Go.AM.Fd
open Go.Proofs Go.AM.F
structure RI (L : Ly) (s : Sta) : Prop where
  lo : ∀ j, s.lo j = true → j < L.r.length
  us : ∀ j, s.us j = true → s.lo j = true
  ca : ∀ j, s.ca j = true → s.lo j = true
  ti : ∀ j, s.ti j ≤ 20
  tz : ∀ j, s.ca j = false → s.ti j = 0
  po : ∀ j, s.po j = true → j < L.p.length
  cf : ∀ i k, s.lo i = true → s.lo k = true → i ≠ k → cf L i k = false
  nd : ∀ i, s.lo i = true → ∀ z ∈ nds (ro L i), s.po z.1.toNat = z.2
theorem ri_0 (L : Ly) : RI L Sta0 := ⟨fun _ h => (by cases h), fun _ h => (by cases h), fun _ h => (by cases h), fun _ => Nat.zero_le _, fun _ _ => rfl, fun _ h => (by cases h), fun _ _ h => (by cases h), fun _ h => (by cases h)⟩
theorem ri_tidy {L : Ly} {s : Sta} (h : RI L s) : tidyS L s = s := by
  obtain ⟨lo, us, ca, ti, po⟩ := s
  have low : ∀ j, (lo j && lowP L.r.length j) = lo j := fun j => by
    cases e : lo j with
    | false => rfl
    | true => have := h.lo j e; unfold lowP; simp; omega
  unfold tidyS
  congr 1
  · funext j; exact low j
  · funext j
    show (us j && (lo j && lowP L.r.length j)) = us j
    rw [low]
    cases e : us j with
    | false => rfl
    | true => rw [show lo j = true from h.us j e]; rfl
  · funext j
    show (ca j && (lo j && lowP L.r.length j)) = ca j
    rw [low]
    cases e : ca j with
    | false => rfl
    | true => rw [show lo j = true from h.ca j e]; rfl
  · funext j
    show (if (ca j && (lo j && lowP L.r.length j)) = true then min (ti j) 20 else 0) = ti j
    rw [low]
    have ht : ti j ≤ 20 := h.ti j
    cases e : ca j with
    | false => have := h.tz j e; simp only at this; simp [this]
    | true => rw [show lo j = true from h.ca j e]; simp; omega
  · funext j
    show (po j && lowP L.p.length j) = po j
    cases e : po j with
    | false => rfl
    | true => have := h.po j e; unfold lowP; simp; omega
theorem ri_right {L : Ly} {s : Sta} (h : RI L s) : rgtD L s = true := by
  unfold rgtD
  rw [ri_tidy h, staB_rfl, Bool.true_and, List.all_eq_true]
  intro i hi
  unfold iOK
  rw [Bool.and_eq_true, Bool.or_eq_true]
  refine ⟨?_, ?_⟩
  · cases e : s.lo i with
    | false => exact .inl rfl
    | true =>
      right
      rw [List.all_eq_true]
      intro k hk
      unfold kOK
      by_cases ek : i = k
      · simp [ek]
      · cases e2 : s.lo k with
        | false => simp
        | true => simp [h.cf i k e e2 ek]
  · rw [List.all_eq_true]
    intro z hz
    unfold nOK
    cases e : s.lo i with
    | false => rfl
    | true => rw [h.nd i e z hz]; simp
theorem ri_side {L : Ly} (he : checkE L = 0) {i k : Nat} (hi : i < L.r.length) (hk : k < L.r.length) (hc : cf L i k = false) {p : Int} {a b : Bool} (h1 : (p, a) ∈ nds (ro L i)) (h2 : (p, b) ∈ nds (ro L k)) : a = b := by
  have s1 := (side_mem (nds_nodup he hi)).1 h1
  have s2 := (side_mem (nds_nodup he hk)).1 h2
  have hg := (check_good he (List.getElem_mem hi)).nd (p, a) (by rw [← ro_eq hi]; exact h1)
  obtain ⟨m, rfl⟩ : ∃ m : Nat, p = (m : Int) := ⟨p.toNat, by have := hg.1; simp only at this; omega⟩
  have hm : m < L.p.length := by have := hg.2; simp only at this; omega
  unfold cf confB at hc
  rw [Bool.or_eq_false_iff] at hc
  have := (List.any_eq_false.1 hc.2) m (List.mem_range.2 hm)
  simp only [cPt, s1, s2, Option.isSome_some, Bool.and_self, Bool.true_or, Bool.true_and, Bool.not_eq_true, Bool.not_eq_false'] at this
  simpa using this
theorem ri_set {L : Ly} {x : Inp} {s : Sta} (he : checkE L = 0) (h : RI L s) {i : Nat} (hi : i < L.r.length) (hs : setD L x s i = true) : RI L { s with lo := fun j => s.lo j || decide (j = i), po := poD (nds (ro L i)) s.po } := by
  unfold setD at hs
  simp only [Bool.and_eq_true, Bool.not_eq_true', List.all_eq_true, List.mem_range] at hs
  obtain ⟨⟨hlo, hfr⟩, hcf, hnd⟩ := hs
  have hn := nds_nodup he hi
  have h0 : ∀ z ∈ nds (ro L i), 0 ≤ z.1 := fun z hz => (nd_rng he hi z hz).1
  have hcfi : ∀ k, s.lo k = true → cf L i k = false := fun k hk => by
    have := hcf k (h.lo k hk)
    rw [hk] at this; simpa using this
  have hcm : ∀ k, cf L k i = cf L i k := fun k => conf_comm L _ _
  have lo' : ∀ j, (s.lo j || decide (j = i)) = true → s.lo j = true ∨ j = i := fun j e => by simpa using e
  have poz : ∀ z ∈ nds (ro L i), poD (nds (ro L i)) s.po z.1.toNat = z.2 := fun z hz => by
    rw [poD_side hn h0]
    have e : ((z.1.toNat : Nat) : Int) = z.1 := by have := h0 z hz; omega
    rw [e, (side_mem hn).1 (show (z.1, z.2) ∈ _ from hz)]
  refine ⟨fun j e => ?_, fun j e => ?_, fun j e => ?_, h.ti, h.tz, fun j e => ?_, fun a b ea eb hab => ?_, fun k e z hz => ?_⟩
  · rcases lo' j e with e | e
    · exact h.lo j e
    · rw [e]; exact hi
  · show (s.lo j || _) = true
    rw [h.us j e]; rfl
  · show (s.lo j || _) = true
    rw [h.ca j e]; rfl
  · have e' : poD (nds (ro L i)) s.po j = true := e
    rw [poD_side hn h0] at e'
    cases hsd : sideO (j : Int) (nds (ro L i)) with
    | none => rw [hsd] at e'; exact h.po j e'
    | some b =>
      have hm := (side_mem hn).2 hsd
      have hg := (check_good he (List.getElem_mem hi)).nd _ (by rw [← ro_eq hi]; exact hm)
      have := hg.2; simp only at this; omega
  · rcases lo' a ea with e1 | e1 <;> rcases lo' b eb with e2 | e2
    · exact h.cf a b e1 e2 hab
    · subst e2; rw [hcm]; exact hcfi a e1
    · subst e1; exact hcfi b e2
    · exact absurd (e1.trans e2.symm) hab
  · rcases lo' k e with e1 | e1
    · have hk := h.lo k e1
      show poD (nds (ro L i)) s.po z.1.toNat = z.2
      rw [poD_side hn h0]
      have ez : ((z.1.toNat : Nat) : Int) = z.1 := by have := (nd_rng he hk z hz).1; omega
      rw [ez]
      cases hsd : sideO z.1 (nds (ro L i)) with
      | none => exact h.nd k e1 z hz
      | some b =>
        have hm := (side_mem hn).2 hsd
        exact ri_side he hi hk (hcfi k e1) hm hz
    · subst e1; exact poz z hz
theorem ri_com {L : Ly} {x : Inp} {s : Sta} (he : checkE L = 0) (h : RI L s) (kd n : Int) : RI L (comD L x s kd n) := by
  unfold comD
  by_cases hok : okC L kd n = true
  case neg => rw [if_neg hok]; exact h
  rw [if_pos hok]
  have hb := hok
  unfold okC at hb
  simp only [Bool.and_eq_true, decide_eq_true_eq] at hb
  by_cases h1 : kd = 1 ∧ setD L x s n.toNat = true
  · rw [if_pos h1]
    have hn : n.toNat < L.r.length := by have := hb.2; rw [h1.1] at this; simp at this; omega
    exact ri_set he h hn h1.2
  rw [if_neg h1]
  by_cases h2 : kd = 2 ∧ ((s.lo n.toNat && !s.us n.toNat) && !s.ca n.toNat) = true
  · rw [if_pos h2]
    have hl : s.lo n.toNat = true := by have := h2.2; simp at this; exact this.1.1
    refine ⟨h.lo, h.us, fun j e => ?_, upd_le h.ti (by split <;> omega), fun j e => ?_, h.po, h.cf, h.nd⟩
    · have e' : (s.ca j || decide (j = n.toNat)) = true := e
      rw [Bool.or_eq_true, decide_eq_true_eq] at e'
      rcases e' with e' | e'
      · exact h.ca j e'
      · rw [e']; exact hl
    · have e' : (s.ca j || decide (j = n.toNat)) = false := e
      rw [Bool.or_eq_false_iff, decide_eq_false_iff_not] at e'
      show upd _ _ _ j = 0
      unfold upd; rw [if_neg e'.2]; exact h.tz j e'.1
  rw [if_neg h2]
  by_cases h3 : kd = 3 ∧ (!hasB x.oc (L.p.getD n.toNat ([], 0)).2 && !needD L s n) = true
  · rw [if_pos h3]
    have hn : n.toNat < L.p.length := by have := hb.2; rw [h3.1] at this; simp at this; omega
    have hnd : needD L s n = false := by have := h3.2; simp at this; exact this.2
    have hne : ((n.toNat : Nat) : Int) = n := by omega
    refine ⟨h.lo, h.us, h.ca, h.ti, h.tz, fun j e => ?_, h.cf, fun k e z hz => ?_⟩
    · have e' : (s.po j ^^ decide (j = n.toNat)) = true := e
      by_cases ej : j = n.toNat
      · omega
      · simp [ej] at e'; exact h.po j e'
    · show (s.po z.1.toNat ^^ decide (z.1.toNat = n.toNat)) = z.2
      have hk := h.lo k e
      have hz0 := (nd_rng he hk z hz).1
      have hne2 : z.1.toNat ≠ n.toNat := fun e2 => by
        have : z.1 = n := by omega
        unfold needD at hnd
        have h5 := (List.any_eq_false.1 hnd) k (List.mem_range.2 hk)
        have h6 : ((nds (ro L k)).any fun z => s.lo k && (z.1 == n)) = true := List.any_eq_true.2 ⟨z, hz, by rw [e, this]; simp⟩
        exact h5 h6
      simp [hne2]; exact h.nd k e z hz
  · rw [if_neg h3]; exact h
theorem ri_cmd {L : Ly} {x : Inp} (he : checkE L = 0) : ∀ {cs : List (Int × Int)} {s : Sta}, RI L s → RI L (cmdD L x s cs)
  | [], s, h => h
  | c :: cs, s, h => ri_cmd he (cs := cs) (ri_com he h _ _)
theorem ri_rel {L : Ly} {s : Sta} (h : RI L s) (i : Nat) : RI L (relS s i) := by
  have sub : ∀ j, (relS s i).lo j = true → s.lo j = true := fun j e => by
    have e' : (s.lo j && !decide (j = i)) = true := e
    simp at e'; exact e'.1
  refine ⟨fun j e => h.lo j (sub j e), fun j e => ?_, fun j e => ?_, upd_le h.ti (by omega), fun j e => ?_, h.po, fun a b ea eb hab => h.cf a b (sub a ea) (sub b eb) hab, fun k e z hz => h.nd k (sub k e) z hz⟩
  · have e' : (s.us j && !decide (j = i)) = true := e
    show (s.lo j && !decide (j = i)) = true
    rw [Bool.and_eq_true] at e' ⊢
    exact ⟨h.us j e'.1, e'.2⟩
  · have e' : (s.ca j && !decide (j = i)) = true := e
    show (s.lo j && !decide (j = i)) = true
    rw [Bool.and_eq_true] at e' ⊢
    exact ⟨h.ca j e'.1, e'.2⟩
  · have e' : (s.ca j && !decide (j = i)) = false := e
    show upd s.ti i 0 j = 0
    unfold upd
    by_cases ej : j = i
    · rw [if_pos ej]
    · rw [if_neg ej]
      simp [ej] at e'; exact h.tz j e'
theorem ri_ro {L : Ly} {x : Inp} {us : Nat → Bool} {s : Sta} (h : RI L s) {i : Nat} (hl : s.lo i = true) : RI L (roD L x us s i) := by
  unfold roD
  split
  · split
    · exact ri_rel h i
    · exact h
  · split
    · refine ⟨h.lo, fun j e => ?_, h.ca, h.ti, h.tz, h.po, h.cf, h.nd⟩
      have e' : (s.us j || decide (j = i)) = true := e
      rw [Bool.or_eq_true, decide_eq_true_eq] at e'
      rcases e' with e' | e'
      · exact h.us j e'
      · rw [e']; exact hl
    · split
      · rename_i h3
        rw [Bool.and_eq_true] at h3
        refine ⟨h.lo, h.us, h.ca, upd_le h.ti (by have := h.ti i; omega), fun j e => ?_, h.po, h.cf, h.nd⟩
        show upd _ _ _ j = 0
        unfold upd
        by_cases ej : j = i
        · subst ej; have e' : s.ca j = false := e; rw [h3.1] at e'; cases e'
        · rw [if_neg ej]; exact h.tz j e
      · split
        · exact ri_rel h i
        · exact h
theorem ri_ros {L : Ly} {x : Inp} {us : Nat → Bool} {s : Sta} (h : RI L s) : ∀ k, RI L (rosD L x us s k)
  | 0 => h
  | k + 1 => by
    rw [rosD_s]
    split
    · rename_i e; exact ri_ro (ri_ros h k) e
    · exact ri_ros h k
theorem ri_step {L : Ly} (he : checkE L = 0) {s : Sta} (h : RI L s) (x : Inp) (cs : List (Int × Int)) : RI L (stepD L s x cs) := by
  unfold stepD
  rw [ri_tidy h]
  exact ri_ros (ri_cmd he h) _
end Go.AM.Fd

set_option linter.unusedSimpArgs false
set_option linter.unusedVariables false
set_option maxRecDepth 20000
namespace Go.AM.Fd
open Nat (reduceAdd reduceEqDiff reduceLT reduceLeDiff reduceMul reduceSub)
open Go.Proofs Go.AM.F
structure IV where
  x : Inp
  v : Value
  c : List (Int × Int)
def iv0 : IV := ⟨xn, .slice none 0 0, []⟩
def ivRow (p : IV) : List Value := inl p.x p.v
structure InL (H : AHeap) (v : Value) (l : List IV) : Prop where
  s : Sl H 4 v (l.map ivRow)
  c : ∀ p ∈ l, SlC H 2 p.v (p.c.map cRow) ∧ ∀ c ∈ p.c, 0 ≤ c.1 ∧ c.1 < 256
theorem InL.keeps {H K : AHeap} {v : Value} {l : List IV} (h : InL H v l) (k : Keeps H K) : InL K v l := ⟨h.s.keeps k, fun p hp => ⟨(h.c p hp).1.keeps k, (h.c p hp).2⟩⟩
theorem InL.at_ {H : AHeap} {v : Value} {l : List IV} (h : InL H v l) {i : Nat} (hi : i < l.length) : nnS v = true ∧ rowA H 4 v i = some (inl (l.getD i iv0).x (l.getD i iv0).v) := by
  have := Sl.at_ h.s (by omega) (i := i) (by simpa using hi)
  refine ⟨this.1, ?_⟩
  rw [this.2]; simp [List.getD, List.getElem?_eq_getElem hi, ivRow]
theorem av_inps {H : AHeap} {v : Value} (h : AV Go.Proofs.Try.prog H.get 57 v) : ∃ l : List IV, isS v = true ∧ InL H v l := by
  have h1 := h.2.2 (by kernel_rfl)
  have hc : v.cells.toList = [v] := by rw [cells_one h1]
  have h2 := h.1
  rw [hc] at h2
  obtain ⟨rows, ⟨hr, lr⟩, hrow⟩ := ar_slc (e := 43) (esz := 4) (by kernel_rfl) (by kernel_rfl) h2
  obtain ⟨l, rfl, hl⟩ := list_choose (f := ivRow) (Q := fun p : IV => SlC H 2 p.v (p.c.map cRow) ∧ ∀ c ∈ p.c, 0 ≤ c.1 ∧ c.1 < 256) (l := rows) (fun r hm => by
    obtain ⟨x, cv, cs, e, a, _, b⟩ := inp_of (hrow r hm)
    exact ⟨⟨x, cv, cs⟩, e, a, b⟩)
  exact ⟨l, Sl.is hr.s, hr.s, hl⟩
set_option maxHeartbeats 8000000 in
theorem lawRun : ∀ H args, NoOwn H → AVs Go.Proofs.Try.prog H.get [27, 57] args → ∃ H', ARun Go.Proofs.Try.prog 0 5 args H (.bool true) H' := by
  intro H args _ h
  match args, h with
  | [v, y], ⟨h0, h1, _⟩ =>
    obtain ⟨u, xs, L, rfl, hl, hi⟩ := av_ly h0
    obtain ⟨ins, isy, hin⟩ := av_inps h1
    suffices h' : ∃ w H', ARun Go.Proofs.Try.prog 0 5 [.agg u.l.toArray, y] H w H' ∧ w = .bool true by
      obtain ⟨_, K, a, rfl⟩ := h'
      exact ⟨K, a⟩
    refine walk2 f5_ok f5_n ?_
    intro Q hq1 hq2
    have ho := ly_ones hl
    have ll : u.l.length = 4 := rfl
    have leny : lenS y = ins.length := by have := Sl.len hin.s; simpa using this
    obtain ⟨K0, hK0⟩ : ∃ X, X = H.alloc (.cells true false 4 u.l 27) := ⟨_, rfl⟩
    have k0 : Keeps H K0 := by rw [hK0]; exact (Keeps.refl H).alloc _
    have gl0 : K0.get H.n = some (.cells true false 4 u.l 27) := by rw [hK0]; exact AHeap.get_alloc_new H _
    have hl0 := hl.keeps k0
    simp (disch := first | assumption | omega | (simp only [LN] <;> omega) | (simp (disch := first | assumption | omega | (simp only [LN] <;> omega)) only [row_alloc, row_set]; assumption)) only [f5, W_block, P3, ↓reduceIte, reduceAdd, reduceEqDiff, reduceCtorEq, initFr, reduceLT, clsA, reduceLeDiff, reduceMul, reduceSub, reduceIte, ho, ll]
    simp only [← hK0]
    refine callK (t7 hl0 hi) ?_
    rintro _ K1 ⟨k1, hm⟩
    rcases hm with rfl | ⟨b, he, rfl, hMF⟩
    · simp (disch := first | assumption | omega | (simp only [LN] <;> omega) | (simp (disch := first | assumption | omega | (simp only [LN] <;> omega)) only [row_alloc, row_set]; assumption)) only [W_block, P3, ↓reduceIte, reduceAdd, reduceEqDiff, reduceCtorEq, initFr, reduceLT, clsA, reduceLeDiff, reduceMul, reduceSub, reduceIte]
      refine callK (t8 _) ?_
      rintro _ X ⟨rfl, hX⟩
      rw [hX]
      simp (disch := first | assumption | omega | (simp only [LN] <;> omega) | (simp (disch := first | assumption | omega | (simp only [LN] <;> omega)) only [row_alloc, row_set]; assumption)) only [W_block, P3, ↓reduceIte, reduceAdd, reduceEqDiff, reduceCtorEq, initFr, reduceLT, clsA, reduceLeDiff, reduceMul, reduceSub, reduceIte]
      exact hq2 _ _ ⟨_, rfl, rfl⟩
    have gl1 := k1.at_ gl0
    by_cases hbig : (60 : Int) < ((ins.length : Nat) : Int)
    · simp (disch := first | assumption | omega | (simp only [LN] <;> omega) | (simp (disch := first | assumption | omega | (simp only [LN] <;> omega)) only [row_alloc, row_set]; assumption)) only [W_block, P3, ↓reduceIte, reduceAdd, reduceEqDiff, reduceCtorEq, initFr, reduceLT, clsA, reduceLeDiff, reduceMul, reduceSub, reduceIte, isy, leny, hbig]
      refine callK (t8 _) ?_
      rintro _ X ⟨rfl, hX⟩
      rw [hX]
      simp (disch := first | assumption | omega | (simp only [LN] <;> omega) | (simp (disch := first | assumption | omega | (simp only [LN] <;> omega)) only [row_alloc, row_set]; assumption)) only [W_block, P3, ↓reduceIte, reduceAdd, reduceEqDiff, reduceCtorEq, initFr, reduceLT, clsA, reduceLeDiff, reduceMul, reduceSub, reduceIte]
      exact hq2 _ _ ⟨_, rfl, rfl⟩
    have hL := may_lim (check_may he)
    have lrr := hL.r
    simp (disch := first | assumption | omega | (simp only [LN] <;> omega) | (simp (disch := first | assumption | omega | (simp only [LN] <;> omega)) only [row_alloc, row_set]; assumption)) only [W_block, P3, ↓reduceIte, reduceAdd, reduceEqDiff, reduceCtorEq, initFr, reduceLT, clsA, reduceLeDiff, reduceMul, reduceSub, reduceIte, gl1, isy, leny, hbig, ll]
    refine callK (t16 (hl0.keeps k1) hi he) ?_
    rintro _ K2 ⟨k2, a, rfl, hA⟩
    have hM := hMF.r.keeps k2
    have hin2 := ((hin.keeps k0).keeps k1).keeps k2
    obtain ⟨K3, hK3⟩ : ∃ X, X = (K2.alloc (.cells true false 68 (stl Sta0) 32)).alloc (.cells true false 68 (stl Sta0) 32) := ⟨_, rfl⟩
    have k3 : Keeps K2 K3 := by rw [hK3]; exact ((Keeps.refl K2).alloc _).alloc _
    have n3 : K3.n = K2.n + 2 := by rw [hK3]; rfl
    have gs3 : K3.get K2.n = some (.cells true false 68 (stl Sta0) 32) := by rw [hK3]; exact ((Keeps.refl _).alloc _).at_ (AHeap.get_alloc_new K2 _)
    have gt3 : K3.get (K2.n + 1) = some (.cells true false 68 (stl Sta0) 32) := by rw [hK3]; exact AHeap.get_alloc_new (K2.alloc _) _
    simp (disch := first | assumption | omega | (simp only [LN] <;> omega) | (simp (disch := first | assumption | omega | (simp only [LN] <;> omega)) only [row_alloc, row_set]; assumption)) only [ P3, ↓reduceIte, reduceAdd, reduceEqDiff, reduceCtorEq, initFr, reduceLT, clsA, reduceLeDiff, reduceMul, reduceSub, reduceIte, stl_one, stl_len, Z68I_z]
    rw [← hK3]
    obtain ⟨A1, hA1⟩ : ∃ v : Value, v = .agg u.l.toArray := ⟨_, rfl⟩
    rw [W_block, ← hA1]
    refine W_loop2 (fun q fr X => ∃ i s x11 x12 x13 x14 x17 x18 x19, fr = [A1, y, ptr H.n 0, .bool false, ptr b 0, .bool true, ptr a 0, .int .i64 0, ptr K2.n 0, ptr (K2.n + 1) 0, .int .i64 ((i : Nat) : Int), x11, x12, x13, x14, .bool false, .bool false, x17, x18, x19] ∧
        Keeps K2 X ∧ X.get K2.n = some (.cells true false 68 (stl s) 32) ∧ X.get (K2.n + 1) = some (.cells true false 68 (stl s) 32) ∧ RI L s ∧ i ≤ ins.length ∧ q = ins.length - i) ins.length
      ⟨0, Sta0, _, _, _, _, _, _, _, rfl, k3, gs3, gt3, ri_0 L, by omega, rfl⟩ ?_
    rintro Q' q fr X ⟨i, s, x11, x12, x13, x14, x17, x18, x19, rfl, kX, gs, gt, hri, hi', rfl⟩ hn' hx' hret
    have ls := AHeap.get_lt gs
    have lt := AHeap.get_lt gt
    by_cases hlt : i < ins.length
    · have e0 : (0 : Int) ≤ (i : Int) := by omega
      have e1 : (i : Int) < ((ins.length : Nat) : Int) := by omega
      have hw : IntKind.i64.wrap ((i : Int) + 1) = ((i + 1 : Nat) : Int) := by rw [wrap_i64 (by omega) (by omega)]; simp
      have hinX := hin2.keeps kX
      obtain ⟨ny, ry⟩ := hinX.at_ hlt
      have hmem : ins.getD i iv0 ∈ ins := by rw [List.getD_eq_getElem?_getD, List.getElem?_eq_getElem hlt]; exact List.getElem_mem hlt
      obtain ⟨hc, hkd⟩ := hinX.c _ hmem
      have hry := fun Z (k : Keeps X Z) => ((hinX.keeps k).at_ hlt).2
      generalize ins.getD i iv0 = p at *
      obtain ⟨x, cv, cs⟩ := p
      simp only at hc hkd ry hry
      have isc := Sl.is hc.s
      have onec := Sl.one hc.s
      have clen : lenS cv = cs.length := by have := Sl.len hc.s; simpa using this
      have hinl : inl x cv = [S64 x.oc, S32 x.nr, S32 x.rv, cv] := rfl
      rw [hinl] at ry
      have ly := row_lt ry
      by_cases hbig2 : (100 : Int) < ((cs.length : Nat) : Int)
      · simp (disch := first | assumption | omega | (simp only [LN] <;> omega) | (simp (disch := first | assumption | omega | (simp only [LN] <;> omega)) only [row_alloc, row_set]; assumption)) only [W_block, P3, ↓reduceIte, reduceAdd, reduceEqDiff, reduceCtorEq, initFr, reduceLT, clsA, reduceLeDiff, reduceMul, reduceSub, reduceIte, isy, leny, e0, e1, ny, ry, a_load1v, isc, clen, hbig2]
        refine callK (t8 _) ?_
        rintro _ Z ⟨rfl, hZ⟩
        rw [hZ]
        simp (disch := first | assumption | omega | (simp only [LN] <;> omega) | (simp (disch := first | assumption | omega | (simp only [LN] <;> omega)) only [row_alloc, row_set]; assumption)) only [W_block, P3, ↓reduceIte, reduceAdd, reduceEqDiff, reduceCtorEq, initFr, reduceLT, clsA, reduceLeDiff, reduceMul, reduceSub, reduceIte]
        refine hret _ _ ?_
        exact hq2 _ _ ⟨_, rfl, rfl⟩
      have hcs : cs.length ≤ 1000000 := by omega
      have hMX := hM.keeps kX
      have hAX := hA.keeps kX
      have hclX : CL X cv cs := hc.s
      have t1 := fun Z (k : Keeps X Z) => t14 (s := s) (x := x) (hMX.keeps k) hL (Sl.keeps hclX k) hcs
      have t2 := fun Z (k : Keeps X Z) => t17 (s := s) (x := x) (hAX.keeps k) he (hc.keeps k) hcs hkd
      have hst := step_eq he s x cs
      have hpr : prB L x (stepD L s x cs) = fun i => decide (i < L.r.length) && proD L x (stepD L s x cs) i := funext fun i => pr_eq he _ i
      rw [hst, hpr] at t1
      have hri2 := ri_step he hri x cs
      obtain ⟨t, ht⟩ : ∃ t, t = stepD L s x cs := ⟨_, rfl⟩
      obtain ⟨pr, hprr⟩ : ∃ pr : Nat → Bool, pr = fun i => decide (i < L.r.length) && proD L x t i := ⟨_, rfl⟩
      simp only [hinl] at t1 t2
      rw [← ht] at hri2
      rw [← ht, ← hprr] at t1 t2
      simp (disch := first | assumption | omega | (simp only [LN] <;> omega) | (simp (disch := first | assumption | omega | (simp only [LN] <;> omega)) only [row_alloc, row_set]; assumption)) only [W_block, P3, ↓reduceIte, reduceAdd, reduceEqDiff, reduceCtorEq, initFr, reduceLT, clsA, reduceLeDiff, reduceMul, reduceSub, reduceIte, isy, leny, e0, e1, ny, ry, a_load1v, a_loadnvf, isc, clen, hbig2, gs, rng68, ls, ly]
      refine callK (t1 _ (Keeps.refl _)) ?_
      rintro _ X' ⟨rfl, hX'⟩
      rw [hX']
      obtain ⟨Y1, hY1⟩ : ∃ Z, Z = (X.alloc (.cells true false 68 (stl t) 32)).alloc (.cells true false 2 [S64 pr, S32 t.po] 52) := ⟨_, rfl⟩
      have kk1 : Keeps X Y1 := by rw [hY1]; exact ((Keeps.refl X).alloc _).alloc _
      have ga1 : Y1.get X.n = some (.cells true false 68 (stl t) 32) := by rw [hY1]; exact ((Keeps.refl _).alloc _).at_ (AHeap.get_alloc_new X _)
      have gb1 : Y1.get (X.n + 1) = some (.cells true false 2 [S64 pr, S32 t.po] 52) := by rw [hY1]; exact AHeap.get_alloc_new (X.alloc _) _
      have gt1 := kk1.at_ gt
      have gs1 := kk1.at_ gs
      have ry1 := hry _ kk1
      rw [hinl] at ry1
      have ly1 := row_lt ry1
      have m1 := AHeap.get_lt gt1
      simp (disch := first | assumption | omega | (simp only [LN] <;> omega) | (simp (disch := first | assumption | omega | (simp only [LN] <;> omega)) only [row_alloc, row_set]; assumption)) only [W_block, P3, ↓reduceIte, reduceAdd, reduceEqDiff, reduceCtorEq, initFr, reduceLT, clsA, reduceLeDiff, reduceMul, reduceSub, reduceIte, isy, leny, e0, e1, ny, ry1, ry, a_load1v, a_loadnvf, gt1, m1, ly1, gs, ls, ly, rng68, stn68s, stl_one, stl_len, Z68I_z, o_s64, o_s32, one_s64, one_s32]
      simp only [← hY1]
      simp (disch := first | assumption | omega | (simp only [LN] <;> omega) | (simp (disch := first | assumption | omega | (simp only [LN] <;> omega)) only [row_alloc, row_set]; assumption)) only [W_block, P3, ↓reduceIte, reduceAdd, reduceEqDiff, reduceCtorEq, initFr, reduceLT, clsA, reduceLeDiff, reduceMul, reduceSub, reduceIte, isy, leny, e0, e1, ny, ry1, ry, a_load1v, a_loadnvf, gt, gt1, m1, ly1, rng68]
      refine callK (t2 _ kk1) ?_
      rintro _ X' ⟨rfl, hX'⟩
      rw [hX']
      obtain ⟨Y2, hY2⟩ : ∃ Z, Z = (Y1.alloc (.cells true false 68 (stl t) 32)).alloc (.cells true false 2 [S64 pr, S32 t.po] 52) := ⟨_, rfl⟩
      have kk2 : Keeps Y1 Y2 := by rw [hY2]; exact ((Keeps.refl Y1).alloc _).alloc _
      have ga2 : Y2.get Y1.n = some (.cells true false 68 (stl t) 32) := by rw [hY2]; exact ((Keeps.refl _).alloc _).at_ (AHeap.get_alloc_new Y1 _)
      have gb2 : Y2.get (Y1.n + 1) = some (.cells true false 2 [S64 pr, S32 t.po] 52) := by rw [hY2]; exact AHeap.get_alloc_new (Y1.alloc _) _
      have e1a := kk2.at_ ga1
      have e1b := kk2.at_ gb1
      have gs2 := kk2.at_ gs1
      have gt2 := kk2.at_ gt1
      have eqs0 := fun K a c => eq_stl K true a c
      have eqo := fun K => eq_out2 K true pr t.po
      have rg2 : ∀ (o r : Bool) (T : Nat), rangeO (some (.cells o r 2 [S64 pr, S32 t.po] T)) 0 2 = some [S64 pr, S32 t.po] := fun o r T => rng_full rfl
      simp (disch := first | assumption | omega | (simp only [LN] <;> omega) | (simp (disch := first | assumption | omega | (simp only [LN] <;> omega)) only [row_alloc, row_set]; assumption)) only [W_block, P3, ↓reduceIte, reduceAdd, reduceEqDiff, reduceCtorEq, initFr, reduceLT, clsA, reduceLeDiff, reduceMul, reduceSub, reduceIte, gt1, m1, ly1, rng68, stn68s, stl_one, stl_len, Z68I_z, o_s64, o_s32, one_s64, one_s32]
      simp only [← hY2]
      simp (disch := first | assumption | omega | (simp only [LN] <;> omega) | (simp (disch := first | assumption | omega | (simp only [LN] <;> omega)) only [row_alloc, row_set]; assumption)) only [W_block, P3, ↓reduceIte, reduceAdd, reduceEqDiff, reduceCtorEq, initFr, reduceLT, clsA, reduceLeDiff, reduceMul, reduceSub, reduceIte, e1a, e1b, ga2, gb2, rng68, rg2, eqs0, eqo, staB_rfl, O68I_r]
      refine callK (t11 ((hMX.keeps kk1).keeps kk2) lrr t) ?_
      rintro _ X' ⟨rfl, hX'⟩
      rw [hX', rgt_eq he, ri_right hri2]
      have s1 := AHeap.get_lt gs2
      have s2 := AHeap.get_lt gt2
      have s3 : K2.n ≠ K2.n + 1 := by omega
      have ga2' : ∀ o, (Y2.set K2.n o).get Y1.n = some (.cells true false 68 (stl t) 32) := fun o => by
        rw [AHeap.get_set_other Y2 (by have := kk1.n; omega) s1]; exact ga2
      have gt2' : ∀ o, (Y2.set K2.n o).get (K2.n + 1) = some (.cells true false 68 (stl s) 32) := fun o => by
        rw [AHeap.get_set_other Y2 (by omega) s1]; exact gt2
      simp (disch := first | assumption | omega | (simp only [LN] <;> omega) | (simp (disch := first | assumption | omega | (simp only [LN] <;> omega)) only [row_alloc, row_set]; assumption)) only [W_block, P3, ↓reduceIte, reduceAdd, reduceEqDiff, reduceCtorEq, initFr, reduceLT, clsA, reduceLeDiff, reduceMul, reduceSub, reduceIte, e1a, e1b, ga2, gb2, ga2', gt2', gs2, gt2, rng68, stn68s, hw]
      refine hn' _ _ _ ⟨i + 1, t, _, _, _, _, _, _, _, rfl, (((kX.trans kk1).trans kk2).set (Nat.le_refl _) s1 _).set (by omega) (by rw [set_n]; exact s2) _, ?_, ?_, hri2, by omega, rfl⟩ (by omega)
      · rw [AHeap.get_set_other _ (by omega) (by rw [set_n]; exact s2)]; exact AHeap.get_set_same gs2 _
      · exact AHeap.get_set_same (gt2' _) _
    · have e1 : ¬ (i : Int) < ((ins.length : Nat) : Int) := by omega
      simp (disch := first | assumption | omega | (simp only [LN] <;> omega) | (simp (disch := first | assumption | omega | (simp only [LN] <;> omega)) only [row_alloc, row_set]; assumption)) only [W_block, P3, ↓reduceIte, reduceAdd, reduceEqDiff, reduceCtorEq, initFr, reduceLT, clsA, reduceLeDiff, reduceMul, reduceSub, reduceIte, isy, leny, e1]
      refine hx' _ _ _ ?_
      simp (disch := first | assumption | omega | (simp only [LN] <;> omega) | (simp (disch := first | assumption | omega | (simp only [LN] <;> omega)) only [row_alloc, row_set]; assumption)) only [W_block, P3, ↓reduceIte, reduceAdd, reduceEqDiff, reduceCtorEq, initFr, reduceLT, clsA, reduceLeDiff, reduceMul, reduceSub, reduceIte]
      refine callK (t8 _) ?_
      rintro _ Z ⟨rfl, hZ⟩
      rw [hZ]
      simp (disch := first | assumption | omega | (simp only [LN] <;> omega) | (simp (disch := first | assumption | omega | (simp only [LN] <;> omega)) only [row_alloc, row_set]; assumption)) only [W_block, P3, ↓reduceIte, reduceAdd, reduceEqDiff, reduceCtorEq, initFr, reduceLT, clsA, reduceLeDiff, reduceMul, reduceSub, reduceIte]
      exact hq2 _ _ ⟨_, rfl, rfl⟩
end Go.AM.Fd
