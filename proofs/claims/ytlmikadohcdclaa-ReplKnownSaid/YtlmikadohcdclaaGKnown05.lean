/- Part of the proof. -/
import Derived.Test.YtlmikadohcdclaaGKnown04
set_option linter.unusedSimpArgs false
set_option linter.unusedVariables false
namespace Go.AM.Rp
open Go.Proofs
def gO (O : List Lg) (i : Nat) : Lg := O.getD i L0
theorem gO_at {O : List Lg} {i : Nat} (h : i < O.length) : O[i] = gO O i := by simp [gO, h]
def wholeM (x : Lg) : Msg := { G0 with k := 1, e := x.e, c := x.c, s := x.s }
def partM (y x : Lg) : Msg := ⟨2, x.e, x.c, y.e, y.c, S0, diffD y.s x.s⟩
def MsgOf (O : List Lg) (m : Msg) : Prop := ∃ i, i < O.length ∧ (m = wholeM (gO O i) ∨ ∃ j, j < i ∧ m = partM (gO O j) (gO O i))
structure ScI (O l : List Lg) (a : Nat) (xi : Option Nat) (th bk : List Msg) : Prop where
 rise : Rise O
 ok : ∀ y ∈ O, SOK y.s ∧ 0 ≤ y.e ∧ y.e ≤ 1000 ∧ 0 ≤ y.c ∧ y.c ≤ 1000
 fl : l = O.drop (O.length - 8)
 fa : a ≤ l.length
 fx : ∀ j, xi = some j → j < O.length
 ft : ∀ m ∈ th, MsgOf O m
 fb : ∀ m ∈ bk, m = needM ∨ ∃ i, m = ackM (gO O i) ∧ ∃ j, xi = some j ∧ i ≤ j
 fk : 0 < a → ∃ j, xi = some j ∧ (O.length - l.length) + a ≤ j + 1
def xO (O : List Lg) (xi : Option Nat) : Option Lg := xi.map (gO O)
theorem inB2 {a b : Int} (h : 0 ≤ a ∧ a ≤ 1000 ∧ 0 ≤ b ∧ b ≤ 1000) : inB [a, b] = true := by
 have h1 : 0 ≤ mn [a, b] := by simp only [mn, List.foldl]; (repeat' split) <;> omega
 have h2 : mx [a, b] ≤ 1099511627776 := by simp only [mx, List.foldl]; (repeat' split) <;> omega
 unfold inB; rw [decide_eq_true h1, decide_eq_true h2]; rfl
theorem inB4 {a b c d : Int} (h : 0 ≤ a ∧ a ≤ 1000 ∧ 0 ≤ b ∧ b ≤ 1000) (h' : 0 ≤ c ∧ c ≤ 1000 ∧ 0 ≤ d ∧ d ≤ 1000) : inB [a, b, c, d] = true := by
 have h1 : 0 ≤ mn [a, b, c, d] := by simp only [mn, List.foldl]; (repeat' split) <;> omega
 have h2 : mx [a, b, c, d] ≤ 1099511627776 := by simp only [mx, List.foldl]; (repeat' split) <;> omega
 unfold inB; rw [decide_eq_true h1, decide_eq_true h2]; rfl
theorem ScI.g {O l : List Lg} {a : Nat} {xi : Option Nat} {th bk : List Msg} (h : ScI O l a xi th bk) {i : Nat} (hi : i < O.length) : SOK (gO O i).s ∧ 0 ≤ (gO O i).e ∧ (gO O i).e ≤ 1000 ∧ 0 ≤ (gO O i).c ∧ (gO O i).c ≤ 1000 := by
 rw [← gO_at hi]; exact h.ok _ (List.getElem_mem _)
theorem ScI.lt {O l : List Lg} {a : Nat} {xi : Option Nat} {th bk : List Msg} (h : ScI O l a xi th bk) {i j : Nat} (hi : i < j) (hj : j < O.length) : cmpL (gO O i) (gO O j) < 0 := by
 have := h.rise i j (by omega) hj hi
 rw [gO_at, gO_at] at this; exact this
theorem ScI.key {O l : List Lg} {a : Nat} {xi : Option Nat} {th bk : List Msg} (h : ScI O l a xi th bk) {i j : Nat} (hi : i < O.length) (hj : j < O.length) (e1 : (gO O i).e = (gO O j).e) (e2 : (gO O i).c = (gO O j).c) : i = j := by
 rcases Nat.lt_trichotomy i j with h1 | h1 | h1
 ·have := cmpL_lt.1 (h.lt h1 hj); omega
 ·exact h1
 ·have := cmpL_lt.1 (h.lt h1 hi); omega
theorem ScI.may {O l : List Lg} {a : Nat} {xi : Option Nat} {th bk : List Msg} (h : ScI O l a xi th bk) {m : Msg} (hm : MsgOf O m) : mayB m = true ∧ m.k ≤ 2 ∧ 1 ≤ m.k := by
 obtain ⟨i, hi, rfl | ⟨j, hj, rfl⟩⟩ := hm
 ·have g := h.g hi
  refine ⟨?_, by simp [wholeM], by simp [wholeM]⟩
  have := inB4 (a := (gO O i).e) (b := (gO O i).c) (c := 0) (d := 0) (by omega) (by omega)
  simp [mayB, wholeM, G0, this, riseF]
 ·have g := h.g hi
  have g' := h.g (i := j) (by omega)
  refine ⟨?_, by simp [partM], by simp [partM]⟩
  have := inB4 (a := (gO O i).e) (b := (gO O i).c) (c := (gO O j).e) (d := (gO O j).c) (by omega) (by omega)
  simp [mayB, partM, this]
  exact dp_rise _ _ 64 (by omega)
theorem ScI.hear {O l : List Lg} {a : Nat} {xi : Option Nat} {th bk : List Msg} (h : ScI O l a xi th bk) {m : Msg} (hm : MsgOf O m) :
  ∃ ans f xi', hearR (xO O xi) m = (ans, f, 0, xO O xi') ∧ (∀ j, xi = some j → ∃ j', xi' = some j' ∧ j ≤ j') ∧ (∀ j, xi' = some j → j < O.length) ∧ (ans = needM ∨ ∃ i, ans = ackM (gO O i) ∧ ∃ j, xi' = some j ∧ i ≤ j) ∧
   (∀ i, m = wholeM (gO O i) → i + 1 = O.length → xi' = some i ∧ ans = ackM (gO O i)) ∧
   (∀ i j, m = partM (gO O j) (gO O i) → i + 1 = O.length → j < i → (xi' = some i ∧ ans = ackM (gO O i)) ∨ (ans = needM ∧ xi' = xi ∧ xi ≠ some i)) := by
 obtain ⟨hm1, hm2, hm3⟩ := h.may hm
 have hnb : ¬ (mayB m = false ∨ 2 < m.k) := by rw [hm1]; simp; omega
 obtain ⟨i, hi, hmi⟩ := hm
 have hme : m.e = (gO O i).e ∧ m.c = (gO O i).c := by
  rcases hmi with rfl | ⟨j, hj, rfl⟩ <;> exact ⟨rfl, rfl⟩
 have hwi : ∀ i', m = wholeM (gO O i') → m = wholeM (gO O i) ∧ (i' < O.length → i' = i) := by
  intro i' h'
  rcases hmi with rfl | ⟨j, hj, rfl⟩
  ·refine ⟨rfl, fun hi' => ?_⟩
   have e1 := congrArg Msg.e h'
   have e2 := congrArg Msg.c h'
   exact (h.key hi hi' e1 e2).symm
  ·have := congrArg Msg.k h'; cases this
 have hack : ∀ y : Lg, y.e = (gO O i).e → y.c = (gO O i).c → ackM y = ackM (gO O i) := fun y e1 e2 => by simp [ackM, e1, e2]
 unfold hearR
 rw [if_neg hnb]
 cases xi with
 | none =>
  simp only [xO, Option.map_none]
  by_cases hk : m.k = 1
  ·have hw : m = wholeM (gO O i) := by
    rcases hmi with h' | ⟨j, hj, rfl⟩
    ·exact h'
    ·cases hk
   rw [if_pos hk]
   refine ⟨_, _, some i, by rw [hw]; rfl, by simp, (fun j hj => by cases hj; exact hi), .inr ⟨i, rfl, i, rfl, Nat.le_refl _⟩, ?_, ?_⟩
   ·intro i' h1 h2; have := (hwi i' h1).2 (by omega); subst this; exact ⟨rfl, rfl⟩
   ·intro i' j h1; rw [h1] at hk; cases hk
  ·rw [if_neg hk]
   refine ⟨needM, false, none, rfl, by simp, by simp, .inl rfl, ?_, ?_⟩
   ·intro i' h1; rw [h1] at hk; exact absurd rfl hk
   ·intro i' j h1 h2 h3; exact .inr ⟨rfl, rfl, by simp⟩
 | some j0 =>
  have hj0 := h.fx j0 rfl
  simp only [xO, Option.map_some]
  by_cases hc : cmpL ⟨m.e, m.c, m.s⟩ (gO O j0) ≤ 0
  ·rw [if_pos hc]
   have hij : i ≤ j0 := by
    apply Decidable.byContradiction; intro hn
    have := cmpL_lt.1 (h.lt (i := j0) (j := i) (by omega) hi)
    have h2 : cmpL (gO O j0) ⟨m.e, m.c, m.s⟩ < 0 := by rw [cmpL_lt]; simp [hme]; omega
    have h3 := cmpL_lt.1 h2
    have h4 : ¬ cmpL ⟨m.e, m.c, m.s⟩ (gO O j0) < 0 := by rw [cmpL_lt]; simp at h3 ⊢; omega
    have h5 : ¬ cmpL ⟨m.e, m.c, m.s⟩ (gO O j0) = 0 := by rw [cmpL_eq]; simp at h3 ⊢; omega
    omega
   refine ⟨_, _, some j0, rfl, (fun j hj => by cases hj; exact ⟨_, rfl, Nat.le_refl _⟩), (fun j hj => by cases hj; exact hj0), .inr ⟨j0, rfl, j0, rfl, Nat.le_refl _⟩, ?_, ?_⟩
   ·intro i' h1 h2
    have := (hwi i' h1).2 (by omega); subst this
    have : j0 = i' := by omega
    subst this; exact ⟨rfl, rfl⟩
   ·intro i' j h1 h2 h3
    have : i' = i := by
     have e1 := congrArg Msg.e h1
     have e2 := congrArg Msg.c h1
     exact (h.key hi (by omega) (hme.1 ▸ e1) (hme.2 ▸ e2)).symm
    subst this
    have : j0 = i' := by omega
    subst this; exact .inl ⟨rfl, rfl⟩
  rw [if_neg hc]
  have hji : j0 < i := by
   apply Decidable.byContradiction; intro hn
   apply hc
   rcases Nat.lt_or_ge i j0 with h1 | h1
   ·have := cmpL_lt.1 (h.lt h1 hj0)
    have h2 : cmpL ⟨m.e, m.c, m.s⟩ (gO O j0) < 0 := by rw [cmpL_lt]; simp [hme]; omega
    omega
   ·have : i = j0 := by omega
    subst this
    have : cmpL ⟨m.e, m.c, m.s⟩ (gO O i) = 0 := by rw [cmpL_eq]; exact hme
    omega
  by_cases hk : m.k = 1
  ·have hw : m = wholeM (gO O i) := by
    rcases hmi with h' | ⟨j, hj, rfl⟩
    ·exact h'
    ·cases hk
   rw [if_pos hk]
   refine ⟨_, _, some i, by rw [hw]; rfl, (fun j hj => by cases hj; exact ⟨i, rfl, by omega⟩), (fun j hj => by cases hj; exact hi), .inr ⟨i, rfl, i, rfl, Nat.le_refl _⟩, ?_, ?_⟩
   ·intro i' h1 h2; have := (hwi i' h1).2 (by omega); subst this; exact ⟨rfl, rfl⟩
   ·intro i' j h1; rw [h1] at hk; cases hk
  rw [if_neg hk]
  obtain ⟨j, hj, hp⟩ : ∃ j, j < i ∧ m = partM (gO O j) (gO O i) := by
   rcases hmi with h' | h'
   ·rw [h'] at hk; exact absurd rfl hk
   ·exact h'
  by_cases hb : cmpL ⟨m.be, m.b, S0⟩ (gO O j0) = 0
  ·rw [if_neg (by simpa using hb)]
   have hjj : j = j0 := by
    have := cmpL_eq.1 hb
    rw [hp] at this
    exact h.key (by omega) hj0 this.1 this.2
   subst hjj
   have hpd := patch_diff (s := (gO O j).s) (t := (gO O i).s) (h.g (i := j) (by omega)).1.ht (h.g hi).1
   refine ⟨ackM (gO O i), true, some i, ?_, (fun j' hj' => by cases hj'; exact ⟨i, rfl, by omega⟩), (fun j' hj' => by cases hj'; exact hi), .inr ⟨i, rfl, i, rfl, Nat.le_refl _⟩, ?_, ?_⟩
   ·rw [hp]
    simp only [partM, hpd, Option.map_some]
    rfl
   ·intro i' h1; rw [h1] at hk; exact absurd rfl hk
   ·intro i' j' h1 h2 h3
    have : i' = i := by
     have e1 := congrArg Msg.e h1
     have e2 := congrArg Msg.c h1
     exact (h.key hi (by omega) (hme.1 ▸ e1) (hme.2 ▸ e2)).symm
    subst this; exact .inl ⟨rfl, rfl⟩
  ·rw [if_pos (by simpa using hb)]
   refine ⟨needM, false, some j0, rfl, (fun j' hj' => by cases hj'; exact ⟨_, rfl, Nat.le_refl _⟩), (fun j' hj' => by cases hj'; exact hj0), .inl rfl, ?_, ?_⟩
   ·intro i' h1; rw [h1] at hk; exact absurd rfl hk
   ·intro i' j' h1 h2 h3
    have : i' = i := by
     have e1 := congrArg Msg.e h1
     have e2 := congrArg Msg.c h1
     exact (h.key hi (by omega) (hme.1 ▸ e1) (hme.2 ▸ e2)).symm
    subst this
    exact .inr ⟨rfl, rfl, by simp; omega⟩
theorem ScI.lr {O l : List Lg} {a : Nat} {xi : Option Nat} {th bk : List Msg} (h : ScI O l a xi th bk) : Rise l := by
 intro i j hi hj hij
 have hl := h.fl
 subst hl
 simp only [List.length_drop] at hi hj
 simp only [List.getElem_drop]
 exact h.rise _ _ (by omega) (by omega) (by omega)
theorem may_ack {x : Lg} (h : 0 ≤ x.e ∧ x.e ≤ 1000 ∧ 0 ≤ x.c ∧ x.c ≤ 1000) : mayB (ackM x) = true := by
 have := inB4 (a := x.e) (b := x.c) (c := 0) (d := 0) (by omega) (by omega)
 simp [mayB, ackM, G0, this, riseF]
theorem may_need : mayB needM = true := by
 have := inB4 (a := 0) (b := 0) (c := 0) (d := 0) (by omega) (by omega)
 simp [mayB, needM, G0, this, riseF]
theorem ScI.ans {O l : List Lg} {a : Nat} {xi : Option Nat} {th bk : List Msg} (h : ScI O l a xi th bk) {m : Msg} (hm : m = needM ∨ ∃ i, m = ackM (gO O i) ∧ ∃ j, xi = some j ∧ i ≤ j) :
  ∃ a', hearS l a m = (0, a') ∧ ScI O l a' xi th bk ∧ (m = needM → a' = 0) := by
 rcases hm with rfl | ⟨i, rfl, j, hj, hij⟩
 ·refine ⟨0, ?_, ⟨h.rise, h.ok, h.fl, by omega, h.fx, h.ft, h.fb, by omega⟩, fun _ => rfl⟩
  unfold hearS
  rw [if_neg (by rw [may_need]; simp [needM, G0]), if_pos (show needM.k = 4 from rfl)]
 ·have hjO := h.fx j hj
  have hk : hearS l a (ackM (gO O i)) = match l.findIdx? (keyIs (gO O i).e (gO O i).c) with | some i => (0, max a (i + 1)) | none => (0, a) := by
   unfold hearS
   rw [if_neg (by rw [may_ack (h.g (by omega)).2]; simp [ackM, G0]), if_neg (by simp [ackM, G0])]
   rfl
  rw [hk]
  have hne : ackM (gO O i) = needM → ∀ a' : Nat, a' = 0 := fun e => by have := congrArg Msg.k e; cases this
  have hll : l.length = O.length - (O.length - 8) := by rw [h.fl, List.length_drop]
  rcases Nat.lt_or_ge i (O.length - 8) with h1 | h1
  ·rw [find_none (fun j' hj' => ?_)]
   ·exact ⟨a, rfl, h, fun e => hne e a⟩
   ·rintro ⟨e1, e2⟩
    have hl := h.fl
    subst hl
    rw [List.length_drop] at hj'
    rw [List.getElem_drop, gO_at] at e1 e2
    have := h.key (by omega) (by omega) e1 e2
    omega
  ·have hil : i - (O.length - 8) < l.length := by omega
   have hli : l[i - (O.length - 8)] = gO O i := by
    rw [← gO_at (show i < O.length by omega)]
    have hl := h.fl
    subst hl
    rw [List.getElem_drop]; congr 1; omega
   rw [rise_find h.lr hil (by rw [hli]) (by rw [hli])]
   refine ⟨_, rfl, ⟨h.rise, h.ok, h.fl, ?_, h.fx, h.ft, h.fb, ?_⟩, fun e => hne e _⟩
   ·have := h.fa; omega
   ·intro _
    refine ⟨j, hj, ?_⟩
    rcases Nat.lt_or_ge (i - (O.length - 8) + 1) a with h2 | h2
    ·obtain ⟨j', hj', h3⟩ := h.fk (by omega)
     rw [hj] at hj'; cases hj'
     omega
    ·omega
theorem ScI.send {O l : List Lg} {a : Nat} {xi : Option Nat} {th bk : List Msg} (h : ScI O l a xi th bk) :
  (a = l.length ∧ sendR l a = (G0, false)) ∨ ∃ i, i + 1 = O.length ∧ a < l.length ∧ ((a = 0 ∧ sendR l a = (wholeM (gO O i), true)) ∨ ∃ j, 0 < a ∧ j < i ∧ sendR l a = (partM (gO O j) (gO O i), true) ∧ j + 1 = O.length - l.length + a) := by
 have hl := h.fl
 have ha := h.fa
 have hll : l.length = O.length - (O.length - 8) := by rw [hl, List.length_drop]
 by_cases h0 : a = l.length
 ·exact .inl ⟨h0, by unfold sendR; rw [if_pos h0]⟩
 right
 have hls : lst l = gO O (O.length - 1) := by
  unfold lst
  rw [← gO_at (show O.length - 1 < O.length by omega)]
  subst hl
  rw [List.getD_eq_getElem?_getD, List.getElem?_eq_getElem (by omega), Option.getD_some, List.getElem_drop]
  congr 1; omega
 refine ⟨O.length - 1, by omega, by omega, ?_⟩
 by_cases h1 : 0 < a
 ·right
  have hak : ackL l a = gO O (O.length - l.length + a - 1) := by
   unfold ackL
   rw [if_neg (by omega), ← gO_at (show O.length - l.length + a - 1 < O.length by omega)]
   subst hl
   rw [List.getD_eq_getElem?_getD, List.getElem?_eq_getElem (by omega), Option.getD_some, List.getElem_drop]
   congr 1; omega
  refine ⟨O.length - l.length + a - 1, h1, by omega, ?_, by omega⟩
  unfold sendR
  rw [if_neg h0, if_pos h1, hls, hak]; rfl
 ·left
  refine ⟨by omega, ?_⟩
  unfold sendR
  rw [if_neg h0, if_neg h1, hls]; rfl
theorem gO_app {O : List Lg} {y : Lg} {i : Nat} (h : i < O.length) : gO (O ++ [y]) i = gO O i := by
 simp [gO, List.getElem?_append_left h]
theorem gO_last {O : List Lg} {y : Lg} : gO (O ++ [y]) O.length = y := by
 simp [gO]
theorem ScI.offer {O l : List Lg} {a : Nat} {xi : Option Nat} {th bk : List Msg} (h : ScI O l a xi th bk) {y : Lg} (hy : SOK y.s ∧ 0 ≤ y.e ∧ y.e ≤ 1000 ∧ 0 ≤ y.c ∧ y.c ≤ 1000) (hl : ∀ (hO : 0 < O.length), cmpL (gO O (O.length - 1)) y < 0) :
  ∃ l' a', offerR l a y = (0, l', a') ∧ ScI (O ++ [y]) l' a' xi th bk := by
 have hll : l.length = O.length - (O.length - 8) := by rw [h.fl, List.length_drop]
 have hlO := h.fl
 have hls : 0 < l.length → lst l = gO O (O.length - 1) := by
  intro hp
  unfold lst
  rw [← gO_at (show O.length - 1 < O.length by omega)]
  subst hlO
  rw [List.getD_eq_getElem?_getD, List.getElem?_eq_getElem (by omega), Option.getD_some, List.getElem_drop]
  congr 1; omega
 have hr : Rise (O ++ [y]) := by
  intro i j hi hj hij
  simp only [List.length_append, List.length_cons, List.length_nil] at hi hj
  rw [gO_at, gO_at, gO_app (by omega)]
  rcases Nat.lt_or_ge j O.length with h1 | h1
  ·rw [gO_app h1]; exact h.lt hij h1
  ·have : j = O.length := by omega
   subst this
   rw [gO_last]
   have hz := cmpL_lt.1 (hl (by omega))
   rcases Nat.lt_or_ge i (O.length - 1) with h2 | h2
   ·have := cmpL_lt.1 (h.lt h2 (by omega))
    rw [cmpL_lt]; omega
   ·have : i = O.length - 1 := by omega
    subst this; rw [cmpL_lt]; omega
 have hok : ∀ z ∈ O ++ [y], SOK z.s ∧ 0 ≤ z.e ∧ z.e ≤ 1000 ∧ 0 ≤ z.c ∧ z.c ≤ 1000 := by
  intro z hz
  rcases List.mem_append.1 hz with h1 | h1
  ·exact h.ok z h1
  ·simp at h1; subst h1; exact hy
 have hth : ∀ m ∈ th, MsgOf (O ++ [y]) m := by
  intro m hm
  obtain ⟨i, hi, h1⟩ := h.ft m hm
  refine ⟨i, by simp; omega, ?_⟩
  rw [gO_app hi]
  rcases h1 with h1 | ⟨j, hj, h1⟩
  ·exact .inl h1
  ·exact .inr ⟨j, hj, by rw [gO_app (by omega)]; exact h1⟩
 have hbk : ∀ m ∈ bk, m = needM ∨ ∃ i, m = ackM (gO (O ++ [y]) i) ∧ ∃ j, xi = some j ∧ i ≤ j := by
  intro m hm
  rcases h.fb m hm with h1 | ⟨i, h1, j, h2, h3⟩
  ·exact .inl h1
  ·have := h.fx j h2
   exact .inr ⟨i, by rw [gO_app (by omega)]; exact h1, j, h2, h3⟩
 have hxi : ∀ j, xi = some j → j < (O ++ [y]).length := by
  intro j hj; have := h.fx j hj; simp; omega
 have ha := h.fa
 unfold offerR
 rw [if_neg (by rw [inB2 hy.2]; simp)]
 rw [if_neg (by
  rintro ⟨h1, h2⟩
  rw [hls h1] at h2
  have h3 := cmpL_lt.1 (hl (by omega))
  have h4 : ¬ cmpL y (gO O (O.length - 1)) < 0 := by rw [cmpL_lt]; omega
  have h5 : ¬ cmpL y (gO O (O.length - 1)) = 0 := by rw [cmpL_eq]; omega
  omega)]
 by_cases h8 : 8 < l.length + 1
 ·rw [if_pos h8]
  refine ⟨_, _, rfl, hr, hok, ?_, ?_, hxi, hth, hbk, ?_⟩
  ·rw [hlO, List.drop_append_of_le_length (by rw [List.length_drop]; omega), List.drop_drop, List.length_append, List.length_cons, List.length_nil, List.drop_append_of_le_length (by omega)]
   congr 2; omega
  ·simp; omega
  ·intro h1
   obtain ⟨j, h2, h3⟩ := h.fk (by omega)
   refine ⟨j, h2, ?_⟩
   simp; omega
 ·rw [if_neg h8]
  refine ⟨_, _, rfl, hr, hok, ?_, ?_, hxi, hth, hbk, ?_⟩
  ·rw [hlO, List.length_append, List.length_cons, List.length_nil, show O.length - 8 = 0 by omega, show O.length + (0 + 1) - 8 = 0 by omega]; rfl
  ·simp; omega
  ·intro h1
   obtain ⟨j, h2, h3⟩ := h.fk (by omega)
   refine ⟨j, h2, ?_⟩
   simp; omega
end Go.AM.Rp

namespace Go.AM.Rp
open Go.Proofs
def thS (s : Nat) (u : Value) (l : List Lg) (a : Nat) : Th where
 P H := SdV H s u l a
 F := s :: blkL u
 lt H h b hb := by
  rcases List.mem_cons.1 hb with rfl | hb
  ·exact AHeap.get_lt h.1
  ·exact h.2.1.lt (mem_blkL.1 hb)
 st H H' h hn k := ⟨by rw [k s (by simp)]; exact h.1, by
  rcases h.2.1 with h1 | ⟨b, o, room, c, rfl, h2, h3⟩
  ·exact .inl h1
  ·exact .inr ⟨b, o, room, c, rfl, by rw [k b (by simp [mem_blkL, blk, slc])]; exact h2, h3⟩, h.2.2⟩
def RvV (H : AHeap) (r : Nat) (p : Value) (x : Option Lg) : Prop := H.get r = some (.cells true false 1 [p] 51) ∧ match x with
 | none => p = .pointer none
 | some y => ∃ b, p = ptr b 0 ∧ H.get b = some (.cells true false 70 (LC y) 54) ∧ b ≠ r
theorem RvV.s {H : AHeap} {r : Nat} {p : Value} {x : Option Lg} (h : RvV H r p x) : RvS H r x := by
 obtain ⟨h1, h2⟩ := h
 cases x with
 | none => simp only at h2; subst h2; exact h1
 | some y => obtain ⟨b, rfl, h3, h4⟩ := h2; exact ⟨b, h1, h3, h4⟩
theorem RvS.v {H : AHeap} {r : Nat} {x : Option Lg} (h : RvS H r x) : ∃ p, RvV H r p x ∧ cellA H r 0 = some p := by
 cases x with
 | none => exact ⟨_, ⟨h, rfl⟩, by rw [cellA_of h]; rfl⟩
 | some y => obtain ⟨b, h1, h2, h3⟩ := h; exact ⟨_, ⟨h1, b, rfl, h2, h3⟩, by rw [cellA_of h1]; rfl⟩
theorem RvV.c {H : AHeap} {r : Nat} {p : Value} {x : Option Lg} (h : RvV H r p x) : cellA H r 0 = some p := by rw [cellA_of h.1]; rfl
def thR (r : Nat) (p : Value) (x : Option Lg) : Th where
 P H := RvV H r p x
 F := r :: blkL p
 lt H h b hb := by
  rcases List.mem_cons.1 hb with rfl | hb
  ·exact AHeap.get_lt h.1
  ·obtain ⟨h1, h2⟩ := h
   cases x with
   | none => simp only at h2; subst h2; cases hb
   | some y => obtain ⟨b', rfl, h3, _⟩ := h2; simp [blkL, blk, ptr] at hb; subst hb; exact AHeap.get_lt h3
 st H H' h hn k := by
  refine ⟨by rw [k r (by simp)]; exact h.1, ?_⟩
  have h2 := h.2
  cases x with
  | none => exact h2
  | some y => obtain ⟨b', rfl, h3, h4⟩ := h2; exact ⟨b', rfl, by rw [k b' (by simp [blkL, blk, ptr])]; exact h3, h4⟩
theorem AP.stay {H H' : AHeap} {e esz : Nat} {v : Value} {n : Nat} {c : List Value} (h : AP H e esz v n c) (k : ∀ b ∈ blkL v, H'.get b = H.get b) : AP H' e esz v n c := by
 rcases h with h | ⟨b, room, rfl, h1, h2⟩
 ·exact .inl h
 ·exact .inr ⟨b, room, rfl, h1, by rw [k b (by simp [mem_blkL, blk, slc])]; exact h2⟩
def thO (v : Value) (O : List Lg) : Th where
 P H := AP H 54 70 v O.length (FL O)
 F := blkL v
 lt H h b hb := AP.lt h (mem_blkL.1 hb)
 st H H' h _ k := AP.stay h k
theorem TB.lt {H : AHeap} {v : Value} {l : List (Int × Int)} (h : TB H v l) (hl : l ≠ []) {b : Nat} (hb : blk v = some b) : b < H.n := by
 obtain ⟨a, k, rfl, h1⟩ := h
 obtain ⟨b', own, room, c, e, rfl, h2, _⟩ := h1 hl
 cases hb; exact AHeap.get_lt h2
def mB (p : Msg × Value) : List Nat := if p.1.d.l = [] then [] else blkL p.2
def GP (ps : List (Msg × Value)) : List Value := ps.flatMap fun p => GC p.1 p.2
structure MS (H : AHeap) (v : Value) (ps : List (Msg × Value)) : Prop where
 ap : AP H 41 78 v ps.length (GP ps)
 tb : ∀ p ∈ ps, TB H p.2 p.1.d.l ∧ p.1.s.t.length = 64 ∧ p.1.d.l.length ≤ 64
 dj : ∀ p ∈ ps, ∀ b ∈ mB p, b ∉ blkL v
def thM (v : Value) (ps : List (Msg × Value)) : Th where
 P H := MS H v ps
 F := blkL v ++ ps.flatMap mB
 lt H h b hb := by
  rcases List.mem_append.1 hb with hb | hb
  ·exact AP.lt h.ap (mem_blkL.1 hb)
  ·obtain ⟨p, hp, hb⟩ := List.mem_flatMap.1 hb
   unfold mB at hb
   split at hb
   ·cases hb
   ·rename_i hl; exact TB.lt (h.tb p hp).1 hl (mem_blkL.1 hb)
 st H H' h _ k := by
  refine ⟨AP.stay h.ap (fun b hb => k b (by simp [hb])), fun p hp => ⟨?_, (h.tb p hp).2⟩, h.dj⟩
  obtain ⟨a, c, e1, e2⟩ := (h.tb p hp).1
  refine ⟨a, c, e1, fun hne => ?_⟩
  obtain ⟨b, own, room, cs, e, rfl, h2, h3⟩ := e2 hne
  refine ⟨b, own, room, cs, e, rfl, ?_, h3⟩
  rw [k b (List.mem_append_right _ (List.mem_flatMap.2 ⟨p, hp, by unfold mB; rw [if_neg hne, e1]; simp [mem_blkL, blk]⟩))]
  exact h2
def thX (X : Nat) (x : Lg) : Th where
 P H := H.get X = some (.cells true false 70 (LC x) 54)
 F := [X]
 lt H h b hb := by simp at hb; subst hb; exact AHeap.get_lt h
 st H H' h _ k := by rw [k X (by simp)]; exact h
structure Stp where
 k : Nat
 n : Nat
 s : S
def PC (p : Stp) : List Value := .int .u8 p.k :: .int .u8 p.n :: SC p.s
def aB (v : Value) : List Nat := if nnS v then blkL v else []
theorem Sl.lt {H : AHeap} {esz : Nat} {v : Value} {rows : List (List Value)} (h : Sl H esz v rows) {b : Nat} (hb : b ∈ aB v) : b < H.n := by
 unfold aB at hb
 split at hb
 ·rename_i hn
  obtain ⟨b', o, n, k, rfl⟩ := nnS_inv hn
  simp [mem_blkL, blk, slc] at hb; subst hb
  have h2 := h.el
  simp only [elemsA, slc] at h2
  split at h2
  ·rename_i hg; exact AHeap.get_lt hg
  ·cases h2
 ·cases hb
theorem Sl.stay {H H' : AHeap} {esz : Nat} {v : Value} {rows : List (List Value)} (h : Sl H esz v rows) (k : ∀ b ∈ aB v, H'.get b = H.get b) : Sl H' esz v rows := by
 refine ⟨h.sh, h.row, ?_⟩
 have h2 := h.el
 by_cases hn : nnS v = true
 ·obtain ⟨b', o, n, c, rfl⟩ := nnS_inv hn
  have := k b' (by unfold aB; rw [if_pos hn]; simp [mem_blkL, blk, slc])
  simp only [elemsA, slc] at h2 ⊢
  rw [this]; exact h2
 ·obtain ⟨a, c, rfl⟩ := h.sh
  match a, h2 with
  | none, h2 => exact h2
  | some ⟨b, o, some _⟩, h2 => simpa [elemsA] using h2
  | some ⟨b, o, none⟩, h2 => exact absurd rfl hn
def thA (v : Value) (L : List Stp) : Th where
 P H := Sl H 70 v (L.map PC) ∧ ∀ p ∈ L, SOK p.s
 F := aB v
 lt H h b hb := Sl.lt h.1 hb
 st H H' h _ k := ⟨Sl.stay h.1 k, h.2⟩
theorem GP_erase : ∀ {ps : List (Msg × Value)} (k : Nat), (∀ p ∈ ps, p.1.s.t.length = 64) → k < ps.length → (GP ps).take (k * 78) ++ (GP ps).drop ((k + 1) * 78) = GP (ps.eraseIdx k)
 | p :: ps, 0, h, _ => by
  have h2 := GC_len (h p (by simp)) p.2
  show (GC p.1 p.2 ++ GP ps).take (0 * 78) ++ (GC p.1 p.2 ++ GP ps).drop ((0 + 1) * 78) = GP ps
  rw [Nat.zero_mul, List.take_zero, List.nil_append, show (0 + 1) * 78 = (GC p.1 p.2).length by omega, List.drop_left]
 | p :: ps, k + 1, h, hk => by
  have h1 := GP_erase (ps := ps) k (fun q hq => h q (by simp [hq])) (by simpa using hk)
  have h2 := GC_len (h p (by simp)) p.2
  show (GC p.1 p.2 ++ GP ps).take ((k + 1) * 78) ++ (GC p.1 p.2 ++ GP ps).drop ((k + 1 + 1) * 78) = GC p.1 p.2 ++ GP (ps.eraseIdx k)
  rw [show (k + 1) * 78 = (GC p.1 p.2).length + k * 78 by omega, List.take_length_add_append, show (k + 1 + 1) * 78 = (GC p.1 p.2).length + (k + 1) * 78 by omega, List.drop_append, List.drop_of_length_le (by omega), Nat.add_sub_cancel_left, List.nil_append, List.append_assoc, h1]
theorem MS.nil (H : AHeap) : MS H (.slice none 0 0) [] := ⟨.inl ⟨rfl, rfl, rfl⟩, by simp, by simp⟩
theorem MS.sl {H : AHeap} {v : Value} {ps : List (Msg × Value)} (h : MS H v ps) : Sl H 78 v (ps.map fun p => GC p.1 p.2) := by
 refine AP.sl (e := 41) (n := ps.length) ?_ ?_ (by rw [List.length_map])
 ·have := h.ap; rw [show (ps.map fun p => GC p.1 p.2).flatten = GP ps by rw [GP, List.flatMap_def]]; exact this
 ·intro r hr; simp at hr; obtain ⟨m, v, hp, rfl⟩ := hr; exact GC_len (h.tb _ hp).2.1 _
theorem TB.chgL {H H' : AHeap} {v : Value} {l : List (Int × Int)} (h : TB H v l) (k : l ≠ [] → ∀ b ∈ blkL v, H'.get b = H.get b) : TB H' v l := by
 obtain ⟨a, c, rfl, h1⟩ := h
 refine ⟨a, c, rfl, fun hne => ?_⟩
 obtain ⟨b, own, room, cs, e, rfl, h2, h3⟩ := h1 hne
 exact ⟨b, own, room, cs, e, rfl, by rw [k hne b (by simp [mem_blkL, blk])]; exact h2, h3⟩
theorem MS.drop {H : AHeap} {v : Value} {ps : List (Msg × Value)} (h : MS H v ps) {k : Nat} (hk : k < ps.length) (hn : ps.length ≤ 1000) :
  ∃ w H', ARun Try.prog 0 18 [v, .int .i64 k] H w H' ∧ Keeps H H' ∧ MS H' w (ps.eraseIdx k) ∧ Fresh H.n w := by
 obtain ⟨w, H', r1, r2, r3, r4⟩ := t18 h.ap hk hn
 have hl : ∀ p ∈ ps, p.1.s.t.length = 64 := fun p hp => (h.tb p hp).2.1
 rw [GP_erase k hl hk] at r2
 refine ⟨w, H', r1, r3, ⟨?_, ?_, ?_⟩, r4⟩
 ·rw [List.length_eraseIdx_of_lt hk]; exact r2
 ·intro p hp
  have hp' := List.mem_of_mem_eraseIdx hp
  exact ⟨(h.tb p hp').1.keeps r3, (h.tb p hp').2⟩
 ·intro p hp b hb hbw
  have hp' := List.mem_of_mem_eraseIdx hp
  have h1 := r4 b (mem_blkL.1 hbw)
  unfold mB at hb
  split at hb
  ·cases hb
  ·rename_i hl
   have := TB.lt (h.tb p hp').1 hl (mem_blkL.1 hb); omega
section
variable {P : Program} {ng : Nat} {H : AHeap} {KF : List Value → AHeap → Prop} {fr tm : List Value}
theorem MS.app {d : Go.AM.D} {r : List AOper} {v u : Value} {b : Nat} {ps : List (Msg × Value)} {m : Msg} (h : MS H v ps) (h1 : elemsA H 78 (slc b 0 1 1) = some (GC m u)) (hu : TB H u m.d.l) (hm : m.s.t.length = 64) (hd : m.d.l.length ≤ 64) (hn : ps.length ≤ 1000)
  (ha : ∀ b ∈ mB (m, u), b ∉ blkL v)
  (hk : ∀ v' H', MS H' v' (ps ++ [(m, u)]) → Chg (blkL v) H H' → (blk v' = blk v ∨ blk v' = some H.n) → RW P ng r (d.frame v' fr) (d.temps v' tm) H' KF) : goR P ng (asem (.app 41 78 192 v (slc b 0 1 1)) H) d r fr tm KF := by
 refine appG h.ap ⟨_, _, rfl⟩ h1 (by rw [GC_len hm]) (by omega) ?_
 intro v' H' ap c hb
 have htl : ∀ p ∈ ps ++ [(m, u)], TB H p.2 p.1.d.l ∧ p.1.s.t.length = 64 ∧ p.1.d.l.length ≤ 64 := by
  intro p hp
  rcases List.mem_append.1 hp with hp | hp
  ·exact h.tb p hp
  ·simp at hp; subst hp; exact ⟨hu, hm, hd⟩
 have hdj : ∀ p ∈ ps ++ [(m, u)], ∀ b ∈ mB p, b ∉ blkL v := by
  intro p hp
  rcases List.mem_append.1 hp with hp | hp
  ·exact h.dj p hp
  ·simp at hp; subst hp; exact ha
 have hlt : ∀ p ∈ ps ++ [(m, u)], ∀ b ∈ mB p, b < H.n := by
  intro p hp b hb
  unfold mB at hb
  split at hb
  ·cases hb
  ·rename_i hl; exact TB.lt (htl p hp).1 hl (mem_blkL.1 hb)
 refine hk v' H' ⟨?_, ?_, ?_⟩ c hb
 ·rw [List.length_append]; simp only [GP, List.flatMap_append, List.flatMap_cons, List.flatMap_nil, List.append_nil]; exact ap
 ·intro p hp
  refine ⟨(htl p hp).1.chgL (fun hne b hb => c.get b (hlt p hp b (by unfold mB; rw [if_neg hne]; exact hb)) (hdj p hp b (by unfold mB; rw [if_neg hne]; exact hb))), (htl p hp).2⟩
 ·intro p hp b hb' hbv
  have h2 := hlt p hp b hb'
  have h3 := hdj p hp b hb'
  rw [mem_blkL] at hbv h3
  rcases hb with e | e
  ·rw [e] at hbv; exact h3 hbv
  ·rw [e] at hbv; cases hbv; omega
end
theorem fl78a {m : Msg} (h : m.s.t.length = 64) (v : Value) : fillA Z78 [(0, 78, .agg (GC m v).toArray)] = some (GC m v) := by
 have hl := GC_len h v
 rw [fill_cons, cells_agg, hl, if_pos ⟨rfl, by decide⟩, fill0, List.take_zero, List.nil_append, List.drop_of_length_le (by show 78 ≤ _; omega), List.append_nil]
theorem bsl78 {m : Msg} (h : m.s.t.length = 64) {v : Value} (hv : v.oneCell' = true) (H : AHeap) : asem (.bslice 41 78 1 Z78 [(0, 78, .agg (GC m v).toArray)]) H = some (slc H.n 0 1 1, H.alloc (.cells true false 78 (GC m v) 41)) := by
 rw [a_bslice (fl78a h v), if_pos ⟨GC_one m hv, by rw [GC_len h]⟩]
inductive SK : List Value → List Value → Prop
 | nil : SK [] []
 | cons (k : IntKind) (a b : Int) {l m : List Value} (h : SK l m) : SK (.int k a :: l) (.int k b :: m)
theorem SK.app {a b c d : List Value} (h : SK a b) (k : SK c d) : SK (a ++ c) (b ++ d) := by
 induction h with
 | nil => exact k
 | cons x y z _ ih => exact .cons x y z ih
theorem SK.map : ∀ {l m : List Int}, l.length = m.length → SK (l.map tv) (m.map tv)
 | [], [], _ => .nil
 | x :: l, y :: m, h => .cons _ _ _ (SK.map (by simpa using h))
 | [], _ :: _, h => by simp at h
 | _ :: _, [], h => by simp at h
theorem SK.eq {l m : List Value} (h : SK l m) : ∃ b, eqCs (List.replicate l.length 1) l m = some b := by
 induction h with
 | nil => exact ⟨true, rfl⟩
 | cons k a b _ ih => obtain ⟨c, hc⟩ := ih; exact ⟨(a == b) && c, by simp [List.replicate, eqCs, eqC, hc]⟩
theorem SC_sk {x y : S} (hx : x.t.length = 64) (hy : y.t.length = 64) : SK (SC x) (SC y) :=
 .cons _ _ _ (.cons _ _ _ (.cons _ _ _ (SK.app (SK.map (by omega)) (.cons _ _ _ .nil))))
theorem eqL_no {x y : Lg} (hx : x.s.t.length = 64) (hy : y.s.t.length = 64) (h : ¬ (x.e = y.e ∧ x.c = y.c)) : eqCs O70 (LC x) (LC y) = some false := by
 obtain ⟨b, hb⟩ := (SC_sk hx hy).eq
 rw [SC_len hx] at hb
 show eqCs (1 :: 1 :: List.replicate 68 1) (.int .i64 x.e :: .int .i64 x.c :: SC x.s) (.int .i64 y.e :: .int .i64 y.c :: SC y.s) = _
 simp only [eqCs, eqC, hb, if_true]
 by_cases h1 : x.e = y.e
 ·have h2 : ¬ x.c = y.c := fun h2 => h ⟨h1, h2⟩
  simp [h2]
 ·simp [h1]
theorem eqL_yes {x : Lg} (hx : x.s.t.length = 64) : eqCs O70 (LC x) (LC x) = some true := by
 have hi : Ints (LC x) := by
  intro v hv
  simp only [LC, List.mem_cons] at hv
  rcases hv with rfl | rfl | hv
  ·exact ⟨_, _, rfl⟩
  ·exact ⟨_, _, rfl⟩
  ·exact SC_ints x.s v hv
 have := eqCs_self (LC x) hi
 rw [LC_len hx] at this
 exact this
theorem a_eqse (cs : List Nat) (neg : Bool) (x y : List Value) (H : AHeap) : asem (.eqs cs neg (.agg x.toArray) (.agg y.toArray)) H = (eqCs cs x y).map fun b => (.bool (if neg then !b else b), H) := by
 simp [asem]
theorem AP.slL {H : AHeap} {v : Value} {O : List Lg} (h : AP H 54 70 v O.length (FL O)) (hk : Ok64 O) : Sl H 70 v (O.map LC) := by
 refine AP.sl (e := 54) (n := O.length) ?_ ?_ (by rw [List.length_map])
 ·rw [show (O.map LC).flatten = FL O by rw [FL, List.flatMap_def]]; exact h
 ·intro r hr; simp at hr; obtain ⟨y, hy, rfl⟩ := hr; exact LC_len (hk y hy)
end Go.AM.Rp

namespace Go.AM.Rp
open Go.Proofs
structure SfV (H : AHeap) (s : Nat) (v : Value) (l : List Lg) (a : Nat) : Prop where
 g : H.get s = some (.cells true false 2 [v, .int .i64 ((a : Int) - 1)] 99)
 ap : AP H 72 70 v l.length (FL l)
 ne : blk v ≠ some s
 ok : Ok64 l
theorem SfV.keeps {H K : AHeap} {s : Nat} {v : Value} {l : List Lg} {a : Nat} (h : SfV H s v l a) (k : Keeps H K) : SfV K s v l a := ⟨k.at_ h.g, h.ap.keeps k, h.ne, h.ok⟩
theorem SfV.sl {H : AHeap} {s : Nat} {v : Value} {l : List Lg} {a : Nat} (h : SfV H s v l a) : Sl H 70 v (l.map LC) := by
 refine AP.sl (e := 72) (n := l.length) ?_ ?_ (by rw [List.length_map])
 ·rw [show (l.map LC).flatten = FL l by rw [FL, List.flatMap_def]]; exact h.ap
 ·intro r hr; simp at hr; obtain ⟨y, hy, rfl⟩ := hr; exact LC_len (h.ok y hy)
theorem flP' (e c be b : Int) : fillA Z78 [(0, 1, .int .u8 2), (1, 1, .int .i64 e), (2, 1, .int .i64 c), (3, 1, .int .i64 be), (4, 1, .int .i64 b)] = some (Mz (pre ⟨2, e, c, be, b, S0, ⟨0, 0, 0, 0, []⟩⟩ rfl)) := by kernel_rfl
theorem t42 {H : AHeap} {s : Nat} {v : Value} {l : List Lg} {a : Nat} (h : SfV H s v l a) (hl : l.length ≤ 100) (ha : a ≤ l.length) :
  ∃ w H', ARun Try.prog 0 42 [ptr s 0] H w H' ∧ Keeps H H' ∧ ∃ u, w = .tuple #[.agg (GC (sendR l a).1 u).toArray, .bool (sendR l a).2] ∧ TB H' u (sendR l a).1.d.l ∧ Fresh H.n u := by
 refine walk2 f42_ok f42_n ?_
 intro Q hq1 hq2
 have hg := h.g
 have ls := AHeap.get_lt hg
 have hsl := h.sl
 have his := hsl.is
 have hlen := hsl.len
 rw [List.length_map] at hlen
 have z78 : Z78.all Value.oneCell' = true := rfl
 have zl : Z78.length = 78 := rfl
 have zl7 : Z70.length = 70 := rfl
 have kz := (Keeps.refl H).alloc (.cells true false 78 Z78 38)
 have hsub : IntKind.i64.wrap ((l.length : Int) - 1) = (l.length : Int) - 1 := wrap_i64 (by omega) (by omega)
 unfold sendR at hq2
 by_cases h0 : a = l.length
 ·simp only [h0, if_true] at hq2
  have fin : ∀ fr, fr.getD 1 undef = ptr H.n 0 → fr.getD 2 undef = .bool false → Q .ret fr (H.alloc (.cells true false 78 Z78 38)) := fun fr e1 e2 =>
   hq2 _ _ ⟨_, resCn 78 2 1 e1 (full (AHeap.get_alloc_new H _) rfl), kz, .slice none 0 0, by rw [e2]; rfl, ⟨none, 0, rfl, fun h => absurd rfl h⟩, fun b hb => by cases hb⟩
  by_cases hn : l.length = 0
  ·simp (disch := (first | assumption | omega | (simp only [alloc_n, set_n] <;> omega) | (simp (disch := (first | assumption | omega | (simp only [alloc_n, set_n] <;> omega))) only [row_alloc, row_set]; assumption))) only [f42, W_block, ANs, A3s, AOp.map, ↓reduceIte, Nat.reduceAdd, Nat.reduceEqDiff, reduceCtorEq, initFr, Nat.reduceLT, clsA, List.take, List.drop, Nat.reduceLeDiff, Nat.reduceMul, Nat.reduceSub, reduceIte, ANc, A3c, z78, hg, his, hlen, fl78n]
   exact fin _ rfl rfl
  ·simp (disch := (first | assumption | omega | (simp only [alloc_n, set_n] <;> omega) | (simp (disch := (first | assumption | omega | (simp only [alloc_n, set_n] <;> omega))) only [row_alloc, row_set]; assumption))) only [f42, W_block, ANs, A3s, AOp.map, ↓reduceIte, Nat.reduceAdd, Nat.reduceEqDiff, reduceCtorEq, initFr, Nat.reduceLT, clsA, List.take, List.drop, Nat.reduceLeDiff, Nat.reduceMul, Nat.reduceSub, reduceIte, ANc, A3c, z78, hg, his, hlen, fl78n, hsub]
   exact fin _ rfl rfl
 simp only [h0, if_false] at hq2
 have hn : ¬ l.length = 0 := by omega
 have hls : lst l = l[l.length - 1] := by unfold lst; rw [List.getD_eq_getElem?_getD, List.getElem?_eq_getElem (by omega)]; rfl
 have hly : (lst l).s.t.length = 64 := by rw [hls]; exact h.ok _ (List.getElem_mem _)
 obtain ⟨nn, hrow⟩ := hsl.at_ (by omega) (i := l.length - 1) (by simp; omega)
 rw [List.getElem_map, ← hls] at hrow
 have hto : ((l.length : Int) - 1).toNat = l.length - 1 := by omega
 have hbn : bn v ≤ H.n := AP.bn h.ap
 have hbs : bn v ≠ s + 1 := by
  unfold bn; intro e; apply h.ne
  cases hb : blk v with
  | none => rw [hb] at e; simp at e
  | some b => rw [hb] at e; simp at e; rw [e]
 generalize hy : lst l = y at *
 have ly := LC_len hly
 have lss : ((LC y).drop 2).take 68 = SC y.s := by
  show (SC y.s).take 68 = _; rw [List.take_of_length_le (by rw [SC_len hly]; omega)]
 by_cases h1 : 0 < a
 ·simp only [h1, if_true] at hq2
  have hak : ackL l a = l[a - 1] := by unfold ackL; rw [if_neg (by omega), List.getD_eq_getElem?_getD, List.getElem?_eq_getElem (by omega)]; rfl
  have hlb : (ackL l a).s.t.length = 64 := by rw [hak]; exact h.ok _ (List.getElem_mem _)
  obtain ⟨_, hrow2⟩ := hsl.at_ (by omega) (i := a - 1) (by simp; omega)
  rw [List.getElem_map, ← hak] at hrow2
  have hto2 : ((a : Int) - 1).toNat = a - 1 := by omega
  generalize ackL l a = z at *
  have lz := LC_len hlb
  have lzs : ((LC z).drop 2).take 68 = SC z.s := by
   show (SC z.s).take 68 = _; rw [List.take_of_length_le (by rw [SC_len hlb]; omega)]
  simp (disch := (first | assumption | omega | (simp only [alloc_n, set_n] <;> omega) | (simp (disch := (first | assumption | omega | (simp only [alloc_n, set_n] <;> omega))) only [row_alloc, row_set]; assumption))) only [f42, W_block, ANs, A3s, AOp.map, ↓reduceIte, Nat.reduceAdd, Nat.reduceEqDiff, reduceCtorEq, initFr, Nat.reduceLT, clsA, List.take, List.drop, Nat.reduceLeDiff, Nat.reduceMul, Nat.reduceSub, reduceIte, ANc, A3c, z78, z70, hg, his, hlen, hsub, hto, hto2, LC_one, LC_0, LC_1, lss, lzs, flP']
  have kk := (kz.alloc (.cells true false 70 (LC y) 72)).alloc (.cells true false 70 (LC z) 72)
  refine callK (t14g (pre ⟨2, y.e, y.c, z.e, z.c, S0, ⟨0, 0, 0, 0, []⟩⟩ rfl) (s := z.s) (t := y.s) hlb hly) ?_
  rintro _ K ⟨k1, w, rfl, tw, fw⟩
  have gz : K.get H.n = some (.cells true false 78 Z78 38) := k1.at_ (by rw [g_old _ (by simp [alloc_n]; omega), g_old _ (by simp [alloc_n]), g_new _ rfl])
  have lg := GC_len (m := ⟨2, y.e, y.c, z.e, z.c, S0, diffD z.s y.s⟩) rfl w
  have og := GC_one ⟨2, y.e, y.c, z.e, z.c, S0, diffD z.s y.s⟩ tw.one
  have hGP : MP (pre ⟨2, y.e, y.c, z.e, z.c, S0, ⟨0, 0, 0, 0, []⟩⟩ rfl) (diffD z.s y.s) w = GC ⟨2, y.e, y.c, z.e, z.c, S0, diffD z.s y.s⟩ w := rfl
  simp (disch := (first | assumption | omega | (simp only [alloc_n, set_n] <;> omega) | (simp (disch := (first | assumption | omega | (simp only [alloc_n, set_n] <;> omega))) only [row_alloc, row_set]; assumption))) only [W_block, ANs, A3s, AOp.map, ↓reduceIte, Nat.reduceAdd, Nat.reduceEqDiff, reduceCtorEq, initFr, Nat.reduceLT, clsA, List.take, List.drop, Nat.reduceLeDiff, Nat.reduceMul, Nat.reduceSub, reduceIte, ANc, A3c, gz, hGP, og]
  have kF : Keeps H (K.set H.n (.cells true false 78 (GC ⟨2, y.e, y.c, z.e, z.c, S0, diffD z.s y.s⟩ w) 38)) := (kk.trans k1).chg_trans (Chg.set K (AHeap.get_lt gz) _) (by simp)
  refine hq2 _ _ ⟨_, resCn 78 2 1 (b := H.n) rfl (full (get1 gz _) lg), kF, w, rfl, tw.chgL (fun hne b hb => by
   have := fw b (mem_blkL.1 hb)
   simp only [alloc_n] at this
   exact g_sets _ (by omega) (AHeap.get_lt gz)), fun b hb => by
   have := fw b hb
   simp only [alloc_n] at this
   omega⟩
 ·simp only [h1, if_false] at hq2
  have lg := GC_len (m := { G0 with k := 1, e := y.e, c := y.c, s := y.s }) hly (.slice none 0 0)
  have og := GC_one { G0 with k := 1, e := y.e, c := y.c, s := y.s } (v := .slice none 0 0) rfl
  simp (disch := (first | assumption | omega | (simp only [alloc_n, set_n] <;> omega) | (simp (disch := (first | assumption | omega | (simp only [alloc_n, set_n] <;> omega))) only [row_alloc, row_set]; assumption))) only [f42, W_block, ANs, A3s, AOp.map, ↓reduceIte, Nat.reduceAdd, Nat.reduceEqDiff, reduceCtorEq, initFr, Nat.reduceLT, clsA, List.take, List.drop, Nat.reduceLeDiff, Nat.reduceMul, Nat.reduceSub, reduceIte, ANc, A3c, z78, z70, hg, his, hlen, hsub, hto, LC_one, LC_0, LC_1, lss, flW y.e y.c hly, og]
  refine hq2 _ _ ⟨_, resCn 78 2 1 (b := H.n) rfl ?_, ?_, .slice none 0 0, rfl, ⟨none, 0, rfl, fun h => absurd rfl h⟩, fun b hb => by cases hb⟩
  ·simp (disch := (first | assumption | omega | (simp only [alloc_n, set_n] <;> omega) | (simp (disch := (first | assumption | omega | (simp only [alloc_n, set_n] <;> omega))) only [row_alloc, row_set]; assumption))) only [W_block, ANs, A3s, AOp.map, ↓reduceIte, Nat.reduceAdd, Nat.reduceEqDiff, reduceCtorEq, initFr, Nat.reduceLT, clsA, List.take, List.drop, Nat.reduceLeDiff, Nat.reduceMul, Nat.reduceSub, reduceIte, ANc, A3c]
  ·exact ((Keeps.refl H).alloc _).alloc _
theorem t39 {H : AHeap} {s : Nat} {u v : Value} {l : List Lg} {a : Nat} {m : Msg} (h : SfV H s u l a) (hr : Rise l) (hl : l.length ≤ 100) (ha : a ≤ l.length) (hs : m.s.t.length = 64) (ht : TB H v m.d.l) (hml : m.d.l.length ≤ 100000) :
  ∃ w H', ARun Try.prog 0 39 [ptr s 0, .agg (GC m v).toArray] H w H' ∧ w = .int .i64 (hearS l a m).1 ∧ SfV H' s u l (hearS l a m).2 ∧ Chg [s] H H' := by
 refine walk2 f39_ok f39_n ?_
 intro Q hq1 hq2
 have hg := h.g
 have ls := AHeap.get_lt hg
 have ml := GC_len hs v
 have mo := GC_one m ht.one
 have hsl := h.sl
 have his := hsl.is
 have hlen := hsl.len
 rw [List.length_map] at hlen
 have hbs : bn u ≠ s + 1 := by
  unfold bn; intro e; apply h.ne
  cases hb : blk u with
  | none => rw [hb] at e; simp at e
  | some b => rw [hb] at e; simp at e; rw [e]
 simp (disch := (first | assumption | omega | (simp only [alloc_n, set_n] <;> omega) | (simp (disch := (first | assumption | omega | (simp only [alloc_n, set_n] <;> omega))) only [row_alloc, row_set]; assumption))) only [f39, W_block, ANs, A3s, AOp.map, ↓reduceIte, Nat.reduceAdd, Nat.reduceEqDiff, reduceCtorEq, initFr, Nat.reduceLT, clsA, List.take, List.drop, Nat.reduceLeDiff, Nat.reduceMul, Nat.reduceSub, reduceIte, ANc, A3c, mo]
 have ka := (Keeps.refl H).alloc (.cells true false 78 (GC m v) 38)
 refine callK (t61 (m := m) (v := v) hs (ht.keeps ka) hml) ?_
 rintro _ K ⟨rfl, kK⟩
 have nK := kK.n
 rw [alloc_n] at nK
 have kk := ka.trans kK
 have hu := kk.at_ hg
 have gm : K.get H.n = some (.cells true false 78 (GC m v) 38) := kK.at_ (AHeap.get_alloc_new H _)
 have upd : ∀ {X : AHeap} {a' : Nat}, Chg [s] H X → X.get s = some (.cells true false 2 [u, .int .i64 ((a' : Int) - 1)] 99) → SfV X s u l a' := fun c g => ⟨g, h.ap.chg c (by intro z hz e; simp at e; subst e; exact h.ne (mem_blkL.1 hz)), h.ne, h.ok⟩
 unfold hearS at hq2
 cases hmay : mayB m
 ·simp only [hmay, true_or, if_true] at hq2
  simp (disch := (first | assumption | omega | (simp only [alloc_n, set_n] <;> omega) | (simp (disch := (first | assumption | omega | (simp only [alloc_n, set_n] <;> omega))) only [row_alloc, row_set, Keeps.row kK]; assumption))) only [Keeps.get kK, Keeps.row kK, W_block, ANs, A3s, AOp.map, ↓reduceIte, Nat.reduceAdd, Nat.reduceEqDiff, reduceCtorEq, initFr, Nat.reduceLT, clsA, List.take, List.drop, Nat.reduceLeDiff, Nat.reduceMul, Nat.reduceSub, reduceIte, ANc, A3c, GC_0]
  exact hq2 _ _ ⟨_, rfl, rfl, h.keeps kk, kk.chg _⟩
 by_cases hk : m.k < 3
 ·simp only [hk, or_true, if_true] at hq2
  simp (disch := (first | assumption | omega | (simp only [alloc_n, set_n] <;> omega) | (simp (disch := (first | assumption | omega | (simp only [alloc_n, set_n] <;> omega))) only [row_alloc, row_set, Keeps.row kK]; assumption))) only [Keeps.get kK, Keeps.row kK, W_block, ANs, A3s, AOp.map, ↓reduceIte, Nat.reduceAdd, Nat.reduceEqDiff, reduceCtorEq, initFr, Nat.reduceLT, clsA, List.take, List.drop, Nat.reduceLeDiff, Nat.reduceMul, Nat.reduceSub, reduceIte, ANc, A3c, GC_0]
  exact hq2 _ _ ⟨_, rfl, rfl, h.keeps kk, kk.chg _⟩
 simp only [hmay, hk, Bool.true_eq_false, or_self, if_false] at hq2
 by_cases hk4 : m.k = 4
 ·simp only [hk4, if_true] at hq2
  simp (disch := (first | assumption | omega | (simp only [alloc_n, set_n] <;> omega) | (simp (disch := (first | assumption | omega | (simp only [alloc_n, set_n] <;> omega))) only [row_alloc, row_set, Keeps.row kK]; assumption))) only [Keeps.get kK, Keeps.row kK, W_block, ANs, A3s, AOp.map, ↓reduceIte, Nat.reduceAdd, Nat.reduceEqDiff, reduceCtorEq, initFr, Nat.reduceLT, clsA, List.take, List.drop, Nat.reduceLeDiff, Nat.reduceMul, Nat.reduceSub, reduceIte, ANc, A3c, GC_0, hg]
  have c := (kk.chg [s]).set' (b := s) (.inr (by simp)) (by omega) (.cells true false 2 [u, .int .i64 (-1)] 99)
  exact hq2 _ _ ⟨_, rfl, rfl, upd c (get1 hu _), c⟩
 simp only [hk4, if_false] at hq2
 simp (disch := (first | assumption | omega | (simp only [alloc_n, set_n] <;> omega) | (simp (disch := (first | assumption | omega | (simp only [alloc_n, set_n] <;> omega))) only [row_alloc, row_set, Keeps.row kK]; assumption))) only [Keeps.get kK, Keeps.row kK, W_block, ANs, A3s, AOp.map, ↓reduceIte, Nat.reduceAdd, Nat.reduceEqDiff, reduceCtorEq, initFr, Nat.reduceLT, clsA, List.take, List.drop, Nat.reduceLeDiff, Nat.reduceMul, Nat.reduceSub, reduceIte, ANc, A3c, GC_0]
 refine W_loop2 (fun q fr X => ∃ (i a' : Nat) (y7 y8 : Value), q = l.length - i ∧ i ≤ l.length ∧ Chg [s] K X ∧ X.get s = some (.cells true false 2 [u, .int .i64 ((a' : Int) - 1)] 99) ∧
  a' = (match l.findIdx? (keyIs m.e m.c) with | some k => if k < i then max a (k + 1) else a | none => a) ∧ fr = [ptr s 0, .agg (GC m v).toArray, ptr H.n 0, .int .i64 0, .int .i64 i, .bool false, .bool false, y7, y8]) l.length
  ⟨0, a, _, _, rfl, by omega, Chg.refl _ _, hu, by cases l.findIdx? (keyIs m.e m.c) <;> simp, rfl⟩ ?_
 rintro Q' q fr X ⟨i, a', y7, y8, rfl, hi, cX, gX, ha', rfl⟩ hn he hrt
 have lX := AHeap.get_lt gX
 have gmX : X.get H.n = some (.cells true false 78 (GC m v) 38) := cX.at_ gm (by simp; omega)
 have cHX : Chg [s] H X := (kk.chg [s]).trans cX (fun z hz => .inl hz)
 have hX := upd cHX gX
 by_cases hlt : i < l.length
 case neg =>
  simp (disch := (first | assumption | omega | (simp only [alloc_n, set_n] <;> omega) | (simp (disch := (first | assumption | omega | (simp only [alloc_n, set_n] <;> omega))) only [row_alloc, row_set]; assumption))) only [W_block, ANs, A3s, AOp.map, ↓reduceIte, Nat.reduceAdd, Nat.reduceEqDiff, reduceCtorEq, initFr, Nat.reduceLT, clsA, List.take, List.drop, Nat.reduceLeDiff, Nat.reduceMul, Nat.reduceSub, reduceIte, ANc, A3c, gX, his, hlen]
  refine he _ _ _ ?_
  simp (disch := (first | assumption | omega | (simp only [alloc_n, set_n] <;> omega) | (simp (disch := (first | assumption | omega | (simp only [alloc_n, set_n] <;> omega))) only [row_alloc, row_set]; assumption))) only [W_block, ANs, A3s, AOp.map, ↓reduceIte, Nat.reduceAdd, Nat.reduceEqDiff, reduceCtorEq, initFr, Nat.reduceLT, clsA, List.take, List.drop, Nat.reduceLeDiff, Nat.reduceMul, Nat.reduceSub, reduceIte, ANc, A3c]
  have hie : i = l.length := by omega
  subst hie
  cases hf : l.findIdx? (keyIs m.e m.c) with
  | none =>
   simp only [hf] at hq2 ha'
   subst ha'
   exact hq2 _ _ ⟨_, rfl, rfl, hX, cHX⟩
  | some k =>
   have hk : k < l.length := (List.findIdx?_eq_some_iff_getElem.1 hf).1
   simp only [hf, hk, if_true] at hq2 ha'
   subst ha'
   exact hq2 _ _ ⟨_, rfl, rfl, hX, cHX⟩
 obtain ⟨nn, hrow⟩ := hX.sl.at_ (by omega) (i := i) (by simp; omega)
 rw [List.getElem_map] at hrow
 have hbX : bn u ≤ X.n := AP.bn hX.ap
 have key : ∀ a'' : Nat, a'' = (match l.findIdx? (keyIs m.e m.c) with | some k => if k < i + 1 then max a (k + 1) else a | none => a) → ∀ X', Chg [s] X X' → X'.get s = some (.cells true false 2 [u, .int .i64 ((a'' : Int) - 1)] 99) → ∀ y7 y8, Q' .normal [ptr s 0, .agg (GC m v).toArray, ptr H.n 0, .int .i64 0, .int .i64 ((i + 1 : Nat) : Int), .bool false, .bool false, y7, y8] X' :=
  fun a'' ha'' X' c g y7 y8 => hn _ _ _ ⟨i + 1, a'', _, _, rfl, by omega, cX.trans c (fun z hz => .inl hz), g, ha'', rfl⟩ (by omega)
 by_cases hm : (l[i]).e = m.e ∧ (l[i]).c = m.c
 ·have hf := rise_find hr hlt hm.1 hm.2
  rw [hf] at ha' key
  simp only [Nat.lt_irrefl, if_false] at ha'
  subst ha'
  simp only [Nat.lt_add_one, if_true] at key
  by_cases hb : (i : Int) > (a' : Int) - 1
  ·simp (disch := (first | assumption | omega | (simp only [alloc_n, set_n] <;> omega) | (simp (disch := (first | assumption | omega | (simp only [alloc_n, set_n] <;> omega))) only [row_alloc, row_set]; assumption))) only [W_block, ANs, A3s, AOp.map, ↓reduceIte, Nat.reduceAdd, Nat.reduceEqDiff, reduceCtorEq, initFr, Nat.reduceLT, clsA, List.take, List.drop, Nat.reduceLeDiff, Nat.reduceMul, Nat.reduceSub, reduceIte, ANc, A3c, gX, his, hlen, gmX, GC_1, GC_2, LC_0, LC_1, wrap_succ (n := i) (by omega)]
   refine key _ rfl _ (Chg.set X lX _) ?_ _ _
   rw [get1 gX]
   have : ((max a' (i + 1) : Nat) : Int) - 1 = i := by omega
   rw [this]
  ·simp (disch := (first | assumption | omega | (simp only [alloc_n, set_n] <;> omega) | (simp (disch := (first | assumption | omega | (simp only [alloc_n, set_n] <;> omega))) only [row_alloc, row_set]; assumption))) only [W_block, ANs, A3s, AOp.map, ↓reduceIte, Nat.reduceAdd, Nat.reduceEqDiff, reduceCtorEq, initFr, Nat.reduceLT, clsA, List.take, List.drop, Nat.reduceLeDiff, Nat.reduceMul, Nat.reduceSub, reduceIte, ANc, A3c, gX, his, hlen, gmX, GC_1, GC_2, LC_0, LC_1, wrap_succ (n := i) (by omega)]
   refine key _ rfl _ (Chg.refl _ _) ?_ _ _
   rw [gX]
   have : max a' (i + 1) = a' := by omega
   rw [this]
 ·have hne : ∀ k, l.findIdx? (keyIs m.e m.c) = some k → k ≠ i := by
   intro k hk e
   subst e
   have := (List.findIdx?_eq_some_iff_getElem.1 hk).2.1
   simp [keyIs] at this
   exact hm this
  have ha2 : a' = (match l.findIdx? (keyIs m.e m.c) with | some k => if k < i + 1 then max a (k + 1) else a | none => a) := by
   rw [ha']
   cases hf : l.findIdx? (keyIs m.e m.c) with
   | none => rfl
   | some k =>
    have := hne k hf
    simp only [show (k < i + 1) = (k < i) by apply propext; omega]
  by_cases hb : (i : Int) > (a' : Int) - 1
  ·by_cases h1 : (l[i]).e = m.e
   ·have h2 : ¬ (l[i]).c = m.c := fun h2 => hm ⟨h1, h2⟩
    simp (disch := (first | assumption | omega | (simp only [alloc_n, set_n] <;> omega) | (simp (disch := (first | assumption | omega | (simp only [alloc_n, set_n] <;> omega))) only [row_alloc, row_set]; assumption))) only [W_block, ANs, A3s, AOp.map, ↓reduceIte, Nat.reduceAdd, Nat.reduceEqDiff, reduceCtorEq, initFr, Nat.reduceLT, clsA, List.take, List.drop, Nat.reduceLeDiff, Nat.reduceMul, Nat.reduceSub, reduceIte, ANc, A3c, gX, his, hlen, gmX, GC_1, GC_2, LC_0, LC_1, wrap_succ (n := i) (by omega)]
    exact key _ ha2 _ (Chg.refl _ _) gX _ _
   ·simp (disch := (first | assumption | omega | (simp only [alloc_n, set_n] <;> omega) | (simp (disch := (first | assumption | omega | (simp only [alloc_n, set_n] <;> omega))) only [row_alloc, row_set]; assumption))) only [W_block, ANs, A3s, AOp.map, ↓reduceIte, Nat.reduceAdd, Nat.reduceEqDiff, reduceCtorEq, initFr, Nat.reduceLT, clsA, List.take, List.drop, Nat.reduceLeDiff, Nat.reduceMul, Nat.reduceSub, reduceIte, ANc, A3c, gX, his, hlen, gmX, GC_1, GC_2, LC_0, LC_1, wrap_succ (n := i) (by omega)]
    exact key _ ha2 _ (Chg.refl _ _) gX _ _
  ·simp (disch := (first | assumption | omega | (simp only [alloc_n, set_n] <;> omega) | (simp (disch := (first | assumption | omega | (simp only [alloc_n, set_n] <;> omega))) only [row_alloc, row_set]; assumption))) only [W_block, ANs, A3s, AOp.map, ↓reduceIte, Nat.reduceAdd, Nat.reduceEqDiff, reduceCtorEq, initFr, Nat.reduceLT, clsA, List.take, List.drop, Nat.reduceLeDiff, Nat.reduceMul, Nat.reduceSub, reduceIte, ANc, A3c, gX, his, hlen, gmX, GC_1, GC_2, LC_0, LC_1, wrap_succ (n := i) (by omega)]
   exact key _ ha2 _ (Chg.refl _ _) gX _ _
end Go.AM.Rp

namespace Go.AM.Rp
open Go.Proofs
theorem bslR {x : Lg} (h : x.s.t.length = 64) (H : AHeap) : asem (.bslice 72 70 1 Z70 [(0, 70, .agg (LC x).toArray)]) H = some (slc H.n 0 1 1, H.alloc (.cells true false 70 (LC x) 72)) := by
 rw [a_bslice (fl70a h), if_pos ⟨LC_one x, by rw [LC_len h]⟩]
theorem t37 {H : AHeap} {s : Nat} {v : Value} {l : List Lg} {a : Nat} {x : Lg} (h : SfV H s v l a) (hx : x.s.t.length = 64) (hl : l.length ≤ 100) (ha : a ≤ 1000) :
  ∃ w H', ARun Try.prog 0 37 [ptr s 0, .agg (LC x).toArray] H w H' ∧ w = .int .i64 (offerR l a x).1 ∧ ∃ v', SfV H' s v' (offerR l a x).2.1 (offerR l a x).2.2 ∧ Chg (s :: blkL v) H H' ∧ ∀ b, blk v' = some b → blk v = some b ∨ H.n ≤ b := by
 refine walk2 f37_ok f37_n ?_
 intro Q hq1 hq2
 have hg := h.g
 have ls := AHeap.get_lt hg
 have lx := LC_len hx
 have hsl := h.sl
 have his := hsl.is
 have hlen := hsl.len
 rw [List.length_map] at hlen
 have hbn : bn v ≤ H.n := AP.bn h.ap
 have hbs := bn_ne h.ne
 have kz := (Keeps.refl H).alloc (.cells true false 70 (LC x) 72)
 have keep : ∀ {X : AHeap}, Keeps H X → ∃ v', SfV X s v' l a ∧ Chg (s :: blkL v) H X ∧ ∀ b, blk v' = some b → blk v = some b ∨ H.n ≤ b := fun k => ⟨v, h.keeps k, k.chg _, fun b hb => .inl hb⟩
 unfold offerR at hq2
 rw [inB2_eq] at hq2
 refine W_cut (fun fr K => Keeps H K ∧ K.get H.n = some (.cells true false 70 (LC x) 72) ∧ ¬ (0 < l.length ∧ cmpL x (lst l) ≤ 0) ∧ (inI x.e && inI x.c) = true ∧ ∃ y4 y5, fr = [ptr s 0, .agg (LC x).toArray, ptr H.n 0, .int .i64 0, y4, y5]) ?_ ?_
 ·intro Q2 hm2 he2 hr2
  simp (disch := (first | assumption | omega | (simp only [alloc_n, set_n] <;> omega) | (simp (disch := (first | assumption | omega | (simp only [alloc_n, set_n] <;> omega))) only [row_alloc, row_set]; assumption))) only [f37, W_block, ANs, A3s, AOp.map, ↓reduceIte, Nat.reduceAdd, Nat.reduceEqDiff, reduceCtorEq, initFr, Nat.reduceLT, clsA, List.take, List.drop, Nat.reduceLeDiff, Nat.reduceMul, Nat.reduceSub, reduceIte, ANc, A3c, LC_one, LC_0]
  refine callK (t68 _ x.e) ?_
  rintro _ K ⟨rfl, rfl⟩
  cases e1 : inI x.e
  ·simp only [e1, Bool.false_and, if_true] at hq2
   simp (disch := (first | assumption | omega | (simp only [alloc_n, set_n] <;> omega) | (simp (disch := (first | assumption | omega | (simp only [alloc_n, set_n] <;> omega))) only [row_alloc, row_set]; assumption))) only [W_block, ANs, A3s, AOp.map, ↓reduceIte, Nat.reduceAdd, Nat.reduceEqDiff, reduceCtorEq, initFr, Nat.reduceLT, clsA, List.take, List.drop, Nat.reduceLeDiff, Nat.reduceMul, Nat.reduceSub, reduceIte, ANc, A3c]
   exact hr2 _ _ (hq2 _ _ ⟨_, rfl, rfl, keep kz⟩)
  simp (disch := (first | assumption | omega | (simp only [alloc_n, set_n] <;> omega) | (simp (disch := (first | assumption | omega | (simp only [alloc_n, set_n] <;> omega))) only [row_alloc, row_set]; assumption))) only [W_block, ANs, A3s, AOp.map, ↓reduceIte, Nat.reduceAdd, Nat.reduceEqDiff, reduceCtorEq, initFr, Nat.reduceLT, clsA, List.take, List.drop, Nat.reduceLeDiff, Nat.reduceMul, Nat.reduceSub, reduceIte, ANc, A3c, LC_1]
  refine callK (t68 _ x.c) ?_
  rintro _ K ⟨rfl, rfl⟩
  cases e2 : inI x.c
  ·simp only [e1, e2, Bool.and_false, if_true] at hq2
   simp (disch := (first | assumption | omega | (simp only [alloc_n, set_n] <;> omega) | (simp (disch := (first | assumption | omega | (simp only [alloc_n, set_n] <;> omega))) only [row_alloc, row_set]; assumption))) only [W_block, ANs, A3s, AOp.map, ↓reduceIte, Nat.reduceAdd, Nat.reduceEqDiff, reduceCtorEq, initFr, Nat.reduceLT, clsA, List.take, List.drop, Nat.reduceLeDiff, Nat.reduceMul, Nat.reduceSub, reduceIte, ANc, A3c]
   exact hr2 _ _ (hq2 _ _ ⟨_, rfl, rfl, keep kz⟩)
  simp only [e1, e2, Bool.and_self, Bool.true_eq_false, if_false] at hq2
  by_cases h0 : 0 < l.length
  case neg =>
   simp (disch := (first | assumption | omega | (simp only [alloc_n, set_n] <;> omega) | (simp (disch := (first | assumption | omega | (simp only [alloc_n, set_n] <;> omega))) only [row_alloc, row_set]; assumption))) only [W_block, ANs, A3s, AOp.map, ↓reduceIte, Nat.reduceAdd, Nat.reduceEqDiff, reduceCtorEq, initFr, Nat.reduceLT, clsA, List.take, List.drop, Nat.reduceLeDiff, Nat.reduceMul, Nat.reduceSub, reduceIte, ANc, A3c, hg, his, hlen]
   exact hm2 _ _ ⟨kz, AHeap.get_alloc_new H _, by omega, by rw [e1, e2]; rfl, _, _, rfl⟩
  obtain ⟨nn, hrow⟩ := hsl.at_ (by omega) (i := l.length - 1) (by simp; omega)
  have hls : lst l = l[l.length - 1] := by unfold lst; rw [List.getD_eq_getElem?_getD, List.getElem?_eq_getElem (by omega)]; rfl
  rw [List.getElem_map, ← hls] at hrow
  have hto : ((l.length : Int) - 1).toNat = l.length - 1 := by omega
  have hsub : IntKind.i64.wrap ((l.length : Int) - 1) = (l.length : Int) - 1 := wrap_i64 (by omega) (by omega)
  simp (disch := (first | assumption | omega | (simp only [alloc_n, set_n] <;> omega) | (simp (disch := (first | assumption | omega | (simp only [alloc_n, set_n] <;> omega))) only [row_alloc, row_set]; assumption))) only [W_block, ANs, A3s, AOp.map, ↓reduceIte, Nat.reduceAdd, Nat.reduceEqDiff, reduceCtorEq, initFr, Nat.reduceLT, clsA, List.take, List.drop, Nat.reduceLeDiff, Nat.reduceMul, Nat.reduceSub, reduceIte, ANc, A3c, hg, his, hlen, hsub, hto]
  refine callK (t69 _ x (lst l)) ?_
  rintro _ K ⟨rfl, kK⟩
  have kk := kz.trans kK
  rw [laterB_eq]
  by_cases hc : cmpL x (lst l) ≤ 0
  ·rw [if_pos ⟨h0, hc⟩] at hq2
   simp (disch := (first | assumption | omega | (simp only [alloc_n, set_n] <;> omega) | (simp (disch := (first | assumption | omega | (simp only [alloc_n, set_n] <;> omega))) only [row_alloc, row_set]; assumption))) only [W_block, ANs, A3s, AOp.map, ↓reduceIte, Nat.reduceAdd, Nat.reduceEqDiff, reduceCtorEq, initFr, Nat.reduceLT, clsA, List.take, List.drop, Nat.reduceLeDiff, Nat.reduceMul, Nat.reduceSub, reduceIte, ANc, A3c, hc]
   exact hr2 _ _ (hq2 _ _ ⟨_, rfl, rfl, keep kk⟩)
  ·simp (disch := (first | assumption | omega | (simp only [alloc_n, set_n] <;> omega) | (simp (disch := (first | assumption | omega | (simp only [alloc_n, set_n] <;> omega))) only [row_alloc, row_set]; assumption))) only [W_block, ANs, A3s, AOp.map, ↓reduceIte, Nat.reduceAdd, Nat.reduceEqDiff, reduceCtorEq, initFr, Nat.reduceLT, clsA, List.take, List.drop, Nat.reduceLeDiff, Nat.reduceMul, Nat.reduceSub, reduceIte, ANc, A3c, hc]
   exact hm2 _ _ ⟨kk, kK.at_ (AHeap.get_alloc_new H _), fun h => hc h.2, by rw [e1, e2]; rfl, _, _, rfl⟩
 ·rintro fr K ⟨kK, gx, hno, hin, y4, y5, rfl⟩
  rw [hin] at hq2
  simp only [Bool.true_eq_false, if_false] at hq2
  rw [if_neg hno] at hq2
  have hK := h.keeps kK
  have gK := hK.g
  have nK := kK.n
  have lK := AHeap.get_lt gK
  have lxK := AHeap.get_lt gx
  simp (disch := (first | assumption | omega | (simp only [alloc_n, set_n] <;> omega) | (simp (disch := (first | assumption | omega | (simp only [alloc_n, set_n] <;> omega))) only [row_alloc, row_set]; assumption))) only [W_block, ANs, A3s, AOp.map, ↓reduceIte, Nat.reduceAdd, Nat.reduceEqDiff, reduceCtorEq, initFr, Nat.reduceLT, clsA, List.take, List.drop, Nat.reduceLeDiff, Nat.reduceMul, Nat.reduceSub, reduceIte, ANc, A3c, gK, gx, bslR hx]
  have kb := (Keeps.refl K).alloc (.cells true false 70 (LC x) 72)
  refine appGD (hK.ap.keeps kb) ⟨_, _, rfl⟩ (elems_new rfl (by rw [lx])) lx (by omega) ?_
  intro v' K2 ap2 c2 hb2
  have hF : FL l ++ LC x = FL (l ++ [x]) := by rw [FL_app]; simp [FL]
  rw [hF] at ap2
  have hk2 : Ok64 (l ++ [x]) := by
   intro y hy
   rcases List.mem_append.1 hy with hy | hy
   ·exact h.ok y hy
   ·simp at hy; rw [hy]; exact hx
  have gK2 : K2.get s = some (.cells true false 2 [v, .int .i64 ((a : Int) - 1)] 99) := c2.at_ (kb.at_ gK) (by rw [mem_blkL]; exact h.ne)
  have lK2 := AHeap.get_lt gK2
  have hne2 : blk v' ≠ some s := by
   rcases hb2 with e | e
   ·rw [e]; exact h.ne
   ·rw [e, alloc_n]; intro e; cases e; omega
  obtain ⟨va, hva⟩ := ap2.shape
  have is2 : isS v' = true := by rw [hva]; rfl
  have len2 : lenS v' = l.length + 1 := by rw [hva]; rfl
  have one2 : v'.oneCell' = true := by rw [hva]; rfl
  have cH2 : Chg (s :: blkL v) H K2 := ((kK.trans kb).chg _).trans (c2.mono (T := s :: blkL v) (fun z hz => by simp [hz])) (fun z hz => .inl hz)
  have fr2 : ∀ b, blk v' = some b → blk v = some b ∨ H.n ≤ b := by
   intro b hb
   rcases hb2 with e | e
   ·rw [e] at hb; exact .inl hb
   ·rw [e, alloc_n] at hb; cases hb; exact .inr (by omega)
  have ap3 := AP.chg1 ap2 (Chg.set K2 lK2 (.cells true false 2 [v', .int .i64 ((a : Int) - 1)] 99)) (bn_ne hne2)
  have gK3 := get1 gK2 (.cells true false 2 [v', .int .i64 ((a : Int) - 1)] 99)
  have cH3 : Chg (s :: blkL v) H (K2.set s (.cells true false 2 [v', .int .i64 ((a : Int) - 1)] 99)) := cH2.set' (.inr (by simp)) lK2 _
  by_cases h8 : 8 < l.length + 1
  ·rw [if_pos h8] at hq2
   simp (disch := (first | assumption | omega | (simp only [alloc_n, set_n] <;> omega) | (simp (disch := (first | assumption | omega | (simp only [alloc_n, set_n] <;> omega))) only [row_alloc, row_set]; assumption))) only [W_block, ANs, A3s, AOp.map, ↓reduceIte, Nat.reduceAdd, Nat.reduceEqDiff, reduceCtorEq, initFr, Nat.reduceLT, clsA, List.take, List.drop, Nat.reduceLeDiff, Nat.reduceMul, Nat.reduceSub, reduceIte, ANc, A3c, gK2, is2, len2, one2]
   rcases ap3 with ⟨_, h0, _⟩ | ⟨b, room, rfl, hcl, hgb⟩
   ·simp at h0
   have hsl2 : ∀ X : AHeap, X.get b = some (.cells true room 70 (FL (l ++ [x])) 72) → asem (.slsl 70 (slc b 0 (l.length + 1) (l.length + 1)) (some (.int .i64 1)) none none) X = some (slc b (0 + 1 * 70) (l.length + 1 - 1) (l.length + 1 - 1), X) := fun X hX => a_slsl hX (bnd_none _ _) (bnd_none _ _) (bnd_some .i64 1 0 (l.length + 1) (by omega))
   obtain ⟨K3, hK3⟩ : ∃ K3, K3 = K2.set s (.cells true false 2 [slc b 0 (l.length + 1) (l.length + 1), .int .i64 ((a : Int) - 1)] 99) := ⟨_, rfl⟩
   have hgb' : K3.get b = some (.cells true room 70 (FL (l ++ [x])) 72) := by rw [hK3]; exact hgb
   rw [← hK3] at gK3 cH3 ⊢
   have lK3 := AHeap.get_lt gK3
   have n32 : K3.n = K2.n := by rw [hK3]; rfl
   have lb3 := AHeap.get_lt hgb'
   have kE := (Keeps.refl K3).alloc (.cells true false 70 [] 72)
   have hlF : (FL (l ++ [x])).length = (l.length + 1) * 70 := hcl
   have fl0 : fillA [] [] = some [] := rfl
   simp (disch := (first | assumption | omega | (simp only [alloc_n, set_n] <;> omega) | (simp (disch := (first | assumption | omega | (simp only [alloc_n, set_n] <;> omega))) only [row_alloc, row_set]; assumption))) only [W_block, ANs, A3s, AOp.map, ↓reduceIte, Nat.reduceAdd, Nat.reduceEqDiff, reduceCtorEq, initFr, Nat.reduceLT, clsA, List.take, List.drop, Nat.reduceLeDiff, Nat.reduceMul, Nat.reduceSub, reduceIte, ANc, A3c, gK3, fl0, hsl2 (K3.alloc (.cells true false 70 [] 72)) (kE.at_ hgb')]
   have hdr : (FL (l ++ [x])).drop 70 = FL ((l ++ [x]).drop 1) := by
    obtain ⟨y, t, e⟩ : ∃ y t, l ++ [x] = y :: t := by cases l with
     | nil => exact ⟨_, _, rfl⟩
     | cons y t => exact ⟨y, t ++ [x], rfl⟩
    rw [e]
    have := LC_len (hk2 y (by rw [e]; simp))
    show (LC y ++ FL t).drop 70 = FL t
    rw [← this, List.drop_left]
   have hel : elemsA (K3.alloc (.cells true false 70 [] 72)) 70 (slc b (0 + 1 * 70) (l.length + 1 - 1) (l.length + 1 - 1)) = some (FL ((l ++ [x]).drop 1)) := by
    simp only [elemsA, slc, kE.at_ hgb']
    rw [if_pos (by rw [hlF]; omega), Nat.zero_add, Nat.one_mul, hdr, List.take_of_length_le (by rw [← hdr, List.length_drop, hlF]; omega)]
   have hl1 : (FL ((l ++ [x]).drop 1)).length = (l.length + 1 - 1) * 70 := by rw [← hdr, List.length_drop, hlF]; omega
   refine appG (n := 0) (c := []) (.inr ⟨K3.n, false, by rw [hK3]; rfl, rfl, AHeap.get_alloc_new K3 _⟩) ⟨_, _, rfl⟩ hel hl1 (by omega) ?_
   intro w K5 ap5 c5 hb5
   rw [List.nil_append, show 0 + (l.length + 1 - 1) = ((l ++ [x]).drop 1).length by simp] at ap5
   have hne5 : blk w ≠ some s := by
    rcases hb5 with e | e
    ·rw [e]; simp [blk, slc]; omega
    ·rw [e, alloc_n]; intro e; cases e; omega
   have gs5 : K5.get s = some (.cells true false 2 [slc b 0 (l.length + 1) (l.length + 1), .int .i64 ((a : Int) - 1)] 99) := c5.at_ (kE.at_ gK3) (by simp [mem_blkL, blk, slc]; omega)
   have ls5 := AHeap.get_lt gs5
   obtain ⟨wa, hwa⟩ := ap5.shape
   have one5 : w.oneCell' = true := by rw [hwa]; rfl
   have hs1 : IntKind.i64.wrap ((a : Int) - 1 - 1) = (a : Int) - 1 - 1 := wrap_i64 (by omega) (by omega)
   have hmx : max (-1 : Int) ((a : Int) - 1 - 1) = ((a - 1 : Nat) : Int) - 1 := by omega
   simp (disch := (first | assumption | omega | (simp only [alloc_n, set_n] <;> omega) | (simp (disch := (first | assumption | omega | (simp only [alloc_n, set_n] <;> omega))) only [row_alloc, row_set]; assumption))) only [W_block, ANs, A3s, AOp.map, ↓reduceIte, Nat.reduceAdd, Nat.reduceEqDiff, reduceCtorEq, initFr, Nat.reduceLT, clsA, List.take, List.drop, Nat.reduceLeDiff, Nat.reduceMul, Nat.reduceSub, reduceIte, ANc, A3c, gs5, one5, hs1, hmx]
   have c5H : Chg (s :: blkL v) H K5 := cH3.trans (((kE.chg _).trans (c5.mono (T := [K3.n]) (by intro z hz; simp [mem_blkL, blk, slc] at hz; simp [hz, n32])) (fun z hz => .inl hz))) (fun z hz => by simp at hz; subst hz; right; have := cH3.n; exact this)
   refine hq2 _ _ ⟨_, rfl, rfl, w, ⟨get1 gs5 _, AP.chg1 ap5 (Chg.set K5 ls5 _) (bn_ne hne5), hne5, fun y hy => hk2 y (List.mem_of_mem_drop hy)⟩, c5H.set' (.inr (by simp)) ls5 _, ?_⟩
   intro z hz
   have := cH3.n
   rcases hb5 with e | e
   ·rw [e] at hz; simp [blk, slc] at hz; omega
   ·rw [e, alloc_n] at hz; cases hz; omega
  ·rw [if_neg h8] at hq2
   simp (disch := (first | assumption | omega | (simp only [alloc_n, set_n] <;> omega) | (simp (disch := (first | assumption | omega | (simp only [alloc_n, set_n] <;> omega))) only [row_alloc, row_set]; assumption))) only [W_block, ANs, A3s, AOp.map, ↓reduceIte, Nat.reduceAdd, Nat.reduceEqDiff, reduceCtorEq, initFr, Nat.reduceLT, clsA, List.take, List.drop, Nat.reduceLeDiff, Nat.reduceMul, Nat.reduceSub, reduceIte, ANc, A3c, gK2, is2, len2, one2]
   exact hq2 _ _ ⟨_, rfl, rfl, v', ⟨gK3, by rw [List.length_append]; exact ap3, hne2, hk2⟩, cH3, fr2⟩
end Go.AM.Rp

namespace Go.AM.Rp
open Go.Proofs
theorem t40 {H : AHeap} {r : Nat} {x : Option Lg} {m : Msg} {v : Value} (h : RfS H r x) (hx : ∀ y, x = some y → y.s.t.length = 64) (hs : m.s.t.length = 64) (ht : TB H v m.d.l) (hl : m.d.l.length ≤ 100000) :
  ∃ w H', ARun Try.prog 0 40 [ptr r 0, .agg (GC m v).toArray] H w H' ∧ w = .tuple #[.agg (GC (hearR x m).1 (.slice none 0 0)).toArray, .bool (hearR x m).2.1, .int .i64 (hearR x m).2.2.1] ∧ RfS H' r (hearR x m).2.2.2 ∧ Chg [r] H H' := by
 refine walk2 f40_ok f40_n ?_
 intro Q hq1 hq2
 have hg : H.get r = some (.cells true false 71 (RC (x.getD L0) x.isSome) 74) := h
 have lr := AHeap.get_lt hg
 have hx64 : (x.getD L0).s.t.length = 64 := by cases x with
  | none => rfl
  | some y => exact hx y rfl
 have ml := GC_len hs v
 have mo := GC_one m ht.one
 have z78 : Z78.all Value.oneCell' = true := rfl
 have zl : Z78.length = 78 := rfl
 have zl7 : Z70.length = 70 := rfl
 have zl6 : Z68.length = 68 := Z68_len
 have lrc := RC_len hx64 x.isSome
 have kz := ((Keeps.refl H).alloc (.cells true false 78 (GC m v) 38)).alloc (.cells true false 78 Z78 38)
 have gcs : ((GC m v).drop 5).take 68 = SC m.s := by
  show (SC m.s ++ D5 m.d.a m.d.b m.d.c m.d.p v).take 68 = _
  rw [List.take_append_of_le_length (by rw [SC_len hs]; omega), List.take_of_length_le (by rw [SC_len hs]; omega)]
 simp (disch := (first | assumption | omega | (simp only [alloc_n, set_n] <;> omega) | (simp (disch := (first | assumption | omega | (simp only [alloc_n, set_n] <;> omega))) only [row_alloc, row_set]; assumption))) only [f40, W_block, ANs, A3s, AOp.map, ↓reduceIte, Nat.reduceAdd, Nat.reduceEqDiff, reduceCtorEq, initFr, Nat.reduceLT, clsA, List.take, List.drop, Nat.reduceLeDiff, Nat.reduceMul, Nat.reduceSub, reduceIte, ANc, A3c, mo, z78]
 refine callK (t61 (m := m) (v := v) hs (ht.keeps kz) hl) ?_
 rintro _ K ⟨rfl, kK⟩
 have nK := kK.n
 simp only [alloc_n] at nK
 have kk := kz.trans kK
 have gr := kk.at_ hg
 have gm : K.get H.n = some (.cells true false 78 (GC m v) 38) := kK.at_ (by rw [g_old _ (by simp [alloc_n]), g_new _ rfl])
 have gz : K.get (H.n + 1) = some (.cells true false 78 Z78 38) := kK.at_ (g_new _ rfl)
 unfold hearR at hq2
 by_cases hb : mayB m = false ∨ 2 < m.k
 ·simp only [hb, if_true] at hq2
  have c := (kk.chg [r]).set' (b := H.n + 1) (.inl (by omega)) (by omega) (.cells true false 78 Z78 38)
  have fin : ∀ fr : List Value, fr.getD 3 undef = ptr (H.n + 1) 0 → fr.getD 4 undef = .bool false → fr.getD 5 undef = .int .i64 2 → Q .ret fr (K.set (H.n + 1) (.cells true false 78 Z78 38)) := fun fr e3 e4 e5 => hq2 _ _ ⟨_, resC3 e3 (full (get1 gz _) zl), by rw [e4, e5, Z78_G], (Chg.set K (by omega) _).at_ gr (by simp; omega), c⟩
  cases hmay : mayB m
  ·simp (disch := (first | assumption | omega | (simp only [alloc_n, set_n] <;> omega) | (simp (disch := (first | assumption | omega | (simp only [alloc_n, set_n] <;> omega))) only [row_alloc, row_set]; assumption))) only [W_block, ANs, A3s, AOp.map, ↓reduceIte, Nat.reduceAdd, Nat.reduceEqDiff, reduceCtorEq, initFr, Nat.reduceLT, clsA, List.take, List.drop, Nat.reduceLeDiff, Nat.reduceMul, Nat.reduceSub, reduceIte, ANc, A3c, fl78n, gz, z78]
   exact fin _ rfl rfl rfl
  ·have h2 : 2 < m.k := by rcases hb with h | h; rw [hmay] at h; cases h; exact h
   simp (disch := (first | assumption | omega | (simp only [alloc_n, set_n] <;> omega) | (simp (disch := (first | assumption | omega | (simp only [alloc_n, set_n] <;> omega))) only [row_alloc, row_set]; assumption))) only [W_block, ANs, A3s, AOp.map, ↓reduceIte, Nat.reduceAdd, Nat.reduceEqDiff, reduceCtorEq, initFr, Nat.reduceLT, clsA, List.take, List.drop, Nat.reduceLeDiff, Nat.reduceMul, Nat.reduceSub, reduceIte, ANc, A3c, fl78n, gz, gm, GC_0, z78]
   exact fin _ rfl rfl rfl
 simp only [hb, if_false] at hq2
 have hmay : mayB m = true := by cases hm : mayB m; exact absurd (.inl hm) hb; rfl
 have h2 : ¬ 2 < m.k := fun h => hb (.inr h)
 have hk1 : 1 ≤ m.k := by unfold mayB at hmay; simp at hmay; omega
 have ly := LC_len (x := ⟨m.e, m.c, m.s⟩) hs
 have oy := LC_one ⟨m.e, m.c, m.s⟩
 have lack : ∀ e c : Int, (GC { G0 with k := 3, e := e, c := c } (.slice none 0 0)).length = 78 := fun e c => G_len _ rfl _
 have oack : ∀ e c : Int, (GC { G0 with k := 3, e := e, c := c } (.slice none 0 0)).all Value.oneCell' = true := fun e c => GC_one _ rfl
 have lneed : (GC needM (.slice none 0 0)).length = 78 := G_len _ rfl _
 have oneed : (GC needM (.slice none 0 0)).all Value.oneCell' = true := GC_one _ rfl
 have endA : ∀ (X : AHeap) (y : Option Lg) (a : Msg) (f : Bool), Chg [r] H X → X.get r = some (.cells true false 71 (RC (y.getD L0) y.isSome) 74) → X.get (H.n + 1) = some (.cells true false 78 Z78 38) → a.s = S0 →
   (∀ fr : List Value, fr.getD 3 undef = ptr (H.n + 1) 0 → fr.getD 4 undef = .bool f → fr.getD 5 undef = .int .i64 0 → ∃ w, resO f40.res fr (X.set (H.n + 1) (.cells true false 78 (GC a (.slice none 0 0)) 38)) = some w ∧ w = .tuple #[.agg (GC a (.slice none 0 0)).toArray, .bool f, .int .i64 0] ∧ RfS (X.set (H.n + 1) (.cells true false 78 (GC a (.slice none 0 0)) 38)) r y ∧ Chg [r] H (X.set (H.n + 1) (.cells true false 78 (GC a (.slice none 0 0)) 38))) :=
  fun X y a f c g1 g2 ha fr e3 e4 e5 => ⟨_, resC3 e3 (full (get1 g2 _) (G_len a ha _)), by rw [e4, e5], (Chg.set X (AHeap.get_lt g2) _).at_ g1 (by simp; omega), c.set' (.inl (by omega)) (AHeap.get_lt g2) _⟩
 simp (disch := (first | assumption | omega | (simp only [alloc_n, set_n] <;> omega) | (simp (disch := (first | assumption | omega | (simp only [alloc_n, set_n] <;> omega))) only [row_alloc, row_set]; assumption))) only [W_block, ANs, A3s, AOp.map, ↓reduceIte, Nat.reduceAdd, Nat.reduceEqDiff, reduceCtorEq, initFr, Nat.reduceLT, clsA, List.take, List.drop, Nat.reduceLeDiff, Nat.reduceMul, Nat.reduceSub, reduceIte, ANc, A3c, hmay, gm, GC_0, GC_1, GC_2, gcs, z70, fl70s m.e m.c hs, oy, gr, RC_70 hx64]
 have fin2 : ∀ (X : AHeap) (y : Lg) (fr : List Value), y.s.t.length = 64 → Chg [r] H X → X.get r = some (.cells true false 71 (RC y true) 74) → X.get (H.n + 1) = some (.cells true false 78 Z78 38) → fr.getD 0 undef = ptr r 0 → fr.getD 3 undef = ptr (H.n + 1) 0 → 5 < fr.length →
   (∀ fr2 X2, (∃ w, resO f40.res fr2 X2 = some w ∧ w = .tuple #[.agg (GC (ackM y) (.slice none 0 0)).toArray, .bool true, .int .i64 0] ∧ RfS X2 r (some y) ∧ Chg [r] H X2) → Q .ret fr2 X2) →
   W Try.prog 0 (.seq (.reg [⟨.mov (.fr 0), .tm, none⟩, ⟨.callf 70 [(.tm 0)], .tm, none⟩, ⟨.storen 78 (.fr 3) (.tm 0), .no, none⟩, ⟨.mov (.c (.bool true)), .fr 4, none⟩, ⟨.mov (.c (.int .i64 0)), .fr 5, none⟩]) .ret) Q fr X := by
  intro X y fr hy c g1 g2 e0 e3 hfl hq
  have lX := AHeap.get_lt g2
  simp (disch := (first | assumption | omega | (simp only [alloc_n, set_n] <;> omega) | (simp (disch := (first | assumption | omega | (simp only [alloc_n, set_n] <;> omega))) only [row_alloc, row_set]; assumption))) only [W_block, ANs, A3s, AOp.map, ↓reduceIte, Nat.reduceAdd, Nat.reduceEqDiff, reduceCtorEq, initFr, Nat.reduceLT, clsA, List.take, List.drop, Nat.reduceLeDiff, Nat.reduceMul, Nat.reduceSub, reduceIte, ANc, A3c, e0]
  refine callK (t70 g1) ?_
  rintro _ X2 ⟨rfl, k2⟩
  have g12 := k2.at_ g1
  have g22 := k2.at_ g2
  have la := lack y.e y.c
  have oa := oack y.e y.c
  unfold ackM at hq ⊢
  simp (disch := (first | assumption | omega | (simp only [alloc_n, set_n] <;> omega) | (simp (disch := (first | assumption | omega | (simp only [alloc_n, set_n] <;> omega))) only [row_alloc, row_set]; assumption))) only [W_block, ANs, A3s, AOp.map, ↓reduceIte, Nat.reduceAdd, Nat.reduceEqDiff, reduceCtorEq, initFr, Nat.reduceLT, clsA, List.take, List.drop, Nat.reduceLeDiff, Nat.reduceMul, Nat.reduceSub, reduceIte, ANc, A3c, e3, g22, oa]
  have n1 := c.n
  refine hq _ _ ⟨_, resC3 (b := H.n + 1) ?_ (full (get1 g22 _) la), ?_, (Chg.set X2 (AHeap.get_lt g22) _).at_ g12 (by simp; omega), (Chg.keeps' k2 c).set' (.inl (by omega)) (AHeap.get_lt g22) _⟩
  ·rw [← e3]; simp [List.getD_eq_getElem?_getD, List.getElem?_set]
  ·simp [List.getD_eq_getElem?_getD, List.getElem?_set, hfl, show 4 < fr.length by omega]
 have setY : ∀ (X : AHeap) (x0 : Lg) (b : Bool) (y : Lg), Chg [r] H X → X.get r = some (.cells true false 71 (RC x0 b) 74) → X.get (H.n + 1) = some (.cells true false 78 Z78 38) →
   Chg [r] H (X.set r (.cells true false 71 (RC y true) 74)) ∧ (X.set r (.cells true false 71 (RC y true) 74)).get r = some (.cells true false 71 (RC y true) 74) ∧ (X.set r (.cells true false 71 (RC y true) 74)).get (H.n + 1) = some (.cells true false 78 Z78 38) :=
  fun X x0 b y c g1 g2 => ⟨c.set' (.inr (by simp)) (AHeap.get_lt g1) _, get1 g1 _, (Chg.set X (AHeap.get_lt g1) _).at_ g2 (by simp; omega)⟩
 have kY := (Keeps.refl K).alloc (.cells true false 70 (LC ⟨m.e, m.c, m.s⟩) 72)
 have cY : Chg [r] H (K.alloc (.cells true false 70 (LC ⟨m.e, m.c, m.s⟩) 72)) := (kk.trans kY).chg _
 cases x with
 | none =>
  simp only [Option.getD_none, Option.isSome_none] at gr hg ⊢
  have lrn : (RC L0 false).length = 71 := RC_len rfl false
  by_cases hk : m.k = 1
  ·simp only [hk, if_true] at hq2
   have lry : (RC ⟨m.e, m.c, m.s⟩ false).length = 71 := RC_len hs false
   obtain ⟨p1, p2, p3⟩ := setY _ _ _ ⟨m.e, m.c, m.s⟩ cY (kY.at_ gr) (kY.at_ gz)
   rw [set_old _ _ (by omega)] at p1 p2 p3
   simp (disch := (first | assumption | omega | (simp only [alloc_n, set_n] <;> omega) | (simp (disch := (first | assumption | omega | (simp only [alloc_n, set_n] <;> omega))) only [row_alloc, row_set]; assumption))) only [W_block, ANs, A3s, AOp.map, ↓reduceIte, Nat.reduceAdd, Nat.reduceEqDiff, reduceCtorEq, initFr, Nat.reduceLT, clsA, List.take, List.drop, Nat.reduceLeDiff, Nat.reduceMul, Nat.reduceSub, reduceIte, ANc, A3c, gr, gm, gz, GC_0, RC_70 (x := L0) rfl, RC_upd (x := L0) rfl, RC_set70 (x := ⟨m.e, m.c, m.s⟩) hs, oy]
   have := fin2 _ ⟨m.e, m.c, m.s⟩ [ptr r 0, .agg (GC m v).toArray, ptr H.n 0, ptr (H.n + 1) 0, .bool false, .int .i64 0, ptr K.n 0, undef, .bool false, .bool false, .bool false, undef] hs p1 p2 p3 rfl rfl (by simp) hq2
   simp (disch := (first | assumption | omega | (simp only [alloc_n, set_n] <;> omega) | (simp (disch := (first | assumption | omega | (simp only [alloc_n, set_n] <;> omega))) only [row_alloc, row_set]; assumption))) only [W_block, ANs, A3s, AOp.map, ↓reduceIte, Nat.reduceAdd, Nat.reduceEqDiff, reduceCtorEq, initFr, Nat.reduceLT, clsA, List.take, List.drop, Nat.reduceLeDiff, Nat.reduceMul, Nat.reduceSub, reduceIte, ANc, A3c] at this
   exact this
  ·simp only [hk, if_false] at hq2
   simp (disch := (first | assumption | omega | (simp only [alloc_n, set_n] <;> omega) | (simp (disch := (first | assumption | omega | (simp only [alloc_n, set_n] <;> omega))) only [row_alloc, row_set]; assumption))) only [W_block, ANs, A3s, AOp.map, ↓reduceIte, Nat.reduceAdd, Nat.reduceEqDiff, reduceCtorEq, initFr, Nat.reduceLT, clsA, List.take, List.drop, Nat.reduceLeDiff, Nat.reduceMul, Nat.reduceSub, reduceIte, ANc, A3c, gr, gm, gz, GC_0, RC_70 (x := L0) rfl, flN, oneed]
   obtain ⟨w, e1, e2, e3, e4⟩ := endA _ none needM false cY (kY.at_ gr) (kY.at_ gz) rfl [ptr r 0, .agg (GC m v).toArray, ptr H.n 0, ptr (H.n + 1) 0, .bool false, .int .i64 0, ptr K.n 0, undef, .bool false, .bool false, .bool true, .bool true] rfl rfl rfl
   rw [set_old _ _ (by omega)] at e1 e3 e4
   exact hq2 _ _ ⟨w, e1, e2, e3, e4⟩
 | some x0 =>
  have h064 : x0.s.t.length = 64 := hx64
  simp only [Option.getD_some, Option.isSome_some] at gr hg ⊢
  have lrn : (RC x0 true).length = 71 := RC_len h064 true
  have rr70 := RC_70 h064 true
  have grY := kY.at_ gr
  have gmY := kY.at_ gm
  have gzY := kY.at_ gz
  have gyY := AHeap.get_alloc_new K (.cells true false 70 (LC ⟨m.e, m.c, m.s⟩) 72)
  generalize hX : K.alloc (.cells true false 70 (LC ⟨m.e, m.c, m.s⟩) 72) = X at *
  simp (disch := (first | assumption | omega | (simp only [alloc_n, set_n] <;> omega) | (simp (disch := (first | assumption | omega | (simp only [alloc_n, set_n] <;> omega))) only [row_alloc, row_set]; assumption))) only [W_block, ANs, A3s, AOp.map, ↓reduceIte, Nat.reduceAdd, Nat.reduceEqDiff, reduceCtorEq, initFr, Nat.reduceLT, clsA, List.take, List.drop, Nat.reduceLeDiff, Nat.reduceMul, Nat.reduceSub, reduceIte, ANc, A3c, grY, gmY, gzY, gyY, rr70, RC_x h064]
  refine callK (t69 _ ⟨m.e, m.c, m.s⟩ x0) ?_
  rintro _ X2 ⟨rfl, k2⟩
  have gr2 := k2.at_ grY
  have gm2 := k2.at_ gmY
  have gz2 := k2.at_ gzY
  have gy2 := k2.at_ gyY
  have c2 := Chg.keeps' k2 cY
  have n2 := c2.n
  have lyy := AHeap.get_lt gy2
  have lzz := AHeap.get_lt gz2
  have lmm := AHeap.get_lt gm2
  rw [laterB_eq]
  by_cases hc : cmpL ⟨m.e, m.c, m.s⟩ x0 ≤ 0
  ·simp only [hc, if_true] at hq2
   simp (disch := (first | assumption | omega | (simp only [alloc_n, set_n] <;> omega) | (simp (disch := (first | assumption | omega | (simp only [alloc_n, set_n] <;> omega))) only [row_alloc, row_set]; assumption))) only [W_block, ANs, A3s, AOp.map, ↓reduceIte, Nat.reduceAdd, Nat.reduceEqDiff, reduceCtorEq, initFr, Nat.reduceLT, clsA, List.take, List.drop, Nat.reduceLeDiff, Nat.reduceMul, Nat.reduceSub, reduceIte, ANc, A3c, hc]
   refine callK (t70 gr2) ?_
   rintro _ X3 ⟨rfl, k3⟩
   have gz3 := k3.at_ gz2
   have la := lack x0.e x0.c
   have oa := oack x0.e x0.c
   obtain ⟨w, e1, e2, e3, e4⟩ := endA X3 (some x0) (ackM x0) false (Chg.keeps' k3 c2) (k3.at_ gr2) gz3 rfl [ptr r 0, .agg (GC m v).toArray, ptr H.n 0, ptr (H.n + 1) 0, .bool false, .int .i64 0, ptr K.n 0, undef, .bool false, .bool true, undef, undef] rfl rfl rfl
   unfold ackM at e1 e2 e3 e4 hq2 ⊢
   simp (disch := (first | assumption | omega | (simp only [alloc_n, set_n] <;> omega) | (simp (disch := (first | assumption | omega | (simp only [alloc_n, set_n] <;> omega))) only [row_alloc, row_set]; assumption))) only [W_block, ANs, A3s, AOp.map, ↓reduceIte, Nat.reduceAdd, Nat.reduceEqDiff, reduceCtorEq, initFr, Nat.reduceLT, clsA, List.take, List.drop, Nat.reduceLeDiff, Nat.reduceMul, Nat.reduceSub, reduceIte, ANc, A3c, gz3, oa]
   exact hq2 _ _ ⟨w, e1, e2, e3, e4⟩
  simp only [hc, if_false] at hq2
  by_cases hk : m.k = 1
  ·simp only [hk, if_true] at hq2
   have lry : (RC ⟨m.e, m.c, m.s⟩ true).length = 71 := RC_len hs true
   obtain ⟨p1, p2, p3⟩ := setY X2 x0 true ⟨m.e, m.c, m.s⟩ c2 gr2 gz2
   simp (disch := (first | assumption | omega | (simp only [alloc_n, set_n] <;> omega) | (simp (disch := (first | assumption | omega | (simp only [alloc_n, set_n] <;> omega))) only [row_alloc, row_set]; assumption))) only [W_block, ANs, A3s, AOp.map, ↓reduceIte, Nat.reduceAdd, Nat.reduceEqDiff, reduceCtorEq, initFr, Nat.reduceLT, clsA, List.take, List.drop, Nat.reduceLeDiff, Nat.reduceMul, Nat.reduceSub, reduceIte, ANc, A3c, hc, gr2, gm2, gz2, gy2, GC_0, RC_upd h064, RC_set70 (x := ⟨m.e, m.c, m.s⟩) hs, oy]
   have := fin2 _ ⟨m.e, m.c, m.s⟩ [ptr r 0, .agg (GC m v).toArray, ptr H.n 0, ptr (H.n + 1) 0, .bool false, .int .i64 0, ptr K.n 0, undef, .bool false, .bool false, .bool false, undef] hs p1 p2 p3 rfl rfl (by simp) hq2
   simp (disch := (first | assumption | omega | (simp only [alloc_n, set_n] <;> omega) | (simp (disch := (first | assumption | omega | (simp only [alloc_n, set_n] <;> omega))) only [row_alloc, row_set]; assumption))) only [W_block, ANs, A3s, AOp.map, ↓reduceIte, Nat.reduceAdd, Nat.reduceEqDiff, reduceCtorEq, initFr, Nat.reduceLT, clsA, List.take, List.drop, Nat.reduceLeDiff, Nat.reduceMul, Nat.reduceSub, reduceIte, ANc, A3c] at this
   exact this
  simp only [hk, if_false] at hq2
  have hk2 : m.k = 2 := by omega
  by_cases hd : cmpL ⟨m.be, m.b, S0⟩ x0 = 0
  case neg =>
   simp only [ne_eq, hd, not_false_eq_true, if_true] at hq2
   have hd' : ¬ (m.be = x0.e ∧ m.b = x0.c) := fun h => hd (cmpL_eq.2 h)
   by_cases h1 : m.be = x0.e
   ·have h2 : ¬ m.b = x0.c := fun h2 => hd' ⟨h1, h2⟩
    simp (disch := (first | assumption | omega | (simp only [alloc_n, set_n] <;> omega) | (simp (disch := (first | assumption | omega | (simp only [alloc_n, set_n] <;> omega))) only [row_alloc, row_set]; assumption))) only [W_block, ANs, A3s, AOp.map, ↓reduceIte, Nat.reduceAdd, Nat.reduceEqDiff, reduceCtorEq, initFr, Nat.reduceLT, clsA, List.take, List.drop, Nat.reduceLeDiff, Nat.reduceMul, Nat.reduceSub, reduceIte, ANc, A3c, hc, gr2, gm2, gz2, gy2, GC_0, GC_3, GC_4, rr70, RC_0, RC_1, flN, oneed]
    obtain ⟨w, e1, e2, e3, e4⟩ := endA X2 (some x0) needM false c2 gr2 gz2 rfl [ptr r 0, .agg (GC m v).toArray, ptr H.n 0, ptr (H.n + 1) 0, .bool false, .int .i64 0, ptr K.n 0, undef, .bool false, .bool false, .bool true, .bool true] rfl rfl rfl
    exact hq2 _ _ ⟨w, e1, e2, e3, e4⟩
   ·simp (disch := (first | assumption | omega | (simp only [alloc_n, set_n] <;> omega) | (simp (disch := (first | assumption | omega | (simp only [alloc_n, set_n] <;> omega))) only [row_alloc, row_set]; assumption))) only [W_block, ANs, A3s, AOp.map, ↓reduceIte, Nat.reduceAdd, Nat.reduceEqDiff, reduceCtorEq, initFr, Nat.reduceLT, clsA, List.take, List.drop, Nat.reduceLeDiff, Nat.reduceMul, Nat.reduceSub, reduceIte, ANc, A3c, hc, gr2, gm2, gz2, gy2, GC_0, GC_3, GC_4, rr70, RC_0, RC_1, flN, oneed]
    obtain ⟨w, e1, e2, e3, e4⟩ := endA X2 (some x0) needM false c2 gr2 gz2 rfl [ptr r 0, .agg (GC m v).toArray, ptr H.n 0, ptr (H.n + 1) 0, .bool false, .int .i64 0, ptr K.n 0, undef, .bool false, .bool false, .bool true, .bool true] rfl rfl rfl
    exact hq2 _ _ ⟨w, e1, e2, e3, e4⟩
  simp only [ne_eq, hd, not_true_eq_false, if_false] at hq2
  obtain ⟨h1, h2⟩ := cmpL_eq.1 hd
  simp only at h1 h2
  simp (disch := (first | assumption | omega | (simp only [alloc_n, set_n] <;> omega) | (simp (disch := (first | assumption | omega | (simp only [alloc_n, set_n] <;> omega))) only [row_alloc, row_set]; assumption))) only [W_block, ANs, A3s, AOp.map, ↓reduceIte, Nat.reduceAdd, Nat.reduceEqDiff, reduceCtorEq, initFr, Nat.reduceLT, clsA, List.take, List.drop, Nat.reduceLeDiff, Nat.reduceMul, Nat.reduceSub, reduceIte, ANc, A3c, hc, gr2, gm2, gz2, gy2, GC_0, GC_3, GC_4, rr70, RC_0, RC_1, RC_s h064]
  have kH2 : Keeps H X2 := kk.trans (kY.trans k2)
  refine callK (t11g (pre m hs) (s := x0.s) (d := m.d) h064 (ht.keeps kH2) hl) ?_
  rintro _ X3 ⟨rfl, k3⟩
  have pl := patchR_len h064 m.d
  generalize (patchR x0.s m.d).2 = s' at *
  generalize (patchR x0.s m.d).1 = e' at *
  have gr3 := k3.at_ gr2
  have gz3 := k3.at_ gz2
  have gy3 := k3.at_ gy2
  have n3 := k3.n
  have l68 := SC_len pl
  have lru : (LC ⟨m.e, m.c, m.s⟩).take 2 ++ SC s' ++ (LC ⟨m.e, m.c, m.s⟩).drop 70 = LC ⟨m.e, m.c, s'⟩ := by
   show [.int .i64 m.e, .int .i64 m.c] ++ SC s' ++ (SC m.s).drop 68 = _
   rw [List.drop_of_length_le (by rw [SC_len hs]; omega), List.append_nil]; rfl
  have lys : (LC ⟨m.e, m.c, s'⟩).length = 70 := LC_len (x := ⟨m.e, m.c, s'⟩) pl
  have lry : (RC ⟨m.e, m.c, s'⟩ true).length = 71 := RC_len (x := ⟨m.e, m.c, s'⟩) pl true
  have z68 : Z68.all Value.oneCell' = true := rfl
  have k3' := (Keeps.refl X3).alloc (.cells true false 68 (SC s') 26)
  have c3 : Chg [r] H (X3.alloc (.cells true false 68 (SC s') 26)) := Chg.keeps' k3' (Chg.keeps' k3 c2)
  simp (disch := (first | assumption | omega | (simp only [alloc_n, set_n] <;> omega) | (simp (disch := (first | assumption | omega | (simp only [alloc_n, set_n] <;> omega))) only [row_alloc, row_set]; assumption))) only [W_block, ANs, A3s, AOp.map, ↓reduceIte, Nat.reduceAdd, Nat.reduceEqDiff, reduceCtorEq, initFr, Nat.reduceLT, clsA, List.take, List.drop, Nat.reduceLeDiff, Nat.reduceMul, Nat.reduceSub, reduceIte, ANc, A3c, z68, SC_one, gy3, lru, gr3, gz3, RC_upd h064, RC_set70 (x := ⟨m.e, m.c, s'⟩) pl, LC_one]
  have lr3 := AHeap.get_lt gr3
  have c4 := (Chg.keeps' k3 c2).set' (b := K.n) (.inl (by omega)) (by omega) (.cells true false 70 (LC ⟨m.e, m.c, s'⟩) 72)
  have dX := Chg.set X3 (b := K.n) (by omega) (.cells true false 70 (LC ⟨m.e, m.c, s'⟩) 72)
  obtain ⟨p1, p2, p3⟩ := setY _ x0 true ⟨m.e, m.c, s'⟩ c4 (dX.at_ gr3 (by simp; omega)) (dX.at_ gz3 (by simp; omega))
  have kZ := (Keeps.refl ((X3.set K.n (.cells true false 70 (LC ⟨m.e, m.c, s'⟩) 72)).set r (.cells true false 71 (RC ⟨m.e, m.c, s'⟩ true) 74))).alloc (.cells true false 68 (SC s') 26)
  have := fin2 _ ⟨m.e, m.c, s'⟩ [ptr r 0, .agg (GC m v).toArray, ptr H.n 0, ptr (H.n + 1) 0, .bool false, .int .i64 0, ptr K.n 0, ptr X3.n 0, .bool false, .bool false, .bool true, .bool false] pl (Chg.keeps' kZ p1) (kZ.at_ p2) (kZ.at_ p3) rfl rfl (by simp) hq2
  simp (disch := (first | assumption | omega | (simp only [alloc_n, set_n] <;> omega) | (simp (disch := (first | assumption | omega | (simp only [alloc_n, set_n] <;> omega))) only [row_alloc, row_set]; assumption))) only [W_block, ANs, A3s, AOp.map, ↓reduceIte, Nat.reduceAdd, Nat.reduceEqDiff, reduceCtorEq, initFr, Nat.reduceLT, clsA, List.take, List.drop, Nat.reduceLeDiff, Nat.reduceMul, Nat.reduceSub, reduceIte, ANc, A3c] at this
  exact this
end Go.AM.Rp

namespace Go.AM.Rp
open Go.Proofs
theorem rise_app {l : List Lg} {x : Lg} (h : Rise l) (hx : ∀ (h0 : 0 < l.length), cmpL l[l.length - 1] x < 0) : Rise (l ++ [x]) := by
 intro i j hi hj hij
 simp only [List.length_append, List.length_cons, List.length_nil] at hi hj
 rcases Nat.lt_or_ge j l.length with h1 | h1
 ·rw [List.getElem_append_left (by omega), List.getElem_append_left h1]; exact h i j (by omega) h1 hij
 ·have : j = l.length := by omega
  subst this
  rw [List.getElem_append_left (by omega), List.getElem_append_right (by omega)]
  simp only [Nat.sub_self, List.getElem_cons_zero]
  have h2 := hx (by omega)
  rcases Nat.lt_or_ge i (l.length - 1) with h3 | h3
  ·have h4 := h i (l.length - 1) (by omega) (by omega) h3
   rw [cmpL_lt] at h2 h4 ⊢; omega
  ·have : i = l.length - 1 := by omega
   subst this; exact h2
theorem rise_drop {l : List Lg} (h : Rise l) (n : Nat) : Rise (l.drop n) := by
 intro i j hi hj hij
 simp only [List.length_drop] at hi hj
 simp only [List.getElem_drop]
 exact h _ _ (by omega) (by omega) (by omega)
structure LOK (l : List Lg) (a : Nat) : Prop where
 r : Rise l
 n : l.length ≤ 8
 a : a ≤ l.length
theorem LOK.offer {l : List Lg} {a : Nat} (h : LOK l a) (x : Lg) : LOK (offerR l a x).2.1 (offerR l a x).2.2 := by
 unfold offerR
 by_cases h1 : inB [x.e, x.c] = false
 ·rw [if_pos h1]; exact h
 rw [if_neg h1]
 by_cases h2 : 0 < l.length ∧ cmpL x (lst l) ≤ 0
 ·rw [if_pos h2]; exact h
 rw [if_neg h2]
 have hr : Rise (l ++ [x]) := rise_app h.r (fun h0 => by
  have hls : lst l = l[l.length - 1] := by unfold lst; rw [List.getD_eq_getElem?_getD, List.getElem?_eq_getElem (by omega)]; rfl
  have h3 : ¬ cmpL x (lst l) ≤ 0 := fun h3 => h2 ⟨h0, h3⟩
  have h4 : ¬ cmpL x (lst l) < 0 := fun h => h3 (by omega)
  have h5 : ¬ cmpL x (lst l) = 0 := fun h => h3 (by omega)
  rw [← hls]
  rw [cmpL_lt] at h4 ⊢
  rw [cmpL_eq] at h5
  omega)
 have hn := h.n
 have ha := h.a
 by_cases h8 : 8 < l.length + 1
 ·rw [if_pos h8]; exact ⟨rise_drop hr 1, by simp; omega, by simp; omega⟩
 ·rw [if_neg h8]; exact ⟨hr, by simp; omega, by simp; omega⟩
theorem LOK.hear {l : List Lg} {a : Nat} (h : LOK l a) (m : Msg) : LOK l (hearS l a m).2 := by
 have ha := h.a
 refine ⟨h.r, h.n, ?_⟩
 unfold hearS
 split
 ·exact ha
 ·split
  ·exact Nat.zero_le _
  ·split
   ·rename_i i hf
    have := (List.findIdx?_eq_some_iff_getElem.1 hf).1
    simp; omega
   ·exact ha
def X64 (x : Option Lg) : Prop := ∀ y, x = some y → y.s.t.length = 64
theorem X64.begin {x : Option Lg} (h : X64 x) {y : Lg} (hy : y.s.t.length = 64) : X64 (beginR x y).2 := by
 unfold beginR; split
 ·intro z hz; cases hz; exact hy
 ·exact h
theorem X64.hear {x : Option Lg} (h : X64 x) {m : Msg} (hm : m.s.t.length = 64) : X64 (hearR x m).2.2.2 := by
 unfold hearR
 split
 ·exact h
 ·split
  ·rename_i x0 
   split
   ·exact h
   ·split
    ·intro z hz; cases hz; exact hm
    ·split
     ·exact h
     ·intro z hz; cases hz; exact patchR_len (h x0 rfl) m.d
  ·split
   ·intro z hz; cases hz; exact hm
   ·exact h
theorem X64.get {x : Option Lg} (h : X64 x) : (x.getD L0).s.t.length = 64 := by
 cases x with
 | none => rfl
 | some y => exact h y rfl
def thSf (s : Nat) (v : Value) (l : List Lg) (a : Nat) : Th where
 P H := SfV H s v l a
 F := s :: blkL v
 lt H h b hb := by
  rcases List.mem_cons.1 hb with rfl | hb
  ·exact AHeap.get_lt h.g
  ·exact AP.lt h.ap (mem_blkL.1 hb)
 st H H' h hn k := ⟨by rw [k s (by simp)]; exact h.g, AP.stay h.ap (fun b hb => k b (by simp [hb])), h.ne, h.ok⟩
def thRf (r : Nat) (x : Option Lg) : Th where
 P H := RfS H r x
 F := [r]
 lt H h b hb := by simp at hb; subst hb; exact AHeap.get_lt (show H.get b = _ from h)
 st H H' h _ k := by show H'.get r = _; rw [k r (by simp)]; exact h
def thT (v : Value) (l : List (Int × Int)) : Th where
 P H := TB H v l
 F := if l = [] then [] else blkL v
 lt H h b hb := by
  split at hb
  ·cases hb
  ·rename_i hl; exact TB.lt h hl (mem_blkL.1 hb)
 st H H' h _ k := h.chgL (fun hne b hb => k b (by rw [if_neg hne]; exact hb))
structure CA where
 k : Nat
 x : Lg
 m : Msg
 v : Value
def CC (c : CA) : List Value := .int .u8 c.k :: (LC c.x ++ GC c.m c.v)
structure CAok (c : CA) : Prop where
 x : c.x.s.t.length = 64
 m : c.m.s.t.length = 64
theorem CC_len {c : CA} (h : CAok c) : (CC c).length = 149 := by simp [CC, LC_len h.x, GC_len h.m]
theorem CC_0 (c : CA) : (CC c)[0]? = some (.int .u8 c.k) := rfl
theorem CC_x {c : CA} (h : CAok c) : ((CC c).drop 1).take 70 = LC c.x := by
 show (LC c.x ++ GC c.m c.v).take 70 = _
 rw [List.take_append_of_le_length (by rw [LC_len h.x]; omega), List.take_of_length_le (by rw [LC_len h.x]; omega)]
theorem CC_m {c : CA} (h : CAok c) : ((CC c).drop 71).take 78 = GC c.m c.v := by
 show ((LC c.x ++ GC c.m c.v).drop 70).take 78 = _
 rw [show (LC c.x ++ GC c.m c.v).drop 70 = GC c.m c.v by rw [← LC_len h.x, List.drop_left], List.take_of_length_le (by rw [GC_len h.m]; omega)]
theorem CC_one {c : CA} (h : c.v.oneCell' = true) : (CC c).all Value.oneCell' = true := by
 simp only [CC, List.all_cons, List.all_append, LC_one, GC_one c.m h, one_int]; rfl
theorem CC_77 {c : CA} (h : CAok c) : (CC c)[148]? = some c.v := by
 show (LC c.x ++ GC c.m c.v)[147]? = _
 rw [List.getElem?_append_right (by rw [LC_len h.x]; omega), LC_len h.x]
 exact GC_77 h.m c.v
def thC (v : Value) (cs : List CA) : Th where
 P H := Sl H 149 v (cs.map CC) ∧ ∀ c ∈ cs, TB H c.v c.m.d.l ∧ CAok c
 F := aB v ++ cs.flatMap fun c => mB (c.m, c.v)
 lt H h b hb := by
  rcases List.mem_append.1 hb with hb | hb
  ·exact Sl.lt h.1 hb
  ·obtain ⟨c, hc, hb⟩ := List.mem_flatMap.1 hb
   unfold mB at hb
   split at hb
   ·cases hb
   ·rename_i hl; exact TB.lt (h.2 c hc).1 hl (mem_blkL.1 hb)
 st H H' h _ k := ⟨Sl.stay h.1 (fun b hb => k b (by simp [hb])), fun c hc => ⟨(h.2 c hc).1.chgL (fun hne b hb => k b (List.mem_append_right _ (List.mem_flatMap.2 ⟨c, hc, by unfold mB; rw [if_neg hne]; exact hb⟩))), (h.2 c hc).2⟩⟩
section
variable {H : AHeap} {A B : List Th} {s r : Nat} {u v p : Value} {l : List Lg} {a : Nat} {x : Option Lg} {y : Lg} {m : Msg}
theorem Sep.at_ {t : Th} : ∀ {A : List Th}, Sep H (A ++ t :: B) → t.P H := fun h => h.all _ (by simp)
theorem s15 (h : Sep H (A ++ thS s u l a :: B)) (hk : LOK l a) (hy : y.s.t.length = 64) : ∃ w H', ARun Try.prog 0 15 [ptr s 0, .agg (LC y).toArray] H w H' ∧ w = .int .i64 (offerR l a y).1 ∧ ∃ u', Sep H' (A ++ thS s u' (offerR l a y).2.1 (offerR l a y).2.2 :: B) := by
 have hS : SdV H s u l a := Sep.at_ h
 obtain ⟨w, H', r1, r2, u', r3, r4, r5⟩ := t15 (x := y) hS hy (by have := hk.n; omega) (by have := hk.n; have := hk.a; omega)
 refine ⟨w, H', r1, r2, u', h.upd (t' := thS s u' _ _) r4 r3 ?_⟩
 intro b hb
 rcases List.mem_cons.1 hb with rfl | hb
 ·exact .inl (by simp [thS])
 ·rcases r5 b (mem_blkL.1 hb) with h1 | h1
  ·exact .inl (by simp [thS, mem_blkL, h1])
  ·exact .inr h1
theorem s37 (h : Sep H (A ++ thSf s u l a :: B)) (hk : LOK l a) (hy : y.s.t.length = 64) : ∃ w H', ARun Try.prog 0 37 [ptr s 0, .agg (LC y).toArray] H w H' ∧ w = .int .i64 (offerR l a y).1 ∧ ∃ u', Sep H' (A ++ thSf s u' (offerR l a y).2.1 (offerR l a y).2.2 :: B) := by
 have hS : SfV H s u l a := Sep.at_ h
 obtain ⟨w, H', r1, r2, u', r3, r4, r5⟩ := t37 (x := y) hS hy (by have := hk.n; omega) (by have := hk.n; have := hk.a; omega)
 refine ⟨w, H', r1, r2, u', h.upd (t' := thSf s u' _ _) r4 r3 ?_⟩
 intro b hb
 rcases List.mem_cons.1 hb with rfl | hb
 ·exact .inl (by simp [thSf])
 ·rcases r5 b (mem_blkL.1 hb) with h1 | h1
  ·exact .inl (by simp [thSf, mem_blkL, h1])
  ·exact .inr h1
theorem s19 (h : Sep H (A ++ thS s u l a :: B)) (hk : LOK l a) (hm : m.s.t.length = 64) (ht : TB H v m.d.l) (hl : m.d.l.length ≤ 100000) : ∃ w H', ARun Try.prog 0 19 [ptr s 0, .agg (GC m v).toArray] H w H' ∧ w = .int .i64 (hearS l a m).1 ∧ Sep H' (A ++ thS s u l (hearS l a m).2 :: B) := by
 have hS : SdV H s u l a := Sep.at_ h
 obtain ⟨w, H', r1, r2, r3, r4⟩ := t19 hS hk.r (by have := hk.n; omega) hk.a hm ht hl
 exact ⟨w, H', r1, r2, h.upd (t' := thS s u l _) (r4.mono (fun z hz => by simp at hz; subst hz; simp [thS])) r3 (fun b hb => .inl hb)⟩
theorem s39 (h : Sep H (A ++ thSf s u l a :: B)) (hk : LOK l a) (hm : m.s.t.length = 64) (ht : TB H v m.d.l) (hl : m.d.l.length ≤ 100000) : ∃ w H', ARun Try.prog 0 39 [ptr s 0, .agg (GC m v).toArray] H w H' ∧ w = .int .i64 (hearS l a m).1 ∧ Sep H' (A ++ thSf s u l (hearS l a m).2 :: B) := by
 have hS : SfV H s u l a := Sep.at_ h
 obtain ⟨w, H', r1, r2, r3, r4⟩ := t39 hS hk.r (by have := hk.n; omega) hk.a hm ht hl
 exact ⟨w, H', r1, r2, h.upd (t' := thSf s u l _) (r4.mono (fun z hz => by simp at hz; subst hz; simp [thSf])) r3 (fun b hb => .inl hb)⟩
theorem rcv {H' : AHeap} {x' : Option Lg} (h : Sep H (A ++ thR r p x :: B)) (r3 : RvS H' r x') (r4 : Chg [r] H H') (r5 : cellA H' r 0 = cellA H r 0 ∨ ∃ b, cellA H' r 0 = some (ptr b 0) ∧ H.n ≤ b) : ∃ p', Sep H' (A ++ thR r p' x' :: B) := by
 have hR : RvV H r p x := Sep.at_ h
 obtain ⟨p', q1, q2⟩ := r3.v
 refine ⟨p', h.upd (t' := thR r p' x') (r4.mono (fun z hz => by simp at hz; subst hz; simp [thR])) q1 ?_⟩
 intro b hb
 rcases List.mem_cons.1 hb with rfl | hb
 ·exact .inl (by simp [thR])
 ·rcases r5 with e | ⟨b', e, hb'⟩
  ·rw [q2, hR.c] at e; cases e; exact .inl (List.mem_cons_of_mem _ hb)
  ·rw [q2] at e; cases e; simp [blkL, blk, ptr] at hb; subst hb; exact .inr hb'
theorem s17 (h : Sep H (A ++ thR r p x :: B)) (hx : X64 x) (hm : m.s.t.length = 64) (ht : TB H v m.d.l) (hl : m.d.l.length ≤ 100000) : ∃ w H', ARun Try.prog 0 17 [ptr r 0, .agg (GC m v).toArray] H w H' ∧ w = .tuple #[.agg (GC (hearR x m).1 (.slice none 0 0)).toArray, .bool (hearR x m).2.1, .int .i64 (hearR x m).2.2.1] ∧ ∃ p', Sep H' (A ++ thR r p' (hearR x m).2.2.2 :: B) := by
 have hR : RvV H r p x := Sep.at_ h
 obtain ⟨w, H', r1, r2, r3, r4, r5⟩ := t17 hR.s hx hm ht hl
 exact ⟨w, H', r1, r2, rcv h r3 r4 r5⟩
theorem s30 (h : Sep H (A ++ thR r p x :: B)) : ∃ w H', ARun Try.prog 0 30 [ptr r 0, .agg (LC y).toArray] H w H' ∧ w = .int .i64 (beginR x y).1 ∧ ∃ p', Sep H' (A ++ thR r p' (beginR x y).2 :: B) := by
 have hR : RvV H r p x := Sep.at_ h
 obtain ⟨w, H', r1, r2, r3, r4, r5⟩ := t30 (y := y) hR.s
 exact ⟨w, H', r1, r2, rcv h r3 r4 r5⟩
theorem s40 (h : Sep H (A ++ thRf r x :: B)) (hx : X64 x) (hm : m.s.t.length = 64) (ht : TB H v m.d.l) (hl : m.d.l.length ≤ 100000) : ∃ w H', ARun Try.prog 0 40 [ptr r 0, .agg (GC m v).toArray] H w H' ∧ w = .tuple #[.agg (GC (hearR x m).1 (.slice none 0 0)).toArray, .bool (hearR x m).2.1, .int .i64 (hearR x m).2.2.1] ∧ Sep H' (A ++ thRf r (hearR x m).2.2.2 :: B) := by
 have hR : RfS H r x := Sep.at_ h
 obtain ⟨w, H', r1, r2, r3, r4⟩ := t40 hR hx hm ht hl
 exact ⟨w, H', r1, r2, h.upd (t' := thRf r _) r4 r3 (fun b hb => .inl hb)⟩
theorem s41 (h : Sep H (A ++ thRf r x :: B)) (hx : X64 x) (hy : y.s.t.length = 64) : ∃ w H', ARun Try.prog 0 41 [ptr r 0, .agg (LC y).toArray] H w H' ∧ w = .int .i64 (beginR x y).1 ∧ Sep H' (A ++ thRf r (beginR x y).2 :: B) := by
 have hR : RfS H r x := Sep.at_ h
 obtain ⟨w, H', r1, r2, r3, r4⟩ := t41 hR hx.get hy
 exact ⟨w, H', r1, r2, h.upd (t' := thRf r _) r4 r3 (fun b hb => .inl hb)⟩
end
theorem t21 {H : AHeap} {v : Value} {cs : List CA} (h : (thC v cs).P H) : ∃ w H', ARun Try.prog 0 21 [v] H w H' ∧ H' = H ∧ ∃ b : Bool, w = .bool b ∧ (b = true → cs.length ≤ 100 ∧ ∀ c ∈ cs, c.m.d.l.length ≤ 1000) := by
 refine walk2 f21_ok f21_n ?_
 intro Q hq1 hq2
 have hs := h.1
 have his := hs.is
 have hlen := hs.len
 rw [List.length_map] at hlen
 by_cases hc : 100 < cs.length
 ·simp (disch := (first | assumption | omega | (simp only [alloc_n, set_n] <;> omega) | (simp (disch := (first | assumption | omega | (simp only [alloc_n, set_n] <;> omega))) only [row_alloc, row_set]; assumption))) only [f21, W_block, ANs, A3s, AOp.map, ↓reduceIte, Nat.reduceAdd, Nat.reduceEqDiff, reduceCtorEq, initFr, Nat.reduceLT, clsA, List.take, List.drop, Nat.reduceLeDiff, Nat.reduceMul, Nat.reduceSub, reduceIte, ANc, A3c, hlen]
  exact hq2 _ _ ⟨_, rfl, rfl, false, rfl, by simp⟩
 simp (disch := (first | assumption | omega | (simp only [alloc_n, set_n] <;> omega) | (simp (disch := (first | assumption | omega | (simp only [alloc_n, set_n] <;> omega))) only [row_alloc, row_set]; assumption))) only [f21, W_block, ANs, A3s, AOp.map, ↓reduceIte, Nat.reduceAdd, Nat.reduceEqDiff, reduceCtorEq, initFr, Nat.reduceLT, clsA, List.take, List.drop, Nat.reduceLeDiff, Nat.reduceMul, Nat.reduceSub, reduceIte, ANc, A3c, hlen]
 refine W_loop2 (fun q fr K => K = H ∧ ∃ (i n : Nat) (y5 y6 : Value), q = cs.length - i ∧ i ≤ cs.length ∧ n ≤ 1000 ∧ (∀ (j : Nat) (hj : j < cs.length), j < i → cs[j].m.d.l.length ≤ 1000) ∧ fr = [v, .bool false, .int .i64 n, .int .i64 i, .bool false, y5, y6]) cs.length ⟨rfl, 0, 0, _, _, rfl, by omega, by omega, by omega, rfl⟩ ?_
 rintro Q' q fr K ⟨rfl, i, n, y5, y6, rfl, hi, hn1, hall, rfl⟩ hn he hr
 by_cases hlt : i < cs.length
 ·obtain ⟨nn, hrow⟩ := hs.at_ (by omega) (i := i) (by simpa using hlt)
  rw [List.getElem_map] at hrow
  have hmem : cs[i] ∈ cs := List.getElem_mem _
  obtain ⟨tb, hok⟩ := h.2 _ hmem
  obtain ⟨a, k, ev, _⟩ := tb
  have isv : isS cs[i].v = true := by rw [ev]; rfl
  have lenv : lenS cs[i].v = cs[i].m.d.l.length := by rw [ev]; rfl
  have hsub : IntKind.i64.wrap (1000 - (n : Int)) = 1000 - (n : Int) := wrap_i64 (by omega) (by omega)
  by_cases hbig : (1000 : Int) - n < cs[i].m.d.l.length
  ·simp (disch := (first | assumption | omega | (simp only [alloc_n, set_n] <;> omega) | (simp (disch := (first | assumption | omega | (simp only [alloc_n, set_n] <;> omega))) only [row_alloc, row_set]; assumption))) only [W_block, ANs, A3s, AOp.map, ↓reduceIte, Nat.reduceAdd, Nat.reduceEqDiff, reduceCtorEq, initFr, Nat.reduceLT, clsA, List.take, List.drop, Nat.reduceLeDiff, Nat.reduceMul, Nat.reduceSub, reduceIte, ANc, A3c, his, hlen, CC_77 hok, isv, lenv, hsub]
   exact hr _ _ (by simp (disch := (first | assumption | omega | (simp only [alloc_n, set_n] <;> omega) | (simp (disch := (first | assumption | omega | (simp only [alloc_n, set_n] <;> omega))) only [row_alloc, row_set]; assumption))) only [W_block, ANs, A3s, AOp.map, ↓reduceIte, Nat.reduceAdd, Nat.reduceEqDiff, reduceCtorEq, initFr, Nat.reduceLT, clsA, List.take, List.drop, Nat.reduceLeDiff, Nat.reduceMul, Nat.reduceSub, reduceIte, ANc, A3c]; exact hq2 _ _ ⟨_, rfl, rfl, false, rfl, by simp⟩)
  ·have hadd : IntKind.i64.wrap ((n : Int) + (cs[i].m.d.l.length : Int)) = ((n + cs[i].m.d.l.length : Nat) : Int) := by rw [wrap_i64 (by omega) (by omega)]; push_cast; rfl
   simp (disch := (first | assumption | omega | (simp only [alloc_n, set_n] <;> omega) | (simp (disch := (first | assumption | omega | (simp only [alloc_n, set_n] <;> omega))) only [row_alloc, row_set]; assumption))) only [W_block, ANs, A3s, AOp.map, ↓reduceIte, Nat.reduceAdd, Nat.reduceEqDiff, reduceCtorEq, initFr, Nat.reduceLT, clsA, List.take, List.drop, Nat.reduceLeDiff, Nat.reduceMul, Nat.reduceSub, reduceIte, ANc, A3c, his, hlen, CC_77 hok, isv, lenv, hsub, hadd, wrap_succ (n := i) (by omega)]
   refine hn _ _ _ ⟨rfl, i + 1, n + cs[i].m.d.l.length, _, _, rfl, by omega, by omega, ?_, rfl⟩ (by omega)
   intro j hj hji
   rcases Nat.lt_or_ge j i with h1 | h1
   ·exact hall j hj h1
   ·have : j = i := by omega
    subst this; omega
 ·simp (disch := (first | assumption | omega | (simp only [alloc_n, set_n] <;> omega) | (simp (disch := (first | assumption | omega | (simp only [alloc_n, set_n] <;> omega))) only [row_alloc, row_set]; assumption))) only [W_block, ANs, A3s, AOp.map, ↓reduceIte, Nat.reduceAdd, Nat.reduceEqDiff, reduceCtorEq, initFr, Nat.reduceLT, clsA, List.take, List.drop, Nat.reduceLeDiff, Nat.reduceMul, Nat.reduceSub, reduceIte, ANc, A3c, his, hlen]
  refine he _ _ _ ?_
  simp (disch := (first | assumption | omega | (simp only [alloc_n, set_n] <;> omega) | (simp (disch := (first | assumption | omega | (simp only [alloc_n, set_n] <;> omega))) only [row_alloc, row_set]; assumption))) only [W_block, ANs, A3s, AOp.map, ↓reduceIte, Nat.reduceAdd, Nat.reduceEqDiff, reduceCtorEq, initFr, Nat.reduceLT, clsA, List.take, List.drop, Nat.reduceLeDiff, Nat.reduceMul, Nat.reduceSub, reduceIte, ANc, A3c]
  refine hq2 _ _ ⟨_, rfl, rfl, true, rfl, fun _ => ⟨by omega, ?_⟩⟩
  intro c hc2
  obtain ⟨j, hj, rfl⟩ := List.mem_iff_getElem.1 hc2
  exact hall j hj (by omega)
end Go.AM.Rp

namespace Go.AM.Rp
open Go.Proofs
theorem a_eqb (n : Bool) (a b : Bool) (H : AHeap) : asem (.eqv 0 n (.bool a) (.bool b)) H = some (.bool (if n then !(a == b) else (a == b)), H) := rfl
theorem t24 {H : AHeap} {s r sf rf : Nat} {u p v : Value} {l : List Lg} {a : Nat} {x : Option Lg} {T : List Th} (h : Sep H (thS s u l a :: thR r p x :: thSf sf v l a :: thRf rf x :: T)) (hk : LOK l a) (hx : X64 x) :
  ∃ w H', ARun Try.prog 0 24 [ptr s 0, ptr r 0, ptr sf 0, ptr rf 0] H w H' ∧ w = .bool true ∧ Keeps H H' := by
 refine walk2 f24_ok f24_n ?_
 intro Q hq1 hq2
 have hn := hk.n
 have ha := hk.a
 have hS : SdV H s u l a := h.get 0 rfl
 have hSk : Ok64 l := hS.2.2.2
 have hack : (ackL l a).s.t.length = 64 := ackL_ok hSk ha
 have zl7 : Z70.length = 70 := rfl
 have lA := LC_len hack
 have oA := LC_one (ackL l a)
 have lX := LC_len hx.get
 have oX := LC_one (x.getD L0)
 simp (disch := (first | assumption | omega | (simp only [alloc_n, set_n] <;> omega) | (simp (disch := (first | assumption | omega | (simp only [alloc_n, set_n] <;> omega))) only [row_alloc, row_set]; assumption))) only [f24, W_block, ANs, A3s, AOp.map, ↓reduceIte, Nat.reduceAdd, Nat.reduceEqDiff, reduceCtorEq, initFr, Nat.reduceLT, clsA, List.take, List.drop, Nat.reduceLeDiff, Nat.reduceMul, Nat.reduceSub, reduceIte, ANc, A3c]
 refine callK (t29 hS.s (by omega) ha) ?_
 rintro _ K1 ⟨rfl, k1⟩
 have kb1 := (Keeps.refl K1).alloc (.cells true false 70 (LC (ackL l a)) 54)
 have s1 := (h.keeps k1).keeps kb1
 have hR : RvV _ r p x := s1.get 1 rfl
 simp (disch := (first | assumption | omega | (simp only [alloc_n, set_n] <;> omega) | (simp (disch := (first | assumption | omega | (simp only [alloc_n, set_n] <;> omega))) only [row_alloc, row_set]; assumption))) only [W_block, ANs, A3s, AOp.map, ↓reduceIte, Nat.reduceAdd, Nat.reduceEqDiff, reduceCtorEq, initFr, Nat.reduceLT, clsA, List.take, List.drop, Nat.reduceLeDiff, Nat.reduceMul, Nat.reduceSub, reduceIte, ANc, A3c, z70, oA]
 refine callK (t20 hR.s hx) ?_
 rintro _ K2 ⟨rfl, k2⟩
 have s2 := s1.keeps k2
 have g1 : K2.get K1.n = some (.cells true false 70 (LC (ackL l a)) 54) := k2.at_ (AHeap.get_alloc_new K1 _)
 have l1 := AHeap.get_lt g1
 have hSf : SfV K2 sf v l a := s2.get 2 rfl
 have hRf : RfS K2 rf x := s2.get 3 rfl
 have gSf := hSf.g
 have gRf : K2.get rf = some (.cells true false 71 (RC (x.getD L0) x.isSome) 74) := hRf
 have lSf := AHeap.get_lt gSf
 have lRf := AHeap.get_lt gRf
 have his := hSf.sl.is
 have hlen := hSf.sl.len
 rw [List.length_map] at hlen
 have lrc := RC_len hx.get x.isSome
 have hbv : bn v ≤ K2.n := AP.bn hSf.ap
 have hbs := bn_ne hSf.ne
 have kk := (k1.trans kb1).trans k2
 obtain ⟨K3, hK3⟩ : ∃ K3, K3 = (K2.alloc (.cells true false 70 (LC (x.getD L0)) 54)).alloc (.cells true false 70 (LC (ackL l a)) 72) := ⟨_, rfl⟩
 have k3 : Keeps K2 K3 := by rw [hK3]; exact ((Keeps.refl K2).alloc _).alloc _
 have gx3 : K3.get K2.n = some (.cells true false 70 (LC (x.getD L0)) 54) := by rw [hK3, g_old _ (by simp [alloc_n]), g_new _ rfl]
 have gw3 : K3.get (K2.n + 1) = some (.cells true false 70 (LC (ackL l a)) 72) := by rw [hK3]; exact g_new _ rfl
 -- what is wanted
 have fin : ∀ fr : List Value, fr.length = 11 → fr.getD 2 undef = ptr sf 0 → fr.getD 3 undef = ptr rf 0 → fr.getD 5 undef = ptr K1.n 0 → fr.getD 6 undef = .bool (decide (0 < a)) → fr.getD 7 undef = ptr K2.n 0 → fr.getD 8 undef = .bool x.isSome → fr.getD 9 undef = ptr (K2.n + 1) 0 → W Try.prog 0 (.seq (.dreg [
  (⟨.loadn 70 (.fr 5), .tm, none⟩, []),
  (⟨.callf 38 [(.tm 0)], .tm, none⟩, []),
  (⟨.loadn 70 (.fr 9), .tm, none⟩, [1]),
  (⟨.eqs O70 false (.tm 1) (.tm 0), .tm, none⟩, []),
  (⟨.mov (.tm 0), .tm, none⟩, []),
  (⟨.mov (.fr 6), .tm, some ((.tm 0), true)⟩, []),
  (⟨.mov (.fr 2), .tm, some ((.tm 1), true)⟩, []),
  (⟨.nilck (.tm 0), .tm, some ((.tm 2), true)⟩, []),
  (⟨.faddr 1 (.tm 0), .tm, some ((.tm 3), true)⟩, []),
  (⟨.load1 (.tm 0), .tm, some ((.tm 4), true)⟩, []),
  (⟨.bin .geq (.tm 0) (.c (.int .i64 0)), .tm, some ((.tm 5), true)⟩, []),
  (⟨.eqv 0 false (.tm 5) (.tm 0), .tm, some ((.tm 6), true)⟩, []),
  (⟨.pick (.tm 7) (.tm 0) (.c (.bool false)), .tm, none⟩, []),
  (⟨.mov (.tm 0), .tm, none⟩, []),
  (⟨.loadn 70 (.fr 7), .tm, some ((.tm 0), true)⟩, []),
  (⟨.callf 38 [(.tm 0)], .tm, some ((.tm 1), true)⟩, []),
  (⟨.mov (.fr 3), .tm, some ((.tm 2), true)⟩, []),
  (⟨.nilck (.tm 0), .tm, some ((.tm 3), true)⟩, []),
  (⟨.faddr 0 (.tm 0), .tm, some ((.tm 4), true)⟩, []),
  (⟨.loadn 70 (.tm 0), .tm, some ((.tm 5), true)⟩, [15]),
  (⟨.eqs O70 false (.tm 4) (.tm 0), .tm, some ((.tm 6), true)⟩, []),
  (⟨.pick (.tm 7) (.tm 0) (.c (.bool false)), .tm, none⟩, []),
  (⟨.mov (.tm 0), .tm, none⟩, []),
  (⟨.mov (.fr 8), .tm, some ((.tm 0), true)⟩, []),
  (⟨.mov (.fr 3), .tm, some ((.tm 1), true)⟩, []),
  (⟨.nilck (.tm 0), .tm, some ((.tm 2), true)⟩, []),
  (⟨.faddr 70 (.tm 0), .tm, some ((.tm 3), true)⟩, []),
  (⟨.load1 (.tm 0), .tm, some ((.tm 4), true)⟩, []),
  (⟨.eqv 0 false (.tm 4) (.tm 0), .tm, some ((.tm 5), true)⟩, []),
  (⟨.pick (.tm 6) (.tm 0) (.c (.bool false)), .tm, none⟩, []),
  (⟨.mov (.tm 0), .fr 4, none⟩, [])]) .ret) Q fr K3 := by
  intro fr hfl e2 e3 e5 e6 e7 e8 e9
  have n3 := k3.n
  have g13 := k3.at_ g1
  have gSf3 := k3.at_ gSf
  have gRf3 := k3.at_ gRf
  have lx3 := AHeap.get_lt gx3
  have lw3 := AHeap.get_lt gw3
  simp (disch := (first | assumption | omega | (simp only [alloc_n, set_n] <;> omega) | (simp (disch := (first | assumption | omega | (simp only [alloc_n, set_n] <;> omega))) only [row_alloc, row_set]; assumption))) only [W_block, ANs, A3s, AOp.map, ↓reduceIte, Nat.reduceAdd, Nat.reduceEqDiff, reduceCtorEq, initFr, Nat.reduceLT, clsA, List.take, List.drop, Nat.reduceLeDiff, Nat.reduceMul, Nat.reduceSub, reduceIte, ANc, A3c, e5, g13]
  refine callK (t38 K3 hack) ?_
  rintro _ K4 ⟨rfl, k4⟩
  have n4 := k4.n
  have hdec : (decide (0 < a) == decide ((0 : Int) ≤ (a : Int) - 1)) = true := by
   by_cases h0 : 0 < a
   ·simp [h0]; omega
   ·simp [h0]; omega
  simp (disch := (first | assumption | omega | (simp only [alloc_n, set_n] <;> omega) | (simp (disch := (first | assumption | omega | (simp only [alloc_n, set_n] <;> omega))) only [row_alloc, row_set, Keeps.row k4]; assumption))) only [Keeps.get k4, Keeps.row k4, W_block, ANs, A3s, AOp.map, ↓reduceIte, Nat.reduceAdd, Nat.reduceEqDiff, reduceCtorEq, initFr, Nat.reduceLT, clsA, List.take, List.drop, Nat.reduceLeDiff, Nat.reduceMul, Nat.reduceSub, reduceIte, ANc, A3c, e9, gw3, a_eqse, eqL_yes hack, e6, e2, gSf3, hdec, a_eqb, e7, gx3]
  refine callK (t38 K4 hx.get) ?_
  rintro _ K5 ⟨rfl, k5⟩
  have n5 := k5.n
  simp (disch := (first | assumption | omega | (simp only [alloc_n, set_n] <;> omega) | (simp (disch := (first | assumption | omega | (simp only [alloc_n, set_n] <;> omega))) only [row_alloc, row_set, Keeps.row k4, Keeps.row k5]; assumption))) only [Keeps.get k4, Keeps.get k5, Keeps.row k4, Keeps.row k5, W_block, ANs, A3s, AOp.map, ↓reduceIte, Nat.reduceAdd, Nat.reduceEqDiff, reduceCtorEq, initFr, Nat.reduceLT, clsA, List.take, List.drop, Nat.reduceLeDiff, Nat.reduceMul, Nat.reduceSub, reduceIte, ANc, A3c, e3, gRf3, RC_x hx.get, a_eqse, eqL_yes hx.get, e8, RC_70 hx.get, a_eqb]
  refine hq2 _ _ ⟨_, rfl, ?_, ((kk.trans k3).trans k4).trans k5⟩
  show (fr.set 4 _).getD 4 undef = _
  simp [List.getD_eq_getElem?_getD, hfl]
 by_cases h0 : 0 < a
 ·obtain ⟨nn, hrow⟩ := hSf.sl.at_ (by omega) (i := a - 1) (by simp; omega)
  have hak : l[a - 1] = ackL l a := by unfold ackL; rw [if_neg (by omega), List.getD_eq_getElem?_getD, List.getElem?_eq_getElem (by omega)]; rfl
  rw [List.getElem_map, hak] at hrow
  have hto : ((a : Int) - 1).toNat = a - 1 := by omega
  have := fin [ptr s 0, ptr r 0, ptr sf 0, ptr rf 0, .bool false, ptr K1.n 0, .bool (decide (0 < a)), ptr K2.n 0, .bool x.isSome, ptr (K2.n + 1) 0, .bool true] rfl rfl rfl rfl rfl rfl rfl rfl
  rw [hK3] at this
  simp (disch := (first | assumption | omega | (simp only [alloc_n, set_n] <;> omega) | (simp (disch := (first | assumption | omega | (simp only [alloc_n, set_n] <;> omega))) only [row_alloc, row_set]; assumption))) only [W_block, ANs, A3s, AOp.map, ↓reduceIte, Nat.reduceAdd, Nat.reduceEqDiff, reduceCtorEq, initFr, Nat.reduceLT, clsA, List.take, List.drop, Nat.reduceLeDiff, Nat.reduceMul, Nat.reduceSub, reduceIte, ANc, A3c] at this
  simp (disch := (first | assumption | omega | (simp only [alloc_n, set_n] <;> omega) | (simp (disch := (first | assumption | omega | (simp only [alloc_n, set_n] <;> omega))) only [row_alloc, row_set]; assumption))) only [W_block, ANs, A3s, AOp.map, ↓reduceIte, Nat.reduceAdd, Nat.reduceEqDiff, reduceCtorEq, initFr, Nat.reduceLT, clsA, List.take, List.drop, Nat.reduceLeDiff, Nat.reduceMul, Nat.reduceSub, reduceIte, ANc, A3c, z70, oX, gSf, his, hlen, hto, oA]
  exact this
 ·have h00 : a = 0 := by omega
  have hz : ackL l a = L0 := by unfold ackL; rw [if_pos h00]
  have := fin [ptr s 0, ptr r 0, ptr sf 0, ptr rf 0, .bool false, ptr K1.n 0, .bool (decide (0 < a)), ptr K2.n 0, .bool x.isSome, ptr (K2.n + 1) 0, .bool false] rfl rfl rfl rfl rfl rfl rfl rfl
  rw [hK3, hz, ← Z70_eq] at this
  rw [hz] at *
  simp (disch := (first | assumption | omega | (simp only [alloc_n, set_n] <;> omega) | (simp (disch := (first | assumption | omega | (simp only [alloc_n, set_n] <;> omega))) only [row_alloc, row_set]; assumption))) only [W_block, ANs, A3s, AOp.map, ↓reduceIte, Nat.reduceAdd, Nat.reduceEqDiff, reduceCtorEq, initFr, Nat.reduceLT, clsA, List.take, List.drop, Nat.reduceLeDiff, Nat.reduceMul, Nat.reduceSub, reduceIte, ANc, A3c] at this
  simp (disch := (first | assumption | omega | (simp only [alloc_n, set_n] <;> omega) | (simp (disch := (first | assumption | omega | (simp only [alloc_n, set_n] <;> omega))) only [row_alloc, row_set]; assumption))) only [W_block, ANs, A3s, AOp.map, ↓reduceIte, Nat.reduceAdd, Nat.reduceEqDiff, reduceCtorEq, initFr, Nat.reduceLT, clsA, List.take, List.drop, Nat.reduceLeDiff, Nat.reduceMul, Nat.reduceSub, reduceIte, ANc, A3c, z70, oX, gSf, his, hlen]
  exact this
end Go.AM.Rp

namespace Go.AM.Rp
open Go.Proofs
structure All (l : List Lg) (a : Nat) (x : Option Lg) : Prop where
 k : LOK l a
 x : X64 x
def thL (s r sf rf : Nat) (u p v : Value) (l : List Lg) (a : Nat) (x : Option Lg) (v0 : Value) (cs : List CA) : List Th := [thS s u l a, thR r p x, thSf sf v l a, thRf rf x, thC v0 cs]
theorem hearR_s (x : Option Lg) (m : Msg) : (hearR x m).1.s = S0 ∧ (hearR x m).1.d.l = [] := by
 unfold hearR
 split
 ·exact ⟨rfl, rfl⟩
 ·split
  ·split
   ·exact ⟨rfl, rfl⟩
   ·split
    ·exact ⟨rfl, rfl⟩
    ·split <;> exact ⟨rfl, rfl⟩
  ·split <;> exact ⟨rfl, rfl⟩
theorem sendR_s {l : List Lg} {a : Nat} (hk : Ok64 l) (ha : a ≤ l.length) : (sendR l a).1.s.t.length = 64 ∧ (sendR l a).1.d.l.length ≤ 64 := by
 unfold sendR
 split
 ·exact ⟨rfl, by simp [G0]⟩
 ·split
  ·exact ⟨rfl, dp_le _ _ 64⟩
  ·refine ⟨?_, by simp [G0]⟩
   show (lst l).s.t.length = 64
   unfold lst
   rw [List.getD_eq_getElem?_getD, List.getElem?_eq_getElem (by omega)]
   exact hk _ (List.getElem_mem _)
def thW (v : Value) (n : Nat) (c : List Value) : Th where
 P H := AP H 90 2 v n c
 F := blkL v
 lt H h b hb := AP.lt h (mem_blkL.1 hb)
 st H H' h _ k := AP.stay h k
def thN : Th where
 P _ := True
 F := []
 lt H h b hb := by cases hb
 st H H' h _ k := trivial
set_option maxHeartbeats 2000000 in
theorem t23 {H : AHeap} {s r sf rf : Nat} {u p v v0 : Value} {l : List Lg} {a : Nat} {x : Option Lg} {cs : List CA} {c : CA} (h : Sep H (thL s r sf rf u p v l a x v0 cs)) (hA : All l a x) (hc : c ∈ cs) (hcl : c.m.d.l.length ≤ 1000) :
  ∃ w H', ARun Try.prog 0 23 [ptr s 0, ptr r 0, ptr sf 0, ptr rf 0, .agg (CC c).toArray] H w H' ∧ w = .bool true ∧ ∃ u p v l a x, Sep H' (thL s r sf rf u p v l a x v0 cs) ∧ All l a x := by
 refine walk2 f23_ok f23_n ?_
 intro Q hq1 hq2
 have hC : (thC v0 cs).P H := h.get 4 rfl
 obtain ⟨tb, hok⟩ := hC.2 c hc
 have one := CC_one tb.one
 have lcc := CC_len hok
 have z78 : Z78.all Value.oneCell' = true := rfl
 have zl : Z78.length = 78 := rfl
 have sB := h.box (.cells true false 149 (CC c) 79)
 have tbB : TB _ c.v c.m.d.l := ((sB.get 5 rfl : (thC v0 cs).P _).2 c hc).1
 by_cases h01 : c.k % 8 = 0 ∨ c.k % 8 = 1
 ·rcases h01 with h01 | h01 <;> simp (disch := (first | assumption | omega | (simp only [alloc_n, set_n] <;> omega) | (simp (disch := (first | assumption | omega | (simp only [alloc_n, set_n] <;> omega))) only [row_alloc, row_set]; assumption))) only [f23, W_block, ANs, A3s, AOp.map, ↓reduceIte, Nat.reduceAdd, Nat.reduceEqDiff, reduceCtorEq, initFr, Nat.reduceLT, clsA, List.take, List.drop, Nat.reduceLeDiff, Nat.reduceMul, Nat.reduceSub, reduceIte, ANc, A3c, one, CC_0, b_rem8, CC_x hok] <;> refine callK (s15 (A := [_]) sB hA.k hok.x) ?_ <;> rintro _ K1 ⟨rfl, u', s1⟩
  all_goals
   have g1 : K1.get H.n = some (.cells true false 149 (CC c) 79) := s1.get 0 rfl
   have l1 := AHeap.get_lt g1
   simp (disch := (first | assumption | omega | (simp only [alloc_n, set_n] <;> omega) | (simp (disch := (first | assumption | omega | (simp only [alloc_n, set_n] <;> omega))) only [row_alloc, row_set]; assumption))) only [W_block, ANs, A3s, AOp.map, ↓reduceIte, Nat.reduceAdd, Nat.reduceEqDiff, reduceCtorEq, initFr, Nat.reduceLT, clsA, List.take, List.drop, Nat.reduceLeDiff, Nat.reduceMul, Nat.reduceSub, reduceIte, ANc, A3c, g1, CC_x hok]
   refine callK (t38 K1 hok.x) ?_
   rintro _ K2 ⟨rfl, k2⟩
   simp (disch := (first | assumption | omega | (simp only [alloc_n, set_n] <;> omega) | (simp (disch := (first | assumption | omega | (simp only [alloc_n, set_n] <;> omega))) only [row_alloc, row_set]; assumption))) only [W_block, ANs, A3s, AOp.map, ↓reduceIte, Nat.reduceAdd, Nat.reduceEqDiff, reduceCtorEq, initFr, Nat.reduceLT, clsA, List.take, List.drop, Nat.reduceLeDiff, Nat.reduceMul, Nat.reduceSub, reduceIte, ANc, A3c]
   refine callK (s37 (A := [_, _, _]) (s1.keeps k2) hA.k hok.x) ?_
   rintro _ K3 ⟨rfl, v', s3⟩
   simp (disch := (first | assumption | omega | (simp only [alloc_n, set_n] <;> omega) | (simp (disch := (first | assumption | omega | (simp only [alloc_n, set_n] <;> omega))) only [row_alloc, row_set]; assumption))) only [W_block, ANs, A3s, AOp.map, ↓reduceIte, Nat.reduceAdd, Nat.reduceEqDiff, reduceCtorEq, initFr, Nat.reduceLT, clsA, List.take, List.drop, Nat.reduceLeDiff, Nat.reduceMul, Nat.reduceSub, reduceIte, ANc, A3c]
   exact hq2 _ _ ⟨_, rfl, rfl, _, _, _, _, _, _, s3.tail, hA.k.offer _, hA.x⟩
 by_cases h3 : c.k % 8 = 3
 ·simp (disch := (first | assumption | omega | (simp only [alloc_n, set_n] <;> omega) | (simp (disch := (first | assumption | omega | (simp only [alloc_n, set_n] <;> omega))) only [row_alloc, row_set]; assumption))) only [f23, W_block, ANs, A3s, AOp.map, ↓reduceIte, Nat.reduceAdd, Nat.reduceEqDiff, reduceCtorEq, initFr, Nat.reduceLT, clsA, List.take, List.drop, Nat.reduceLeDiff, Nat.reduceMul, Nat.reduceSub, reduceIte, ANc, A3c, one, CC_0, b_rem8, CC_m hok]
  refine callK (s19 (A := [_]) sB hA.k hok.m tbB (by omega)) ?_
  rintro _ K1 ⟨rfl, s1⟩
  have g1 : K1.get H.n = some (.cells true false 149 (CC c) 79) := s1.get 0 rfl
  have l1 := AHeap.get_lt g1
  have tb1 : TB K1 c.v c.m.d.l := ((s1.get 5 rfl : (thC v0 cs).P _).2 c hc).1
  simp (disch := (first | assumption | omega | (simp only [alloc_n, set_n] <;> omega) | (simp (disch := (first | assumption | omega | (simp only [alloc_n, set_n] <;> omega))) only [row_alloc, row_set]; assumption))) only [W_block, ANs, A3s, AOp.map, ↓reduceIte, Nat.reduceAdd, Nat.reduceEqDiff, reduceCtorEq, initFr, Nat.reduceLT, clsA, List.take, List.drop, Nat.reduceLeDiff, Nat.reduceMul, Nat.reduceSub, reduceIte, ANc, A3c, g1, CC_m hok]
  refine callK (t12g hok.m tb1 (by omega)) ?_
  rintro _ K2 ⟨k2, w, rfl, tw, _⟩
  simp (disch := (first | assumption | omega | (simp only [alloc_n, set_n] <;> omega) | (simp (disch := (first | assumption | omega | (simp only [alloc_n, set_n] <;> omega))) only [row_alloc, row_set]; assumption))) only [W_block, ANs, A3s, AOp.map, ↓reduceIte, Nat.reduceAdd, Nat.reduceEqDiff, reduceCtorEq, initFr, Nat.reduceLT, clsA, List.take, List.drop, Nat.reduceLeDiff, Nat.reduceMul, Nat.reduceSub, reduceIte, ANc, A3c]
  refine callK (s39 (A := [_, _, _]) (s1.keeps k2) hA.k hok.m tw (by omega)) ?_
  rintro _ K3 ⟨rfl, s3⟩
  simp (disch := (first | assumption | omega | (simp only [alloc_n, set_n] <;> omega) | (simp (disch := (first | assumption | omega | (simp only [alloc_n, set_n] <;> omega))) only [row_alloc, row_set]; assumption))) only [W_block, ANs, A3s, AOp.map, ↓reduceIte, Nat.reduceAdd, Nat.reduceEqDiff, reduceCtorEq, initFr, Nat.reduceLT, clsA, List.take, List.drop, Nat.reduceLeDiff, Nat.reduceMul, Nat.reduceSub, reduceIte, ANc, A3c]
  exact hq2 _ _ ⟨_, rfl, rfl, _, _, _, _, _, _, s3.tail, hA.k.hear _, hA.x⟩
 by_cases h45 : c.k % 8 = 4 ∨ c.k % 8 = 5
 ·obtain ⟨e1, e2⟩ := hearR_s x c.m
  have hm : (hearR x c.m).1.s.t.length = 64 := by rw [e1]; rfl
  have tbn : ∀ X, TB X (.slice none 0 0) (hearR x c.m).1.d.l := fun X => ⟨none, 0, by rw [e2]; rfl, fun hne => absurd e2 hne⟩
  have lg := GC_len hm (.slice none 0 0)
  have og := GC_one (hearR x c.m).1 (v := .slice none 0 0) rfl
  rcases h45 with h45 | h45 <;> simp (disch := (first | assumption | omega | (simp only [alloc_n, set_n] <;> omega) | (simp (disch := (first | assumption | omega | (simp only [alloc_n, set_n] <;> omega))) only [row_alloc, row_set]; assumption))) only [f23, W_block, ANs, A3s, AOp.map, ↓reduceIte, Nat.reduceAdd, Nat.reduceEqDiff, reduceCtorEq, initFr, Nat.reduceLT, clsA, List.take, List.drop, Nat.reduceLeDiff, Nat.reduceMul, Nat.reduceSub, reduceIte, ANc, A3c, one, CC_0, b_rem8, CC_m hok] <;> refine callK (s17 (A := [_, _]) sB hA.x hok.m tbB (by omega)) ?_ <;> rintro _ K1 ⟨rfl, p', s1⟩
  all_goals
   have g1 : K1.get H.n = some (.cells true false 149 (CC c) 79) := s1.get 0 rfl
   have l1 := AHeap.get_lt g1
   have s2 := s1.box (.cells true false 78 (GC (hearR x c.m).1 (.slice none 0 0)) 41)
   have tb2 : TB _ c.v c.m.d.l := ((s2.get 6 rfl : (thC v0 cs).P _).2 c hc).1
   simp (disch := (first | assumption | omega | (simp only [alloc_n, set_n] <;> omega) | (simp (disch := (first | assumption | omega | (simp only [alloc_n, set_n] <;> omega))) only [row_alloc, row_set]; assumption))) only [W_block, ANs, A3s, AOp.map, ↓reduceIte, Nat.reduceAdd, Nat.reduceEqDiff, reduceCtorEq, initFr, Nat.reduceLT, clsA, List.take, List.drop, Nat.reduceLeDiff, Nat.reduceMul, Nat.reduceSub, reduceIte, ANc, A3c, g1, CC_m hok, z78, og]
   refine callK (t12g hok.m tb2 (by omega)) ?_
   rintro _ K2 ⟨k2, w, rfl, tw, _⟩
   have s3 := s2.keeps k2
   have g3 : K2.get K1.n = some (.cells true false 78 (GC (hearR x c.m).1 (.slice none 0 0)) 41) := s3.get 0 rfl
   simp (disch := (first | assumption | omega | (simp only [alloc_n, set_n] <;> omega) | (simp (disch := (first | assumption | omega | (simp only [alloc_n, set_n] <;> omega))) only [row_alloc, row_set]; assumption))) only [W_block, ANs, A3s, AOp.map, ↓reduceIte, Nat.reduceAdd, Nat.reduceEqDiff, reduceCtorEq, initFr, Nat.reduceLT, clsA, List.take, List.drop, Nat.reduceLeDiff, Nat.reduceMul, Nat.reduceSub, reduceIte, ANc, A3c]
   refine callK (s40 (A := [_, _, _, _, _]) s3 hA.x hok.m tw (by omega)) ?_
   rintro _ K3 ⟨rfl, s4⟩
   have s5 := s4.box (.cells true false 78 (GC (hearR x c.m).1 (.slice none 0 0)) 38)
   have g5 : (K3.alloc (.cells true false 78 (GC (hearR x c.m).1 (.slice none 0 0)) 38)).get K1.n = some (.cells true false 78 (GC (hearR x c.m).1 (.slice none 0 0)) 41) := s5.get 1 rfl
   have g4 : K3.get K1.n = some (.cells true false 78 (GC (hearR x c.m).1 (.slice none 0 0)) 41) := s4.get 0 rfl
   have l4 := AHeap.get_lt g4
   simp (disch := (first | assumption | omega | (simp only [alloc_n, set_n] <;> omega) | (simp (disch := (first | assumption | omega | (simp only [alloc_n, set_n] <;> omega))) only [row_alloc, row_set]; assumption))) only [W_block, ANs, A3s, AOp.map, ↓reduceIte, Nat.reduceAdd, Nat.reduceEqDiff, reduceCtorEq, initFr, Nat.reduceLT, clsA, List.take, List.drop, Nat.reduceLeDiff, Nat.reduceMul, Nat.reduceSub, reduceIte, ANc, A3c, z78, og, g4]
   refine callK (t12g hm (tbn _) (by rw [e2]; simp)) ?_
   rintro _ K5 ⟨k5, w5, rfl, tw5, _⟩
   have n5 := k5.n
   simp only [alloc_n] at n5
   simp (disch := (first | assumption | omega | (simp only [alloc_n, set_n] <;> omega) | (simp (disch := (first | assumption | omega | (simp only [alloc_n, set_n] <;> omega))) only [row_alloc, row_set, Keeps.row k5]; assumption))) only [Keeps.get k5, Keeps.row k5, W_block, ANs, A3s, AOp.map, ↓reduceIte, Nat.reduceAdd, Nat.reduceEqDiff, reduceCtorEq, initFr, Nat.reduceLT, clsA, List.take, List.drop, Nat.reduceLeDiff, Nat.reduceMul, Nat.reduceSub, reduceIte, ANc, A3c]
   refine callK (t13g hm tw5 (tbn _) (by rw [e2]; simp)) ?_
   rintro _ K6 ⟨rfl, k6⟩
   simp (disch := (first | assumption | omega | (simp only [alloc_n, set_n] <;> omega) | (simp (disch := (first | assumption | omega | (simp only [alloc_n, set_n] <;> omega))) only [row_alloc, row_set]; assumption))) only [W_block, ANs, A3s, AOp.map, ↓reduceIte, Nat.reduceAdd, Nat.reduceEqDiff, reduceCtorEq, initFr, Nat.reduceLT, clsA, List.take, List.drop, Nat.reduceLeDiff, Nat.reduceMul, Nat.reduceSub, reduceIte, ANc, A3c, a_eqb, beq_self_eq_true]
   exact hq2 _ _ ⟨_, rfl, rfl, _, _, _, _, _, _, ((s5.tail.tail.tail.keeps k5).keeps k6), hA.k, hA.x.hear hok.m⟩
 by_cases h6 : c.k % 8 = 6
 ·simp (disch := (first | assumption | omega | (simp only [alloc_n, set_n] <;> omega) | (simp (disch := (first | assumption | omega | (simp only [alloc_n, set_n] <;> omega))) only [row_alloc, row_set]; assumption))) only [f23, W_block, ANs, A3s, AOp.map, ↓reduceIte, Nat.reduceAdd, Nat.reduceEqDiff, reduceCtorEq, initFr, Nat.reduceLT, clsA, List.take, List.drop, Nat.reduceLeDiff, Nat.reduceMul, Nat.reduceSub, reduceIte, ANc, A3c, one, CC_0, b_rem8, CC_x hok]
  refine callK (s30 (A := [_, _]) (y := c.x) sB) ?_
  rintro _ K1 ⟨rfl, p', s1⟩
  have g1 : K1.get H.n = some (.cells true false 149 (CC c) 79) := s1.get 0 rfl
  have l1 := AHeap.get_lt g1
  simp (disch := (first | assumption | omega | (simp only [alloc_n, set_n] <;> omega) | (simp (disch := (first | assumption | omega | (simp only [alloc_n, set_n] <;> omega))) only [row_alloc, row_set]; assumption))) only [W_block, ANs, A3s, AOp.map, ↓reduceIte, Nat.reduceAdd, Nat.reduceEqDiff, reduceCtorEq, initFr, Nat.reduceLT, clsA, List.take, List.drop, Nat.reduceLeDiff, Nat.reduceMul, Nat.reduceSub, reduceIte, ANc, A3c, g1, CC_x hok]
  refine callK (t38 K1 hok.x) ?_
  rintro _ K2 ⟨rfl, k2⟩
  simp (disch := (first | assumption | omega | (simp only [alloc_n, set_n] <;> omega) | (simp (disch := (first | assumption | omega | (simp only [alloc_n, set_n] <;> omega))) only [row_alloc, row_set]; assumption))) only [W_block, ANs, A3s, AOp.map, ↓reduceIte, Nat.reduceAdd, Nat.reduceEqDiff, reduceCtorEq, initFr, Nat.reduceLT, clsA, List.take, List.drop, Nat.reduceLeDiff, Nat.reduceMul, Nat.reduceSub, reduceIte, ANc, A3c]
  refine callK (s41 (A := [_, _, _, _]) (s1.keeps k2) hA.x hok.x) ?_
  rintro _ K3 ⟨rfl, s3⟩
  simp (disch := (first | assumption | omega | (simp only [alloc_n, set_n] <;> omega) | (simp (disch := (first | assumption | omega | (simp only [alloc_n, set_n] <;> omega))) only [row_alloc, row_set]; assumption))) only [W_block, ANs, A3s, AOp.map, ↓reduceIte, Nat.reduceAdd, Nat.reduceEqDiff, reduceCtorEq, initFr, Nat.reduceLT, clsA, List.take, List.drop, Nat.reduceLeDiff, Nat.reduceMul, Nat.reduceSub, reduceIte, ANc, A3c]
  exact hq2 _ _ ⟨_, rfl, rfl, _, _, _, _, _, _, s3.tail, hA.k, hA.x.begin hok.x⟩
 -- Send
 have hSd : SdV _ s u l a := sB.get 1 rfl
 have hSf : SfV _ sf v l a := sB.get 3 rfl
 have hn8 := hA.k.n
 obtain ⟨m64, ml⟩ := sendR_s hSf.ok hA.k.a
 simp (disch := (first | assumption | omega | (simp only [alloc_n, set_n] <;> omega) | (simp (disch := (first | assumption | omega | (simp only [alloc_n, set_n] <;> omega))) only [row_alloc, row_set]; assumption))) only [f23, W_block, ANs, A3s, AOp.map, ↓reduceIte, Nat.reduceAdd, Nat.reduceEqDiff, reduceCtorEq, initFr, Nat.reduceLT, clsA, List.take, List.drop, Nat.reduceLeDiff, Nat.reduceMul, Nat.reduceSub, reduceIte, ANc, A3c, one, CC_0, b_rem8]
 refine callK (t16o hSd.s (by omega) hA.k.a) ?_
 rintro _ K1 ⟨k1, w1, rfl, tw1, fw1, ap1⟩
 have s1 := sB.add (t := thW w1 _ _) k1 ap1 (fun b hb => fw1 b (mem_blkL.1 hb))
 have s2 := s1.box (.cells true false 78 (GC (sendR l a).1 w1) 41)
 have lg1 := GC_len m64 w1
 have og1 := GC_one (sendR l a).1 tw1.one
 have hSf2 : SfV _ sf v l a := s2.get 5 rfl
 simp (disch := (first | assumption | omega | (simp only [alloc_n, set_n] <;> omega) | (simp (disch := (first | assumption | omega | (simp only [alloc_n, set_n] <;> omega))) only [row_alloc, row_set]; assumption))) only [W_block, ANs, A3s, AOp.map, ↓reduceIte, Nat.reduceAdd, Nat.reduceEqDiff, reduceCtorEq, initFr, Nat.reduceLT, clsA, List.take, List.drop, Nat.reduceLeDiff, Nat.reduceMul, Nat.reduceSub, reduceIte, ANc, A3c, z78, og1]
 refine callK (t42 hSf2 (by omega) hA.k.a) ?_
 rintro _ K2 ⟨k2, w2, rfl, tw2, fw2⟩
 have s3 := s2.add (t := thT w2 (sendR l a).1.d.l) k2 tw2 (by
  intro b hb
  simp only [thT] at hb
  split at hb
  ·cases hb
  ·exact fw2 b (mem_blkL.1 hb))
 have s4 := s3.box (.cells true false 78 (GC (sendR l a).1 w2) 38)
 have lg2 := GC_len m64 w2
 have og2 := GC_one (sendR l a).1 tw2.one
 have gA : K2.get K1.n = some (.cells true false 78 (GC (sendR l a).1 w1) 41) := s3.get 1 rfl
 have lA := AHeap.get_lt gA
 have tA : TB _ w1 (sendR l a).1.d.l := TB.of_ap (s4.get 3 rfl : AP _ 90 2 w1 (sendR l a).1.d.l.length (TC (sendR l a).1.d.l))
 simp (disch := (first | assumption | omega | (simp only [alloc_n, set_n] <;> omega) | (simp (disch := (first | assumption | omega | (simp only [alloc_n, set_n] <;> omega))) only [row_alloc, row_set]; assumption))) only [W_block, ANs, A3s, AOp.map, ↓reduceIte, Nat.reduceAdd, Nat.reduceEqDiff, reduceCtorEq, initFr, Nat.reduceLT, clsA, List.take, List.drop, Nat.reduceLeDiff, Nat.reduceMul, Nat.reduceSub, reduceIte, ANc, A3c, z78, og2, gA]
 refine callK (t12g m64 tA (by omega)) ?_
 rintro _ K3 ⟨k3, w3, rfl, tw3, _⟩
 have n3 := k3.n
 simp only [alloc_n] at n3
 have s5 := s4.keeps k3
 have tB : TB K3 w2 (sendR l a).1.d.l := s5.get 1 rfl
 simp (disch := (first | assumption | omega | (simp only [alloc_n, set_n] <;> omega) | (simp (disch := (first | assumption | omega | (simp only [alloc_n, set_n] <;> omega))) only [row_alloc, row_set, Keeps.row k3]; assumption))) only [Keeps.get k3, Keeps.row k3, W_block, ANs, A3s, AOp.map, ↓reduceIte, Nat.reduceAdd, Nat.reduceEqDiff, reduceCtorEq, initFr, Nat.reduceLT, clsA, List.take, List.drop, Nat.reduceLeDiff, Nat.reduceMul, Nat.reduceSub, reduceIte, ANc, A3c]
 refine callK (t13g m64 tw3 tB (by omega)) ?_
 rintro _ K4 ⟨rfl, k4⟩
 have s6 := s5.keeps k4
 have gC : K4.get H.n = some (.cells true false 149 (CC c) 79) := s6.get 4 rfl
 have gA4 : K4.get K1.n = some (.cells true false 78 (GC (sendR l a).1 w1) 41) := s6.get 2 rfl
 have gB4 : K4.get K2.n = some (.cells true false 78 (GC (sendR l a).1 w2) 38) := s6.get 0 rfl
 have spoil : ∀ (K : AHeap) (u p v : Value) (l' : List Lg) (a' : Nat) (x' : Option Lg), Sep K (thW w1 (sendR l a).1.d.l.length (TC (sendR l a).1.d.l) :: thB H.n (.cells true false 149 (CC c) 79) :: thL s r sf rf u p v l' a' x' v0 cs) → All l' a' x' → K.get K1.n = some (.cells true false 78 (GC (sendR l a).1 w1) 41) → ∀ fr : List Value, fr.getD 13 undef = ptr K1.n 0 → fr.length = 31 →
   W Try.prog 0 (.seq (.reg [⟨.loadn 78 (.fr 13), .tm, none⟩, ⟨.callf 43 [(.tm 0)], .tm, none⟩]) <| .seq (.reg [⟨.mov (.c (.bool true)), .fr 6, none⟩]) .ret) Q fr K := by
  intro K u p v l' a' x' hs hA' g fr e13 hfl
  simp (disch := (first | assumption | omega | (simp only [alloc_n, set_n] <;> omega) | (simp (disch := (first | assumption | omega | (simp only [alloc_n, set_n] <;> omega))) only [row_alloc, row_set]; assumption))) only [W_block, ANs, A3s, AOp.map, ↓reduceIte, Nat.reduceAdd, Nat.reduceEqDiff, reduceCtorEq, initFr, Nat.reduceLT, clsA, List.take, List.drop, Nat.reduceLeDiff, Nat.reduceMul, Nat.reduceSub, reduceIte, ANc, A3c, e13, g]
  refine callK (t43 m64 (hs.get 0 rfl) ml) ?_
  intro w K' c'
  have hs' := hs.upd (l := []) (t := thW w1 _ _) (t' := thN) c' trivial (fun b hb => by cases hb)
  simp (disch := (first | assumption | omega | (simp only [alloc_n, set_n] <;> omega) | (simp (disch := (first | assumption | omega | (simp only [alloc_n, set_n] <;> omega))) only [row_alloc, row_set]; assumption))) only [W_block, ANs, A3s, AOp.map, ↓reduceIte, Nat.reduceAdd, Nat.reduceEqDiff, reduceCtorEq, initFr, Nat.reduceLT, clsA, List.take, List.drop, Nat.reduceLeDiff, Nat.reduceMul, Nat.reduceSub, reduceIte, ANc, A3c]
  refine hq2 _ _ ⟨_, rfl, ?_, _, _, _, _, _, _, hs'.tail.tail, hA'⟩
  show (fr.set 6 _).getD 6 undef = _
  simp [List.getD_eq_getElem?_getD, hfl]
 have h27 : c.k % 8 = 2 ∨ c.k % 8 = 7 := by omega
 by_cases h7 : c.k % 8 = 7 ∧ (sendR l a).2 = true
 case neg =>
  have := spoil K4 u p v l a x s6.tail.tail.tail hA gA4 [ptr s 0, ptr r 0, ptr sf 0, ptr rf 0, .agg (CC c).toArray, ptr H.n 0, .bool false, undef, undef, undef, undef, undef, undef, ptr K1.n 0, .bool (sendR l a).2, ptr K2.n 0, .bool (sendR l a).2, undef, undef, undef, undef, undef, undef, .int .u8 ((c.k % 8 : Nat) : Int), .bool false, .bool false, .bool false, .bool false, .bool false, .bool false, undef] rfl rfl
  simp (disch := (first | assumption | omega | (simp only [alloc_n, set_n] <;> omega) | (simp (disch := (first | assumption | omega | (simp only [alloc_n, set_n] <;> omega))) only [row_alloc, row_set]; assumption))) only [W_block, ANs, A3s, AOp.map, ↓reduceIte, Nat.reduceAdd, Nat.reduceEqDiff, reduceCtorEq, initFr, Nat.reduceLT, clsA, List.take, List.drop, Nat.reduceLeDiff, Nat.reduceMul, Nat.reduceSub, reduceIte, ANc, A3c] at this
  rcases h27 with h2 | h2
  ·simp (disch := (first | assumption | omega | (simp only [alloc_n, set_n] <;> omega) | (simp (disch := (first | assumption | omega | (simp only [alloc_n, set_n] <;> omega))) only [row_alloc, row_set]; assumption))) only [W_block, ANs, A3s, AOp.map, ↓reduceIte, Nat.reduceAdd, Nat.reduceEqDiff, reduceCtorEq, initFr, Nat.reduceLT, clsA, List.take, List.drop, Nat.reduceLeDiff, Nat.reduceMul, Nat.reduceSub, reduceIte, ANc, A3c, a_eqb, beq_self_eq_true, gC, CC_0, b_rem8]
   exact this
  ·have hok2 : (sendR l a).2 = false := by cases hh : (sendR l a).2; rfl; exact absurd ⟨h2, hh⟩ h7
   rw [hok2] at this ⊢
   simp (disch := (first | assumption | omega | (simp only [alloc_n, set_n] <;> omega) | (simp (disch := (first | assumption | omega | (simp only [alloc_n, set_n] <;> omega))) only [row_alloc, row_set]; assumption))) only [W_block, ANs, A3s, AOp.map, ↓reduceIte, Nat.reduceAdd, Nat.reduceEqDiff, reduceCtorEq, initFr, Nat.reduceLT, clsA, List.take, List.drop, Nat.reduceLeDiff, Nat.reduceMul, Nat.reduceSub, reduceIte, ANc, A3c, a_eqb, beq_self_eq_true, gC, CC_0, b_rem8]
   exact this
 obtain ⟨h7, hok2⟩ := h7
 rw [hok2]
 obtain ⟨e1, e2⟩ := hearR_s x (sendR l a).1
 have hm : (hearR x (sendR l a).1).1.s.t.length = 64 := by rw [e1]; rfl
 have tbn : ∀ X, TB X (.slice none 0 0) (hearR x (sendR l a).1).1.d.l := fun X => ⟨none, 0, by rw [e2]; rfl, fun hne => absurd e2 hne⟩
 have lgh := GC_len hm (.slice none 0 0)
 have ogh := GC_one (hearR x (sendR l a).1).1 (v := .slice none 0 0) rfl
 simp (disch := (first | assumption | omega | (simp only [alloc_n, set_n] <;> omega) | (simp (disch := (first | assumption | omega | (simp only [alloc_n, set_n] <;> omega))) only [row_alloc, row_set]; assumption))) only [W_block, ANs, A3s, AOp.map, ↓reduceIte, Nat.reduceAdd, Nat.reduceEqDiff, reduceCtorEq, initFr, Nat.reduceLT, clsA, List.take, List.drop, Nat.reduceLeDiff, Nat.reduceMul, Nat.reduceSub, reduceIte, ANc, A3c, a_eqb, beq_self_eq_true, gC, CC_0, b_rem8, gA4]
 have tA4 : TB K4 w1 (sendR l a).1.d.l := TB.of_ap (s6.get 3 rfl : AP _ 90 2 w1 (sendR l a).1.d.l.length (TC (sendR l a).1.d.l))
 refine callK (s17 (A := [_, _, _, _, _, _]) s6 hA.x m64 tA4 (by omega)) ?_
 rintro _ K5 ⟨rfl, p', s7⟩
 have gB5 : K5.get K2.n = some (.cells true false 78 (GC (sendR l a).1 w2) 38) := s7.get 0 rfl
 have lB5 := AHeap.get_lt gB5
 have s8 := s7.box (.cells true false 78 (GC (hearR x (sendR l a).1).1 (.slice none 0 0)) 41)
 have tB8 : TB _ w2 (sendR l a).1.d.l := s8.get 2 rfl
 simp (disch := (first | assumption | omega | (simp only [alloc_n, set_n] <;> omega) | (simp (disch := (first | assumption | omega | (simp only [alloc_n, set_n] <;> omega))) only [row_alloc, row_set]; assumption))) only [W_block, ANs, A3s, AOp.map, ↓reduceIte, Nat.reduceAdd, Nat.reduceEqDiff, reduceCtorEq, initFr, Nat.reduceLT, clsA, List.take, List.drop, Nat.reduceLeDiff, Nat.reduceMul, Nat.reduceSub, reduceIte, ANc, A3c, z78, ogh, gB5]
 refine callK (s40 (A := [_, _, _, _, _, _, _, _, _]) s8 hA.x m64 tB8 (by omega)) ?_
 rintro _ K6 ⟨rfl, s9⟩
 have gE6 : K6.get K5.n = some (.cells true false 78 (GC (hearR x (sendR l a).1).1 (.slice none 0 0)) 41) := s9.get 0 rfl
 have lE6 := AHeap.get_lt gE6
 have s10 := s9.box (.cells true false 78 (GC (hearR x (sendR l a).1).1 (.slice none 0 0)) 38)
 simp (disch := (first | assumption | omega | (simp only [alloc_n, set_n] <;> omega) | (simp (disch := (first | assumption | omega | (simp only [alloc_n, set_n] <;> omega))) only [row_alloc, row_set]; assumption))) only [W_block, ANs, A3s, AOp.map, ↓reduceIte, Nat.reduceAdd, Nat.reduceEqDiff, reduceCtorEq, initFr, Nat.reduceLT, clsA, List.take, List.drop, Nat.reduceLeDiff, Nat.reduceMul, Nat.reduceSub, reduceIte, ANc, A3c, z78, ogh, gE6]
 refine callK (t12g hm (tbn _) (by rw [e2]; simp)) ?_
 rintro _ K7 ⟨k7, w7, rfl, tw7, _⟩
 have n7 := k7.n
 simp only [alloc_n] at n7
 simp (disch := (first | assumption | omega | (simp only [alloc_n, set_n] <;> omega) | (simp (disch := (first | assumption | omega | (simp only [alloc_n, set_n] <;> omega))) only [row_alloc, row_set, Keeps.row k7]; assumption))) only [Keeps.get k7, Keeps.row k7, W_block, ANs, A3s, AOp.map, ↓reduceIte, Nat.reduceAdd, Nat.reduceEqDiff, reduceCtorEq, initFr, Nat.reduceLT, clsA, List.take, List.drop, Nat.reduceLeDiff, Nat.reduceMul, Nat.reduceSub, reduceIte, ANc, A3c]
 refine callK (t13g hm tw7 (tbn _) (by rw [e2]; simp)) ?_
 rintro _ K8 ⟨rfl, k8⟩
 have s11 := (s10.keeps k7).keeps k8
 have gE8 : K8.get K5.n = some (.cells true false 78 (GC (hearR x (sendR l a).1).1 (.slice none 0 0)) 41) := s11.get 1 rfl
 simp (disch := (first | assumption | omega | (simp only [alloc_n, set_n] <;> omega) | (simp (disch := (first | assumption | omega | (simp only [alloc_n, set_n] <;> omega))) only [row_alloc, row_set]; assumption))) only [W_block, ANs, A3s, AOp.map, ↓reduceIte, Nat.reduceAdd, Nat.reduceEqDiff, reduceCtorEq, initFr, Nat.reduceLT, clsA, List.take, List.drop, Nat.reduceLeDiff, Nat.reduceMul, Nat.reduceSub, reduceIte, ANc, A3c, a_eqb, beq_self_eq_true, gE8]
 refine callK (s19 (A := [_, _, _, _, _, _, _]) s11 hA.k hm (tbn _) (by rw [e2]; simp)) ?_
 rintro _ K9 ⟨rfl, s12⟩
 have gF9 : K9.get K6.n = some (.cells true false 78 (GC (hearR x (sendR l a).1).1 (.slice none 0 0)) 38) := s12.get 0 rfl
 have gF8 : K8.get K6.n = some (.cells true false 78 (GC (hearR x (sendR l a).1).1 (.slice none 0 0)) 38) := s11.get 0 rfl
 have lF8 := AHeap.get_lt gF8
 simp (disch := (first | assumption | omega | (simp only [alloc_n, set_n] <;> omega) | (simp (disch := (first | assumption | omega | (simp only [alloc_n, set_n] <;> omega))) only [row_alloc, row_set]; assumption))) only [W_block, ANs, A3s, AOp.map, ↓reduceIte, Nat.reduceAdd, Nat.reduceEqDiff, reduceCtorEq, initFr, Nat.reduceLT, clsA, List.take, List.drop, Nat.reduceLeDiff, Nat.reduceMul, Nat.reduceSub, reduceIte, ANc, A3c, gF9, gF8]
 refine callK (s39 (A := [_, _, _, _, _, _, _, _, _]) s12 hA.k hm (tbn _) (by rw [e2]; simp)) ?_
 rintro _ K10 ⟨rfl, s13⟩
 have gA10 : K10.get K1.n = some (.cells true false 78 (GC (sendR l a).1 w1) 41) := s13.get 4 rfl
 have := spoil K10 _ _ _ _ _ _ s13.tail.tail.tail.tail.tail ⟨hA.k.hear _, hA.x.hear m64⟩ gA10 [ptr s 0, ptr r 0, ptr sf 0, ptr rf 0, .agg (CC c).toArray, ptr H.n 0, .bool false, undef, undef, undef, undef, undef, undef, ptr K1.n 0, .bool true, ptr K2.n 0, .bool true, ptr K5.n 0, .bool (hearR x (sendR l a).1).2.1, .int .i64 (hearR x (sendR l a).1).2.2.1, ptr K6.n 0, .bool (hearR x (sendR l a).1).2.1, .int .i64 (hearR x (sendR l a).1).2.2.1, .int .u8 ((c.k % 8 : Nat) : Int), .bool false, .bool false, .bool false, .bool false, .bool false, .bool true, .bool false] rfl rfl
 simp (disch := (first | assumption | omega | (simp only [alloc_n, set_n] <;> omega) | (simp (disch := (first | assumption | omega | (simp only [alloc_n, set_n] <;> omega))) only [row_alloc, row_set]; assumption))) only [W_block, ANs, A3s, AOp.map, ↓reduceIte, Nat.reduceAdd, Nat.reduceEqDiff, reduceCtorEq, initFr, Nat.reduceLT, clsA, List.take, List.drop, Nat.reduceLeDiff, Nat.reduceMul, Nat.reduceSub, reduceIte, ANc, A3c] at this
 simp (disch := (first | assumption | omega | (simp only [alloc_n, set_n] <;> omega) | (simp (disch := (first | assumption | omega | (simp only [alloc_n, set_n] <;> omega))) only [row_alloc, row_set]; assumption))) only [W_block, ANs, A3s, AOp.map, ↓reduceIte, Nat.reduceAdd, Nat.reduceEqDiff, reduceCtorEq, initFr, Nat.reduceLT, clsA, List.take, List.drop, Nat.reduceLeDiff, Nat.reduceMul, Nat.reduceSub, reduceIte, ANc, A3c]
 exact this
end Go.AM.Rp

set_option maxRecDepth 100000
set_option maxHeartbeats 0
namespace Go.AM.R8
def Z68 : List Value := [(.int .u64 0), (.int .u64 0), (.int .u64 0)] ++ List.replicate 64 (.int .u8 0) ++ [(.int .u32 0)]
def Z70 : List Value := [(.int .i64 0), (.int .i64 0), (.int .u64 0), (.int .u64 0), (.int .u64 0)] ++ List.replicate 64 (.int .u8 0) ++ [(.int .u32 0)]
def Z78 : List Value := [(.int .u8 0), (.int .i64 0), (.int .i64 0), (.int .i64 0), (.int .i64 0), (.int .u64 0), (.int .u64 0), (.int .u64 0)] ++ List.replicate 64 (.int .u8 0) ++ [(.int .u32 0), (.int .u64 0), (.int .u64 0), (.int .u64 0), (.int .u32 0), (.slice none 0 0)]
def zclRpW8 : TypeId → List Value
 | 48 => [(.slice none 0 0), (.int .i64 0)]
 | 51 => [(.pointer none)]
 | 26 => Z68
 | 54 => Z70
 | 41 => Z78
 | _ => []
def zvlRpW8 : TypeId → Value
 | _ => undef
def zklRpW8 : TypeId → List Nat
 | _ => []
def zrlRpW8 : Nat → TypeId → List Value
 | _, _ => []
noncomputable def f8 : AFunc := by
 refine (fun (_ : Cz zclRpW8 zvlRpW8 zklRpW8 zrlRpW8 Go.Proofs.Try.prog 0 [0, 1, 2, 3, 4, 5, 6, 7, 8, 9, 10, 11, 13, 14, 15, 16] 8 ?a) => ?a) ?h
 case h => intro zc zv zk zr hc hv hk hr; conv => lhs; cbv; try simp only [hc, hv, hk, hr, zclRpW8, zvlRpW8, zklRpW8, zrlRpW8]
theorem f8_ok : compF Go.Proofs.Try.prog 0 [0, 1, 2, 3, 4, 5, 6, 7, 8, 9, 10, 11, 13, 14, 15, 16] 8 = some f8 := by kernel_rfl
theorem f8_n : argsOK Go.Proofs.Try.prog 8 0 = true := by kernel_rfl
end Go.AM.R8

namespace Go.AM
def AO.unown : AO → AO
 | .dead => .dead
 | .cells _ room esz c e => .cells false room esz c e
 | .obj _ o => .obj false o
 | .loop _ st pe L => .loop false st pe L
def AHeap.unown (H : AHeap) : AHeap := ⟨H.n, H.l.map AO.unown⟩
theorem AHeap.unown_n (H : AHeap) : H.unown.n = H.n := _root_.id rfl
theorem AHeap.unown_get (H : AHeap) (b : Nat) : H.unown.get b = (H.get b).map AO.unown := by
 unfold AHeap.get AHeap.unown
 split <;> simp
theorem AO.unown_own (o : AO) : o.unown.own = false := by cases o <;> rfl
theorem AHeap.unown_no (H : AHeap) : NoOwn H.unown := fun b o h => by
 rw [AHeap.unown_get] at h
 cases hb : H.get b with
 | none => rw [hb] at h; cases h
 | some x => rw [hb] at h; cases h; exact AO.unown_own x
theorem OR.unown {σ : Sg} {w : World} {i : BI} {o : AO} (h : OR σ w i o) : OR σ w i o.unown := by
 cases o with
 | dead => trivial
 | cells own room esz c e =>
  obtain ⟨a1, a2, a3, a4, a5, c', fr, a6, a7, a8, a9⟩ := h
  exact ⟨a1, a2, a3, a4, a5, c', fr, a6, a7, a8, fun h => by cases h⟩
 | obj own o => exact h
 | loop own st pe L => exact h
theorem HR.unown {ng : Nat} {σ : Sg} {H : AHeap} {w : World} (h : HR ng σ H.get w) : HR ng σ H.unown.get w := by
 refine ⟨fun b i hb => ?_, fun b1 b2 i1 i2 o1 o2 _ _ _ g1 _ hw => ?_, h.lt, h.glob⟩
 ·obtain ⟨o, h1, h2⟩ := h.obj b i hb
  exact ⟨o.unown, by rw [AHeap.unown_get, h1]; rfl, h2.unown⟩
 ·rw [H.unown_no b1 o1 g1] at hw; cases hw
def over (H H' : AHeap) : AHeap := ⟨H'.n, (List.range (H'.n - H.n)).map (fun i => (H'.l[i]?).getD .dead) ++ H.l⟩
theorem over_old {H H' : AHeap} (hn : H.n ≤ H'.n) {b : Nat} (hb : b < H.n) : (over H H').get b = H.get b := by
 unfold AHeap.get over
 simp only
 rw [if_pos (by omega), if_pos hb, List.getElem?_append_right (by simp; omega)]
 simp only [List.length_map, List.length_range]
 rw [show H'.n - 1 - b - (H'.n - H.n) = H.n - 1 - b by omega]
theorem over_new {H H' : AHeap} {b : Nat} (hb : H.n ≤ b) (hb2 : b < H'.n) {o : AO} (h : H'.get b = some o) : (over H H').get b = some o := by
 unfold AHeap.get over at *
 simp only
 rw [if_pos hb2] at h ⊢
 rw [List.getElem?_append_left (by simp; omega)]
 simp only [List.getElem?_map]
 rw [List.getElem?_range (by omega)]
 simp [h]
theorem over_keeps {H H' : AHeap} (hn : H.n ≤ H'.n) : Keeps H (over H H') := ⟨hn, fun b hb => over_old hn hb⟩
variable {P : Program} {ng : Nat} {f : FuncId} {args : List Value} {H H' : AHeap} {v : Value}
theorem ARun.over (h : ARun P ng f args H.unown v H') : ARun P ng f args H v (AM.over H H') ∧ Keeps H (AM.over H H') := by
 obtain ⟨h0, h1, h2⟩ := h
 rw [AHeap.unown_n] at h1
 refine ⟨⟨h0, h1, fun σ w args' hr ha => ?_⟩, over_keeps h1⟩
 refine (h2 σ w args' hr.unown ha).mono ?_
 rintro e w' ⟨v', σ', rfl, k1, k2, k3⟩
 have hk : ∀ k, k < w.heap.size → w'.heap[k]? = w.heap[k]? := fun k hk => k2.keep k hk (fun b i o hb ho hw => by rw [H.unown_no b o ho] at hw; cases hw)
 have old : ∀ b i, σ b = some i → b < H.n := fun b i hb => by
  obtain ⟨o, g, _⟩ := hr.obj b i hb
  exact AHeap.get_lt g
 have back : ∀ b i, b < H.n → σ' b = some i → σ b = some i := fun b i hb hs => by
  cases hsb : σ b with
  | none =>
   have := (k2.new b i hsb hs).1.1
   rw [AHeap.unown_n] at this; omega
  | some j => have := k2.sub b j hsb; rw [hs] at this; exact this.symm
 have fresh : ∀ b i, H.n ≤ b → σ' b = some i → w.heap.size ≤ i.c := fun b i hb hs => by
  have hsb : σ b = none := by
   cases hsb : σ b with
   | none => rfl
   | some j => have := old b j hsb; omega
  rcases (k2.new b i hsb hs).2 with h | ⟨b0, i0, o0, _, e2, e3, _⟩
  ·exact h
  ·rw [H.unown_no b0 o0 e2] at e3; cases e3
 have obj : ∀ b i, σ' b = some i → (b < H.n ∧ σ b = some i ∧ i.c < w.heap.size) ∨ (H.n ≤ b ∧ w.heap.size ≤ i.c ∧ ∃ o, H'.get b = some o ∧ (AM.over H H').get b = some o ∧ OR σ' w' i o) := fun b i hs => by
  by_cases hb : b < H.n
  ·have := back b i hb hs
   exact .inl ⟨hb, this, hr.lt b i this⟩
  ·obtain ⟨o, g1, g2⟩ := k1.obj b i hs
   exact .inr ⟨by omega, fresh b i (by omega) hs, o, g1, over_new (by omega) (AHeap.get_lt g1) g1, g2⟩
 refine ⟨v', σ', rfl, ⟨?_, ?_, k1.lt, k1.glob⟩, ⟨k2.sub, ?_, ?_, ?_, ?_, k2.size, h1, k2.os, k2.tape, k2.output⟩, k3⟩
 ·intro b i hs
  rcases obj b i hs with ⟨hb, hs0, _⟩ | ⟨_, _, o, _, g2, g3⟩
  ·obtain ⟨o, g1, g2⟩ := hr.obj b i hs0
   exact ⟨o, by rw [over_old h1 hb]; exact g1, (g2.congr (fun _ => hk _ (hr.lt b i hs0))).mono k2.sub⟩
  ·exact ⟨o, g2, g3⟩
 ·intro b1 b2 i1 i2 o1 o2 hne s1 s2 g1 g2 hw hl
  rcases obj b1 i1 s1 with ⟨hb1, t1, l1⟩ | ⟨hb1, l1, p1, q1, q2, q3⟩
  ·rcases obj b2 i2 s2 with ⟨hb2, t2, l2⟩ | ⟨hb2, l2, p2, r1, r2, r3⟩
   ·rw [over_old h1 hb1] at g1
    rw [over_old h1 hb2] at g2
    exact hr.inj b1 b2 i1 i2 o1 o2 hne t1 t2 g1 g2 hw hl
   ·omega
  ·rcases obj b2 i2 s2 with ⟨hb2, t2, l2⟩ | ⟨hb2, l2, p2, r1, r2, r3⟩
   ·omega
   ·rw [q2] at g1; cases g1
    rw [r2] at g2; cases g2
    exact k1.inj b1 b2 i1 i2 _ _ hne s1 s2 q1 r1 hw hl
 ·intro b i hb hs
  have := k2.new b i hb hs
  rw [AHeap.unown_n] at this
  rcases obj b i hs with ⟨_, hs0, _⟩ | ⟨_, l, _⟩
  ·rw [hb] at hs0; cases hs0
  ·exact ⟨this.1, .inl l⟩
 ·intro b i o' hb ho hw
  obtain ⟨o, g1, _⟩ := hr.obj b i hb
  rw [over_old h1 (old b i hb), g1] at ho
  cases ho
  exact ⟨_, g1, hw⟩
 ·intro b i o' hb ho hw
  obtain ⟨o, g1, _⟩ := hr.obj b i hb
  rw [over_old h1 (old b i hb), g1] at ho
  cases ho
  exact ⟨_, g1, hw⟩
 ·intro k hlt _
  exact hk k hlt
theorem ARun.pure (h : ARun P ng f args H.unown v H') (hv : plain1 v = true) : ARun P ng f args H v H := by
 obtain ⟨h1, h2⟩ := h.over
 exact h1.gc0 h2 (.inr (NV.plain hv))
end Go.AM

namespace Go.AM.Rp
open Nat (reduceAdd reduceEqDiff reduceLT reduceLeDiff reduceMul reduceSub)
open Go.Proofs
def thG (b n e : Nat) (c : List Value) : Th where
 P H := H.get b = some (.cells true false n c e)
 F := [b]
 lt H h x hx := by simp at hx; subst hx; exact AHeap.get_lt h
 st H H' h _ k := by rw [k b (by simp)]; exact h
def sA (n : Nat) : S := ⟨n, 0, 0, List.replicate 64 0, 0⟩
def x1 : Lg := ⟨1, 5, sA 3⟩
def x2 : Lg := ⟨1, 6, sA 7⟩
def M1 : Msg := (sendR [x1] 0).1
def M2 : Msg := (sendR [x1, x2] 1).1
def A1 : Msg := (hearR none M1).1
def A2 : Msg := (hearR (some x1) M2).1
theorem w_fS (n : Nat) : fillA R8.Z68 [(0, 1, .int .u64 (n : Nat))] = some (SC (sA n)) := rfl
theorem w_fL (e c : Int) (n : Nat) : fillA R8.Z70 [(0, 1, .int .i64 e), (1, 1, .int .i64 c), (2, 68, .agg (SC (sA n)).toArray)] = some (LC ⟨e, c, sA n⟩) := fl70s e c (s := sA n) rfl
theorem o1 : offerR [] 0 x1 = (0, [x1], 0) := by kernel_rfl
theorem e1 : (sendR [x1] 0).2 = true := by kernel_rfl
theorem h1 : hearR none M1 = (A1, true, 0, some x1) := by kernel_rfl
theorem gh1 : hearS [x1] 0 A1 = (0, 1) := by kernel_rfl
theorem o2 : offerR [x1] 1 x2 = (0, [x1, x2], 1) := by kernel_rfl
theorem e2 : (sendR [x1, x2] 1).2 = true := by kernel_rfl
theorem h2 : hearR (some x1) M2 = (A2, true, 0, some x2) := by kernel_rfl
theorem m1k : M1.k = 1 ∧ M1.d.l = [] ∧ M1.s.t.length = 64 := ⟨rfl, rfl, rfl⟩
theorem a1k : A1.k = 3 ∧ A1.d.l = [] ∧ A1.s.t.length = 64 := by
 have : A1 = ackM x1 := by kernel_rfl
 rw [this]; exact ⟨rfl, rfl, rfl⟩
theorem m2k : M2.k = 2 ∧ M2.b = 5 ∧ M2.d.a = 4 ∧ M2.d.l = [] ∧ M2.s.t.length = 64 := ⟨rfl, rfl, by kernel_rfl, by kernel_rfl, rfl⟩
set_option maxHeartbeats 2000000 in
theorem works_w (H : AHeap) : ∃ v H', ARun Try.prog 0 8 [] H v H' ∧ v = .bool true := by
 refine walk2 R8.f8_ok R8.f8_n ?_
 intro Q hq1 hq2
 have z78 : R8.Z78.all Value.oneCell' = true := rfl
 have z70 : R8.Z70.all Value.oneCell' = true := rfl
 have l78 : R8.Z78.length = 78 := rfl
 have l70 : R8.Z70.length = 70 := rfl
 have lk0 : LOK [] 0 := ⟨by intro i j h; simp at h, by simp, by simp⟩
 simp (disch := first | assumption | omega) only [R8.f8, W_block, P3, seval, initFr, clsA]
 have s0 := (Sep.nil H).add (t := thS H.n (.slice none 0 0) [] 0) ((Keeps.refl _).alloc (.cells true false 2 [.slice none 0 0, .int .i64 0] 48)) ⟨AHeap.get_alloc_new _ _, .inl ⟨rfl, rfl⟩, by simp [blk], by intro x hx; cases hx⟩ (by simp [thS, blkL, blk])
 have s1 := s0.add (t := thR (H.n + 1) (.pointer none) none) ((Keeps.refl _).alloc (.cells true false 1 [.pointer none] 51)) ⟨AHeap.get_alloc_new _ _, rfl⟩ (by simp [thR, blkL, blk, alloc_n])
 generalize (H.alloc (.cells true false 2 [.slice none 0 0, .int .i64 0] 48)).alloc (.cells true false 1 [.pointer none] 51) = K0 at s1 ⊢
 generalize H.n = s at s1 ⊢
 have f3 : fillA R8.Z68 [(0, 1, .int .u64 3)] = some (SC (sA 3)) := w_fS 3
 have f7 : fillA R8.Z68 [(0, 1, .int .u64 7)] = some (SC (sA 7)) := w_fS 7
 have c1 : fillA R8.Z70 [(0, 1, .int .i64 1), (1, 1, .int .i64 5), (2, 68, .agg (SC (sA 3)).toArray)] = some (LC x1) := w_fL 1 5 3
 have c2 : fillA R8.Z70 [(0, 1, .int .i64 1), (1, 1, .int .i64 6), (2, 68, .agg (SC (sA 7)).toArray)] = some (LC x2) := w_fL 1 6 7
 simp (disch := first | assumption | omega) only [W_block, P3, seval, initFr, clsA, f3, c1]
 refine callK (s15 (A := [thR (s + 1) (.pointer none) none]) (B := []) (y := x1) s1 lk0 rfl) ?_
 rintro _ K1 ⟨rfl, u1, S1⟩
 rw [o1] at S1 ⊢
 have S1 : Sep K1 [thR (s + 1) (.pointer none) none, thS s u1 [x1] 0] := S1
 have lk1 : LOK [x1] 0 := by have := lk0.offer x1; rw [o1] at this; exact this
 simp (disch := first | assumption | omega) only [W_block, P3, seval, initFr, clsA]
 refine callK (t16 (SdV.s (Sep.at_ (A := [thR (s + 1) (.pointer none) none]) S1)) (by simp) (by simp)) ?_
 rintro _ K2 ⟨k2, w, rfl, tw, fw⟩
 rw [e1, show (sendR [x1] 0).1 = M1 from rfl] at *
 have lG1 : (GC M1 w).length = 78 := GC_len m1k.2.2 w
 have oG1 := GC_one M1 tw.one
 simp (disch := first | assumption | omega) only [W_block, P3, seval, initFr, clsA, z78, l78, lG1, oG1]
 have S2 := (S1.keeps k2).add (t := thG K2.n 78 41 (GC M1 w)) ((Keeps.refl K2).alloc (.cells true false 78 (GC M1 w) 41)) (AHeap.get_alloc_new _ _) (by simp [thG])
 have tw2 : TB (K2.alloc (.cells true false 78 (GC M1 w) 41)) w M1.d.l := tw.keeps ((Keeps.refl K2).alloc _)
 generalize hb4 : K2.n = b4 at S2 ⊢
 generalize K2.alloc (.cells true false 78 (GC M1 w) 41) = K3 at S2 tw2 ⊢
 have g4 : K3.get b4 = some (.cells true false 78 (GC M1 w) 41) := S2.get 0 rfl
 refine callK (s17 (A := [thG b4 78 41 (GC M1 w)]) (B := [thS s u1 [x1] 0]) S2 (by intro y hy; cases hy) m1k.2.2 tw2 (by rw [m1k.2.1]; simp)) ?_
 rintro _ K4 ⟨rfl, p1, S4⟩
 rw [h1] at S4 ⊢
 have S4 : Sep K4 [thG b4 78 41 (GC M1 w), thR (s + 1) p1 (some x1), thS s u1 [x1] 0] := S4
 have lA1 : (GC A1 (.slice none 0 0)).length = 78 := GC_len a1k.2.2 _
 have oA1 := GC_one A1 (v := .slice none 0 0) rfl
 simp (disch := first | assumption | omega) only [W_block, P3, seval, initFr, clsA, z78, l78, lA1, oA1]
 have S5 := S4.add (t := thG K4.n 78 41 (GC A1 (.slice none 0 0))) ((Keeps.refl K4).alloc (.cells true false 78 (GC A1 (.slice none 0 0)) 41)) (AHeap.get_alloc_new _ _) (by simp [thG])
 generalize hb6 : K4.n = b6 at S5 ⊢
 generalize K4.alloc (.cells true false 78 (GC A1 (.slice none 0 0)) 41) = K5 at S5 ⊢
 have g6 : K5.get b6 = some (.cells true false 78 (GC A1 (.slice none 0 0)) 41) := S5.get 0 rfl
 have tn : ∀ K : AHeap, TB K (.slice none 0 0) A1.d.l := fun K => by rw [a1k.2.1]; exact ⟨none, 0, rfl, fun h => absurd rfl h⟩
 refine callK (s19 (A := [thG b6 78 41 (GC A1 (.slice none 0 0)), thG b4 78 41 (GC M1 w), thR (s + 1) p1 (some x1)]) (B := []) S5 lk1 a1k.2.2 (tn K5) (by rw [a1k.2.1]; simp)) ?_
 rintro _ K6 ⟨rfl, S6⟩
 rw [gh1] at S6 ⊢
 have S6 : Sep K6 [thG b6 78 41 (GC A1 (.slice none 0 0)), thG b4 78 41 (GC M1 w), thR (s + 1) p1 (some x1), thS s u1 [x1] 1] := S6
 have lk2 : LOK [x1] 1 := ⟨lk1.r, by simp, by simp⟩
 simp (disch := first | assumption | omega) only [W_block, P3, seval, initFr, clsA, f7, c2]
 refine callK (s15 (A := [thG b6 78 41 (GC A1 (.slice none 0 0)), thG b4 78 41 (GC M1 w), thR (s + 1) p1 (some x1)]) (B := []) (y := x2) S6 lk2 rfl) ?_
 rintro _ K7 ⟨rfl, u2, S7⟩
 rw [o2] at S7 ⊢
 have S7 : Sep K7 [thG b6 78 41 (GC A1 (.slice none 0 0)), thG b4 78 41 (GC M1 w), thR (s + 1) p1 (some x1), thS s u2 [x1, x2] 1] := S7
 simp (disch := first | assumption | omega) only [W_block, P3, seval, initFr, clsA]
 refine callK (t16 (SdV.s (Sep.at_ (A := [thG b6 78 41 (GC A1 (.slice none 0 0)), thG b4 78 41 (GC M1 w), thR (s + 1) p1 (some x1)]) S7)) (by simp) (by simp)) ?_
 rintro _ K8 ⟨k8, w2, rfl, tw2', fw2⟩
 rw [e2, show (sendR [x1, x2] 1).1 = M2 from rfl] at *
 have lG2 : (GC M2 w2).length = 78 := GC_len m2k.2.2.2.2 w2
 have oG2 := GC_one M2 tw2'.one
 simp (disch := first | assumption | omega) only [W_block, P3, seval, initFr, clsA, z78, l78, lG2, oG2]
 have S9 := (S7.keeps k8).add (t := thG K8.n 78 41 (GC M2 w2)) ((Keeps.refl K8).alloc (.cells true false 78 (GC M2 w2) 41)) (AHeap.get_alloc_new _ _) (by simp [thG])
 have tw9 : TB (K8.alloc (.cells true false 78 (GC M2 w2) 41)) w2 M2.d.l := tw2'.keeps ((Keeps.refl K8).alloc _)
 generalize hb10 : K8.n = b10 at S9 ⊢
 generalize K8.alloc (.cells true false 78 (GC M2 w2) 41) = K9 at S9 tw9 ⊢
 have g10 : K9.get b10 = some (.cells true false 78 (GC M2 w2) 41) := S9.get 0 rfl
 refine callK (s17 (A := [thG b10 78 41 (GC M2 w2), thG b6 78 41 (GC A1 (.slice none 0 0)), thG b4 78 41 (GC M1 w)]) (B := [thS s u2 [x1, x2] 1]) S9 (by intro y hy; cases hy; rfl) m2k.2.2.2.2 tw9 (by rw [m2k.2.2.2.1]; simp)) ?_
 rintro _ K10 ⟨rfl, p2, S10⟩
 rw [h2] at S10 ⊢
 have S10 : Sep K10 [thG b10 78 41 (GC M2 w2), thG b6 78 41 (GC A1 (.slice none 0 0)), thG b4 78 41 (GC M1 w), thR (s + 1) p2 (some x2), thS s u2 [x1, x2] 1] := S10
 have lA2 : (GC A2 (.slice none 0 0)).length = 78 := GC_len (by rfl) _
 have oA2 := GC_one A2 (v := .slice none 0 0) rfl
 simp (disch := first | assumption | omega) only [W_block, P3, seval, initFr, clsA, z78, l78, lA2, oA2]
 have S11 := S10.keeps ((Keeps.refl K10).alloc (.cells true false 78 (GC A2 (.slice none 0 0)) 41))
 generalize K10.alloc (.cells true false 78 (GC A2 (.slice none 0 0)) 41) = K11 at S11 ⊢
 have R11 : RvV K11 (s + 1) p2 (some x2) := S11.get 3 rfl
 refine callK (t20 R11.s (by intro y hy; cases hy; rfl)) ?_
 rintro _ K12 ⟨rfl, k12⟩
 rw [show (some x2).getD L0 = x2 from rfl, show (some x2).isSome = true from rfl]
 have S11' := S11.keeps k12
 have d10 : K12.get b10 = some (.cells true false 78 (GC M2 w2) 41) := S11'.get 0 rfl
 have d6 : K12.get b6 = some (.cells true false 78 (GC A1 (.slice none 0 0)) 41) := S11'.get 1 rfl
 have d4 : K12.get b4 = some (.cells true false 78 (GC M1 w) 41) := S11'.get 2 rfl
 have l10 := AHeap.get_lt d10
 have l6 := AHeap.get_lt d6
 have l4 := AHeap.get_lt d4
 have lX : (LC x2).length = 70 := rfl
 have oX := LC_one x2
 have i1 : (GC M1 w)[0]? = some (.int .u8 1) := by rw [GC_0, m1k.1]; rfl
 have i2 : (GC A1 (.slice none 0 0))[0]? = some (.int .u8 3) := by rw [GC_0, a1k.1]; rfl
 have i3 : (GC M2 w2)[0]? = some (.int .u8 2) := by rw [GC_0, m2k.1]; rfl
 have i4 : (GC M2 w2)[73]? = some (.int .u64 4) := by rw [GC_73 m2k.2.2.2.2, m2k.2.2.1]; rfl
 have i5 : (GC M2 w2)[4]? = some (.int .i64 5) := by rw [GC_4, m2k.2.1]
 have i6 : (LC x2)[1]? = some (.int .i64 6) := rfl
 have i7 : (LC x2)[2]? = some (.int .u64 7) := rfl
 simp (disch := first | assumption | omega) only [W_block, P3, seval, initFr, clsA, z70, l70, lX, oX, d10, d6, d4, i1, i2, i3, i4, i5, i6, i7]
 exact hq2 _ _ ⟨_, rfl, rfl⟩
theorem works_anyw (H : AHeap) : ARun Try.prog 0 8 [] H (.bool true) H := by
 obtain ⟨v, H', r, rfl⟩ := works_w H.unown
 exact r.pure rfl
end Go.AM.Rp

namespace Go.AM.Rp
open Nat (reduceAdd reduceEqDiff reduceLT reduceLeDiff reduceMul reduceSub)
open Go.Proofs
theorem works_any (H : AHeap) : ARun Try.prog 0 8 [] H (.bool true) H := works_anyw H
theorem t3 {H : AHeap} {s t : S} {d : D} {v : Value} (hs : SOK s) (ht : SOK t) (h : TB H v d.l) : ∃ r H', ARun Try.prog 0 3 [.agg (SC s).toArray, .agg (SC t).toArray, .agg (D5 d.a d.b d.c d.p v).toArray] H r H' ∧ r = .bool true := by
 refine walk2 f3_ok f3_n ?_
 intro Q hq1 hq2
 have hc1 : (Value.agg (SC s).toArray).cells.toList = SC s := by simp [Value.cells]
 have hc2 : (Value.agg (SC t).toArray).cells.toList = SC t := by simp [Value.cells]
 have hc3 : (Value.agg (D5 d.a d.b d.c d.p v).toArray).cells.toList = D5 d.a d.b d.c d.p v := by simp [Value.cells]
 obtain ⟨Ha, hHa⟩ : ∃ X, X = H.alloc (.cells true false 68 (SC s) 26) := ⟨_, rfl⟩
 have ka := (Keeps.refl H).alloc (.cells true false 68 (SC s) 26)
 have ga := AHeap.get_alloc_new H (.cells true false 68 (SC s) 26)
 rw [← hHa] at ka ga
 obtain ⟨Hb, hHb⟩ : ∃ X, X = Ha.alloc (.cells true false 68 (SC t) 26) := ⟨_, rfl⟩
 have kb := (Keeps.refl Ha).alloc (.cells true false 68 (SC t) 26)
 have gb := AHeap.get_alloc_new Ha (.cells true false 68 (SC t) 26)
 rw [← hHb] at kb gb
 obtain ⟨Hc, hHc⟩ : ∃ X, X = Hb.alloc (.cells true false 5 (D5 d.a d.b d.c d.p v) 29) := ⟨_, rfl⟩
 have kc := (Keeps.refl Hb).alloc (.cells true false 5 (D5 d.a d.b d.c d.p v) 29)
 have gc := AHeap.get_alloc_new Hb (.cells true false 5 (D5 d.a d.b d.c d.p v) 29)
 rw [← hHc] at kc gc
 have ga := kc.at_ (kb.at_ ga)
 have gb := kc.at_ gb
 have kAll := (ka.trans kb).trans kc
 have c4 : cellA Hc Hb.n 4 = some v := by rw [cellA_of gc]; rfl
 have hlen : ∀ X, asem (.len false v) X = some (.int .i64 d.l.length, X) := by obtain ⟨a, k, hv, _⟩ := h; intro X; rw [hv]; rfl
 simp only [f3, W_block, ANs, AOp.map, seval, initFr, ANc, hc1, hc2, hc3, SC_one, D5_one _ _ _ _ h.one, ← hHa, ← hHb, ← hHc, c4, hlen]
 by_cases hl : (200 : Int) < (d.l.length : Int)
 ·simp only [W_block, ANs, AOp.map, seval, initFr, ANc, hl, decide_true]
  refine ⟨_, _, works_any _, ?_⟩
  simp only [W_block, ANs, AOp.map, seval, initFr, ANc]
  exact hq2 _ _ ⟨_, rfl, rfl⟩
 have ls := SC_len hs.ht
 have lt := SC_len ht.ht
 simp only [W_block, ANs, AOp.map, seval, initFr, ANc, hl, decide_false, full ga ls, full gb lt]
 obtain ⟨_, H1, r1, k1, w, rfl, tw, _⟩ := t9 (H := Hc) (s := s) (t := t) hs.ht ht.ht
 refine ⟨_, _, r1, ?_⟩
 -- what Diff told
 have v5 := var5 H1 (xr 64 s.a t.a) (xr 64 s.b t.b) (xr 64 s.c t.c) (xr 32 s.p t.p) tw.one
 obtain ⟨H2, hH2⟩ : ∃ X, X = H1.alloc (.cells true false 5 (D5 (xr 64 s.a t.a) (xr 64 s.b t.b) (xr 64 s.c t.c) (xr 32 s.p t.p) w) 29) := ⟨_, rfl⟩
 have k2 := (Keeps.refl H1).alloc (.cells true false 5 (D5 (xr 64 s.a t.a) (xr 64 s.b t.b) (xr 64 s.c t.c) (xr 32 s.p t.p) w) 29)
 have g2 := AHeap.get_alloc_new H1 (.cells true false 5 (D5 (xr 64 s.a t.a) (xr 64 s.b t.b) (xr 64 s.c t.c) (xr 32 s.p t.p) w) 29)
 rw [← hH2] at k2 g2 v5
 have k12 := k1.trans k2
 have ga2 := k12.at_ ga
 have gb2 := k12.at_ gb
 have gc2 := k12.at_ gc
 have tw2 := tw.keeps k2
 simp only [W_block, ANs, AOp.map, seval, initFr, ANc, v5, full ga2 ls, full g2 (show (D5 (xr 64 s.a t.a) (xr 64 s.b t.b) (xr 64 s.c t.c) (xr 32 s.p t.p) w).length = 5 from rfl)]
 have hdl : (diffD s t).l.length ≤ 64 := dp_le s.t t.t 64
 have hdl' : (dp s.t t.t 64).length ≤ 100000 := Nat.le_trans (dp_le s.t t.t 64) (by omega)
 obtain ⟨_, H3, r3, rfl, k3⟩ := t10 (H := H2) (s := s) (d := diffD s t) (v := w) hs.ht tw2 (by omega)
 rw [patch_diff hs.ht ht] at r3
 refine ⟨_, _, r3, ?_⟩
 have v68 := var68 H3 ht.ht
 obtain ⟨H4, hH4⟩ : ∃ X, X = H3.alloc (.cells true false 68 (SC t) 26) := ⟨_, rfl⟩
 have k4 := (Keeps.refl H3).alloc (.cells true false 68 (SC t) 26)
 have g4 := AHeap.get_alloc_new H3 (.cells true false 68 (SC t) 26)
 rw [← hH4] at k4 g4 v68
 have k34 := k3.trans k4
 have ga4 := k34.at_ ga2
 have gb4 := k34.at_ gb2
 have gc4 := k34.at_ gc2
 have g24 := k34.at_ g2
 have tw4 := tw2.keeps k34
 have h4 := h.keeps (((kAll.trans k12).trans k34))
 simp only [W_block, ANs, AOp.map, seval, initFr, ANc, z68, v68, full ga4 ls, full gc4 (show (D5 d.a d.b d.c d.p v).length = 5 from rfl)]
 obtain ⟨_, H5, r5, rfl, k5⟩ := t10 (H := H4) (s := s) (d := d) (v := v) hs.ht h4 (by omega)
 refine ⟨_, _, r5, ?_⟩
 have pl := patchR_len hs.ht d
 generalize hu : (patchR s d).2 = u at *
 generalize he : (patchR s d).1 = e at *
 have v68u := var68 H5 pl
 obtain ⟨H6, hH6⟩ : ∃ X, X = H5.alloc (.cells true false 68 (SC u) 26) := ⟨_, rfl⟩
 have k6 := (Keeps.refl H5).alloc (.cells true false 68 (SC u) 26)
 have g6 := AHeap.get_alloc_new H5 (.cells true false 68 (SC u) 26)
 rw [← hH6] at k6 g6 v68u
 have k56 := k5.trans k6
 have ga6 := k56.at_ ga4
 have gb6 := k56.at_ gb4
 have gc6 := k56.at_ gc4
 have g26 := k56.at_ g24
 have g46 := k56.at_ g4
 have tw6 := tw4.keeps k56
 have h6 := h4.keeps k56
 simp only [W_block, ANs, AOp.map, seval, initFr, ANc, z68, v68u, full ga6 ls, full gc6 (show (D5 d.a d.b d.c d.p v).length = 5 from rfl), fl78 d.a d.b d.c d.p d.l v]
 obtain ⟨_, H7, r7, k7, w', rfl, tw'⟩ := t12 (H := H6) (d := d) (v := v) h6 (by omega)
 refine ⟨_, _, r7, ?_⟩
 refine ⟨by simp [oblA, clsA, touchA, readsA, ptr, keepsB]; exact k7.get _ (AHeap.get_lt ga6), ?_⟩
 simp only [W_block, ANs, AOp.map, seval, initFr, ANc]
 obtain ⟨_, H8, r8, rfl, k8⟩ := t11 (H := H7) (s := s) (d := d) (v := w') hs.ht tw' (by omega)
 rw [hu, he] at r8
 refine ⟨_, _, r8, trivial, ?_⟩
 have v68v := var68 H8 pl
 obtain ⟨H9, hH9⟩ : ∃ X, X = H8.alloc (.cells true false 68 (SC u) 26) := ⟨_, rfl⟩
 have k9 := (Keeps.refl H8).alloc (.cells true false 68 (SC u) 26)
 have g9 := AHeap.get_alloc_new H8 (.cells true false 68 (SC u) 26)
 rw [← hH9] at k9 g9 v68v
 have k789 := (k7.trans k8).trans k9
 have ga9 := k789.at_ ga6
 have gb9 := k789.at_ gb6
 have g29 := k789.at_ g26
 have g49 := k789.at_ g46
 have g69 := k789.at_ g6
 have tw9 := tw6.keeps k789
 simp only [W_block, ANs, AOp.map, seval, initFr, ANc, z68, v68v, full g29 (show (D5 (xr 64 s.a t.a) (xr 64 s.b t.b) (xr 64 s.c t.c) (xr 32 s.p t.p) w).length = 5 from rfl), fl78 (xr 64 s.a t.a) (xr 64 s.b t.b) (xr 64 s.c t.c) (xr 32 s.p t.p) (dp s.t t.t 64) w]
 obtain ⟨_, H10, r10, k10, w2, rfl, tw2'⟩ := t12 (H := H9) (d := diffD s t) (v := w) tw9 (by omega)
 refine ⟨_, _, r10, trivial, ?_⟩
 have ga10 := k10.at_ ga9
 have gb10 := k10.at_ gb9
 have la10 := AHeap.get_lt ga9
 have lb10 := AHeap.get_lt gb9
 simp only [W_block, ANs, AOp.map, seval, initFr, ANc, fl78n, full ga10 ls, full gb10 lt]
 refine ⟨?_, ?_, ?_⟩
 ·simp [oblA, clsA, touchA, readsA, ptr, keepsB, olderB, AOp.map]; exact ⟨la10, k10.get _ la10⟩
 ·simp [oblA, clsA, touchA, readsA, ptr, keepsB, olderB, AOp.map]; exact ⟨lb10, k10.get _ lb10⟩
 obtain ⟨_, H11, r11, k11, w3, rfl, tw3⟩ := t14 (H := H10) (s := s) (t := t) hs.ht ht.ht
 refine ⟨_, _, r11, trivial, ?_⟩
 simp only [W_block, ANs, AOp.map, seval, initFr, ANc]
 obtain ⟨_, H12, r12, rfl, k12'⟩ := t13 (H := H11) (d := diffD s t) (tw2'.keeps k11) tw3 hdl'
 refine ⟨_, _, r12, trivial, ?_⟩
 have kz := (k10.trans k11).trans k12'
 have gb12 := kz.at_ gb9
 have g412 := kz.at_ g49
 have g612 := kz.at_ g69
 have g912 := kz.at_ g9
 have lu := SC_len pl
 simp only [W_block, ANs, AOp.map, seval, initFr, ANc, full gb12 lt, full g412 lt, full g612 lu, full g912 lu, sd_eqs, a_eqS ht.ht, a_eqS pl, show ((0 : Int) == 0) = true by rfl, beq_self_eq_true]
 refine ⟨_, _, works_any _, trivial, ?_⟩
 simp only [W_block, ANs, AOp.map, seval, initFr, ANc]
 exact hq2 _ _ ⟨_, rfl, rfl⟩
end Go.AM.Rp

namespace Go.AM.Rp
open Nat (reduceAdd reduceEqDiff reduceLT reduceLeDiff reduceMul reduceSub)
open Go.Proofs
theorem Z71_eq : Z71 = RC L0 false := by kernel_rfl
theorem t5 {H : AHeap} {v0 : Value} {cs : List CA} (hC : (thC v0 cs).P H) : ∃ r H', ARun Try.prog 0 5 [v0] H r H' ∧ r = .bool true := by
 refine walk2 f5_ok f5_n ?_
 intro Q hq1 hq2
 simp (disch := first | assumption | omega) only [f5, W_block, P3, seval, initFr, clsA]
 refine callK (t21 hC) ?_
 rintro _ K ⟨rfl, b, rfl, hb⟩
 cases b with
 | false =>
  simp (disch := first | assumption | omega) only [W_block, P3, seval, initFr, clsA]
  refine ⟨_, _, works_any _, ?_⟩
  simp (disch := first | assumption | omega) only [W_block, P3, seval, initFr, clsA]
  exact hq2 _ _ ⟨_, rfl, rfl⟩
 | true =>
  obtain ⟨hb1, hb2⟩ := hb rfl
  have his := hC.1.is
  have hlen := hC.1.len
  rw [List.length_map] at hlen
  have s0 : Sep K [thC v0 cs] := ⟨by simp; exact hC, by simp⟩
  have s1 := s0.add (t := thS K.n (.slice none 0 0) [] 0) ((Keeps.refl _).alloc (.cells true false 2 [.slice none 0 0, .int .i64 0] 48)) ⟨AHeap.get_alloc_new _ _, .inl ⟨rfl, rfl⟩, by simp [blk], by intro x hx; cases hx⟩ (by simp [thS, blkL, blk])
  have s2 := s1.add (t := thR (K.n + 1) (.pointer none) none) ((Keeps.refl _).alloc (.cells true false 1 [.pointer none] 51)) ⟨AHeap.get_alloc_new _ _, rfl⟩ (by simp [thR, blkL, blk, alloc_n])
  have s3 := s2.add (t := thSf (K.n + 2) (.slice none 0 0) [] 0) ((Keeps.refl _).alloc (.cells true false 2 [.slice none 0 0, .int .i64 (-1)] 99)) ⟨AHeap.get_alloc_new _ _, .inl ⟨rfl, rfl, rfl⟩, by simp [blk], by intro x hx; cases hx⟩ (by simp [thSf, blkL, blk, alloc_n])
  have s4 := s3.add (t := thRf (K.n + 3) none) ((Keeps.refl _).alloc (.cells true false 71 (RC L0 false) 74)) (AHeap.get_alloc_new _ _) (by simp [thRf, alloc_n])
  have s5 := s4.perm (us := thL K.n (K.n + 1) (K.n + 2) (K.n + 3) (.slice none 0 0) (.pointer none) (.slice none 0 0) [] 0 none v0 cs) (by
   unfold thL
   refine (List.perm_append_comm (l₁ := [thRf (K.n + 3) none, thSf (K.n + 2) (.slice none 0 0) [] 0, thR (K.n + 1) (.pointer none) none, thS K.n (.slice none 0 0) [] 0]) (l₂ := [thC v0 cs])).trans ?_
   refine (List.reverse_perm _).symm.trans ?_
   exact List.Perm.refl _)
  have one71 : (RC L0 false).all Value.oneCell' = true := by rw [← Z71_eq]; rfl
  simp (disch := first | assumption | omega) only [W_block, P3, seval, initFr, clsA]
  refine callK (t22 _) ?_
  rintro _ X ⟨rfl, rfl⟩
  simp (disch := first | assumption | omega) only [W_block, P3, seval, initFr, clsA, Z71_eq, one71]
  generalize hX : (((K.alloc (.cells true false 2 [.slice none 0 0, .int .i64 0] 48)).alloc (.cells true false 1 [.pointer none] 51)).alloc (.cells true false 2 [.slice none 0 0, .int .i64 (-1)] 99)).alloc (.cells true false 71 (RC L0 false) 74) = X at s5 ⊢
  generalize K.n = s at s5 ⊢
  refine W_loop2 (fun q fr X => ∃ (i : Nat) (u p v : Value) (l : List Lg) (a : Nat) (x : Option Lg) (y8 y9 : Value), q = cs.length - i ∧ i ≤ cs.length ∧ Sep X (thL s (s + 1) (s + 2) (s + 3) u p v l a x v0 cs) ∧ All l a x ∧
   fr = [v0, .bool false, ptr s 0, ptr (s + 1) 0, ptr (s + 2) 0, ptr (s + 3) 0, .int .i64 i, .bool false, y8, y9]) cs.length
   ⟨0, _, _, _, [], 0, none, _, _, rfl, by omega, s5, ⟨⟨by intro i j hi; simp at hi, by simp, by simp⟩, by intro y hy; cases hy⟩, rfl⟩ ?_
  rintro Q' q fr X ⟨i, u, p, v, l, a, x, y8, y9, rfl, hi, hS, hA, rfl⟩ hn he hr
  by_cases hlt : i < cs.length
  ·have hCX : (thC v0 cs).P X := hS.get 4 rfl
   obtain ⟨nn, hrow⟩ := hCX.1.at_ (by omega) (i := i) (by simpa using hlt)
   rw [List.getElem_map] at hrow
   have hmem : cs[i] ∈ cs := List.getElem_mem _
   simp (disch := first | assumption | omega) only [W_block, P3, seval, initFr, clsA, his, hlen]
   refine callK (t23 hS hA hmem (hb2 _ hmem)) ?_
   rintro _ X2 ⟨rfl, u, p, v, l, a, x, hS2, hA2⟩
   simp (disch := first | assumption | omega) only [W_block, P3, seval, initFr, clsA]
   refine callK (t24 (T := [thC v0 cs]) hS2 hA2.k hA2.x) ?_
   rintro _ X3 ⟨rfl, k3⟩
   simp (disch := first | assumption | omega) only [W_block, P3, seval, initFr, clsA, wrap_succ (n := i) (by omega)]
   exact hn _ _ _ ⟨i + 1, _, _, _, _, _, _, _, _, rfl, by omega, hS2.keeps k3, hA2, rfl⟩ (by omega)
  ·simp (disch := first | assumption | omega) only [W_block, P3, seval, initFr, clsA, his, hlen]
   refine he _ _ _ ?_
   simp (disch := first | assumption | omega) only [W_block, P3, seval, initFr, clsA]
   refine ⟨_, _, works_any _, ?_⟩
   simp (disch := first | assumption | omega) only [W_block, P3, seval, initFr, clsA]
   exact hq2 _ _ ⟨_, rfl, rfl⟩
end Go.AM.Rp

namespace Go.AM.Rg
open Go.Proofs Go.AM.F Go.AM.Fd
def toS (x : St) : Rp.S := ⟨x.a, x.b, x.c, x.t.map (fun b => (b.toNat : Int)), x.p⟩
theorem toS_c (x : St) : Rp.SC (toS x) = cSt x := by
 simp only [Rp.SC, toS, cSt, cellsOf, List.map_map]
 rfl
theorem toS_len {x : St} (h : x.t.length = 64) : (toS x).t.length = 64 := by simp [toS, h]
structure Ms where
 k : Nat
 e : Int
 c : Int
 be : Int
 b : Int
 s : St
 d : Rp.D
def M (x : Ms) : Rp.Msg := ⟨x.k, x.e, x.c, x.be, x.b, toS x.s, x.d⟩
def cM (x : Ms) (v : Value) : List Value := Rp.GC (M x) v
def i64B (n : Int) : Prop := -9223372036854775808 ≤ n ∧ n ≤ 9223372036854775807
structure rgM (x : Ms) : Prop where
 k : x.k < 256
 e : i64B x.e
 c : i64B x.c
 be : i64B x.be
 b : i64B x.b
 s : rgSt x.s
 da : x.d.a < 18446744073709551616
 db : x.d.b < 18446744073709551616
 dc : x.d.c < 18446744073709551616
 dp : x.d.p < 4294967296
 l : ∀ t ∈ x.d.l, i64B t.1 ∧ 0 ≤ t.2 ∧ t.2 < 256
def M0 : Ms := ⟨0, 0, 0, 0, 0, St0, ⟨0, 0, 0, 0, []⟩⟩
def tB (l : List (Int × Int)) : List UInt8 := l.flatMap fun x => be 1 x.1.toNat ++ be 1 x.2.toNat
theorem tB_app (l m : List (Int × Int)) : tB (l ++ m) = tB l ++ tB m := by unfold tB; rw [List.flatMap_append]
theorem tB_len : ∀ l, (tB l).length = 2 * l.length
 | [] => rfl
 | x :: l => by
  have := tB_len l
  unfold tB at *
  rw [List.flatMap_cons, List.length_append, this, List.length_append, be_length, be_length, List.length_cons]; omega
def hdM (x : Ms) : List UInt8 := be 1 x.k ++ nsB [x.e, x.c, x.be, x.b]
def dB (d : Rp.D) : List UInt8 := be 8 d.a ++ be 8 d.b ++ be 8 d.c ++ be 4 d.p ++ be 1 d.l.length ++ tB d.l
def enM (x : Ms) : List UInt8 := hdM x ++ (if x.k = 1 then fSt x.s else if x.k = 2 then dB x.d else [])
def pM (x : Ms) : List UInt8 := if Rp.mayB (M x) then enM x else []
theorem hdM_len (x : Ms) : (hdM x).length = 33 := by simp [hdM, be_length, nsB_len]
theorem fSt_len {x : St} (h : x.t.length = 64) : (fSt x).length = 97 := by simp [fSt, chk_len, enSt_len h]
theorem dB_len (d : Rp.D) : (dB d).length = 29 + 2 * d.l.length := by simp [dB, be_length, tB_len]; omega
theorem rise_len : ∀ (l : List (Int × Int)) (p : Int), -1 ≤ p → Rp.riseF p l = true → (l.length : Int) ≤ 63 - p ∨ l = []
 | [], p, _, _ => .inr rfl
 | x :: l, p, hp, h => by
  left
  simp only [Rp.riseF] at h
  split at h
  ·cases h
  ·rename_i hx
   rcases rise_len l x.1 (by simp at hx; omega) h with h1 | rfl
   ·simp only [List.length_cons]; simp at hx; omega
   ·simp at hx ⊢; omega
theorem may_inv {x : Ms} (h : Rp.mayB (M x) = true) : 1 ≤ x.k ∧ x.k ≤ 4 ∧ cyB x.e = true ∧ cyB x.c = true ∧ cyB x.be = true ∧ cyB x.b = true ∧ Rp.riseF (-1) x.d.l = true ∧ x.d.l.length ≤ 64 := by
 unfold Rp.mayB at h
 rw [Rp.inB4_eq] at h
 simp only [Bool.and_eq_true, M] at h
 obtain ⟨⟨⟨h1, h2⟩, ⟨⟨⟨h3, h4⟩, h5⟩, h6⟩⟩, h7⟩ := h
 have h1 := of_decide_eq_true h1
 have h2 := of_decide_eq_true h2
 refine ⟨h1, h2, h3, h4, h5, h6, h7, ?_⟩
 rcases rise_len x.d.l (-1) (by omega) h7 with h8 | h8
 ·omega
 ·rw [h8]; simp
section
variable (x : Ms) (v : Value)
theorem cM_0 : (cM x v)[0]? = some (.int .u8 x.k) := rfl
theorem cM_1 : (cM x v)[1]? = some (.int .i64 x.e) := rfl
theorem cM_2 : (cM x v)[2]? = some (.int .i64 x.c) := rfl
theorem cM_3 : (cM x v)[3]? = some (.int .i64 x.be) := rfl
theorem cM_4 : (cM x v)[4]? = some (.int .i64 x.b) := rfl
variable {x} (h : x.s.t.length = 64)
include h
theorem cM_len : (cM x v).length = 78 := Rp.GC_len (m := M x) (toS_len h) v
theorem cM_73 : (cM x v)[73]? = some (.int .u64 x.d.a) := Rp.GC_73 (m := M x) (toS_len h) v
theorem cM_74 : (cM x v)[74]? = some (.int .u64 x.d.b) := Rp.GC_74 (m := M x) (toS_len h) v
theorem cM_75 : (cM x v)[75]? = some (.int .u64 x.d.c) := Rp.GC_75 (m := M x) (toS_len h) v
theorem cM_76 : (cM x v)[76]? = some (.int .u32 x.d.p) := Rp.GC_76 (m := M x) (toS_len h) v
theorem cM_77 : (cM x v)[77]? = some v := Rp.GC_77 (m := M x) (toS_len h) v
theorem cM_s : ((cM x v).drop 5).take 68 = cSt x.s := by
 rw [← toS_c]
 simp only [cM, Rp.GC, M, List.drop_succ_cons, List.drop_zero]
 rw [List.take_append_of_le_length (by rw [Rp.SC_len (toS_len h)]; omega), List.take_of_length_le (by rw [Rp.SC_len (toS_len h)]; omega)]
end
theorem cM_one (x : Ms) {v : Value} (h : v.oneCell' = true) : (cM x v).all Value.oneCell' = true := Rp.GC_one (M x) h
structure WW (B K : AHeap) (w : Nat) (l : List UInt8) : Prop where
 lo : B.n ≤ w
 k : Keeps B K
 ex : ∃ bv, B.n ≤ bv ∧ WS K w bv l
theorem WW.new {B K : AHeap} (k : Keeps B K) : WW B (K.alloc (.cells true false 1 [.slice none 0 0] 120)) K.n [] :=
 ⟨k.n, k.alloc _, K.n, k.n, new_ws K⟩
theorem WW.keeps {B K K' : AHeap} {w : Nat} {l : List UInt8} (h : WW B K w l) (k : Keeps K K') : WW B K' w l := by
 obtain ⟨h1, h2, bv, h3, h4⟩ := h
 exact ⟨h1, h2.trans k, bv, h3, h4.chg (k.chg []) (by simp) (by simp)⟩
theorem WW.put {B K K' : AHeap} {w bv : Nat} {l l' : List UInt8} (h1 : B.n ≤ w) (k : Keeps B K) (hb : B.n ≤ bv) (h : Fd.Put K K' w bv l') : WW B K' w l' := by
 obtain ⟨bv', p1, p2, p3⟩ := h
 have := k.n
 exact ⟨h1, k.chg_trans p3 (by simp; omega), bv', by omega, p1⟩
section
variable {B K : AHeap} {w : Nat} {l m : List UInt8} (h : WW B K w l)
include h
theorem WW.byte (n : Nat) (hn : n < 256) (hl : l.length ≤ 100000000) : ∃ v K', ARun Try.prog 0 55 [ptr w 0, .int .u8 n] K v K' ∧ WW B K' w (l ++ be 1 n) := by
 obtain ⟨h1, h2, bv, h3, h4⟩ := h
 obtain ⟨v, K', r, p⟩ := t55 h4 n hn hl
 exact ⟨v, K', r, WW.put (l := l) h1 h2 h3 p⟩
theorem WW.word (n : Nat) (hn : n < 4294967296) (hl : l.length ≤ 100000000) : ∃ v K', ARun Try.prog 0 59 [ptr w 0, .int .u32 n] K v K' ∧ WW B K' w (l ++ be 4 n) := by
 obtain ⟨h1, h2, bv, h3, h4⟩ := h
 obtain ⟨v, K', r, p⟩ := t59 h4 n hn hl
 exact ⟨v, K', r, WW.put (l := l) h1 h2 h3 p⟩
theorem WW.long (n : Nat) (hn : n < 18446744073709551616) (hl : l.length ≤ 100000000) : ∃ v K', ARun Try.prog 0 56 [ptr w 0, .int .u64 n] K v K' ∧ WW B K' w (l ++ be 8 n) := by
 obtain ⟨h1, h2, bv, h3, h4⟩ := h
 obtain ⟨v, K', r, p⟩ := t56 h4 n hn hl
 exact ⟨v, K', r, WW.put (l := l) h1 h2 h3 p⟩
theorem WW.raw {x : Value} (hx : BS K x m) (hl : l.length + m.length ≤ 1000000000) : ∃ v K', ARun Try.prog 0 57 [ptr w 0, x] K v K' ∧ WW B K' w (l ++ m) := by
 obtain ⟨h1, h2, bv, h3, h4⟩ := h
 obtain ⟨v, K', r, p⟩ := t57 h4 hx hl
 exact ⟨v, K', r, WW.put (l := l) h1 h2 h3 p⟩
theorem WW.out (hl : l.length ≤ 1000000000) : ∃ v K', ARun Try.prog 0 60 [ptr w 0] K v K' ∧ OB 5 B K' v l := by
 obtain ⟨h1, h2, bv, h3, h4⟩ := h
 obtain ⟨v, K', r, p1, p2, p3⟩ := t60 h4 hl
 have := h2.n
 exact ⟨v, K', r, p1, h2.trans p2, fun b hb => by have := p3 b hb; omega⟩
end
theorem q48q {H : AHeap} {lo hi r s : Nat} {l : List UInt8} (h : RR H lo hi r l s) (w : Nat) (hl : l.length ≤ 1000000000) : ∃ v H', ARun Try.prog 0 48 [ptr r 0, .int .i64 (w : Nat)] H v H' ∧ BQ H' v (seg l s w) ∧ RR H' lo hi r l (s + w) ∧ Chg [r] H H' := by
 obtain ⟨h1, h2, h3, bv, h4, h5, h6⟩ := h
 obtain ⟨v, H', q, p0, p1, p2, p3⟩ := t48 h6 (w : Int) (by rw [List.length_drop]; omega)
 refine ⟨_, H', q, ?_, Aft.rr p1 h1 h2 (Nat.le_trans h3 p2.n) h4 h5, p2⟩
 rw [← gotL_at]
 rcases p3 with ⟨rfl, e⟩ | ⟨hf, t⟩
 ·exact .inl ⟨rfl, e⟩
 ·have hg : gotL (l.drop s) (decide (l.length < s)) (w : Int) = (l.drop s).take w := by unfold gotL; rw [if_neg hf, Int.toNat_natCast]
  have hw : w ≤ (l.drop s).length := by unfold failB at hf; omega
  rw [hg]
  obtain ⟨_, ⟨rfl, e1, e2, _, _⟩ | ⟨o, c, rm, rfl, g1, g2, g3, g4, g5⟩⟩ := t
  ·rw [e1]; exact .inl ⟨rfl, by simp⟩
  ·rw [Int.toNat_natCast] at g5
   have e3 : ((l.drop s).take w).length = w := by rw [List.length_take]; omega
   refine .inr (.inr ⟨bv, o, w, true, rm, 1, c, 5, by rw [e3, Int.toNat_natCast], by omega, g2, .inl rfl, ?_, by omega⟩)
   rw [e3, g4]
   simp [cellsOf, List.map_take]
end Go.AM.Rg

namespace Go.AM.Rg
open Nat (reduceAdd reduceEqDiff reduceLT reduceLeDiff reduceMul reduceSub)
open Go.Proofs Go.AM.F Go.AM.Fd
theorem nsB_app (l m : List Int) : nsB (l ++ m) = nsB l ++ nsB m := by unfold nsB; rw [List.flatMap_append]
theorem fill4i (a b c d : Int) : fillA [.int .i64 0, .int .i64 0, .int .i64 0, .int .i64 0] [(0, 1, .int .i64 a), (1, 1, .int .i64 b), (2, 1, .int .i64 c), (3, 1, .int .i64 d)] = some [.int .i64 a, .int .i64 b, .int .i64 c, .int .i64 d] := rfl
theorem fill3u (a b c : Int) : fillA [.int .u64 0, .int .u64 0, .int .u64 0] [(0, 1, .int .u64 a), (1, 1, .int .u64 b), (2, 1, .int .u64 c)] = some [.int .u64 a, .int .u64 b, .int .u64 c] := rfl
def tR (t : Int × Int) : List Value := [.int .i64 t.1, .int .u8 t.2]
theorem TB_sl {H : AHeap} {v : Value} {l : List (Int × Int)} (h : Rp.TB H v l) (hl : l ≠ []) : Sl H 2 v (l.map tR) := by
 obtain ⟨a, k, rfl, hb⟩ := h
 obtain ⟨b, own, room, c, e, rfl, h1, h2⟩ := hb hl
 have h3 := congrArg List.length h2
 rw [List.length_take, Rp.TC_len] at h3
 refine ⟨⟨_, _, by rw [List.length_map]⟩, ?_, ?_⟩
 ·intro r hr; simp only [List.mem_map] at hr; obtain ⟨_, _, rfl⟩ := hr; rfl
 ·simp only [elemsA, h1]
  rw [if_pos (by omega), List.drop_zero, Nat.mul_comm, h2]
  rfl
theorem TB_len {H : AHeap} {v : Value} {l : List (Int × Int)} (h : Rp.TB H v l) : isS v = true ∧ lenS v = l.length := by
 obtain ⟨a, k, rfl, hb⟩ := h; exact ⟨rfl, rfl⟩
theorem cy_lt {n : Int} (h : cyB n = true) : n.toNat < 18446744073709551616 := by have := cyB_iff.1 h; omega
def u64s (l : List Nat) : List UInt8 := l.flatMap fun n => be 8 n
theorem u64s_app (l m : List Nat) : u64s (l ++ m) = u64s l ++ u64s m := by unfold u64s; rw [List.flatMap_append]
theorem u64s_len (l : List Nat) : (u64s l).length = 8 * l.length := by
 induction l with
 | nil => rfl
 | cons x l ih =>
  rw [u64s, List.flatMap_cons, List.length_append, be_length, List.length_cons]
  have : (l.flatMap fun n => be 8 n).length = 8 * l.length := ih
  omega
theorem WW.byteA {B K : AHeap} {w : Nat} {l : List UInt8} (h : WW B K w l) (o : AO) (n : Nat) (hn : n < 256) (hl : l.length ≤ 100000000) : ∃ v K', ARun Try.prog 0 55 [ptr w 0, .int .u8 n] (K.alloc o) v K' ∧ WW B K' w (l ++ be 1 n) ∧ K'.get K.n = some o := by
 obtain ⟨h1, h2, bv, h3, h4⟩ := h
 have kt := (Keeps.refl K).alloc o
 obtain ⟨v, K', r, p⟩ := t55 (h4.chg (kt.chg []) (by simp) (by simp)) n hn hl
 have h5 := h4.lt
 refine ⟨v, K', r, WW.put (l := l) h1 (h2.trans kt) h3 p, ?_⟩
 obtain ⟨bv', p1, p2, p3⟩ := p
 rw [p3.get _ (by rw [alloc_n]; omega) (by simp; omega)]
 exact AHeap.get_alloc_new _ _
theorem cM_any {x : Ms} {v : Value} {B K : AHeap} {b : Nat} (k : Keeps B K) (g : B.get b = some (.cells true false 78 (cM x v) 41)) : K.get b = some (.cells true false 78 (cM x v) 41) := k.at_ g
theorem t27 {H : AHeap} {x : Ms} {v : Value} (hx : rgM x) (h : Rp.TB H v x.d.l) (hl : x.d.l.length ≤ 100000) : ∃ w H', ARun Try.prog 0 27 [.agg (cM x v).toArray] H w H' ∧ OB 5 H H' w (pM x) := by
 refine walk2 f27_ok f27_n ?_
 intro Q hq1 hq2
 have ht := hx.s.ht
 have lM := cM_len v ht
 have oM := cM_one x h.one
 have kB := (Keeps.refl H).alloc (.cells true false 78 (cM x v) 41)
 simp (disch := first | assumption | omega) only [f27, W_block, P3, seval, initFr, clsA, oM]
 obtain ⟨B, hB⟩ : ∃ X, X = H.alloc (.cells true false 78 (cM x v) 41) := ⟨_, rfl⟩
 have gB : B.get H.n = some (.cells true false 78 (cM x v) 41) := by rw [hB]; exact AHeap.get_alloc_new _ _
 have pB := AHeap.get_lt gB
 rw [← hB] at kB ⊢
 refine callK (Rp.t35 (m := M x) (toS_len ht) (h.keeps kB) hl) ?_
 rintro _ K1 ⟨rfl, k1⟩
 cases hm : Rp.mayB (M x) with
 | false =>
  simp (disch := first | assumption | omega) only [W_block, P3, seval, initFr, clsA]
  refine hq2 _ _ ⟨_, rfl, ?_⟩
  rw [show pM x = [] by unfold pM; rw [hm]; rfl]
  exact ⟨.inl ⟨rfl, rfl, rfl⟩, kB.trans k1, fun b hb => by cases hb⟩
 | true =>
  obtain ⟨m1, m2, m3, m4, m5, m6, m7, m8⟩ := may_inv hm
  have ep : pM x = enM x := by unfold pM; rw [hm]; rfl
  rw [ep] at hq2
  have g1 := cM_any k1 gB
  have w2 := WW.new k1
  simp (disch := first | assumption | omega) only [Keeps.get k1, Keeps.row k1, W_block, P3, seval, initFr, clsA]
  obtain ⟨K2, hK2⟩ : ∃ X, X = K1.alloc (.cells true false 1 [.slice none 0 0] 120) := ⟨_, rfl⟩
  rw [← hK2] at w2 ⊢
  have g2 := cM_any w2.k gB
  simp (disch := first | assumption | omega) only [W_block, P3, seval, initFr, clsA, g2, cM_0]
  refine callK (w2.byte x.k hx.k (by simp)) ?_
  rintro _ K3 w3
  have g3 := cM_any w3.k gB
  simp (disch := first | assumption | omega) only [W_block, P3, seval, initFr, clsA, g3, cM_0, cM_1, cM_2, cM_3, cM_4, fill4i]
  obtain ⟨L, hL⟩ : ∃ L, L = [x.e, x.c, x.be, x.b] := ⟨_, rfl⟩
  have lL : L.length = 4 := by rw [hL]; rfl
  have cL : ∀ n ∈ L, cyB n = true := by rw [hL]; simp [m3, m4, m5, m6]
  have eL : ([.int .i64 x.e, .int .i64 x.c, .int .i64 x.be, .int .i64 x.b] : List Value) = L.map (Value.int .i64) := by rw [hL]; rfl
  rw [eL]
  refine W_loop2 (fun q fr K => ∃ (i : Nat) (e4 e10 : Value), i ≤ 4 ∧ q = 4 - i ∧ WW B K K1.n (be 1 x.k ++ nsB (L.take i)) ∧ fr = [.agg (cM x v).toArray, ptr H.n 0, .slice none 0 0, ptr K1.n 0, e4, undef, undef, .bool false, .agg (L.map (Value.int .i64)).toArray, .int .i64 i, e10, undef, undef, undef, undef, undef, undef, undef, undef, undef, undef]) 4 ⟨0, _, _, by omega, rfl, by simpa [nsB] using w3, rfl⟩ ?_
  rintro Q' q fr K ⟨i, e4, e10, hi, rfl, ww, rfl⟩ hnx hex hrt
  by_cases hc : i < 4
  ·have hn := cL _ (List.getElem_mem (show i < L.length by omega))
   simp (disch := first | assumption | omega) only [W_block, P3, seval, initFr, clsA, Rp.a_idxa (L.map (Value.int .i64)) i 4 hc (x := .int .i64 L[i]) (by simp [hc, lL]), cy_nat hn]
   refine callK (ww.long _ (cy_lt hn) (by simp [be_length, nsB_len]; omega)) ?_
   rintro _ K' ww'
   simp (disch := first | assumption | omega) only [W_block, P3, seval, initFr, clsA, wrap_succ (n := i) (by omega)]
   refine hnx _ _ _ ⟨i + 1, _, _, by omega, rfl, ?_, rfl⟩ (by omega)
   rw [List.take_succ_eq_append_getElem (by omega), nsB_app]
   simpa [nsB, List.append_assoc] using ww'
  have hi4 : i = 4 := by omega
  subst hi4
  simp (disch := first | assumption | omega) only [W_block, P3, seval, initFr, clsA]
  refine hex _ _ _ ?_
  rw [List.take_of_length_le (by omega), hL] at ww
  have ww : WW B K K1.n (hdM x) := ww
  have g4 := cM_any ww.k gB
  simp (disch := first | assumption | omega) only [W_block, P3, seval, initFr, clsA, g4, cM_0]
  by_cases h1 : x.k = 1
  ·have ee : enM x = hdM x ++ fSt x.s := by unfold enM; rw [if_pos h1]
   rw [ee] at hq2
   simp (disch := first | assumption | omega) only [W_block, P3, seval, initFr, clsA, h1, g4, cM_s]
   refine callK (t58 x.s hx.s _) ?_
   rintro _ K5 ⟨a5, k5, f5⟩
   simp (disch := first | assumption | omega) only [W_block, P3, seval, initFr, clsA]
   refine callK ((ww.keeps k5).raw a5.bs (by rw [hdM_len, fSt_len ht]; omega)) ?_
   rintro _ K6 w6
   simp (disch := first | assumption | omega) only [W_block, P3, seval, initFr, clsA]
   refine callK (w6.out (by rw [List.length_append, hdM_len, fSt_len ht]; omega)) ?_
   rintro _ K7 o7
   simp (disch := first | assumption | omega) only [W_block, P3, seval, initFr, clsA]
   exact hq2 _ _ ⟨_, rfl, o7.base kB⟩
  by_cases h2 : x.k = 2
  ·have ee : enM x = hdM x ++ dB x.d := by unfold enM; rw [if_neg h1, if_pos h2]
   rw [ee] at hq2
   simp (disch := first | assumption | omega) only [W_block, P3, seval, initFr, clsA, h2, g4, cM_73, cM_74, cM_75, fill3u]
   obtain ⟨U, hU⟩ : ∃ U, U = [x.d.a, x.d.b, x.d.c] := ⟨_, rfl⟩
   have lU : U.length = 3 := by rw [hU]; rfl
   have cU : ∀ n ∈ U, n < 18446744073709551616 := by
    have := hx.da; have := hx.db; have := hx.dc
    rw [hU]; intro n hn
    simp only [List.mem_cons, List.not_mem_nil, or_false] at hn
    rcases hn with rfl | rfl | rfl <;> assumption
   have eU : ([.int .u64 (x.d.a : Nat), .int .u64 (x.d.b : Nat), .int .u64 (x.d.c : Nat)] : List Value) = U.map (fun n => Value.int .u64 (n : Nat)) := by rw [hU]; rfl
   rw [eU]
   generalize (Value.agg (List.map (Value.int .i64) L).toArray) = e8
   refine W_loop2 (fun q fr K => ∃ (i : Nat) (e5 e16 : Value), i ≤ 3 ∧ q = 3 - i ∧ WW B K K1.n (hdM x ++ u64s (U.take i)) ∧ fr = [.agg (cM x v).toArray, ptr H.n 0, .slice none 0 0, ptr K1.n 0, e4, e5, undef, .bool false, e8, .int .i64 4, .bool false, .int .u8 2, .bool false, .bool true, .agg (U.map (fun n => Value.int .u64 (n : Nat))).toArray, .int .i64 i, e16, undef, undef, undef, undef]) 3 ⟨0, _, _, by omega, rfl, by simpa [u64s] using ww, rfl⟩ ?_
   rintro Q2 q fr K ⟨i, e5, e16, hi, rfl, wu, rfl⟩ hnx2 hex2 hrt2
   by_cases hc2 : i < 3
   ·have hn := cU _ (List.getElem_mem (show i < U.length by omega))
    simp (disch := first | assumption | omega) only [W_block, P3, seval, initFr, clsA, Rp.a_idxa (U.map (fun n => Value.int .u64 (n : Nat))) i 3 hc2 (x := .int .u64 (U[i] : Nat)) (by simp [hc2, lU])]
    refine callK (wu.long _ hn (by simp [hdM_len, u64s_len]; omega)) ?_
    rintro _ K' wu'
    simp (disch := first | assumption | omega) only [W_block, P3, seval, initFr, clsA, wrap_succ (n := i) (by omega)]
    refine hnx2 _ _ _ ⟨i + 1, _, _, by omega, rfl, ?_, rfl⟩ (by omega)
    rw [List.take_succ_eq_append_getElem (by omega), u64s_app]
    simpa [u64s, List.append_assoc] using wu'
   have hi3 : i = 3 := by omega
   subst hi3
   simp (disch := first | assumption | omega) only [W_block, P3, seval, initFr, clsA]
   refine hex2 _ _ _ ?_
   rw [List.take_of_length_le (by omega)] at wu
   have g5 := cM_any wu.k gB
   have hl5 : (u64s U).length = 24 := by rw [u64s_len, lU]
   simp (disch := first | assumption | omega) only [W_block, P3, seval, initFr, clsA, g5, cM_76]
   refine callK (wu.word x.d.p hx.dp (by rw [List.length_append, hdM_len, hl5]; omega)) ?_
   rintro _ K6 w6
   have g6 := cM_any w6.k gB
   have hv6 := TB_len (h.keeps (kB.trans w6.k))
   have hv61 := hv6.1
   have hv62 := hv6.2
   have wl : IntKind.u8.wrap (x.d.l.length : Nat) = (x.d.l.length : Nat) := by rw [wrap_u8]; omega
   simp (disch := first | assumption | omega) only [W_block, P3, seval, initFr, clsA, g6, cM_77, hv62, wl]
   refine callK (w6.byte _ (by omega) (by rw [List.length_append, List.length_append, hdM_len, hl5, be_length]; omega)) ?_
   rintro _ K7 w7
   have g7 := cM_any w7.k gB
   simp (disch := first | assumption | omega) only [W_block, P3, seval, initFr, clsA, g7, cM_77, hv62]
   have hr := Rp.rise_in x.d.l (-1) (by omega) m7
   obtain ⟨Z, hZ⟩ : ∃ Z, Z = hdM x ++ u64s U ++ be 4 x.d.p ++ be 1 x.d.l.length := ⟨_, rfl⟩
   rw [← hZ] at w7
   have lZ : Z.length = 62 := by rw [hZ]; simp only [List.length_append, hdM_len, hl5, be_length]
   refine W_loop2 (fun q fr K => ∃ (i : Nat) (e6 e20 : Value), i ≤ x.d.l.length ∧ q = x.d.l.length - i ∧ WW B K K1.n (Z ++ tB (x.d.l.take i)) ∧ fr = [.agg (cM x v).toArray, ptr H.n 0, .slice none 0 0, ptr K1.n 0, e4, e5, e6, .bool false, e8, .int .i64 4, .bool false, .int .u8 2, .bool false, .bool true, .agg (U.map (fun n => Value.int .u64 (n : Nat))).toArray, .int .i64 3, .bool false, v, .int .i64 x.d.l.length, .int .i64 i, e20]) x.d.l.length ⟨0, _, _, by omega, rfl, by simpa [tB] using w7, rfl⟩ ?_
   rintro Q3 q fr K ⟨i, e6, e20, hi, rfl, wt, rfl⟩ hnx3 hex3 hrt3
   by_cases hc3 : i < x.d.l.length
   ·have hsl := TB_sl (h.keeps (kB.trans wt.k)) (by intro e; rw [e] at hc3; simp at hc3)
    obtain ⟨hnn, hrow⟩ := hsl.at_ (by omega) (i := i) (by rw [List.length_map]; exact hc3)
    rw [List.getElem_map] at hrow
    have hbn := hsl.bn_le (by intro e; rw [List.map_eq_nil_iff] at e; rw [e] at hc3; simp at hc3) (by omega)
    have hm1 := hr _ (List.getElem_mem hc3)
    have hm2 := hx.l _ (List.getElem_mem hc3)
    have w1 : IntKind.u8.wrap (x.d.l[i]).1 = ((x.d.l[i]).1.toNat : Nat) := by rw [wrap_u8]; omega
    have w2' : (x.d.l[i]).2 = ((x.d.l[i]).2.toNat : Nat) := by omega
    unfold tR at hrow
    simp (disch := first | assumption | omega | (simp only [LN] <;> omega) | (simp (disch := first | assumption | omega | (simp only [LN] <;> omega)) only [row_alloc, row_set]; assumption)) only [W_block, P3, seval, initFr, clsA, hrow, w1]
    refine callK (wt.byteA _ _ (by omega) (by rw [List.length_append, lZ, tB_len, List.length_take]; omega)) ?_
    rintro _ K8 ⟨w8, g8⟩
    simp (disch := first | assumption | omega) only [W_block, P3, seval, initFr, clsA, g8]
    rw [w2']
    refine callK (w8.byte _ (by omega) (by rw [List.length_append, List.length_append, lZ, tB_len, be_length, List.length_take]; omega)) ?_
    rintro _ K9 w9
    simp (disch := first | assumption | omega) only [W_block, P3, seval, initFr, clsA, wrap_succ (n := i) (by omega)]
    refine hnx3 _ _ _ ⟨i + 1, _, _, by omega, rfl, ?_, rfl⟩ (by omega)
    rw [List.take_succ_eq_append_getElem hc3, tB_app]
    simpa [tB, List.append_assoc] using w9
   ·have hil : i = x.d.l.length := by omega
    subst hil
    simp (disch := first | assumption | omega) only [W_block, P3, seval, initFr, clsA]
    refine hex3 _ _ _ ?_
    rw [List.take_of_length_le (Nat.le_refl _)] at wt
    simp (disch := first | assumption | omega) only [W_block, P3, seval, initFr, clsA]
    refine callK (wt.out (by rw [List.length_append, lZ, tB_len]; omega)) ?_
    rintro _ K9 o9
    simp (disch := first | assumption | omega) only [W_block, P3, seval, initFr, clsA]
    refine hq2 _ _ ⟨_, rfl, ?_⟩
    have ez : hdM x ++ dB x.d = Z ++ tB x.d.l := by
     rw [hZ, hU]
     simp only [dB, u64s, List.flatMap_cons, List.flatMap_nil, List.append_assoc, List.append_nil]
    rw [ez]
    exact o9.base kB
  ·have ee : enM x = hdM x := by unfold enM; rw [if_neg h1, if_neg h2, List.append_nil]
   rw [ee] at hq2
   simp (disch := first | assumption | omega) only [W_block, P3, seval, initFr, clsA, show ¬ ((x.k : Nat) : Int) = 1 by omega, show ¬ ((x.k : Nat) : Int) = 2 by omega]
   refine callK (ww.out (by rw [hdM_len]; omega)) ?_
   rintro _ K9 o9
   simp (disch := first | assumption | omega) only [W_block, P3, seval, initFr, clsA]
   exact hq2 _ _ ⟨_, rfl, o9.base kB⟩
end Go.AM.Rg

namespace Go.AM.Rg
open Nat (reduceAdd reduceEqDiff reduceLT reduceLeDiff reduceMul reduceSub)
open Go.Proofs Go.AM.F Go.AM.Fd
section
variable {P : Program} {ng : Nat} {KF : List Value → AHeap → Prop} {fr tm : List Value} {tr : List TE} {K H : AHeap}
theorem OB.appC {d : D} {r : List AOper} {e : Nat} {s x : Value} {l m : List UInt8} {b : Nat} {o : AO} (h : OB e H K s l) (g : K.get b = some o) (gb : blk s ≠ some b) (hx : BS K x m) (hs : l.length + m.length ≤ 1000000000)
  (hk : ∀ v' K', OB e H K' v' (l ++ m) → K'.get b = some o → blk v' ≠ some b → RW P ng r (d.frame v' fr) (d.temps v' tm) K' KF) : goR P ng (asem (.app e 1 1 s x) K) d r fr tm KF :=
 appG h.ap hx.sh hx.el (by rw [cellsOf_length, Nat.mul_one]) (by omega) (fun v' K' a c hb => hk v' K' (h.grow a c hb)
  (by rw [c.get _ (AHeap.get_lt g) (fun hm => gb (mem_blkL.1 hm))]; exact g)
  (by
   have := AHeap.get_lt g
   rcases hb with e1 | e1
   ·rw [e1]; exact gb
   ·rw [e1]; intro e2; cases e2; omega))
end
theorem t62o (n w : Nat) (hw : w ≤ 8) (H : AHeap) : ∃ v H', ARun Try.prog 0 62 [.int .u64 n, .int .i64 w] H v H' ∧ OB 5 H H' v (be w n) := by
 obtain ⟨v, H', r, a, k, f⟩ := t62 n w hw H
 exact ⟨v, H', r, by rw [be_length]; exact a, k, f⟩
theorem t28 {H : AHeap} {x : Ms} {v : Value} (hx : rgM x) (h : Rp.TB H v x.d.l) (hl : x.d.l.length ≤ 100000) : ∃ w H', ARun Try.prog 0 28 [.agg (cM x v).toArray] H w H' ∧ OB 5 H H' w (pM x) := by
 refine walk2 f28_ok f28_n ?_
 intro Q hq1 hq2
 have ht := hx.s.ht
 have lM := cM_len v ht
 have oM := cM_one x h.one
 have kB := (Keeps.refl H).alloc (.cells true false 78 (cM x v) 38)
 simp (disch := first | assumption | omega) only [f28, W_block, P3, seval, initFr, clsA, oM]
 obtain ⟨B, hB⟩ : ∃ X, X = H.alloc (.cells true false 78 (cM x v) 38) := ⟨_, rfl⟩
 have gB : B.get H.n = some (.cells true false 78 (cM x v) 38) := by rw [hB]; exact AHeap.get_alloc_new _ _
 have pB := AHeap.get_lt gB
 rw [← hB] at kB ⊢
 refine callK (Rp.t61 (m := M x) (toS_len ht) (h.keeps kB) hl) ?_
 rintro _ K1 ⟨rfl, k1⟩
 cases hm : Rp.mayB (M x) with
 | false =>
  simp (disch := first | assumption | omega) only [W_block, P3, seval, initFr, clsA]
  refine hq2 _ _ ⟨_, rfl, ?_⟩
  rw [show pM x = [] by unfold pM; rw [hm]; rfl]
  exact ⟨.inl ⟨rfl, rfl, rfl⟩, kB.trans k1, fun b hb => by cases hb⟩
 | true =>
  obtain ⟨m1, m2, m3, m4, m5, m6, m7, m8⟩ := may_inv hm
  have ep : pM x = enM x := by unfold pM; rw [hm]; rfl
  rw [ep] at hq2
  have g1 := k1.at_ gB
  have hk := hx.k
  simp (disch := first | assumption | omega) only [W_block, P3, seval, initFr, clsA, g1, cM_0, fillu1]
  obtain ⟨K2, hK2⟩ : ∃ X, X = K1.alloc (.cells true false 1 [.int .u8 (x.k : Nat)] 5) := ⟨_, rfl⟩
  have o2 : OB 5 B K2 (slc K1.n 0 1 1) [UInt8.ofNat x.k] := by rw [hK2]; exact OB.lit k1 (cells1 hk) rfl rfl false
  rw [← hK2]
  have g2 := o2.k.at_ gB
  simp (disch := first | assumption | omega) only [W_block, P3, seval, initFr, clsA, g2, cM_0, cM_1, cM_2, cM_3, cM_4, fill4i]
  obtain ⟨L, hL⟩ : ∃ L, L = [x.e, x.c, x.be, x.b] := ⟨_, rfl⟩
  have lL : L.length = 4 := by rw [hL]; rfl
  have cL : ∀ n ∈ L, cyB n = true := by rw [hL]; simp [m3, m4, m5, m6]
  have eL : ([.int .i64 x.e, .int .i64 x.c, .int .i64 x.be, .int .i64 x.b] : List Value) = L.map (Value.int .i64) := by rw [hL]; rfl
  rw [eL]
  obtain ⟨K3, hK3⟩ : ∃ X, X = K2.alloc (.cells true false 1 (L.map (Value.int .i64)) 2) := ⟨_, rfl⟩
  have k3 : Keeps K2 K3 := by rw [hK3]; exact (Keeps.refl K2).alloc _
  have gL : K3.get K2.n = some (.cells true false 1 (L.map (Value.int .i64)) 2) := by rw [hK3]; exact AHeap.get_alloc_new _ _
  have n2 : K2.n = K1.n + 1 := by rw [hK2, alloc_n]
  have o3 : OB 5 B K3 (slc K1.n 0 1 1) (be 1 x.k) := by rw [be1]; exact o2.keeps k3
  rw [← hK3]
  refine W_loop2 (fun q fr K => ∃ (i : Nat) (w e8 : Value), i ≤ 4 ∧ q = 4 - i ∧ OB 5 B K w (be 1 x.k ++ nsB (L.take i)) ∧ K.get K2.n = some (.cells true false 1 (L.map (Value.int .i64)) 2) ∧ blk w ≠ some K2.n ∧ fr = [.agg (cM x v).toArray, ptr H.n 0, .slice none 0 0, w, slc K2.n 0 4 4, .int .i64 i, undef, .bool false, e8, undef, undef, undef]) 4 ⟨0, _, _, by omega, rfl, by simpa [nsB] using o3, gL, by rw [n2]; intro e; have e : K1.n = K1.n + 1 := Option.some.inj e; omega, rfl⟩ ?_
  rintro Q' q fr K ⟨i, w, e8, hi, rfl, ow, gK, bw, rfl⟩ hnx hex hrt
  by_cases hc : i < 4
  ·have hn := cL _ (List.getElem_mem (show i < L.length by omega))
   have eLi : (List.map (Value.int .i64) L)[i]? = some (.int .i64 L[i]) := by simp [lL, hc]
   simp (disch := first | assumption | omega) only [W_block, P3, seval, initFr, clsA, gK, cy_nat hn, eLi]
   refine callK (t62o _ 8 (by omega) K) ?_
   rintro w1 K4 o4
   have g4 := o4.k.at_ gK
   simp (disch := first | assumption | omega) only [W_block, P3, seval, initFr, clsA]
   refine OB.appC (ow.keeps o4.k) g4 bw o4.bs (by rw [List.length_append, nsB_len, List.length_take, be_length, be_length]; omega) ?_
   intro w5 K5 o5 g5 b5
   simp (disch := first | assumption | omega) only [W_block, P3, seval, initFr, clsA, wrap_succ (n := i) (by omega)]
   refine hnx _ _ _ ⟨i + 1, _, _, by omega, rfl, ?_, g5, b5, rfl⟩ (by omega)
   rw [List.take_succ_eq_append_getElem (by omega), nsB_app]
   simpa [nsB, List.append_assoc] using o5
  have hi4 : i = 4 := by omega
  subst hi4
  simp (disch := first | assumption | omega) only [W_block, P3, seval, initFr, clsA]
  refine hex _ _ _ ?_
  rw [List.take_of_length_le (by omega), hL] at ow
  have ow : OB 5 B K w (hdM x) := ow
  have g4 := ow.k.at_ gB
  simp (disch := first | assumption | omega) only [W_block, P3, seval, initFr, clsA, g4, cM_0]
  by_cases h1 : x.k = 1
  ·have ee : enM x = hdM x ++ fSt x.s := by unfold enM; rw [if_pos h1]
   rw [ee] at hq2
   simp (disch := first | assumption | omega) only [W_block, P3, seval, initFr, clsA, h1, g4, cM_s]
   refine callK (t63 x.s hx.s K) ?_
   rintro w5 K5 o5
   simp (disch := first | assumption | omega) only [W_block, P3, seval, initFr, clsA]
   refine (ow.keeps o5.k).appR o5.bs (by rw [hdM_len, fSt_len ht]; omega) ?_
   intro w6 K6 o6
   have g6 := o6.k.at_ gB
   simp (disch := first | assumption | omega) only [W_block, P3, seval, initFr, clsA, g6, cM_0, h1]
   exact hq2 _ _ ⟨_, rfl, o6.base kB⟩
  by_cases h2 : x.k = 2
  ·have ee : enM x = hdM x ++ dB x.d := by unfold enM; rw [if_neg h1, if_pos h2]
   rw [ee] at hq2
   simp (disch := first | assumption | omega) only [W_block, P3, seval, initFr, clsA, h2, g4, cM_0, cM_73]
   refine callK (t62o _ 8 (by omega) K) ?_
   rintro w5 L5 p5
   simp (disch := first | assumption | omega) only [W_block, P3, seval, initFr, clsA]
   refine (ow.keeps p5.k).appR p5.bs (by simp only [List.length_append, hdM_len, be_length]; omega) ?_
   intro v5 K5 o5
   have g5 := o5.k.at_ gB
   simp (disch := first | assumption | omega) only [W_block, P3, seval, initFr, clsA, g5, cM_74]
   refine callK (t62o _ 8 (by omega) K5) ?_
   rintro w6 L6 p6
   simp (disch := first | assumption | omega) only [W_block, P3, seval, initFr, clsA]
   refine (o5.keeps p6.k).appR p6.bs (by simp only [List.length_append, hdM_len, be_length]; omega) ?_
   intro v6 K6 o6
   have g6 := o6.k.at_ gB
   simp (disch := first | assumption | omega) only [W_block, P3, seval, initFr, clsA, g6, cM_75]
   refine callK (t62o _ 8 (by omega) K6) ?_
   rintro w7 L7 p7
   simp (disch := first | assumption | omega) only [W_block, P3, seval, initFr, clsA]
   refine (o6.keeps p7.k).appR p7.bs (by simp only [List.length_append, hdM_len, be_length]; omega) ?_
   intro v7 K7 o7
   have g7 := o7.k.at_ gB
   have hp := hx.dp
   simp (disch := first | assumption | omega) only [W_block, P3, seval, initFr, clsA, g7, cM_76, u64w (show x.d.p < 18446744073709551616 by omega)]
   refine callK (t62o _ 4 (by omega) K7) ?_
   rintro w8 L8 p8
   simp (disch := first | assumption | omega) only [W_block, P3, seval, initFr, clsA]
   refine (o7.keeps p8.k).appR p8.bs (by simp only [List.length_append, hdM_len, be_length]; omega) ?_
   intro v8 K8 o8
   have g8 := o8.k.at_ gB
   have hv6 := TB_len h
   have hv61 := hv6.1
   have hv62 := hv6.2
   have wl : IntKind.u8.wrap (x.d.l.length : Nat) = (x.d.l.length : Nat) := by rw [wrap_u8]; omega
   simp (disch := first | assumption | omega) only [W_block, P3, seval, initFr, clsA, g8, cM_77, hv62, wl, fillu1]
   have o9 : OB 5 B (K8.alloc (.cells true false 1 [.int .u8 (x.d.l.length : Nat)] 5)) (slc K8.n 0 1 1) [UInt8.ofNat x.d.l.length] := OB.lit o8.k (cells1 (show x.d.l.length < 256 by omega)) rfl rfl false
   refine (o8.keeps ((Keeps.refl K8).alloc _)).appR o9.bs (by simp only [List.length_append, List.length_cons, List.length_nil, hdM_len, be_length]; omega) ?_
   intro v10 K10 o10
   simp (disch := first | assumption | omega) only [W_block, P3, seval, initFr, clsA]
   have hr := Rp.rise_in x.d.l (-1) (by omega) m7
   obtain ⟨Z, hZ⟩ : ∃ Z, Z = hdM x ++ be 8 x.d.a ++ be 8 x.d.b ++ be 8 x.d.c ++ be 4 x.d.p ++ [UInt8.ofNat x.d.l.length] := ⟨_, rfl⟩
   rw [← hZ] at o10
   have lZ : Z.length = 62 := by rw [hZ]; simp only [List.length_append, hdM_len, be_length, List.length_cons, List.length_nil]
   refine W_loop2 (fun q fr K => ∃ (i : Nat) (w e11 : Value), i ≤ x.d.l.length ∧ q = x.d.l.length - i ∧ OB 5 B K w (Z ++ tB (x.d.l.take i)) ∧ fr = [.agg (cM x v).toArray, ptr H.n 0, .slice none 0 0, w, slc K2.n 0 4 4, .int .i64 4, .int .i64 i, .bool false, .bool false, .bool false, .bool true, e11]) x.d.l.length ⟨0, _, _, by omega, rfl, by simpa [tB] using o10, rfl⟩ ?_
   rintro Q2 q fr K ⟨i, w, e11, hi, rfl, ot, rfl⟩ hnx2 hex2 hrt2
   have gt := ot.k.at_ gB
   by_cases hc2 : i < x.d.l.length
   ·have hsl := TB_sl (h.keeps (kB.trans ot.k)) (by intro e; rw [e] at hc2; simp at hc2)
    obtain ⟨hnn, hrow⟩ := hsl.at_ (by omega) (i := i) (by rw [List.length_map]; exact hc2)
    rw [List.getElem_map] at hrow
    have hm1 := hr _ (List.getElem_mem hc2)
    have hm2 := hx.l _ (List.getElem_mem hc2)
    have w1 : IntKind.u8.wrap (x.d.l[i]).1 = ((x.d.l[i]).1.toNat : Nat) := by rw [wrap_u8]; omega
    have w2' : (x.d.l[i]).2 = ((x.d.l[i]).2.toNat : Nat) := by omega
    unfold tR at hrow
    simp (disch := first | assumption | omega) only [W_block, P3, seval, initFr, clsA, gt, cM_77, hv62, hrow, w1, fillu2]
    have o5 : OB 5 B (K.alloc (.cells true false 1 [.int .u8 ((x.d.l[i]).1.toNat : Nat), .int .u8 ((x.d.l[i]).2.toNat : Nat)] 5)) (slc K.n 0 2 2) [UInt8.ofNat (x.d.l[i]).1.toNat, UInt8.ofNat (x.d.l[i]).2.toNat] := OB.lit ot.k (cells2 (by omega) (by omega)) rfl rfl false
    rw [w2']
    refine (ot.keeps ((Keeps.refl K).alloc _)).appD o5.bs (by simp only [List.length_append, List.length_cons, List.length_nil, lZ, tB_len, List.length_take]; omega) ?_
    intro v6 K6 o6
    simp (disch := first | assumption | omega) only [W_block, P3, seval, initFr, clsA, wrap_succ (n := i) (by omega)]
    refine hnx2 _ _ _ ⟨i + 1, _, _, by omega, rfl, ?_, rfl⟩ (by omega)
    rw [List.take_succ_eq_append_getElem hc2, tB_app]
    simpa [tB, be1, List.append_assoc] using o6
   ·have hil : i = x.d.l.length := by omega
    subst hil
    simp (disch := first | assumption | omega) only [W_block, P3, seval, initFr, clsA, gt, cM_77, hv62]
    refine hex2 _ _ _ ?_
    rw [List.take_of_length_le (Nat.le_refl _)] at ot
    simp (disch := first | assumption | omega) only [W_block, P3, seval, initFr, clsA]
    refine hq2 _ _ ⟨_, rfl, ?_⟩
    have ez : hdM x ++ dB x.d = Z ++ tB x.d.l := by
     rw [hZ]
     simp only [dB, be1, List.append_assoc]
    rw [ez]
    exact ot.base kB
  ·have ee : enM x = hdM x := by unfold enM; rw [if_neg h1, if_neg h2, List.append_nil]
   rw [ee] at hq2
   simp (disch := first | assumption | omega) only [W_block, P3, seval, initFr, clsA, g4, cM_0, show ¬ ((x.k : Nat) : Int) = 1 by omega, show ¬ ((x.k : Nat) : Int) = 2 by omega]
   exact hq2 _ _ ⟨_, rfl, ow.base kB⟩
end Go.AM.Rg
