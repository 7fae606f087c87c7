/- The abstract machine, part F: slices, conversions, arithmetic. -/
import Derived.Test.YtlmikadohcdclaaAmE
set_option linter.unusedSimpArgs false
set_option linter.unusedVariables false
namespace Go.AM

section
variable {P : Program} {ng : Nat} {σ : Sg} {H H' : AHeap} {w : World} {v : Value}

theorem VR.int_inv {k : IntKind} {n : Int} {v' : Value} (h : VR σ (.int k n) v') : v' = .int k n := by cases h; rfl
theorem VR.str_inv {s : ByteArray} {v' : Value} (h : VR σ (.string s) v') : v' = .string s := by cases h; rfl
theorem VR.bool_inv {b : Bool} {v' : Value} (h : VR σ (.bool b) v') : v' = .bool b := by cases h; rfl

theorem toList_data (s : ByteArray) : s.toList = s.data.toList := by
  have loop : ∀ (n i : Nat) (r : List UInt8), s.size - i = n → ByteArray.toList.loop s i r = r.reverse ++ s.data.toList.drop i := by
    intro n
    induction n with
    | zero =>
      intro i r h
      unfold ByteArray.toList.loop
      rw [if_neg (by omega), List.drop_eq_nil_of_le (by simp only [Array.length_toList]; show s.data.size ≤ i; have : s.size = s.data.size := rfl; omega)]
      simp
    | succ n ih =>
      intro i r h
      unfold ByteArray.toList.loop
      have hlt : i < s.size := by omega
      have hlt' : i < s.data.toList.length := by simpa using hlt
      rw [if_pos hlt, ih (i + 1) _ (by omega), List.drop_eq_getElem_cons hlt']
      have : s.get! i = s.data.toList[i] := by
        have h2 : i < s.data.size := hlt
        exact getElem!_pos s.data i h2
      rw [this]; simp
  have := loop s.size 0 [] rfl
  simpa [ByteArray.toList] using this

theorem str_eq (a b : ByteArray) : (a.toList == b.toList) = decide (a = b) := by
  rw [toList_data, toList_data]
  by_cases h : a = b
  · subst h; simp
  · have : a.data.toList ≠ b.data.toList := by
      intro e
      apply h
      cases a; cases b
      congr 1
      exact Array.ext' e
    simp only [h, decide_false, beq_eq_false_iff_ne, ne_eq]
    exact this

theorem run_bin {op : BinOp} {x y : Value} {t : TypeId} {v : Value} (h : binA op x y = some v) (w : World) : (binOp op t x y).run P w = .ok v w := by
  unfold binA at h
  split at h
  · rename_i k a k' b
    cases op <;> simp only at h <;> (try split at h) <;> (try (cases h; done)) <;> simp only [intA, Option.some.injEq] at h
    all_goals first
      | (rename_i hc; subst hc; subst h; simp [binOp, Op.intArith, Op.intBits, Op.intCmp]; done)
      | (rename_i hc; subst h; simp [binOp, Op.shift, show ¬ b < 0 by omega]; done)
      | (rename_i hc; subst hc; split at h
         · cases h
         · rename_i hz; cases h; simp [binOp, Op.intDiv, hz])
  · rename_i a b
    cases op <;> simp only [strA] at h <;> (try (cases h; done))
    case add =>
      split at h
      · rename_i hc
        cases h
        have : ¬ (IntKind.i64.max < ((a.size + b.size : Nat) : Int)) := by
          have : IntKind.i64.max = 9223372036854775807 := by decide
          omega
        simp only [binOp, Op.stringOp]
        rw [if_neg (by simpa using this)]
        rfl
      · cases h
    all_goals
      cases h
      simp only [binOp, Op.stringOp, Sem.run_pure, ← str_eq, toList_data]
  · cases h

theorem eqGuard_plain (op : BinOp) (t : TypeId) (x y : Operand) {a b : Value} (h1 : a = .nilIface → b ≠ .nilIface) (h2 : ∀ c d, ¬ (a = .agg c ∧ b = .agg d)) (w : World) : (eqGuard op t x y a b).run P w = .ok () w := by
  unfold eqGuard
  cases a <;> cases b <;> first
    | exact absurd rfl (h1 rfl)
    | exact absurd ⟨rfl, rfl⟩ (h2 _ _)
    | (simp)

theorem eqGuard_const (op : BinOp) (t : TypeId) {x y : Operand} {a b : Value} (h1 : (isConst x || isConst y) = true) (h2 : ∀ c d, ¬ (a = .agg c ∧ b = .agg d)) (w : World) : (eqGuard op t x y a b).run P w = .ok () w := by
  unfold eqGuard
  cases a <;> cases b <;> first
    | exact absurd ⟨rfl, rfl⟩ (h2 _ _)
    | (simp; done)
    | (cases x <;> cases y <;> simp [isConst] at h1 ⊢)

theorem res_bin (hr : HR ng σ H.get w) {op : BinOp} {t : TypeId} {x y : Operand} {a a' b b' : Value} (ha : VR σ a a') (hb : VR σ b b') (hs : asem (.bin op a b) H = some (v, H')) :
    Res ng σ H w ((do pure (Next.value (← (do eqGuard op t x y a' b'; binOp op t a' b'))) : Sem Next).run P w) v H' := by
  simp only [asem, Option.map_eq_some_iff, Prod.mk.injEq] at hs
  obtain ⟨u, hu, rfl, rfl⟩ := hs
  have same : a' = a ∧ b' = b ∧ (a = .nilIface → b ≠ .nilIface) ∧ (∀ c d, ¬ (a = .agg c ∧ b = .agg d)) ∧ VR σ u u := by
    unfold binA at hu
    split at hu
    · have h1 := ha.int_inv; have h2 := hb.int_inv
      refine ⟨h1, h2, by simp, by simp, ?_⟩
      cases op <;> simp only at hu <;> (try split at hu) <;> (try (cases hu; done)) <;> simp only [intA, Option.some.injEq] at hu <;> first
        | (subst hu; first | exact .int _ _ | exact .bool _)
        | (split at hu
           · cases hu
           · cases hu; exact .int _ _)
    · have h1 := ha.str_inv; have h2 := hb.str_inv
      refine ⟨h1, h2, by simp, by simp, ?_⟩
      cases op <;> simp only [strA] at hu <;> (try split at hu) <;> (try (cases hu; done)) <;> (cases hu; first | exact .string _ | exact .bool _)
    · cases hu
  obtain ⟨rfl, rfl, h3, h4, h5⟩ := same
  exact Res.pure hr (by simp only [Sem.run_bind, eqGuard_plain op t x y h3 h4, Result.andThen_ok, run_bin hu, Sem.run_pure]) h5

def kindOK : Nat → TypeDesc → Bool
  | 0, .bool => true
  | 1, .pointer _ => true
  | 2, .slice _ => true
  | 3, .map _ _ => true
  | 4, .func _ _ _ => true
  | 5, .interface _ => true
  | 6, .interface _ => true
  | _, _ => false

set_option maxHeartbeats 1000000 in
theorem run_equalIn {t k : Nat} {d : TypeDesc} (ht : P.underlying t = some d) (hd : kindOK k d = true) {a a' b b' : Value} (ha : VR σ a a') (hb : VR σ b b') {r : Bool} (hu : eqA k a b = some r) (n : Nat) :
    (Op.equalIn (n + 1) t a' b').run P w = .ok r w := by
  unfold eqA at hu
  split at hu
  all_goals first | (cases hu; done) | skip
  all_goals simp only [Option.some.injEq] at hu
  all_goals subst hu
  all_goals cases d <;> simp only [kindOK] at hd <;> first | (cases hd; done) | skip
  all_goals cases ha
  all_goals cases hb
  all_goals simp only [Op.equalIn, Sem.run_bind, run_underlying ht, Result.andThen_ok, Sem.run_pure, Option.isNone_none, Option.isNone_some]

theorem res_eqv (hr : HR ng σ H.get w) {op : BinOp} {neg : Bool} (hop : (op = .eql ∧ neg = false) ∨ (op = .neq ∧ neg = true)) {t k : Nat} {d : TypeDesc} (ht : P.underlying t = some d)
    (hd : kindOK k d = true) {x y : Operand} (hk : k = 6 → (isConst x || isConst y) = true) {a a' b b' : Value} (ha : VR σ a a') (hb : VR σ b b') (hs : asem (.eqv k neg a b) H = some (v, H')) :
    Res ng σ H w ((do pure (Next.value (← (do eqGuard op t x y a' b'; binOp op t a' b'))) : Sem Next).run P w) v H' := by
  simp only [asem, Option.map_eq_some_iff, Prod.mk.injEq] at hs
  obtain ⟨r, hu, rfl, rfl⟩ := hs
  have hq : (Op.equal t a' b').run P w = .ok r w := run_equalIn ht hd ha hb hu 9999
  have key : ((isConst x || isConst y) = true ∨ (a' = .nilIface → b' ≠ .nilIface)) ∧ (∀ c d, ¬ (a' = .agg c ∧ b' = .agg d)) ∧ binOp .eql t a' b' = (do pure (.bool (← Op.equal t a' b'))) ∧ binOp .neq t a' b' = (do pure (.bool (!(← Op.equal t a' b')))) := by
    unfold eqA at hu
    split at hu
    all_goals first | (cases hu; done) | skip
    all_goals cases ha
    all_goals cases hb
    all_goals first
      | exact ⟨.inl (hk rfl), by simp, rfl, rfl⟩
      | exact ⟨.inr (by simp), by simp, rfl, rfl⟩
  obtain ⟨h2, h3, h4, h5⟩ := key
  have hg : (eqGuard op t x y a' b').run P w = .ok () w := by
    rcases h2 with h2 | h2
    · exact eqGuard_const op t h2 h3 w
    · exact eqGuard_plain op t x y h2 h3 w
  have hbin : (binOp op t a' b').run P w = .ok (.bool (if neg then !r else r)) w := by
    rcases hop with ⟨rfl, rfl⟩ | ⟨rfl, rfl⟩
    · rw [h4]; simp only [Sem.run_bind, hq, Result.andThen_ok, Sem.run_pure]; rfl
    · rw [h5]; simp only [Sem.run_bind, hq, Result.andThen_ok, Sem.run_pure]; rfl
  exact Res.pure hr (by simp only [Sem.run_bind, hg, Result.andThen_ok, hbin, Sem.run_pure]) (.bool _)

end
end Go.AM
