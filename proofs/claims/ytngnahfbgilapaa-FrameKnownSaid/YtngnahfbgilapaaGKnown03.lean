/- Part of the proof. -/
import Derived.Test.YtngnahfbgilapaaGKnown02
import Derived.Test.YtngnahfbgilapaaProg
import Derived.KernelRfl
set_option linter.unusedSimpArgs false
set_option linter.unusedVariables false
set_option linter.unusedSimpArgs false
set_option linter.unusedVariables false
namespace Go.AM
def AO.unown : AO → AO
  | .dead => .dead
  | .cells _ room esz c e => .cells false room esz c e
  | .obj _ o => .obj false o
def AHeap.unown (H : AHeap) : AHeap := ⟨H.n, H.l.map AO.unown⟩
theorem AHeap.unown_n (H : AHeap) : H.unown.n = H.n := _root_.id rfl
theorem AHeap.unown_get (H : AHeap) (b : Nat) : H.unown.get b = (H.get b).map AO.unown := by
  unfold AHeap.get AHeap.unown
  split <;> simp
theorem AO.unown_own (o : AO) : o.unown.own = false := by cases o <;> rfl
theorem AHeap.unown_no (H : AHeap) : NoOwn H.unown := fun b o h => by
  rw [AHeap.unown_get] at h
  cases hb : H.get b with
  | none => rw [hb] at h; cases h
  | some x => rw [hb] at h; cases h; exact AO.unown_own x
theorem OR.unown {σ : Sg} {w : World} {i : BI} {o : AO} (h : OR σ w i o) : OR σ w i o.unown := by
  cases o with
  | dead => trivial
  | cells own room esz c e =>
    obtain ⟨a1, a2, a3, a4, a5, c', fr, a6, a7, a8, a9⟩ := h
    exact ⟨a1, a2, a3, a4, a5, c', fr, a6, a7, a8, fun h => by cases h⟩
  | obj own o => exact h
theorem HR.unown {ng : Nat} {σ : Sg} {H : AHeap} {w : World} (h : HR ng σ H.get w) : HR ng σ H.unown.get w := by
  refine ⟨fun b i hb => ?_, fun b1 b2 i1 i2 o1 o2 _ _ _ g1 _ hw => ?_, h.lt, h.glob⟩
  · obtain ⟨o, h1, h2⟩ := h.obj b i hb
    exact ⟨o.unown, by rw [AHeap.unown_get, h1]; rfl, h2.unown⟩
  · rw [H.unown_no b1 o1 g1] at hw; cases hw
def over (H H' : AHeap) : AHeap := ⟨H'.n, (List.range (H'.n - H.n)).map (fun i => (H'.l[i]?).getD .dead) ++ H.l⟩
theorem over_old {H H' : AHeap} (hn : H.n ≤ H'.n) {b : Nat} (hb : b < H.n) : (over H H').get b = H.get b := by
  unfold AHeap.get over
  simp only
  rw [if_pos (by omega), if_pos hb, List.getElem?_append_right (by simp; omega)]
  simp only [List.length_map, List.length_range]
  rw [show H'.n - 1 - b - (H'.n - H.n) = H.n - 1 - b by omega]
theorem over_new {H H' : AHeap} {b : Nat} (hb : H.n ≤ b) (hb2 : b < H'.n) {o : AO} (h : H'.get b = some o) : (over H H').get b = some o := by
  unfold AHeap.get over at *
  simp only
  rw [if_pos hb2] at h ⊢
  rw [List.getElem?_append_left (by simp; omega)]
  simp only [List.getElem?_map]
  rw [List.getElem?_range (by omega)]
  simp [h]
theorem over_keeps {H H' : AHeap} (hn : H.n ≤ H'.n) : Keeps H (over H H') := ⟨hn, fun b hb => over_old hn hb⟩
variable {P : Program} {ng : Nat} {f : FuncId} {args : List Value} {H H' : AHeap} {v : Value}
theorem ARun.over (h : ARun P ng f args H.unown v H') : ARun P ng f args H v (AM.over H H') ∧ Keeps H (AM.over H H') := by
  obtain ⟨h0, h1, h2⟩ := h
  rw [AHeap.unown_n] at h1
  refine ⟨⟨h0, h1, fun σ w args' hr ha => ?_⟩, over_keeps h1⟩
  refine (h2 σ w args' hr.unown ha).mono ?_
  rintro e w' ⟨v', σ', rfl, k1, k2, k3⟩
  have hk : ∀ k, k < w.heap.size → w'.heap[k]? = w.heap[k]? := fun k hk => k2.keep k hk (fun b i o hb ho hw => by rw [H.unown_no b o ho] at hw; cases hw)
  have old : ∀ b i, σ b = some i → b < H.n := fun b i hb => by
    obtain ⟨o, g, _⟩ := hr.obj b i hb
    exact AHeap.get_lt g
  have back : ∀ b i, b < H.n → σ' b = some i → σ b = some i := fun b i hb hs => by
    cases hsb : σ b with
    | none =>
      have := (k2.new b i hsb hs).1.1
      rw [AHeap.unown_n] at this; omega
    | some j => have := k2.sub b j hsb; rw [hs] at this; exact this.symm
  have fresh : ∀ b i, H.n ≤ b → σ' b = some i → w.heap.size ≤ i.c := fun b i hb hs => by
    have hsb : σ b = none := by
      cases hsb : σ b with
      | none => rfl
      | some j => have := old b j hsb; omega
    rcases (k2.new b i hsb hs).2 with h | ⟨b0, i0, o0, _, e2, e3, _⟩
    · exact h
    · rw [H.unown_no b0 o0 e2] at e3; cases e3
  have obj : ∀ b i, σ' b = some i → (b < H.n ∧ σ b = some i ∧ i.c < w.heap.size) ∨ (H.n ≤ b ∧ w.heap.size ≤ i.c ∧ ∃ o, H'.get b = some o ∧ (AM.over H H').get b = some o ∧ OR σ' w' i o) := fun b i hs => by
    by_cases hb : b < H.n
    · have := back b i hb hs
      exact .inl ⟨hb, this, hr.lt b i this⟩
    · obtain ⟨o, g1, g2⟩ := k1.obj b i hs
      exact .inr ⟨by omega, fresh b i (by omega) hs, o, g1, over_new (by omega) (AHeap.get_lt g1) g1, g2⟩
  refine ⟨v', σ', rfl, ⟨?_, ?_, k1.lt, k1.glob⟩, ⟨k2.sub, ?_, ?_, ?_, ?_, k2.size, h1, k2.os, k2.tape, k2.output⟩, k3⟩
  · intro b i hs
    rcases obj b i hs with ⟨hb, hs0, _⟩ | ⟨_, _, o, _, g2, g3⟩
    · obtain ⟨o, g1, g2⟩ := hr.obj b i hs0
      exact ⟨o, by rw [over_old h1 hb]; exact g1, (g2.congr (fun _ => hk _ (hr.lt b i hs0))).mono k2.sub⟩
    · exact ⟨o, g2, g3⟩
  · intro b1 b2 i1 i2 o1 o2 hne s1 s2 g1 g2 hw hl
    rcases obj b1 i1 s1 with ⟨hb1, t1, l1⟩ | ⟨hb1, l1, p1, q1, q2, q3⟩
    · rcases obj b2 i2 s2 with ⟨hb2, t2, l2⟩ | ⟨hb2, l2, p2, r1, r2, r3⟩
      · rw [over_old h1 hb1] at g1
        rw [over_old h1 hb2] at g2
        exact hr.inj b1 b2 i1 i2 o1 o2 hne t1 t2 g1 g2 hw hl
      · omega
    · rcases obj b2 i2 s2 with ⟨hb2, t2, l2⟩ | ⟨hb2, l2, p2, r1, r2, r3⟩
      · omega
      · rw [q2] at g1; cases g1
        rw [r2] at g2; cases g2
        exact k1.inj b1 b2 i1 i2 _ _ hne s1 s2 q1 r1 hw hl
  · intro b i hb hs
    have := k2.new b i hb hs
    rw [AHeap.unown_n] at this
    rcases obj b i hs with ⟨_, hs0, _⟩ | ⟨_, l, _⟩
    · rw [hb] at hs0; cases hs0
    · exact ⟨this.1, .inl l⟩
  · intro b i o' hb ho hw
    obtain ⟨o, g1, _⟩ := hr.obj b i hb
    rw [over_old h1 (old b i hb), g1] at ho
    cases ho
    exact ⟨_, g1, hw⟩
  · intro b i o' hb ho hw
    obtain ⟨o, g1, _⟩ := hr.obj b i hb
    rw [over_old h1 (old b i hb), g1] at ho
    cases ho
    exact ⟨_, g1, hw⟩
  · intro k hlt _
    exact hk k hlt
theorem ARun.pure (h : ARun P ng f args H.unown v H') (hv : plain1 v = true) : ARun P ng f args H v H := by
  obtain ⟨h1, h2⟩ := h.over
  exact h1.gc0 h2 (.inr (NV.plain hv))
end Go.AM

set_option linter.unusedSimpArgs false
set_option linter.unusedVariables false
namespace Go.AM
inductive CKd
  | int (k : IntKind)
  | bool
  | str
  | sl (t : TypeId)
def fits (P : Program) (G : Gf) : CKd → Value → Prop
  | .int k, v => ∃ n, v = .int k n ∧ (Lit.int k n).wf = true
  | .bool, v => ∃ b, v = .bool b
  | .str, v => ∃ s, v = .string s ∧ s.size ≤ maxLen
  | .sl t, v => AR P G t [v]
def fitsL (P : Program) (G : Gf) : List CKd → List Value → Prop
  | [], [] => True
  | k :: ks, v :: vs => fits P G k v ∧ fitsL P G ks vs
  | _, _ => False
section
variable {P : Program} {G : Gf}
theorem fitsL.len : ∀ {ks : List CKd} {cs : List Value}, fitsL P G ks cs → cs.length = ks.length
  | [], [], _ => rfl
  | _ :: ks, _ :: cs, h => by simp [fitsL.len h.2]
theorem fitsL.inv {k : CKd} {ks : List CKd} {cs : List Value} (h : fitsL P G (k :: ks) cs) : ∃ v vs, cs = v :: vs ∧ fits P G k v ∧ fitsL P G ks vs := by
  cases cs with
  | nil => exact h.elim
  | cons v vs => exact ⟨v, vs, rfl, h.1, h.2⟩
theorem fitsL.app : ∀ {a b : List CKd} {c d : List Value}, fitsL P G a c → fitsL P G b d → fitsL P G (a ++ b) (c ++ d)
  | [], _, [], _, _, h => h
  | _ :: _, _, _ :: _, _, h, k => ⟨h.1, fitsL.app h.2 k⟩
theorem fitsL.split : ∀ {a b : List CKd} {cs : List Value}, fitsL P G (a ++ b) cs → fitsL P G a (cs.take a.length) ∧ fitsL P G b (cs.drop a.length)
  | [], b, cs, h => ⟨by simp [fitsL], by simpa using h⟩
  | k :: a, b, v :: cs, h => by
    have := fitsL.split (a := a) (b := b) (cs := cs) h.2
    exact ⟨⟨h.1, this.1⟩, this.2⟩
theorem fitsL.mono {G' : Gf} (hg : ∀ b o, G b = some o → G' b = some o) : ∀ {ks : List CKd} {cs : List Value}, fitsL P G ks cs → fitsL P G' ks cs
  | [], [], _ => trivial
  | .int _ :: _, _ :: _, h => ⟨h.1, h.2.mono hg⟩
  | .bool :: _, _ :: _, h => ⟨h.1, h.2.mono hg⟩
  | .str :: _, _ :: _, h => ⟨h.1, h.2.mono hg⟩
  | .sl t :: _, v :: _, h => ⟨AR.mono hg (show AR P G t [v] from h.1), h.2.mono hg⟩
theorem fitsL.u8 : ∀ {n : Nat} {cs : List Value}, fitsL P G (List.replicate n (.int .u8)) cs → ∃ l : List UInt8, l.length = n ∧ cs = cellsOf l
  | 0, [], _ => ⟨[], rfl, rfl⟩
  | n + 1, v :: cs, h => by
    obtain ⟨⟨m, rfl, hw⟩, h2⟩ := h
    obtain ⟨l, h3, rfl⟩ := fitsL.u8 h2
    simp only [Lit.wf, Bool.and_eq_true, decide_eq_true_eq, IntKind.min, IntKind.max, IntKind.signed, IntKind.bits] at hw
    obtain ⟨m, rfl⟩ : ∃ k : Nat, m = k := ⟨m.toNat, by simp at hw; omega⟩
    have hm : m % 256 = m := by simp at hw; omega
    exact ⟨UInt8.ofNat m :: l, by simp [h3], by simp [cellsOf, hm]⟩
end
end Go.AM

set_option linter.unusedSimpArgs false
set_option linter.unusedVariables false
namespace Go.AM
def cpre : Nat → ACode → ACode
  | 0, _ => .skip
  | 1, .seq a _ => a
  | n + 2, .seq a b => .seq a (cpre (n + 1) b)
  | _ + 1, c => c
def cpost : Nat → ACode → ACode
  | 0, c => c
  | n + 1, .seq _ b => cpost n b
  | _ + 1, _ => .skip
def cok : Nat → ACode → Bool
  | 0, _ => false
  | 1, .seq _ _ => true
  | n + 2, .seq _ b => cok (n + 1) b
  | _ + 1, _ => false
variable {P : Program} {ng : Nat} {H : AHeap} {Q : AQ} {fr : List Value}
theorem andThen2 (Q : AQ) (K K' : List Value → AHeap → Prop) : (Q.andThen K).andThen K' = Q.andThen K' := by
  funext e fr H
  cases e <;> rfl
theorem W_pp : ∀ (n : Nat) (c : ACode) (Q : AQ) (fr : List Value) (H : AHeap), cok n c = true → W P ng c Q fr H = W P ng (cpre n c) (Q.andThen (W P ng (cpost n c) Q)) fr H
  | 0, c, Q, fr, H, h => by simp [cok] at h
  | 1, c, Q, fr, H, h => by
    cases c <;> simp [cok] at h
    rfl
  | n + 2, c, Q, fr, H, h => by
    cases c <;> simp [cok] at h
    rename_i a b
    simp only [cpre, cpost, W_seq]
    rw [andThen2]
    congr 1
    funext e fr H
    cases e
    · exact W_pp (n + 1) b Q fr H h
    all_goals rfl
theorem W_part {c : ACode} (n : Nat) (M : List Value → AHeap → Prop) (hok : cok n c = true)
    (h1 : ∀ Q' : AQ, (∀ fr H, M fr H → Q' .normal fr H) → (∀ i fr H, Q (.exit i) fr H → Q' (.exit i) fr H) → (∀ fr H, Q .ret fr H → Q' .ret fr H) → W P ng (cpre n c) Q' fr H)
    (h2 : ∀ fr H, M fr H → W P ng (cpost n c) Q fr H) : W P ng c Q fr H := by
  rw [W_pp n c Q fr H hok]
  exact h1 _ (fun fr H h => h2 fr H h) (fun _ _ _ h => h) (fun _ _ h => h)
end Go.AM

set_option linter.unusedSimpArgs false
set_option linter.unusedVariables false
namespace Go.AM
namespace Hk
abbrev HF := List Value → Nat → HT → CK → Bool
def HFok (P : Program) (ng k : Nat) (h : HF) : Prop := ∀ xs n t K, h xs n t K = true → ∀ H, Rp n t H → ∃ v H', ARun P ng k xs H v H' ∧ KP K v H'
def EFok (P : Program) (ng k : Nat) (f : EF) : Prop := ∃ af, compF P ng f.sl k = some af ∧ af.sl = f.sl ∧ af.res = f.res ∧ (af.body = f.body ∨ simpC af.body = f.body) ∧ argsOK P k f.na = true
def EFof (na : Nat) (af : AFunc) : EF := ⟨na, af.sl, af.res, af.body⟩
theorem ok_af {P : Program} {ng k na : Nat} {sl : List Nat} {af : AFunc} (h : compF P ng sl k = some af) (hs : af.sl = sl) (ha : argsOK P k na = true) : EFok P ng k (EFof na af) := by
  subst hs
  exact ⟨af, h, rfl, rfl, .inl rfl, ha⟩
theorem ok_of {P : Program} {ng k : Nat} {f : EF} (h : f.ok P ng k) : EFok P ng k f := by
  obtain ⟨af, h1, h2, h3, h4, h5⟩ := h
  exact ⟨af, h1, h2, h3, .inr h4, h5⟩
inductive FT
  | leaf
  | node (k : Nat) (f : EF) (l r : FT)
  | hook (k : Nat) (h : HF) (l r : FT)
noncomputable def FT.find (T : FT) (k : Nat) (K : EF → Bool) (KH : HF → Bool) : Bool :=
  FT.rec (motive := fun _ => Bool) false (fun k' f _ _ l r => Bool.rec (motive := fun _ => Bool) (Bool.rec (motive := fun _ => Bool) r l (Nat.ble k k')) (K f) (Nat.beq k k'))
    (fun k' h _ _ l r => Bool.rec (motive := fun _ => Bool) (Bool.rec (motive := fun _ => Bool) r l (Nat.ble k k')) (KH h) (Nat.beq k k')) T
def FT.ok (P : Program) (ng : Nat) : FT → Prop
  | .leaf => True
  | .node k f l r => EFok P ng k f ∧ l.ok P ng ∧ r.ok P ng
  | .hook k h l r => HFok P ng k h ∧ l.ok P ng ∧ r.ok P ng
theorem FT.find_true {P : Program} {ng : Nat} {k : Nat} {K : EF → Bool} {KH : HF → Bool} : ∀ {T : FT}, T.ok P ng → T.find k K KH = true → (∃ f, EFok P ng k f ∧ K f = true) ∨ ∃ h, HFok P ng k h ∧ KH h = true
  | .leaf, _, h => by cases h
  | .node k' f l r, hT, h => by
    have e : (FT.node k' f l r).find k K KH = Bool.rec (motive := fun _ => Bool) (Bool.rec (motive := fun _ => Bool) (r.find k K KH) (l.find k K KH) (Nat.ble k k')) (K f) (Nat.beq k k') := rfl
    rw [e] at h
    cases e1 : Nat.beq k k'
    · rw [e1] at h
      cases e2 : Nat.ble k k'
      · rw [e2] at h; exact FT.find_true hT.2.2 h
      · rw [e2] at h; exact FT.find_true hT.2.1 h
    · rw [e1] at h
      have := Nat.eq_of_beq_eq_true e1
      subst this
      exact .inl ⟨f, hT.1, h⟩
  | .hook k' f l r, hT, h => by
    have e : (FT.hook k' f l r).find k K KH = Bool.rec (motive := fun _ => Bool) (Bool.rec (motive := fun _ => Bool) (r.find k K KH) (l.find k K KH) (Nat.ble k k')) (KH f) (Nat.beq k k') := rfl
    rw [e] at h
    cases e1 : Nat.beq k k'
    · rw [e1] at h
      cases e2 : Nat.ble k k'
      · rw [e2] at h; exact FT.find_true hT.2.2 h
      · rw [e2] at h; exact FT.find_true hT.2.1 h
    · rw [e1] at h
      have := Nat.eq_of_beq_eq_true e1
      subst this
      exact .inr ⟨f, hT.1, h⟩
noncomputable def callE (T : FT) (rec : ACode → List Value → Nat → HT → EK → Bool) : Caller := fun f xs n t K => T.find f (fun ef => asT (Nat.beq xs.length ef.na) (initK ef.sl xs fun fr => rec ef.body fr n t fun e fr n t => match e with
  | .normal => resK ef.res fr t fun v => K v n t
  | .ret => resK ef.res fr t fun v => K v n t
  | _ => false)) (fun h => h xs n t K)
noncomputable def runS (T : FT) (rec : ACode → List Value → Nat → HT → EK → Bool) (c : ACode) : List Value → Nat → HT → EK → Bool :=
  ACode.rec (motive := fun _ => List Value → Nat → HT → EK → Bool)
    (fun fr n t K => K .normal fr n t)
    (fun ops fr n t K => runOps (callE T rec) ops fr [] n t fun fr n t => K .normal fr n t)
    (fun ops fr n t K => runD (callE T rec) ops fr [] n t [] fun fr n t => K .normal fr n t)
    (fun _ _ iha ihb fr n t K => iha fr n t (seqK ihb K))
    (fun c _ _ iht ihe fr n t K => evX c fr [] fun v => condK v (iht fr n t K) (ihe fr n t K))
    (fun id _ ih fr n t K => ih fr n t (blockK id K))
    (fun c ih fr n t K => ih fr n t (seqK (rec (.loop c)) K))
    (fun id fr n t K => K (.exit id) fr n t)
    (fun fr n t K => K .ret fr n t) c
noncomputable def run (T : FT) (fuel : Nat) : ACode → List Value → Nat → HT → EK → Bool :=
  Nat.rec (motive := fun _ => ACode → List Value → Nat → HT → EK → Bool) (fun _ _ _ _ _ => false) (fun _ ih => runS T ih) fuel
theorem callE_ok {P : Program} {ng : Nat} {T : FT} (hT : T.ok P ng) {rec : ACode → List Value → Nat → HT → EK → Bool} (hr : ∀ c fr n t K, rec c fr n t K = true → ∀ H, Rp n t H → W P ng c (QP K) fr H) : CallOK P ng (callE T rec) := by
  intro f xs n t K h H r
  rcases FT.find_true hT h with ⟨ef, ⟨af, h1, h2, h3, h4, h5⟩, h6⟩ | ⟨hf, h1, h2⟩
  case inr => exact h1 xs n t K h2 H r
  obtain ⟨h7, h8⟩ := asT_true h6
  have hlen := Nat.eq_of_beq_eq_true h7
  rw [initK_eq] at h8
  have hw := hr _ _ _ _ _ h8 H r
  have hw2 : W P ng af.body (QP fun e fr n t => match e with
    | .normal => resK ef.res fr t fun v => K v n t
    | .ret => resK ef.res fr t fun v => K v n t
    | _ => false) (initFr ef.sl xs) H := by
    rcases h4 with h4 | h4
    · rw [h4]; exact hw
    · rw [← h4] at hw; exact W_simp af.body hw
  refine walk h1 (by rw [hlen]; exact h5) ?_
  rw [h2]
  refine W_mono ?_ hw2
  rintro e fr H' ⟨n', t', r', h'⟩
  cases e with
  | normal => obtain ⟨v, h9, h10⟩ := resK_true r' h'; rw [h3]; exact ⟨v, h9, n', t', r', h10⟩
  | ret => obtain ⟨v, h9, h10⟩ := resK_true r' h'; rw [h3]; exact ⟨v, h9, n', t', r', h10⟩
  | exit id => cases h'
  | goto l => cases h'
  | panic ch => cases h'
  | outgrown => cases h'
theorem runS_sound {P : Program} {ng : Nat} {T : FT} (hT : T.ok P ng) {rec : ACode → List Value → Nat → HT → EK → Bool} (hr : ∀ c fr n t K, rec c fr n t K = true → ∀ H, Rp n t H → W P ng c (QP K) fr H) :
    ∀ c fr n t K, runS T rec c fr n t K = true → ∀ H, Rp n t H → W P ng c (QP K) fr H := by
  have hcall := callE_ok hT hr
  intro c
  induction c with
  | skip => intro fr n t K h H r; exact ⟨n, t, r, h⟩
  | reg ops => intro fr n t K h H r; exact runOps_sound hcall (K := fun fr n t => K .normal fr n t) h r
  | dreg ops => intro fr n t K h H r; exact runD_sound hcall (K := fun fr n t => K .normal fr n t) h .nil r
  | seq a b iha ihb =>
    intro fr n t K h H r
    show W P ng a (AQ.andThen (QP K) (W P ng b (QP K))) fr H
    exact W_mono (QP_seq (fun fr n t h H r => ihb fr n t K h H r)) (iha fr n t _ h H r)
  | cond c a b iha ihb =>
    intro fr n t K h H r
    have e : runS T rec (.cond c a b) fr n t K = evX c fr [] fun v => condK v (runS T rec a fr n t K) (runS T rec b fr n t K) := rfl
    rw [e, evX_eq] at h
    simp only [W]
    unfold condK at h
    split at h
    · rename_i tt ht
      rw [ht]
      cases tt
      · exact ihb fr n t K h H r
      · exact iha fr n t K h H r
    · cases h
  | block id c ih =>
    intro fr n t K h H r
    show W P ng c (AQ.inBlock (QP K) id) fr H
    refine W_mono ?_ (ih fr n t _ h H r)
    rintro e fr' H' ⟨n', t', r', h'⟩
    cases e with
    | exit id' =>
      simp only [blockK] at h'
      simp only [AQ.inBlock]
      cases e : Nat.beq id' id
      · rw [e] at h'
        rw [if_neg (fun hh => by subst hh; rw [Nat.beq_refl] at e; cases e)]
        exact ⟨n', t', r', h'⟩
      · rw [e] at h'
        rw [if_pos (Nat.eq_of_beq_eq_true e)]
        exact ⟨n', t', r', h'⟩
    | normal => exact ⟨n', t', r', h'⟩
    | ret => exact ⟨n', t', r', h'⟩
    | goto l => exact ⟨n', t', r', h'⟩
    | panic ch => exact ⟨n', t', r', h'⟩
    | outgrown => exact ⟨n', t', r', h'⟩
  | loop c ih =>
    intro fr n t K h H r
    exact W_again (W_mono (QP_seq (c := .loop c) (fun fr n t h H r => hr (.loop c) fr n t K h H r)) (ih fr n t _ h H r))
  | exit id => intro fr n t K h H r; exact ⟨n, t, r, h⟩
  | ret => intro fr n t K h H r; exact ⟨n, t, r, h⟩
theorem run_sound {P : Program} {ng : Nat} {T : FT} (hT : T.ok P ng) : ∀ (fuel : Nat) (c : ACode) (fr : List Value) (n : Nat) (t : HT) (K : EK), run T fuel c fr n t K = true → ∀ H, Rp n t H → W P ng c (QP K) fr H
  | 0, c, fr, n, t, K, h => by cases h
  | m + 1, c, fr, n, t, K, h => runS_sound hT (rec := run T m) (run_sound hT m) c fr n t K h
noncomputable def runF (T : FT) (fuel : Nat) (f : FuncId) (xs : List Value) (n : Nat) (t : HT) (K : CK) : Bool := callE T (run T fuel) f xs n t K
theorem runF_sound {P : Program} {ng : Nat} {T : FT} (hT : T.ok P ng) {fuel : Nat} {f : FuncId} {xs : List Value} {n : Nat} {t : HT} {K : CK} (h : runF T fuel f xs n t K = true) {H : AHeap} (r : Rp n t H) : ∃ v H', ARun P ng f xs H v H' ∧ KP K v H' :=
  callE_ok hT (run_sound hT fuel) f xs n t K h H r
theorem closed_calls {P : Program} {T : FT} (hT : T.ok P 0) {fuel : Nat} {f : FuncId} (h : runF T fuel f [] 0 .leaf isTrue = true) (w : World) : Calls P f #[] w fun e w' => e = .returned (.bool true) ∧ Go.RowKit.Below w.heap.size w w' := by
  obtain ⟨v, H', ⟨_, _, h1⟩, h2⟩ := runF_sound hT h Rp.empty
  have hv := isTrue_spec h2
  subst hv
  refine (h1 (fun _ => none) w [] (HR.empty w) .nil).mono ?_
  rintro e w' ⟨v', σ', rfl, k1, k2, k3⟩
  rw [k3.bool_inv]
  exact ⟨rfl, k2.os, k2.tape, k2.output, k2.size, fun k hk => k2.keep k hk (fun b i o hb => by cases hb)⟩
theorem HFok.of {P : Program} {ng k : Nat} {h : HF} (hk : ∀ xs n t K, h xs n t K = true → ∀ H, Rp n t H → ∃ v, ARun P ng k xs H v H ∧ K v n t = true) : HFok P ng k h := fun xs n t K h1 H r => by
  obtain ⟨v, h2, h3⟩ := hk xs n t K h1 H r
  exact ⟨v, H, h2, n, t, r, h3⟩
noncomputable def byK (c : List Value) : (List UInt8 → Bool) → Bool :=
  List.rec (motive := fun _ => (List UInt8 → Bool) → Bool) (fun K => K []) (fun x _ ih K => match x with
    | .int .u8 (.ofNat n) => forceB (Nat.ble n 255) fun b => Bool.rec (motive := fun _ => Bool) false (ih fun l => K (UInt8.ofNat n :: l)) b
    | _ => false) c
theorem byK_cons (x : Value) (c : List Value) (K : List UInt8 → Bool) : byK (x :: c) K = match x with
      | .int .u8 (.ofNat n) => forceB (Nat.ble n 255) fun b => Bool.rec (motive := fun _ => Bool) false (byK c fun l => K (UInt8.ofNat n :: l)) b
      | _ => false := rfl
theorem byK_true : ∀ {c : List Value} {K : List UInt8 → Bool}, byK c K = true → ∃ l, c = cellsOf l ∧ K l = true
  | [], K, h => ⟨[], rfl, h⟩
  | x :: c, K, h => by
    rw [byK_cons] at h
    split at h
    · rename_i n
      rw [forceB_eq] at h
      cases e : Nat.ble n 255
      · rw [e] at h; cases h
      · rw [e] at h
        have hn := Nat.le_of_ble_eq_true e
        obtain ⟨l, rfl, h2⟩ := byK_true h
        exact ⟨UInt8.ofNat n :: l, by simp [cellsOf]; omega, h2⟩
    · cases h
noncomputable def dropK (l : List Value) : Nat → (List Value → Bool) → Bool :=
  List.rec (motive := fun _ => Nat → (List Value → Bool) → Bool) (fun _ K => K []) (fun x r ih n K => Nat.rec (motive := fun _ => Bool) (K (x :: r)) (fun m _ => ih m K) n) l
theorem dropK_eq : ∀ (l : List Value) (n : Nat) (K : List Value → Bool), dropK l n K = K (l.drop n)
  | [], n, K => by simp [dropK]
  | x :: l, 0, K => rfl
  | x :: l, n + 1, K => (dropK_eq l n K).trans (by simp)
noncomputable def takeK (l : List Value) : Nat → (List Value → Bool) → Bool :=
  List.rec (motive := fun _ => Nat → (List Value → Bool) → Bool) (fun _ K => K []) (fun x _ ih n K => Nat.rec (motive := fun _ => Bool) (K []) (fun m _ => ih m fun r => K (x :: r)) n) l
theorem takeK_eq : ∀ (l : List Value) (n : Nat) (K : List Value → Bool), takeK l n K = K (l.take n)
  | [], n, K => by simp [takeK]
  | x :: l, 0, K => rfl
  | x :: l, n + 1, K => (takeK_eq l n _).trans (by simp)
noncomputable def bqK (v : Value) (t : HT) (K : List UInt8 → Bool) : Bool := match v with
  | .slice none n k => asT (Nat.beq n 0) (asT (Nat.beq k 0) (K []))
  | .slice (some ⟨b, o, none⟩) n k => t.getK b fun x => match x with
    | .cells own room esz c e => asT (Nat.beq esz 1) (asT (Nat.ble n k) (asT (Nat.ble (Nat.add o n) c.length) (dropK c o fun c => takeK c n fun c => byK c K)))
    | _ => false
  | _ => false
theorem bqK_true {n : Nat} {t : HT} {H : AHeap} (r : Rp n t H) {v : Value} {K : List UInt8 → Bool} (h : bqK v t K = true) : ∃ l, BQ H v l ∧ K l = true := by
  unfold bqK at h
  split at h
  · obtain ⟨h1, h2⟩ := asT_true h
    obtain ⟨h3, h4⟩ := asT_true h2
    have := Nat.eq_of_beq_eq_true h1
    have := Nat.eq_of_beq_eq_true h3
    subst_vars
    exact ⟨[], .inl ⟨rfl, rfl⟩, h4⟩
  · rename_i b o n k
    obtain ⟨ob, h1, h2⟩ := r.getK h
    split at h2
    · rename_i own room esz c e
      obtain ⟨h3, h4⟩ := asT_true h2
      obtain ⟨h5, h6⟩ := asT_true h4
      obtain ⟨h7, h8⟩ := asT_true h6
      rw [dropK_eq, takeK_eq] at h8
      obtain ⟨l, h9, h10⟩ := byK_true h8
      have h3 := Nat.eq_of_beq_eq_true h3
      have h5 := Nat.le_of_ble_eq_true h5
      have h7 : o + n ≤ c.length := Nat.le_of_ble_eq_true h7
      have hl : l.length = n := by
        have := congrArg List.length h9
        rw [cellsOf_length, List.length_take, List.length_drop] at this; omega
      subst hl
      exact ⟨l, .inr (.inr ⟨b, o, k, own, room, esz, c, e, rfl, h5, h1, .inl h3, h9, h7⟩), h10⟩
    · cases h2
  · cases h
end Hk
theorem BQ.unown {H : AHeap} {v : Value} {l : List UInt8} (h : BQ H v l) : BQ H.unown v l := by
  rcases h with h | h | ⟨b, o, k, own, room, esz, c, e, rfl, h1, h2, h3, h4, h5⟩
  · exact .inl h
  · exact .inr (.inl h)
  · exact .inr (.inr ⟨b, o, k, false, room, esz, c, e, rfl, h1, by rw [AHeap.unown_get, h2]; rfl, h3, h4, h5⟩)
theorem elems_unown (H : AHeap) (esz : Nat) (v : Value) : elemsA H.unown esz v = elemsA H esz v := by
  unfold elemsA
  split
  · rfl
  · rename_i b o n k
    rw [AHeap.unown_get]
    cases H.get b with
    | none => rfl
    | some o => cases o <;> rfl
  · rfl
  · rfl
theorem BS.unown {H : AHeap} {v : Value} {l : List UInt8} (h : BS H v l) : BS H.unown v l := ⟨h.sh, by rw [elems_unown]; exact h.el⟩
theorem Sl.unown {H : AHeap} {esz : Nat} {v : Value} {rows : List (List Value)} (h : Sl H esz v rows) : Sl H.unown esz v rows := ⟨h.sh, h.row, by rw [elems_unown]; exact h.el⟩
end Go.AM

set_option maxRecDepth 100000
namespace Go.AM.F
def f63 : AFunc := ⟨[0, 2],
 .seq (.reg [
 ⟨.mov (.c (.int .u8 0)), .fr 1, none⟩]) <|
 .seq (.reg [
 ⟨.mov (.fr 0), .tm, none⟩,
 ⟨.callf 98 [(.tm 0), (.c (.int .i64 1))], .tm, none⟩,
 ⟨.assert 5 (.int .u8 0) false (.tm 0), .tm, none⟩,
 ⟨.mov (.tm 0), .fr 1, none⟩]) <|
 .ret, [.t 1]⟩
def f64 : AFunc := ⟨[0, 2],
 .seq (.reg [
 ⟨.mov (.c (.int .u64 0)), .fr 1, none⟩]) <|
 .seq (.reg [
 ⟨.mov (.fr 0), .tm, none⟩,
 ⟨.callf 98 [(.tm 0), (.c (.int .i64 8))], .tm, none⟩,
 ⟨.assert 24 (.int .u64 0) false (.tm 0), .tm, none⟩,
 ⟨.mov (.tm 0), .fr 1, none⟩]) <|
 .ret, [.t 1]⟩
def f65 : AFunc := ⟨[0, 2],
 .seq (.reg [
 ⟨.mov (.c (.int .u32 0)), .fr 1, none⟩]) <|
 .seq (.reg [
 ⟨.mov (.fr 0), .tm, none⟩,
 ⟨.callf 98 [(.tm 0), (.c (.int .i64 4))], .tm, none⟩,
 ⟨.assert 25 (.int .u32 0) false (.tm 0), .tm, none⟩,
 ⟨.mov (.tm 0), .fr 1, none⟩]) <|
 .ret, [.t 1]⟩
def f73 : AFunc := ⟨[0, 2, 4],
 .seq (.reg [
 ⟨.mov (.c (.slice none 0 0)), .fr 1, none⟩]) <|
 .seq (.seq (.reg [
 ⟨.mov (.fr 0), .tm, none⟩,
 ⟨.eqv 2 false (.tm 0) (.c (.slice none 0 0)), .fr 2, none⟩]) <|
 .cond (.fr 2)
 (.seq (.reg [
 ⟨.mov (.c (.slice none 0 0)), .fr 1, none⟩]) <|
 .ret)
 (.skip)) <|
 .seq (.reg [
 ⟨.bslice 5 1 0 [] [], .tm, none⟩,
 ⟨.mov (.fr 0), .tm, none⟩,
 ⟨.app 5 1 1 (.tm 1) (.tm 0), .tm, none⟩,
 ⟨.mov (.tm 0), .fr 1, none⟩]) <|
 .ret, [.t 1]⟩
def f74 : AFunc := ⟨[0, 1, 4],
 .seq (.reg [
 ⟨.mov (.c (.slice none 0 0)), .fr 2, none⟩]) <|
 .seq (.reg [
 ⟨.mov (.fr 0), .tm, none⟩,
 ⟨.mov (.fr 1), .tm, none⟩,
 ⟨.callf 103 [(.tm 1), (.tm 0)], .tm, none⟩,
 ⟨.mov (.tm 0), .fr 2, none⟩]) <|
 .ret, [.t 2]⟩
def f75 : AFunc := ⟨[0, 2],
 .seq (.reg [
 ⟨.mov (.c (.int .u16 0)), .fr 1, none⟩]) <|
 .seq (.reg [
 ⟨.mov (.fr 0), .tm, none⟩,
 ⟨.callf 98 [(.tm 0), (.c (.int .i64 2))], .tm, none⟩,
 ⟨.assert 111 (.int .u16 0) false (.tm 0), .tm, none⟩,
 ⟨.mov (.tm 0), .fr 1, none⟩]) <|
 .ret, [.t 1]⟩
def f79 : AFunc := ⟨[0, 1],
 .reg [
 ⟨.mov (.fr 0), .tm, none⟩,
 ⟨.mov (.fr 1), .tm, none⟩,
 ⟨.iface 5 (.tm 0), .tm, none⟩,
 ⟨.callf 105 [(.tm 2), (.tm 0)], .tm, none⟩], []⟩
def f81 : AFunc := ⟨[0, 1],
 .reg [
 ⟨.mov (.fr 0), .tm, none⟩,
 ⟨.mov (.fr 1), .tm, none⟩,
 ⟨.iface 111 (.tm 0), .tm, none⟩,
 ⟨.callf 105 [(.tm 2), (.tm 0)], .tm, none⟩], []⟩
def f82 : AFunc := ⟨[0, 1, 5],
 .seq (.reg [
 ⟨.mov (.fr 0), .tm, none⟩,
 ⟨.eqv 1 true (.tm 0) (.c (.pointer none)), .fr 2, none⟩]) <|
 .cond (.fr 2)
 (.reg [
 ⟨.mov (.fr 0), .tm, none⟩,
 ⟨.mov (.fr 0), .tm, none⟩,
 ⟨.nilck (.tm 0), .tm, none⟩,
 ⟨.faddr 0 (.tm 0), .tm, none⟩,
 ⟨.load1 (.tm 0), .tm, none⟩,
 ⟨.mov (.fr 1), .tm, none⟩,
 ⟨.app 5 1 1 (.tm 1) (.tm 0), .tm, none⟩,
 ⟨.nilck (.tm 6), .tm, none⟩,
 ⟨.faddr 0 (.tm 0), .tm, none⟩,
 ⟨.store1 (.tm 0) (.tm 2), .no, none⟩])
 (.skip), []⟩
def f84 : AFunc := ⟨[0, 1],
 .reg [
 ⟨.mov (.fr 0), .tm, none⟩,
 ⟨.mov (.fr 1), .tm, none⟩,
 ⟨.iface 24 (.tm 0), .tm, none⟩,
 ⟨.callf 105 [(.tm 2), (.tm 0)], .tm, none⟩], []⟩
def f85 : AFunc := ⟨[0, 1],
 .reg [
 ⟨.mov (.fr 0), .tm, none⟩,
 ⟨.mov (.fr 1), .tm, none⟩,
 ⟨.iface 25 (.tm 0), .tm, none⟩,
 ⟨.callf 105 [(.tm 2), (.tm 0)], .tm, none⟩], []⟩
def f96 : AFunc := ⟨[0, 2],
 .seq (.reg [
 ⟨.mov (.c (.pointer none)), .fr 1, none⟩]) <|
 .seq (.reg [
 ⟨.mov (.fr 0), .tm, none⟩,
 ⟨.callf 73 [(.tm 0)], .tm, none⟩,
 ⟨.build [(.slice none 0 0), (.bool false)] [(0, 1, (.tm 0))], .tm, none⟩,
 ⟨.box 171 2 (.tm 0), .tm, none⟩,
 ⟨.mov (.tm 0), .fr 1, none⟩]) <|
 .ret, [.t 1]⟩
def f98 : AFunc := ⟨[0, 1, 4],
 .seq (.reg [
 ⟨.mov (.c .nilIface), .fr 2, none⟩]) <|
 .seq (.reg [
 ⟨.mov (.fr 0), .tm, none⟩,
 ⟨.mov (.fr 1), .tm, none⟩,
 ⟨.callf 103 [(.tm 1), (.tm 0)], .tm, none⟩,
 ⟨.mov (.fr 1), .tm, none⟩,
 ⟨.callf 110 [(.tm 1), (.tm 0)], .tm, none⟩,
 ⟨.mov (.tm 0), .fr 2, none⟩]) <|
 .ret, [.t 2]⟩
def f99 : AFunc := ⟨[0, 2],
 .seq (.reg [
 ⟨.mov (.c (.bool false)), .fr 1, none⟩]) <|
 .seq (.reg [
 ⟨.mov (.fr 0), .tm, none⟩,
 ⟨.eqv 1 false (.tm 0) (.c (.pointer none)), .tm, none⟩,
 ⟨.mov (.tm 0), .tm, none⟩,
 ⟨.mov (.fr 0), .tm, some ((.tm 0), false)⟩,
 ⟨.nilck (.tm 0), .tm, some ((.tm 1), false)⟩,
 ⟨.faddr 1 (.tm 0), .tm, some ((.tm 2), false)⟩,
 ⟨.load1 (.tm 0), .tm, some ((.tm 3), false)⟩,
 ⟨.pick (.tm 4) (.c (.bool true)) (.tm 0), .tm, none⟩,
 ⟨.mov (.tm 0), .fr 1, none⟩]) <|
 .ret, [.t 1]⟩
def f100 : AFunc := ⟨[0, 2, 4],
 .seq (.reg [
 ⟨.mov (.c (.int .i64 0)), .fr 1, none⟩]) <|
 .seq (.seq (.reg [
 ⟨.mov (.fr 0), .tm, none⟩,
 ⟨.eqv 1 false (.tm 0) (.c (.pointer none)), .fr 2, none⟩]) <|
 .cond (.fr 2)
 (.seq (.reg [
 ⟨.mov (.c (.int .i64 0)), .fr 1, none⟩]) <|
 .ret)
 (.skip)) <|
 .seq (.reg [
 ⟨.mov (.fr 0), .tm, none⟩,
 ⟨.nilck (.tm 0), .tm, none⟩,
 ⟨.faddr 0 (.tm 0), .tm, none⟩,
 ⟨.load1 (.tm 0), .tm, none⟩,
 ⟨.len false (.tm 0), .tm, none⟩,
 ⟨.mov (.tm 0), .fr 1, none⟩]) <|
 .ret, [.t 1]⟩
def f102 : AFunc := ⟨[0, 2, 3, 4, 8],
 .seq (.reg [
 ⟨.mov (.c (.int .u64 0)), .fr 1, none⟩]) <|
 .seq (.reg [
 ⟨.mov (.c (.int .u64 0)), .fr 2, none⟩]) <|
 .seq (.seq (.reg [
 ⟨.mov (.c (.int .i64 0)), .fr 3, none⟩]) <|
 .block 0 (.loop (.seq (.seq (.reg [
 ⟨.mov (.fr 3), .tm, none⟩,
 ⟨.mov (.fr 0), .tm, none⟩,
 ⟨.len false (.tm 0), .tm, none⟩,
 ⟨.bin .lss (.tm 2) (.tm 0), .fr 4, none⟩]) <|
 .cond (.fr 4)
 (.skip)
 (.exit 0)) <|
 .seq (.block 1 (.reg [
 ⟨.mov (.fr 2), .tm, none⟩,
 ⟨.bin .shl (.tm 0) (.c (.int .u64 8)), .tm, none⟩,
 ⟨.mov (.fr 0), .tm, none⟩,
 ⟨.mov (.fr 3), .tm, none⟩,
 ⟨.iaddr 1 (.tm 1) (.tm 0), .tm, none⟩,
 ⟨.load1 (.tm 0), .tm, none⟩,
 ⟨.i2i .u64 (.tm 0), .tm, none⟩,
 ⟨.bin .or (.tm 5) (.tm 0), .tm, none⟩,
 ⟨.mov (.tm 0), .fr 2, none⟩])) <|
 .reg [
 ⟨.mov (.fr 3), .tm, none⟩,
 ⟨.bin .add (.tm 0) (.c (.int .i64 1)), .tm, none⟩,
 ⟨.mov (.tm 0), .fr 3, none⟩]))) <|
 .seq (.reg [
 ⟨.mov (.fr 2), .tm, none⟩,
 ⟨.mov (.tm 0), .fr 1, none⟩]) <|
 .ret, [.t 1]⟩
def f103 : AFunc := ⟨[0, 1, 4, 5, 6, 9],
 .seq (.reg [
 ⟨.mov (.c (.slice none 0 0)), .fr 2, none⟩]) <|
 .seq (.block 0 (.seq (.reg [
 ⟨.mov (.fr 0), .tm, none⟩,
 ⟨.eqv 1 false (.tm 0) (.c (.pointer none)), .tm, none⟩,
 ⟨.mov (.tm 0), .fr 4, none⟩]) <|
 .cond (.fr 4)
 (.seq (.reg [
 ⟨.mov (.c (.slice none 0 0)), .fr 2, none⟩]) <|
 .ret)
 (.seq (.reg [
 ⟨.mov (.fr 0), .tm, none⟩,
 ⟨.nilck (.tm 0), .tm, none⟩,
 ⟨.faddr 1 (.tm 0), .tm, none⟩,
 ⟨.load1 (.tm 0), .tm, none⟩,
 ⟨.mov (.tm 0), .tm, none⟩,
 ⟨.mov (.fr 1), .tm, some ((.tm 0), false)⟩,
 ⟨.bin .lss (.tm 0) (.c (.int .i64 0)), .tm, some ((.tm 1), false)⟩,
 ⟨.pick (.tm 2) (.c (.bool true)) (.tm 0), .tm, none⟩,
 ⟨.mov (.tm 0), .tm, none⟩,
 ⟨.mov (.fr 1), .tm, some ((.tm 0), false)⟩,
 ⟨.mov (.fr 0), .tm, some ((.tm 1), false)⟩,
 ⟨.nilck (.tm 0), .tm, some ((.tm 2), false)⟩,
 ⟨.faddr 0 (.tm 0), .tm, some ((.tm 3), false)⟩,
 ⟨.load1 (.tm 0), .tm, some ((.tm 4), false)⟩,
 ⟨.len false (.tm 0), .tm, some ((.tm 5), false)⟩,
 ⟨.bin .gtr (.tm 5) (.tm 0), .tm, some ((.tm 6), false)⟩,
 ⟨.pick (.tm 7) (.c (.bool true)) (.tm 0), .tm, none⟩,
 ⟨.mov (.tm 0), .fr 5, none⟩]) <|
 .cond (.fr 5)
 (.seq (.reg [
 ⟨.mov (.fr 0), .tm, none⟩,
 ⟨.mov (.fr 0), .tm, none⟩,
 ⟨.nilck (.tm 1), .tm, none⟩,
 ⟨.faddr 0 (.tm 0), .tm, none⟩,
 ⟨.store1 (.tm 0) (.c (.slice none 0 0)), .no, none⟩,
 ⟨.nilck (.tm 2), .tm, none⟩,
 ⟨.faddr 1 (.tm 0), .tm, none⟩,
 ⟨.store1 (.tm 0) (.c (.bool true)), .no, none⟩]) <|
 .seq (.reg [
 ⟨.mov (.c (.slice none 0 0)), .fr 2, none⟩]) <|
 .ret)
 (.skip)))) <|
 .seq (.reg [
 ⟨.mov (.fr 0), .tm, none⟩,
 ⟨.nilck (.tm 0), .tm, none⟩,
 ⟨.faddr 0 (.tm 0), .tm, none⟩,
 ⟨.load1 (.tm 0), .tm, none⟩,
 ⟨.mov (.fr 1), .tm, none⟩,
 ⟨.mov (.fr 1), .tm, none⟩,
 ⟨.slsl 1 (.tm 2) none (some (.tm 1)) (some (.tm 0)), .tm, none⟩,
 ⟨.mov (.tm 0), .fr 3, none⟩]) <|
 .seq (.reg [
 ⟨.mov (.fr 0), .tm, none⟩,
 ⟨.mov (.fr 0), .tm, none⟩,
 ⟨.nilck (.tm 0), .tm, none⟩,
 ⟨.faddr 0 (.tm 0), .tm, none⟩,
 ⟨.load1 (.tm 0), .tm, none⟩,
 ⟨.mov (.fr 1), .tm, none⟩,
 ⟨.slsl 1 (.tm 1) (some (.tm 0)) none none, .tm, none⟩,
 ⟨.nilck (.tm 6), .tm, none⟩,
 ⟨.faddr 0 (.tm 0), .tm, none⟩,
 ⟨.store1 (.tm 0) (.tm 2), .no, none⟩]) <|
 .seq (.reg [
 ⟨.mov (.fr 3), .tm, none⟩,
 ⟨.mov (.tm 0), .fr 2, none⟩]) <|
 .ret, [.t 2]⟩
def f104 : AFunc := ⟨[0, 2, 4],
 .seq (.reg [
 ⟨.mov (.c (.slice none 0 0)), .fr 1, none⟩]) <|
 .seq (.seq (.reg [
 ⟨.mov (.fr 0), .tm, none⟩,
 ⟨.eqv 1 false (.tm 0) (.c (.pointer none)), .fr 2, none⟩]) <|
 .cond (.fr 2)
 (.seq (.reg [
 ⟨.mov (.c (.slice none 0 0)), .fr 1, none⟩]) <|
 .ret)
 (.skip)) <|
 .seq (.reg [
 ⟨.mov (.fr 0), .tm, none⟩,
 ⟨.nilck (.tm 0), .tm, none⟩,
 ⟨.faddr 0 (.tm 0), .tm, none⟩,
 ⟨.load1 (.tm 0), .tm, none⟩,
 ⟨.callf 73 [(.tm 0)], .tm, none⟩,
 ⟨.mov (.tm 0), .fr 1, none⟩]) <|
 .ret, [.t 1]⟩
def f105 : AFunc := ⟨[0, 1, 4, 5, 6, 8, 18],
 .seq (.seq (.reg [
 ⟨.mov (.fr 0), .tm, none⟩,
 ⟨.eqv 1 false (.tm 0) (.c (.pointer none)), .fr 5, none⟩]) <|
 .cond (.fr 5)
 (.ret)
 (.skip)) <|
 .seq (.reg [
 ⟨.mov (.fr 1), .tm, none⟩,
 ⟨.callf 114 [(.tm 0)], .tm, none⟩,
 ⟨.mov (.tm 0), .tm, none⟩,
 ⟨.extract (.tm 0) 0, .tm, none⟩,
 ⟨.extract (.tm 1) 1, .tm, none⟩,
 ⟨.mov (.tm 1), .fr 2, none⟩,
 ⟨.mov (.tm 0), .fr 3, none⟩]) <|
 .seq (.reg [
 ⟨.mov (.fr 3), .tm, none⟩,
 ⟨.bin .sub (.tm 0) (.c (.int .i64 1)), .tm, none⟩,
 ⟨.bin .mul (.c (.int .i64 8)) (.tm 0), .tm, none⟩,
 ⟨.mov (.tm 0), .fr 4, none⟩]) <|
 .block 0 (.loop (.seq (.seq (.reg [
 ⟨.mov (.fr 4), .tm, none⟩,
 ⟨.bin .geq (.tm 0) (.c (.int .i64 0)), .fr 6, none⟩]) <|
 .cond (.fr 6)
 (.skip)
 (.exit 0)) <|
 .seq (.block 1 (.dreg [
 (⟨.mov (.fr 0), .tm, none⟩, []),
 (⟨.mov (.fr 0), .tm, none⟩, []),
 (⟨.nilck (.tm 0), .tm, none⟩, []),
 (⟨.faddr 0 (.tm 0), .tm, none⟩, []),
 (⟨.load1 (.tm 0), .tm, none⟩, []),
 (⟨.mov (.fr 2), .tm, none⟩, []),
 (⟨.mov (.fr 4), .tm, none⟩, []),
 (⟨.bin .shr (.tm 1) (.tm 0), .tm, none⟩, []),
 (⟨.i2i .u8 (.tm 0), .tm, none⟩, []),
 (⟨.bslice 5 1 1 [(.int .u8 0)] [(0, 1, (.tm 0))], .tm, none⟩, []),
 (⟨.app 5 1 1 (.tm 5) (.tm 0), .tm, none⟩, []),
 (⟨.nilck (.tm 10), .tm, none⟩, []),
 (⟨.faddr 0 (.tm 0), .tm, none⟩, []),
 (⟨.store1 (.tm 0) (.tm 2), .no, none⟩, [])])) <|
 .reg [
 ⟨.mov (.fr 4), .tm, none⟩,
 ⟨.bin .sub (.tm 0) (.c (.int .i64 8)), .tm, none⟩,
 ⟨.mov (.tm 0), .fr 4, none⟩])), []⟩
def f106 : AFunc := ⟨[0, 1, 4, 5, 6, 10],
 .seq (.reg [
 ⟨.mov (.c (.slice none 0 0)), .fr 2, none⟩]) <|
 .seq (.reg [
 ⟨.mov (.c (.slice none 0 0)), .fr 3, none⟩]) <|
 .seq (.seq (.reg [
 ⟨.mov (.fr 1), .tm, none⟩,
 ⟨.bin .sub (.tm 0) (.c (.int .i64 1)), .tm, none⟩,
 ⟨.mov (.tm 0), .fr 4, none⟩]) <|
 .block 0 (.loop (.seq (.seq (.reg [
 ⟨.mov (.fr 4), .tm, none⟩,
 ⟨.bin .geq (.tm 0) (.c (.int .i64 0)), .fr 5, none⟩]) <|
 .cond (.fr 5)
 (.skip)
 (.exit 0)) <|
 .seq (.block 1 (.reg [
 ⟨.mov (.fr 3), .tm, none⟩,
 ⟨.mov (.fr 0), .tm, none⟩,
 ⟨.mov (.fr 4), .tm, none⟩,
 ⟨.bin .mul (.c (.int .i64 8)) (.tm 0), .tm, none⟩,
 ⟨.bin .shr (.tm 2) (.tm 0), .tm, none⟩,
 ⟨.i2i .u8 (.tm 0), .tm, none⟩,
 ⟨.bslice 5 1 1 [(.int .u8 0)] [(0, 1, (.tm 0))], .tm, none⟩,
 ⟨.app 5 1 1 (.tm 6) (.tm 0), .tm, none⟩,
 ⟨.mov (.tm 0), .fr 3, none⟩])) <|
 .reg [
 ⟨.mov (.fr 4), .tm, none⟩,
 ⟨.bin .sub (.tm 0) (.c (.int .i64 1)), .tm, none⟩,
 ⟨.mov (.tm 0), .fr 4, none⟩]))) <|
 .seq (.reg [
 ⟨.mov (.fr 3), .tm, none⟩,
 ⟨.mov (.tm 0), .fr 2, none⟩]) <|
 .ret, [.t 2]⟩
def f110 : AFunc := ⟨[0, 1, 4, 5, 7, 8, 9, 10, 11, 20, 21, 26, 31],
 .seq (.reg [
 ⟨.mov (.c .nilIface), .fr 2, none⟩]) <|
 .seq (.reg [
 ⟨.mov (.c (.int .u64 0)), .fr 3, none⟩]) <|
 .seq (.seq (.reg [
 ⟨.mov (.fr 0), .fr 5, none⟩,
 ⟨.len false (.fr 5), .fr 6, none⟩,
 ⟨.mov (.c (.int .i64 0)), .fr 7, none⟩]) <|
 .block 0 (.loop (.seq (.reg [
 ⟨.bin .lss (.fr 7) (.fr 6), .fr 8, none⟩]) <|
 .seq (.cond (.fr 8)
 (.skip)
 (.exit 0)) <|
 .seq (.block 1 (.seq (.reg [
 ⟨.iaddr 1 (.fr 5) (.fr 7), .tm, none⟩,
 ⟨.load1 (.tm 0), .tm, none⟩,
 ⟨.mov (.tm 0), .fr 4, none⟩]) <|
 .reg [
 ⟨.mov (.fr 3), .tm, none⟩,
 ⟨.bin .shl (.tm 0) (.c (.int .u64 8)), .tm, none⟩,
 ⟨.mov (.fr 4), .tm, none⟩,
 ⟨.i2i .u64 (.tm 0), .tm, none⟩,
 ⟨.bin .or (.tm 2) (.tm 0), .tm, none⟩,
 ⟨.mov (.tm 0), .fr 3, none⟩])) <|
 .reg [
 ⟨.bin .add (.fr 7) (.c (.int .i64 1)), .tm, none⟩,
 ⟨.mov (.tm 0), .fr 7, none⟩]))) <|
 .seq (.seq (.reg [
 ⟨.mov (.fr 1), .fr 9, none⟩]) <|
 .block 2 (.seq (.reg [
 ⟨.bin .eql (.fr 9) (.c (.int .i64 1)), .tm, none⟩,
 ⟨.mov (.tm 0), .fr 10, none⟩]) <|
 .cond (.fr 10)
 (.seq (.reg [
 ⟨.mov (.fr 3), .tm, none⟩,
 ⟨.i2i .u8 (.tm 0), .tm, none⟩,
 ⟨.iface 5 (.tm 0), .tm, none⟩,
 ⟨.mov (.tm 0), .fr 2, none⟩]) <|
 .ret)
 (.seq (.reg [
 ⟨.bin .eql (.fr 9) (.c (.int .i64 2)), .tm, none⟩,
 ⟨.mov (.tm 0), .fr 11, none⟩]) <|
 .cond (.fr 11)
 (.seq (.reg [
 ⟨.mov (.fr 3), .tm, none⟩,
 ⟨.i2i .u16 (.tm 0), .tm, none⟩,
 ⟨.iface 111 (.tm 0), .tm, none⟩,
 ⟨.mov (.tm 0), .fr 2, none⟩]) <|
 .ret)
 (.seq (.reg [
 ⟨.bin .eql (.fr 9) (.c (.int .i64 4)), .tm, none⟩,
 ⟨.mov (.tm 0), .fr 12, none⟩]) <|
 .cond (.fr 12)
 (.seq (.reg [
 ⟨.mov (.fr 3), .tm, none⟩,
 ⟨.i2i .u32 (.tm 0), .tm, none⟩,
 ⟨.iface 25 (.tm 0), .tm, none⟩,
 ⟨.mov (.tm 0), .fr 2, none⟩]) <|
 .ret)
 (.skip))))) <|
 .seq (.reg [
 ⟨.mov (.fr 3), .tm, none⟩,
 ⟨.iface 24 (.tm 0), .tm, none⟩,
 ⟨.mov (.tm 0), .fr 2, none⟩]) <|
 .ret, [.t 2]⟩
def f114 : AFunc := ⟨[0, 2, 3, 4, 5, 6, 7, 8, 9, 15, 23, 31],
 .seq (.reg [
 ⟨.mov (.c (.int .u64 0)), .fr 1, none⟩,
 ⟨.mov (.c (.int .i64 0)), .fr 2, none⟩]) <|
 .seq (.seq (.reg [
 ⟨.mov (.fr 0), .tm, none⟩,
 ⟨.assert 5 (.int .u8 0) true (.tm 0), .tm, none⟩,
 ⟨.mov (.tm 0), .tm, none⟩,
 ⟨.extract (.tm 0) 0, .tm, none⟩,
 ⟨.extract (.tm 1) 1, .tm, none⟩,
 ⟨.mov (.tm 1), .fr 3, none⟩,
 ⟨.mov (.tm 0), .fr 4, none⟩]) <|
 .seq (.reg [
 ⟨.mov (.fr 4), .fr 9, none⟩]) <|
 .cond (.fr 9)
 (.seq (.reg [
 ⟨.mov (.fr 3), .tm, none⟩,
 ⟨.i2i .u64 (.tm 0), .tm, none⟩,
 ⟨.mov (.tm 0), .fr 1, none⟩,
 ⟨.mov (.c (.int .i64 1)), .fr 2, none⟩]) <|
 .ret)
 (.skip)) <|
 .seq (.seq (.reg [
 ⟨.mov (.fr 0), .tm, none⟩,
 ⟨.assert 111 (.int .u16 0) true (.tm 0), .tm, none⟩,
 ⟨.mov (.tm 0), .tm, none⟩,
 ⟨.extract (.tm 0) 0, .tm, none⟩,
 ⟨.extract (.tm 1) 1, .tm, none⟩,
 ⟨.mov (.tm 1), .fr 5, none⟩,
 ⟨.mov (.tm 0), .fr 6, none⟩]) <|
 .seq (.reg [
 ⟨.mov (.fr 6), .fr 10, none⟩]) <|
 .cond (.fr 10)
 (.seq (.reg [
 ⟨.mov (.fr 5), .tm, none⟩,
 ⟨.i2i .u64 (.tm 0), .tm, none⟩,
 ⟨.mov (.tm 0), .fr 1, none⟩,
 ⟨.mov (.c (.int .i64 2)), .fr 2, none⟩]) <|
 .ret)
 (.skip)) <|
 .seq (.seq (.reg [
 ⟨.mov (.fr 0), .tm, none⟩,
 ⟨.assert 25 (.int .u32 0) true (.tm 0), .tm, none⟩,
 ⟨.mov (.tm 0), .tm, none⟩,
 ⟨.extract (.tm 0) 0, .tm, none⟩,
 ⟨.extract (.tm 1) 1, .tm, none⟩,
 ⟨.mov (.tm 1), .fr 7, none⟩,
 ⟨.mov (.tm 0), .fr 8, none⟩]) <|
 .seq (.reg [
 ⟨.mov (.fr 8), .fr 11, none⟩]) <|
 .cond (.fr 11)
 (.seq (.reg [
 ⟨.mov (.fr 7), .tm, none⟩,
 ⟨.i2i .u64 (.tm 0), .tm, none⟩,
 ⟨.mov (.tm 0), .fr 1, none⟩,
 ⟨.mov (.c (.int .i64 4)), .fr 2, none⟩]) <|
 .ret)
 (.skip)) <|
 .seq (.reg [
 ⟨.mov (.fr 0), .tm, none⟩,
 ⟨.assert 24 (.int .u64 0) false (.tm 0), .tm, none⟩,
 ⟨.mov (.tm 0), .fr 1, none⟩,
 ⟨.mov (.c (.int .i64 8)), .fr 2, none⟩]) <|
 .ret, [.t 1, .t 2]⟩
theorem f63_ok : compF Go.Proofs.Try.prog 0 [0, 2] 63 = some f63 := by kernel_rfl
theorem f63_n : argsOK Go.Proofs.Try.prog 63 1 = true := by kernel_rfl
theorem f64_ok : compF Go.Proofs.Try.prog 0 [0, 2] 64 = some f64 := by kernel_rfl
theorem f64_n : argsOK Go.Proofs.Try.prog 64 1 = true := by kernel_rfl
theorem f65_ok : compF Go.Proofs.Try.prog 0 [0, 2] 65 = some f65 := by kernel_rfl
theorem f65_n : argsOK Go.Proofs.Try.prog 65 1 = true := by kernel_rfl
theorem f73_ok : compF Go.Proofs.Try.prog 0 [0, 2, 4] 73 = some f73 := by kernel_rfl
theorem f73_n : argsOK Go.Proofs.Try.prog 73 1 = true := by kernel_rfl
theorem f74_ok : compF Go.Proofs.Try.prog 0 [0, 1, 4] 74 = some f74 := by kernel_rfl
theorem f74_n : argsOK Go.Proofs.Try.prog 74 2 = true := by kernel_rfl
theorem f75_ok : compF Go.Proofs.Try.prog 0 [0, 2] 75 = some f75 := by kernel_rfl
theorem f75_n : argsOK Go.Proofs.Try.prog 75 1 = true := by kernel_rfl
theorem f79_ok : compF Go.Proofs.Try.prog 0 [0, 1] 79 = some f79 := by kernel_rfl
theorem f79_n : argsOK Go.Proofs.Try.prog 79 2 = true := by kernel_rfl
theorem f81_ok : compF Go.Proofs.Try.prog 0 [0, 1] 81 = some f81 := by kernel_rfl
theorem f81_n : argsOK Go.Proofs.Try.prog 81 2 = true := by kernel_rfl
theorem f82_ok : compF Go.Proofs.Try.prog 0 [0, 1, 5] 82 = some f82 := by kernel_rfl
theorem f82_n : argsOK Go.Proofs.Try.prog 82 2 = true := by kernel_rfl
theorem f84_ok : compF Go.Proofs.Try.prog 0 [0, 1] 84 = some f84 := by kernel_rfl
theorem f84_n : argsOK Go.Proofs.Try.prog 84 2 = true := by kernel_rfl
theorem f85_ok : compF Go.Proofs.Try.prog 0 [0, 1] 85 = some f85 := by kernel_rfl
theorem f85_n : argsOK Go.Proofs.Try.prog 85 2 = true := by kernel_rfl
theorem f96_ok : compF Go.Proofs.Try.prog 0 [0, 2] 96 = some f96 := by kernel_rfl
theorem f96_n : argsOK Go.Proofs.Try.prog 96 1 = true := by kernel_rfl
theorem f98_ok : compF Go.Proofs.Try.prog 0 [0, 1, 4] 98 = some f98 := by kernel_rfl
theorem f98_n : argsOK Go.Proofs.Try.prog 98 2 = true := by kernel_rfl
theorem f99_ok : compF Go.Proofs.Try.prog 0 [0, 2] 99 = some f99 := by kernel_rfl
theorem f99_n : argsOK Go.Proofs.Try.prog 99 1 = true := by kernel_rfl
theorem f100_ok : compF Go.Proofs.Try.prog 0 [0, 2, 4] 100 = some f100 := by kernel_rfl
theorem f100_n : argsOK Go.Proofs.Try.prog 100 1 = true := by kernel_rfl
theorem f102_ok : compF Go.Proofs.Try.prog 0 [0, 2, 3, 4, 8] 102 = some f102 := by kernel_rfl
theorem f102_n : argsOK Go.Proofs.Try.prog 102 1 = true := by kernel_rfl
theorem f103_ok : compF Go.Proofs.Try.prog 0 [0, 1, 4, 5, 6, 9] 103 = some f103 := by kernel_rfl
theorem f103_n : argsOK Go.Proofs.Try.prog 103 2 = true := by kernel_rfl
theorem f104_ok : compF Go.Proofs.Try.prog 0 [0, 2, 4] 104 = some f104 := by kernel_rfl
theorem f104_n : argsOK Go.Proofs.Try.prog 104 1 = true := by kernel_rfl
theorem f105_ok : compF Go.Proofs.Try.prog 0 [0, 1, 4, 5, 6, 8, 18] 105 = some f105 := by kernel_rfl
theorem f105_n : argsOK Go.Proofs.Try.prog 105 2 = true := by kernel_rfl
theorem f106_ok : compF Go.Proofs.Try.prog 0 [0, 1, 4, 5, 6, 10] 106 = some f106 := by kernel_rfl
theorem f106_n : argsOK Go.Proofs.Try.prog 106 2 = true := by kernel_rfl
theorem f110_ok : compF Go.Proofs.Try.prog 0 [0, 1, 4, 5, 7, 8, 9, 10, 11, 20, 21, 26, 31] 110 = some f110 := by kernel_rfl
theorem f110_n : argsOK Go.Proofs.Try.prog 110 2 = true := by kernel_rfl
theorem f114_ok : compF Go.Proofs.Try.prog 0 [0, 2, 3, 4, 5, 6, 7, 8, 9, 15, 23, 31] 114 = some f114 := by kernel_rfl
theorem f114_n : argsOK Go.Proofs.Try.prog 114 1 = true := by kernel_rfl
end Go.AM.F

set_option maxRecDepth 100000
namespace Go.AM.F
def f97 : AFunc := ⟨[0, 2, 3, 5, 6, 7, 8, 9],
 .seq (.reg [
 ⟨.mov (.c (.int .u32 0)), .fr 1, none⟩]) <|
 .seq (.reg [
 ⟨.mov (.c (.int .u32 4294967295)), .fr 2, none⟩]) <|
 .seq (.seq (.reg [
 ⟨.mov (.fr 0), .fr 4, none⟩,
 ⟨.len false (.fr 4), .fr 5, none⟩,
 ⟨.mov (.c (.int .i64 0)), .fr 6, none⟩]) <|
 .block 0 (.loop (.seq (.reg [
 ⟨.bin .lss (.fr 6) (.fr 5), .fr 7, none⟩]) <|
 .seq (.cond (.fr 7)
 (.skip)
 (.exit 0)) <|
 .seq (.block 1 (.seq (.reg [
 ⟨.iaddr 1 (.fr 4) (.fr 6), .tm, none⟩,
 ⟨.load1 (.tm 0), .tm, none⟩,
 ⟨.mov (.tm 0), .fr 3, none⟩]) <|
 .reg [
 ⟨.mov (.fr 2), .tm, none⟩,
 ⟨.mov (.fr 3), .tm, none⟩,
 ⟨.i2i .u32 (.tm 0), .tm, none⟩,
 ⟨.bin .xor (.tm 2) (.tm 0), .tm, none⟩,
 ⟨.callf 108 [(.tm 0), (.fn 109)], .tm, none⟩,
 ⟨.mov (.tm 0), .fr 2, none⟩])) <|
 .reg [
 ⟨.bin .add (.fr 6) (.c (.int .i64 1)), .tm, none⟩,
 ⟨.mov (.tm 0), .fr 6, none⟩]))) <|
 .seq (.reg [
 ⟨.mov (.fr 2), .tm, none⟩,
 ⟨.un .xor (.tm 0), .tm, none⟩,
 ⟨.mov (.tm 0), .fr 1, none⟩]) <|
 .ret, [.t 1]⟩
def f107 : AFunc := ⟨[0, 2],
 .seq (.reg [
 ⟨.mov (.c (.int .u32 0)), .fr 1, none⟩]) <|
 .seq (.reg [
 ⟨.mov (.fr 0), .tm, none⟩,
 ⟨.callf 115 [(.c (.int .u32 4294967295)), (.tm 0)], .tm, none⟩,
 ⟨.un .xor (.tm 0), .tm, none⟩,
 ⟨.mov (.tm 0), .fr 1, none⟩]) <|
 .ret, [.t 1]⟩
def f108 : AFunc := ⟨[0, 1, 4, 5, 6],
 .seq (.reg [
 ⟨.mov (.c (.int .u32 0)), .fr 2, none⟩]) <|
 .seq (.seq (.reg [
 ⟨.mov (.c (.int .i64 0)), .fr 3, none⟩]) <|
 .block 0 (.loop (.seq (.reg [
 ⟨.bin .lss (.fr 3) (.c (.int .i64 8)), .fr 4, none⟩]) <|
 .seq (.cond (.fr 4)
 (.skip)
 (.exit 0)) <|
 .seq (.block 1 (.reg [
 ⟨.mov (.fr 1), .tm, none⟩,
 ⟨.mov (.fr 0), .tm, none⟩,
 ⟨.callv (.tm 1) [(.tm 0)], .tm, none⟩,
 ⟨.mov (.tm 0), .fr 0, none⟩])) <|
 .reg [
 ⟨.bin .add (.fr 3) (.c (.int .i64 1)), .tm, none⟩,
 ⟨.mov (.tm 0), .fr 3, none⟩]))) <|
 .seq (.reg [
 ⟨.mov (.fr 0), .tm, none⟩,
 ⟨.mov (.tm 0), .fr 2, none⟩]) <|
 .ret, [.t 2]⟩
def f109 : AFunc := ⟨[0, 2, 5],
 .seq (.reg [
 ⟨.mov (.c (.int .u32 0)), .fr 1, none⟩]) <|
 .seq (.seq (.reg [
 ⟨.mov (.fr 0), .tm, none⟩,
 ⟨.bin .and (.tm 0) (.c (.int .u32 1)), .tm, none⟩,
 ⟨.bin .gtr (.tm 0) (.c (.int .u32 0)), .fr 2, none⟩]) <|
 .cond (.fr 2)
 (.seq (.reg [
 ⟨.mov (.fr 0), .tm, none⟩,
 ⟨.bin .shr (.tm 0) (.c (.int .u64 1)), .tm, none⟩,
 ⟨.bin .xor (.tm 0) (.c (.int .u32 3988292384)), .tm, none⟩,
 ⟨.mov (.tm 0), .fr 1, none⟩]) <|
 .ret)
 (.skip)) <|
 .seq (.reg [
 ⟨.mov (.fr 0), .tm, none⟩,
 ⟨.bin .shr (.tm 0) (.c (.int .u64 1)), .tm, none⟩,
 ⟨.mov (.tm 0), .fr 1, none⟩]) <|
 .ret, [.t 1]⟩
def f115 : AFunc := ⟨[0, 1, 4, 5, 6, 7, 8, 13, 26, 33],
 .seq (.reg [
 ⟨.mov (.c (.int .u32 0)), .fr 2, none⟩]) <|
 .seq (.reg [
 ⟨.bslice 25 1 8 [(.int .u32 0), (.int .u32 0), (.int .u32 0), (.int .u32 0), (.int .u32 0), (.int .u32 0), (.int .u32 0), (.int .u32 0)] [(0, 1, (.c (.int .u32 1996959894))), (1, 1, (.c (.int .u32 3993919788))), (2, 1, (.c (.int .u32 124634137))), (3, 1, (.c (.int .u32 249268274))), (4, 1, (.c (.int .u32 498536548))), (5, 1, (.c (.int .u32 997073096))), (6, 1, (.c (.int .u32 1994146192))), (7, 1, (.c (.int .u32 3988292384)))], .tm, none⟩,
 ⟨.mov (.tm 0), .fr 3, none⟩]) <|
 .seq (.seq (.reg [
 ⟨.mov (.c (.int .i64 0)), .fr 4, none⟩]) <|
 .block 0 (.loop (.seq (.seq (.reg [
 ⟨.mov (.fr 4), .tm, none⟩,
 ⟨.mov (.fr 1), .tm, none⟩,
 ⟨.len false (.tm 0), .tm, none⟩,
 ⟨.bin .lss (.tm 2) (.tm 0), .fr 7, none⟩]) <|
 .cond (.fr 7)
 (.skip)
 (.exit 0)) <|
 .seq (.block 1 (.seq (.reg [
 ⟨.mov (.fr 0), .tm, none⟩,
 ⟨.i2i .u8 (.tm 0), .tm, none⟩,
 ⟨.mov (.fr 1), .tm, none⟩,
 ⟨.mov (.fr 4), .tm, none⟩,
 ⟨.iaddr 1 (.tm 1) (.tm 0), .tm, none⟩,
 ⟨.load1 (.tm 0), .tm, none⟩,
 ⟨.bin .xor (.tm 4) (.tm 0), .tm, none⟩,
 ⟨.mov (.tm 0), .fr 5, none⟩]) <|
 .seq (.reg [
 ⟨.mov (.fr 0), .tm, none⟩,
 ⟨.bin .shr (.tm 0) (.c (.int .u64 8)), .tm, none⟩,
 ⟨.mov (.tm 0), .fr 0, none⟩]) <|
 .seq (.reg [
 ⟨.mov (.c (.int .i64 0)), .fr 6, none⟩]) <|
 .block 2 (.loop (.seq (.seq (.reg [
 ⟨.mov (.fr 6), .tm, none⟩,
 ⟨.bin .lss (.tm 0) (.c (.int .i64 8)), .fr 8, none⟩]) <|
 .cond (.fr 8)
 (.skip)
 (.exit 2)) <|
 .seq (.block 3 (.seq (.reg [
 ⟨.mov (.fr 5), .tm, none⟩,
 ⟨.mov (.fr 6), .tm, none⟩,
 ⟨.bin .shr (.tm 1) (.tm 0), .tm, none⟩,
 ⟨.bin .and (.tm 0) (.c (.int .u8 1)), .tm, none⟩,
 ⟨.bin .eql (.tm 0) (.c (.int .u8 1)), .fr 9, none⟩]) <|
 .cond (.fr 9)
 (.reg [
 ⟨.mov (.fr 0), .tm, none⟩,
 ⟨.mov (.fr 3), .tm, none⟩,
 ⟨.mov (.fr 6), .tm, none⟩,
 ⟨.iaddr 1 (.tm 1) (.tm 0), .tm, none⟩,
 ⟨.load1 (.tm 0), .tm, none⟩,
 ⟨.bin .xor (.tm 4) (.tm 0), .tm, none⟩,
 ⟨.mov (.tm 0), .fr 0, none⟩])
 (.skip))) <|
 .reg [
 ⟨.mov (.fr 6), .tm, none⟩,
 ⟨.bin .add (.tm 0) (.c (.int .i64 1)), .tm, none⟩,
 ⟨.mov (.tm 0), .fr 6, none⟩])))) <|
 .reg [
 ⟨.mov (.fr 4), .tm, none⟩,
 ⟨.bin .add (.tm 0) (.c (.int .i64 1)), .tm, none⟩,
 ⟨.mov (.tm 0), .fr 4, none⟩]))) <|
 .seq (.reg [
 ⟨.mov (.fr 0), .tm, none⟩,
 ⟨.mov (.tm 0), .fr 2, none⟩]) <|
 .ret, [.t 2]⟩
theorem f97_ok : compF Go.Proofs.Try.prog 0 [0, 2, 3, 5, 6, 7, 8, 9] 97 = some f97 := by kernel_rfl
theorem f97_n : argsOK Go.Proofs.Try.prog 97 1 = true := by kernel_rfl
theorem f107_ok : compF Go.Proofs.Try.prog 0 [0, 2] 107 = some f107 := by kernel_rfl
theorem f107_n : argsOK Go.Proofs.Try.prog 107 1 = true := by kernel_rfl
theorem f108_ok : compF Go.Proofs.Try.prog 0 [0, 1, 4, 5, 6] 108 = some f108 := by kernel_rfl
theorem f108_n : argsOK Go.Proofs.Try.prog 108 2 = true := by kernel_rfl
theorem f109_ok : compF Go.Proofs.Try.prog 0 [0, 2, 5] 109 = some f109 := by kernel_rfl
theorem f109_n : argsOK Go.Proofs.Try.prog 109 1 = true := by kernel_rfl
theorem f115_ok : compF Go.Proofs.Try.prog 0 [0, 1, 4, 5, 6, 7, 8, 13, 26, 33] 115 = some f115 := by kernel_rfl
theorem f115_n : argsOK Go.Proofs.Try.prog 115 2 = true := by kernel_rfl
end Go.AM.F

set_option maxRecDepth 100000
namespace Go.AM.F
def Z68 : List Value := [(.int .u64 0), (.int .u64 0), (.int .u64 0), (.int .u8 0), (.int .u8 0), (.int .u8 0), (.int .u8 0), (.int .u8 0), (.int .u8 0), (.int .u8 0), (.int .u8 0), (.int .u8 0), (.int .u8 0), (.int .u8 0), (.int .u8 0), (.int .u8 0), (.int .u8 0), (.int .u8 0), (.int .u8 0), (.int .u8 0), (.int .u8 0), (.int .u8 0), (.int .u8 0), (.int .u8 0), (.int .u8 0), (.int .u8 0), (.int .u8 0), (.int .u8 0), (.int .u8 0), (.int .u8 0), (.int .u8 0), (.int .u8 0), (.int .u8 0), (.int .u8 0), (.int .u8 0), (.int .u8 0), (.int .u8 0), (.int .u8 0), (.int .u8 0), (.int .u8 0), (.int .u8 0), (.int .u8 0), (.int .u8 0), (.int .u8 0), (.int .u8 0), (.int .u8 0), (.int .u8 0), (.int .u8 0), (.int .u8 0), (.int .u8 0), (.int .u8 0), (.int .u8 0), (.int .u8 0), (.int .u8 0), (.int .u8 0), (.int .u8 0), (.int .u8 0), (.int .u8 0), (.int .u8 0), (.int .u8 0), (.int .u8 0), (.int .u8 0), (.int .u8 0), (.int .u8 0), (.int .u8 0), (.int .u8 0), (.int .u8 0), (.int .u32 0)]
def Z70 : List Value := [(.int .i64 0), (.int .i64 0), (.int .u64 0), (.int .u64 0), (.int .u64 0), (.int .u8 0), (.int .u8 0), (.int .u8 0), (.int .u8 0), (.int .u8 0), (.int .u8 0), (.int .u8 0), (.int .u8 0), (.int .u8 0), (.int .u8 0), (.int .u8 0), (.int .u8 0), (.int .u8 0), (.int .u8 0), (.int .u8 0), (.int .u8 0), (.int .u8 0), (.int .u8 0), (.int .u8 0), (.int .u8 0), (.int .u8 0), (.int .u8 0), (.int .u8 0), (.int .u8 0), (.int .u8 0), (.int .u8 0), (.int .u8 0), (.int .u8 0), (.int .u8 0), (.int .u8 0), (.int .u8 0), (.int .u8 0), (.int .u8 0), (.int .u8 0), (.int .u8 0), (.int .u8 0), (.int .u8 0), (.int .u8 0), (.int .u8 0), (.int .u8 0), (.int .u8 0), (.int .u8 0), (.int .u8 0), (.int .u8 0), (.int .u8 0), (.int .u8 0), (.int .u8 0), (.int .u8 0), (.int .u8 0), (.int .u8 0), (.int .u8 0), (.int .u8 0), (.int .u8 0), (.int .u8 0), (.int .u8 0), (.int .u8 0), (.int .u8 0), (.int .u8 0), (.int .u8 0), (.int .u8 0), (.int .u8 0), (.int .u8 0), (.int .u8 0), (.int .u8 0), (.int .u32 0)]
def f12 : AFunc := ⟨[0, 2, 3, 4, 5, 6, 26, 27, 28],
 .seq (.reg [
 ⟨.new 30 6 [(.int .u8 0), (.int .i64 0), (.int .u64 0), (.int .u32 0), (.int .u32 0), (.slice none 0 0)], .fr 1, none⟩,
 ⟨.mov (.c (.int .i64 0)), .fr 2, none⟩]) <|
 .seq (.reg [
 ⟨.mov (.fr 0), .tm, none⟩,
 ⟨.callf 62 [(.c (.int .u8 1)), (.tm 0)], .tm, none⟩,
 ⟨.mov (.tm 0), .tm, none⟩,
 ⟨.extract (.tm 0) 0, .tm, none⟩,
 ⟨.extract (.tm 1) 1, .tm, none⟩,
 ⟨.mov (.tm 1), .fr 3, none⟩,
 ⟨.mov (.tm 0), .fr 4, none⟩]) <|
 .seq (.reg [
 ⟨.mov (.fr 3), .tm, none⟩,
 ⟨.callf 63 [(.tm 0)], .tm, none⟩,
 ⟨.mov (.fr 3), .tm, none⟩,
 ⟨.callf 64 [(.tm 0)], .tm, none⟩,
 ⟨.i2i .i64 (.tm 0), .tm, none⟩,
 ⟨.mov (.fr 3), .tm, none⟩,
 ⟨.callf 64 [(.tm 0)], .tm, none⟩,
 ⟨.mov (.fr 3), .tm, none⟩,
 ⟨.callf 65 [(.tm 0)], .tm, none⟩,
 ⟨.mov (.fr 3), .tm, none⟩,
 ⟨.callf 65 [(.tm 0)], .tm, none⟩,
 ⟨.build [(.int .u64 0), (.int .u32 0), (.int .u32 0), (.slice none 0 0)] [(0, 1, (.tm 4)), (1, 1, (.tm 2)), (2, 1, (.tm 0))], .tm, none⟩,
 ⟨.build [(.int .u8 0), (.int .i64 0), (.int .u64 0), (.int .u32 0), (.int .u32 0), (.slice none 0 0)] [(0, 1, (.tm 10)), (1, 1, (.tm 7)), (2, 4, (.tm 0))], .tm, none⟩,
 ⟨.new 30 6 [(.int .u8 0), (.int .i64 0), (.int .u64 0), (.int .u32 0), (.int .u32 0), (.slice none 0 0)], .fr 5, none⟩,
 ⟨.storen 6 (.fr 5) (.tm 0), .no, none⟩]) <|
 .seq (.seq (.reg [
 ⟨.mov (.fr 3), .tm, none⟩,
 ⟨.callf 63 [(.tm 0)], .fr 6, none⟩,
 ⟨.mov (.c (.int .u8 0)), .fr 7, none⟩]) <|
 .block 0 (.loop (.seq (.reg [
 ⟨.bin .lss (.fr 7) (.fr 6), .fr 8, none⟩]) <|
 .seq (.cond (.fr 8)
 (.skip)
 (.exit 0)) <|
 .seq (.block 1 (.dreg [
 (⟨.faddr 2 (.fr 5), .tm, none⟩, []),
 (⟨.faddr 3 (.tm 0), .tm, none⟩, []),
 (⟨.load1 (.tm 0), .tm, none⟩, []),
 (⟨.mov (.fr 3), .tm, none⟩, []),
 (⟨.callf 63 [(.tm 0)], .tm, none⟩, [2]),
 (⟨.mov (.fr 3), .tm, none⟩, []),
 (⟨.callf 63 [(.tm 0)], .tm, none⟩, [2]),
 (⟨.i2i .i64 (.tm 0), .tm, none⟩, []),
 (⟨.build [(.int .u8 0), (.int .i64 0)] [(0, 1, (.tm 3)), (1, 1, (.tm 0))], .tm, none⟩, []),
 (⟨.bslice 108 2 1 [(.int .u8 0), (.int .i64 0)] [(0, 2, (.tm 0))], .tm, none⟩, []),
 (⟨.app 108 2 16 (.tm 7) (.tm 0), .tm, none⟩, []),
 (⟨.faddr 2 (.fr 5), .tm, none⟩, []),
 (⟨.faddr 3 (.tm 0), .tm, none⟩, []),
 (⟨.store1 (.tm 0) (.tm 2), .no, none⟩, [])])) <|
 .reg [
 ⟨.bin .add (.fr 7) (.c (.int .u8 1)), .tm, none⟩,
 ⟨.mov (.tm 0), .fr 7, none⟩]))) <|
 .seq (.reg [
 ⟨.mov (.fr 3), .tm, none⟩,
 ⟨.mov (.fr 4), .tm, none⟩,
 ⟨.loadn 6 (.fr 5), .tm, none⟩,
 ⟨.callf 66 [(.tm 2), (.tm 1), (.tm 0)], .tm, none⟩,
 ⟨.extract (.tm 0) 0, .tm, none⟩,
 ⟨.extract (.tm 1) 1, .tm, none⟩,
 ⟨.storen 6 (.fr 1) (.tm 1), .no, none⟩,
 ⟨.mov (.tm 0), .fr 2, none⟩]) <|
 .ret, [.cn 6 1, .t 2]⟩
def f13 : AFunc := ⟨[0, 2, 3, 4, 5, 6, 9, 40, 44, 73],
 .seq (.reg [
 ⟨.new 34 6 [(.int .u8 0), (.int .i64 0), (.int .u64 0), (.int .u32 0), (.int .u32 0), (.slice none 0 0)], .fr 1, none⟩,
 ⟨.mov (.c (.bool false)), .fr 2, none⟩]) <|
 .seq (.seq (.reg [
 ⟨.mov (.fr 0), .tm, none⟩,
 ⟨.len false (.tm 0), .tm, none⟩,
 ⟨.bin .lss (.tm 0) (.c (.int .i64 31)), .fr 6, none⟩]) <|
 .cond (.fr 6)
 (.seq (.reg [
 ⟨.build [(.int .u8 0), (.int .i64 0), (.int .u64 0), (.int .u32 0), (.int .u32 0), (.slice none 0 0)] [], .tm, none⟩,
 ⟨.storen 6 (.fr 1) (.tm 0), .no, none⟩,
 ⟨.mov (.c (.bool false)), .fr 2, none⟩]) <|
 .ret)
 (.skip)) <|
 .seq (.dreg [
 (⟨.mov (.fr 0), .tm, none⟩, []),
 (⟨.iaddr 1 (.tm 0) (.c (.int .i64 1)), .tm, none⟩, []),
 (⟨.load1 (.tm 0), .tm, none⟩, []),
 (⟨.mov (.fr 0), .tm, none⟩, []),
 (⟨.callf 67 [(.tm 0), (.c (.int .i64 2)), (.c (.int .i64 8))], .tm, none⟩, [2]),
 (⟨.i2i .i64 (.tm 0), .tm, none⟩, []),
 (⟨.mov (.fr 0), .tm, none⟩, []),
 (⟨.callf 67 [(.tm 0), (.c (.int .i64 10)), (.c (.int .i64 8))], .tm, none⟩, [2]),
 (⟨.mov (.fr 0), .tm, none⟩, []),
 (⟨.callf 67 [(.tm 0), (.c (.int .i64 18)), (.c (.int .i64 4))], .tm, none⟩, [2]),
 (⟨.i2i .u32 (.tm 0), .tm, none⟩, []),
 (⟨.mov (.fr 0), .tm, none⟩, []),
 (⟨.callf 67 [(.tm 0), (.c (.int .i64 22)), (.c (.int .i64 4))], .tm, none⟩, [2]),
 (⟨.i2i .u32 (.tm 0), .tm, none⟩, []),
 (⟨.build [(.int .u64 0), (.int .u32 0), (.int .u32 0), (.slice none 0 0)] [(0, 1, (.tm 6)), (1, 1, (.tm 3)), (2, 1, (.tm 0))], .tm, none⟩, []),
 (⟨.build [(.int .u8 0), (.int .i64 0), (.int .u64 0), (.int .u32 0), (.int .u32 0), (.slice none 0 0)] [(0, 1, (.tm 12)), (1, 1, (.tm 9)), (2, 4, (.tm 0))], .tm, none⟩, []),
 (⟨.new 34 6 [(.int .u8 0), (.int .i64 0), (.int .u64 0), (.int .u32 0), (.int .u32 0), (.slice none 0 0)], .fr 3, none⟩, []),
 (⟨.storen 6 (.fr 3) (.tm 0), .no, none⟩, [])]) <|
 .seq (.reg [
 ⟨.mov (.fr 0), .tm, none⟩,
 ⟨.iaddr 1 (.tm 0) (.c (.int .i64 26)), .tm, none⟩,
 ⟨.load1 (.tm 0), .tm, none⟩,
 ⟨.i2i .i64 (.tm 0), .tm, none⟩,
 ⟨.mov (.tm 0), .fr 4, none⟩]) <|
 .seq (.seq (.reg [
 ⟨.mov (.fr 4), .tm, none⟩,
 ⟨.bin .gtr (.tm 0) (.c (.int .i64 8)), .tm, none⟩,
 ⟨.mov (.tm 0), .tm, none⟩,
 ⟨.mov (.fr 0), .tm, some ((.tm 0), false)⟩,
 ⟨.len false (.tm 0), .tm, some ((.tm 1), false)⟩,
 ⟨.mov (.fr 4), .tm, some ((.tm 2), false)⟩,
 ⟨.bin .mul (.c (.int .i64 2)) (.tm 0), .tm, some ((.tm 3), false)⟩,
 ⟨.bin .add (.c (.int .i64 31)) (.tm 0), .tm, some ((.tm 4), false)⟩,
 ⟨.bin .neq (.tm 3) (.tm 0), .tm, some ((.tm 5), false)⟩,
 ⟨.pick (.tm 6) (.c (.bool true)) (.tm 0), .fr 7, none⟩]) <|
 .cond (.fr 7)
 (.seq (.reg [
 ⟨.build [(.int .u8 0), (.int .i64 0), (.int .u64 0), (.int .u32 0), (.int .u32 0), (.slice none 0 0)] [], .tm, none⟩,
 ⟨.storen 6 (.fr 1) (.tm 0), .no, none⟩,
 ⟨.mov (.c (.bool false)), .fr 2, none⟩]) <|
 .ret)
 (.skip)) <|
 .seq (.seq (.reg [
 ⟨.mov (.c (.int .i64 0)), .fr 5, none⟩]) <|
 .block 0 (.loop (.seq (.seq (.reg [
 ⟨.mov (.fr 5), .tm, none⟩,
 ⟨.mov (.fr 4), .tm, none⟩,
 ⟨.bin .lss (.tm 1) (.tm 0), .fr 8, none⟩]) <|
 .cond (.fr 8)
 (.skip)
 (.exit 0)) <|
 .seq (.block 1 (.dreg [
 (⟨.faddr 2 (.fr 3), .tm, none⟩, []),
 (⟨.faddr 3 (.tm 0), .tm, none⟩, []),
 (⟨.load1 (.tm 0), .tm, none⟩, []),
 (⟨.mov (.fr 0), .tm, none⟩, []),
 (⟨.mov (.fr 5), .tm, none⟩, []),
 (⟨.bin .mul (.c (.int .i64 2)) (.tm 0), .tm, none⟩, []),
 (⟨.bin .add (.c (.int .i64 27)) (.tm 0), .tm, none⟩, []),
 (⟨.iaddr 1 (.tm 3) (.tm 0), .tm, none⟩, []),
 (⟨.load1 (.tm 0), .tm, none⟩, []),
 (⟨.mov (.fr 0), .tm, none⟩, []),
 (⟨.mov (.fr 5), .tm, none⟩, []),
 (⟨.bin .mul (.c (.int .i64 2)) (.tm 0), .tm, none⟩, []),
 (⟨.bin .add (.c (.int .i64 28)) (.tm 0), .tm, none⟩, []),
 (⟨.iaddr 1 (.tm 3) (.tm 0), .tm, none⟩, []),
 (⟨.load1 (.tm 0), .tm, none⟩, []),
 (⟨.i2i .i64 (.tm 0), .tm, none⟩, []),
 (⟨.build [(.int .u8 0), (.int .i64 0)] [(0, 1, (.tm 7)), (1, 1, (.tm 0))], .tm, none⟩, []),
 (⟨.bslice 108 2 1 [(.int .u8 0), (.int .i64 0)] [(0, 2, (.tm 0))], .tm, none⟩, []),
 (⟨.app 108 2 16 (.tm 15) (.tm 0), .tm, none⟩, []),
 (⟨.faddr 2 (.fr 3), .tm, none⟩, []),
 (⟨.faddr 3 (.tm 0), .tm, none⟩, []),
 (⟨.store1 (.tm 0) (.tm 2), .no, none⟩, [])])) <|
 .reg [
 ⟨.mov (.fr 5), .tm, none⟩,
 ⟨.bin .add (.tm 0) (.c (.int .i64 1)), .tm, none⟩,
 ⟨.mov (.tm 0), .fr 5, none⟩]))) <|
 .seq (.seq (.dreg [
 (⟨.loadn 6 (.fr 3), .tm, none⟩, []),
 (⟨.callf 48 [(.tm 0)], .tm, none⟩, []),
 (⟨.b2s (.tm 0), .tm, none⟩, []),
 (⟨.mov (.fr 0), .tm, none⟩, []),
 (⟨.b2s (.tm 0), .tm, none⟩, [1]),
 (⟨.bin .neq (.tm 2) (.tm 0), .fr 9, none⟩, [])]) <|
 .cond (.fr 9)
 (.seq (.reg [
 ⟨.build [(.int .u8 0), (.int .i64 0), (.int .u64 0), (.int .u32 0), (.int .u32 0), (.slice none 0 0)] [], .tm, none⟩,
 ⟨.storen 6 (.fr 1) (.tm 0), .no, none⟩,
 ⟨.mov (.c (.bool false)), .fr 2, none⟩]) <|
 .ret)
 (.skip)) <|
 .seq (.reg [
 ⟨.loadn 6 (.fr 3), .tm, none⟩,
 ⟨.storen 6 (.fr 1) (.tm 0), .no, none⟩,
 ⟨.mov (.c (.bool true)), .fr 2, none⟩]) <|
 .ret, [.cn 6 1, .t 2]⟩
def f14 : AFunc := ⟨[0, 1, 2, 3, 4, 5, 55, 61, 76],
 .seq (.reg [
 ⟨.box 34 6 (.fr 0), .fr 2, none⟩,
 ⟨.box 34 6 (.fr 1), .fr 3, none⟩,
 ⟨.mov (.c (.bool false)), .fr 4, none⟩]) <|
 .seq (.seq (.reg [
 ⟨.faddr 0 (.fr 2), .tm, none⟩,
 ⟨.load1 (.tm 0), .tm, none⟩,
 ⟨.faddr 0 (.fr 3), .tm, none⟩,
 ⟨.load1 (.tm 0), .tm, none⟩,
 ⟨.bin .neq (.tm 2) (.tm 0), .tm, none⟩,
 ⟨.mov (.tm 0), .tm, none⟩,
 ⟨.faddr 1 (.fr 2), .tm, some ((.tm 0), false)⟩,
 ⟨.load1 (.tm 0), .tm, some ((.tm 1), false)⟩,
 ⟨.faddr 1 (.fr 3), .tm, some ((.tm 2), false)⟩,
 ⟨.load1 (.tm 0), .tm, some ((.tm 3), false)⟩,
 ⟨.bin .neq (.tm 2) (.tm 0), .tm, some ((.tm 4), false)⟩,
 ⟨.pick (.tm 5) (.c (.bool true)) (.tm 0), .tm, none⟩,
 ⟨.mov (.tm 0), .tm, none⟩,
 ⟨.faddr 2 (.fr 2), .tm, some ((.tm 0), false)⟩,
 ⟨.faddr 0 (.tm 0), .tm, some ((.tm 1), false)⟩,
 ⟨.load1 (.tm 0), .tm, some ((.tm 2), false)⟩,
 ⟨.faddr 2 (.fr 3), .tm, some ((.tm 3), false)⟩,
 ⟨.faddr 0 (.tm 0), .tm, some ((.tm 4), false)⟩,
 ⟨.load1 (.tm 0), .tm, some ((.tm 5), false)⟩,
 ⟨.bin .neq (.tm 3) (.tm 0), .tm, some ((.tm 6), false)⟩,
 ⟨.pick (.tm 7) (.c (.bool true)) (.tm 0), .tm, none⟩,
 ⟨.mov (.tm 0), .tm, none⟩,
 ⟨.faddr 2 (.fr 2), .tm, some ((.tm 0), false)⟩,
 ⟨.faddr 1 (.tm 0), .tm, some ((.tm 1), false)⟩,
 ⟨.load1 (.tm 0), .tm, some ((.tm 2), false)⟩,
 ⟨.faddr 2 (.fr 3), .tm, some ((.tm 3), false)⟩,
 ⟨.faddr 1 (.tm 0), .tm, some ((.tm 4), false)⟩,
 ⟨.load1 (.tm 0), .tm, some ((.tm 5), false)⟩,
 ⟨.bin .neq (.tm 3) (.tm 0), .tm, some ((.tm 6), false)⟩,
 ⟨.pick (.tm 7) (.c (.bool true)) (.tm 0), .tm, none⟩,
 ⟨.mov (.tm 0), .tm, none⟩,
 ⟨.faddr 2 (.fr 2), .tm, some ((.tm 0), false)⟩,
 ⟨.faddr 2 (.tm 0), .tm, some ((.tm 1), false)⟩,
 ⟨.load1 (.tm 0), .tm, some ((.tm 2), false)⟩,
 ⟨.faddr 2 (.fr 3), .tm, some ((.tm 3), false)⟩,
 ⟨.faddr 2 (.tm 0), .tm, some ((.tm 4), false)⟩,
 ⟨.load1 (.tm 0), .tm, some ((.tm 5), false)⟩,
 ⟨.bin .neq (.tm 3) (.tm 0), .tm, some ((.tm 6), false)⟩,
 ⟨.pick (.tm 7) (.c (.bool true)) (.tm 0), .tm, none⟩,
 ⟨.mov (.tm 0), .tm, none⟩,
 ⟨.faddr 2 (.fr 2), .tm, some ((.tm 0), false)⟩,
 ⟨.faddr 3 (.tm 0), .tm, some ((.tm 1), false)⟩,
 ⟨.load1 (.tm 0), .tm, some ((.tm 2), false)⟩,
 ⟨.len false (.tm 0), .tm, some ((.tm 3), false)⟩,
 ⟨.faddr 2 (.fr 3), .tm, some ((.tm 4), false)⟩,
 ⟨.faddr 3 (.tm 0), .tm, some ((.tm 5), false)⟩,
 ⟨.load1 (.tm 0), .tm, some ((.tm 6), false)⟩,
 ⟨.len false (.tm 0), .tm, some ((.tm 7), false)⟩,
 ⟨.bin .neq (.tm 4) (.tm 0), .tm, some ((.tm 8), false)⟩,
 ⟨.pick (.tm 9) (.c (.bool true)) (.tm 0), .fr 6, none⟩]) <|
 .cond (.fr 6)
 (.seq (.reg [
 ⟨.mov (.c (.bool false)), .fr 4, none⟩]) <|
 .ret)
 (.skip)) <|
 .seq (.seq (.reg [
 ⟨.mov (.c (.int .i64 0)), .fr 5, none⟩]) <|
 .block 0 (.loop (.seq (.seq (.reg [
 ⟨.mov (.fr 5), .tm, none⟩,
 ⟨.faddr 2 (.fr 2), .tm, none⟩,
 ⟨.faddr 3 (.tm 0), .tm, none⟩,
 ⟨.load1 (.tm 0), .tm, none⟩,
 ⟨.len false (.tm 0), .tm, none⟩,
 ⟨.bin .lss (.tm 4) (.tm 0), .fr 7, none⟩]) <|
 .cond (.fr 7)
 (.skip)
 (.exit 0)) <|
 .seq (.block 1 (.seq (.dreg [
 (⟨.faddr 2 (.fr 2), .tm, none⟩, []),
 (⟨.faddr 3 (.tm 0), .tm, none⟩, []),
 (⟨.load1 (.tm 0), .tm, none⟩, []),
 (⟨.mov (.fr 5), .tm, none⟩, []),
 (⟨.iaddr 2 (.tm 1) (.tm 0), .tm, none⟩, []),
 (⟨.loadn 2 (.tm 0), .tm, none⟩, []),
 (⟨.faddr 2 (.fr 3), .tm, none⟩, []),
 (⟨.faddr 3 (.tm 0), .tm, none⟩, []),
 (⟨.load1 (.tm 0), .tm, none⟩, []),
 (⟨.mov (.fr 5), .tm, none⟩, []),
 (⟨.iaddr 2 (.tm 1) (.tm 0), .tm, none⟩, []),
 (⟨.loadn 2 (.tm 0), .tm, none⟩, []),
 (⟨.eqs [1, 1] true (.tm 6) (.tm 0), .fr 8, none⟩, [])]) <|
 .cond (.fr 8)
 (.seq (.reg [
 ⟨.mov (.c (.bool false)), .fr 4, none⟩]) <|
 .ret)
 (.skip))) <|
 .reg [
 ⟨.mov (.fr 5), .tm, none⟩,
 ⟨.bin .add (.tm 0) (.c (.int .i64 1)), .tm, none⟩,
 ⟨.mov (.tm 0), .fr 5, none⟩]))) <|
 .seq (.reg [
 ⟨.mov (.c (.bool true)), .fr 4, none⟩]) <|
 .ret, [.t 4]⟩
def f16 : AFunc := ⟨[0, 2, 3, 4, 5],
 .seq (.reg [
 ⟨.new 42 5 [(.int .u8 0), (.int .i64 0), (.int .i64 0), (.int .u64 0), (.int .u32 0)], .fr 1, none⟩,
 ⟨.mov (.c (.int .i64 0)), .fr 2, none⟩]) <|
 .seq (.reg [
 ⟨.mov (.fr 0), .tm, none⟩,
 ⟨.callf 62 [(.c (.int .u8 2)), (.tm 0)], .tm, none⟩,
 ⟨.mov (.tm 0), .tm, none⟩,
 ⟨.extract (.tm 0) 0, .tm, none⟩,
 ⟨.extract (.tm 1) 1, .tm, none⟩,
 ⟨.mov (.tm 1), .fr 3, none⟩,
 ⟨.mov (.tm 0), .fr 4, none⟩]) <|
 .seq (.reg [
 ⟨.mov (.fr 3), .tm, none⟩,
 ⟨.mov (.fr 4), .tm, none⟩,
 ⟨.mov (.fr 3), .tm, none⟩,
 ⟨.callf 63 [(.tm 0)], .tm, none⟩,
 ⟨.mov (.fr 3), .tm, none⟩,
 ⟨.callf 64 [(.tm 0)], .tm, none⟩,
 ⟨.i2i .i64 (.tm 0), .tm, none⟩,
 ⟨.mov (.fr 3), .tm, none⟩,
 ⟨.callf 64 [(.tm 0)], .tm, none⟩,
 ⟨.i2i .i64 (.tm 0), .tm, none⟩,
 ⟨.mov (.fr 3), .tm, none⟩,
 ⟨.callf 64 [(.tm 0)], .tm, none⟩,
 ⟨.mov (.fr 3), .tm, none⟩,
 ⟨.callf 65 [(.tm 0)], .tm, none⟩,
 ⟨.build [(.int .u64 0), (.int .u32 0)] [(0, 1, (.tm 2)), (1, 1, (.tm 0))], .tm, none⟩,
 ⟨.build [(.int .u8 0), (.int .i64 0), (.int .i64 0), (.int .u64 0), (.int .u32 0)] [(0, 1, (.tm 11)), (1, 1, (.tm 8)), (2, 1, (.tm 5)), (3, 2, (.tm 0))], .tm, none⟩,
 ⟨.callf 68 [(.tm 15), (.tm 14), (.tm 0)], .tm, none⟩,
 ⟨.extract (.tm 0) 0, .tm, none⟩,
 ⟨.extract (.tm 1) 1, .tm, none⟩,
 ⟨.storen 5 (.fr 1) (.tm 1), .no, none⟩,
 ⟨.mov (.tm 0), .fr 2, none⟩]) <|
 .ret, [.cn 5 1, .t 2]⟩
def f17 : AFunc := ⟨[0, 2, 3, 4, 7, 30],
 .seq (.reg [
 ⟨.new 45 5 [(.int .u8 0), (.int .i64 0), (.int .i64 0), (.int .u64 0), (.int .u32 0)], .fr 1, none⟩,
 ⟨.mov (.c (.bool false)), .fr 2, none⟩]) <|
 .seq (.seq (.reg [
 ⟨.mov (.fr 0), .tm, none⟩,
 ⟨.len false (.tm 0), .tm, none⟩,
 ⟨.bin .neq (.tm 0) (.c (.int .i64 34)), .fr 4, none⟩]) <|
 .cond (.fr 4)
 (.seq (.reg [
 ⟨.build [(.int .u8 0), (.int .i64 0), (.int .i64 0), (.int .u64 0), (.int .u32 0)] [], .tm, none⟩,
 ⟨.storen 5 (.fr 1) (.tm 0), .no, none⟩,
 ⟨.mov (.c (.bool false)), .fr 2, none⟩]) <|
 .ret)
 (.skip)) <|
 .seq (.dreg [
 (⟨.mov (.fr 0), .tm, none⟩, []),
 (⟨.iaddr 1 (.tm 0) (.c (.int .i64 1)), .tm, none⟩, []),
 (⟨.load1 (.tm 0), .tm, none⟩, []),
 (⟨.mov (.fr 0), .tm, none⟩, []),
 (⟨.callf 67 [(.tm 0), (.c (.int .i64 2)), (.c (.int .i64 8))], .tm, none⟩, [2]),
 (⟨.i2i .i64 (.tm 0), .tm, none⟩, []),
 (⟨.mov (.fr 0), .tm, none⟩, []),
 (⟨.callf 67 [(.tm 0), (.c (.int .i64 10)), (.c (.int .i64 8))], .tm, none⟩, [2]),
 (⟨.i2i .i64 (.tm 0), .tm, none⟩, []),
 (⟨.mov (.fr 0), .tm, none⟩, []),
 (⟨.callf 67 [(.tm 0), (.c (.int .i64 18)), (.c (.int .i64 8))], .tm, none⟩, [2]),
 (⟨.mov (.fr 0), .tm, none⟩, []),
 (⟨.callf 67 [(.tm 0), (.c (.int .i64 26)), (.c (.int .i64 4))], .tm, none⟩, [2]),
 (⟨.i2i .u32 (.tm 0), .tm, none⟩, []),
 (⟨.build [(.int .u64 0), (.int .u32 0)] [(0, 1, (.tm 3)), (1, 1, (.tm 0))], .tm, none⟩, []),
 (⟨.build [(.int .u8 0), (.int .i64 0), (.int .i64 0), (.int .u64 0), (.int .u32 0)] [(0, 1, (.tm 12)), (1, 1, (.tm 9)), (2, 1, (.tm 6)), (3, 2, (.tm 0))], .tm, none⟩, []),
 (⟨.new 45 5 [(.int .u8 0), (.int .i64 0), (.int .i64 0), (.int .u64 0), (.int .u32 0)], .fr 3, none⟩, []),
 (⟨.storen 5 (.fr 3) (.tm 0), .no, none⟩, [])]) <|
 .seq (.seq (.dreg [
 (⟨.loadn 5 (.fr 3), .tm, none⟩, []),
 (⟨.callf 49 [(.tm 0)], .tm, none⟩, []),
 (⟨.b2s (.tm 0), .tm, none⟩, []),
 (⟨.mov (.fr 0), .tm, none⟩, []),
 (⟨.b2s (.tm 0), .tm, none⟩, [1]),
 (⟨.bin .neq (.tm 2) (.tm 0), .fr 5, none⟩, [])]) <|
 .cond (.fr 5)
 (.seq (.reg [
 ⟨.build [(.int .u8 0), (.int .i64 0), (.int .i64 0), (.int .u64 0), (.int .u32 0)] [], .tm, none⟩,
 ⟨.storen 5 (.fr 1) (.tm 0), .no, none⟩,
 ⟨.mov (.c (.bool false)), .fr 2, none⟩]) <|
 .ret)
 (.skip)) <|
 .seq (.reg [
 ⟨.loadn 5 (.fr 3), .tm, none⟩,
 ⟨.storen 5 (.fr 1) (.tm 0), .no, none⟩,
 ⟨.mov (.c (.bool true)), .fr 2, none⟩]) <|
 .ret, [.cn 5 1, .t 2]⟩
def f19 : AFunc := ⟨[0, 2, 3, 4, 5],
 .seq (.reg [
 ⟨.new 51 68 Z68, .fr 1, none⟩,
 ⟨.mov (.c (.int .i64 0)), .fr 2, none⟩]) <|
 .seq (.reg [
 ⟨.mov (.fr 0), .tm, none⟩,
 ⟨.callf 62 [(.c (.int .u8 3)), (.tm 0)], .tm, none⟩,
 ⟨.mov (.tm 0), .tm, none⟩,
 ⟨.extract (.tm 0) 0, .tm, none⟩,
 ⟨.extract (.tm 1) 1, .tm, none⟩,
 ⟨.mov (.tm 1), .fr 3, none⟩,
 ⟨.mov (.tm 0), .fr 4, none⟩]) <|
 .seq (.reg [
 ⟨.mov (.fr 3), .tm, none⟩,
 ⟨.mov (.fr 4), .tm, none⟩,
 ⟨.mov (.fr 3), .tm, none⟩,
 ⟨.callf 70 [(.tm 0)], .tm, none⟩,
 ⟨.callf 69 [(.tm 3), (.tm 2), (.tm 0)], .tm, none⟩,
 ⟨.extract (.tm 0) 0, .tm, none⟩,
 ⟨.extract (.tm 1) 1, .tm, none⟩,
 ⟨.storen 68 (.fr 1) (.tm 1), .no, none⟩,
 ⟨.mov (.tm 0), .fr 2, none⟩]) <|
 .ret, [.cn 68 1, .t 2]⟩
def f20 : AFunc := ⟨[0, 2, 3, 4, 12],
 .seq (.reg [
 ⟨.new 51 68 Z68, .fr 1, none⟩,
 ⟨.mov (.c (.bool false)), .fr 2, none⟩]) <|
 .seq (.reg [
 ⟨.mov (.fr 0), .tm, none⟩,
 ⟨.callf 71 [(.tm 0), (.c (.int .i64 1))], .tm, none⟩,
 ⟨.new 51 68 Z68, .fr 3, none⟩,
 ⟨.storen 68 (.fr 3) (.tm 0), .no, none⟩]) <|
 .seq (.seq (.dreg [
 (⟨.loadn 68 (.fr 3), .tm, none⟩, []),
 (⟨.callf 50 [(.tm 0)], .tm, none⟩, []),
 (⟨.b2s (.tm 0), .tm, none⟩, []),
 (⟨.mov (.fr 0), .tm, none⟩, []),
 (⟨.b2s (.tm 0), .tm, none⟩, [1]),
 (⟨.bin .neq (.tm 2) (.tm 0), .fr 4, none⟩, [])]) <|
 .cond (.fr 4)
 (.seq (.reg [
 ⟨.build Z68 [], .tm, none⟩,
 ⟨.storen 68 (.fr 1) (.tm 0), .no, none⟩,
 ⟨.mov (.c (.bool false)), .fr 2, none⟩]) <|
 .ret)
 (.skip)) <|
 .seq (.reg [
 ⟨.loadn 68 (.fr 3), .tm, none⟩,
 ⟨.storen 68 (.fr 1) (.tm 0), .no, none⟩,
 ⟨.mov (.c (.bool true)), .fr 2, none⟩]) <|
 .ret, [.cn 68 1, .t 2]⟩
def f21 : AFunc := ⟨[0, 2, 3, 4, 5],
 .seq (.reg [
 ⟨.new 57 70 Z70, .fr 1, none⟩,
 ⟨.mov (.c (.int .i64 0)), .fr 2, none⟩]) <|
 .seq (.reg [
 ⟨.mov (.fr 0), .tm, none⟩,
 ⟨.callf 62 [(.c (.int .u8 4)), (.tm 0)], .tm, none⟩,
 ⟨.mov (.tm 0), .tm, none⟩,
 ⟨.extract (.tm 0) 0, .tm, none⟩,
 ⟨.extract (.tm 1) 1, .tm, none⟩,
 ⟨.mov (.tm 1), .fr 3, none⟩,
 ⟨.mov (.tm 0), .fr 4, none⟩]) <|
 .seq (.reg [
 ⟨.mov (.fr 3), .tm, none⟩,
 ⟨.mov (.fr 4), .tm, none⟩,
 ⟨.mov (.fr 3), .tm, none⟩,
 ⟨.callf 64 [(.tm 0)], .tm, none⟩,
 ⟨.i2i .i64 (.tm 0), .tm, none⟩,
 ⟨.mov (.fr 3), .tm, none⟩,
 ⟨.callf 64 [(.tm 0)], .tm, none⟩,
 ⟨.i2i .i64 (.tm 0), .tm, none⟩,
 ⟨.mov (.fr 3), .tm, none⟩,
 ⟨.callf 70 [(.tm 0)], .tm, none⟩,
 ⟨.build Z70 [(0, 1, (.tm 5)), (1, 1, (.tm 2)), (2, 68, (.tm 0))], .tm, none⟩,
 ⟨.callf 72 [(.tm 10), (.tm 9), (.tm 0)], .tm, none⟩,
 ⟨.extract (.tm 0) 0, .tm, none⟩,
 ⟨.extract (.tm 1) 1, .tm, none⟩,
 ⟨.storen 70 (.fr 1) (.tm 1), .no, none⟩,
 ⟨.mov (.tm 0), .fr 2, none⟩]) <|
 .ret, [.cn 70 1, .t 2]⟩
def f22 : AFunc := ⟨[0, 2, 3, 4, 24],
 .seq (.reg [
 ⟨.new 60 70 Z70, .fr 1, none⟩,
 ⟨.mov (.c (.bool false)), .fr 2, none⟩]) <|
 .seq (.reg [
 ⟨.mov (.fr 0), .tm, none⟩,
 ⟨.callf 67 [(.tm 0), (.c (.int .i64 1)), (.c (.int .i64 8))], .tm, none⟩,
 ⟨.i2i .i64 (.tm 0), .tm, none⟩,
 ⟨.mov (.fr 0), .tm, none⟩,
 ⟨.callf 67 [(.tm 0), (.c (.int .i64 9)), (.c (.int .i64 8))], .tm, none⟩,
 ⟨.i2i .i64 (.tm 0), .tm, none⟩,
 ⟨.mov (.fr 0), .tm, none⟩,
 ⟨.callf 71 [(.tm 0), (.c (.int .i64 17))], .tm, none⟩,
 ⟨.build Z70 [(0, 1, (.tm 5)), (1, 1, (.tm 2)), (2, 68, (.tm 0))], .tm, none⟩,
 ⟨.new 60 70 Z70, .fr 3, none⟩,
 ⟨.storen 70 (.fr 3) (.tm 0), .no, none⟩]) <|
 .seq (.seq (.dreg [
 (⟨.loadn 70 (.fr 3), .tm, none⟩, []),
 (⟨.callf 51 [(.tm 0)], .tm, none⟩, []),
 (⟨.b2s (.tm 0), .tm, none⟩, []),
 (⟨.mov (.fr 0), .tm, none⟩, []),
 (⟨.b2s (.tm 0), .tm, none⟩, [1]),
 (⟨.bin .neq (.tm 2) (.tm 0), .tm, none⟩, []),
 (⟨.mov (.tm 0), .tm, none⟩, []),
 (⟨.mov (.fr 0), .tm, some ((.tm 0), false)⟩, []),
 (⟨.len false (.tm 0), .tm, some ((.tm 1), false)⟩, []),
 (⟨.bin .eql (.tm 0) (.c (.int .i64 0)), .tm, some ((.tm 2), false)⟩, []),
 (⟨.pick (.tm 3) (.c (.bool true)) (.tm 0), .fr 4, none⟩, [])]) <|
 .cond (.fr 4)
 (.seq (.reg [
 ⟨.build Z70 [], .tm, none⟩,
 ⟨.storen 70 (.fr 1) (.tm 0), .no, none⟩,
 ⟨.mov (.c (.bool false)), .fr 2, none⟩]) <|
 .ret)
 (.skip)) <|
 .seq (.reg [
 ⟨.loadn 70 (.fr 3), .tm, none⟩,
 ⟨.storen 70 (.fr 1) (.tm 0), .no, none⟩,
 ⟨.mov (.c (.bool true)), .fr 2, none⟩]) <|
 .ret, [.cn 70 1, .t 2]⟩
def f24 : AFunc := ⟨[0, 2, 3, 4, 5, 6],
 .seq (.reg [
 ⟨.new 65 5 [(.int .u8 0), (.int .u8 0), (.int .i64 0), (.int .i64 0), (.slice none 0 0)], .fr 1, none⟩,
 ⟨.mov (.c (.int .i64 0)), .fr 2, none⟩]) <|
 .seq (.reg [
 ⟨.mov (.fr 0), .tm, none⟩,
 ⟨.callf 62 [(.c (.int .u8 5)), (.tm 0)], .tm, none⟩,
 ⟨.mov (.tm 0), .tm, none⟩,
 ⟨.extract (.tm 0) 0, .tm, none⟩,
 ⟨.extract (.tm 1) 1, .tm, none⟩,
 ⟨.mov (.tm 1), .fr 3, none⟩,
 ⟨.mov (.tm 0), .fr 4, none⟩]) <|
 .seq (.reg [
 ⟨.mov (.fr 3), .tm, none⟩,
 ⟨.callf 63 [(.tm 0)], .tm, none⟩,
 ⟨.mov (.fr 3), .tm, none⟩,
 ⟨.callf 63 [(.tm 0)], .tm, none⟩,
 ⟨.mov (.fr 3), .tm, none⟩,
 ⟨.callf 64 [(.tm 0)], .tm, none⟩,
 ⟨.i2i .i64 (.tm 0), .tm, none⟩,
 ⟨.mov (.fr 3), .tm, none⟩,
 ⟨.callf 64 [(.tm 0)], .tm, none⟩,
 ⟨.i2i .i64 (.tm 0), .tm, none⟩,
 ⟨.build [(.int .u8 0), (.int .u8 0), (.int .i64 0), (.int .i64 0), (.slice none 0 0)] [(0, 1, (.tm 8)), (1, 1, (.tm 6)), (2, 1, (.tm 3)), (3, 1, (.tm 0))], .tm, none⟩,
 ⟨.new 65 5 [(.int .u8 0), (.int .u8 0), (.int .i64 0), (.int .i64 0), (.slice none 0 0)], .fr 5, none⟩,
 ⟨.storen 5 (.fr 5) (.tm 0), .no, none⟩]) <|
 .seq (.reg [
 ⟨.mov (.fr 3), .tm, none⟩,
 ⟨.mov (.fr 3), .tm, none⟩,
 ⟨.callf 75 [(.tm 0)], .tm, none⟩,
 ⟨.i2i .i64 (.tm 0), .tm, none⟩,
 ⟨.callf 74 [(.tm 3), (.tm 0)], .tm, none⟩,
 ⟨.callf 73 [(.tm 0)], .tm, none⟩,
 ⟨.faddr 4 (.fr 5), .tm, none⟩,
 ⟨.store1 (.tm 0) (.tm 1), .no, none⟩]) <|
 .seq (.reg [
 ⟨.mov (.fr 3), .tm, none⟩,
 ⟨.mov (.fr 4), .tm, none⟩,
 ⟨.loadn 5 (.fr 5), .tm, none⟩,
 ⟨.callf 76 [(.tm 2), (.tm 1), (.tm 0)], .tm, none⟩,
 ⟨.extract (.tm 0) 0, .tm, none⟩,
 ⟨.extract (.tm 1) 1, .tm, none⟩,
 ⟨.storen 5 (.fr 1) (.tm 1), .no, none⟩,
 ⟨.mov (.tm 0), .fr 2, none⟩]) <|
 .ret, [.cn 5 1, .t 2]⟩
def f25 : AFunc := ⟨[0, 2, 3, 4, 7, 33],
 .seq (.reg [
 ⟨.new 69 5 [(.int .u8 0), (.int .u8 0), (.int .i64 0), (.int .i64 0), (.string ByteArray.empty)], .fr 1, none⟩,
 ⟨.mov (.c (.bool false)), .fr 2, none⟩]) <|
 .seq (.seq (.reg [
 ⟨.mov (.fr 0), .tm, none⟩,
 ⟨.len false (.tm 0), .tm, none⟩,
 ⟨.bin .lss (.tm 0) (.c (.int .i64 25)), .fr 4, none⟩]) <|
 .cond (.fr 4)
 (.seq (.reg [
 ⟨.build [(.int .u8 0), (.int .u8 0), (.int .i64 0), (.int .i64 0), (.string ByteArray.empty)] [], .tm, none⟩,
 ⟨.storen 5 (.fr 1) (.tm 0), .no, none⟩,
 ⟨.mov (.c (.bool false)), .fr 2, none⟩]) <|
 .ret)
 (.skip)) <|
 .seq (.dreg [
 (⟨.mov (.fr 0), .tm, none⟩, []),
 (⟨.iaddr 1 (.tm 0) (.c (.int .i64 1)), .tm, none⟩, []),
 (⟨.load1 (.tm 0), .tm, none⟩, []),
 (⟨.mov (.fr 0), .tm, none⟩, []),
 (⟨.iaddr 1 (.tm 0) (.c (.int .i64 2)), .tm, none⟩, []),
 (⟨.load1 (.tm 0), .tm, none⟩, []),
 (⟨.mov (.fr 0), .tm, none⟩, []),
 (⟨.callf 67 [(.tm 0), (.c (.int .i64 3)), (.c (.int .i64 8))], .tm, none⟩, [2, 5]),
 (⟨.i2i .i64 (.tm 0), .tm, none⟩, []),
 (⟨.mov (.fr 0), .tm, none⟩, []),
 (⟨.callf 67 [(.tm 0), (.c (.int .i64 11)), (.c (.int .i64 8))], .tm, none⟩, [2, 5]),
 (⟨.i2i .i64 (.tm 0), .tm, none⟩, []),
 (⟨.mov (.fr 0), .tm, none⟩, []),
 (⟨.mov (.fr 0), .tm, none⟩, []),
 (⟨.len false (.tm 0), .tm, none⟩, []),
 (⟨.bin .sub (.tm 0) (.c (.int .i64 4)), .tm, none⟩, []),
 (⟨.slsl 1 (.tm 3) (some (.c (.int .i64 21))) (some (.tm 0)) none, .tm, none⟩, [7, 10]),
 (⟨.b2s (.tm 0), .tm, none⟩, [7, 10]),
 (⟨.build [(.int .u8 0), (.int .u8 0), (.int .i64 0), (.int .i64 0), (.string ByteArray.empty)] [(0, 1, (.tm 15)), (1, 1, (.tm 12)), (2, 1, (.tm 9)), (3, 1, (.tm 6)), (4, 1, (.tm 0))], .tm, none⟩, []),
 (⟨.new 69 5 [(.int .u8 0), (.int .u8 0), (.int .i64 0), (.int .i64 0), (.string ByteArray.empty)], .fr 3, none⟩, []),
 (⟨.storen 5 (.fr 3) (.tm 0), .no, none⟩, [])]) <|
 .seq (.seq (.dreg [
 (⟨.loadn 5 (.fr 3), .tm, none⟩, []),
 (⟨.callf 52 [(.tm 0)], .tm, none⟩, []),
 (⟨.b2s (.tm 0), .tm, none⟩, []),
 (⟨.mov (.fr 0), .tm, none⟩, []),
 (⟨.b2s (.tm 0), .tm, none⟩, [1]),
 (⟨.bin .neq (.tm 2) (.tm 0), .fr 5, none⟩, [])]) <|
 .cond (.fr 5)
 (.seq (.reg [
 ⟨.build [(.int .u8 0), (.int .u8 0), (.int .i64 0), (.int .i64 0), (.string ByteArray.empty)] [], .tm, none⟩,
 ⟨.storen 5 (.fr 1) (.tm 0), .no, none⟩,
 ⟨.mov (.c (.bool false)), .fr 2, none⟩]) <|
 .ret)
 (.skip)) <|
 .seq (.reg [
 ⟨.loadn 5 (.fr 3), .tm, none⟩,
 ⟨.storen 5 (.fr 1) (.tm 0), .no, none⟩,
 ⟨.mov (.c (.bool true)), .fr 2, none⟩]) <|
 .ret, [.cn 5 1, .t 2]⟩
def f28 : AFunc := ⟨[0, 2, 3, 6, 9, 10, 17, 24, 31, 38, 46],
 .seq (.reg [
 ⟨.mov (.c (.int .u8 0)), .fr 1, none⟩]) <|
 .seq (.seq (.reg [
 ⟨.mov (.fr 0), .tm, none⟩,
 ⟨.len false (.tm 0), .tm, none⟩,
 ⟨.bin .eql (.tm 0) (.c (.int .i64 0)), .fr 3, none⟩]) <|
 .cond (.fr 3)
 (.seq (.reg [
 ⟨.mov (.c (.int .u8 0)), .fr 1, none⟩]) <|
 .ret)
 (.skip)) <|
 .seq (.reg [
 ⟨.mov (.c (.int .i64 130)), .fr 2, none⟩]) <|
 .seq (.seq (.reg [
 ⟨.mov (.fr 0), .tm, none⟩,
 ⟨.iaddr 1 (.tm 0) (.c (.int .i64 0)), .tm, none⟩,
 ⟨.load1 (.tm 0), .fr 4, none⟩]) <|
 .block 0 (.seq (.reg [
 ⟨.bin .eql (.fr 4) (.c (.int .u8 1)), .tm, none⟩,
 ⟨.mov (.tm 0), .fr 5, none⟩]) <|
 .cond (.fr 5)
 (.reg [
 ⟨.mov (.fr 0), .tm, none⟩,
 ⟨.callf 12 [(.tm 0)], .tm, none⟩,
 ⟨.mov (.tm 0), .tm, none⟩,
 ⟨.extract (.tm 0) 0, .tm, none⟩,
 ⟨.extract (.tm 1) 1, .tm, none⟩,
 ⟨.mov (.tm 0), .fr 2, none⟩])
 (.seq (.reg [
 ⟨.bin .eql (.fr 4) (.c (.int .u8 2)), .tm, none⟩,
 ⟨.mov (.tm 0), .fr 6, none⟩]) <|
 .cond (.fr 6)
 (.reg [
 ⟨.mov (.fr 0), .tm, none⟩,
 ⟨.callf 16 [(.tm 0)], .tm, none⟩,
 ⟨.mov (.tm 0), .tm, none⟩,
 ⟨.extract (.tm 0) 0, .tm, none⟩,
 ⟨.extract (.tm 1) 1, .tm, none⟩,
 ⟨.mov (.tm 0), .fr 2, none⟩])
 (.seq (.reg [
 ⟨.bin .eql (.fr 4) (.c (.int .u8 3)), .tm, none⟩,
 ⟨.mov (.tm 0), .fr 7, none⟩]) <|
 .cond (.fr 7)
 (.reg [
 ⟨.mov (.fr 0), .tm, none⟩,
 ⟨.callf 19 [(.tm 0)], .tm, none⟩,
 ⟨.mov (.tm 0), .tm, none⟩,
 ⟨.extract (.tm 0) 0, .tm, none⟩,
 ⟨.extract (.tm 1) 1, .tm, none⟩,
 ⟨.mov (.tm 0), .fr 2, none⟩])
 (.seq (.reg [
 ⟨.bin .eql (.fr 4) (.c (.int .u8 4)), .tm, none⟩,
 ⟨.mov (.tm 0), .fr 8, none⟩]) <|
 .cond (.fr 8)
 (.reg [
 ⟨.mov (.fr 0), .tm, none⟩,
 ⟨.callf 21 [(.tm 0)], .tm, none⟩,
 ⟨.mov (.tm 0), .tm, none⟩,
 ⟨.extract (.tm 0) 0, .tm, none⟩,
 ⟨.extract (.tm 1) 1, .tm, none⟩,
 ⟨.mov (.tm 0), .fr 2, none⟩])
 (.seq (.reg [
 ⟨.bin .eql (.fr 4) (.c (.int .u8 5)), .tm, none⟩,
 ⟨.mov (.tm 0), .fr 9, none⟩]) <|
 .cond (.fr 9)
 (.reg [
 ⟨.mov (.fr 0), .tm, none⟩,
 ⟨.callf 24 [(.tm 0)], .tm, none⟩,
 ⟨.mov (.tm 0), .tm, none⟩,
 ⟨.extract (.tm 0) 0, .tm, none⟩,
 ⟨.extract (.tm 1) 1, .tm, none⟩,
 ⟨.mov (.tm 0), .fr 2, none⟩])
 (.skip))))))) <|
 .seq (.seq (.reg [
 ⟨.mov (.fr 2), .tm, none⟩,
 ⟨.bin .neq (.tm 0) (.c (.int .i64 0)), .fr 10, none⟩]) <|
 .cond (.fr 10)
 (.seq (.reg [
 ⟨.mov (.c (.int .u8 0)), .fr 1, none⟩]) <|
 .ret)
 (.skip)) <|
 .seq (.reg [
 ⟨.mov (.fr 0), .tm, none⟩,
 ⟨.iaddr 1 (.tm 0) (.c (.int .i64 0)), .tm, none⟩,
 ⟨.load1 (.tm 0), .tm, none⟩,
 ⟨.mov (.tm 0), .fr 1, none⟩]) <|
 .ret, [.t 1]⟩
def f29 : AFunc := ⟨[0, 2, 4, 6, 8, 10, 12, 13, 14, 47, 53],
 .seq (.reg [
 ⟨.mov (.c (.int .u8 0)), .fr 1, none⟩]) <|
 .seq (.reg [
 ⟨.mov (.fr 0), .tm, none⟩,
 ⟨.callf 13 [(.tm 0)], .tm, none⟩,
 ⟨.mov (.tm 0), .tm, none⟩,
 ⟨.extract (.tm 0) 0, .tm, none⟩,
 ⟨.extract (.tm 1) 1, .tm, none⟩,
 ⟨.new 34 6 [(.int .u8 0), (.int .i64 0), (.int .u64 0), (.int .u32 0), (.int .u32 0), (.slice none 0 0)], .tm, none⟩,
 ⟨.storen 6 (.tm 0) (.tm 2), .no, none⟩,
 ⟨.mov (.tm 1), .fr 2, none⟩]) <|
 .seq (.reg [
 ⟨.mov (.fr 0), .tm, none⟩,
 ⟨.callf 17 [(.tm 0)], .tm, none⟩,
 ⟨.mov (.tm 0), .tm, none⟩,
 ⟨.extract (.tm 0) 0, .tm, none⟩,
 ⟨.extract (.tm 1) 1, .tm, none⟩,
 ⟨.new 45 5 [(.int .u8 0), (.int .i64 0), (.int .i64 0), (.int .u64 0), (.int .u32 0)], .tm, none⟩,
 ⟨.storen 5 (.tm 0) (.tm 2), .no, none⟩,
 ⟨.mov (.tm 1), .fr 3, none⟩]) <|
 .seq (.reg [
 ⟨.mov (.fr 0), .tm, none⟩,
 ⟨.callf 20 [(.tm 0)], .tm, none⟩,
 ⟨.mov (.tm 0), .tm, none⟩,
 ⟨.extract (.tm 0) 0, .tm, none⟩,
 ⟨.extract (.tm 1) 1, .tm, none⟩,
 ⟨.new 51 68 Z68, .tm, none⟩,
 ⟨.storen 68 (.tm 0) (.tm 2), .no, none⟩,
 ⟨.mov (.tm 1), .fr 4, none⟩]) <|
 .seq (.reg [
 ⟨.mov (.fr 0), .tm, none⟩,
 ⟨.callf 22 [(.tm 0)], .tm, none⟩,
 ⟨.mov (.tm 0), .tm, none⟩,
 ⟨.extract (.tm 0) 0, .tm, none⟩,
 ⟨.extract (.tm 1) 1, .tm, none⟩,
 ⟨.new 60 70 Z70, .tm, none⟩,
 ⟨.storen 70 (.tm 0) (.tm 2), .no, none⟩,
 ⟨.mov (.tm 1), .fr 5, none⟩]) <|
 .seq (.reg [
 ⟨.mov (.fr 0), .tm, none⟩,
 ⟨.callf 25 [(.tm 0)], .tm, none⟩,
 ⟨.mov (.tm 0), .tm, none⟩,
 ⟨.extract (.tm 0) 0, .tm, none⟩,
 ⟨.extract (.tm 1) 1, .tm, none⟩,
 ⟨.new 69 5 [(.int .u8 0), (.int .u8 0), (.int .i64 0), (.int .i64 0), (.string ByteArray.empty)], .tm, none⟩,
 ⟨.storen 5 (.tm 0) (.tm 2), .no, none⟩,
 ⟨.mov (.tm 1), .fr 6, none⟩]) <|
 .seq (.reg [
 ⟨.mov (.fr 2), .tm, none⟩,
 ⟨.mov (.fr 3), .tm, none⟩,
 ⟨.mov (.fr 4), .tm, none⟩,
 ⟨.mov (.fr 5), .tm, none⟩,
 ⟨.mov (.fr 6), .tm, none⟩,
 ⟨.bslice 4 1 5 [(.bool false), (.bool false), (.bool false), (.bool false), (.bool false)] [(0, 1, (.tm 4)), (1, 1, (.tm 3)), (2, 1, (.tm 2)), (3, 1, (.tm 1)), (4, 1, (.tm 0))], .tm, none⟩,
 ⟨.mov (.tm 0), .fr 7, none⟩]) <|
 .seq (.seq (.reg [
 ⟨.mov (.c (.int .i64 0)), .fr 8, none⟩]) <|
 .block 0 (.loop (.seq (.seq (.reg [
 ⟨.mov (.fr 8), .tm, none⟩,
 ⟨.bin .lss (.tm 0) (.c (.int .i64 5)), .fr 9, none⟩]) <|
 .cond (.fr 9)
 (.skip)
 (.exit 0)) <|
 .seq (.block 1 (.seq (.reg [
 ⟨.mov (.fr 7), .tm, none⟩,
 ⟨.mov (.fr 8), .tm, none⟩,
 ⟨.iaddr 1 (.tm 1) (.tm 0), .tm, none⟩,
 ⟨.load1 (.tm 0), .fr 10, none⟩]) <|
 .cond (.fr 10)
 (.seq (.reg [
 ⟨.mov (.fr 8), .tm, none⟩,
 ⟨.bin .add (.tm 0) (.c (.int .i64 1)), .tm, none⟩,
 ⟨.i2i .u8 (.tm 0), .tm, none⟩,
 ⟨.mov (.tm 0), .fr 1, none⟩]) <|
 .ret)
 (.skip))) <|
 .reg [
 ⟨.mov (.fr 8), .tm, none⟩,
 ⟨.bin .add (.tm 0) (.c (.int .i64 1)), .tm, none⟩,
 ⟨.mov (.tm 0), .fr 8, none⟩]))) <|
 .seq (.reg [
 ⟨.mov (.c (.int .u8 0)), .fr 1, none⟩]) <|
 .ret, [.t 1]⟩
def f36 : AFunc := ⟨[0, 1, 2],
 .seq (.reg [
 ⟨.box 65 5 (.fr 0), .fr 1, none⟩,
 ⟨.mov (.c (.slice none 0 0)), .fr 2, none⟩]) <|
 .seq (.reg [
 ⟨.loadn 5 (.fr 1), .tm, none⟩,
 ⟨.iface 65 (.tm 0), .tm, none⟩,
 ⟨.mkfn (.func 78) [] [(.fr 1)], .tm, none⟩,
 ⟨.callf 77 [(.c (.int .u8 5)), (.tm 1), (.tm 0)], .tm, none⟩,
 ⟨.mov (.tm 0), .fr 2, none⟩]) <|
 .ret, [.t 2]⟩
def f44 : AFunc := ⟨[0, 1, 2],
 .seq (.reg [
 ⟨.box 30 6 (.fr 0), .fr 1, none⟩,
 ⟨.mov (.c (.slice none 0 0)), .fr 2, none⟩]) <|
 .seq (.reg [
 ⟨.loadn 6 (.fr 1), .tm, none⟩,
 ⟨.iface 30 (.tm 0), .tm, none⟩,
 ⟨.mkfn (.func 83) [] [(.fr 1)], .tm, none⟩,
 ⟨.callf 77 [(.c (.int .u8 1)), (.tm 1), (.tm 0)], .tm, none⟩,
 ⟨.mov (.tm 0), .fr 2, none⟩]) <|
 .ret, [.t 2]⟩
def f45 : AFunc := ⟨[0, 1, 2],
 .seq (.reg [
 ⟨.box 42 5 (.fr 0), .fr 1, none⟩,
 ⟨.mov (.c (.slice none 0 0)), .fr 2, none⟩]) <|
 .seq (.reg [
 ⟨.loadn 5 (.fr 1), .tm, none⟩,
 ⟨.iface 42 (.tm 0), .tm, none⟩,
 ⟨.mkfn (.func 86) [] [(.fr 1)], .tm, none⟩,
 ⟨.callf 77 [(.c (.int .u8 2)), (.tm 1), (.tm 0)], .tm, none⟩,
 ⟨.mov (.tm 0), .fr 2, none⟩]) <|
 .ret, [.t 2]⟩
def f46 : AFunc := ⟨[0, 1, 2],
 .seq (.reg [
 ⟨.box 51 68 (.fr 0), .fr 1, none⟩,
 ⟨.mov (.c (.slice none 0 0)), .fr 2, none⟩]) <|
 .seq (.reg [
 ⟨.loadn 68 (.fr 1), .tm, none⟩,
 ⟨.iface 51 (.tm 0), .tm, none⟩,
 ⟨.mkfn (.func 87) [] [(.fr 1)], .tm, none⟩,
 ⟨.callf 77 [(.c (.int .u8 3)), (.tm 1), (.tm 0)], .tm, none⟩,
 ⟨.mov (.tm 0), .fr 2, none⟩]) <|
 .ret, [.t 2]⟩
def f47 : AFunc := ⟨[0, 1, 2],
 .seq (.reg [
 ⟨.box 57 70 (.fr 0), .fr 1, none⟩,
 ⟨.mov (.c (.slice none 0 0)), .fr 2, none⟩]) <|
 .seq (.reg [
 ⟨.loadn 70 (.fr 1), .tm, none⟩,
 ⟨.iface 57 (.tm 0), .tm, none⟩,
 ⟨.mkfn (.func 89) [] [(.fr 1)], .tm, none⟩,
 ⟨.callf 77 [(.c (.int .u8 4)), (.tm 1), (.tm 0)], .tm, none⟩,
 ⟨.mov (.tm 0), .fr 2, none⟩]) <|
 .ret, [.t 2]⟩
def f48 : AFunc := ⟨[0, 1, 2, 3, 4, 5, 16, 59, 85],
 .seq (.reg [
 ⟨.box 34 6 (.fr 0), .fr 1, none⟩,
 ⟨.mov (.c (.slice none 0 0)), .fr 2, none⟩]) <|
 .seq (.seq (.reg [
 ⟨.faddr 1 (.fr 1), .tm, none⟩,
 ⟨.load1 (.tm 0), .tm, none⟩,
 ⟨.callf 90 [(.tm 0)], .tm, none⟩,
 ⟨.un .not (.tm 0), .tm, none⟩,
 ⟨.mov (.tm 0), .tm, none⟩,
 ⟨.faddr 2 (.fr 1), .tm, some ((.tm 0), false)⟩,
 ⟨.faddr 3 (.tm 0), .tm, some ((.tm 1), false)⟩,
 ⟨.load1 (.tm 0), .tm, some ((.tm 2), false)⟩,
 ⟨.len false (.tm 0), .tm, some ((.tm 3), false)⟩,
 ⟨.bin .gtr (.tm 0) (.c (.int .i64 8)), .tm, some ((.tm 4), false)⟩,
 ⟨.pick (.tm 5) (.c (.bool true)) (.tm 0), .fr 6, none⟩]) <|
 .cond (.fr 6)
 (.seq (.reg [
 ⟨.mov (.c (.slice none 0 0)), .fr 2, none⟩]) <|
 .ret)
 (.skip)) <|
 .seq (.reg [
 ⟨.faddr 0 (.fr 1), .tm, none⟩,
 ⟨.load1 (.tm 0), .tm, none⟩,
 ⟨.bslice 5 1 2 [(.int .u8 0), (.int .u8 0)] [(0, 1, (.c (.int .u8 1))), (1, 1, (.tm 0))], .tm, none⟩,
 ⟨.mov (.tm 0), .fr 3, none⟩]) <|
 .seq (.reg [
 ⟨.mov (.fr 3), .tm, none⟩,
 ⟨.faddr 1 (.fr 1), .tm, none⟩,
 ⟨.load1 (.tm 0), .tm, none⟩,
 ⟨.i2i .u64 (.tm 0), .tm, none⟩,
 ⟨.callf 91 [(.tm 0), (.c (.int .i64 8))], .tm, none⟩,
 ⟨.app 5 1 1 (.tm 4) (.tm 0), .tm, none⟩,
 ⟨.mov (.tm 0), .fr 3, none⟩]) <|
 .seq (.reg [
 ⟨.mov (.fr 3), .tm, none⟩,
 ⟨.faddr 2 (.fr 1), .tm, none⟩,
 ⟨.faddr 0 (.tm 0), .tm, none⟩,
 ⟨.load1 (.tm 0), .tm, none⟩,
 ⟨.callf 91 [(.tm 0), (.c (.int .i64 8))], .tm, none⟩,
 ⟨.app 5 1 1 (.tm 4) (.tm 0), .tm, none⟩,
 ⟨.mov (.tm 0), .fr 3, none⟩]) <|
 .seq (.reg [
 ⟨.mov (.fr 3), .tm, none⟩,
 ⟨.faddr 2 (.fr 1), .tm, none⟩,
 ⟨.faddr 1 (.tm 0), .tm, none⟩,
 ⟨.load1 (.tm 0), .tm, none⟩,
 ⟨.i2i .u64 (.tm 0), .tm, none⟩,
 ⟨.callf 91 [(.tm 0), (.c (.int .i64 4))], .tm, none⟩,
 ⟨.app 5 1 1 (.tm 5) (.tm 0), .tm, none⟩,
 ⟨.mov (.tm 0), .fr 3, none⟩]) <|
 .seq (.reg [
 ⟨.mov (.fr 3), .tm, none⟩,
 ⟨.faddr 2 (.fr 1), .tm, none⟩,
 ⟨.faddr 2 (.tm 0), .tm, none⟩,
 ⟨.load1 (.tm 0), .tm, none⟩,
 ⟨.i2i .u64 (.tm 0), .tm, none⟩,
 ⟨.callf 91 [(.tm 0), (.c (.int .i64 4))], .tm, none⟩,
 ⟨.app 5 1 1 (.tm 5) (.tm 0), .tm, none⟩,
 ⟨.mov (.tm 0), .fr 3, none⟩]) <|
 .seq (.reg [
 ⟨.mov (.fr 3), .tm, none⟩,
 ⟨.faddr 2 (.fr 1), .tm, none⟩,
 ⟨.faddr 3 (.tm 0), .tm, none⟩,
 ⟨.load1 (.tm 0), .tm, none⟩,
 ⟨.len false (.tm 0), .tm, none⟩,
 ⟨.i2i .u8 (.tm 0), .tm, none⟩,
 ⟨.bslice 5 1 1 [(.int .u8 0)] [(0, 1, (.tm 0))], .tm, none⟩,
 ⟨.app 5 1 1 (.tm 6) (.tm 0), .tm, none⟩,
 ⟨.mov (.tm 0), .fr 3, none⟩]) <|
 .seq (.seq (.reg [
 ⟨.mov (.c (.int .i64 0)), .fr 4, none⟩]) <|
 .block 0 (.loop (.seq (.seq (.reg [
 ⟨.mov (.fr 4), .tm, none⟩,
 ⟨.faddr 2 (.fr 1), .tm, none⟩,
 ⟨.faddr 3 (.tm 0), .tm, none⟩,
 ⟨.load1 (.tm 0), .tm, none⟩,
 ⟨.len false (.tm 0), .tm, none⟩,
 ⟨.bin .lss (.tm 4) (.tm 0), .fr 7, none⟩]) <|
 .cond (.fr 7)
 (.skip)
 (.exit 0)) <|
 .seq (.block 1 (.seq (.reg [
 ⟨.faddr 2 (.fr 1), .tm, none⟩,
 ⟨.faddr 3 (.tm 0), .tm, none⟩,
 ⟨.load1 (.tm 0), .tm, none⟩,
 ⟨.mov (.fr 4), .tm, none⟩,
 ⟨.iaddr 2 (.tm 1) (.tm 0), .tm, none⟩,
 ⟨.loadn 2 (.tm 0), .tm, none⟩,
 ⟨.new 108 2 [(.int .u8 0), (.int .i64 0)], .fr 5, none⟩,
 ⟨.storen 2 (.fr 5) (.tm 0), .no, none⟩]) <|
 .seq (.seq (.reg [
 ⟨.faddr 0 (.fr 5), .tm, none⟩,
 ⟨.load1 (.tm 0), .tm, none⟩,
 ⟨.bin .lss (.tm 0) (.c (.int .u8 1)), .tm, none⟩,
 ⟨.mov (.tm 0), .tm, none⟩,
 ⟨.faddr 0 (.fr 5), .tm, some ((.tm 0), false)⟩,
 ⟨.load1 (.tm 0), .tm, some ((.tm 1), false)⟩,
 ⟨.bin .gtr (.tm 0) (.c (.int .u8 3)), .tm, some ((.tm 2), false)⟩,
 ⟨.pick (.tm 3) (.c (.bool true)) (.tm 0), .tm, none⟩,
 ⟨.mov (.tm 0), .tm, none⟩,
 ⟨.faddr 1 (.fr 5), .tm, some ((.tm 0), false)⟩,
 ⟨.load1 (.tm 0), .tm, some ((.tm 1), false)⟩,
 ⟨.bin .lss (.tm 0) (.c (.int .i64 0)), .tm, some ((.tm 2), false)⟩,
 ⟨.pick (.tm 3) (.c (.bool true)) (.tm 0), .tm, none⟩,
 ⟨.mov (.tm 0), .tm, none⟩,
 ⟨.faddr 1 (.fr 5), .tm, some ((.tm 0), false)⟩,
 ⟨.load1 (.tm 0), .tm, some ((.tm 1), false)⟩,
 ⟨.bin .gtr (.tm 0) (.c (.int .i64 63)), .tm, some ((.tm 2), false)⟩,
 ⟨.pick (.tm 3) (.c (.bool true)) (.tm 0), .fr 8, none⟩]) <|
 .cond (.fr 8)
 (.seq (.reg [
 ⟨.mov (.c (.slice none 0 0)), .fr 2, none⟩]) <|
 .ret)
 (.skip)) <|
 .reg [
 ⟨.mov (.fr 3), .tm, none⟩,
 ⟨.faddr 0 (.fr 5), .tm, none⟩,
 ⟨.load1 (.tm 0), .tm, none⟩,
 ⟨.faddr 1 (.fr 5), .tm, none⟩,
 ⟨.load1 (.tm 0), .tm, none⟩,
 ⟨.i2i .u8 (.tm 0), .tm, none⟩,
 ⟨.bslice 5 1 2 [(.int .u8 0), (.int .u8 0)] [(0, 1, (.tm 3)), (1, 1, (.tm 0))], .tm, none⟩,
 ⟨.app 5 1 1 (.tm 6) (.tm 0), .tm, none⟩,
 ⟨.mov (.tm 0), .fr 3, none⟩])) <|
 .reg [
 ⟨.mov (.fr 4), .tm, none⟩,
 ⟨.bin .add (.tm 0) (.c (.int .i64 1)), .tm, none⟩,
 ⟨.mov (.tm 0), .fr 4, none⟩]))) <|
 .seq (.reg [
 ⟨.mov (.fr 3), .tm, none⟩,
 ⟨.callf 92 [(.tm 0)], .tm, none⟩,
 ⟨.mov (.tm 0), .fr 2, none⟩]) <|
 .ret, [.t 2]⟩
def f49 : AFunc := ⟨[0, 1, 2, 3, 13],
 .seq (.reg [
 ⟨.box 45 5 (.fr 0), .fr 1, none⟩,
 ⟨.mov (.c (.slice none 0 0)), .fr 2, none⟩]) <|
 .seq (.seq (.reg [
 ⟨.faddr 1 (.fr 1), .tm, none⟩,
 ⟨.load1 (.tm 0), .tm, none⟩,
 ⟨.callf 90 [(.tm 0)], .tm, none⟩,
 ⟨.un .not (.tm 0), .tm, none⟩,
 ⟨.mov (.tm 0), .tm, none⟩,
 ⟨.faddr 2 (.fr 1), .tm, some ((.tm 0), false)⟩,
 ⟨.load1 (.tm 0), .tm, some ((.tm 1), false)⟩,
 ⟨.callf 90 [(.tm 0)], .tm, some ((.tm 2), false)⟩,
 ⟨.un .not (.tm 0), .tm, some ((.tm 3), false)⟩,
 ⟨.pick (.tm 4) (.c (.bool true)) (.tm 0), .fr 4, none⟩]) <|
 .cond (.fr 4)
 (.seq (.reg [
 ⟨.mov (.c (.slice none 0 0)), .fr 2, none⟩]) <|
 .ret)
 (.skip)) <|
 .seq (.reg [
 ⟨.faddr 0 (.fr 1), .tm, none⟩,
 ⟨.load1 (.tm 0), .tm, none⟩,
 ⟨.bslice 5 1 2 [(.int .u8 0), (.int .u8 0)] [(0, 1, (.c (.int .u8 2))), (1, 1, (.tm 0))], .tm, none⟩,
 ⟨.mov (.tm 0), .fr 3, none⟩]) <|
 .seq (.reg [
 ⟨.mov (.fr 3), .tm, none⟩,
 ⟨.faddr 1 (.fr 1), .tm, none⟩,
 ⟨.load1 (.tm 0), .tm, none⟩,
 ⟨.i2i .u64 (.tm 0), .tm, none⟩,
 ⟨.callf 91 [(.tm 0), (.c (.int .i64 8))], .tm, none⟩,
 ⟨.app 5 1 1 (.tm 4) (.tm 0), .tm, none⟩,
 ⟨.mov (.tm 0), .fr 3, none⟩]) <|
 .seq (.reg [
 ⟨.mov (.fr 3), .tm, none⟩,
 ⟨.faddr 2 (.fr 1), .tm, none⟩,
 ⟨.load1 (.tm 0), .tm, none⟩,
 ⟨.i2i .u64 (.tm 0), .tm, none⟩,
 ⟨.callf 91 [(.tm 0), (.c (.int .i64 8))], .tm, none⟩,
 ⟨.app 5 1 1 (.tm 4) (.tm 0), .tm, none⟩,
 ⟨.mov (.tm 0), .fr 3, none⟩]) <|
 .seq (.reg [
 ⟨.mov (.fr 3), .tm, none⟩,
 ⟨.faddr 3 (.fr 1), .tm, none⟩,
 ⟨.faddr 0 (.tm 0), .tm, none⟩,
 ⟨.load1 (.tm 0), .tm, none⟩,
 ⟨.callf 91 [(.tm 0), (.c (.int .i64 8))], .tm, none⟩,
 ⟨.app 5 1 1 (.tm 4) (.tm 0), .tm, none⟩,
 ⟨.mov (.tm 0), .fr 3, none⟩]) <|
 .seq (.reg [
 ⟨.mov (.fr 3), .tm, none⟩,
 ⟨.faddr 3 (.fr 1), .tm, none⟩,
 ⟨.faddr 1 (.tm 0), .tm, none⟩,
 ⟨.load1 (.tm 0), .tm, none⟩,
 ⟨.i2i .u64 (.tm 0), .tm, none⟩,
 ⟨.callf 91 [(.tm 0), (.c (.int .i64 4))], .tm, none⟩,
 ⟨.app 5 1 1 (.tm 5) (.tm 0), .tm, none⟩,
 ⟨.mov (.tm 0), .fr 3, none⟩]) <|
 .seq (.reg [
 ⟨.mov (.fr 3), .tm, none⟩,
 ⟨.callf 92 [(.tm 0)], .tm, none⟩,
 ⟨.mov (.tm 0), .fr 2, none⟩]) <|
 .ret, [.t 2]⟩
def f50 : AFunc := ⟨[0, 1, 2, 3],
 .seq (.reg [
 ⟨.box 51 68 (.fr 0), .fr 1, none⟩,
 ⟨.mov (.c (.slice none 0 0)), .fr 2, none⟩]) <|
 .seq (.reg [
 ⟨.bslice 5 1 1 [(.int .u8 0)] [(0, 1, (.c (.int .u8 3)))], .tm, none⟩,
 ⟨.mov (.tm 0), .fr 3, none⟩]) <|
 .seq (.reg [
 ⟨.mov (.fr 3), .tm, none⟩,
 ⟨.loadn 68 (.fr 1), .tm, none⟩,
 ⟨.callf 93 [(.tm 0)], .tm, none⟩,
 ⟨.app 5 1 1 (.tm 2) (.tm 0), .tm, none⟩,
 ⟨.callf 92 [(.tm 0)], .tm, none⟩,
 ⟨.mov (.tm 0), .fr 2, none⟩]) <|
 .ret, [.t 2]⟩
def f51 : AFunc := ⟨[0, 1, 2, 3, 13],
 .seq (.reg [
 ⟨.box 60 70 (.fr 0), .fr 1, none⟩,
 ⟨.mov (.c (.slice none 0 0)), .fr 2, none⟩]) <|
 .seq (.seq (.reg [
 ⟨.faddr 0 (.fr 1), .tm, none⟩,
 ⟨.load1 (.tm 0), .tm, none⟩,
 ⟨.callf 90 [(.tm 0)], .tm, none⟩,
 ⟨.un .not (.tm 0), .tm, none⟩,
 ⟨.mov (.tm 0), .tm, none⟩,
 ⟨.faddr 1 (.fr 1), .tm, some ((.tm 0), false)⟩,
 ⟨.load1 (.tm 0), .tm, some ((.tm 1), false)⟩,
 ⟨.callf 90 [(.tm 0)], .tm, some ((.tm 2), false)⟩,
 ⟨.un .not (.tm 0), .tm, some ((.tm 3), false)⟩,
 ⟨.pick (.tm 4) (.c (.bool true)) (.tm 0), .fr 4, none⟩]) <|
 .cond (.fr 4)
 (.seq (.reg [
 ⟨.mov (.c (.slice none 0 0)), .fr 2, none⟩]) <|
 .ret)
 (.skip)) <|
 .seq (.reg [
 ⟨.bslice 5 1 1 [(.int .u8 0)] [(0, 1, (.c (.int .u8 4)))], .tm, none⟩,
 ⟨.mov (.tm 0), .fr 3, none⟩]) <|
 .seq (.reg [
 ⟨.mov (.fr 3), .tm, none⟩,
 ⟨.faddr 0 (.fr 1), .tm, none⟩,
 ⟨.load1 (.tm 0), .tm, none⟩,
 ⟨.i2i .u64 (.tm 0), .tm, none⟩,
 ⟨.callf 91 [(.tm 0), (.c (.int .i64 8))], .tm, none⟩,
 ⟨.app 5 1 1 (.tm 4) (.tm 0), .tm, none⟩,
 ⟨.mov (.tm 0), .fr 3, none⟩]) <|
 .seq (.reg [
 ⟨.mov (.fr 3), .tm, none⟩,
 ⟨.faddr 1 (.fr 1), .tm, none⟩,
 ⟨.load1 (.tm 0), .tm, none⟩,
 ⟨.i2i .u64 (.tm 0), .tm, none⟩,
 ⟨.callf 91 [(.tm 0), (.c (.int .i64 8))], .tm, none⟩,
 ⟨.app 5 1 1 (.tm 4) (.tm 0), .tm, none⟩,
 ⟨.mov (.tm 0), .fr 3, none⟩]) <|
 .seq (.reg [
 ⟨.mov (.fr 3), .tm, none⟩,
 ⟨.faddr 2 (.fr 1), .tm, none⟩,
 ⟨.loadn 68 (.tm 0), .tm, none⟩,
 ⟨.callf 93 [(.tm 0)], .tm, none⟩,
 ⟨.app 5 1 1 (.tm 3) (.tm 0), .tm, none⟩,
 ⟨.callf 92 [(.tm 0)], .tm, none⟩,
 ⟨.mov (.tm 0), .fr 2, none⟩]) <|
 .ret, [.t 2]⟩
def f52 : AFunc := ⟨[0, 1, 2, 3, 27],
 .seq (.reg [
 ⟨.box 69 5 (.fr 0), .fr 1, none⟩,
 ⟨.mov (.c (.slice none 0 0)), .fr 2, none⟩]) <|
 .seq (.seq (.reg [
 ⟨.faddr 2 (.fr 1), .tm, none⟩,
 ⟨.load1 (.tm 0), .tm, none⟩,
 ⟨.bin .lss (.tm 0) (.c (.int .i64 0)), .tm, none⟩,
 ⟨.mov (.tm 0), .tm, none⟩,
 ⟨.faddr 2 (.fr 1), .tm, some ((.tm 0), false)⟩,
 ⟨.load1 (.tm 0), .tm, some ((.tm 1), false)⟩,
 ⟨.bin .gtr (.tm 0) (.c (.int .i64 4611686018427387904)), .tm, some ((.tm 2), false)⟩,
 ⟨.pick (.tm 3) (.c (.bool true)) (.tm 0), .tm, none⟩,
 ⟨.mov (.tm 0), .tm, none⟩,
 ⟨.faddr 3 (.fr 1), .tm, some ((.tm 0), false)⟩,
 ⟨.load1 (.tm 0), .tm, some ((.tm 1), false)⟩,
 ⟨.bin .lss (.tm 0) (.c (.int .i64 0)), .tm, some ((.tm 2), false)⟩,
 ⟨.pick (.tm 3) (.c (.bool true)) (.tm 0), .tm, none⟩,
 ⟨.mov (.tm 0), .tm, none⟩,
 ⟨.faddr 3 (.fr 1), .tm, some ((.tm 0), false)⟩,
 ⟨.load1 (.tm 0), .tm, some ((.tm 1), false)⟩,
 ⟨.bin .gtr (.tm 0) (.c (.int .i64 4611686018427387904)), .tm, some ((.tm 2), false)⟩,
 ⟨.pick (.tm 3) (.c (.bool true)) (.tm 0), .tm, none⟩,
 ⟨.mov (.tm 0), .tm, none⟩,
 ⟨.faddr 4 (.fr 1), .tm, some ((.tm 0), false)⟩,
 ⟨.load1 (.tm 0), .tm, some ((.tm 1), false)⟩,
 ⟨.len true (.tm 0), .tm, some ((.tm 2), false)⟩,
 ⟨.bin .gtr (.tm 0) (.c (.int .i64 2048)), .tm, some ((.tm 3), false)⟩,
 ⟨.pick (.tm 4) (.c (.bool true)) (.tm 0), .fr 4, none⟩]) <|
 .cond (.fr 4)
 (.seq (.reg [
 ⟨.mov (.c (.slice none 0 0)), .fr 2, none⟩]) <|
 .ret)
 (.skip)) <|
 .seq (.reg [
 ⟨.faddr 0 (.fr 1), .tm, none⟩,
 ⟨.load1 (.tm 0), .tm, none⟩,
 ⟨.faddr 1 (.fr 1), .tm, none⟩,
 ⟨.load1 (.tm 0), .tm, none⟩,
 ⟨.bslice 5 1 3 [(.int .u8 0), (.int .u8 0), (.int .u8 0)] [(0, 1, (.c (.int .u8 5))), (1, 1, (.tm 2)), (2, 1, (.tm 0))], .tm, none⟩,
 ⟨.mov (.tm 0), .fr 3, none⟩]) <|
 .seq (.reg [
 ⟨.mov (.fr 3), .tm, none⟩,
 ⟨.faddr 2 (.fr 1), .tm, none⟩,
 ⟨.load1 (.tm 0), .tm, none⟩,
 ⟨.i2i .u64 (.tm 0), .tm, none⟩,
 ⟨.callf 91 [(.tm 0), (.c (.int .i64 8))], .tm, none⟩,
 ⟨.app 5 1 1 (.tm 4) (.tm 0), .tm, none⟩,
 ⟨.mov (.tm 0), .fr 3, none⟩]) <|
 .seq (.reg [
 ⟨.mov (.fr 3), .tm, none⟩,
 ⟨.faddr 3 (.fr 1), .tm, none⟩,
 ⟨.load1 (.tm 0), .tm, none⟩,
 ⟨.i2i .u64 (.tm 0), .tm, none⟩,
 ⟨.callf 91 [(.tm 0), (.c (.int .i64 8))], .tm, none⟩,
 ⟨.app 5 1 1 (.tm 4) (.tm 0), .tm, none⟩,
 ⟨.mov (.tm 0), .fr 3, none⟩]) <|
 .seq (.reg [
 ⟨.mov (.fr 3), .tm, none⟩,
 ⟨.faddr 4 (.fr 1), .tm, none⟩,
 ⟨.load1 (.tm 0), .tm, none⟩,
 ⟨.len true (.tm 0), .tm, none⟩,
 ⟨.i2i .u64 (.tm 0), .tm, none⟩,
 ⟨.callf 91 [(.tm 0), (.c (.int .i64 2))], .tm, none⟩,
 ⟨.app 5 1 1 (.tm 5) (.tm 0), .tm, none⟩,
 ⟨.mov (.tm 0), .fr 3, none⟩]) <|
 .seq (.reg [
 ⟨.mov (.fr 3), .tm, none⟩,
 ⟨.faddr 4 (.fr 1), .tm, none⟩,
 ⟨.load1 (.tm 0), .tm, none⟩,
 ⟨.apps 5 1 (.tm 2) (.tm 0), .tm, none⟩,
 ⟨.callf 92 [(.tm 0)], .tm, none⟩,
 ⟨.mov (.tm 0), .fr 2, none⟩]) <|
 .ret, [.t 2]⟩
def f62 : AFunc := ⟨[0, 1, 4, 5, 6, 16],
 .seq (.reg [
 ⟨.mov (.c (.pointer none)), .fr 2, none⟩,
 ⟨.mov (.c (.bool false)), .fr 3, none⟩]) <|
 .seq (.seq (.reg [
 ⟨.mov (.fr 1), .tm, none⟩,
 ⟨.len false (.tm 0), .tm, none⟩,
 ⟨.bin .lss (.tm 0) (.c (.int .i64 5)), .tm, none⟩,
 ⟨.mov (.tm 0), .tm, none⟩,
 ⟨.mov (.fr 1), .tm, some ((.tm 0), false)⟩,
 ⟨.iaddr 1 (.tm 0) (.c (.int .i64 0)), .tm, some ((.tm 1), false)⟩,
 ⟨.load1 (.tm 0), .tm, some ((.tm 2), false)⟩,
 ⟨.mov (.fr 0), .tm, some ((.tm 3), false)⟩,
 ⟨.bin .neq (.tm 1) (.tm 0), .tm, some ((.tm 4), false)⟩,
 ⟨.pick (.tm 5) (.c (.bool true)) (.tm 0), .fr 5, none⟩]) <|
 .cond (.fr 5)
 (.seq (.reg [
 ⟨.mov (.c (.pointer none)), .fr 2, none⟩,
 ⟨.mov (.c (.bool false)), .fr 3, none⟩]) <|
 .ret)
 (.skip)) <|
 .seq (.reg [
 ⟨.mov (.fr 1), .tm, none⟩,
 ⟨.mov (.fr 1), .tm, none⟩,
 ⟨.len false (.tm 0), .tm, none⟩,
 ⟨.bin .sub (.tm 0) (.c (.int .i64 4)), .tm, none⟩,
 ⟨.slsl 1 (.tm 3) (some (.tm 0)) none none, .tm, none⟩,
 ⟨.callf 96 [(.tm 0)], .tm, none⟩,
 ⟨.mov (.tm 0), .fr 4, none⟩]) <|
 .seq (.dreg [
 (⟨.mov (.fr 1), .tm, none⟩, []),
 (⟨.mov (.fr 1), .tm, none⟩, []),
 (⟨.len false (.tm 0), .tm, none⟩, []),
 (⟨.bin .sub (.tm 0) (.c (.int .i64 4)), .tm, none⟩, []),
 (⟨.slsl 1 (.tm 3) (some (.c (.int .i64 1))) (some (.tm 0)) none, .tm, none⟩, []),
 (⟨.callf 96 [(.tm 0)], .tm, none⟩, []),
 (⟨.mov (.fr 4), .tm, none⟩, []),
 (⟨.callf 65 [(.tm 0)], .tm, none⟩, []),
 (⟨.mov (.fr 1), .tm, none⟩, []),
 (⟨.mov (.fr 1), .tm, none⟩, []),
 (⟨.len false (.tm 0), .tm, none⟩, []),
 (⟨.bin .sub (.tm 0) (.c (.int .i64 4)), .tm, none⟩, []),
 (⟨.slsl 1 (.tm 3) none (some (.tm 0)) none, .tm, none⟩, [5, 7]),
 (⟨.callf 97 [(.tm 0)], .tm, none⟩, []),
 (⟨.bin .eql (.tm 6) (.tm 0), .tm, none⟩, []),
 (⟨.mov (.tm 9), .fr 2, none⟩, []),
 (⟨.mov (.tm 0), .fr 3, none⟩, [])]) <|
 .ret, [.t 2, .t 3]⟩
def f66 : AFunc := ⟨[0, 1, 2, 5, 6, 7, 8, 25],
 .seq (.reg [
 ⟨.box 30 6 (.fr 2), .fr 3, none⟩,
 ⟨.new 30 6 [(.int .u8 0), (.int .i64 0), (.int .u64 0), (.int .u32 0), (.int .u32 0), (.slice none 0 0)], .fr 4, none⟩,
 ⟨.mov (.c (.int .i64 0)), .fr 5, none⟩]) <|
 .seq (.reg [
 ⟨.new 30 6 [(.int .u8 0), (.int .i64 0), (.int .u64 0), (.int .u32 0), (.int .u32 0), (.slice none 0 0)], .fr 6, none⟩]) <|
 .seq (.seq (.reg [
 ⟨.mov (.fr 1), .tm, none⟩,
 ⟨.un .not (.tm 0), .tm, none⟩,
 ⟨.mov (.tm 0), .tm, none⟩,
 ⟨.mov (.fr 0), .tm, some ((.tm 0), false)⟩,
 ⟨.callf 99 [(.tm 0)], .tm, some ((.tm 1), false)⟩,
 ⟨.pick (.tm 2) (.c (.bool true)) (.tm 0), .tm, none⟩,
 ⟨.mov (.tm 0), .tm, none⟩,
 ⟨.mov (.fr 0), .tm, some ((.tm 0), false)⟩,
 ⟨.callf 100 [(.tm 0)], .tm, some ((.tm 1), false)⟩,
 ⟨.bin .gtr (.tm 0) (.c (.int .i64 0)), .tm, some ((.tm 2), false)⟩,
 ⟨.pick (.tm 3) (.c (.bool true)) (.tm 0), .tm, none⟩,
 ⟨.mov (.tm 0), .tm, none⟩,
 ⟨.loadn 6 (.fr 3), .tm, some ((.tm 0), false)⟩,
 ⟨.iface 30 (.tm 0), .tm, some ((.tm 1), false)⟩,
 ⟨.callf 101 [(.tm 0)], .tm, some ((.tm 2), false)⟩,
 ⟨.un .not (.tm 0), .tm, some ((.tm 3), false)⟩,
 ⟨.pick (.tm 4) (.c (.bool true)) (.tm 0), .fr 7, none⟩]) <|
 .cond (.fr 7)
 (.seq (.reg [
 ⟨.loadn 6 (.fr 6), .tm, none⟩,
 ⟨.storen 6 (.fr 4) (.tm 0), .no, none⟩,
 ⟨.mov (.c (.int .i64 130)), .fr 5, none⟩]) <|
 .ret)
 (.skip)) <|
 .seq (.reg [
 ⟨.loadn 6 (.fr 3), .tm, none⟩,
 ⟨.storen 6 (.fr 4) (.tm 0), .no, none⟩,
 ⟨.mov (.c (.int .i64 0)), .fr 5, none⟩]) <|
 .ret, [.cn 6 4, .t 5]⟩
def f67 : AFunc := ⟨[0, 1, 2, 6, 12],
 .seq (.reg [
 ⟨.mov (.c (.int .u64 0)), .fr 3, none⟩]) <|
 .seq (.seq (.reg [
 ⟨.mov (.fr 1), .tm, none⟩,
 ⟨.mov (.fr 2), .tm, none⟩,
 ⟨.bin .add (.tm 1) (.tm 0), .tm, none⟩,
 ⟨.mov (.fr 0), .tm, none⟩,
 ⟨.len false (.tm 0), .tm, none⟩,
 ⟨.bin .gtr (.tm 2) (.tm 0), .fr 4, none⟩]) <|
 .cond (.fr 4)
 (.seq (.reg [
 ⟨.mov (.c (.int .u64 0)), .fr 3, none⟩]) <|
 .ret)
 (.skip)) <|
 .seq (.reg [
 ⟨.mov (.fr 0), .tm, none⟩,
 ⟨.mov (.fr 1), .tm, none⟩,
 ⟨.mov (.fr 1), .tm, none⟩,
 ⟨.mov (.fr 2), .tm, none⟩,
 ⟨.bin .add (.tm 1) (.tm 0), .tm, none⟩,
 ⟨.slsl 1 (.tm 4) (some (.tm 3)) (some (.tm 0)) none, .tm, none⟩,
 ⟨.callf 102 [(.tm 0)], .tm, none⟩,
 ⟨.mov (.tm 0), .fr 3, none⟩]) <|
 .ret, [.t 3]⟩
def f68 : AFunc := ⟨[0, 1, 2, 5, 6, 7, 8, 25],
 .seq (.reg [
 ⟨.box 42 5 (.fr 2), .fr 3, none⟩,
 ⟨.new 42 5 [(.int .u8 0), (.int .i64 0), (.int .i64 0), (.int .u64 0), (.int .u32 0)], .fr 4, none⟩,
 ⟨.mov (.c (.int .i64 0)), .fr 5, none⟩]) <|
 .seq (.reg [
 ⟨.new 42 5 [(.int .u8 0), (.int .i64 0), (.int .i64 0), (.int .u64 0), (.int .u32 0)], .fr 6, none⟩]) <|
 .seq (.seq (.reg [
 ⟨.mov (.fr 1), .tm, none⟩,
 ⟨.un .not (.tm 0), .tm, none⟩,
 ⟨.mov (.tm 0), .tm, none⟩,
 ⟨.mov (.fr 0), .tm, some ((.tm 0), false)⟩,
 ⟨.callf 99 [(.tm 0)], .tm, some ((.tm 1), false)⟩,
 ⟨.pick (.tm 2) (.c (.bool true)) (.tm 0), .tm, none⟩,
 ⟨.mov (.tm 0), .tm, none⟩,
 ⟨.mov (.fr 0), .tm, some ((.tm 0), false)⟩,
 ⟨.callf 100 [(.tm 0)], .tm, some ((.tm 1), false)⟩,
 ⟨.bin .gtr (.tm 0) (.c (.int .i64 0)), .tm, some ((.tm 2), false)⟩,
 ⟨.pick (.tm 3) (.c (.bool true)) (.tm 0), .tm, none⟩,
 ⟨.mov (.tm 0), .tm, none⟩,
 ⟨.loadn 5 (.fr 3), .tm, some ((.tm 0), false)⟩,
 ⟨.iface 42 (.tm 0), .tm, some ((.tm 1), false)⟩,
 ⟨.callf 101 [(.tm 0)], .tm, some ((.tm 2), false)⟩,
 ⟨.un .not (.tm 0), .tm, some ((.tm 3), false)⟩,
 ⟨.pick (.tm 4) (.c (.bool true)) (.tm 0), .fr 7, none⟩]) <|
 .cond (.fr 7)
 (.seq (.reg [
 ⟨.loadn 5 (.fr 6), .tm, none⟩,
 ⟨.storen 5 (.fr 4) (.tm 0), .no, none⟩,
 ⟨.mov (.c (.int .i64 130)), .fr 5, none⟩]) <|
 .ret)
 (.skip)) <|
 .seq (.reg [
 ⟨.loadn 5 (.fr 3), .tm, none⟩,
 ⟨.storen 5 (.fr 4) (.tm 0), .no, none⟩,
 ⟨.mov (.c (.int .i64 0)), .fr 5, none⟩]) <|
 .ret, [.cn 5 4, .t 5]⟩
def f69 : AFunc := ⟨[0, 1, 2, 5, 6, 7, 8, 25],
 .seq (.reg [
 ⟨.box 51 68 (.fr 2), .fr 3, none⟩,
 ⟨.new 51 68 Z68, .fr 4, none⟩,
 ⟨.mov (.c (.int .i64 0)), .fr 5, none⟩]) <|
 .seq (.reg [
 ⟨.new 51 68 Z68, .fr 6, none⟩]) <|
 .seq (.seq (.reg [
 ⟨.mov (.fr 1), .tm, none⟩,
 ⟨.un .not (.tm 0), .tm, none⟩,
 ⟨.mov (.tm 0), .tm, none⟩,
 ⟨.mov (.fr 0), .tm, some ((.tm 0), false)⟩,
 ⟨.callf 99 [(.tm 0)], .tm, some ((.tm 1), false)⟩,
 ⟨.pick (.tm 2) (.c (.bool true)) (.tm 0), .tm, none⟩,
 ⟨.mov (.tm 0), .tm, none⟩,
 ⟨.mov (.fr 0), .tm, some ((.tm 0), false)⟩,
 ⟨.callf 100 [(.tm 0)], .tm, some ((.tm 1), false)⟩,
 ⟨.bin .gtr (.tm 0) (.c (.int .i64 0)), .tm, some ((.tm 2), false)⟩,
 ⟨.pick (.tm 3) (.c (.bool true)) (.tm 0), .tm, none⟩,
 ⟨.mov (.tm 0), .tm, none⟩,
 ⟨.loadn 68 (.fr 3), .tm, some ((.tm 0), false)⟩,
 ⟨.iface 51 (.tm 0), .tm, some ((.tm 1), false)⟩,
 ⟨.callf 101 [(.tm 0)], .tm, some ((.tm 2), false)⟩,
 ⟨.un .not (.tm 0), .tm, some ((.tm 3), false)⟩,
 ⟨.pick (.tm 4) (.c (.bool true)) (.tm 0), .fr 7, none⟩]) <|
 .cond (.fr 7)
 (.seq (.reg [
 ⟨.loadn 68 (.fr 6), .tm, none⟩,
 ⟨.storen 68 (.fr 4) (.tm 0), .no, none⟩,
 ⟨.mov (.c (.int .i64 130)), .fr 5, none⟩]) <|
 .ret)
 (.skip)) <|
 .seq (.reg [
 ⟨.loadn 68 (.fr 3), .tm, none⟩,
 ⟨.storen 68 (.fr 4) (.tm 0), .no, none⟩,
 ⟨.mov (.c (.int .i64 0)), .fr 5, none⟩]) <|
 .ret, [.cn 68 4, .t 5]⟩
def f70 : AFunc := ⟨[0, 2, 3],
 .seq (.reg [
 ⟨.new 51 68 Z68, .fr 1, none⟩]) <|
 .seq (.reg [
 ⟨.mov (.fr 0), .tm, none⟩,
 ⟨.callf 64 [(.tm 0)], .tm, none⟩,
 ⟨.mov (.fr 0), .tm, none⟩,
 ⟨.callf 64 [(.tm 0)], .tm, none⟩,
 ⟨.mov (.fr 0), .tm, none⟩,
 ⟨.callf 64 [(.tm 0)], .tm, none⟩,
 ⟨.build Z68 [(0, 1, (.tm 4)), (1, 1, (.tm 2)), (2, 1, (.tm 0))], .tm, none⟩,
 ⟨.new 51 68 Z68, .fr 2, none⟩,
 ⟨.storen 68 (.fr 2) (.tm 0), .no, none⟩]) <|
 .seq (.dreg [
 (⟨.faddr 3 (.fr 2), .tm, none⟩, []),
 (⟨.slarr 1 64 (.tm 0) none none none, .tm, none⟩, []),
 (⟨.mov (.fr 0), .tm, none⟩, []),
 (⟨.callf 74 [(.tm 0), (.c (.int .i64 64))], .tm, none⟩, []),
 (⟨.copy 1 (.tm 2) (.tm 0), .tm, none⟩, [])]) <|
 .seq (.reg [
 ⟨.mov (.fr 0), .tm, none⟩,
 ⟨.callf 65 [(.tm 0)], .tm, none⟩,
 ⟨.faddr 67 (.fr 2), .tm, none⟩,
 ⟨.store1 (.tm 0) (.tm 1), .no, none⟩]) <|
 .seq (.reg [
 ⟨.loadn 68 (.fr 2), .tm, none⟩,
 ⟨.storen 68 (.fr 1) (.tm 0), .no, none⟩]) <|
 .ret, [.cn 68 1]⟩
def f71 : AFunc := ⟨[0, 1, 4, 5, 6, 25],
 .seq (.reg [
 ⟨.new 51 68 Z68, .fr 2, none⟩]) <|
 .seq (.reg [
 ⟨.mov (.fr 0), .tm, none⟩,
 ⟨.mov (.fr 1), .tm, none⟩,
 ⟨.callf 67 [(.tm 1), (.tm 0), (.c (.int .i64 8))], .tm, none⟩,
 ⟨.mov (.fr 0), .tm, none⟩,
 ⟨.mov (.fr 1), .tm, none⟩,
 ⟨.bin .add (.tm 0) (.c (.int .i64 8)), .tm, none⟩,
 ⟨.callf 67 [(.tm 2), (.tm 0), (.c (.int .i64 8))], .tm, none⟩,
 ⟨.mov (.fr 0), .tm, none⟩,
 ⟨.mov (.fr 1), .tm, none⟩,
 ⟨.bin .add (.tm 0) (.c (.int .i64 16)), .tm, none⟩,
 ⟨.callf 67 [(.tm 2), (.tm 0), (.c (.int .i64 8))], .tm, none⟩,
 ⟨.mov (.fr 0), .tm, none⟩,
 ⟨.mov (.fr 1), .tm, none⟩,
 ⟨.bin .add (.tm 0) (.c (.int .i64 88)), .tm, none⟩,
 ⟨.callf 67 [(.tm 2), (.tm 0), (.c (.int .i64 4))], .tm, none⟩,
 ⟨.i2i .u32 (.tm 0), .tm, none⟩,
 ⟨.build Z68 [(0, 1, (.tm 13)), (1, 1, (.tm 9)), (2, 1, (.tm 5)), (67, 1, (.tm 0))], .tm, none⟩,
 ⟨.new 51 68 Z68, .fr 3, none⟩,
 ⟨.storen 68 (.fr 3) (.tm 0), .no, none⟩]) <|
 .seq (.seq (.reg [
 ⟨.mov (.c (.int .i64 0)), .fr 4, none⟩]) <|
 .block 0 (.loop (.seq (.seq (.reg [
 ⟨.mov (.fr 4), .tm, none⟩,
 ⟨.bin .lss (.tm 0) (.c (.int .i64 64)), .fr 5, none⟩]) <|
 .cond (.fr 5)
 (.skip)
 (.exit 0)) <|
 .seq (.block 1 (.reg [
 ⟨.mov (.fr 4), .tm, none⟩,
 ⟨.mov (.fr 0), .tm, none⟩,
 ⟨.mov (.fr 1), .tm, none⟩,
 ⟨.bin .add (.tm 0) (.c (.int .i64 24)), .tm, none⟩,
 ⟨.mov (.fr 4), .tm, none⟩,
 ⟨.bin .add (.tm 1) (.tm 0), .tm, none⟩,
 ⟨.callf 67 [(.tm 4), (.tm 0), (.c (.int .i64 1))], .tm, none⟩,
 ⟨.i2i .u8 (.tm 0), .tm, none⟩,
 ⟨.faddr 3 (.fr 3), .tm, none⟩,
 ⟨.iaddrp 1 64 (.tm 0) (.tm 8), .tm, none⟩,
 ⟨.store1 (.tm 0) (.tm 2), .no, none⟩])) <|
 .reg [
 ⟨.mov (.fr 4), .tm, none⟩,
 ⟨.bin .add (.tm 0) (.c (.int .i64 1)), .tm, none⟩,
 ⟨.mov (.tm 0), .fr 4, none⟩]))) <|
 .seq (.reg [
 ⟨.loadn 68 (.fr 3), .tm, none⟩,
 ⟨.storen 68 (.fr 2) (.tm 0), .no, none⟩]) <|
 .ret, [.cn 68 2]⟩
def f72 : AFunc := ⟨[0, 1, 2, 5, 6, 7, 8, 25],
 .seq (.reg [
 ⟨.box 57 70 (.fr 2), .fr 3, none⟩,
 ⟨.new 57 70 Z70, .fr 4, none⟩,
 ⟨.mov (.c (.int .i64 0)), .fr 5, none⟩]) <|
 .seq (.reg [
 ⟨.new 57 70 Z70, .fr 6, none⟩]) <|
 .seq (.seq (.reg [
 ⟨.mov (.fr 1), .tm, none⟩,
 ⟨.un .not (.tm 0), .tm, none⟩,
 ⟨.mov (.tm 0), .tm, none⟩,
 ⟨.mov (.fr 0), .tm, some ((.tm 0), false)⟩,
 ⟨.callf 99 [(.tm 0)], .tm, some ((.tm 1), false)⟩,
 ⟨.pick (.tm 2) (.c (.bool true)) (.tm 0), .tm, none⟩,
 ⟨.mov (.tm 0), .tm, none⟩,
 ⟨.mov (.fr 0), .tm, some ((.tm 0), false)⟩,
 ⟨.callf 100 [(.tm 0)], .tm, some ((.tm 1), false)⟩,
 ⟨.bin .gtr (.tm 0) (.c (.int .i64 0)), .tm, some ((.tm 2), false)⟩,
 ⟨.pick (.tm 3) (.c (.bool true)) (.tm 0), .tm, none⟩,
 ⟨.mov (.tm 0), .tm, none⟩,
 ⟨.loadn 70 (.fr 3), .tm, some ((.tm 0), false)⟩,
 ⟨.iface 57 (.tm 0), .tm, some ((.tm 1), false)⟩,
 ⟨.callf 101 [(.tm 0)], .tm, some ((.tm 2), false)⟩,
 ⟨.un .not (.tm 0), .tm, some ((.tm 3), false)⟩,
 ⟨.pick (.tm 4) (.c (.bool true)) (.tm 0), .fr 7, none⟩]) <|
 .cond (.fr 7)
 (.seq (.reg [
 ⟨.loadn 70 (.fr 6), .tm, none⟩,
 ⟨.storen 70 (.fr 4) (.tm 0), .no, none⟩,
 ⟨.mov (.c (.int .i64 130)), .fr 5, none⟩]) <|
 .ret)
 (.skip)) <|
 .seq (.reg [
 ⟨.loadn 70 (.fr 3), .tm, none⟩,
 ⟨.storen 70 (.fr 4) (.tm 0), .no, none⟩,
 ⟨.mov (.c (.int .i64 0)), .fr 5, none⟩]) <|
 .ret, [.cn 70 4, .t 5]⟩
def f76 : AFunc := ⟨[0, 1, 2, 5, 6, 7, 8, 25],
 .seq (.reg [
 ⟨.box 65 5 (.fr 2), .fr 3, none⟩,
 ⟨.new 65 5 [(.int .u8 0), (.int .u8 0), (.int .i64 0), (.int .i64 0), (.slice none 0 0)], .fr 4, none⟩,
 ⟨.mov (.c (.int .i64 0)), .fr 5, none⟩]) <|
 .seq (.reg [
 ⟨.new 65 5 [(.int .u8 0), (.int .u8 0), (.int .i64 0), (.int .i64 0), (.slice none 0 0)], .fr 6, none⟩]) <|
 .seq (.seq (.reg [
 ⟨.mov (.fr 1), .tm, none⟩,
 ⟨.un .not (.tm 0), .tm, none⟩,
 ⟨.mov (.tm 0), .tm, none⟩,
 ⟨.mov (.fr 0), .tm, some ((.tm 0), false)⟩,
 ⟨.callf 99 [(.tm 0)], .tm, some ((.tm 1), false)⟩,
 ⟨.pick (.tm 2) (.c (.bool true)) (.tm 0), .tm, none⟩,
 ⟨.mov (.tm 0), .tm, none⟩,
 ⟨.mov (.fr 0), .tm, some ((.tm 0), false)⟩,
 ⟨.callf 100 [(.tm 0)], .tm, some ((.tm 1), false)⟩,
 ⟨.bin .gtr (.tm 0) (.c (.int .i64 0)), .tm, some ((.tm 2), false)⟩,
 ⟨.pick (.tm 3) (.c (.bool true)) (.tm 0), .tm, none⟩,
 ⟨.mov (.tm 0), .tm, none⟩,
 ⟨.loadn 5 (.fr 3), .tm, some ((.tm 0), false)⟩,
 ⟨.iface 65 (.tm 0), .tm, some ((.tm 1), false)⟩,
 ⟨.callf 101 [(.tm 0)], .tm, some ((.tm 2), false)⟩,
 ⟨.un .not (.tm 0), .tm, some ((.tm 3), false)⟩,
 ⟨.pick (.tm 4) (.c (.bool true)) (.tm 0), .fr 7, none⟩]) <|
 .cond (.fr 7)
 (.seq (.reg [
 ⟨.loadn 5 (.fr 6), .tm, none⟩,
 ⟨.storen 5 (.fr 4) (.tm 0), .no, none⟩,
 ⟨.mov (.c (.int .i64 130)), .fr 5, none⟩]) <|
 .ret)
 (.skip)) <|
 .seq (.reg [
 ⟨.loadn 5 (.fr 3), .tm, none⟩,
 ⟨.storen 5 (.fr 4) (.tm 0), .no, none⟩,
 ⟨.mov (.c (.int .i64 0)), .fr 5, none⟩]) <|
 .ret, [.cn 5 4, .t 5]⟩
def f77 : AFunc := ⟨[0, 1, 2, 6, 7, 10],
 .seq (.reg [
 ⟨.mov (.c (.slice none 0 0)), .fr 3, none⟩]) <|
 .seq (.seq (.reg [
 ⟨.mov (.fr 1), .tm, none⟩,
 ⟨.callf 101 [(.tm 0)], .tm, none⟩,
 ⟨.un .not (.tm 0), .fr 5, none⟩]) <|
 .cond (.fr 5)
 (.seq (.reg [
 ⟨.mov (.c (.slice none 0 0)), .fr 3, none⟩]) <|
 .ret)
 (.skip)) <|
 .seq (.reg [
 ⟨.new 166 1 [(.slice none 0 0)], .fr 4, none⟩]) <|
 .seq (.reg [
 ⟨.mov (.fr 0), .tm, none⟩,
 ⟨.callf 79 [(.fr 4), (.tm 0)], .tm, none⟩]) <|
 .seq (.reg [
 ⟨.mov (.fr 2), .tm, none⟩,
 ⟨.callv (.tm 0) [(.fr 4)], .tm, none⟩]) <|
 .seq (.reg [
 ⟨.callf 104 [(.fr 4)], .tm, none⟩,
 ⟨.callf 97 [(.tm 0)], .tm, none⟩,
 ⟨.callf 85 [(.fr 4), (.tm 0)], .tm, none⟩]) <|
 .seq (.reg [
 ⟨.callf 104 [(.fr 4)], .tm, none⟩,
 ⟨.mov (.tm 0), .fr 3, none⟩]) <|
 .ret, [.t 3]⟩
def f78 : AFunc := ⟨[0, 1],
 .seq (.reg [
 ⟨.mov (.fr 0), .tm, none⟩,
 ⟨.faddr 0 (.fr 1), .tm, none⟩,
 ⟨.load1 (.tm 0), .tm, none⟩,
 ⟨.callf 79 [(.tm 2), (.tm 0)], .tm, none⟩]) <|
 .seq (.reg [
 ⟨.mov (.fr 0), .tm, none⟩,
 ⟨.faddr 1 (.fr 1), .tm, none⟩,
 ⟨.load1 (.tm 0), .tm, none⟩,
 ⟨.callf 79 [(.tm 2), (.tm 0)], .tm, none⟩]) <|
 .seq (.reg [
 ⟨.mov (.fr 0), .tm, none⟩,
 ⟨.faddr 2 (.fr 1), .tm, none⟩,
 ⟨.load1 (.tm 0), .tm, none⟩,
 ⟨.faddr 3 (.fr 1), .tm, none⟩,
 ⟨.load1 (.tm 0), .tm, none⟩,
 ⟨.bslice 2 1 2 [(.int .i64 0), (.int .i64 0)] [(0, 1, (.tm 2)), (1, 1, (.tm 0))], .tm, none⟩,
 ⟨.callf 80 [(.tm 5), (.tm 0)], .tm, none⟩]) <|
 .seq (.reg [
 ⟨.mov (.fr 0), .tm, none⟩,
 ⟨.faddr 4 (.fr 1), .tm, none⟩,
 ⟨.load1 (.tm 0), .tm, none⟩,
 ⟨.len false (.tm 0), .tm, none⟩,
 ⟨.i2i .u16 (.tm 0), .tm, none⟩,
 ⟨.callf 81 [(.tm 4), (.tm 0)], .tm, none⟩]) <|
 .reg [
 ⟨.mov (.fr 0), .tm, none⟩,
 ⟨.faddr 4 (.fr 1), .tm, none⟩,
 ⟨.load1 (.tm 0), .tm, none⟩,
 ⟨.callf 82 [(.tm 2), (.tm 0)], .tm, none⟩], []⟩
def f80 : AFunc := ⟨[0, 1, 5, 6, 7, 8, 9],
 .seq (.reg [
 ⟨.mov (.fr 1), .fr 3, none⟩,
 ⟨.len false (.fr 3), .fr 4, none⟩,
 ⟨.mov (.c (.int .i64 0)), .fr 5, none⟩]) <|
 .block 0 (.loop (.seq (.reg [
 ⟨.bin .lss (.fr 5) (.fr 4), .fr 6, none⟩]) <|
 .seq (.cond (.fr 6)
 (.skip)
 (.exit 0)) <|
 .seq (.block 1 (.seq (.reg [
 ⟨.iaddr 1 (.fr 3) (.fr 5), .tm, none⟩,
 ⟨.load1 (.tm 0), .tm, none⟩,
 ⟨.mov (.tm 0), .fr 2, none⟩]) <|
 .reg [
 ⟨.mov (.fr 0), .tm, none⟩,
 ⟨.mov (.fr 2), .tm, none⟩,
 ⟨.i2i .u64 (.tm 0), .tm, none⟩,
 ⟨.callf 84 [(.tm 2), (.tm 0)], .tm, none⟩])) <|
 .reg [
 ⟨.bin .add (.fr 5) (.c (.int .i64 1)), .tm, none⟩,
 ⟨.mov (.tm 0), .fr 5, none⟩])), []⟩
def f83 : AFunc := ⟨[0, 1, 4, 38, 39, 40, 41],
 .seq (.reg [
 ⟨.mov (.fr 0), .tm, none⟩,
 ⟨.faddr 0 (.fr 1), .tm, none⟩,
 ⟨.load1 (.tm 0), .tm, none⟩,
 ⟨.callf 79 [(.tm 2), (.tm 0)], .tm, none⟩]) <|
 .seq (.reg [
 ⟨.mov (.fr 0), .tm, none⟩,
 ⟨.faddr 1 (.fr 1), .tm, none⟩,
 ⟨.load1 (.tm 0), .tm, none⟩,
 ⟨.bslice 2 1 1 [(.int .i64 0)] [(0, 1, (.tm 0))], .tm, none⟩,
 ⟨.callf 80 [(.tm 3), (.tm 0)], .tm, none⟩]) <|
 .seq (.reg [
 ⟨.mov (.fr 0), .tm, none⟩,
 ⟨.faddr 2 (.fr 1), .tm, none⟩,
 ⟨.faddr 0 (.tm 0), .tm, none⟩,
 ⟨.load1 (.tm 0), .tm, none⟩,
 ⟨.callf 84 [(.tm 3), (.tm 0)], .tm, none⟩]) <|
 .seq (.reg [
 ⟨.mov (.fr 0), .tm, none⟩,
 ⟨.faddr 2 (.fr 1), .tm, none⟩,
 ⟨.faddr 1 (.tm 0), .tm, none⟩,
 ⟨.load1 (.tm 0), .tm, none⟩,
 ⟨.callf 85 [(.tm 3), (.tm 0)], .tm, none⟩]) <|
 .seq (.reg [
 ⟨.mov (.fr 0), .tm, none⟩,
 ⟨.faddr 2 (.fr 1), .tm, none⟩,
 ⟨.faddr 2 (.tm 0), .tm, none⟩,
 ⟨.load1 (.tm 0), .tm, none⟩,
 ⟨.callf 85 [(.tm 3), (.tm 0)], .tm, none⟩]) <|
 .seq (.reg [
 ⟨.mov (.fr 0), .tm, none⟩,
 ⟨.faddr 2 (.fr 1), .tm, none⟩,
 ⟨.faddr 3 (.tm 0), .tm, none⟩,
 ⟨.load1 (.tm 0), .tm, none⟩,
 ⟨.len false (.tm 0), .tm, none⟩,
 ⟨.i2i .u8 (.tm 0), .tm, none⟩,
 ⟨.callf 79 [(.tm 5), (.tm 0)], .tm, none⟩]) <|
 .seq (.reg [
 ⟨.faddr 2 (.fr 1), .tm, none⟩,
 ⟨.faddr 3 (.tm 0), .tm, none⟩,
 ⟨.load1 (.tm 0), .fr 3, none⟩,
 ⟨.len false (.fr 3), .fr 4, none⟩,
 ⟨.mov (.c (.int .i64 0)), .fr 5, none⟩]) <|
 .block 0 (.loop (.seq (.reg [
 ⟨.bin .lss (.fr 5) (.fr 4), .fr 6, none⟩]) <|
 .seq (.cond (.fr 6)
 (.skip)
 (.exit 0)) <|
 .seq (.block 1 (.seq (.reg [
 ⟨.iaddr 2 (.fr 3) (.fr 5), .tm, none⟩,
 ⟨.loadn 2 (.tm 0), .tm, none⟩,
 ⟨.new 108 2 [(.int .u8 0), (.int .i64 0)], .fr 2, none⟩,
 ⟨.storen 2 (.fr 2) (.tm 0), .no, none⟩]) <|
 .seq (.reg [
 ⟨.mov (.fr 0), .tm, none⟩,
 ⟨.faddr 0 (.fr 2), .tm, none⟩,
 ⟨.load1 (.tm 0), .tm, none⟩,
 ⟨.callf 79 [(.tm 2), (.tm 0)], .tm, none⟩]) <|
 .reg [
 ⟨.mov (.fr 0), .tm, none⟩,
 ⟨.faddr 1 (.fr 2), .tm, none⟩,
 ⟨.load1 (.tm 0), .tm, none⟩,
 ⟨.i2i .u8 (.tm 0), .tm, none⟩,
 ⟨.callf 79 [(.tm 3), (.tm 0)], .tm, none⟩])) <|
 .reg [
 ⟨.bin .add (.fr 5) (.c (.int .i64 1)), .tm, none⟩,
 ⟨.mov (.tm 0), .fr 5, none⟩])), []⟩
def f86 : AFunc := ⟨[0, 1],
 .seq (.reg [
 ⟨.mov (.fr 0), .tm, none⟩,
 ⟨.faddr 0 (.fr 1), .tm, none⟩,
 ⟨.load1 (.tm 0), .tm, none⟩,
 ⟨.callf 79 [(.tm 2), (.tm 0)], .tm, none⟩]) <|
 .seq (.reg [
 ⟨.mov (.fr 0), .tm, none⟩,
 ⟨.faddr 1 (.fr 1), .tm, none⟩,
 ⟨.load1 (.tm 0), .tm, none⟩,
 ⟨.faddr 2 (.fr 1), .tm, none⟩,
 ⟨.load1 (.tm 0), .tm, none⟩,
 ⟨.bslice 2 1 2 [(.int .i64 0), (.int .i64 0)] [(0, 1, (.tm 2)), (1, 1, (.tm 0))], .tm, none⟩,
 ⟨.callf 80 [(.tm 5), (.tm 0)], .tm, none⟩]) <|
 .seq (.reg [
 ⟨.mov (.fr 0), .tm, none⟩,
 ⟨.faddr 3 (.fr 1), .tm, none⟩,
 ⟨.faddr 0 (.tm 0), .tm, none⟩,
 ⟨.load1 (.tm 0), .tm, none⟩,
 ⟨.callf 84 [(.tm 3), (.tm 0)], .tm, none⟩]) <|
 .reg [
 ⟨.mov (.fr 0), .tm, none⟩,
 ⟨.faddr 3 (.fr 1), .tm, none⟩,
 ⟨.faddr 1 (.tm 0), .tm, none⟩,
 ⟨.load1 (.tm 0), .tm, none⟩,
 ⟨.callf 85 [(.tm 3), (.tm 0)], .tm, none⟩], []⟩
def f87 : AFunc := ⟨[0, 1],
 .reg [
 ⟨.mov (.fr 0), .tm, none⟩,
 ⟨.loadn 68 (.fr 1), .tm, none⟩,
 ⟨.callf 88 [(.tm 1), (.tm 0)], .tm, none⟩], []⟩
def f88 : AFunc := ⟨[0, 1, 3],
 .seq (.reg [
 ⟨.box 51 68 (.fr 1), .fr 2, none⟩]) <|
 .seq (.reg [
 ⟨.mov (.fr 0), .tm, none⟩,
 ⟨.faddr 0 (.fr 2), .tm, none⟩,
 ⟨.load1 (.tm 0), .tm, none⟩,
 ⟨.callf 84 [(.tm 2), (.tm 0)], .tm, none⟩]) <|
 .seq (.reg [
 ⟨.mov (.fr 0), .tm, none⟩,
 ⟨.faddr 1 (.fr 2), .tm, none⟩,
 ⟨.load1 (.tm 0), .tm, none⟩,
 ⟨.callf 84 [(.tm 2), (.tm 0)], .tm, none⟩]) <|
 .seq (.reg [
 ⟨.mov (.fr 0), .tm, none⟩,
 ⟨.faddr 2 (.fr 2), .tm, none⟩,
 ⟨.load1 (.tm 0), .tm, none⟩,
 ⟨.callf 84 [(.tm 2), (.tm 0)], .tm, none⟩]) <|
 .seq (.reg [
 ⟨.mov (.fr 0), .tm, none⟩,
 ⟨.faddr 3 (.fr 2), .tm, none⟩,
 ⟨.slarr 1 64 (.tm 0) none none none, .tm, none⟩,
 ⟨.callf 82 [(.tm 2), (.tm 0)], .tm, none⟩]) <|
 .reg [
 ⟨.mov (.fr 0), .tm, none⟩,
 ⟨.faddr 67 (.fr 2), .tm, none⟩,
 ⟨.load1 (.tm 0), .tm, none⟩,
 ⟨.callf 85 [(.tm 2), (.tm 0)], .tm, none⟩], []⟩
def f89 : AFunc := ⟨[0, 1],
 .seq (.reg [
 ⟨.mov (.fr 0), .tm, none⟩,
 ⟨.faddr 0 (.fr 1), .tm, none⟩,
 ⟨.load1 (.tm 0), .tm, none⟩,
 ⟨.faddr 1 (.fr 1), .tm, none⟩,
 ⟨.load1 (.tm 0), .tm, none⟩,
 ⟨.bslice 2 1 2 [(.int .i64 0), (.int .i64 0)] [(0, 1, (.tm 2)), (1, 1, (.tm 0))], .tm, none⟩,
 ⟨.callf 80 [(.tm 5), (.tm 0)], .tm, none⟩]) <|
 .reg [
 ⟨.mov (.fr 0), .tm, none⟩,
 ⟨.faddr 2 (.fr 1), .tm, none⟩,
 ⟨.loadn 68 (.tm 0), .tm, none⟩,
 ⟨.callf 88 [(.tm 2), (.tm 0)], .tm, none⟩], []⟩
def f90 : AFunc := ⟨[0, 2],
 .seq (.reg [
 ⟨.mov (.c (.bool false)), .fr 1, none⟩]) <|
 .seq (.reg [
 ⟨.mov (.fr 0), .tm, none⟩,
 ⟨.bin .geq (.tm 0) (.c (.int .i64 0)), .tm, none⟩,
 ⟨.mov (.tm 0), .tm, none⟩,
 ⟨.mov (.fr 0), .tm, some ((.tm 0), true)⟩,
 ⟨.bin .leq (.tm 0) (.c (.int .i64 1099511627776)), .tm, some ((.tm 1), true)⟩,
 ⟨.pick (.tm 2) (.tm 0) (.c (.bool false)), .tm, none⟩,
 ⟨.mov (.tm 0), .fr 1, none⟩]) <|
 .ret, [.t 1]⟩
def f91 : AFunc := ⟨[0, 1, 4],
 .seq (.reg [
 ⟨.mov (.c (.slice none 0 0)), .fr 2, none⟩]) <|
 .seq (.reg [
 ⟨.mov (.fr 0), .tm, none⟩,
 ⟨.mov (.fr 1), .tm, none⟩,
 ⟨.callf 106 [(.tm 1), (.tm 0)], .tm, none⟩,
 ⟨.mov (.tm 0), .fr 2, none⟩]) <|
 .ret, [.t 2]⟩
def f92 : AFunc := ⟨[0, 2],
 .seq (.reg [
 ⟨.mov (.c (.slice none 0 0)), .fr 1, none⟩]) <|
 .seq (.reg [
 ⟨.mov (.fr 0), .tm, none⟩,
 ⟨.mov (.fr 0), .tm, none⟩,
 ⟨.callf 107 [(.tm 0)], .tm, none⟩,
 ⟨.i2i .u64 (.tm 0), .tm, none⟩,
 ⟨.callf 91 [(.tm 0), (.c (.int .i64 4))], .tm, none⟩,
 ⟨.app 5 1 1 (.tm 4) (.tm 0), .tm, none⟩,
 ⟨.mov (.tm 0), .fr 1, none⟩]) <|
 .ret, [.t 1]⟩
def f93 : AFunc := ⟨[0, 1, 2, 3, 4, 19],
 .seq (.reg [
 ⟨.box 51 68 (.fr 0), .fr 1, none⟩,
 ⟨.mov (.c (.slice none 0 0)), .fr 2, none⟩]) <|
 .seq (.reg [
 ⟨.faddr 0 (.fr 1), .tm, none⟩,
 ⟨.load1 (.tm 0), .tm, none⟩,
 ⟨.callf 91 [(.tm 0), (.c (.int .i64 8))], .tm, none⟩,
 ⟨.mov (.tm 0), .fr 3, none⟩]) <|
 .seq (.reg [
 ⟨.mov (.fr 3), .tm, none⟩,
 ⟨.faddr 1 (.fr 1), .tm, none⟩,
 ⟨.load1 (.tm 0), .tm, none⟩,
 ⟨.callf 91 [(.tm 0), (.c (.int .i64 8))], .tm, none⟩,
 ⟨.app 5 1 1 (.tm 3) (.tm 0), .tm, none⟩,
 ⟨.mov (.tm 0), .fr 3, none⟩]) <|
 .seq (.reg [
 ⟨.mov (.fr 3), .tm, none⟩,
 ⟨.faddr 2 (.fr 1), .tm, none⟩,
 ⟨.load1 (.tm 0), .tm, none⟩,
 ⟨.callf 91 [(.tm 0), (.c (.int .i64 8))], .tm, none⟩,
 ⟨.app 5 1 1 (.tm 3) (.tm 0), .tm, none⟩,
 ⟨.mov (.tm 0), .fr 3, none⟩]) <|
 .seq (.seq (.reg [
 ⟨.mov (.c (.int .i64 0)), .fr 4, none⟩]) <|
 .block 0 (.loop (.seq (.seq (.reg [
 ⟨.mov (.fr 4), .tm, none⟩,
 ⟨.bin .lss (.tm 0) (.c (.int .i64 64)), .fr 5, none⟩]) <|
 .cond (.fr 5)
 (.skip)
 (.exit 0)) <|
 .seq (.block 1 (.reg [
 ⟨.mov (.fr 3), .tm, none⟩,
 ⟨.mov (.fr 4), .tm, none⟩,
 ⟨.faddr 3 (.fr 1), .tm, none⟩,
 ⟨.iaddrp 1 64 (.tm 0) (.tm 1), .tm, none⟩,
 ⟨.load1 (.tm 0), .tm, none⟩,
 ⟨.bslice 5 1 1 [(.int .u8 0)] [(0, 1, (.tm 0))], .tm, none⟩,
 ⟨.app 5 1 1 (.tm 5) (.tm 0), .tm, none⟩,
 ⟨.mov (.tm 0), .fr 3, none⟩])) <|
 .reg [
 ⟨.mov (.fr 4), .tm, none⟩,
 ⟨.bin .add (.tm 0) (.c (.int .i64 1)), .tm, none⟩,
 ⟨.mov (.tm 0), .fr 4, none⟩]))) <|
 .seq (.reg [
 ⟨.mov (.fr 3), .tm, none⟩,
 ⟨.faddr 67 (.fr 1), .tm, none⟩,
 ⟨.load1 (.tm 0), .tm, none⟩,
 ⟨.i2i .u64 (.tm 0), .tm, none⟩,
 ⟨.callf 91 [(.tm 0), (.c (.int .i64 4))], .tm, none⟩,
 ⟨.app 5 1 1 (.tm 4) (.tm 0), .tm, none⟩,
 ⟨.mov (.tm 0), .fr 2, none⟩]) <|
 .ret, [.t 2]⟩
def f101 : AFunc := ⟨[0, 2, 3, 4, 5, 6, 7, 8, 9, 10, 16, 40, 52],
 .seq (.reg [
 ⟨.mov (.c (.bool false)), .fr 1, none⟩]) <|
 .seq (.seq (.reg [
 ⟨.mov (.fr 0), .tm, none⟩,
 ⟨.assert 30 (.agg #[(.int .u8 0), (.int .i64 0), (.int .u64 0), (.int .u32 0), (.int .u32 0), (.slice none 0 0)]) true (.tm 0), .tm, none⟩,
 ⟨.mov (.tm 0), .tm, none⟩,
 ⟨.extract (.tm 0) 0, .tm, none⟩,
 ⟨.extract (.tm 1) 1, .tm, none⟩,
 ⟨.new 30 6 [(.int .u8 0), (.int .i64 0), (.int .u64 0), (.int .u32 0), (.int .u32 0), (.slice none 0 0)], .fr 2, none⟩,
 ⟨.storen 6 (.fr 2) (.tm 1), .no, none⟩,
 ⟨.mov (.tm 0), .fr 3, none⟩]) <|
 .seq (.reg [
 ⟨.mov (.fr 3), .fr 10, none⟩]) <|
 .cond (.fr 10)
 (.seq (.reg [
 ⟨.faddr 1 (.fr 2), .tm, none⟩,
 ⟨.load1 (.tm 0), .tm, none⟩,
 ⟨.bslice 2 1 1 [(.int .i64 0)] [(0, 1, (.tm 0))], .tm, none⟩,
 ⟨.callf 111 [(.tm 0)], .tm, none⟩,
 ⟨.mov (.tm 0), .tm, none⟩,
 ⟨.faddr 2 (.fr 2), .tm, some ((.tm 0), true)⟩,
 ⟨.faddr 3 (.tm 0), .tm, some ((.tm 1), true)⟩,
 ⟨.load1 (.tm 0), .tm, some ((.tm 2), true)⟩,
 ⟨.len false (.tm 0), .tm, some ((.tm 3), true)⟩,
 ⟨.bin .leq (.tm 0) (.c (.int .i64 8)), .tm, some ((.tm 4), true)⟩,
 ⟨.pick (.tm 5) (.tm 0) (.c (.bool false)), .tm, none⟩,
 ⟨.mov (.tm 0), .tm, none⟩,
 ⟨.faddr 2 (.fr 2), .tm, some ((.tm 0), true)⟩,
 ⟨.faddr 3 (.tm 0), .tm, some ((.tm 1), true)⟩,
 ⟨.load1 (.tm 0), .tm, some ((.tm 2), true)⟩,
 ⟨.callf 112 [(.tm 0), (.fn 113)], .tm, some ((.tm 3), true)⟩,
 ⟨.un .not (.tm 0), .tm, some ((.tm 4), true)⟩,
 ⟨.pick (.tm 5) (.tm 0) (.c (.bool false)), .tm, none⟩,
 ⟨.mov (.tm 0), .fr 1, none⟩]) <|
 .ret)
 (.skip)) <|
 .seq (.seq (.reg [
 ⟨.mov (.fr 0), .tm, none⟩,
 ⟨.assert 42 (.agg #[(.int .u8 0), (.int .i64 0), (.int .i64 0), (.int .u64 0), (.int .u32 0)]) true (.tm 0), .tm, none⟩,
 ⟨.mov (.tm 0), .tm, none⟩,
 ⟨.extract (.tm 0) 0, .tm, none⟩,
 ⟨.extract (.tm 1) 1, .tm, none⟩,
 ⟨.new 42 5 [(.int .u8 0), (.int .i64 0), (.int .i64 0), (.int .u64 0), (.int .u32 0)], .fr 4, none⟩,
 ⟨.storen 5 (.fr 4) (.tm 1), .no, none⟩,
 ⟨.mov (.tm 0), .fr 5, none⟩]) <|
 .seq (.reg [
 ⟨.mov (.fr 5), .fr 11, none⟩]) <|
 .cond (.fr 11)
 (.seq (.reg [
 ⟨.faddr 1 (.fr 4), .tm, none⟩,
 ⟨.load1 (.tm 0), .tm, none⟩,
 ⟨.faddr 2 (.fr 4), .tm, none⟩,
 ⟨.load1 (.tm 0), .tm, none⟩,
 ⟨.bslice 2 1 2 [(.int .i64 0), (.int .i64 0)] [(0, 1, (.tm 2)), (1, 1, (.tm 0))], .tm, none⟩,
 ⟨.callf 111 [(.tm 0)], .tm, none⟩,
 ⟨.mov (.tm 0), .fr 1, none⟩]) <|
 .ret)
 (.skip)) <|
 .seq (.seq (.reg [
 ⟨.mov (.fr 0), .tm, none⟩,
 ⟨.assert 57 (.agg Z70.toArray) true (.tm 0), .tm, none⟩,
 ⟨.mov (.tm 0), .tm, none⟩,
 ⟨.extract (.tm 0) 0, .tm, none⟩,
 ⟨.extract (.tm 1) 1, .tm, none⟩,
 ⟨.new 57 70 Z70, .fr 6, none⟩,
 ⟨.storen 70 (.fr 6) (.tm 1), .no, none⟩,
 ⟨.mov (.tm 0), .fr 7, none⟩]) <|
 .seq (.reg [
 ⟨.mov (.fr 7), .fr 12, none⟩]) <|
 .cond (.fr 12)
 (.seq (.reg [
 ⟨.faddr 0 (.fr 6), .tm, none⟩,
 ⟨.load1 (.tm 0), .tm, none⟩,
 ⟨.faddr 1 (.fr 6), .tm, none⟩,
 ⟨.load1 (.tm 0), .tm, none⟩,
 ⟨.bslice 2 1 2 [(.int .i64 0), (.int .i64 0)] [(0, 1, (.tm 2)), (1, 1, (.tm 0))], .tm, none⟩,
 ⟨.callf 111 [(.tm 0)], .tm, none⟩,
 ⟨.mov (.tm 0), .fr 1, none⟩]) <|
 .ret)
 (.skip)) <|
 .seq (.reg [
 ⟨.mov (.fr 0), .tm, none⟩,
 ⟨.assert 65 (.agg #[(.int .u8 0), (.int .u8 0), (.int .i64 0), (.int .i64 0), (.slice none 0 0)]) true (.tm 0), .tm, none⟩,
 ⟨.mov (.tm 0), .tm, none⟩,
 ⟨.extract (.tm 0) 0, .tm, none⟩,
 ⟨.extract (.tm 1) 1, .tm, none⟩,
 ⟨.new 65 5 [(.int .u8 0), (.int .u8 0), (.int .i64 0), (.int .i64 0), (.slice none 0 0)], .fr 8, none⟩,
 ⟨.storen 5 (.fr 8) (.tm 1), .no, none⟩,
 ⟨.mov (.tm 0), .fr 9, none⟩]) <|
 .seq (.reg [
 ⟨.mov (.fr 9), .tm, none⟩,
 ⟨.un .not (.tm 0), .tm, none⟩,
 ⟨.mov (.tm 0), .tm, none⟩,
 ⟨.faddr 2 (.fr 8), .tm, some ((.tm 0), false)⟩,
 ⟨.load1 (.tm 0), .tm, some ((.tm 1), false)⟩,
 ⟨.bin .geq (.tm 0) (.c (.int .i64 0)), .tm, some ((.tm 2), false)⟩,
 ⟨.mov (.tm 0), .tm, some ((.tm 3), false)⟩,
 ⟨.faddr 2 (.fr 8), .tm, some ((.tm 0), true)⟩,
 ⟨.load1 (.tm 0), .tm, some ((.tm 1), true)⟩,
 ⟨.bin .leq (.tm 0) (.c (.int .i64 4611686018427387904)), .tm, some ((.tm 2), true)⟩,
 ⟨.pick (.tm 3) (.tm 0) (.c (.bool false)), .tm, some ((.tm 7), false)⟩,
 ⟨.mov (.tm 0), .tm, some ((.tm 8), false)⟩,
 ⟨.faddr 3 (.fr 8), .tm, some ((.tm 0), true)⟩,
 ⟨.load1 (.tm 0), .tm, some ((.tm 1), true)⟩,
 ⟨.bin .geq (.tm 0) (.c (.int .i64 0)), .tm, some ((.tm 2), true)⟩,
 ⟨.pick (.tm 3) (.tm 0) (.c (.bool false)), .tm, some ((.tm 12), false)⟩,
 ⟨.mov (.tm 0), .tm, some ((.tm 13), false)⟩,
 ⟨.faddr 3 (.fr 8), .tm, some ((.tm 0), true)⟩,
 ⟨.load1 (.tm 0), .tm, some ((.tm 1), true)⟩,
 ⟨.bin .leq (.tm 0) (.c (.int .i64 4611686018427387904)), .tm, some ((.tm 2), true)⟩,
 ⟨.pick (.tm 3) (.tm 0) (.c (.bool false)), .tm, some ((.tm 17), false)⟩,
 ⟨.mov (.tm 0), .tm, some ((.tm 18), false)⟩,
 ⟨.faddr 4 (.fr 8), .tm, some ((.tm 0), true)⟩,
 ⟨.load1 (.tm 0), .tm, some ((.tm 1), true)⟩,
 ⟨.len false (.tm 0), .tm, some ((.tm 2), true)⟩,
 ⟨.bin .leq (.tm 0) (.c (.int .i64 2048)), .tm, some ((.tm 3), true)⟩,
 ⟨.pick (.tm 4) (.tm 0) (.c (.bool false)), .tm, some ((.tm 23), false)⟩,
 ⟨.pick (.tm 24) (.c (.bool true)) (.tm 0), .tm, none⟩,
 ⟨.mov (.tm 0), .fr 1, none⟩]) <|
 .ret, [.t 1]⟩
def f111 : AFunc := ⟨[0, 2],
 .seq (.reg [
 ⟨.mov (.c (.bool false)), .fr 1, none⟩]) <|
 .seq (.reg [
 ⟨.mov (.fr 0), .tm, none⟩,
 ⟨.callf 116 [(.tm 0), (.fn 117)], .tm, none⟩,
 ⟨.un .not (.tm 0), .tm, none⟩,
 ⟨.mov (.tm 0), .fr 1, none⟩]) <|
 .ret, [.t 1]⟩
def f112 : AFunc := ⟨[0, 1, 4],
 .seq (.reg [
 ⟨.mov (.c (.bool false)), .fr 2, none⟩]) <|
 .seq (.reg [
 ⟨.mov (.fr 0), .tm, none⟩,
 ⟨.mov (.fr 1), .tm, none⟩,
 ⟨.callf 118 [(.tm 1), (.tm 0)], .tm, none⟩,
 ⟨.bin .geq (.tm 0) (.c (.int .i64 0)), .tm, none⟩,
 ⟨.mov (.tm 0), .fr 2, none⟩]) <|
 .ret, [.t 2]⟩
def f113 : AFunc := ⟨[0, 1, 2],
 .seq (.reg [
 ⟨.box 108 2 (.fr 0), .fr 1, none⟩,
 ⟨.mov (.c (.bool false)), .fr 2, none⟩]) <|
 .seq (.reg [
 ⟨.faddr 0 (.fr 1), .tm, none⟩,
 ⟨.load1 (.tm 0), .tm, none⟩,
 ⟨.bin .lss (.tm 0) (.c (.int .u8 1)), .tm, none⟩,
 ⟨.mov (.tm 0), .tm, none⟩,
 ⟨.faddr 0 (.fr 1), .tm, some ((.tm 0), false)⟩,
 ⟨.load1 (.tm 0), .tm, some ((.tm 1), false)⟩,
 ⟨.bin .gtr (.tm 0) (.c (.int .u8 3)), .tm, some ((.tm 2), false)⟩,
 ⟨.pick (.tm 3) (.c (.bool true)) (.tm 0), .tm, none⟩,
 ⟨.mov (.tm 0), .tm, none⟩,
 ⟨.faddr 1 (.fr 1), .tm, some ((.tm 0), false)⟩,
 ⟨.load1 (.tm 0), .tm, some ((.tm 1), false)⟩,
 ⟨.bin .lss (.tm 0) (.c (.int .i64 0)), .tm, some ((.tm 2), false)⟩,
 ⟨.pick (.tm 3) (.c (.bool true)) (.tm 0), .tm, none⟩,
 ⟨.mov (.tm 0), .tm, none⟩,
 ⟨.faddr 1 (.fr 1), .tm, some ((.tm 0), false)⟩,
 ⟨.load1 (.tm 0), .tm, some ((.tm 1), false)⟩,
 ⟨.bin .gtr (.tm 0) (.c (.int .i64 63)), .tm, some ((.tm 2), false)⟩,
 ⟨.pick (.tm 3) (.c (.bool true)) (.tm 0), .tm, none⟩,
 ⟨.mov (.tm 0), .fr 2, none⟩]) <|
 .ret, [.t 2]⟩
def f116 : AFunc := ⟨[0, 1, 4],
 .seq (.reg [
 ⟨.mov (.c (.bool false)), .fr 2, none⟩]) <|
 .seq (.reg [
 ⟨.mov (.fr 0), .tm, none⟩,
 ⟨.mov (.fr 1), .tm, none⟩,
 ⟨.callf 119 [(.tm 1), (.tm 0)], .tm, none⟩,
 ⟨.bin .geq (.tm 0) (.c (.int .i64 0)), .tm, none⟩,
 ⟨.mov (.tm 0), .fr 2, none⟩]) <|
 .ret, [.t 2]⟩
def f117 : AFunc := ⟨[0, 2],
 .seq (.reg [
 ⟨.mov (.c (.bool false)), .fr 1, none⟩]) <|
 .seq (.reg [
 ⟨.mov (.fr 0), .tm, none⟩,
 ⟨.bin .lss (.tm 0) (.c (.int .i64 0)), .tm, none⟩,
 ⟨.mov (.tm 0), .tm, none⟩,
 ⟨.mov (.fr 0), .tm, some ((.tm 0), false)⟩,
 ⟨.bin .gtr (.tm 0) (.c (.int .i64 1099511627776)), .tm, some ((.tm 1), false)⟩,
 ⟨.pick (.tm 2) (.c (.bool true)) (.tm 0), .tm, none⟩,
 ⟨.mov (.tm 0), .fr 1, none⟩]) <|
 .ret, [.t 1]⟩
def f118 : AFunc := ⟨[0, 1, 4, 5, 7, 8, 9, 16],
 .seq (.reg [
 ⟨.mov (.c (.int .i64 0)), .fr 2, none⟩]) <|
 .seq (.seq (.reg [
 ⟨.mov (.fr 0), .tm, none⟩,
 ⟨.len false (.tm 0), .fr 4, none⟩,
 ⟨.mov (.c (.int .i64 0)), .fr 5, none⟩]) <|
 .block 0 (.loop (.seq (.reg [
 ⟨.bin .lss (.fr 5) (.fr 4), .fr 6, none⟩]) <|
 .seq (.cond (.fr 6)
 (.skip)
 (.exit 0)) <|
 .seq (.block 1 (.seq (.reg [
 ⟨.mov (.fr 5), .tm, none⟩,
 ⟨.mov (.tm 0), .fr 3, none⟩]) <|
 .seq (.reg [
 ⟨.mov (.fr 1), .tm, none⟩,
 ⟨.mov (.fr 0), .tm, none⟩,
 ⟨.mov (.fr 3), .tm, none⟩,
 ⟨.iaddr 2 (.tm 1) (.tm 0), .tm, none⟩,
 ⟨.loadn 2 (.tm 0), .tm, none⟩,
 ⟨.callv (.tm 4) [(.tm 0)], .fr 7, none⟩]) <|
 .cond (.fr 7)
 (.seq (.reg [
 ⟨.mov (.fr 3), .tm, none⟩,
 ⟨.mov (.tm 0), .fr 2, none⟩]) <|
 .ret)
 (.skip))) <|
 .reg [
 ⟨.bin .add (.fr 5) (.c (.int .i64 1)), .tm, none⟩,
 ⟨.mov (.tm 0), .fr 5, none⟩]))) <|
 .seq (.reg [
 ⟨.mov (.c (.int .i64 (-1))), .fr 2, none⟩]) <|
 .ret, [.t 2]⟩
def f119 : AFunc := ⟨[0, 1, 4, 5, 7, 8, 9, 16],
 .seq (.reg [
 ⟨.mov (.c (.int .i64 0)), .fr 2, none⟩]) <|
 .seq (.seq (.reg [
 ⟨.mov (.fr 0), .tm, none⟩,
 ⟨.len false (.tm 0), .fr 4, none⟩,
 ⟨.mov (.c (.int .i64 0)), .fr 5, none⟩]) <|
 .block 0 (.loop (.seq (.reg [
 ⟨.bin .lss (.fr 5) (.fr 4), .fr 6, none⟩]) <|
 .seq (.cond (.fr 6)
 (.skip)
 (.exit 0)) <|
 .seq (.block 1 (.seq (.reg [
 ⟨.mov (.fr 5), .tm, none⟩,
 ⟨.mov (.tm 0), .fr 3, none⟩]) <|
 .seq (.reg [
 ⟨.mov (.fr 1), .tm, none⟩,
 ⟨.mov (.fr 0), .tm, none⟩,
 ⟨.mov (.fr 3), .tm, none⟩,
 ⟨.iaddr 1 (.tm 1) (.tm 0), .tm, none⟩,
 ⟨.load1 (.tm 0), .tm, none⟩,
 ⟨.callv (.tm 4) [(.tm 0)], .fr 7, none⟩]) <|
 .cond (.fr 7)
 (.seq (.reg [
 ⟨.mov (.fr 3), .tm, none⟩,
 ⟨.mov (.tm 0), .fr 2, none⟩]) <|
 .ret)
 (.skip))) <|
 .reg [
 ⟨.bin .add (.fr 5) (.c (.int .i64 1)), .tm, none⟩,
 ⟨.mov (.tm 0), .fr 5, none⟩]))) <|
 .seq (.reg [
 ⟨.mov (.c (.int .i64 (-1))), .fr 2, none⟩]) <|
 .ret, [.t 2]⟩
theorem f12_ok : compF Go.Proofs.Try.prog 0 [0, 2, 3, 4, 5, 6, 26, 27, 28] 12 = some f12 := by kernel_rfl
theorem f12_n : argsOK Go.Proofs.Try.prog 12 1 = true := by kernel_rfl
theorem f13_ok : compF Go.Proofs.Try.prog 0 [0, 2, 3, 4, 5, 6, 9, 40, 44, 73] 13 = some f13 := by kernel_rfl
theorem f13_n : argsOK Go.Proofs.Try.prog 13 1 = true := by kernel_rfl
theorem f14_ok : compF Go.Proofs.Try.prog 0 [0, 1, 2, 3, 4, 5, 55, 61, 76] 14 = some f14 := by kernel_rfl
theorem f14_n : argsOK Go.Proofs.Try.prog 14 2 = true := by kernel_rfl
theorem f16_ok : compF Go.Proofs.Try.prog 0 [0, 2, 3, 4, 5] 16 = some f16 := by kernel_rfl
theorem f16_n : argsOK Go.Proofs.Try.prog 16 1 = true := by kernel_rfl
theorem f17_ok : compF Go.Proofs.Try.prog 0 [0, 2, 3, 4, 7, 30] 17 = some f17 := by kernel_rfl
theorem f17_n : argsOK Go.Proofs.Try.prog 17 1 = true := by kernel_rfl
theorem f19_ok : compF Go.Proofs.Try.prog 0 [0, 2, 3, 4, 5] 19 = some f19 := by kernel_rfl
theorem f19_n : argsOK Go.Proofs.Try.prog 19 1 = true := by kernel_rfl
theorem f20_ok : compF Go.Proofs.Try.prog 0 [0, 2, 3, 4, 12] 20 = some f20 := by kernel_rfl
theorem f20_n : argsOK Go.Proofs.Try.prog 20 1 = true := by kernel_rfl
theorem f21_ok : compF Go.Proofs.Try.prog 0 [0, 2, 3, 4, 5] 21 = some f21 := by kernel_rfl
theorem f21_n : argsOK Go.Proofs.Try.prog 21 1 = true := by kernel_rfl
theorem f22_ok : compF Go.Proofs.Try.prog 0 [0, 2, 3, 4, 24] 22 = some f22 := by kernel_rfl
theorem f22_n : argsOK Go.Proofs.Try.prog 22 1 = true := by kernel_rfl
theorem f24_ok : compF Go.Proofs.Try.prog 0 [0, 2, 3, 4, 5, 6] 24 = some f24 := by kernel_rfl
theorem f24_n : argsOK Go.Proofs.Try.prog 24 1 = true := by kernel_rfl
theorem f25_ok : compF Go.Proofs.Try.prog 0 [0, 2, 3, 4, 7, 33] 25 = some f25 := by kernel_rfl
theorem f25_n : argsOK Go.Proofs.Try.prog 25 1 = true := by kernel_rfl
theorem f28_ok : compF Go.Proofs.Try.prog 0 [0, 2, 3, 6, 9, 10, 17, 24, 31, 38, 46] 28 = some f28 := by kernel_rfl
theorem f28_n : argsOK Go.Proofs.Try.prog 28 1 = true := by kernel_rfl
theorem f29_ok : compF Go.Proofs.Try.prog 0 [0, 2, 4, 6, 8, 10, 12, 13, 14, 47, 53] 29 = some f29 := by kernel_rfl
theorem f29_n : argsOK Go.Proofs.Try.prog 29 1 = true := by kernel_rfl
theorem f36_ok : compF Go.Proofs.Try.prog 0 [0, 1, 2] 36 = some f36 := by kernel_rfl
theorem f36_n : argsOK Go.Proofs.Try.prog 36 1 = true := by kernel_rfl
theorem f44_ok : compF Go.Proofs.Try.prog 0 [0, 1, 2] 44 = some f44 := by kernel_rfl
theorem f44_n : argsOK Go.Proofs.Try.prog 44 1 = true := by kernel_rfl
theorem f45_ok : compF Go.Proofs.Try.prog 0 [0, 1, 2] 45 = some f45 := by kernel_rfl
theorem f45_n : argsOK Go.Proofs.Try.prog 45 1 = true := by kernel_rfl
theorem f46_ok : compF Go.Proofs.Try.prog 0 [0, 1, 2] 46 = some f46 := by kernel_rfl
theorem f46_n : argsOK Go.Proofs.Try.prog 46 1 = true := by kernel_rfl
theorem f47_ok : compF Go.Proofs.Try.prog 0 [0, 1, 2] 47 = some f47 := by kernel_rfl
theorem f47_n : argsOK Go.Proofs.Try.prog 47 1 = true := by kernel_rfl
theorem f48_ok : compF Go.Proofs.Try.prog 0 [0, 1, 2, 3, 4, 5, 16, 59, 85] 48 = some f48 := by kernel_rfl
theorem f48_n : argsOK Go.Proofs.Try.prog 48 1 = true := by kernel_rfl
theorem f49_ok : compF Go.Proofs.Try.prog 0 [0, 1, 2, 3, 13] 49 = some f49 := by kernel_rfl
theorem f49_n : argsOK Go.Proofs.Try.prog 49 1 = true := by kernel_rfl
theorem f50_ok : compF Go.Proofs.Try.prog 0 [0, 1, 2, 3] 50 = some f50 := by kernel_rfl
theorem f50_n : argsOK Go.Proofs.Try.prog 50 1 = true := by kernel_rfl
theorem f51_ok : compF Go.Proofs.Try.prog 0 [0, 1, 2, 3, 13] 51 = some f51 := by kernel_rfl
theorem f51_n : argsOK Go.Proofs.Try.prog 51 1 = true := by kernel_rfl
theorem f52_ok : compF Go.Proofs.Try.prog 0 [0, 1, 2, 3, 27] 52 = some f52 := by kernel_rfl
theorem f52_n : argsOK Go.Proofs.Try.prog 52 1 = true := by kernel_rfl
theorem f62_ok : compF Go.Proofs.Try.prog 0 [0, 1, 4, 5, 6, 16] 62 = some f62 := by kernel_rfl
theorem f62_n : argsOK Go.Proofs.Try.prog 62 2 = true := by kernel_rfl
theorem f66_ok : compF Go.Proofs.Try.prog 0 [0, 1, 2, 5, 6, 7, 8, 25] 66 = some f66 := by kernel_rfl
theorem f66_n : argsOK Go.Proofs.Try.prog 66 3 = true := by kernel_rfl
theorem f67_ok : compF Go.Proofs.Try.prog 0 [0, 1, 2, 6, 12] 67 = some f67 := by kernel_rfl
theorem f67_n : argsOK Go.Proofs.Try.prog 67 3 = true := by kernel_rfl
theorem f68_ok : compF Go.Proofs.Try.prog 0 [0, 1, 2, 5, 6, 7, 8, 25] 68 = some f68 := by kernel_rfl
theorem f68_n : argsOK Go.Proofs.Try.prog 68 3 = true := by kernel_rfl
theorem f69_ok : compF Go.Proofs.Try.prog 0 [0, 1, 2, 5, 6, 7, 8, 25] 69 = some f69 := by kernel_rfl
theorem f69_n : argsOK Go.Proofs.Try.prog 69 3 = true := by kernel_rfl
theorem f70_ok : compF Go.Proofs.Try.prog 0 [0, 2, 3] 70 = some f70 := by kernel_rfl
theorem f70_n : argsOK Go.Proofs.Try.prog 70 1 = true := by kernel_rfl
theorem f71_ok : compF Go.Proofs.Try.prog 0 [0, 1, 4, 5, 6, 25] 71 = some f71 := by kernel_rfl
theorem f71_n : argsOK Go.Proofs.Try.prog 71 2 = true := by kernel_rfl
theorem f72_ok : compF Go.Proofs.Try.prog 0 [0, 1, 2, 5, 6, 7, 8, 25] 72 = some f72 := by kernel_rfl
theorem f72_n : argsOK Go.Proofs.Try.prog 72 3 = true := by kernel_rfl
theorem f76_ok : compF Go.Proofs.Try.prog 0 [0, 1, 2, 5, 6, 7, 8, 25] 76 = some f76 := by kernel_rfl
theorem f76_n : argsOK Go.Proofs.Try.prog 76 3 = true := by kernel_rfl
theorem f77_ok : compF Go.Proofs.Try.prog 0 [0, 1, 2, 6, 7, 10] 77 = some f77 := by kernel_rfl
theorem f77_n : argsOK Go.Proofs.Try.prog 77 3 = true := by kernel_rfl
theorem f78_ok : compF Go.Proofs.Try.prog 0 [0, 1] 78 = some f78 := by kernel_rfl
theorem f78_n : argsOK Go.Proofs.Try.prog 78 2 = true := by kernel_rfl
theorem f80_ok : compF Go.Proofs.Try.prog 0 [0, 1, 5, 6, 7, 8, 9] 80 = some f80 := by kernel_rfl
theorem f80_n : argsOK Go.Proofs.Try.prog 80 2 = true := by kernel_rfl
theorem f83_ok : compF Go.Proofs.Try.prog 0 [0, 1, 4, 38, 39, 40, 41] 83 = some f83 := by kernel_rfl
theorem f83_n : argsOK Go.Proofs.Try.prog 83 2 = true := by kernel_rfl
theorem f86_ok : compF Go.Proofs.Try.prog 0 [0, 1] 86 = some f86 := by kernel_rfl
theorem f86_n : argsOK Go.Proofs.Try.prog 86 2 = true := by kernel_rfl
theorem f87_ok : compF Go.Proofs.Try.prog 0 [0, 1] 87 = some f87 := by kernel_rfl
theorem f87_n : argsOK Go.Proofs.Try.prog 87 2 = true := by kernel_rfl
theorem f88_ok : compF Go.Proofs.Try.prog 0 [0, 1, 3] 88 = some f88 := by kernel_rfl
theorem f88_n : argsOK Go.Proofs.Try.prog 88 2 = true := by kernel_rfl
theorem f89_ok : compF Go.Proofs.Try.prog 0 [0, 1] 89 = some f89 := by kernel_rfl
theorem f89_n : argsOK Go.Proofs.Try.prog 89 2 = true := by kernel_rfl
theorem f90_ok : compF Go.Proofs.Try.prog 0 [0, 2] 90 = some f90 := by kernel_rfl
theorem f90_n : argsOK Go.Proofs.Try.prog 90 1 = true := by kernel_rfl
theorem f91_ok : compF Go.Proofs.Try.prog 0 [0, 1, 4] 91 = some f91 := by kernel_rfl
theorem f91_n : argsOK Go.Proofs.Try.prog 91 2 = true := by kernel_rfl
theorem f92_ok : compF Go.Proofs.Try.prog 0 [0, 2] 92 = some f92 := by kernel_rfl
theorem f92_n : argsOK Go.Proofs.Try.prog 92 1 = true := by kernel_rfl
theorem f93_ok : compF Go.Proofs.Try.prog 0 [0, 1, 2, 3, 4, 19] 93 = some f93 := by kernel_rfl
theorem f93_n : argsOK Go.Proofs.Try.prog 93 1 = true := by kernel_rfl
theorem f101_ok : compF Go.Proofs.Try.prog 0 [0, 2, 3, 4, 5, 6, 7, 8, 9, 10, 16, 40, 52] 101 = some f101 := by kernel_rfl
theorem f101_n : argsOK Go.Proofs.Try.prog 101 1 = true := by kernel_rfl
theorem f111_ok : compF Go.Proofs.Try.prog 0 [0, 2] 111 = some f111 := by kernel_rfl
theorem f111_n : argsOK Go.Proofs.Try.prog 111 1 = true := by kernel_rfl
theorem f112_ok : compF Go.Proofs.Try.prog 0 [0, 1, 4] 112 = some f112 := by kernel_rfl
theorem f112_n : argsOK Go.Proofs.Try.prog 112 2 = true := by kernel_rfl
theorem f113_ok : compF Go.Proofs.Try.prog 0 [0, 1, 2] 113 = some f113 := by kernel_rfl
theorem f113_n : argsOK Go.Proofs.Try.prog 113 1 = true := by kernel_rfl
theorem f116_ok : compF Go.Proofs.Try.prog 0 [0, 1, 4] 116 = some f116 := by kernel_rfl
theorem f116_n : argsOK Go.Proofs.Try.prog 116 2 = true := by kernel_rfl
theorem f117_ok : compF Go.Proofs.Try.prog 0 [0, 2] 117 = some f117 := by kernel_rfl
theorem f117_n : argsOK Go.Proofs.Try.prog 117 1 = true := by kernel_rfl
theorem f118_ok : compF Go.Proofs.Try.prog 0 [0, 1, 4, 5, 7, 8, 9, 16] 118 = some f118 := by kernel_rfl
theorem f118_n : argsOK Go.Proofs.Try.prog 118 2 = true := by kernel_rfl
theorem f119_ok : compF Go.Proofs.Try.prog 0 [0, 1, 4, 5, 7, 8, 9, 16] 119 = some f119 := by kernel_rfl
theorem f119_n : argsOK Go.Proofs.Try.prog 119 2 = true := by kernel_rfl
end Go.AM.F
