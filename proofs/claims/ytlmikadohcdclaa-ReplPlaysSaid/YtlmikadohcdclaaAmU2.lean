/- The abstract machine, part U2: a law's call, whatever arguments that read as data it is given. -/
import Derived.Test.YtlmikadohcdclaaAmU
import Derived.Below
import Derived.ChangeSame
import Derived.WalkKit
import Derived.ProofKit
set_option linter.unusedSimpArgs false
set_option linter.unusedVariables false
namespace Go.AM
open Go.RowKit Go.WideShapes Go.ChangeShapes

section
variable {H0 : Type} {enc : TypeId × Value → H0} {P : Program} {w : World} {ng : Nat}

/-- An argument that reads as a value of its type. -/
def AV (P : Program) (G : Gf) (t : TypeId) (v : Value) : Prop := AR P G t v.cells.toList ∧ (isAggT P t = some true → ∃ cs, v = .agg cs) ∧ (isAggT P t = some false → v.oneCell' = true)
def AVs (P : Program) (G : Gf) : List TypeId → List Value → Prop
  | [], [] => True
  | t :: ts, v :: vs => AV P G t v ∧ AVs P G ts vs
  | _, _ => False

theorem AV.mono {G G' : Gf} (hg : ∀ b o, G b = some o → G' b = some o) {t : TypeId} {v : Value} (h : AV P G t v) : AV P G' t v := ⟨h.1.mono hg, h.2⟩
theorem AVs.mono {G G' : Gf} (hg : ∀ b o, G b = some o → G' b = some o) : ∀ {ts : List TypeId} {vs : List Value}, AVs P G ts vs → AVs P G' ts vs
  | [], [], _ => trivial
  | _ :: _, _ :: _, ⟨a, b⟩ => ⟨a.mono hg, AVs.mono hg b⟩
  | [], _ :: _, h => h.elim
  | _ :: _, [], h => h.elim

theorem okWide_shape {t : TypeId} {v : Value} {d : Nat} (hok : okT P d t = true) (hv : Value.okWide P w .any 0 t v) : (∃ cs, v = .agg cs ∧ isAggT P t = some true) ∨ (v.cells = #[v] ∧ isAggT P t = some false ∧ v.oneCell' = true) := by
  cases d with
  | zero => simp [okT] at hok
  | succ d =>
    simp only [okT] at hok
    split at hok
    · rename_i hu
      obtain ⟨b, rfl⟩ := okWide_bool hu hv
      exact .inr ⟨rfl, by unfold isAggT; rw [hu]; rfl, rfl⟩
    · rename_i hu
      obtain ⟨b, rfl⟩ := okWide_int hu hv
      exact .inr ⟨rfl, by unfold isAggT; rw [hu]; rfl, rfl⟩
    · rename_i hu
      obtain ⟨b, rfl⟩ := okWide_string hu hv
      exact .inr ⟨rfl, by unfold isAggT; rw [hu]; rfl, rfl⟩
    · rename_i hu
      obtain ⟨a, n, k, rfl⟩ := okWide_slice hu hv
      exact .inr ⟨rfl, by unfold isAggT; rw [hu]; rfl, rfl⟩
    · rename_i hu
      obtain ⟨cs, rfl, _⟩ := okWide_struct hu hv
      exact .inl ⟨cs, rfl, by unfold isAggT; rw [hu]; rfl⟩
    · rename_i n e hu
      unfold Value.okWide at hv
      rw [hu] at hv
      obtain ⟨cs, rfl, _⟩ := hv
      exact .inl ⟨cs, rfl, by unfold isAggT; rw [hu]; rfl⟩
    · cases hok

theorem open_arg {t : TypeId} {v : Value} {d : DataW H0} {ps : List MemPlace} (hok : okT P 20 t = true) (hv : Value.okWide P w .any 0 t v) (h : DataW.Trod enc P w 0 (fun _ => true) true t v d ps) {σ : Sg} {H : AHeap} (hr : HR ng σ H.get w) (no : NoOwn H) :
    ∃ σ' H' v', Opened P ng w σ H σ' H' ∧ VR σ' v' v ∧ AV P H'.get t v' := by
  obtain ⟨fuel, hf⟩ := h
  obtain ⟨hl, hop⟩ := open_cells (ng := ng) fuel 20 t _ _ hok hf
  obtain ⟨σ', H', cs', g1, g2, g3, g4⟩ := hop σ H hr no
  rcases okWide_shape hok hv with ⟨cs, rfl, hag⟩ | ⟨hc, hag, hone⟩
  · refine ⟨σ', H', .agg cs'.toArray, g1, ?_, g3, fun _ => ⟨_, rfl⟩, (fun h => by rw [hag] at h; cases h)⟩
    have := VR.agg_of g2
    simpa [Value.cells] using this
  · rw [hc] at g2
    match cs', g2 with
    | [u], .cons hu .nil =>
      have h1 := g4 u (by simp)
      refine ⟨σ', H', u, g1, hu, ?_, (fun h => by rw [hag] at h; cases h), fun _ => h1⟩
      rw [cells_one h1]; exact g3

theorem open_args : ∀ {ts : List TypeId} {vs : List Value} {ds : List (DataW H0)} {ps : List MemPlace}, (∀ t ∈ ts, okT P 20 t = true) → (∀ (j : Nat) t v, ts[j]? = some t → vs[j]? = some v → Value.okWide P w .any 0 t v) → DataW.TrodAll enc P w 0 (fun _ => true) true ts vs ds ps →
    ∀ {σ : Sg} {H : AHeap}, HR ng σ H.get w → NoOwn H → ∃ σ' H' vs', Opened P ng w σ H σ' H' ∧ VL σ' vs' vs ∧ AVs P H'.get ts vs'
  | [], vs, ds, ps, _, _, h, σ, H, hr, no => by
    obtain ⟨rfl, _, _⟩ := trodAll_nil h
    exact ⟨σ, H, [], Opened.refl hr no, .nil, trivial⟩
  | t :: ts, vs, ds, ps, hok, hv, h, σ, H, hr, no => by
    obtain ⟨v, vs', d, ds', p, q, rfl, rfl, rfl, h1, h2⟩ := trodAll_cons h
    obtain ⟨σ1, H1, u, g1, g2, g3⟩ := open_arg (ng := ng) (hok t (by simp)) (hv 0 t v rfl rfl) h1 hr no
    obtain ⟨σ2, H2, us, k1, k2, k3⟩ := open_args (fun t ht => hok t (by simp [ht])) (fun j t v a b => hv (j + 1) t v (by simpa using a) (by simpa using b)) h2 g1.hr g1.no
    exact ⟨σ2, H2, u :: us, g1.trans k1, .cons (g2.mono k1.le) k2, g3.mono (fun b o hb => k1.keep.at_ hb), k3⟩

/-- A law's call. -/
theorem law_calls {f : FuncId} {ts : List TypeId} (hts : ∀ t ∈ ts, okT P 20 t = true) (hlaw : ∀ H args, NoOwn H → AVs P H.get ts args → ∃ H', ARun P 0 f args H (.bool true) H') {args : Array Value} {ds : List (DataW H0)} {ps : List MemPlace}
    (hA : DataW.TrodAll enc P w 0 (fun _ => true) true ts args.toList ds ps) (hval : ∀ (j : Nat) t v, ts[j]? = some t → args[j]? = some v → Value.okWide P w .any 0 t v) :
    Calls P f args w fun e w' => e = .returned (.bool true) ∧ Below w.heap.size w w' := by
  obtain ⟨σ, H, args', g1, g2, g3⟩ := open_args (ng := 0) hts (fun j t v a b => hval j t v a (by simpa using b)) hA (HR.empty w) (fun b o hb => by simp [AHeap.get] at hb)
  obtain ⟨H', _, _, hrun⟩ := hlaw H args' g1.no g3
  refine (hrun σ w args.toList g1.hr g2).mono ?_
  rintro e w' ⟨v', σ', rfl, k1, k2, k3⟩
  rw [k3.bool_inv]
  refine ⟨rfl, k2.os, k2.tape, k2.output, k2.size, fun k hk => k2.keep k hk (fun b i o hb ho hown => ?_)⟩
  rw [g1.no b o ho] at hown; cases hown

theorem trodAll_stays (hl : laidOutB P = true) {W W' : World} (hb : Below W.heap.size W W') {sp : Nat → Bool} : ∀ {ts : List TypeId} {vs : List Value} {ds : List (DataW H0)} {ps : List MemPlace}, (∀ t ∈ ts, P.readableRec t = true ∧ t < P.types.size) →
    DataW.TrodAll enc P W 0 (fun _ => true) true ts vs ds ps → (∀ x ∈ ps, x.block < W.heap.size) → (∀ p ∈ ps, sp p.block = true) → DataW.TrodAll enc P W' 0 sp true ts vs ds ps
  | [], vs, ds, ps, _, h, _, _ => by obtain ⟨rfl, rfl, rfl⟩ := trodAll_nil h; rfl
  | t :: ts, vs, ds, ps, hr, h, hlt, hsp => by
    obtain ⟨v, vs', d, ds', p, q, rfl, rfl, rfl, h1, h2⟩ := trodAll_cons h
    obtain ⟨r1, r2⟩ := hr t (by simp)
    exact ⟨p, q, WideElems.Trod_stays hl r1 r2 h1 (fun x hx => hb.same (hlt x (by simp [hx]))) (fun x hx => hsp x (by simp [hx])),
      trodAll_stays hl hb (fun t ht => hr t (by simp [ht])) h2 (fun x hx => hlt x (by simp [hx])) (fun x hx => hsp x (by simp [hx])), rfl⟩

theorem post_of_below {H : Type} {enc : TypeId × Value → H} {f : Func} {s : ChangeSpec} {apart fresh handsOn again : Bool} {W W' : World} {args : Array Value} {v : Value} {ds gs : List (DataW H)} {before pa pv : List MemPlace}
    (hW : DataW.Whole enc P f.params.toList s.vars apart W args.toList ds gs before)
    (hres : ∀ (b : Nat) (sp : Nat → Bool) (hd : Bool), DataW.TrodAll enc P W' b sp hd f.resultTypes.toList (v.resultList f.resultTypes.size) (s.fn H (ds ++ gs)).results [])
    (hargs : ∀ sp : Nat → Bool, (∀ p ∈ before, sp p.block = true) → DataW.TrodAll enc P W' 0 sp true f.params.toList args.toList (s.fn H (ds ++ gs)).args pa)
    (hvars : ∀ sp : Nat → Bool, (∀ p ∈ before, sp p.block = true) → DataW.TrodVars enc P W' sp s.vars (s.fn H (ds ++ gs)).vars pv)
    (hps : before = pa ++ pv) (hb : Below W.heap.size W W')
    (hok : ∀ (j : Nat) (t : TypeId) (r : Value), f.resultTypes[j]? = some t → (v.resultList f.resultTypes.size)[j]? = some r → Value.okWide P W' .any 0 t r) :
    s.post enc P f apart fresh handsOn again W args v W' := by
  have hlt : ∀ p ∈ before, p.block < W.heap.size := fun p hp => hW.lt p hp
  have hold : ∀ p ∈ before, (fun b => decide (b < W.heap.size)) p.block = true := fun p hp => by simpa using hlt p hp
  refine ⟨ds, gs, before, [], pa, pv, hW, hres _ _ _, hargs _ hold, hvars _ hold, World.keptBut_mono (fun p hp => ⟨hp, ?_⟩) (hb.frame (· ∈ before)), fun _ => ?_⟩
  · rw [hps, List.mem_append] at hp
    exact Or.inr hp
  · obtain ⟨_, _, _, _, _, hz, hn⟩ := hW
    refine ⟨hok, _, _, ([] ++ pa) ++ pv, ⟨[] ++ pa, pv, trodAll_append (hargs _ (fun _ _ => rfl)) (hres _ _ _), hvars _ (fun _ _ => rfl), rfl, ?_, ?_⟩, ?_⟩
    · intro b off hp
      have hin : MemPlace.cell b off ∈ before := by rw [hps]; simpa using hp
      rw [hb.frozen (hlt _ hin)]
      exact hz b off hin
    · intro ha
      have := hn ha
      rw [hps] at this
      simpa using this
    · intro p hp _
      rw [hps]
      simpa using hp

end
end Go.AM
