/- The abstract machine, part H: all operations together. -/
import Derived.Test.YtlmikadohcdclaaAmG2
set_option linter.unusedSimpArgs false
set_option linter.unusedVariables false
namespace Go.AM

section
variable {P : Program} {ng : Nat} {σ : Sg} {H H' : AHeap} {w : World} {v : Value}

theorem elemOfT_eq {t e : TypeId} (h : elemOfT P t = some e) : P.underlying t = some (.slice e) := by
  unfold elemOfT at h
  split at h
  · rename_i h'; cases h; exact h'
  · cases h

theorem asem_bad {H : AHeap} : asem (.bad) H = none := rfl
theorem bad_map (ev : Operand → Value) : (AOp.bad : AOp Operand).map ev = .bad := rfl

theorem opt_rel {ev ev' : Operand → Value} {x : Option Operand} (h : ∀ y, x = some y → VR σ (ev y) (ev' y)) : (∀ u, x.map ev = some u → ∃ u', x.map ev' = some u' ∧ VR σ u u') ∧ (x.map ev = none → x.map ev' = none) := by
  cases x with
  | none => simp
  | some y => exact ⟨fun u hu => by simp at hu; subst hu; exact ⟨_, rfl, h y rfl⟩, by simp⟩

set_option maxHeartbeats 1000000 in
theorem asem_sound (hr : HR ng σ H.get w) (o : Oper) {ev ev' : Operand → Value} (hev : ∀ x ∈ o.op.operands, VR σ (ev x) (ev' x)) (hs : asem ((compOp P o).map ev) H = some (v, H')) :
    Res ng σ H w ((execOp ev' o).run P w) v H' := by
  obtain ⟨dst, op, type, pos, after, guard⟩ := o
  cases op
  case move x =>
    simp only [compOp, AOp.map, asem] at hs
    cases hs
    exact Res.pure hr (v' := ev' x) (by simp [execOp]) (hev x (by simp [Op.operands]))
  case assign x =>
    simp only [compOp, AOp.map, asem] at hs
    cases hs
    exact Res.pure hr (v' := ev' x) (by simp [execOp]) (hev x (by simp [Op.operands]))
  case pick c a b =>
    simp only [compOp, AOp.map, asem] at hs
    split at hs
    · rename_i t ht
      cases hs
      have hc := hev c (by simp [Op.operands])
      rw [ht] at hc
      refine Res.pure hr (v' := if t then ev' a else ev' b) (by simp [execOp, hc.bool_inv, asBool]) ?_
      cases t
      · exact hev b (by simp [Op.operands])
      · exact hev a (by simp [Op.operands])
    · cases hs
  case alloc e =>
    simp only [compOp] at hs
    split at hs
    · rename_i z n hz hn
      exact res_new hr hz (zeroT_cells hz) hs
    · simp [AOp.map, asem] at hs
  case box e x =>
    simp only [compOp] at hs
    split at hs
    · exact res_box hr (hev x (by simp [Op.operands])) hs
    · simp [AOp.map, asem] at hs
  case build t ps =>
    simp only [compOp] at hs
    have hps : ∀ p ∈ ps.toList, VR σ (ev p.2) (ev' p.2) := fun p hp => hev p.2 (by simp only [Op.operands, List.mem_toArray, List.mem_map]; exact ⟨p, hp, rfl⟩)
    split at hs
    · rename_i z fs hz hu
      split at hs
      · rename_i ns qs hns hq
        exact res_build_struct hr hz hu hns hq (zeroT_cells hz) hps hs
      · simp [AOp.map, asem] at hs
    · rename_i z len e hz hu
      split at hs
      · rename_i n hn
        simp only [AOp.map, List.map_map] at hs
        exact res_build_array hr hz hu hn (zeroT_cells hz) hps hs
      · simp [AOp.map, asem] at hs
    · simp [AOp.map, asem] at hs
  case buildSlice t len ps =>
    simp only [compOp] at hs
    have hps : ∀ p ∈ ps.toList, VR σ (ev p.2) (ev' p.2) := fun p hp => hev p.2 (by simp only [Op.operands, List.mem_toArray, List.mem_map]; exact ⟨p, hp, rfl⟩)
    split at hs
    · rename_i e he
      split at hs
      · rename_i z n hz hn
        split at hs
        · rename_i hc
          simp only [AOp.map, List.map_map] at hs
          exact res_bslice hr (elemOfT_eq he) hz hn hc.1 hc.2.1 hc.2.2 (zeroT_cells hz) hps hs
        · simp [AOp.map, asem] at hs
      · simp [AOp.map, asem] at hs
    · simp [AOp.map, asem] at hs
  case load t x =>
    simp only [compOp] at hs
    split at hs
    · rename_i n ha hn
      exact res_loadn hr (hev x (by simp [Op.operands])) ha hn hs
    · rename_i ha
      exact res_load1 hr (hev x (by simp [Op.operands])) ha hs
    · simp [AOp.map, asem] at hs
  case store t a x =>
    simp only [compOp] at hs
    split at hs
    · rename_i n hn
      split at hs
      · rename_i hc
        obtain ⟨rfl, _⟩ := hc
        exact res_store1 hr (hev a (by simp [Op.operands])) (hev x (by simp [Op.operands])) hn hs
      · exact res_storen hr (hev a (by simp [Op.operands])) (hev x (by simp [Op.operands])) hn hs
    · simp [AOp.map, asem] at hs
  case nilCheck x =>
    simp only [compOp, AOp.map] at hs
    exact res_nilck hr (hev x (by simp [Op.operands])) hs rfl rfl
  case binOp op t x y ty =>
    have hx := hev x (by simp [Op.operands])
    have hy := hev y (by simp [Op.operands])
    simp only [compOp] at hs
    split at hs
    · split at hs
      all_goals first
        | exact res_bin hr hx hy hs
        | (rename_i hu; refine res_eqv hr (.inl ⟨rfl, rfl⟩) hu rfl ?_ hx hy hs; intro h; cases h; done)
        | (rename_i hu; split at hs
           · rename_i hc; exact res_eqv hr (.inl ⟨rfl, rfl⟩) hu rfl (fun _ => hc) hx hy hs
           · refine res_eqv hr (.inl ⟨rfl, rfl⟩) hu rfl ?_ hx hy hs
             intro h; cases h)
        | (rename_i hu; split at hs
           · rename_i hcs; exact res_eqs hr (.inl ⟨rfl, rfl⟩) (by unfold isAggT; rw [hu]; rfl) hcs hx hy hs
           · simp [AOp.map, asem] at hs)
        | (simp [AOp.map, asem] at hs; done)
    · split at hs
      all_goals first
        | exact res_bin hr hx hy hs
        | (rename_i hu; refine res_eqv hr (.inr ⟨rfl, rfl⟩) hu rfl ?_ hx hy hs; intro h; cases h; done)
        | (rename_i hu; split at hs
           · rename_i hc; exact res_eqv hr (.inr ⟨rfl, rfl⟩) hu rfl (fun _ => hc) hx hy hs
           · refine res_eqv hr (.inr ⟨rfl, rfl⟩) hu rfl ?_ hx hy hs
             intro h; cases h)
        | (rename_i hu; split at hs
           · rename_i hcs; exact res_eqs hr (.inr ⟨rfl, rfl⟩) (by unfold isAggT; rw [hu]; rfl) hcs hx hy hs
           · simp [AOp.map, asem] at hs)
        | (simp [AOp.map, asem] at hs; done)
    · exact res_bin hr hx hy hs
  case unOp op t x =>
    simp only [compOp] at hs
    exact res_un hr (hev x (by simp [Op.operands])) hs
  case convert src dst x =>
    have hx := hev x (by simp [Op.operands])
    simp only [compOp] at hs
    split at hs
    · rename_i h1 h2; exact res_i2i hr h1 h2 hx hs
    · rename_i h1 h2; exact res_i2str hr h1 h2 hx hs
    · rename_i h1 h2; exact res_s2s hr h1 h2 hx hs
    · rename_i h1 h2
      split at hs
      · rename_i h3; exact res_s2b hr h1 h2 h3 hx hs
      · simp [AOp.map, asem] at hs
    · rename_i h1 h2
      split at hs
      · rename_i h3; exact res_b2s hr h1 h2 h3 hx hs
      · simp [AOp.map, asem] at hs
    · rename_i h1 h2
      split at hs
      · rename_i h3
        simp only [Bool.and_eq_true] at h3
        exact res_mark hr h1 h2 h3.1 h3.2 hx hs
      · simp [AOp.map, asem] at hs
    · simp [AOp.map, asem] at hs
  case makeInterface t x =>
    simp only [compOp] at hs
    split at hs
    · simp [AOp.map, asem] at hs
    · rename_i d hd hne
      exact res_iface hr hne (fun ms h => hd ms h) (hev x (by simp [Op.operands])) hs
    · simp [AOp.map, asem] at hs
  case makeFunc fn xs ys =>
    simp only [compOp, AOp.map] at hs
    have h1 := VL.map2 (σ := σ) ev ev' xs.toList (fun x hx => hev x (by simp [Op.operands]; left; simpa using hx))
    have h2 := VL.map2 (σ := σ) ev ev' ys.toList (fun x hx => hev x (by simp [Op.operands]; right; simpa using hx))
    have := res_mkfn (P := P) hr (fn := fn) h1 h2 hs
    have e1 : (List.map ev' xs.toList).toArray = xs.map ev' := by cases xs; simp
    have e2 : (List.map ev' ys.toList).toArray = ys.map ev' := by cases ys; simp
    rw [e1, e2] at this
    exact this
  case makeSlice t l c =>
    simp only [compOp] at hs
    split at hs
    · rename_i e he
      split at hs
      · rename_i z n b hz hn hb
        split at hs
        · rename_i hc
          exact res_mksl hr (elemOfT_eq he) hz hn hb hc.1 hc.2 (zeroT_cells hz) (hev l (by simp [Op.operands])) (hev c (by simp [Op.operands])) hs
        · simp [AOp.map, asem] at hs
      · simp [AOp.map, asem] at hs
    · simp [AOp.map, asem] at hs
  case slice t x lo hi mx =>
    have hx := hev x (by simp [Op.operands])
    have hlo := opt_rel (σ := σ) (ev := ev) (ev' := ev') (x := lo) (fun y hy => hev y (by subst hy; simp [Op.operands]))
    have hhi := opt_rel (σ := σ) (ev := ev) (ev' := ev') (x := hi) (fun y hy => hev y (by subst hy; simp [Op.operands]))
    have hmx := opt_rel (σ := σ) (ev := ev) (ev' := ev') (x := mx) (fun y hy => hev y (by subst hy; simp [Op.operands]))
    simp only [compOp] at hs
    split at hs
    · rename_i h1
      split at hs
      · rename_i hm
        have hmn : mx = none := by cases mx <;> simp_all
        subst hmn
        exact res_slstr hr h1 hx hlo.1 hhi.1 hlo.2 hhi.2 hs
      · simp [AOp.map, asem] at hs
    · rename_i e h1
      split at hs
      · rename_i n hn
        split at hs
        · simp [AOp.map, asem] at hs
        · rename_i hmh
          exact res_slsl hr h1 hn hx hlo.1 hhi.1 hmx.1 hlo.2 hhi.2 hmx.2 (by cases mx <;> cases hi <;> simp_all) hs
      · simp [AOp.map, asem] at hs
    · rename_i len e h1
      split at hs
      · rename_i n hn
        split at hs
        · simp [AOp.map, asem] at hs
        · rename_i hmh
          exact res_slarr hr h1 hn hx hlo.1 hhi.1 hmx.1 hlo.2 hhi.2 hmx.2 (by cases mx <;> cases hi <;> simp_all) hs
      · simp [AOp.map, asem] at hs
    · simp [AOp.map, asem] at hs
  case fieldAddr t x f =>
    simp only [compOp] at hs
    split at hs
    · rename_i fs h1
      split at hs
      · rename_i fd h2
        split at hs
        · simp [AOp.map, asem] at hs
        · rename_i h3
          exact res_faddr hr h1 h2 h3 (hev x (by simp [Op.operands])) hs
      · simp [AOp.map, asem] at hs
    · simp [AOp.map, asem] at hs
  case field t x f =>
    simp only [compOp] at hs
    split at hs
    · rename_i fs h1
      split at hs
      · rename_i fd h2
        split at hs
        · rename_i n h3 h4
          exact res_fldn hr h1 h2 h3 h4 (hev x (by simp [Op.operands])) hs
        · rename_i h3
          exact res_fld1 hr h1 h2 h3 (hev x (by simp [Op.operands])) hs
        · simp [AOp.map, asem] at hs
      · simp [AOp.map, asem] at hs
    · simp [AOp.map, asem] at hs
  case indexAddr t x i =>
    simp only [compOp] at hs
    split at hs
    · rename_i e he
      split at hs
      · rename_i n hn
        exact res_iaddr hr (elemOfT_eq he) hn (hev x (by simp [Op.operands])) (hev i (by simp [Op.operands])) hs
      · simp [AOp.map, asem] at hs
    · split at hs
      · rename_i len e h1
        split at hs
        · rename_i n hn
          exact res_iaddrp hr h1 hn (hev x (by simp [Op.operands])) (hev i (by simp [Op.operands])) hs
        · simp [AOp.map, asem] at hs
      · simp [AOp.map, asem] at hs
  case index t x i =>
    simp only [compOp] at hs
    split at hs
    · rename_i h1
      exact res_idxs hr h1 (hev x (by simp [Op.operands])) (hev i (by simp [Op.operands])) hs
    · rename_i len e h1
      split at hs
      · rename_i agg n h2 h3
        exact res_idxa hr h1 h2 h3 (hev x (by simp [Op.operands])) (hev i (by simp [Op.operands])) hs
      · simp [AOp.map, asem] at hs
    · simp [AOp.map, asem] at hs
  case range t x =>
    simp only [compOp] at hs
    split at hs
    · rename_i h1
      exact res_rng hr h1 (hev x (by simp [Op.operands])) hs
    · simp [AOp.map, asem] at hs
  case next x str =>
    simp only [compOp] at hs
    split at hs
    · rename_i hstr
      have := res_next (P := P) (ty := type) hr (hev x (by simp [Op.operands])) hs
      simpa [execOp, hstr] using this
    · simp [AOp.map, asem] at hs
  case typeAssert x xt u ok =>
    simp only [compOp] at hs
    split at hs
    · simp [AOp.map, asem] at hs
    · rename_i d hd h1
      split at hs
      · rename_i z hz
        exact res_assert hr h1 (fun ms h => hd ms h) hz (plainV_VR (zeroT_plain hz)) (hev x (by simp [Op.operands])) hs
      · simp [AOp.map, asem] at hs
    · simp [AOp.map, asem] at hs
  case extract x i =>
    simp only [compOp] at hs
    exact res_extract hr (hev x (by simp [Op.operands])) hs
  case call c =>
    obtain ⟨callee, args, tys⟩ := c
    obtain ⟨args⟩ := args
    obtain ⟨tys⟩ := tys
    simp only [compOp] at hs
    split at hs
    · simp [AOp.map, asem] at hs
    · simp [AOp.map, asem] at hs
    · split at hs
      · rename_i _ _ x t
        have hx := hev x (by simp [Op.operands, Call.operands])
        split at hs
        · rename_i h1
          have := res_len (P := P) (t := t) (ty := type) hr h1 (.inl ⟨rfl, rfl⟩) hx hs
          simpa [execOp, resolve, invoke, builtin] using this
        · rename_i e h1
          have := res_len (P := P) (t := t) (ty := type) hr h1 (.inr ⟨⟨_, rfl⟩, rfl⟩) hx hs
          simpa [execOp, resolve, invoke, builtin] using this
        · simp [AOp.map, asem] at hs
      · simp [AOp.map, asem] at hs
    · split at hs
      · rename_i _ _ s x t u
        have hsv := hev s (by simp [Op.operands, Call.operands])
        have hx := hev x (by simp [Op.operands, Call.operands])
        split at hs
        · rename_i e e2 he hu
          split at hs
          · rename_i z n b hz hn hb
            split at hs
            · rename_i hc
              have := res_app (P := P) (t := t) (u := u) (ty := type) hr (elemOfT_eq he) hu hz hn hb hc.1 hc.2 hsv hx hs
              simpa [execOp, resolve, invoke, builtin] using this
            · simp [AOp.map, asem] at hs
          · simp [AOp.map, asem] at hs
        · rename_i e he hu
          split at hs
          · rename_i z b hz hn hb
            split at hs
            · rename_i hc
              simp only [Bool.and_eq_true, decide_eq_true_eq, beq_iff_eq] at hc
              have := res_apps (P := P) (t := t) (u := u) (ty := type) hr (elemOfT_eq he) hu hz hn hb hc.1 hsv hx hs
              simpa [execOp, resolve, invoke, builtin] using this
            · simp [AOp.map, asem] at hs
          · simp [AOp.map, asem] at hs
        · simp [AOp.map, asem] at hs
      · simp [AOp.map, asem] at hs
    · split at hs
      · rename_i _ x y
        have := res_mm (P := P) (mx := true) (ts := tys.toArray) (ty := type) hr (hev x (by simp [Op.operands, Call.operands])) (hev y (by simp [Op.operands, Call.operands])) hs
        simpa [execOp, resolve, invoke, builtin] using this
      · simp [AOp.map, asem] at hs
    · split at hs
      · rename_i _ x y
        have := res_mm (P := P) (mx := false) (ts := tys.toArray) (ty := type) hr (hev x (by simp [Op.operands, Call.operands])) (hev y (by simp [Op.operands, Call.operands])) hs
        simpa [execOp, resolve, invoke, builtin] using this
      · simp [AOp.map, asem] at hs
    · split at hs
      · rename_i _ _ d s t u
        have hdv := hev d (by simp [Op.operands, Call.operands])
        have hsv := hev s (by simp [Op.operands, Call.operands])
        split at hs
        · rename_i e e2 he hu
          split at hs
          · rename_i n hn
            have := res_copy (P := P) (t := t) (u := u) (ty := type) (e2 := e2) hr (elemOfT_eq he) hn hdv hsv hs
            simpa [execOp, resolve, invoke, builtin] using this
          · simp [AOp.map, asem] at hs
        · simp [AOp.map, asem] at hs
      · simp [AOp.map, asem] at hs
    · split at hs
      · rename_i _ _ x t
        have hxv := hev x (by simp [Op.operands, Call.operands])
        split at hs
        · rename_i e he
          split at hs
          · rename_i z n hz hn
            split at hs
            · rename_i hc
              have := res_clr (P := P) (t := t) (ty := type) hr (elemOfT_eq he) hz hn hc.1 hc.2 (zeroT_cells hz) hxv hs
              simpa [execOp, resolve, invoke, builtin] using this
            · simp [AOp.map, asem] at hs
          · simp [AOp.map, asem] at hs
        · simp [AOp.map, asem] at hs
      · simp [AOp.map, asem] at hs
    · simp [AOp.map, asem] at hs
  all_goals (simp [compOp, AOp.map, asem] at hs)

end
end Go.AM
