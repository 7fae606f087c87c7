/- The abstract machine, part E: append, slices, conversions, arithmetic, and all operations together. -/
import Derived.Test.YtlmikadohcdclaaAmD
set_option linter.unusedSimpArgs false
set_option linter.unusedVariables false
namespace Go.AM

section
variable {P : Program} {ng : Nat} {σ : Sg} {H H' : AHeap} {w : World} {v : Value}

theorem info_of {e n b : Nat} {z : Value} (hz : zeroT P e = some z) (hn : sizeT P e = some n) (hb : bytesT P e = some b) : ∃ i, P.info? e = some i ∧ i.zero = some z ∧ i.size = n ∧ i.bytes = b := by
  unfold zeroT at hz
  unfold sizeT at hn
  unfold bytesT at hb
  cases hi : P.info? e with
  | none => rw [hi] at hn; cases hn
  | some i =>
    rw [hi] at hz hn hb
    refine ⟨i, rfl, ?_, by simpa using hn, by simpa using hb⟩
    simp only [Option.bind_some] at hz
    split at hz
    · rename_i z' hz'
      split at hz
      · cases hz; exact hz'
      · cases hz
    · cases hz

theorem firstCells_heap {x : Value} {esz n : Nat} {cs : Array Value} {w w' : World} (hw : w'.heap = w.heap) (h : (Builtin.firstCells esz n x).run P w = .ok cs w) (hx : ∃ a k c, x = .slice a k c) :
    (Builtin.firstCells esz n x).run P w' = .ok cs w' → True := fun _ => trivial

/-- append that makes a new row. -/
theorem app_grow (hr : HR ng σ H.get w) {t u ty e esz bytes : Nat} {d : TypeDesc} {z : Value} (ht : P.underlying t = some (.slice e)) (hu : P.underlying u = some d) (hd : (∃ e2, d = .slice e2) ∨ d = .string) (hz : zeroT P e = some z) (hn : sizeT P e = some esz) (hb : bytesT P e = some bytes)
    (hzn : z.cells.size = esz) {base : Option Addr} {sLen sCap m : Nat} {x : Value} {olds olds' news news' : List Value}
    (ho : VL σ olds olds') (hol : olds'.length = sLen * esz) (ho1 : ∀ u ∈ olds, u.oneCell' = true) (hoc : (base = none ∧ sLen = 0) ∨ ∃ ad, base = some ad ∧ ∀ j v, olds'[j]? = some v → w.cell? (ad.add j) = some v)
    (hw : VL σ news news') (hnl : news'.length = m * esz) (hw1 : ∀ u ∈ news, u.oneCell' = true) (hlx : ∀ w : World, (Builtin.lenOf x).run P w = .ok m w) (hwc : ∀ w2 : World, w2.heap = w.heap → (Builtin.firstCells esz m x).run P w2 = .ok news'.toArray w2)
    (hg : sCap < sLen + m) (hbig : (sLen + m) * bytes ≤ 140737488355328) (hmax : sLen + m ≤ 140737488355328) :
    Res ng σ H w ((do pure (Next.value (← Builtin.append_ #[t, u] ty #[.slice base sLen sCap, x])) : Sem Next).run P w) (slc H.n 0 (sLen + m) (sLen + m)) (H.alloc (.cells true true esz (olds ++ news) e)) := by
  obtain ⟨i, hi, hiz, hin, hib⟩ := info_of hz hn hb
  subst hin; subst hib
  have hfo := run_first (P := P) (w := w.drew) (.slice base sLen sCap) i.size sLen rfl hol (by simpa using hoc)
  have hf := hwc w.drew rfl
  have hrun := run_append_new (P := P) (w := w) t u ty e d i z ht hu hd hi hiz base sLen sCap m x hlx olds' news' hfo hf hg (by omega) (growslice_fits hg hbig)
  have hge := grownCap_ge w (sLen + m) sCap e
  obtain ⟨bi, b1, b2, b3, b4, b5, b6, b7, b8⟩ := grown_block hr (e := e) (esz := i.size) (n := sLen + m) (cap := grownCap w (sLen + m) sCap e) (sp := (Builtin.zeroCells z.cells (grownCap w (sLen + m) sCap e - (sLen + m))).toList)
    (ho.append hw) (fun x hx => by rcases List.mem_append.1 hx with hx | hx; exact ho1 x hx; exact hw1 x hx) (by have h1 := ho.length; have h2 := hw.length; simp only [List.length_append]; rw [h1, h2, hol, hnl, Nat.add_mul])
    (by rw [Array.length_toList, size_zeroCells, hzn]) hge
  refine ⟨_, .slice (some ⟨w.heap.size, 0, none⟩) (sLen + m) (grownCap w (sLen + m) sCap e), _, _, by simp only [Sem.run_bind, hrun, Result.andThen_ok, Sem.run_pure], .inl rfl, b7, b8, ?_⟩
  have hv := VR.sl (σ := σ.up H.n bi) (b := H.n) (o := 0) (n := sLen + m) (k := sLen + m) (k' := grownCap w (sLen + m) sCap e) (i := bi) (Sg.up_same _ _ _) (Nat.le_refl _)
    (.inr ⟨b4, hge, by rw [b3, b5]; omega, by rw [b3, b6]; omega⟩)
  rw [b1, b2] at hv
  exact hv

theorem app_core (hr : HR ng σ H.get w) {t u ty e esz bytes : Nat} {d : TypeDesc} {z : Value} (ht : P.underlying t = some (.slice e)) (hu : P.underlying u = some d) (hd : (∃ e2, d = .slice e2) ∨ d = .string) (hz : zeroT P e = some z) (hn : sizeT P e = some esz) (hb : bytesT P e = some bytes)
    (hzn : z.cells.size = esz) {s s' x' : Value} {m' : Nat} {news news' : List Value} (hvs : VR σ s s')
    (hvn : VL σ news news') (hnl : news'.length = m' * esz) (hn1 : ∀ u ∈ news, u.oneCell' = true) (hlx : ∀ w : World, (Builtin.lenOf x').run P w = .ok m' w) (hnc : ∀ w2 : World, w2.heap = w.heap → (Builtin.firstCells esz m' x').run P w2 = .ok news'.toArray w2)
    (hs : appA H e esz bytes s m' news = some (v, H')) :
    Res ng σ H w ((do pure (Next.value (← Builtin.append_ #[t, u] ty #[s', x'])) : Sem Next).run P w) v H' := by
  obtain ⟨i, hi, hiz, hin, hib⟩ := info_of hz hn hb
  have hf := hnc w rfl
  have zero : m' = 0 → ∀ (base : Option Addr) (sLen sCap : Nat) (sv : Value), sLen ≤ sCap → VR σ sv (.slice base sLen sCap) → v = sv → H' = H →
      Res ng σ H w ((do pure (Next.value (← Builtin.append_ #[t, u] ty #[.slice base sLen sCap, x'])) : Sem Next).run P w) v H' := by
    intro hm base sLen sCap sv hle hv e1 e2'
    subst hm; subst e1; subst e2'
    have hnil : news' = [] := List.eq_nil_of_length_eq_zero (by simpa using hnl)
    subst hnil
    have hrun := run_append_zero (P := P) (w := w) t u ty e d i ht hu hd hi base sLen sCap x' hlx (by rw [hin]; simpa using hf) hle
    exact Res.pure hr (by simp only [Sem.run_bind, hrun, Result.andThen_ok, Sem.run_pure]) hv
  have move : ∀ {b : Nat} {j : BI} {room : Bool} {c olds : List Value} {e' : TypeId} {base : Option Addr} {sLen sCap : Nat} {olds' : List Value}, σ b = some j → H.get b = some (.cells true room esz c e') →
      VL σ olds olds' → olds'.length = sLen * esz → (∀ u ∈ olds, u.oneCell' = true) → ((base = none ∧ sLen = 0) ∨ ∃ ad, base = some ad ∧ ∀ j v, olds'[j]? = some v → w.cell? (ad.add j) = some v) →
      sCap < sLen + m' → (sLen + m') * bytes ≤ 140737488355328 → sLen + m' ≤ 140737488355328 → v = slc H.n 0 (sLen + m') (sLen + m') → H' = (H.set b .dead).alloc (.cells true true esz (olds ++ news) e) →
      Res ng σ H w ((do pure (Next.value (← Builtin.append_ #[t, u] ty #[.slice base sLen sCap, x'])) : Sem Next).run P w) v H' := by
    intro b j room c olds e' base sLen sCap olds' hb' hG ho hol ho1 hoc hg hbig hmax e1 e2'
    subst e1; subst e2'
    have hdr := hr.drop hG hb'
    obtain ⟨nx, v', w', σ', r1, r2, r3, r4, r5⟩ := app_grow (P := P) hdr ht hu hd hz hn hb hzn ho hol ho1 hoc hvn hnl hn1 hlx hnc hg hbig hmax (ty := ty)
    exact ⟨nx, v', w', σ', r1, r2, r3, Ext.of_set hG (by simp [AO.own]) rfl r4, r5⟩
  cases hvs with
  | nilSl =>
    simp only [appA] at hs
    rw [if_pos ⟨trivial, trivial⟩] at hs
    split at hs
    · rename_i hm
      cases hs
      exact zero hm none 0 0 _ (Nat.le_refl _) .nilSl rfl rfl
    · split at hs
      · rename_i hm hc
        cases hs
        have := app_grow (P := P) hr ht hu hd hz hn hb hzn (base := none) (sLen := 0) (sCap := 0) (ty := ty) VL.nil (by simp) (by simp) (.inl ⟨rfl, rfl⟩) hvn hnl hn1 hlx hnc (by omega) (by simpa using hc.1) (by simpa using hc.2)
        simpa using this
      · cases hs
  | @sl0 b o o' j hb' =>
    simp only [appA] at hs
    split at hs
    · rename_i hm
      cases hs
      exact zero hm _ 0 0 _ (Nat.le_refl _) (.sl0 hb') rfl rfl
    · rename_i hm
      split at hs
      · rename_i hc
        split at hs
        · rename_i own room esz' c e' hG
          split at hs
          · rename_i hes
            obtain ⟨hes, hee, _⟩ := hes
            subst hes; subst hee
            rw [if_neg (by omega)] at hs
            split at hs
            · cases hs
              have := app_grow (P := P) hr ht hu hd hz hn hb hzn (base := some ⟨j.c, o', none⟩) (sLen := 0) (sCap := 0) (ty := ty) VL.nil (by simp) (by simp) (.inr ⟨_, rfl, by simp⟩) hvn hnl hn1 hlx hnc (by omega) (by simpa using hc.1) (by simpa using hc.2)
              simpa using this
            · split at hs
              · rename_i hown
                cases hs
                subst hown
                exact move (olds := []) hb' hG .nil (by simp) (by simp) (.inr ⟨_, rfl, by simp⟩) (by omega) hc.1 hc.2 rfl (by simp)
              · cases hs
          · cases hs
        · cases hs
      · cases hs
  | @slz x a hx =>
    obtain ⟨b, o, q⟩ := x
    cases q with
    | none => simp at hx
    | some q =>
      simp only [appA] at hs
      rw [if_pos ⟨trivial, trivial⟩] at hs
      split at hs
      · rename_i hm
        cases hs
        exact zero hm _ 0 0 _ (Nat.le_refl _) (.slz rfl) rfl rfl
      · split at hs
        · rename_i hm hc
          cases hs
          have := app_grow (P := P) hr ht hu hd hz hn hb hzn (base := some a) (sLen := 0) (sCap := 0) (ty := ty) VL.nil (by simp) (by simp) (.inr ⟨_, rfl, by simp⟩) hvn hnl hn1 hlx hnc (by omega) (by simpa using hc.1) (by simpa using hc.2)
          simpa using this
        · cases hs
  | @sl b o n k k' j hb' hnk hk =>
    simp only [appA] at hs
    split at hs
    · rename_i hm
      cases hs
      exact zero hm _ n k' _ (by omega) (.sl hb' hnk hk) rfl rfl
    · rename_i hm
      split at hs
      · rename_i hc
        split at hs
        · rename_i own room esz' c e' hG
          split at hs
          · rename_i hes
            obtain ⟨hes, hee, hbd⟩ := hes
            subst hes; subst hee
            obtain ⟨ob, g1, g2⟩ := hr.obj b j hb'
            rw [hG] at g1; cases g1
            obtain ⟨a1, a2, a3, a4, a9, c', fr, a5, a6, a7, a8⟩ := g2
            have g2 : OR σ w j (.cells own room esz' c e') := ⟨a1, a2, a3, a4, a9, c', fr, a5, a6, a7, a8⟩
            have hnk' : n * esz' ≤ k * esz' := Nat.mul_le_mul_right _ hnk
            obtain ⟨olds', ho, hol, hoc⟩ := g2.range o (n * esz') (by omega)
            have ho1 : ∀ u ∈ (c.drop o).take (n * esz'), u.oneCell' = true := fun u hu => a9 u (List.mem_of_mem_drop (List.mem_of_mem_take hu))
            split at hs
            · -- there is room for it in any case
              rename_i hfit
              split at hs
              · rename_i hown
                cases hs
                subst hown
                have hkk' : k ≤ k' := by rcases hk with hk | hk <;> omega
                have hnm : n * esz' + m' * esz' ≤ k * esz' := by rw [← Nat.add_mul]; exact Nat.mul_le_mul_right _ hfit
                have hnew := hvn.length
                obtain ⟨w', e1, e2', e3⟩ := res_cells (P := P) hr hb' hG (o := o + n * esz') hvn (by omega) hn1 (hvn.one hn1)
                have hrun := run_append_in (P := P) (w := w) t u ty e' d i ht hu hd hi ⟨j.c, j.off + o, none⟩ n k' m' x' hlx news' (w' := w') (by rw [hin]; exact hf) (by rw [hin, add_plain]; rw [← Nat.add_assoc] at e1; exact e1) (by omega)
                refine ⟨_, .slice (some ⟨j.c, j.off + o, none⟩) (n + m') k', w', σ, by simp only [Sem.run_bind, hrun, Result.andThen_ok, Sem.run_pure], .inl rfl, e2', e3, .sl hb' hfit hk⟩
              · cases hs
            split at hs
            · rename_i hfit hex
              cases hs
              have hkk : k' = k := by
                rcases hk with hk | ⟨r1, r2, r3, r4⟩
                · exact hk
                · rcases hex with hx | hx
                  · rw [a2, hx] at r1; cases r1
                  · rw [a3, a1] at r3; omega
              subst hkk
              exact app_grow (P := P) hr ht hu hd hz hn hb hzn ho hol ho1 (.inr ⟨_, rfl, hoc⟩) hvn hnl hn1 hlx hnc (by omega) hc.1 hc.2
            · split at hs
              · rename_i hown
                cases hs
                subst hown
                by_cases hroom : n + m' ≤ k'
                · -- in place
                  have htop : o + k' * esz' ≤ j.top := by
                    rcases hk with hk | ⟨r1, r2, r3, r4⟩
                    · subst hk; omega
                    · rw [a3] at r4; exact r4
                  have hnm : n * esz' + m' * esz' ≤ k' * esz' := by rw [← Nat.add_mul]; exact Nat.mul_le_mul_right _ hroom
                  have hn1' := hvn.one hn1
                  obtain ⟨w', cur', e1, e2', e3, e4, e5, e6, e7, e8⟩ := run_store_run (P := P) j.c (j.off + o + n * esz') e' fr news' 0 c' w a5 (by rw [hnl]; omega) hn1' (fun q hq hq2 => unfr (a8 rfl) q hq2)
                  have hrun := run_append_in (P := P) (w := w) t u ty e' d i ht hu hd hi ⟨j.c, j.off + o, none⟩ n k' m' x' hlx news' (w' := w') (by rw [hin]; exact hf) (by rw [hin, add_plain]; exact e1) hroom
                  have hsz : cur'.size = c'.size := by
                    rw [← Array.length_toList, e3]
                    simp; omega
                  have hlt := AHeap.get_lt hG
                  -- the world is written, the old block let go
                  have hd : HR ng σ (H.set b .dead).get w' := HR.upd (o2 := .dead) hr hb' hG rfl e4 e5 (fun x hx => AHeap.get_set_other H hx hlt _) (AHeap.get_set_same hG _) trivial
                  have hfresh := hr.none_of_ge (Nat.le_refl H.n)
                  have hcl : (c.drop o).length = c.length - o := by simp
                  have hclen : ((c.drop o).take (n * esz') ++ news).length = (n + m') * esz' := by
                    have := ho.length; have h3 := hvn.length
                    simp only [List.length_append]; rw [this, h3, hol, hnl, Nat.add_mul]
                  let nb : BI := ⟨j.c, j.off + o, (n + m') * esz', j.top - o, esz', true⟩
                  have hor : OR σ w' nb (.cells true true esz' ((c.drop o).take (n * esz') ++ news) e') := by
                    refine ⟨hclen.symm, rfl, rfl, by rw [hclen, Nat.add_mul]; show _ ≤ j.top - o; omega, ?_, cur', fr, ?_, ?_, ?_, fun _ => by have := a8 rfl; omega⟩
                    · intro x hx
                      rcases List.mem_append.1 hx with hx | hx
                      · exact ho1 x hx
                      · exact hn1 x hx
                    · exact e2'
                    · show cur'.size = j.off + o + (j.top - o); omega
                    · rw [hclen, e3]
                      have key : ((c'.toList.take (j.off + o + n * esz' + 0) ++ news' ++ c'.toList.drop (j.off + o + n * esz' + 0 + news'.length)).drop (j.off + o)).take ((n + m') * esz') =
                          (((c'.toList.drop j.off).take c.length).drop o).take (n * esz') ++ news' := by
                        have hcl' : c'.toList.length = j.off + j.top := by simpa using a6
                        apply List.ext_getElem?
                        intro q
                        simp only [List.getElem?_take, List.getElem?_drop, List.getElem?_append, List.length_take, List.length_drop, List.length_append, hcl', Nat.add_zero, Nat.add_mul, hnl]
                        by_cases h1 : q < n * esz'
                        · rw [if_pos (by omega), if_pos (by omega), if_pos (by omega), if_pos (by omega), if_pos (by omega), if_pos (by omega), if_pos (by omega)]
                          congr 1; omega
                        · by_cases h2 : q < n * esz' + m' * esz'
                          · rw [if_pos (by omega), if_pos (by omega), if_neg (by omega), if_neg (by omega)]
                            congr 1; omega
                          · rw [if_neg (by omega), if_neg (by omega)]
                            rw [List.getElem?_eq_none (by rw [hnl]; omega)]
                      show VL σ _ (((_ : List Value).drop (j.off + o)).take ((n + m') * esz'))
                      rw [key]
                      exact ((a7.drop o).take (n * esz')).append hvn
                  refine ⟨_, .slice (some ⟨j.c, j.off + o, none⟩) (n + m') k', w', σ.up H.n nb, by simp only [Sem.run_bind, hrun, Result.andThen_ok, Sem.run_pure], .inl rfl, ?_, ?_, ?_⟩
                  · refine HR.add hd hfresh (fun x hx => AHeap.get_alloc_ne _ _ hx) (AHeap.get_alloc_new _ _) (by rw [e5]; exact hr.lt b j hb') hor ?_
                    intro x jx ox hx hox hlv
                    by_cases hxb : x = b
                    · subst hxb
                      rw [AHeap.get_set_same hG] at hox; cases hox
                      simp [AO.live, AO.own] at hlv
                    · rw [AHeap.get_set_other H hxb hlt] at hox
                      have hlive : ox.live = true := by rcases hlv with ⟨h1, _⟩ | ⟨h1, _⟩; exact h1; exact AO.live_of_own h1
                      exact fun he => hr.inj b x j jx _ ox (Ne.symm hxb) hb' hx hG hox rfl hlive he.symm
                  · refine ⟨Sg.le_up _ hfresh, fun x jx hx hx' => ?_, fun x jx o' hx ho' hown => ?_, fun x jx o' hx ho' hlv => ?_, fun q hq hne => e4 q (fun he => hne b j _ hb' hG rfl he.symm), by omega, by simp [AHeap.set, AHeap.alloc], e6, e7, e8⟩
                    · by_cases hxn : x = H.n
                      · subst hxn
                        rw [Sg.up_same] at hx'; cases hx'
                        exact ⟨⟨Nat.le_refl _, by simp [AHeap.set, AHeap.alloc]⟩, .inr ⟨b, j, _, hb', hG, rfl, rfl⟩⟩
                      · rw [Sg.up_other σ _ hxn, hx] at hx'; cases hx'
                    · have hxn : x ≠ H.n := fun he => by rw [he, hfresh] at hx; cases hx
                      rw [AHeap.get_alloc_ne (H.set b .dead) _ hxn] at ho'
                      by_cases hxb : x = b
                      · subst hxb
                        rw [AHeap.get_set_same hG] at ho'; cases ho'
                        simp [AO.own] at hown
                      · rw [AHeap.get_set_other H hxb hlt] at ho'; exact ⟨o', ho', hown⟩
                    · have hxn : x ≠ H.n := fun he => by rw [he, hfresh] at hx; cases hx
                      rw [AHeap.get_alloc_ne (H.set b .dead) _ hxn] at ho'
                      by_cases hxb : x = b
                      · subst hxb
                        rw [AHeap.get_set_same hG] at ho'; cases ho'
                        simp [AO.live] at hlv
                      · rw [AHeap.get_set_other H hxb hlt] at ho'; exact ⟨o', ho', hlv⟩
                  · have hv := VR.sl (σ := σ.up H.n nb) (b := H.n) (o := 0) (n := n + m') (k := n + m') (k' := k') (i := nb) (Sg.up_same _ _ _) (Nat.le_refl _)
                      (.inr ⟨rfl, hroom, by show 0 + (n + m') * esz' = (n + m') * esz'; omega, by show 0 + k' * esz' ≤ j.top - o; omega⟩)
                    exact hv
                · exact move hb' hG ho hol ho1 (.inr ⟨_, rfl, hoc⟩) (by omega) hc.1 hc.2 rfl rfl
              · cases hs
          · cases hs
        · cases hs
      · cases hs

  | _ => simp [appA] at hs

theorem res_app (hr : HR ng σ H.get w) {t u ty e e2 esz bytes : Nat} {z : Value} (ht : P.underlying t = some (.slice e)) (hu : P.underlying u = some (.slice e2)) (hz : zeroT P e = some z) (hn : sizeT P e = some esz) (hb : bytesT P e = some bytes)
    (hzn : z.cells.size = esz) (h0 : 0 < esz) {s s' x x' : Value} (hvs : VR σ s s') (hvx : VR σ x x') (hs : asem (.app e esz bytes s x) H = some (v, H')) :
    Res ng σ H w ((do pure (Next.value (← Builtin.append_ #[t, u] ty #[s', x'])) : Sem Next).run P w) v H' := by
  simp only [asem] at hs
  split at hs
  case h_2 => cases hs
  rename_i xa0 m xk0
  split at hs
  case h_2 => cases hs
  rename_i news hel
  obtain ⟨xa, m', xk, news', rfl, hlen, hvn, hnl, hn1, hnc⟩ := elemsA_sound hr hvx hel
  have hmm : m' = m := by simpa [lenA] using hlen.symm
  subst hmm
  refine app_core hr ht hu (.inl ⟨_, rfl⟩) hz hn hb hzn hvs hvn hnl hn1 (fun w => by simp [Builtin.lenOf]) (fun w2 h2 => ?_) hs
  have hcell : ∀ a, w2.cell? a = w.cell? a := fun a => by simp only [World.cell?, h2]
  exact run_first (P := P) (w := w2) (.slice xa m' xk) esz m' rfl hnl (by
    rcases hnc with h | ⟨ad, h1, h3⟩
    · exact .inl h
    · exact .inr ⟨ad, h1, fun j v hj => by rw [hcell]; exact h3 j v hj⟩)

theorem res_apps (hr : HR ng σ H.get w) {t u ty e bytes : Nat} {z : Value} (ht : P.underlying t = some (.slice e)) (hu : P.underlying u = some .string) (hz : zeroT P e = some z) (hn : sizeT P e = some 1) (hb : bytesT P e = some bytes)
    (hzn : z.cells.size = 1) {s s' x x' : Value} (hvs : VR σ s s') (hvx : VR σ x x') (hs : asem (.apps e bytes s x) H = some (v, H')) :
    Res ng σ H w ((do pure (Next.value (← Builtin.append_ #[t, u] ty #[s', x'])) : Sem Next).run P w) v H' := by
  simp only [asem] at hs
  split at hs
  · rename_i tx
    have : x' = .string tx := by cases hvx; rfl
    subst this
    have hvl : ∀ l : List UInt8, VL σ (l.map fun b => (Value.int .u8 b.toNat)) (l.map fun b => (Value.int .u8 b.toNat)) := by
      intro l
      induction l with
      | nil => exact .nil
      | cons b l ih => exact .cons (.int _ _) ih
    refine app_core hr ht hu (.inr rfl) hz hn hb hzn hvs (hvl tx.data.toList) (by simp) (fun u hu => ?_) (fun w => by simp [Builtin.lenOf]) (fun w2 _ => ?_) hs
    · obtain ⟨b, _, rfl⟩ := List.mem_map.1 hu; rfl
    · have : (tx.extract 0 tx.size).data = tx.data := by
        rw [ByteArray.data_extract]; simp
      simp only [Builtin.firstCells, this, Sem.run_pure]
      congr 1
      apply Array.ext'
      simp
  · cases hs

end
end Go.AM
