/- The abstract machine, part G: the remaining operations. -/
import Derived.Test.YtlmikadohcdclaaAmF
set_option linter.unusedSimpArgs false
set_option linter.unusedVariables false
namespace Go.AM

section
variable {P : Program} {ng : Nat} {σ : Sg} {H H' : AHeap} {w : World} {v : Value}

theorem res_un (hr : HR ng σ H.get w) {op : UnOp} {a a' : Value} (ha : VR σ a a') (hs : asem (.un op a) H = some (v, H')) :
    Res ng σ H w ((do pure (Next.value (← Op.unary op a')) : Sem Next).run P w) v H' := by
  simp only [asem] at hs
  split at hs <;> first | (cases hs; done) | skip
  all_goals cases hs
  all_goals cases ha
  · exact Res.pure hr (v' := .bool _) (by simp [Op.unary]) (.bool _)
  · exact Res.pure hr (v' := .int _ _) (by simp [Op.unary, Op.intArith]) (.int _ _)
  · exact Res.pure hr (v' := .int _ _) (by simp [Op.unary, Op.intBits]) (.int _ _)

theorem res_i2i (hr : HR ng σ H.get w) {src dst : TypeId} {ks k : IntKind} (h1 : P.underlying src = some (.int ks)) (h2 : P.underlying dst = some (.int k)) {a a' : Value} (ha : VR σ a a') (hs : asem (.i2i k a) H = some (v, H')) :
    Res ng σ H w ((do pure (Next.value (← convert src dst a')) : Sem Next).run P w) v H' := by
  simp only [asem] at hs
  split at hs
  · cases hs
    cases ha
    exact Res.pure hr (v' := .int _ _) (by simp [convert, run_underlying h1, run_underlying h2, Conv.intToInt]) (.int _ _)
  · cases hs

theorem res_s2s (hr : HR ng σ H.get w) {src dst : TypeId} (h1 : P.underlying src = some .string) (h2 : P.underlying dst = some .string) {a a' : Value} (ha : VR σ a a') (hs : asem (.s2s a) H = some (v, H')) :
    Res ng σ H w ((do pure (Next.value (← convert src dst a')) : Sem Next).run P w) v H' := by
  simp only [asem] at hs
  split at hs
  · cases hs
    cases ha
    exact Res.pure hr (v' := .string _) (by simp [convert, run_underlying h1, run_underlying h2]) (.string _)
  · cases hs

theorem isU8_eq {e : TypeId} (h : isU8 P e = true) : P.underlying e = some (.int .u8) := by
  unfold isU8 at h
  split at h
  · assumption
  · cases h

theorem VL.ints (k : IntKind) : ∀ (l : List Int), VL σ (l.map (Value.int k)) (l.map (Value.int k))
  | [] => .nil
  | _ :: l => .cons (.int _ _) (VL.ints k l)

theorem res_s2b (hr : HR ng σ H.get w) {src dst e : TypeId} (h1 : P.underlying src = some .string) (h2 : P.underlying dst = some (.slice e)) (h3 : isU8 P e = true) {a a' : Value} (ha : VR σ a a') (hs : asem (.s2b e a) H = some (v, H')) :
    Res ng σ H w ((do pure (Next.value (← convert src dst a')) : Sem Next).run P w) v H' := by
  simp only [asem] at hs
  split at hs
  · rename_i s
    cases hs
    cases ha
    have hge : s.size ≤ grownCap w s.size 0 e := grownCap_ge w s.size 0 e
    let c : List Value := s.data.toList.map fun b => .int .u8 b.toNat
    let sp : List Value := List.replicate (grownCap w s.size 0 e - s.size) (.int .u8 0)
    have hc : c.length = s.size := by show (List.map _ _).length = _; simp
    have hv : VL σ c c := by
      have := VL.ints (σ := σ) .u8 (s.data.toList.map fun b => (b.toNat : Int))
      rw [List.map_map] at this; exact this
    have h1c : ∀ u ∈ c, u.oneCell' = true := by
      intro u hu
      simp only [c, List.mem_map] at hu
      obtain ⟨b, _, rfl⟩ := hu
      rfl
    let n := (c ++ sp).length
    have hn : n = grownCap w s.size 0 e := by
      show (c ++ sp).length = _
      rw [List.length_append, hc]; simp [sp]; omega
    have hrun : (do pure (Next.value (← convert src dst (.string s))) : Sem Next).run P w =
        .ok (.value (.slice (some ⟨w.heap.size, 0, none⟩) s.size (grownCap w s.size 0 e))) (w.drew.alloc (.cells (c ++ sp).toArray e (n, n + 1))) := by
      have hcell : (Array.map (fun b : UInt8 => Value.int .u8 b.toNat) s.data ++ Array.replicate (grownCap w s.size 0 e - s.size) (Value.int .u8 0)) = (c ++ sp).toArray := by
        apply Array.ext'; simp [c, sp]
      simp [convert, run_underlying h1, run_underlying h2, run_underlying (isU8_eq h3), Conv.stringToBytes, Question.forced, newRow, markStringish]
      have hg : (Question.appendCap s.size 0 e).cut (w.tape w.drawn (.appendCap s.size 0 e)) = grownCap w s.size 0 e := rfl
      rw [hg, hcell]
      simp only [World.shape?, World.drew, World.alloc]
      simp [World.freeze, n]
      apply Array.ext_getElem?
      intro q
      by_cases hq : q = w.heap.size
      · subst hq; rw [Array.getElem?_modify, if_pos rfl]; simp only [Array.getElem?_push_size]; simp
      · rw [Array.getElem?_modify, if_neg (Ne.symm hq), Array.getElem?_push, Array.getElem?_push, if_neg hq, if_neg hq]
    have hor : OR σ (w.alloc (.cells (c ++ sp).toArray e (n, n + 1))) ⟨w.heap.size, 0, c.length, (c ++ sp).toArray.size, 1, true⟩ (.cells true true 1 c e) :=
      OR.cells_new (w := w) true true 1 (by simp) h1c (by simp only [List.toList_toArray, List.take_left]; exact hv) (fun _ => .inr (by simp only [List.size_toArray]; show n ≤ n; omega))
    obtain ⟨e1, e2⟩ := hr.alloc (w' := w.drew.alloc (.cells (c ++ sp).toArray e (n, n + 1))) rfl hor rfl rfl rfl rfl
    refine ⟨_, _, _, _, hrun, .inl rfl, e1, e2, ?_⟩
    have hvr := VR.sl (σ := σ.up H.n ⟨w.heap.size, 0, c.length, (c ++ sp).toArray.size, 1, true⟩) (b := H.n) (o := 0) (n := s.size) (k := s.size) (k' := grownCap w s.size 0 e) (Sg.up_same _ _ _) (Nat.le_refl _)
      (.inr ⟨rfl, hge, by simp [hc], by simp only [List.size_toArray, Nat.mul_one, Nat.zero_add]; show _ ≤ n; omega⟩)
    exact hvr
  · cases hs

theorem bytesOf_some : ∀ {l : List Value} {r : List UInt8}, bytesOf l = some r → ∃ zs : List Int, l = zs.map (Value.int .u8) ∧ r = zs.map fun n => UInt8.ofNat n.toNat
  | [], r, h => by simp [bytesOf] at h; subst h; exact ⟨[], rfl, rfl⟩
  | .int .u8 n :: l, r, h => by
    simp only [bytesOf, Option.map_eq_some_iff] at h
    obtain ⟨r', h1, rfl⟩ := h
    obtain ⟨zs, rfl, rfl⟩ := bytesOf_some h1
    exact ⟨n :: zs, rfl, rfl⟩
  | .int .i8 n :: l, r, h => by simp [bytesOf] at h
  | .int .i16 n :: l, r, h => by simp [bytesOf] at h
  | .int .i32 n :: l, r, h => by simp [bytesOf] at h
  | .int .i64 n :: l, r, h => by simp [bytesOf] at h
  | .int .u16 n :: l, r, h => by simp [bytesOf] at h
  | .int .u32 n :: l, r, h => by simp [bytesOf] at h
  | .int .u64 n :: l, r, h => by simp [bytesOf] at h
  | .bool _ :: l, r, h => by simp [bytesOf] at h
  | .float .. :: l, r, h => by simp [bytesOf] at h
  | .complex .. :: l, r, h => by simp [bytesOf] at h
  | .string _ :: l, r, h => by simp [bytesOf] at h
  | .pointer _ :: l, r, h => by simp [bytesOf] at h
  | .slice .. :: l, r, h => by simp [bytesOf] at h
  | .map _ :: l, r, h => by simp [bytesOf] at h
  | .chan _ :: l, r, h => by simp [bytesOf] at h
  | .func .. :: l, r, h => by simp [bytesOf] at h
  | .nilFunc :: l, r, h => by simp [bytesOf] at h
  | .iface .. :: l, r, h => by simp [bytesOf] at h
  | .nilIface :: l, r, h => by simp [bytesOf] at h
  | .agg _ :: l, r, h => by simp [bytesOf] at h
  | .tuple _ :: l, r, h => by simp [bytesOf] at h

theorem VL.ints_inv {k : IntKind} : ∀ {zs : List Int} {l' : List Value}, VL σ (zs.map (Value.int k)) l' → l' = zs.map (Value.int k)
  | [], _, h => by cases h; rfl
  | z :: zs, _, h => by
    cases h with
    | cons a t => rw [a.int_inv, VL.ints_inv t]; rfl


theorem foldl_push_bytes (zs : List Int) : ∀ r : ByteArray, zs.foldl (fun r n => r.push (UInt8.ofNat n.toNat)) r = ⟨(r.data.toList ++ zs.map fun n => UInt8.ofNat n.toNat).toArray⟩ := by
  induction zs with
  | nil => intro r; cases r; simp
  | cons z zs ih =>
    intro r
    rw [List.foldl_cons, ih]
    simp [ByteArray.push]

theorem res_b2s (hr : HR ng σ H.get w) {src dst e : TypeId} (h1 : P.underlying src = some (.slice e)) (h2 : P.underlying dst = some .string) (h3 : isU8 P e = true) {a a' : Value} (ha : VR σ a a') (hs : asem (.b2s a) H = some (v, H')) :
    Res ng σ H w ((do pure (Next.value (← convert src dst a')) : Sem Next).run P w) v H' := by
  simp only [asem] at hs
  split at hs
  · rename_i c hel
    split at hs
    · rename_i l hb
      cases hs
      obtain ⟨zs, rfl, rfl⟩ := bytesOf_some hb
      obtain ⟨x', n, k', l', rfl, _, e3, e4, _, e6⟩ := elemsA_sound hr ha hel
      have := VL.ints_inv e3
      subst this
      rw [Nat.mul_one] at e4
      rcases e6 with ⟨rfl, rfl⟩ | ⟨ad, rfl, hc⟩
      · have : zs = [] := List.eq_nil_of_length_eq_zero (by simpa using e4)
        subst this
        exact Res.pure hr (v' := .string _) (by simp only [Sem.run_bind, run_convert_bytes_string w src dst e _ _ _ h1 (isU8_eq h3) h2, Conv.bytesToString, Sem.run_pure, Result.andThen_ok]; rfl) (.string _)
      · have hl := run_loadCells_list (P := P) w ad _ hc
        rw [e4] at hl
        refine Res.pure hr (v' := .string _) ?_ (.string _)
        simp only [Sem.run_bind, run_convert_bytes_string w src dst e _ _ _ h1 (isU8_eq h3) h2, run_bytesToString w ad n k' zs hl, Result.andThen_ok, Sem.run_pure, foldl_push_bytes]
        simp
    · cases hs
  · cases hs

theorem res_mark (hr : HR ng σ H.get w) {src dst e e2 : TypeId} (h1 : P.underlying src = some (.slice e2)) (h2 : P.underlying dst = some (.slice e)) (h3 : isU8 P e = true) (h4 : (src == dst) = true) {a a' : Value} (ha : VR σ a a') (hs : asem (.mark a) H = some (v, H')) :
    Res ng σ H w ((do pure (Next.value (← convert src dst a')) : Sem Next).run P w) v H' := by
  simp only [asem] at hs
  split at hs
  · rename_i b o n k
    split at hs
    · rename_i room esz c e' hG
      cases hs
      have fin : ∀ (i : BI) (ad : Addr) (k' : Nat), σ b = some i → ad.block = i.c → VR σ (.slice (some ⟨b, o, none⟩) n k) (.slice (some ad) n k') →
          Res ng σ H w ((do pure (Next.value (← convert src dst (.slice (some ad) n k'))) : Sem Next).run P w) (.slice (some ⟨b, o, none⟩) n k) H := by
        intro i ad k' hb hab hvr
        obtain ⟨ob, g1, g2⟩ := hr.obj b i hb
        rw [hG] at g1; cases g1
        obtain ⟨a1, a2, a3, a4, a9, c', fr, a5, a6, a7, a8⟩ := g2
        have hlt := hr.lt b i hb
        let w' := w.freeze { block := i.c, off := c'.size } 1
        have hw' : w'.heap = w.heap.modify i.c fun x => match x with
            | .cells c elem (lo, hi) => .cells c elem (if lo == hi then (c'.size, c'.size + 1) else (min lo c'.size, max hi (c'.size + 1)))
            | o => o := by
          show (w.freeze { block := i.c, off := c'.size } 1).heap = _
          simp [World.freeze]
          rfl
        have hself : w'.heap[i.c]? = some (.cells c' e' (if fr.1 == fr.2 then (c'.size, c'.size + 1) else (min fr.1 c'.size, max fr.2 (c'.size + 1)))) := by
          rw [hw', Array.getElem?_modify, if_pos rfl, a5]; rfl
        have hoth : ∀ q, q ≠ i.c → w'.heap[q]? = w.heap[q]? := by
          intro q hq
          rw [hw', Array.getElem?_modify, if_neg (Ne.symm hq)]
        have hsz : w'.heap.size = w.heap.size := by rw [hw']; simp
        have hrun : (do pure (Next.value (← convert src dst (.slice (some ad) n k'))) : Sem Next).run P w = .ok (.value (.slice (some ad) n k')) w' := by
          have hsh : w.shape? ad.block = some (e', c'.size) := by rw [hab]; simp [World.shape?, a5]
          simp [convert, run_underlying h1, run_underlying h2, run_underlying (isU8_eq h3), h4, markStringish, hsh]
          rw [hab]
        have hos : w'.os = w.os ∧ w'.tape = w.tape ∧ w'.output = w.output := by
          show (w.freeze _ 1).os = _ ∧ (w.freeze _ 1).tape = _ ∧ (w.freeze _ 1).output = _
          simp [World.freeze]
        refine ⟨_, _, w', σ, hrun, .inl rfl, HR.upd (o2 := .cells true room esz c e') hr hb hG rfl hoth hsz (fun _ _ => rfl) hG ?_, ?_, hvr⟩
        · refine ⟨a1, a2, a3, a4, a9, c', _, hself, a6, a7, fun _ => ?_⟩
          split
          · right; exact Nat.le_refl _
          · rename_i hne
            have := a8 rfl
            have hne' : ¬ fr.1 = fr.2 := by simpa using hne
            right
            show c'.size ≤ min fr.1 c'.size
            omega
        · exact ⟨Sg.le.refl σ, (fun x j hx hx' => by rw [hx] at hx'; cases hx'), fun x j o' _ ho hown => ⟨o', ho, hown⟩, fun x j o' _ ho hown => ⟨o', ho, hown⟩, fun q hq hne => hoth q (fun he => hne b i _ hb hG rfl he.symm), by omega, Nat.le_refl _, hos.1, hos.2.1, hos.2.2⟩
      cases ha with
      | @sl _ _ _ _ k' i hb q1 q2 => exact fin i _ _ hb rfl (.sl hb q1 q2)
      | @sl0 _ _ o' i hb => exact fin i _ _ hb rfl (.sl0 hb)
      | slz hx => simp at hx
    · cases hs
  · cases hs

theorem res_iface (hr : HR ng σ H.get w) {t : TypeId} {d : TypeDesc} (h1 : P.underlying t = some d) (hd : ∀ ms, d ≠ .interface ms) {a a' : Value} (ha : VR σ a a') (hs : asem (.iface t a) H = some (v, H')) :
    Res ng σ H w ((do pure (Next.value (← Instr.makeInterface t a')) : Sem Next).run P w) v H' := by
  simp only [asem] at hs
  cases hs
  refine Res.pure hr (v' := .iface t a') ?_ (.iface t ha)
  cases d <;> first
    | exact absurd rfl (hd _)
    | simp [Instr.makeInterface, run_underlying h1]

theorem res_nilck (hr : HR ng σ H.get w) {a a' : Value} (ha : VR σ a a') (hs : asem (.nilck a) H = some (v, H')) {o : Oper} {x : Operand} {ev : Operand → Value} (hop : o.op = .nilCheck x) (hx : ev x = a') :
    Res ng σ H w ((execOp ev o).run P w) v H' := by
  simp only [asem] at hs
  split at hs
  · cases hs; cases ha with | ptr hb => exact Res.pure hr (v' := _) (by simp [execOp, hop, hx]) (.ptr hb)
  · cases hs; cases ha with | iface t h => exact Res.pure hr (v' := _) (by simp [execOp, hop, hx]) (.iface _ h)
  · cases hs; cases ha with | func fn xs xs' ys ys' h1 h2 h3 h4 => exact Res.pure hr (v' := _) (by simp [execOp, hop, hx]) (.func _ _ _ _ _ h1 h2 h3 h4)
  · cases hs

theorem VL.map2 {X : Type} (f g : X → Value) : ∀ (xs : List X), (∀ x ∈ xs, VR σ (f x) (g x)) → VL σ (xs.map f) (xs.map g)
  | [], _ => .nil
  | x :: xs, h => .cons (h x (by simp)) (VL.map2 f g xs (fun y hy => h y (by simp [hy])))

theorem res_mkfn (hr : HR ng σ H.get w) {fn : Fn} {l l' m m' : List Value} (h1 : VL σ l l') (h2 : VL σ m m') (hs : asem (.mkfn fn l m) H = some (v, H')) :
    Res ng σ H w ((do pure (Next.value (← Instr.makeFunc fn l'.toArray m'.toArray)) : Sem Next).run P w) v H' := by
  simp only [asem] at hs
  cases hs
  exact Res.pure hr (v' := .func fn l'.toArray m'.toArray) (by simp [Instr.makeFunc]) (.func _ _ _ _ _ h1.iff_arr.1 h1.iff_arr.2 h2.iff_arr.1 h2.iff_arr.2)

theorem bndA_run {x x' : Option Value} (hx : ∀ u, x = some u → ∃ u', x' = some u' ∧ VR σ u u') {d top r : Nat} (h : bndA x d top = some r) :
    (x = none ∧ r = d) ∨ ∃ k i, x = some (.int k i) ∧ x' = some (.int k i) ∧ 0 ≤ i ∧ i ≤ (top : Int) ∧ r = i.toNat := by
  unfold bndA at h
  split at h
  · cases h; exact .inl ⟨rfl, rfl⟩
  · rename_i k i
    split at h
    · rename_i hc
      cases h
      obtain ⟨u', e1, e2⟩ := hx _ rfl
      rw [e2.int_inv] at e1
      exact .inr ⟨k, i, rfl, e1, hc.1, hc.2, rfl⟩
    · cases h
  · cases h

theorem run_bound {k : IntKind} {i : Int} {y : Nat} (h0 : 0 ≤ i) (h1 : i ≤ (y : Int)) (c : BoundsCode) (w : World) : (Instr.sliceBound (.int k i) y c).run P w = .ok i.toNat w := by
  simp [Instr.sliceBound, asIntOf, h0, h1]

theorem res_slstr (hr : HR ng σ H.get w) {t : TypeId} (h1 : P.underlying t = some .string) {a a' : Value} (ha : VR σ a a') {lo hi lo' hi' : Option Value} (hlo : ∀ u, lo = some u → ∃ u', lo' = some u' ∧ VR σ u u') (hhi : ∀ u, hi = some u → ∃ u', hi' = some u' ∧ VR σ u u')
    (hlo0 : lo = none → lo' = none) (hhi0 : hi = none → hi' = none) (hs : asem (.slstr a lo hi) H = some (v, H')) :
    Res ng σ H w ((do pure (Next.value (← Instr.sliceAt t a' lo' hi' none)) : Sem Next).run P w) v H' := by
  simp only [asem] at hs
  split at hs
  · rename_i s
    split at hs
    · rename_i h hh
      split at hs
      · rename_i l hl
        cases hs
        cases ha
        refine Res.pure hr (v' := .string (s.extract l h)) ?_ (.string _)
        rcases bndA_run hhi hh with ⟨e1, e2⟩ | ⟨k, i, e1, e2, e3, e4, e5⟩
        · rw [hhi0 e1]
          subst e2
          rcases bndA_run hlo hl with ⟨f1, f2⟩ | ⟨k2, i2, f1, f2, f3, f4, f5⟩
          · rw [hlo0 f1]; subst f2
            simp [Instr.sliceAt, Instr.slice, Instr.sliceBounds, run_underlying h1]
          · rw [f2]; subst f5
            simp [Instr.sliceAt, Instr.slice, Instr.sliceBounds, run_underlying h1, run_bound f3 f4]
        · rw [e2]; subst e5
          rcases bndA_run hlo hl with ⟨f1, f2⟩ | ⟨k2, i2, f1, f2, f3, f4, f5⟩
          · rw [hlo0 f1]; subst f2
            simp [Instr.sliceAt, Instr.slice, Instr.sliceBounds, run_underlying h1, run_bound e3 e4]
          · rw [f2]; subst f5
            simp [Instr.sliceAt, Instr.slice, Instr.sliceBounds, run_underlying h1, run_bound e3 e4, run_bound f3 f4]
      · cases hs
    · cases hs
  · cases hs


theorem res_slsl (hr : HR ng σ H.get w) {t e esz : Nat} (h1 : P.underlying t = some (.slice e)) (hz : sizeT P e = some esz) {a a' : Value} (ha : VR σ a a') {lo hi mx lo' hi' mx' : Option Value}
    (hlo : ∀ u, lo = some u → ∃ u', lo' = some u' ∧ VR σ u u') (hhi : ∀ u, hi = some u → ∃ u', hi' = some u' ∧ VR σ u u') (hmx : ∀ u, mx = some u → ∃ u', mx' = some u' ∧ VR σ u u')
    (hlo0 : lo = none → lo' = none) (hhi0 : hi = none → hi' = none) (hmx0 : mx = none → mx' = none) (hmh : mx ≠ none → hi ≠ none) (hs : asem (.slsl esz a lo hi mx) H = some (v, H')) :
    Res ng σ H w ((do pure (Next.value (← Instr.sliceAt t a' lo' hi' mx')) : Sem Next).run P w) v H' := by
  simp only [asem] at hs
  split at hs
  case h_2 => cases hs
  rename_i base n k
  split at hs
  case h_2 => cases hs
  rename_i m hm
  split at hs
  case h_2 => cases hs
  rename_i h hh
  split at hs
  case h_2 => cases hs
  rename_i l hl
  -- the bounds on the model's side: the capacity there is k' >= k
  have bounds : ∀ k', k ≤ k' → n ≤ k → ∃ m', (Instr.sliceBounds true n k' lo' hi' mx').run P w = .ok (l, h, m') w ∧ ((mx = none ∧ m' = k' ∧ m = k) ∨ (m' = m ∧ m ≤ k)) ∧ l ≤ h ∧ h ≤ m := by
    intro k' hk hn
    rcases bndA_run hmx hm with ⟨e1, e2⟩ | ⟨kk, i, e1, e2, e3, e4, e5⟩
    · rcases bndA_run hhi hh with ⟨f1, f2⟩ | ⟨k1, i1, f1, f2, f3, f4, f5⟩
      · rcases bndA_run hlo hl with ⟨g1, g2⟩ | ⟨k2, i2, g1, g2, g3, g4, g5⟩
        · refine ⟨k', ?_, .inl ⟨e1, rfl, e2⟩, by omega, by omega⟩
          rw [hmx0 e1, hhi0 f1, hlo0 g1, f2, g2]
          simp [Instr.sliceBounds]
        · refine ⟨k', ?_, .inl ⟨e1, rfl, e2⟩, by omega, by omega⟩
          rw [hmx0 e1, hhi0 f1, g2, f2, g5]
          rw [f2] at g4
          simp [Instr.sliceBounds, run_bound g3 g4]
      · have f4' : i1 ≤ (k' : Int) := by omega
        rcases bndA_run hlo hl with ⟨g1, g2⟩ | ⟨k2, i2, g1, g2, g3, g4, g5⟩
        · refine ⟨k', ?_, .inl ⟨e1, rfl, e2⟩, by omega, by omega⟩
          rw [hmx0 e1, f2, hlo0 g1, f5, g2]
          simp [Instr.sliceBounds, run_bound f3 f4']
        · refine ⟨k', ?_, .inl ⟨e1, rfl, e2⟩, by omega, by omega⟩
          rw [hmx0 e1, f2, g2, f5, g5]
          rw [f5] at g4
          simp [Instr.sliceBounds, run_bound f3 f4', run_bound g3 g4]
    · have e4' : i ≤ (k' : Int) := by omega
      rcases bndA_run hhi hh with ⟨f1, f2⟩ | ⟨k1, i1, f1, f2, f3, f4, f5⟩
      · exact absurd f1 (hmh (by rw [e1]; simp))
      · rw [e5] at f4
        rcases bndA_run hlo hl with ⟨g1, g2⟩ | ⟨k2, i2, g1, g2, g3, g4, g5⟩
        · refine ⟨m, ?_, .inr ⟨rfl, by omega⟩, by omega, by omega⟩
          rw [e2, f2, hlo0 g1, f5, g2, e5]
          simp [Instr.sliceBounds, run_bound e3 e4', run_bound f3 f4]
        · refine ⟨m, ?_, .inr ⟨rfl, by omega⟩, by omega, by omega⟩
          rw [f5] at g4
          rw [e2, f2, g2, f5, g5, e5]
          simp [Instr.sliceBounds, run_bound e3 e4', run_bound f3 f4, run_bound g3 g4]
  cases ha with
  | nilSl =>
    simp only at hs
    cases hs
    obtain ⟨m', r1, r2, r3, r4⟩ := bounds 0 (Nat.le_refl _) (Nat.le_refl _)
    have hm0 : m' = 0 ∧ h = 0 ∧ l = 0 := by rcases r2 with ⟨_, b, c⟩ | ⟨b, c⟩ <;> omega
    obtain ⟨rfl, rfl, rfl⟩ := hm0
    refine Res.pure hr (v' := .slice none 0 0) ?_ .nilSl
    simp [Instr.sliceAt, Instr.slice, run_underlying h1, r1, run_sizeT hz]
  | @sl0 b o o' j hb =>
    simp only at hs
    split at hs
    · split at hs
      · cases hs
        obtain ⟨m', r1, r2, r3, r4⟩ := bounds 0 (Nat.le_refl _) (Nat.le_refl _)
        have hm0 : m' = 0 ∧ h = 0 ∧ l = 0 ∧ m = 0 := by rcases r2 with ⟨_, b, c⟩ | ⟨b, c⟩ <;> omega
        obtain ⟨rfl, rfl, rfl, rfl⟩ := hm0
        refine Res.pure hr (v' := .slice (some ⟨j.c, o', none⟩) 0 0) ?_ (.sl0 hb)
        simp [Instr.sliceAt, Instr.slice, run_underlying h1, r1, run_sizeT hz]
      · cases hs
    · cases hs
  | @slz x a hx =>
    obtain ⟨b, o, q⟩ := x
    cases q with
    | none => simp at hx
    | some q =>
      simp only [and_self, if_true] at hs
      cases hs
      obtain ⟨m', r1, r2, r3, r4⟩ := bounds 0 (Nat.le_refl _) (Nat.le_refl _)
      have hm0 : m' = 0 ∧ h = 0 ∧ l = 0 ∧ m = 0 := by rcases r2 with ⟨_, b, c⟩ | ⟨b, c⟩ <;> omega
      obtain ⟨rfl, rfl, rfl, rfl⟩ := hm0
      refine Res.pure hr (v' := .slice (some a) 0 0) ?_ (.slz rfl)
      simp [Instr.sliceAt, Instr.slice, run_underlying h1, r1, run_sizeT hz]
  | @sl b o n k k' j hb hnk hk =>
    simp only at hs
    split at hs
    · rename_i own room esz' c e' hG
      split at hs
      · rename_i hes
        cases hs
        have hkk : k ≤ k' := by rcases hk with hk | hk <;> omega
        obtain ⟨m', r1, r2, r3, r4⟩ := bounds k' hkk hnk
        obtain ⟨ob, g1, g2⟩ := hr.obj b j hb
        rw [hG] at g1; cases g1
        have hje : j.esz = esz' := g2.2.2.1
        have hjr : j.room = room := g2.2.1
        have hmk : m ≤ k := by rcases r2 with ⟨_, _, c⟩ | ⟨_, c⟩ <;> omega
        have hml : m * j.esz ≤ k * j.esz := Nat.mul_le_mul_right _ hmk
        have hlm : l * j.esz ≤ m * j.esz := Nat.mul_le_mul_right _ (by omega)
        have hsub : (m - l) * j.esz = m * j.esz - l * j.esz := Nat.sub_mul _ _ _
        have hrun : (Instr.sliceAt t (.slice (some ⟨j.c, j.off + o, none⟩) n k') lo' hi' mx').run P w = .ok (.slice (some (if m' = l then ⟨j.c, j.off + o, none⟩ else ⟨j.c, j.off + o + l * esz, none⟩)) (h - l) (m' - l)) w := by
          by_cases hml' : m' = l
          · simp [Instr.sliceAt, Instr.slice, run_underlying h1, r1, run_sizeT hz, hml']
          · simp [Instr.sliceAt, Instr.slice, run_underlying h1, r1, run_sizeT hz, hml', add_plain]
        refine Res.pure hr (v' := .slice (some (if m' = l then ⟨j.c, j.off + o, none⟩ else ⟨j.c, j.off + o + l * esz, none⟩)) (h - l) (m' - l)) (by simp only [Sem.run_bind, hrun, Result.andThen_ok, Sem.run_pure]) ?_
        by_cases hml' : m' = l
        · have h0 : m = l ∧ h = l := by rcases r2 with ⟨_, b, c⟩ | ⟨b, c⟩ <;> omega
          obtain ⟨rfl, rfl⟩ := h0
          simp only [hml', if_true, Nat.sub_self]
          exact .sl0 hb
        · rw [if_neg hml']
          have hv := VR.sl (σ := σ) (b := b) (o := o + l * esz) (n := h - l) (k := m - l) (k' := m' - l) (i := j) hb (by omega) (by
            rcases r2 with ⟨q1, q2, q3⟩ | ⟨q1, q2⟩
            · subst q2; subst q3
              rcases hk with hk | ⟨s1, s2, s3, s4⟩
              · left; omega
              · rcases hes with hes | hes
                case inr => rw [hjr, hes] at s1; cases s1
                rw [hes] at hje
                right
                have hsub2 : (m' - l) * j.esz = m' * j.esz - l * j.esz := Nat.sub_mul _ _ _
                have hlm2 : l * j.esz ≤ m' * j.esz := Nat.mul_le_mul_right _ (by omega)
                refine ⟨s1, by omega, by rw [hsub, ← hje]; omega, by rw [hsub2, ← hje]; omega⟩
            · left; omega)
          rw [← Nat.add_assoc] at hv
          exact hv
      · cases hs
    · cases hs


theorem res_faddr (hr : HR ng σ H.get w) {t f : Nat} {fs : Array Field} {fd : Field} (h1 : P.underlying t = some (.struct fs)) (h2 : fs[f]? = some fd) (h3 : ¬ (sizeT P fd.type).getD 0 = 0) {a a' : Value} (ha : VR σ a a') (hs : asem (.faddr fd.offset a) H = some (v, H')) :
    Res ng σ H w ((do pure (Next.value (← Instr.fieldAt t a' f)) : Sem Next).run P w) v H' := by
  simp only [asem] at hs
  split at hs
  · rename_i b o
    cases hs
    cases ha with
    | @ptr _ _ i hb =>
      obtain ⟨n, hn⟩ : ∃ n, sizeT P fd.type = some n := by
        cases hx : sizeT P fd.type with
        | none => rw [hx] at h3; simp at h3
        | some n => exact ⟨n, rfl⟩
      rw [hn] at h3
      refine Res.pure hr (v' := .pointer (some ⟨i.c, i.off + (o + fd.offset), none⟩)) ?_ (.ptr hb)
      have h3' : ¬ n = 0 := by simpa using h3
      simp [Instr.fieldAt, run_underlying h1, h2, Instr.sureAddr, fieldPlace, run_sizeT hn, h3', add_plain, Nat.add_assoc]
  · cases hs

theorem agg_get {cs cs' : Array Value} (h : VR σ (.agg cs) (.agg cs')) : VL σ cs.toList cs'.toList := by
  cases h with
  | agg _ _ h1 h2 => exact VL.of_arr h1 h2

theorem agg_inv {cs : Array Value} {v' : Value} (h : VR σ (.agg cs) v') : ∃ cs', v' = .agg cs' := by cases h; exact ⟨_, rfl⟩
theorem tuple_inv {cs : Array Value} {v' : Value} (h : VR σ (.tuple cs) v') : ∃ cs', v' = .tuple cs' ∧ VL σ cs.toList cs'.toList := by
  cases h with
  | tuple _ _ h1 h2 => exact ⟨_, rfl, VL.of_arr h1 h2⟩

theorem res_fld1 (hr : HR ng σ H.get w) {t f : Nat} {fs : Array Field} {fd : Field} (h1 : P.underlying t = some (.struct fs)) (h2 : fs[f]? = some fd) (h3 : isAggT P fd.type = some false) {a a' : Value} (ha : VR σ a a') (hs : asem (.fld1 fd.offset a) H = some (v, H')) :
    Res ng σ H w ((do pure (Next.value (← Instr.field t a' f)) : Sem Next).run P w) v H' := by
  simp only [asem] at hs
  split at hs
  · rename_i cs
    simp only [Option.map_eq_some_iff, Prod.mk.injEq] at hs
    obtain ⟨u, hu, rfl, rfl⟩ := hs
    obtain ⟨cs', rfl⟩ := agg_inv ha
    obtain ⟨u', e1, e2⟩ := (agg_get ha).get hu
    refine Res.pure hr (v' := u') ?_ e2
    have e1' : cs'[fd.offset]? = some u' := by simpa using e1
    simp [Instr.field, run_underlying h1, h2, part, run_isAgg h3, asAgg, e1']
  · cases hs

theorem res_fldn (hr : HR ng σ H.get w) {t f n : Nat} {fs : Array Field} {fd : Field} (h1 : P.underlying t = some (.struct fs)) (h2 : fs[f]? = some fd) (h3 : isAggT P fd.type = some true) (h4 : sizeT P fd.type = some n) {a a' : Value} (ha : VR σ a a')
    (hs : asem (.fldn fd.offset n a) H = some (v, H')) : Res ng σ H w ((do pure (Next.value (← Instr.field t a' f)) : Sem Next).run P w) v H' := by
  simp only [asem] at hs
  split at hs
  · rename_i cs
    split at hs
    · rename_i hle
      cases hs
      obtain ⟨cs', rfl⟩ := agg_inv ha
      refine Res.pure hr (v' := .agg ((cs'.toList.drop fd.offset).take n).toArray) ?_ (VR.agg_of (((agg_get ha).drop _).take _))
      have : cs'.extract fd.offset (fd.offset + n) = ((cs'.toList.drop fd.offset).take n).toArray := by
        apply Array.ext'
        simp [Array.toList_extract, List.extract_eq_take_drop]
      simp [Instr.field, run_underlying h1, h2, part, run_isAgg h3, run_sizeT h4, asAgg, this]
    · cases hs
  · cases hs

theorem res_iaddr (hr : HR ng σ H.get w) {t e n : Nat} (h1 : P.underlying t = some (.slice e)) (h2 : sizeT P e = some n) {a a' b b' : Value} (ha : VR σ a a') (hb : VR σ b b') (hs : asem (.iaddr n a b) H = some (v, H')) :
    Res ng σ H w ((do pure (Next.value (← Instr.indexAt t a' b')) : Sem Next).run P w) v H' := by
  simp only [asem] at hs
  split at hs
  · rename_i bl o len cap k i
    split at hs
    · rename_i hc
      cases hs
      rw [hb.int_inv]
      cases ha with
      | @sl _ _ _ _ k' j hj _ _ =>
        refine Res.pure hr (v' := .pointer (some ⟨j.c, j.off + (o + i.toNat * n), none⟩)) ?_ (.ptr hj)
        simp [Instr.indexAt, run_underlying h1, asIntOf, hc.1, hc.2, run_sizeT h2, add_plain, Nat.add_assoc]
      | sl0 => simp at hc; omega
      | slz => simp at hc; omega
    · cases hs
  · cases hs

theorem res_idxs (hr : HR ng σ H.get w) {t : Nat} (h1 : P.underlying t = some .string) {a a' b b' : Value} (ha : VR σ a a') (hb : VR σ b b') (hs : asem (.idxs a b) H = some (v, H')) :
    Res ng σ H w ((do pure (Next.value (← Instr.index t a' b')) : Sem Next).run P w) v H' := by
  simp only [asem] at hs
  split at hs
  · rename_i s k i
    split at hs
    · rename_i hc
      simp only [Option.map_eq_some_iff, Prod.mk.injEq] at hs
      obtain ⟨u, hu, rfl, rfl⟩ := hs
      rw [hb.int_inv, ha.str_inv]
      refine Res.pure hr (v' := .int .u8 u.toNat) ?_ (.int _ _)
      have hlt : i.toNat < s.size := by omega
      have e1 : s[i.toNat]? = some u := by
        have hlt' : i.toNat < s.data.size := hlt
        have : s.data[i.toNat]? = some u := by simpa using hu
        rw [Array.getElem?_eq_getElem hlt'] at this
        rw [getElem?_pos s i.toNat hlt]
        exact this
      simp [Instr.index, run_underlying h1, asIntOf, hc.1, e1]
    · cases hs
  · cases hs

theorem res_assert (hr : HR ng σ H.get w) {xt u : Nat} {d : TypeDesc} {z : Value} {ok : Bool} (h1 : P.underlying u = some d) (hd : ∀ ms, d ≠ .interface ms) (hz : zeroT P u = some z) (hzz : VR σ z z) {a a' : Value} (ha : VR σ a a')
    (hs : asem (.assert u z ok a) H = some (v, H')) : Res ng σ H w ((do pure (Next.value (← Instr.typeAssert a' xt u ok)) : Sem Next).run P w) v H' := by
  have hta : ∀ x : Value, Instr.typeAssert x xt u ok = Instr.typeAssert x xt u ok := fun _ => rfl
  simp only [asem] at hs
  split at hs
  · rename_i t x
    cases ha with
    | @iface _ _ x' hx =>
      split at hs
      · rename_i ht
        subst ht
        cases hs
        cases ok
        · refine Res.pure hr (v' := x') ?_ (by simpa using hx)
          cases d <;> first | exact absurd rfl (hd _) | simp [Instr.typeAssert, run_underlying h1]
        · refine Res.pure hr (v' := .tuple #[x', .bool true]) ?_ (VR.tuple_of (.cons hx (.cons (.bool true) .nil)))
          cases d <;> first | exact absurd rfl (hd _) | simp [Instr.typeAssert, run_underlying h1]
      · rename_i ht
        split at hs
        · rename_i hok
          cases hs
          subst hok
          refine Res.pure hr (v' := .tuple #[z, .bool false]) ?_ (VR.tuple_of (.cons hzz (.cons (.bool false) .nil)))
          cases d <;> first | exact absurd rfl (hd _) | simp [Instr.typeAssert, run_underlying h1, ht, run_zeroT hz]
        · cases hs
  · split at hs
    · rename_i hok
      cases hs
      subst hok
      cases ha
      refine Res.pure hr (v' := .tuple #[z, .bool false]) ?_ (VR.tuple_of (.cons hzz (.cons (.bool false) .nil)))
      cases d <;> first | exact absurd rfl (hd _) | simp [Instr.typeAssert, run_underlying h1, run_zeroT hz]
    · cases hs
  · cases hs

theorem res_extract (hr : HR ng σ H.get w) {i : Nat} {a a' : Value} (ha : VR σ a a') (hs : asem (.extract a i) H = some (v, H')) : Res ng σ H w ((do pure (Next.value (← Instr.extract a' i)) : Sem Next).run P w) v H' := by
  simp only [asem] at hs
  split at hs
  · simp only [Option.map_eq_some_iff, Prod.mk.injEq] at hs
    obtain ⟨u, hu, rfl, rfl⟩ := hs
    obtain ⟨cs', rfl, hl⟩ := tuple_inv ha
    obtain ⟨u', e1, e2⟩ := hl.get hu
    refine Res.pure hr (v' := u') ?_ e2
    have e1' : cs'[i]? = some u' := by simpa using e1
    simp [Instr.extract, e1']
  · cases hs

theorem res_len (hr : HR ng σ H.get w) {t ty : Nat} {str : Bool} {d : TypeDesc} (h1 : P.underlying t = some d) (hd : (d = .string ∧ str = true) ∨ ((∃ e, d = .slice e) ∧ str = false)) {a a' : Value} (ha : VR σ a a')
    (hs : asem (.len str a) H = some (v, H')) : Res ng σ H w ((do pure (Next.value (← Builtin.len_ #[t] ty #[a'])) : Sem Next).run P w) v H' := by
  simp only [asem, Option.map_eq_some_iff, Prod.mk.injEq] at hs
  obtain ⟨n, hn, rfl, rfl⟩ := hs
  refine Res.pure hr (v' := .int .i64 n) ?_ (.int _ _)
  unfold lenA at hn
  split at hn
  · cases hn
    rcases hd with ⟨_, h⟩ | ⟨⟨e, rfl⟩, _⟩
    · cases h
    · cases ha <;> simp [Builtin.len_, run_underlying h1, goInt]
  · cases hn
    rcases hd with ⟨rfl, _⟩ | ⟨_, h⟩
    · cases ha; simp [Builtin.len_, run_underlying h1, goInt]
    · cases h
  · cases hn

theorem res_mksl (hr : HR ng σ H.get w) {t e esz bytes : Nat} {z : Value} (h1 : P.underlying t = some (.slice e)) (hz : zeroT P e = some z) (hn : sizeT P e = some esz) (hb : bytesT P e = some bytes) (hzn : z.cells.size = esz) (h0 : 0 < esz) (hp : VL σ z.cells.toList z.cells.toList)
    {a a' b b' : Value} (ha : VR σ a a') (hbv : VR σ b b') (hs : asem (.mksl e esz bytes z.cells.toList a b) H = some (v, H')) : Res ng σ H w ((do pure (Next.value (← Instr.makeSlice t a' b')) : Sem Next).run P w) v H' := by
  simp only [asem] at hs
  split at hs
  · rename_i l c
    split at hs
    · rename_i hc
      obtain ⟨c1, c2, c3, c4, c5, c6⟩ := hc
      cases hs
      rw [ha.int_inv, hbv.int_inv]
      obtain ⟨i, hi, hiz, hin, hib⟩ := info_of hz hn hb
      obtain ⟨ln, rfl⟩ := Int.eq_ofNat_of_zero_le c1
      obtain ⟨cn, rfl⟩ := Int.eq_ofNat_of_zero_le (Int.le_trans c1 c2)
      have hmul : (i.bytes : Int) * (cn : Int) ≤ 281474976710656 := by rw [hib]; omega
      have hrun := run_make (P := P) w t e i z h1 hi hiz .i64 .i64 ln cn (by omega) (by omega) hmul (by omega)
      have hvl : ∀ m : Nat, VL σ (List.replicate m z.cells.toList).flatten (List.replicate m z.cells.toList).flatten := by
        intro m
        induction m with
        | zero => simp; exact .nil
        | succ m ih => simpa [List.replicate_succ] using hp.append ih
      have hone : ∀ u ∈ (List.replicate cn z.cells.toList).flatten, u.oneCell' = true := by
        intro u hu
        simp only [List.mem_flatten, List.mem_replicate] at hu
        obtain ⟨l, ⟨_, rfl⟩, hu⟩ := hu
        exact List.all_eq_true.1 c6 u hu
      obtain ⟨e1, e2⟩ := new_block hr (e := e) (room := false) (esz := esz) (hvl cn) hone
      have hcell : madeCells z.cells ((cn : Int).toNat * i.size) = (List.replicate cn z.cells.toList).flatten.toArray := by
        rw [hin]
        apply Array.ext'
        simp only [madeCells, Array.toList_map, Array.toList_range, Int.toNat_natCast]
        exact range_mod z.cells esz hzn cn
      refine ⟨_, .slice (some ⟨w.heap.size, 0, none⟩) ln cn, _, _, ?_, .inl rfl, e1, e2, ?_⟩
      · simp only [Sem.run_bind]
        rw [hrun, hcell]
        simp
      · have hi : (σ.up H.n ⟨w.heap.size, 0, (List.replicate cn z.cells.toList).flatten.length, (List.replicate cn z.cells.toList).flatten.length, esz, false⟩) H.n = some _ := Sg.up_same _ _ _
        have hlen : (List.replicate cn z.cells.toList).flatten.length = cn * esz := by simp [hzn]
        exact VR.sl hi (by simp; omega) (.inl rfl)
    · cases hs
  · cases hs

end
end Go.AM
