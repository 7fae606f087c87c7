/- Part of the proof. -/
import Derived.Test.YtfneppahknoaoaaDoorGLB02
import Derived.Laws.Externs
set_option linter.unusedSimpArgs false
set_option linter.unusedVariables false
set_option linter.unusedSimpArgs false
set_option linter.unusedVariables false
namespace Go.AM
section
variable {P : Program} {G : Gf} {t e : TypeId} {v : Value} {cs : List Value}
theorem AR.int_inv {k : IntKind} (hu : P.underlying t = some (.int k)) (h : AR P G t cs) : ∃ n, cs = [.int k n] ∧ (Lit.int k n).wf = true := by
  cases h with
  | int h hw => rw [hu] at h; cases h; exact ⟨_, rfl, hw⟩
  | bool h => rw [hu] at h; cases h
  | str h _ => rw [hu] at h; cases h
  | nil h => rw [hu] at h; cases h
  | zero h _ => rw [hu] at h; cases h
  | sl h => rw [hu] at h; cases h
  | struct h _ => rw [hu] at h; cases h
  | array h _ => rw [hu] at h; cases h
theorem AR.bool_inv (hu : P.underlying t = some .bool) (h : AR P G t cs) : ∃ b, cs = [.bool b] := by
  cases h with
  | int h hw => rw [hu] at h; cases h
  | bool h => exact ⟨_, rfl⟩
  | str h _ => rw [hu] at h; cases h
  | nil h => rw [hu] at h; cases h
  | zero h _ => rw [hu] at h; cases h
  | sl h => rw [hu] at h; cases h
  | struct h _ => rw [hu] at h; cases h
  | array h _ => rw [hu] at h; cases h
theorem AR.str_inv (hu : P.underlying t = some .string) (h : AR P G t cs) : ∃ s : ByteArray, cs = [.string s] ∧ s.size ≤ maxLen ∧ s.size ≤ reachBytes := by
  cases h with
  | int h hw => rw [hu] at h; cases h
  | bool h => rw [hu] at h; cases h
  | str h hs => exact ⟨_, rfl, hs⟩
  | nil h => rw [hu] at h; cases h
  | zero h _ => rw [hu] at h; cases h
  | sl h => rw [hu] at h; cases h
  | struct h _ => rw [hu] at h; cases h
  | array h _ => rw [hu] at h; cases h
theorem AR.slice_inv (hu : P.underlying t = some (.slice e)) (h : AR P G t cs) : cs = [.slice none 0 0] ∨ (∃ x : Addr, x.spot.isSome = true ∧ cs = [.slice (some x) 0 0]) ∨
    ∃ b n k c u, cs = [slc b 0 n k] ∧ 0 < k ∧ n ≤ k ∧ (k ≤ maxLen ∧ k * P.bytesOf e ≤ reachBytes) ∧ G b = some (.cells false false (P.cellsOf e) c u) ∧ c.length = k * P.cellsOf e ∧ ∀ i, i < k → AR P G e ((c.drop (i * P.cellsOf e)).take (P.cellsOf e)) := by
  cases h with
  | int h hw => rw [hu] at h; cases h
  | bool h => rw [hu] at h; cases h
  | str h hs => rw [hu] at h; cases h
  | nil h => exact .inl rfl
  | zero h hx => exact .inr (.inl ⟨_, hx, rfl⟩)
  | sl h a b c d e f => rw [hu] at h; cases h; exact .inr (.inr ⟨_, _, _, _, _, rfl, a, b, c, d, e, f⟩)
  | struct h _ => rw [hu] at h; cases h
  | array h _ => rw [hu] at h; cases h
theorem AV.one (ha : isAggT P t = some false) (h : AV P G t v) : v.cells.toList = [v] := by
  rw [cells_one (h.2.2 ha)]
theorem AV.int_inv {k : IntKind} (hu : P.underlying t = some (.int k)) (h : AV P G t v) : ∃ n, v = .int k n ∧ (Lit.int k n).wf = true := by
  have h1 := h.one (by unfold isAggT; rw [hu]; rfl)
  obtain ⟨n, h2, h3⟩ := h.1.int_inv hu
  rw [h1] at h2
  exact ⟨n, by simpa using h2, h3⟩
theorem AV.bool_inv (hu : P.underlying t = some .bool) (h : AV P G t v) : ∃ b, v = .bool b := by
  have h1 := h.one (by unfold isAggT; rw [hu]; rfl)
  obtain ⟨n, h2⟩ := h.1.bool_inv hu
  rw [h1] at h2
  exact ⟨n, by simpa using h2⟩
theorem AV.str_inv (hu : P.underlying t = some .string) (h : AV P G t v) : ∃ s : ByteArray, v = .string s ∧ s.size ≤ maxLen ∧ s.size ≤ reachBytes := by
  have h1 := h.one (by unfold isAggT; rw [hu]; rfl)
  obtain ⟨n, h2, h3⟩ := h.1.str_inv hu
  rw [h1] at h2
  exact ⟨n, by simpa using h2, h3⟩
theorem AV.slice_inv (hu : P.underlying t = some (.slice e)) (h : AV P G t v) : v = .slice none 0 0 ∨ (∃ x : Addr, x.spot.isSome = true ∧ v = .slice (some x) 0 0) ∨
    ∃ b n k c u, v = slc b 0 n k ∧ 0 < k ∧ n ≤ k ∧ (k ≤ maxLen ∧ k * P.bytesOf e ≤ reachBytes) ∧ G b = some (.cells false false (P.cellsOf e) c u) ∧ c.length = k * P.cellsOf e ∧ ∀ i, i < k → AR P G e ((c.drop (i * P.cellsOf e)).take (P.cellsOf e)) := by
  have h1 := h.one (by unfold isAggT; rw [hu]; rfl)
  rcases h.1.slice_inv hu with h2 | ⟨x, hx, h2⟩ | ⟨b, n, k, c, u, h2, h3⟩
  · rw [h1] at h2; exact .inl (by simpa using h2)
  · rw [h1] at h2; exact .inr (.inl ⟨x, hx, by simpa using h2⟩)
  · rw [h1] at h2; exact .inr (.inr ⟨b, n, k, c, u, by simpa using h2, h3⟩)
theorem AR.bytes (hu : P.underlying e = some (.int .u8)) (hz : P.cellsOf e = 1) : ∀ (k : Nat) (c : List Value), c.length = k * P.cellsOf e → (∀ i, i < k → AR P G e ((c.drop (i * P.cellsOf e)).take (P.cellsOf e))) → ∃ l : List UInt8, c = cellsOf l
  | 0, c, hc, _ => ⟨[], List.eq_nil_of_length_eq_zero (by simpa using hc)⟩
  | k + 1, c, hc, h => by
    rw [hz] at hc h
    match c, hc with
    | x :: c, hc =>
      obtain ⟨n, h1, h2⟩ := (h 0 (by omega)).int_inv hu
      simp at h1
      obtain ⟨l, hl⟩ := AR.bytes hu hz k c (by rw [hz]; simpa using hc) (fun i hi => by
        have := h (i + 1) (by omega)
        rw [hz]
        simpa using this)
      simp only [Lit.wf, Bool.and_eq_true, decide_eq_true_eq, IntKind.min, IntKind.max, IntKind.signed, IntKind.bits] at h2
      obtain ⟨m, rfl⟩ : ∃ m : Nat, n = m := ⟨n.toNat, by simp at h2; omega⟩
      refine ⟨UInt8.ofNat m :: l, ?_⟩
      have hm : m % 256 = m := by simp at h2; omega
      simp [cellsOf, h1, hl, hm]
theorem AR.bs (hu : P.underlying t = some (.slice e)) (he : P.underlying e = some (.int .u8)) (hz : P.cellsOf e = 1) {H : AHeap} {v : Value} (h : AR P H.get t [v]) : ∃ l : List UInt8, BS H v l := by
  rcases h.slice_inv hu with h2 | ⟨x, hx, h2⟩ | ⟨b, n, k, c, u, h2, h3, h4, h5, h6, h7, h8⟩
  · cases h2; exact ⟨[], BS.nil H⟩
  · cases h2
    refine ⟨[], ⟨⟨_, _, rfl⟩, ?_⟩⟩
    obtain ⟨b, o, s⟩ := x
    cases s with
    | none => simp at hx
    | some s => simp [elemsA, cellsOf]
  · cases h2
    obtain ⟨l, rfl⟩ := AR.bytes he hz k c h7 h8
    rw [cellsOf_length, hz] at h7
    refine ⟨l.take n, ⟨⟨some ⟨b, 0, none⟩, k, ?_⟩, ?_⟩⟩
    · rw [List.length_take, Nat.min_eq_left (by omega)]; rfl
    · simp only [elemsA, slc, h6]
      rw [if_pos (by rw [cellsOf_length]; omega), List.drop_zero, Nat.mul_one]
      simp [cellsOf, List.map_take]
theorem AV.bs (hu : P.underlying t = some (.slice e)) (he : P.underlying e = some (.int .u8)) (hz : P.cellsOf e = 1) {H : AHeap} {v : Value} (h : AV P H.get t v) : ∃ l : List UInt8, BS H v l := by
  have h1 := h.one (by unfold isAggT; rw [hu]; rfl)
  have := h.1
  rw [h1] at this
  exact this.bs hu he hz
end
end Go.AM

set_option linter.unusedSimpArgs false
set_option linter.unusedVariables false
namespace Go.AM
section
variable {P : Program} {ng : Nat} {H : AHeap} {Q : AQ} {fr tm : List Value}
theorem W_loop2 {c : ACode} (I : Nat → List Value → AHeap → Prop) (n : Nat) (h0 : I n fr H)
    (hs : ∀ (Q' : AQ) (k : Nat) (fr : List Value) (H : AHeap), I k fr H → (∀ k' fr H, I k' fr H → k' < k → Q' .normal fr H) → (∀ i fr H, Q (.exit i) fr H → Q' (.exit i) fr H) → (∀ fr H, Q .ret fr H → Q' .ret fr H) → W P ng c Q' fr H) : W P ng (.loop c) Q fr H :=
  ⟨I, n, h0, fun k fr H hI => hs _ k fr H hI (fun k' fr H h1 h2 => ⟨k', h2, h1⟩) (fun _ _ _ h => h) (fun _ _ h => h)⟩
theorem alloc_set (H : AHeap) (o o' : AO) : (H.alloc o).set H.n o' = H.alloc o' := by
  simp [AHeap.alloc, AHeap.set]
theorem bytes_eq (p q : List UInt8) : decide ((⟨p.toArray⟩ : ByteArray) = ⟨q.toArray⟩) = decide (p = q) := by
  rw [bstr_eq, bEq_eq]
end
set_option linter.defProp false in
def ANs := (And.intro (And.intro (And.intro (And.intro (And.intro (And.intro (And.intro @W_skip @W_reg) (And.intro @W_seq (And.intro @w_cond @cond_true))) (And.intro (And.intro @cond_false (And.intro @W_exit @W_ret)) (And.intro @W_dreg (And.intro @r_nil @r_cons)))) (And.intro (And.intro (And.intro @r_consg (And.intro @gd_true @gd_false)) (And.intro @go_some (And.intro @st_call @st_callv))) (And.intro (And.intro @d_nil (And.intro @d_cons @d_consg)) (And.intro @gdD_true (And.intro @gdD_false @goD_some))))) (And.intro (And.intro (And.intro (And.intro @goD_some' @stD_call) (And.intro @st_mov (And.intro @st_pick @st_new))) (And.intro (And.intro @st_box (And.intro @st_build @st_bslice)) (And.intro @st_load1 (And.intro @st_loadn @st_store1)))) (And.intro (And.intro (And.intro @st_storen (And.intro @st_nilck @st_bin)) (And.intro @st_eqv (And.intro @st_un @st_i2i))) (And.intro (And.intro @st_s2s (And.intro @st_s2b @st_b2s)) (And.intro @st_iface (And.intro @st_mkfn @st_mksl)))))) (And.intro (And.intro (And.intro (And.intro (And.intro @st_slstr @st_slsl) (And.intro @st_faddr (And.intro @st_fld1 @st_fldn))) (And.intro (And.intro @st_iaddr (And.intro @st_idxs @st_assert)) (And.intro @st_extract (And.intro @st_len @st_mark)))) (And.intro (And.intro (And.intro @sd_pick (And.intro @sd_new @sd_box)) (And.intro @sd_build (And.intro @sd_bslice @sd_load1))) (And.intro (And.intro @sd_loadn (And.intro @sd_store1 @sd_storen)) (And.intro @sd_nilck (And.intro @sd_bin @sd_eqv))))) (And.intro (And.intro (And.intro (And.intro @sd_un @sd_i2i) (And.intro @sd_s2s (And.intro @sd_s2b @sd_b2s))) (And.intro (And.intro @sd_iface (And.intro @sd_mkfn @sd_mksl)) (And.intro @sd_slstr (And.intro @sd_slsl @sd_faddr)))) (And.intro (And.intro (And.intro @sd_fld1 (And.intro @sd_fldn @sd_iaddr)) (And.intro @sd_idxs (And.intro @sd_assert @sd_extract))) (And.intro (And.intro @sd_len (And.intro @sd_mark @sd_mov)) (And.intro @a_mov (And.intro @a_pick @a_new))))))) (And.intro (And.intro (And.intro (And.intro (And.intro (And.intro @a_box @a_build) (And.intro @a_load1 (And.intro @a_loadn @a_nilck))) (And.intro (And.intro @a_bin (And.intro @a_eqv @a_not)) (And.intro @a_neg (And.intro @a_i2i @a_s2s)))) (And.intro (And.intro (And.intro @a_s2b (And.intro @a_iface @a_mkfn)) (And.intro @a_faddr (And.intro @a_fld1 @a_iaddr))) (And.intro (And.intro @a_assert (And.intro @a_extract @a_len)) (And.intro @a_lenc (And.intro @a_lens @AX_fr))))) (And.intro (And.intro (And.intro (And.intro @AX_tm @AX_c) (And.intro @AX_fn (And.intro @AX_g @D_no))) (And.intro (And.intro @D_no' (And.intro @D_tm @D_tm')) (And.intro @D_fr (And.intro @D_fr' @getD_nil')))) (And.intro (And.intro (And.intro @want_x (And.intro @bi_tt @bi_tf)) (And.intro @bi_ft (And.intro @bi_ff @pk_t))) (And.intro (And.intro @pk_f (And.intro @resO0 @resO1)) (And.intro @resO2 (And.intro @resO3 @e_sn)))))) (And.intro (And.intro (And.intro (And.intro (And.intro @e_ss @e_pn) (And.intro @e_ps (And.intro @e_bb @fill0))) (And.intro (And.intro @fill1 (And.intro @b_add @b_sub)) (And.intro @b_mul (And.intro @b_eql @b_neq)))) (And.intro (And.intro (And.intro @b_lss (And.intro @b_leq @b_gtr)) (And.intro @b_geq (And.intro @b_and @b_or))) (And.intro (And.intro @b_xor (And.intro @b_seql @b_sneq)) (And.intro @b_slss (And.intro @at_n @at_e))))) (And.intro (And.intro (And.intro (And.intro @at_r (And.intro @ib_n @ib_r)) (And.intro @ib_e (And.intro @ib_x @one_int))) (And.intro (And.intro @one_bool (And.intro @one_str @one_sl)) (And.intro @one_slc (And.intro @one_ptr @one_pn)))) (And.intro (And.intro (And.intro @one_if (And.intro @one_map @bnd_none)) (And.intro @o_int (And.intro @o_bool @o_str))) (And.intro (And.intro @o_sl (And.intro @o_slc @o_ptr)) (And.intro @o_pn (And.intro @o_if @o_map))))))))
set_option linter.defProp false in
def ANc := (And.intro (And.intro (And.intro (And.intro (And.intro @List.getD_cons_zero.{0} @List.getD_cons_succ.{0}) (And.intro @List.set_cons_zero.{0} @List.set_cons_succ.{0})) (And.intro (And.intro @List.map_cons.{0,0} @List.map_nil.{0,0}) (And.intro @Option.map_some.{0,0} (And.intro @Option.map_none.{0,0} @beq_self_eq_true.{0})))) (And.intro (And.intro (And.intro @if_true.{1} @if_true.{0}) (And.intro @Bool.false_eq_true @if_false.{1})) (And.intro (And.intro @if_false.{0} @Bool.not_true) (And.intro @Bool.not_false (And.intro @Nat.add_zero @Nat.zero_add))))) (And.intro (And.intro (And.intro (And.intro @Nat.mul_one @Int.toNat_natCast) (And.intro @List.getElem?_cons_zero.{0} @List.getElem?_cons_succ.{0})) (And.intro (And.intro @true_and @and_true) (And.intro @false_and (And.intro @Exit.exit.injEq @Bool.true_beq)))) (And.intro (And.intro (And.intro @Bool.false_beq @beq_true) (And.intro @beq_false (And.intro @List.length_cons.{0} @List.length_nil.{0}))) (And.intro (And.intro @List.all_cons.{0} @List.all_nil.{0}) (And.intro @Bool.and_true (And.intro @Bool.true_and @and_self))))))
end Go.AM

set_option linter.unusedSimpArgs false
set_option linter.unusedVariables false
namespace Go.AM
section
variable {P : Program} {ng : Nat} {H H' : AHeap} {Q : AQ} {fr tm : List Value}
def cellO (g : Option AO) (o : Nat) : Option Value := match g with
  | some (.cells _ _ _ c _) => c[o]?
  | _ => none
def rangeO (g : Option AO) (o n : Nat) : Option (List Value) := match g with
  | some (.cells _ _ _ c _) => if o + n ≤ c.length then some ((c.drop o).take n) else none
  | _ => none
theorem cellA_e (H : AHeap) (b o : Nat) : cellA H b o = cellO (H.get b) o := by unfold cellA cellO; rfl
theorem rangeA_e (H : AHeap) (b o n : Nat) : rangeA H b o n = rangeO (H.get b) o n := by unfold rangeA rangeO; rfl
theorem cellO_c (own room : Bool) (esz e : Nat) (c : List Value) (o : Nat) : cellO (some (.cells own room esz c e)) o = c[o]? := _root_.id rfl
theorem rangeO_c (own room : Bool) (esz e : Nat) (c : List Value) (o n : Nat) : rangeO (some (.cells own room esz c e)) o n = if o + n ≤ c.length then some ((c.drop o).take n) else none := _root_.id rfl
def st1O (H : AHeap) (b o : Nat) (x : Value) (g : Option AO) : Option (Value × AHeap) := match g with
  | some (.cells true room esz c e) => if o < c.length ∧ x.oneCell' = true then some (undef, H.set b (.cells true room esz (c.set o x) e)) else none
  | _ => none
def stnO (H : AHeap) (b o n : Nat) (x : List Value) (g : Option AO) : Option (Value × AHeap) := match g with
  | some (.cells true room esz c e) => if o + n ≤ c.length ∧ x.length = n ∧ x.all Value.oneCell' = true then some (undef, H.set b (.cells true room esz (c.take o ++ x ++ c.drop (o + n)) e)) else none
  | _ => none
theorem a_store1e (H : AHeap) (b o : Nat) (x : Value) : asem (.store1 (ptr b o) x) H = st1O H b o x (H.get b) := by
  unfold st1O
  rfl
theorem a_storene (H : AHeap) (b o n : Nat) (x : Value) : asem (.storen n (ptr b o) x) H = stnO H b o n x.cells.toList (H.get b) := by
  unfold stnO
  rfl
theorem st1O_c (b o : Nat) (x : Value) (room : Bool) (esz e : Nat) (c : List Value) : st1O H b o x (some (.cells true room esz c e)) = if o < c.length ∧ x.oneCell' = true then some (undef, H.set b (.cells true room esz (c.set o x) e)) else none := by
  unfold st1O; rfl
theorem stnO_c (b o n : Nat) (x : List Value) (room : Bool) (esz e : Nat) (c : List Value) : stnO H b o n x (some (.cells true room esz c e)) = if o + n ≤ c.length ∧ x.length = n ∧ x.all Value.oneCell' = true then some (undef, H.set b (.cells true room esz (c.take o ++ x ++ c.drop (o + n)) e)) else none := by
  unfold stnO; rfl
theorem rng_full {own room : Bool} {esz e n : Nat} {c : List Value} (h : c.length = n) : rangeO (some (.cells own room esz c e)) 0 n = some c := by
  rw [rangeO_c, if_pos (by omega), List.drop_zero, List.take_of_length_le (by omega)]
theorem rng_part {own room : Bool} {esz e o n : Nat} {c : List Value} (h : c.length ≠ n) : rangeO (some (.cells own room esz c e)) o n = if o + n ≤ c.length then some ((c.drop o).take n) else none := rangeO_c ..
theorem stn_full {b n : Nat} {x : List Value} {room : Bool} {esz e : Nat} {c : List Value} (h : c.length = n) : stnO H b 0 n x (some (.cells true room esz c e)) = if x.length = n ∧ x.all Value.oneCell' = true then some (undef, H.set b (.cells true room esz x e)) else none := by
  rw [stnO_c]
  by_cases hx : x.length = n ∧ x.all Value.oneCell' = true
  · rw [if_pos ⟨by omega, hx⟩, if_pos hx, List.take_zero, List.nil_append, List.drop_of_length_le (by omega), List.append_nil]
  · rw [if_neg (fun h => hx h.2), if_neg hx]
theorem stn_part {b o n : Nat} {x : List Value} {room : Bool} {esz e : Nat} {c : List Value} (h : c.length ≠ n) : stnO H b o n x (some (.cells true room esz c e)) = if o + n ≤ c.length ∧ x.length = n ∧ x.all Value.oneCell' = true then some (undef, H.set b (.cells true room esz (c.take o ++ x ++ c.drop (o + n)) e)) else none := stnO_c ..
theorem cells_agg (l : List Value) : (Value.agg l.toArray).cells.toList = l := by simp [Value.cells]
theorem toList_arr (l : List Value) : l.toArray.toList = l := by simp
theorem size_arr (l : List Value) : l.toArray.size = l.length := by simp
theorem g_new {b : Nat} (o : AO) (h : b = H.n) : (H.alloc o).get b = some o := by subst h; exact AHeap.get_alloc_new H o
theorem g_old {b : Nat} (o : AO) (h : b < H.n) : (H.alloc o).get b = H.get b := AHeap.get_alloc_old H o h
theorem g_set (b : Nat) (o : AO) : (H.set b o).get b = (H.get b).map fun _ => o := by
  by_cases hb : b < H.n
  · by_cases h : H.n - 1 - b < H.l.length
    · simp [AHeap.get, AHeap.set, hb, h]
    · simp only [AHeap.get, AHeap.set, hb, if_true, List.getElem?_eq_none (Nat.le_of_not_lt h), Option.map_none]
      exact List.getElem?_eq_none (by simpa using Nat.le_of_not_lt h)
  · simp [AHeap.get, AHeap.set, hb]
theorem g_sets {b b' : Nat} (o : AO) (h : b' ≠ b) (h2 : b < H.n) : (H.set b o).get b' = H.get b' := AHeap.get_set_other H h h2 o
theorem set_new {b : Nat} (o o' : AO) (h : b = H.n) : (H.alloc o).set b o' = H.alloc o' := by subst h; exact alloc_set H o o'
theorem set_old {b : Nat} (o o' : AO) (h : b < H.n) : (H.alloc o).set b o' = (H.set b o').alloc o := by
  simp only [AHeap.alloc, AHeap.set, show H.n + 1 - 1 - b = (H.n - 1 - b) + 1 by omega, List.set_cons_succ]
theorem set_set (b : Nat) (o o' : AO) : (H.set b o).set b o' = H.set b o' := by simp [AHeap.set]
theorem lt_yes {a b : Nat} (h : a < b) : (a < b) = True := by simp [h]
theorem le_yes {a b : Nat} (h : a ≤ b) : (a ≤ b) = True := by simp [h]
theorem eqn_yes {a b : Nat} (h : a = b) : (a = b) = True := by simp [h]
theorem lti_yes {a b : Int} (h : a < b) : (a < b) = True := by simp [h]
theorem lei_yes {a b : Int} (h : a ≤ b) : (a ≤ b) = True := by simp [h]
theorem lti_no {a b : Int} (h : ¬ a < b) : (a < b) = False := by simp [h]
theorem lei_no {a b : Int} (h : ¬ a ≤ b) : (a ≤ b) = False := by simp [h]
theorem beqi_no {a b : Int} (h : ¬ a = b) : (a == b) = false := by simp [h]
theorem beqi_yes {a b : Int} (h : a = b) : (a == b) = true := by simp [h]
theorem bnei_no {a b : Int} (h : a = b) : (a != b) = false := by simp [h]
theorem bnei_yes {a b : Int} (h : ¬ a = b) : (a != b) = true := by simp [h]
theorem bi_u (b : Bool) : boolIs undef b = false := by cases b <;> rfl
theorem boolIs_t (b : Bool) : boolIs (.bool b) true = b := by cases b <;> rfl
theorem boolIs_f (b : Bool) : boolIs (.bool b) false = !b := by cases b <;> rfl
theorem callK {f : FuncId} {xs : List Value} {R K : Value → AHeap → Prop} (h : ∃ v H', ARun P ng f xs H v H' ∧ R v H') (k : ∀ v H', R v H' → K v H') : ∃ v H', ARun P ng f xs H v H' ∧ K v H' := by
  obtain ⟨v, H', h1, h2⟩ := h; exact ⟨v, H', h1, k v H' h2⟩
theorem Chg1.get {r : Nat} (c : Chg [r] H H') {b : Nat} (h1 : b < H.n) (h2 : b ≠ r) : H'.get b = H.get b := c.get b h1 (by simpa using h2)
theorem Chg2.get {r s : Nat} (c : Chg [r, s] H H') {b : Nat} (h1 : b < H.n) (h2 : b ≠ r) (h3 : b ≠ s) : H'.get b = H.get b := c.get b h1 (by simp [h2, h3])
def bn (v : Value) : Nat := match blk v with
  | some b => b + 1
  | none => 0
def elP (v : Value) (esz j off : Nat) : Value := match v with
  | .slice (some ⟨b, o, none⟩) _ _ => ptr b (o + j * esz + off)
  | _ => undef
def nnS (v : Value) : Bool := match v with
  | .slice (some ⟨_, _, none⟩) _ _ => true
  | _ => false
def lenS (v : Value) : Nat := match v with
  | .slice _ n _ => n
  | _ => 0
def isS (v : Value) : Bool := match v with
  | .slice _ _ _ => true
  | _ => false
def rowA (H : AHeap) (esz : Nat) (v : Value) (j : Nat) : Option (List Value) := match v with
  | .slice (some ⟨b, o, none⟩) _ _ => rangeA H b (o + j * esz) esz
  | _ => none
theorem nnS_inv {v : Value} (h : nnS v = true) : ∃ b o n k, v = slc b o n k := by
  unfold nnS at h
  split at h
  · exact ⟨_, _, _, _, rfl⟩
  · cases h
theorem isS_inv {v : Value} (h : isS v = true) : ∃ a n k, v = .slice a n k := by
  unfold isS at h
  split at h
  · exact ⟨_, _, _, rfl⟩
  · cases h
theorem a_lenv {v : Value} (h : isS v = true) : asem (.len false v) H = some (.int .i64 (lenS v), H) := by
  obtain ⟨a, n, k, rfl⟩ := isS_inv h; rfl
theorem a_iaddrv {v : Value} {esz : Nat} {kd : IntKind} {i : Int} (h : nnS v = true) (h1 : 0 ≤ i) (h2 : i < (lenS v : Int)) : asem (.iaddr esz v (.int kd i)) H = some (elP v esz i.toNat 0, H) := by
  obtain ⟨b, o, n, k, rfl⟩ := nnS_inv h
  rw [a_iaddr, if_pos ⟨h1, h2⟩]; rfl
theorem a_faddrv {v : Value} {esz j off d : Nat} (h : nnS v = true) : asem (.faddr d (elP v esz j off)) H = some (elP v esz j (off + d), H) := by
  obtain ⟨b, o, n, k, rfl⟩ := nnS_inv h
  show asem (.faddr d (ptr b (o + j * esz + off))) H = _
  rw [a_faddr, Nat.add_assoc]; rfl
theorem rowA_range {v : Value} {esz j : Nat} {r : List Value} (h : rowA H esz v j = some r) : ∃ b o n k, v = slc b o n k ∧ r.length = esz ∧ ∃ own room z c e, H.get b = some (.cells own room z c e) ∧ o + j * esz + esz ≤ c.length ∧ r = (c.drop (o + j * esz)).take esz := by
  unfold rowA at h
  split at h
  · rename_i b o n k
    refine ⟨b, o, n, k, rfl, ?_⟩
    unfold rangeA at h
    split at h
    · rename_i own room z c e hg
      split at h
      · rename_i hl
        simp only [Option.some.injEq] at h; subst h
        exact ⟨by rw [List.length_take, List.length_drop]; omega, own, room, z, c, e, hg, hl, rfl⟩
      · cases h
    · cases h
  · cases h
theorem a_load1v {v : Value} {esz j off : Nat} {r : List Value} (h : rowA H esz v j = some r) (ho : off < esz) : asem (.load1 (elP v esz j off)) H = r[off]?.map fun x => (x, H) := by
  obtain ⟨b, o, n, k, rfl, h1, own, room, z, c, e, h2, h3, h4⟩ := rowA_range h
  show asem (.load1 (ptr b (o + j * esz + off))) H = _
  rw [a_load1, cellA_of h2, h4, List.getElem?_take_of_lt ho, List.getElem?_drop]
theorem a_loadnv {v : Value} {esz j off n : Nat} {r : List Value} (h : rowA H esz v j = some r) (ho : off + n ≤ esz) : asem (.loadn n (elP v esz j off)) H = some (.agg ((r.drop off).take n).toArray, H) := by
  obtain ⟨b, o, n', k, rfl, h1, own, room, z, c, e, h2, h3, h4⟩ := rowA_range h
  show asem (.loadn n (ptr b (o + j * esz + off))) H = _
  rw [a_loadn, rangeA_of h2, if_pos (by omega), h4, List.drop_take, List.take_take, List.drop_drop, Nat.min_eq_left (by omega)]
  rfl
theorem a_loadnvf {v : Value} {n j : Nat} {r : List Value} (h : rowA H n v j = some r) : asem (.loadn n (elP v n j 0)) H = some (.agg r.toArray, H) := by
  obtain ⟨_, _, _, _, _, hl, _⟩ := rowA_range h
  rw [a_loadnv h (by omega), List.drop_zero, List.take_of_length_le (by omega)]
theorem a_loadnvp {v : Value} {esz j off n : Nat} {r : List Value} (hne : n ≠ esz) (h : rowA H esz v j = some r) (ho : off + n ≤ esz) : asem (.loadn n (elP v esz j off)) H = some (.agg ((r.drop off).take n).toArray, H) := a_loadnv h ho
theorem stD_callv {KF : List Value → AHeap → Prop} {tr : List TE} (g : FuncId) (first cap : Array Value) (xs : List Value) (d : D) (un : List Nat) (r : List (AOper × List Nat)) : stD P ng (.callv (.func (.func g) first cap) xs) d un r fr tm H tr KF = callD P ng g (first.toList ++ xs ++ cap.toList) d un r fr tm H tr KF := _root_.id rfl
theorem reads_el {v : Value} {esz j off : Nat} (h : nnS v = true) : readsA (.load1 (elP v esz j off)) = [bn v - 1] := by
  obtain ⟨b, o, n', k, rfl⟩ := nnS_inv h; rfl
theorem readsn_el {v : Value} {esz j off n : Nat} (h : nnS v = true) : readsA (.loadn n (elP v esz j off)) = [bn v - 1] := by
  obtain ⟨b, o, n', k, rfl⟩ := nnS_inv h; rfl
theorem rowA_get {esz : Nat} {v : Value} {j : Nat} (h : ∀ b, blk v = some b → H'.get b = H.get b) : rowA H' esz v j = rowA H esz v j := by
  unfold rowA
  split
  · rename_i b o n k
    rw [rangeA_e, rangeA_e, h b rfl]
  · rfl
theorem bn_lt {v : Value} {n b : Nat} (h : bn v ≤ n) (e : blk v = some b) : b < n := by
  unfold bn at h; rw [e] at h; exact h
theorem row_alloc {esz : Nat} {v : Value} {j : Nat} (o : AO) (h : bn v ≤ H.n) : rowA (H.alloc o) esz v j = rowA H esz v j := rowA_get fun b e => g_old o (bn_lt h e)
theorem row_set {esz : Nat} {v : Value} {j b : Nat} (o : AO) (h : bn v ≠ b + 1) (hb : b < H.n) : rowA (H.set b o) esz v j = rowA H esz v j := rowA_get fun x e => g_sets o (by intro hx; subst hx; apply h; unfold bn; rw [e]) hb
theorem Keeps.row (k : Keeps H H') {esz : Nat} {v : Value} {j : Nat} (h : bn v ≤ H.n) : rowA H' esz v j = rowA H esz v j := rowA_get fun b e => k.get b (bn_lt h e)
theorem Chg1.row {r : Nat} (k : Chg [r] H H') {esz : Nat} {v : Value} {j : Nat} (h : bn v ≤ H.n) (h2 : bn v ≠ r + 1) : rowA H' esz v j = rowA H esz v j := rowA_get fun b e => Chg1.get k (bn_lt h e) (by intro hx; subst hx; apply h2; unfold bn; rw [e])
structure Sl (H : AHeap) (esz : Nat) (v : Value) (rows : List (List Value)) : Prop where
  sh : ∃ a k, v = .slice a rows.length k
  row : ∀ r ∈ rows, r.length = esz
  el : elemsA H esz v = some rows.flatten
theorem Sl.len {esz : Nat} {v : Value} {rows : List (List Value)} (h : Sl H esz v rows) : lenS v = rows.length := by
  obtain ⟨a, k, rfl⟩ := h.sh; rfl
theorem Sl.is {esz : Nat} {v : Value} {rows : List (List Value)} (h : Sl H esz v rows) : isS v = true := by
  obtain ⟨a, k, rfl⟩ := h.sh; rfl
theorem Sl.one {esz : Nat} {v : Value} {rows : List (List Value)} (h : Sl H esz v rows) : v.oneCell' = true := by
  obtain ⟨a, k, rfl⟩ := h.sh; rfl
theorem Sl.nil (H : AHeap) (esz : Nat) : Sl H esz (.slice none 0 0) [] := ⟨⟨_, _, rfl⟩, by simp, rfl⟩
theorem flat_len {esz : Nat} : ∀ {rows : List (List Value)}, (∀ r ∈ rows, r.length = esz) → rows.flatten.length = rows.length * esz
  | [], _ => by simp
  | r :: rows, h => by
    have h1 := h r (by simp)
    have h2 := flat_len (rows := rows) (fun x hx => h x (by simp [hx]))
    rw [List.flatten_cons, List.length_append, h1, h2, List.length_cons, Nat.add_mul]; omega
theorem flat_at {esz : Nat} : ∀ {rows : List (List Value)}, (∀ r ∈ rows, r.length = esz) → ∀ (i : Nat) (hi : i < rows.length), (rows.flatten.drop (i * esz)).take esz = rows[i]
  | r :: rows, h, 0, _ => by
    have h1 := h r (by simp)
    rw [Nat.zero_mul, List.drop_zero, List.flatten_cons, List.take_append_of_le_length (by omega), List.take_of_length_le (by omega)]; rfl
  | r :: rows, h, i + 1, hi => by
    have h1 := h r (by simp)
    have h2 := flat_at (rows := rows) (fun x hx => h x (by simp [hx])) i (by simpa using hi)
    rw [Nat.add_mul, Nat.one_mul, Nat.add_comm, ← List.drop_drop, List.flatten_cons]
    rw [show (r ++ rows.flatten).drop esz = rows.flatten by rw [← h1, List.drop_left], h2]
    rfl
theorem Sl.at_ {esz : Nat} {v : Value} {rows : List (List Value)} (h : Sl H esz v rows) (hz : 0 < esz) {i : Nat} (hi : i < rows.length) : nnS v = true ∧ rowA H esz v i = some rows[i] := by
  have h2 := h.el
  have hfl := flat_len h.row
  have hpos : 0 < rows.flatten.length := by rw [hfl]; exact Nat.mul_pos (by omega) hz
  obtain ⟨a, k, rfl⟩ := h.sh
  match a, h2 with
  | none, h2 => simp only [elemsA, Option.some.injEq] at h2; rw [← h2] at hpos; simp at hpos
  | some ⟨b, o, some q⟩, h2 =>
    simp only [elemsA] at h2
    rw [if_neg (by omega)] at h2; cases h2
  | some ⟨b, o, none⟩, h2 =>
    refine ⟨rfl, ?_⟩
    simp only [elemsA] at h2
    simp only [rowA, rangeA]
    split at h2
    · rename_i own room z c e hg
      split at h2
      · rename_i hl
        have hm : (i + 1) * esz ≤ rows.length * esz := Nat.mul_le_mul_right esz hi
        rw [Nat.add_mul, Nat.one_mul] at hm
        rw [if_pos (by omega)]
        simp only [Option.some.injEq] at h2
        have := flat_at h.row i hi
        rw [← h2, List.drop_take, List.take_take, List.drop_drop, Nat.min_eq_left (by omega)] at this
        rw [this]
      · cases h2
    · cases h2
theorem Sl.bn_le {esz : Nat} {v : Value} {rows : List (List Value)} (h : Sl H esz v rows) (hr : rows ≠ []) (hz : 0 < esz) : bn v ≤ H.n := by
  have hl : 0 < rows.length := List.length_pos_iff.2 hr
  obtain ⟨h1, h2⟩ := h.at_ hz hl
  obtain ⟨b, o, n, k, rfl, _, own, room, z, c, e, hg, _⟩ := rowA_range h2
  exact AHeap.get_lt hg
theorem Sl.get' {esz : Nat} {v : Value} {rows : List (List Value)} (h : Sl H esz v rows) (k : ∀ b, blk v = some b → b < H.n → H'.get b = H.get b) : Sl H' esz v rows := by
  refine ⟨h.sh, h.row, ?_⟩
  have h2 := h.el
  obtain ⟨a, c, rfl⟩ := h.sh
  match a, h2 with
  | none, h2 => exact h2
  | some ⟨b, o, none⟩, h2 =>
    simp only [elemsA] at h2 ⊢
    cases hg : H.get b with
    | none => rw [hg] at h2; cases h2
    | some ob => rw [k b rfl (AHeap.get_lt hg)]; exact h2
  | some ⟨b, o, some _⟩, h2 => simpa [elemsA] using h2
theorem Sl.keeps {esz : Nat} {v : Value} {rows : List (List Value)} (h : Sl H esz v rows) (k : Keeps H H') : Sl H' esz v rows := h.get' fun b _ hb => k.get b hb
theorem Sl.chg {esz : Nat} {v : Value} {rows : List (List Value)} {S : List Nat} (h : Sl H esz v rows) (k : Chg S H H') (hS : ∀ b, blk v = some b → b ∉ S) : Sl H' esz v rows := h.get' fun b e hb => k.get b hb (hS b e)
theorem BS.sl {v : Value} {l : List UInt8} (h : BS H v l) : Sl H 1 v (l.map fun b => [.int .u8 b.toNat]) := by
  obtain ⟨a, k, e⟩ := h.sh
  refine ⟨⟨a, k, by rw [List.length_map]; exact e⟩, ?_, ?_⟩
  · intro r hr; simp at hr; obtain ⟨b, _, rfl⟩ := hr; rfl
  · rw [h.el]
    congr 1
    clear h e
    induction l with
    | nil => rfl
    | cons b l ih => simp only [List.map_cons, List.flatten_cons, ← ih]; rfl
theorem AP.sl {e esz : Nat} {v : Value} {n : Nat} {rows : List (List Value)} (h : AP H e esz v n rows.flatten) (hr : ∀ r ∈ rows, r.length = esz) (hn : n = rows.length) : Sl H esz v rows := by
  obtain ⟨a, ha⟩ := h.shape
  exact ⟨⟨a, n, by rw [← hn]; exact ha⟩, hr, h.elems⟩
theorem AP.bn {e esz : Nat} {v : Value} {n : Nat} {c : List Value} (h : AP H e esz v n c) : bn v ≤ H.n := by
  unfold Go.AM.bn
  split
  · rename_i b hb; exact h.lt hb
  · omega
section
variable {KF : List Value → AHeap → Prop} {tr : List TE} (d : D) (r : List AOper) (un : List Nat) (rd : List (AOper × List Nat))
theorem st_app (e s b : Nat) (x y : Value) : stR P ng (.app e s b x y) d r fr tm H KF = goR P ng (asem (.app e s b x y) H) d r fr tm KF := st_of d r (by simp) (by simp) (by simp)
theorem st_apps (e b : Nat) (x y : Value) : stR P ng (.apps e b x y) d r fr tm H KF = goR P ng (asem (.apps e b x y) H) d r fr tm KF := st_of d r (by simp) (by simp) (by simp)
theorem sd_apps (e b : Nat) (x y : Value) : stD P ng (.apps e b x y) d un rd fr tm H tr KF = goD P ng (.apps e b x y) (asem (.apps e b x y) H) d un rd fr tm H tr KF := stD_of d un rd (by simp) (by simp) (by simp)
theorem st_iaddrp (s n : Nat) (x i : Value) : stR P ng (.iaddrp s n x i) d r fr tm H KF = goR P ng (asem (.iaddrp s n x i) H) d r fr tm KF := st_of d r (by simp) (by simp) (by simp)
theorem sd_iaddrp (s n : Nat) (x i : Value) : stD P ng (.iaddrp s n x i) d un rd fr tm H tr KF = goD P ng (.iaddrp s n x i) (asem (.iaddrp s n x i) H) d un rd fr tm H tr KF := stD_of d un rd (by simp) (by simp) (by simp)
theorem st_idxa (a : Bool) (s n : Nat) (x i : Value) : stR P ng (.idxa a s n x i) d r fr tm H KF = goR P ng (asem (.idxa a s n x i) H) d r fr tm KF := st_of d r (by simp) (by simp) (by simp)
theorem sd_idxa (a : Bool) (s n : Nat) (x i : Value) : stD P ng (.idxa a s n x i) d un rd fr tm H tr KF = goD P ng (.idxa a s n x i) (asem (.idxa a s n x i) H) d un rd fr tm H tr KF := stD_of d un rd (by simp) (by simp) (by simp)
theorem st_slarr (s n : Nat) (x : Value) (lo hi mx : Option Value) : stR P ng (.slarr s n x lo hi mx) d r fr tm H KF = goR P ng (asem (.slarr s n x lo hi mx) H) d r fr tm KF := st_of d r (by simp) (by simp) (by simp)
theorem sd_slarr (s n : Nat) (x : Value) (lo hi mx : Option Value) : stD P ng (.slarr s n x lo hi mx) d un rd fr tm H tr KF = goD P ng (.slarr s n x lo hi mx) (asem (.slarr s n x lo hi mx) H) d un rd fr tm H tr KF := stD_of d un rd (by simp) (by simp) (by simp)
theorem st_eqs (c : List Nat) (n : Bool) (x y : Value) : stR P ng (.eqs c n x y) d r fr tm H KF = goR P ng (asem (.eqs c n x y) H) d r fr tm KF := st_of d r (by simp) (by simp) (by simp)
theorem sd_eqs (c : List Nat) (n : Bool) (x y : Value) : stD P ng (.eqs c n x y) d un rd fr tm H tr KF = goD P ng (.eqs c n x y) (asem (.eqs c n x y) H) d un rd fr tm H tr KF := stD_of d un rd (by simp) (by simp) (by simp)
theorem st_mm (m : Bool) (x y : Value) : stR P ng (.mm m x y) d r fr tm H KF = goR P ng (asem (.mm m x y) H) d r fr tm KF := st_of d r (by simp) (by simp) (by simp)
theorem sd_mm (m : Bool) (x y : Value) : stD P ng (.mm m x y) d un rd fr tm H tr KF = goD P ng (.mm m x y) (asem (.mm m x y) H) d un rd fr tm H tr KF := stD_of d un rd (by simp) (by simp) (by simp)
theorem st_i2str (x : Value) : stR P ng (.i2str x) d r fr tm H KF = goR P ng (asem (.i2str x) H) d r fr tm KF := st_of d r (by simp) (by simp) (by simp)
theorem sd_i2str (x : Value) : stD P ng (.i2str x) d un rd fr tm H tr KF = goD P ng (.i2str x) (asem (.i2str x) H) d un rd fr tm H tr KF := stD_of d un rd (by simp) (by simp) (by simp)
theorem st_rng (x : Value) : stR P ng (.rng x) d r fr tm H KF = goR P ng (asem (.rng x) H) d r fr tm KF := st_of d r (by simp) (by simp) (by simp)
theorem st_next (x : Value) : stR P ng (.next x) d r fr tm H KF = goR P ng (asem (.next x) H) d r fr tm KF := st_of d r (by simp) (by simp) (by simp)
theorem st_copy (e : Nat) (x y : Value) : stR P ng (.copy e x y) d r fr tm H KF = goR P ng (asem (.copy e x y) H) d r fr tm KF := st_of d r (by simp) (by simp) (by simp)
theorem sd_copy (e : Nat) (x y : Value) : stD P ng (.copy e x y) d un rd fr tm H tr KF = goD P ng (.copy e x y) (asem (.copy e x y) H) d un rd fr tm H tr KF := stD_of d un rd (by simp) (by simp) (by simp)
theorem st_clr (e : Nat) (z : List Value) (x : Value) : stR P ng (.clr e z x) d r fr tm H KF = goR P ng (asem (.clr e z x) H) d r fr tm KF := st_of d r (by simp) (by simp) (by simp)
end
theorem a_mm (m : Bool) (k : IntKind) (a b : Int) : asem (.mm m (.int k a) (.int k b)) H = some (.int k (if m then (if b > a then b else a) else (if b < a then b else a)), H) := by
  simp [asem]
theorem a_mmx (k : IntKind) (a b : Int) : asem (.mm true (.int k a) (.int k b)) H = some (.int k (max a b), H) := by
  rw [a_mm]; simp only [if_true]; congr 3; split <;> omega
theorem a_mmn (k : IntKind) (a b : Int) : asem (.mm false (.int k a) (.int k b)) H = some (.int k (min a b), H) := by
  rw [a_mm]; simp only [Bool.false_eq_true, if_false]; congr 3; split <;> omega
theorem a_iaddrp (esz n b o : Nat) (kd : IntKind) (i : Int) : asem (.iaddrp esz n (ptr b o) (.int kd i)) H = if 0 ≤ i ∧ i < (n : Int) then some (ptr b (o + i.toNat * esz), H) else none := _root_.id rfl
theorem a_bslicee (e esz n : Nat) (z : List Value) (ps : List (Nat × Nat × Value)) : asem (.bslice e esz n z ps) H = (fillA z ps).bind fun c => if c.all Value.oneCell' = true ∧ c.length = n * esz then some (slc H.n 0 n n, H.alloc (.cells true false esz c e)) else none := by
  simp only [asem]; cases fillA z ps <;> rfl
theorem fill_cons (c : List Value) (o n : Nat) (v : Value) (r : List (Nat × Nat × Value)) : fillA c ((o, n, v) :: r) = if v.cells.toList.length = n ∧ o + n ≤ c.length then fillA (c.take o ++ v.cells.toList ++ c.drop (o + n)) r else none := by
  simp only [fillA]
theorem cells_int (k : IntKind) (n : Int) : (Value.int k n).cells.toList = [.int k n] := _root_.id rfl
theorem cells_bool (n : Bool) : (Value.bool n).cells.toList = [.bool n] := _root_.id rfl
theorem cells_str (n : ByteArray) : (Value.string n).cells.toList = [.string n] := _root_.id rfl
theorem cells_sl (a : Option Addr) (n k : Nat) : (Value.slice a n k).cells.toList = [.slice a n k] := _root_.id rfl
theorem cells_slc (b o n k : Nat) : (slc b o n k).cells.toList = [slc b o n k] := _root_.id rfl
theorem cells_ptr (b o : Nat) : (ptr b o).cells.toList = [ptr b o] := _root_.id rfl
theorem cells_pn (a : Option Addr) : (Value.pointer a).cells.toList = [.pointer a] := _root_.id rfl
theorem one_isS {v : Value} (h : isS v = true) : v.oneCell' = true := by obtain ⟨a, n, k, rfl⟩ := isS_inv h; rfl
theorem resC (i n : Nat) (fr : List Value) : resO [.cn n i] fr H = (celln n (fr.getD i undef) H) := by
  simp only [resO, resVs, RX.get]
  cases celln n (fr.getD i undef) H <;> rfl
theorem cellnp (n b o : Nat) : celln n (ptr b o) H = (rangeA H b o n).map fun c => .agg c.toArray := _root_.id rfl
theorem cell1p (b o : Nat) : cell1 (ptr b o) H = cellA H b o := _root_.id rfl
theorem touch_load1 (b o : Nat) (H : AHeap) : touchA (.load1 (ptr b o)) H = [b] := _root_.id rfl
theorem touch_loadn (n b o : Nat) (H : AHeap) : touchA (.loadn n (ptr b o)) H = [b] := _root_.id rfl
theorem touch_load1v {v : Value} {esz j off : Nat} (h : nnS v = true) (H : AHeap) : touchA (.load1 (elP v esz j off)) H = [bn v - 1] := by
  show readsA _ = _; exact reads_el h
theorem touch_loadnv {v : Value} {esz j off n : Nat} (h : nnS v = true) (H : AHeap) : touchA (.loadn n (elP v esz j off)) H = [bn v - 1] := by
  show readsA _ = _; exact readsn_el h
theorem keepsB_n (A B : AHeap) : keepsB [] A B = True := _root_.id rfl
theorem keepsB_c (b : Nat) (l : List Nat) (A B : AHeap) : keepsB (b :: l) A B = (B.get b = A.get b ∧ keepsB l A B) := _root_.id rfl
theorem olderB_n (A : AHeap) : olderB [] A = True := _root_.id rfl
theorem olderB_c (b : Nat) (l : List Nat) (A : AHeap) : olderB (b :: l) A = (b < A.n ∧ olderB l A) := _root_.id rfl
def ob1 (k : Nat) (bs : List Nat) (A B : AHeap) (x : Option TE) : Prop := match x with
  | some t => if k = 1 ∧ t.k = 3 then olderB bs t.H ∧ keepsB bs t.H t.H' else if k = 3 ∧ (t.k = 1 ∨ t.k = 2) then keepsB t.bs A B else True
  | none => True
theorem obl_c (k : Nat) (bs : List Nat) (A B : AHeap) (tr : List TE) (i : Nat) (un : List Nat) : oblA k bs A B tr (i :: un) = (ob1 k bs A B tr[i]? ∧ oblA k bs A B tr un) := _root_.id rfl
theorem ob1_0 (bs : List Nat) (A B : AHeap) (x : Option TE) : ob1 0 bs A B x = True := by unfold ob1; split <;> simp
theorem ob1_2 (bs : List Nat) (A B : AHeap) (x : Option TE) : ob1 2 bs A B x = True := by unfold ob1; split <;> simp
theorem ob1_s (k : Nat) (bs : List Nat) (A B : AHeap) (j : Nat) (cs : List Nat) (C D : AHeap) : ob1 k bs A B (some ⟨j, cs, C, D⟩) = if k = 1 ∧ j = 3 then olderB bs C ∧ keepsB bs C D else if k = 3 ∧ (j = 1 ∨ j = 2) then keepsB cs A B else True := _root_.id rfl
end
set_option linter.defProp false in
def A3s := (And.intro (And.intro (And.intro (And.intro (And.intro (And.intro @cellA_e @rangeA_e) (And.intro @cellO_c (And.intro @rng_full @rng_part))) (And.intro (And.intro @a_store1e (And.intro @a_storene @st1O_c)) (And.intro @stn_full (And.intro @stn_part @a_load1v)))) (And.intro (And.intro (And.intro @a_loadnvf (And.intro @a_loadnvp @stD_callv)) (And.intro @cells_agg (And.intro @toList_arr @size_arr))) (And.intro (And.intro @g_new (And.intro @g_old @g_set)) (And.intro @g_sets (And.intro @set_new @set_old))))) (And.intro (And.intro (And.intro (And.intro @set_set @alloc_n) (And.intro @set_n (And.intro @lt_yes @le_yes))) (And.intro (And.intro @eqn_yes (And.intro @lti_yes @lei_yes)) (And.intro @lti_no (And.intro @lei_no @beqi_no)))) (And.intro (And.intro (And.intro @beqi_yes (And.intro @bnei_no @bnei_yes)) (And.intro @boolIs_t (And.intro @boolIs_f @a_lenv))) (And.intro (And.intro @a_iaddrv (And.intro @a_faddrv @row_alloc)) (And.intro @row_set (And.intro @st_app @st_apps)))))) (And.intro (And.intro (And.intro (And.intro (And.intro @sd_apps @sd_app) (And.intro @st_iaddrp (And.intro @sd_iaddrp @st_idxa))) (And.intro (And.intro @sd_idxa (And.intro @st_slarr @sd_slarr)) (And.intro @st_eqs (And.intro @sd_eqs @st_mm)))) (And.intro (And.intro (And.intro @sd_mm (And.intro @st_i2str @sd_i2str)) (And.intro @st_rng (And.intro @st_next @st_copy))) (And.intro (And.intro @sd_copy (And.intro @st_clr @a_mmx)) (And.intro @a_mmn (And.intro @a_iaddrp @a_bslicee))))) (And.intro (And.intro (And.intro (And.intro @cells_int (And.intro @cells_bool @cells_str)) (And.intro @cells_sl (And.intro @cells_slc @cells_ptr))) (And.intro (And.intro @cells_pn (And.intro @touch_load1 @touch_loadn)) (And.intro @touch_load1v (And.intro @touch_loadnv @keepsB_n)))) (And.intro (And.intro (And.intro @keepsB_c (And.intro @olderB_n @olderB_c)) (And.intro @obl_nil (And.intro @obl_c @ob1_0))) (And.intro (And.intro @ob1_2 (And.intro @ob1_s @bi_u)) (And.intro @resC (And.intro @cellnp @cell1p)))))))
set_option linter.defProp false in
def A3c := (And.intro (And.intro (And.intro (And.intro @List.append_nil.{0} @List.nil_append.{0}) (And.intro @List.cons_append.{0} @decide_true)) (And.intro (And.intro @decide_false @List.drop_zero.{0}) (And.intro @Option.bind_some.{0,0} @List.toList_toArray.{0}))) (And.intro (And.intro (And.intro @implies_true.{1} @implies_true.{0}) (And.intro @not_true_eq_false @not_false_eq_true)) (And.intro (And.intro @and_false @Int.toNat_zero) (And.intro @bne_self_eq_false.{0} @Bool.not_not))))
set_option linter.defProp false in
def LN := And.intro @List.length_cons.{0} (And.intro @List.length_nil.{0} (And.intro @alloc_n @set_n))
set_option linter.defProp false in
def P3 := And.intro ANs (And.intro A3s (And.intro ANc (And.intro A3c (And.intro (And.intro (And.intro (And.intro (And.intro @AOp.map.eq_1 (And.intro @AOp.map.eq_2 @AOp.map.eq_3)) (And.intro @AOp.map.eq_4 (And.intro @AOp.map.eq_5 @AOp.map.eq_6))) (And.intro (And.intro @AOp.map.eq_7 (And.intro @AOp.map.eq_8 @AOp.map.eq_9)) (And.intro (And.intro @AOp.map.eq_10 @AOp.map.eq_11) (And.intro @AOp.map.eq_12 @AOp.map.eq_13)))) (And.intro (And.intro (And.intro @AOp.map.eq_14 (And.intro @AOp.map.eq_15 @AOp.map.eq_16)) (And.intro @AOp.map.eq_17 (And.intro @AOp.map.eq_18 @AOp.map.eq_19))) (And.intro (And.intro @AOp.map.eq_20 (And.intro @AOp.map.eq_21 @AOp.map.eq_22)) (And.intro (And.intro @AOp.map.eq_23 @AOp.map.eq_24) (And.intro @AOp.map.eq_25 @AOp.map.eq_26))))) (And.intro (And.intro (And.intro (And.intro @AOp.map.eq_27 (And.intro @AOp.map.eq_28 @AOp.map.eq_29)) (And.intro @AOp.map.eq_30 (And.intro @AOp.map.eq_31 @AOp.map.eq_32))) (And.intro (And.intro @AOp.map.eq_33 (And.intro @AOp.map.eq_34 @AOp.map.eq_35)) (And.intro (And.intro @AOp.map.eq_36 @AOp.map.eq_37) (And.intro @AOp.map.eq_38 @AOp.map.eq_39)))) (And.intro (And.intro (And.intro @AOp.map.eq_40 (And.intro @AOp.map.eq_41 @AOp.map.eq_42)) (And.intro (And.intro @AOp.map.eq_43 @AOp.map.eq_44) (And.intro @AOp.map.eq_45 @AOp.map.eq_46))) (And.intro (And.intro @AOp.map.eq_47 (And.intro (And.intro @AOp.map.eq_48 (And.intro @AOp.map.eq_49 (And.intro @AOp.map.eq_50 (And.intro @AOp.map.eq_51 (And.intro @AOp.map.eq_52 (And.intro @AOp.map.eq_53 @AOp.map.eq_54)))))) (And.intro @List.take_nil.{0} @List.take_zero.{0}))) (And.intro (And.intro @List.take_succ_cons.{0} @List.drop_nil.{0}) (And.intro @List.drop_zero.{0} @List.drop_succ_cons.{0})))))))))
end Go.AM

set_option linter.unusedSimpArgs false
set_option linter.unusedVariables false
namespace Go.AM
structure Th where
  P : AHeap → Prop
  F : List Nat
  lt : ∀ H, P H → ∀ b ∈ F, b < H.n
  st : ∀ H H', P H → H.n ≤ H'.n → (∀ b ∈ F, H'.get b = H.get b) → P H'
def Apart (a b : Th) : Prop := ∀ x ∈ a.F, x ∉ b.F
theorem Apart.symm {a b : Th} (h : Apart a b) : Apart b a := fun x h1 h2 => h x h2 h1
structure Sep (H : AHeap) (ts : List Th) : Prop where
  all : ∀ t ∈ ts, t.P H
  ap : ts.Pairwise Apart
theorem Sep.nil (H : AHeap) : Sep H [] := ⟨by simp, .nil⟩
theorem Sep.get {H : AHeap} {ts : List Th} (h : Sep H ts) (i : Nat) {t : Th} (hi : ts[i]? = some t) : t.P H := h.all t (List.mem_of_getElem? hi)
theorem Sep.keeps {H H' : AHeap} {ts : List Th} (h : Sep H ts) (k : Keeps H H') : Sep H' ts :=
  ⟨fun t ht => t.st H H' (h.all t ht) k.n (fun b hb => k.get b (t.lt H (h.all t ht) b hb)), h.ap⟩
theorem Sep.upd {H H' : AHeap} {t t' : Th} {r : List Th} : ∀ {l : List Th}, Sep H (l ++ t :: r) → Chg t.F H H' → t'.P H' → (∀ b ∈ t'.F, b ∈ t.F ∨ H.n ≤ b) → Sep H' (l ++ t' :: r) := by
  intro l h c hp hf
  have key : ∀ x, x.P H → Apart t x → Apart t' x := fun x hx ha b hb hbx => by
    rcases hf b hb with h1 | h1
    · exact ha b h1 hbx
    · have := x.lt H hx b hbx; omega
  have stay : ∀ x, x.P H → Apart t x → x.P H' := fun x hx ha => x.st H H' hx c.n (fun b hb => c.get b (x.lt H hx b hb) (fun hbt => ha b hbt hb))
  have h1 := List.pairwise_append.1 h.ap
  obtain ⟨a1, a2, a3⟩ := h1
  have a4 := List.pairwise_cons.1 a2
  refine ⟨?_, List.pairwise_append.2 ⟨a1, List.pairwise_cons.2 ⟨fun x hx => key x (h.all x (by simp [hx])) (a4.1 x hx), a4.2⟩, ?_⟩⟩
  · intro x hx
    rcases List.mem_append.1 hx with hx | hx
    · exact stay x (h.all x (by simp [hx])) (a3 x hx t (by simp)).symm
    · rcases List.mem_cons.1 hx with rfl | hx
      · exact hp
      · exact stay x (h.all x (by simp [hx])) (a4.1 x hx)
  · intro x hx y hy
    rcases List.mem_cons.1 hy with rfl | hy
    · exact (key x (h.all x (by simp [hx])) (a3 x hx t (by simp)).symm).symm
    · exact a3 x hx y (by simp [hy])
theorem Sep.apart {H : AHeap} {ts : List Th} (h : Sep H ts) (i j : Nat) (hij : i < j) {a b : Th} (hi : ts[i]? = some a) (hj : ts[j]? = some b) : Apart a b := by
  obtain ⟨h1, rfl⟩ := List.getElem?_eq_some_iff.1 hi
  obtain ⟨h2, rfl⟩ := List.getElem?_eq_some_iff.1 hj
  exact List.pairwise_iff_getElem.1 h.ap i j h1 h2 hij
theorem Sep.add {H H' : AHeap} {t : Th} {ts : List Th} (h : Sep H ts) (k : Keeps H H') (hp : t.P H') (hf : ∀ b ∈ t.F, H.n ≤ b) : Sep H' (t :: ts) :=
  ⟨fun x hx => by
    rcases List.mem_cons.1 hx with rfl | hx
    · exact hp
    · exact (h.keeps k).all x hx, List.pairwise_cons.2 ⟨fun x hx b hb hbx => by have := x.lt H (h.all x hx) b hbx; have := hf b hb; omega, h.ap⟩⟩
theorem Sep.perm {H : AHeap} {ts us : List Th} (h : Sep H ts) (p : ts.Perm us) : Sep H us :=
  ⟨fun t ht => h.all t (p.mem_iff.2 ht), p.pairwise_iff (fun {a b} hab => hab.symm) |>.1 h.ap⟩
def thB (b : Nat) (o : AO) : Th where
  P H := H.get b = some o
  F := [b]
  lt H h x hx := by simp at hx; subst hx; exact AHeap.get_lt h
  st H H' h _ k := by rw [k b (by simp)]; exact h
theorem Sep.box {H : AHeap} {ts : List Th} (h : Sep H ts) (o : AO) : Sep (H.alloc o) (thB H.n o :: ts) :=
  h.add ((Keeps.refl H).alloc o) (AHeap.get_alloc_new H o) (by simp [thB])
theorem Sep.tail {H : AHeap} {t : Th} {ts : List Th} (h : Sep H (t :: ts)) : Sep H ts :=
  ⟨fun x hx => h.all x (by simp [hx]), (List.pairwise_cons.1 h.ap).2⟩
section
variable {P : Program} {ng : Nat} {H : AHeap} {KF : List Value → AHeap → Prop} {fr tm : List Value} {tr : List TE} {Q : AQ}
theorem appG {d : D} {r : List AOper} {e esz bytes : Nat} {s x : Value} {n m : Nat} {c news : List Value} (h : AP H e esz s n c) (hx : ∃ a k, x = .slice a m k) (h1 : elemsA H esz x = some news) (hm : news.length = m * esz)
    (hs : (n + m) * bytes ≤ 140737488355328 ∧ n + m ≤ 140737488355328)
    (hk : ∀ v' H', AP H' e esz v' (n + m) (c ++ news) → Chg (blkL s) H H' → (blk v' = blk s ∨ blk v' = some H.n) → RW P ng r (d.frame v' fr) (d.temps v' tm) H' KF) : goR P ng (asem (.app e esz bytes s x) H) d r fr tm KF := by
  rw [← st_app]; exact appR h hx h1 hm hs hk
theorem appGD {d : D} {r : List (AOper × List Nat)} {e esz bytes : Nat} {s x : Value} {n m : Nat} {c news : List Value} (h : AP H e esz s n c) (hx : ∃ a k, x = .slice a m k) (h1 : elemsA H esz x = some news) (hm : news.length = m * esz)
    (hs : (n + m) * bytes ≤ 140737488355328 ∧ n + m ≤ 140737488355328)
    (hk : ∀ v' H', AP H' e esz v' (n + m) (c ++ news) → Chg (blkL s) H H' → (blk v' = blk s ∨ blk v' = some H.n) → RD P ng r (d.frame v' fr) (d.temps v' tm) H' (tr ++ [⟨3, [], H, H'⟩]) KF) : goD P ng (.app e esz bytes s x) (asem (.app e esz bytes s x) H) d [] r fr tm H tr KF := by
  obtain ⟨v', H', e1, e2, e3, e4⟩ := h.app (bytes := bytes) hm hs
  obtain ⟨a, k, rfl⟩ := hx
  exact ⟨v', H', by simp only [asem, h1]; exact e1, trivial, hk v' H' e2 e3 e4⟩
end
theorem elems_new {H : AHeap} {own room : Bool} {esz e n : Nat} {c : List Value} {b : Nat} (hb : b = H.n) (h : c.length = n * esz) : elemsA (H.alloc (.cells own room esz c e)) esz (slc b 0 n n) = some c := by
  subst hb; exact elems_own (AHeap.get_alloc_new H _) h
def chunks (esz : Nat) : Nat → List Value → List (List Value)
  | 0, _ => []
  | n + 1, c => c.take esz :: chunks esz n (c.drop esz)
theorem chunks_len (esz : Nat) : ∀ (n : Nat) (c : List Value), (chunks esz n c).length = n
  | 0, _ => rfl
  | n + 1, c => by simp [chunks, chunks_len esz n]
theorem chunks_flat (esz : Nat) : ∀ (n : Nat) (c : List Value), (chunks esz n c).flatten = c.take (n * esz)
  | 0, _ => by simp [chunks]
  | n + 1, c => by
    rw [chunks, List.flatten_cons, chunks_flat esz n, Nat.add_mul, Nat.one_mul, Nat.add_comm (n * esz) esz, List.take_add]
theorem chunks_mem (esz : Nat) : ∀ (n : Nat) (c : List Value) (r : List Value), r ∈ chunks esz n c → ∃ i, i < n ∧ r = (c.drop (i * esz)).take esz
  | n + 1, c, r, h => by
    simp only [chunks, List.mem_cons] at h
    rcases h with rfl | h
    · exact ⟨0, by omega, by simp⟩
    · obtain ⟨i, hi, rfl⟩ := chunks_mem esz n _ r h
      exact ⟨i + 1, by omega, by rw [List.drop_drop, Nat.add_mul, Nat.one_mul, Nat.add_comm]⟩
theorem AR.rows {P : Program} {t e esz : Nat} {H : AHeap} {v : Value} (hu : P.underlying t = some (.slice e)) (hz : P.cellsOf e = esz) (h : AR P H.get t [v]) : ∃ rows, Sl H esz v rows ∧ ∀ r ∈ rows, AR P H.get e r := by
  subst hz
  rcases h.slice_inv hu with h2 | ⟨x, hx, h2⟩ | ⟨b, n, k, c, u, h2, h3, h4, h5, h6, h7, h8⟩
  · cases h2; exact ⟨[], Sl.nil _ _, by simp⟩
  · cases h2
    refine ⟨[], ⟨⟨_, _, rfl⟩, by simp, ?_⟩, by simp⟩
    obtain ⟨b, o, s⟩ := x
    cases s with
    | none => simp at hx
    | some s => simp [elemsA]
  · cases h2
    have hnk : n * P.cellsOf e ≤ c.length := by rw [h7]; exact Nat.mul_le_mul_right _ h4
    refine ⟨chunks (P.cellsOf e) n c, ⟨⟨_, k, by rw [chunks_len]; rfl⟩, ?_, ?_⟩, ?_⟩
    · intro r hr
      obtain ⟨i, hi, rfl⟩ := chunks_mem _ _ _ _ hr
      have : (i + 1) * P.cellsOf e ≤ n * P.cellsOf e := Nat.mul_le_mul_right _ hi
      rw [Nat.add_mul, Nat.one_mul] at this
      rw [List.length_take, List.length_drop]; omega
    · rw [chunks_flat]
      simp only [elemsA, slc, h6]
      rw [if_pos (by omega), List.drop_zero]
    · intro r hr
      obtain ⟨i, hi, rfl⟩ := chunks_mem _ _ _ _ hr
      exact h8 i (by omega)
theorem AV.rows {P : Program} {t e esz : Nat} {H : AHeap} {v : Value} (hu : P.underlying t = some (.slice e)) (hz : P.cellsOf e = esz) (h : AV P H.get t v) : ∃ rows, Sl H esz v rows ∧ ∀ r ∈ rows, AR P H.get e r := by
  have h1 := h.one (by unfold isAggT; rw [hu]; rfl)
  have := h.1
  rw [h1] at this
  exact this.rows hu hz
theorem list_choose {α β : Type} {f : β → α} {Q : β → Prop} : ∀ {l : List α}, (∀ x ∈ l, ∃ y, x = f y ∧ Q y) → ∃ m : List β, l = m.map f ∧ ∀ y ∈ m, Q y
  | [], _ => ⟨[], rfl, by simp⟩
  | x :: l, h => by
    obtain ⟨y, rfl, hy⟩ := h x (by simp)
    obtain ⟨m, rfl, hm⟩ := list_choose (l := l) (fun z hz => h z (by simp [hz]))
    exact ⟨y :: m, rfl, by intro z hz; rcases List.mem_cons.1 hz with rfl | hz; exact hy; exact hm z hz⟩
end Go.AM

set_option linter.unusedSimpArgs false
set_option linter.unusedVariables false
namespace Go.AM
def BQ (H : AHeap) (v : Value) (l : List UInt8) : Prop :=
  (v = .slice none 0 0 ∧ l = []) ∨ (∃ b o z, v = .slice (some ⟨b, o, some z⟩) 0 0 ∧ l = []) ∨
    ∃ b o k own room esz c e, v = slc b o l.length k ∧ l.length ≤ k ∧ H.get b = some (.cells own room esz c e) ∧ (esz = 1 ∨ room = false) ∧ (c.drop o).take l.length = cellsOf l ∧ o + l.length ≤ c.length
theorem BQ.bs {H : AHeap} {v : Value} {l : List UInt8} (h : BQ H v l) : BS H v l := by
  rcases h with ⟨rfl, rfl⟩ | ⟨b, o, z, rfl, rfl⟩ | ⟨b, o, k, own, room, esz, c, e, rfl, h1, h2, h3, h4, h5⟩
  · exact BS.nil H
  · exact ⟨⟨_, _, rfl⟩, by simp [elemsA, cellsOf]⟩
  · refine ⟨⟨_, _, rfl⟩, ?_⟩
    simp only [elemsA, slc, h2, Nat.mul_one]
    rw [if_pos h5, h4]
def tb : Value → List Nat
  | .slice (some ⟨b, _, none⟩) _ _ => [b]
  | _ => []
theorem BQ.tbl {H : AHeap} {v : Value} {l : List UInt8} (h : BQ H v l) : ∀ b ∈ tb v, b < H.n := by
  rcases h with ⟨rfl, rfl⟩ | ⟨b, o, z, rfl, rfl⟩ | ⟨b, o, k, own, room, esz, c, e, rfl, h1, h2, h3, h4, h5⟩
  · simp [tb]
  · simp [tb]
  · intro x hx; simp [tb, slc] at hx; subst hx; exact AHeap.get_lt h2
theorem BQ.chg {H H' : AHeap} {v : Value} {l : List UInt8} {S : List Nat} (h : BQ H v l) (k : Chg S H H') (hS : ∀ b ∈ tb v, b ∉ S) : BQ H' v l := by
  rcases h with h | h | ⟨b, o, kk, own, room, esz, c, e, rfl, h1, h2, h3, h4, h5⟩
  · exact .inl h
  · exact .inr (.inl h)
  · exact .inr (.inr ⟨b, o, kk, own, room, esz, c, e, rfl, h1, k.at_ h2 (hS b (by simp [tb, slc])), h3, h4, h5⟩)
theorem BQ.keeps {H H' : AHeap} {v : Value} {l : List UInt8} (h : BQ H v l) (k : Keeps H H') : BQ H' v l := h.chg (k.chg []) (by simp)
theorem BQ.cut {H : AHeap} {v : Value} {l : List UInt8} (h : BQ H v l) {lo hi : Option Value} {i j : Nat} (hij : i ≤ j) (hj : j ≤ l.length) (h1 : ∀ k, l.length ≤ k → bndA hi l.length k = some j) (h2 : bndA lo 0 j = some i) :
    ∃ w, asem (.slsl 1 v lo hi none) H = some (w, H) ∧ BQ H w ((l.drop i).take (j - i)) := by
  rcases h with ⟨rfl, rfl⟩ | ⟨b, o, z, rfl, rfl⟩ | ⟨b, o, k, own, room, esz, c, e, rfl, p1, p2, p3, p4, p5⟩
  · have hj0 : j = 0 := by simpa using hj
    have hi0 : i = 0 := by omega
    subst hj0; subst hi0
    exact ⟨_, a_slsl_nil ⟨0, 0, 0, bnd_none 0 0, h1 0 (Nat.le_refl _), h2⟩, .inl ⟨rfl, rfl⟩⟩
  · have hj0 : j = 0 := by simpa using hj
    have hi0 : i = 0 := by omega
    subst hj0; subst hi0
    refine ⟨.slice (some ⟨b, o, some z⟩) 0 0, ?_, .inr (.inl ⟨b, o, z, rfl, rfl⟩)⟩
    have := h1 0 (Nat.le_refl _)
    simp only [List.length_nil] at this
    simp only [asem, bnd_none, this, h2]
    simp
  · refine ⟨slc b (o + i) (j - i) (k - i), ?_, ?_⟩
    · have := h1 k p1
      simp only [asem, slc, bnd_none, this, h2, p2, Nat.mul_one]
      rw [if_pos p3]
    · have hl : ((l.drop i).take (j - i)).length = j - i := by rw [List.length_take, List.length_drop]; omega
      refine .inr (.inr ⟨b, o + i, k - i, own, room, esz, c, e, by rw [hl], by rw [hl]; omega, p2, p3, ?_, by rw [hl]; omega⟩)
      rw [hl]
      have e1 : cellsOf ((l.drop i).take (j - i)) = ((cellsOf l).drop i).take (j - i) := by simp [cellsOf, List.map_take, List.map_drop]
      rw [e1, ← p4, ← List.drop_drop, List.drop_take, List.take_take]
      congr 1
      omega
theorem el_tbl {H : AHeap} {esz : Nat} {v : Value} {l : List Value} (h : elemsA H esz v = some l) : ∀ b ∈ tb v, b < H.n := by
  intro b hb
  unfold tb at hb
  split at hb
  · rename_i x o n k
    simp only [List.mem_singleton] at hb; subst hb
    simp only [elemsA] at h
    cases hg : H.get b with
    | none => rw [hg] at h; cases h
    | some ob => exact AHeap.get_lt hg
  · cases hb
theorem el_get {H H' : AHeap} {esz : Nat} {v : Value} {l : List Value} (h : elemsA H esz v = some l) (k : ∀ b ∈ tb v, b < H.n → H'.get b = H.get b) : elemsA H' esz v = some l := by
  have ht := el_tbl h
  unfold elemsA at h ⊢
  split
  · exact h
  · rename_i b o n k2
    have hb : b ∈ tb (.slice (some ⟨b, o, none⟩) n k2) := by simp [tb]
    rw [k b hb (ht b hb)]; exact h
  · exact h
  · simp at h
theorem Sl.tbl {H : AHeap} {esz : Nat} {v : Value} {rows : List (List Value)} (h : Sl H esz v rows) : ∀ b ∈ tb v, b < H.n := el_tbl h.el
theorem Sl.chgT {H H' : AHeap} {esz : Nat} {v : Value} {rows : List (List Value)} {S : List Nat} (h : Sl H esz v rows) (k : Chg S H H') (hS : ∀ b ∈ tb v, b ∉ S) : Sl H' esz v rows :=
  ⟨h.sh, h.row, el_get h.el fun b hb hn => k.get b hn (hS b hb)⟩
theorem BS.tbl {H : AHeap} {v : Value} {l : List UInt8} (h : BS H v l) : ∀ b ∈ tb v, b < H.n := el_tbl h.el
theorem BS.chgT {H H' : AHeap} {v : Value} {l : List UInt8} {S : List Nat} (h : BS H v l) (k : Chg S H H') (hS : ∀ b ∈ tb v, b ∉ S) : BS H' v l :=
  ⟨h.sh, el_get h.el fun b hb hn => k.get b hn (hS b hb)⟩
theorem Chg1.tr {r : Nat} {A B C : AHeap} (h : Chg [r] A B) (k : Chg [r] B C) : Chg [r] A C := h.trans k (fun x hx => .inl hx)
theorem Chg1.kp {r : Nat} {A B : AHeap} (k : Keeps A B) : Chg [r] A B := k.chg _
theorem tb_blk {v : Value} {b : Nat} (h : b ∈ tb v) : blk v = some b := by
  unfold tb at h
  split at h
  · simp only [List.mem_singleton] at h; subst h; rfl
  · cases h
theorem Fresh.tb {n : Nat} {v : Value} (h : Fresh n v) : ∀ b ∈ Go.AM.tb v, n ≤ b := fun b hb => h b (tb_blk hb)
end Go.AM

set_option linter.unusedSimpArgs false
set_option linter.unusedVariables false
namespace Go.AM
def via (ρ : Nat → Option Nat) (σ : Sg) : Sg := fun b => (ρ b).bind σ
theorem via_of {ρ : Nat → Option Nat} {σ : Sg} {b c : Nat} {i : BI} (h : ρ b = some c) (k : σ c = some i) : via ρ σ b = some i := by
  unfold via; rw [h]; exact k
theorem via_inv {ρ : Nat → Option Nat} {σ : Sg} {b : Nat} {i : BI} (h : via ρ σ b = some i) : ∃ c, ρ b = some c ∧ σ c = some i := by
  unfold via at h
  cases hb : ρ b with
  | none => rw [hb] at h; cases h
  | some c => rw [hb] at h; exact ⟨c, rfl, h⟩
inductive NV (ρ : Nat → Option Nat) : Value → Value → Prop
  | bool (b : Bool) : NV ρ (.bool b) (.bool b)
  | int (k : IntKind) (n : Int) : NV ρ (.int k n) (.int k n)
  | string (s : ByteArray) : NV ρ (.string s) (.string s)
  | nilPtr : NV ρ (.pointer none) (.pointer none)
  | ptr {b c o : Nat} (h : ρ b = some c) : NV ρ (.pointer (some ⟨b, o, none⟩)) (.pointer (some ⟨c, o, none⟩))
  | nilSl : NV ρ (.slice none 0 0) (.slice none 0 0)
  | sl {b c o n k : Nat} (h : ρ b = some c) : NV ρ (.slice (some ⟨b, o, none⟩) n k) (.slice (some ⟨c, o, none⟩) n k)
  | slz {x : Addr} (hx : x.spot.isSome = true) : NV ρ (.slice (some x) 0 0) (.slice (some x) 0 0)
  | nilMap : NV ρ (.map none) (.map none)
  | map {b c : Nat} (h : ρ b = some c) : NV ρ (.map (some b)) (.map (some c))
  | func (fn : Fn) (xs xs' ys ys' : Array Value) (h1 : xs.size = xs'.size) (h2 : ∀ i (a : i < xs.size) (b : i < xs'.size), NV ρ xs[i] xs'[i])
      (h3 : ys.size = ys'.size) (h4 : ∀ i (a : i < ys.size) (b : i < ys'.size), NV ρ ys[i] ys'[i]) : NV ρ (.func fn xs ys) (.func fn xs' ys')
  | nilFunc : NV ρ .nilFunc .nilFunc
  | iface (t : TypeId) {v v' : Value} (h : NV ρ v v') : NV ρ (.iface t v) (.iface t v')
  | nilIface : NV ρ .nilIface .nilIface
  | agg (xs xs' : Array Value) (h1 : xs.size = xs'.size) (h2 : ∀ i (a : i < xs.size) (b : i < xs'.size), NV ρ xs[i] xs'[i]) : NV ρ (.agg xs) (.agg xs')
  | tuple (xs xs' : Array Value) (h1 : xs.size = xs'.size) (h2 : ∀ i (a : i < xs.size) (b : i < xs'.size), NV ρ xs[i] xs'[i]) : NV ρ (.tuple xs) (.tuple xs')
inductive NL (ρ : Nat → Option Nat) : List Value → List Value → Prop
  | nil : NL ρ [] []
  | cons {v v' : Value} {l l' : List Value} (h : NV ρ v v') (t : NL ρ l l') : NL ρ (v :: l) (v' :: l')
theorem NV.via {ρ : Nat → Option Nat} {σ : Sg} {a b : Value} (h : NV ρ a b) : ∀ {c : Value}, VR σ b c → VR (AM.via ρ σ) a c := by
  induction h with
  | bool b => intro c k; cases k; exact .bool _
  | int k n => intro c k; cases k; exact .int _ _
  | string s => intro c k; cases k; exact .string _
  | nilPtr => intro c k; cases k; exact .nilPtr
  | ptr e => intro c k; cases k with | ptr e2 => exact .ptr (via_of e e2)
  | nilSl => intro c k; cases k; exact .nilSl
  | sl e =>
    intro c k
    cases k with
    | sl e2 hn2 hk2 => exact .sl (via_of e e2) hn2 hk2
    | sl0 e2 => exact .sl0 (via_of e e2)
    | slz hx => simp at hx
  | slz hx =>
    intro c k
    cases k with
    | sl e2 hn2 hk2 => simp at hx
    | sl0 e2 => exact .slz hx
    | slz _ => exact .slz hx
  | nilMap => intro c k; cases k; exact .nilMap
  | map e => intro c k; cases k with | map e2 => exact .map (via_of e e2)
  | func fn xs xs' ys ys' h1 _ h3 _ i2 i4 =>
    intro c k
    cases k with
    | func _ _ zs _ us g1 g2 g3 g4 => exact .func fn xs zs ys us (by omega) (fun i a b => i2 i a (by omega) (g2 i (by omega) b)) (by omega) (fun i a b => i4 i a (by omega) (g4 i (by omega) b))
  | nilFunc => intro c k; cases k; exact .nilFunc
  | iface t _ ih => intro c k; cases k with | iface _ k => exact .iface t (ih k)
  | nilIface => intro c k; cases k; exact .nilIface
  | agg xs xs' h1 _ ih =>
    intro c k
    cases k with
    | agg _ zs g1 g2 => exact .agg xs zs (by omega) (fun i a b => ih i a (by omega) (g2 i (by omega) b))
  | tuple xs xs' h1 _ ih =>
    intro c k
    cases k with
    | tuple _ zs g1 g2 => exact .tuple xs zs (by omega) (fun i a b => ih i a (by omega) (g2 i (by omega) b))
theorem NL.via {ρ : Nat → Option Nat} {σ : Sg} {a b : List Value} (h : NL ρ a b) : ∀ {c : List Value}, VL σ b c → VL (AM.via ρ σ) a c := by
  induction h with
  | nil => intro c k; cases k; exact .nil
  | cons h _ ih => intro c k; cases k with | cons k1 k2 => exact .cons (h.via k1) (ih k2)
theorem NL.length {ρ : Nat → Option Nat} {a b : List Value} (h : NL ρ a b) : a.length = b.length := by
  induction h with
  | nil => rfl
  | cons _ _ ih => simp [ih]
theorem NL.one {ρ : Nat → Option Nat} {a b : List Value} (h : NL ρ a b) (hb : ∀ v ∈ b, v.oneCell' = true) : ∀ v ∈ a, v.oneCell' = true := by
  induction h with
  | nil => simp
  | cons h _ ih =>
    intro v hv
    rcases List.mem_cons.1 hv with rfl | hv
    · have := hb _ (List.mem_cons_self ..)
      cases h <;> first | exact this | rfl
    · exact ih (fun v hv => hb v (List.mem_cons_of_mem _ hv)) v hv
inductive NE (ρ : Nat → Option Nat) : List MapEntry → List MapEntry → Prop
  | nil : NE ρ [] []
  | cons {e e' : MapEntry} {l l' : List MapEntry} (hk : e'.key = e.key) (hb : e'.born = e.born) (h : NV ρ e.val e'.val) (t : NE ρ l l') : NE ρ (e :: l) (e' :: l')
theorem NE.via {ρ : Nat → Option Nat} {σ : Sg} {a b : List MapEntry} (h : NE ρ a b) : ∀ {c : List MapEntry}, ML σ b c → ML (AM.via ρ σ) a c := by
  induction h with
  | nil => intro c k; cases k; exact .nil
  | cons hk hb h _ ih => intro c k; cases k with | cons k1 k2 k3 k4 => exact .cons (k1.trans hk) (k2.trans hb) (h.via k3) (ih k4)
def NO (ρ : Nat → Option Nat) (o o2 : Obj) : Prop := match o with
  | .map es k => ∃ es2, o2 = .map es2 k ∧ NE ρ es.toList es2.toList
  | o => o2 = o
theorem NO.via {ρ : Nat → Option Nat} {σ : Sg} {o o2 o' : Obj} (h : NO ρ o o2) (k : JR σ o2 o') : JR (AM.via ρ σ) o o' := by
  cases o with
  | map es c =>
    obtain ⟨es2, rfl, h2⟩ := h
    obtain ⟨es', rfl, k2⟩ := k
    exact ⟨es', rfl, h2.via k2⟩
  | _ => cases h; exact k
def AOr (ρ : Nat → Option Nat) (a b : AO) : Prop := match a with
  | .dead => True
  | .cells own room esz c e => ∃ own' c', b = .cells own' room esz c' e ∧ (own = true → own' = true) ∧ NL ρ c c'
  | .obj own o => ∃ own' o2, b = .obj own' o2 ∧ (own = true → own' = true) ∧ NO ρ o o2
  | .loop .. => False
theorem AOr.own {ρ : Nat → Option Nat} {a b : AO} (h : AOr ρ a b) (ha : a.own = true) : b.own = true := by
  cases a with
  | dead => cases ha
  | cells own room esz c e => obtain ⟨own', c', rfl, h1, _⟩ := h; exact h1 ha
  | obj own o => obtain ⟨own', o2, rfl, h1, _⟩ := h; exact h1 ha
  | loop own st pe L => exact h.elim
theorem AOr.live {ρ : Nat → Option Nat} {a b : AO} (h : AOr ρ a b) (ha : a.live = true) : b.live = true := by
  cases a with
  | dead => cases ha
  | cells own room esz c e => obtain ⟨own', c', rfl, h1, _⟩ := h; rfl
  | obj own o => obtain ⟨own', o2, rfl, h1, _⟩ := h; rfl
  | loop own st pe L => exact h.elim
theorem AOr.or {ρ : Nat → Option Nat} {a b : AO} (h : AOr ρ a b) {σ : Sg} {w : World} {i : BI} (k : OR σ w i b) : OR (AM.via ρ σ) w i a := by
  cases a with
  | dead => trivial
  | cells own room esz c e =>
    obtain ⟨own', c', rfl, h1, h2⟩ := h
    obtain ⟨a1, a2, a3, a4, a9, d, fr, a5, a6, a7, a8⟩ := k
    have hl := h2.length
    exact ⟨by rw [hl]; exact a1, a2, a3, by rw [hl]; exact a4, h2.one a9, d, fr, a5, a6, by rw [hl]; exact h2.via a7, fun ho => by rw [hl]; exact a8 (h1 ho)⟩
  | obj own o =>
    obtain ⟨own', o2, rfl, h1, h2⟩ := h
    obtain ⟨o', k1, k2, k3⟩ := k
    exact ⟨o', k1, h2.via k2, k3⟩
  | loop own st pe L => exact h.elim
variable {P : Program} {ng : Nat} {f : FuncId} {args : List Value} {H H' H'' : AHeap} {v v'' : Value}
def Stood (ng : Nat) (args : List Value) (H : AHeap) (v : Value) : Prop := ∀ (σ : Sg) (w : World) (args' : List Value), HR ng σ H.get w → VL σ args args' → ∃ x, VR σ v x
theorem ARun.gc (h : ARun P ng f args H v H') (ρ : Nat → Option Nat) (hn : H.n ≤ H''.n)
    (r0 : ∀ b, b < H.n → ρ b = some b) (r1 : ∀ b c, ρ b = some c → b < H''.n ∧ (H.n ≤ b → H.n ≤ c)) (ri : ∀ b1 b2 c, ρ b1 = some c → ρ b2 = some c → b1 = b2)
    (ro : ∀ b c o', ρ b = some c → H'.get c = some o' → (b = c ∧ b < H.n ∧ H.get b = some o' ∧ H''.get b = some o') ∨ ∃ o'', H''.get b = some o'' ∧ AOr ρ o'' o')
    (rv : (v'' = v ∧ Stood ng args H v) ∨ NV ρ v'' v) : ARun P ng f args H v'' H'' := by
  obtain ⟨h0, h1, h2⟩ := h
  refine ⟨h0, hn, fun σ w args' hr ha => ?_⟩
  refine (h2 σ w args' hr ha).mono ?_
  rintro e w' ⟨v', σ', rfl, k1, k2, k3⟩
  have old : ∀ b i, σ b = some i → b < H.n := fun b i hb => by
    obtain ⟨o, g, _⟩ := hr.obj b i hb
    exact AHeap.get_lt g
  have sub : σ.le (AM.via ρ σ') := fun b i hb => via_of (r0 b (old b i hb)) (k2.sub b i hb)
  have back : ∀ b i, b < H.n → σ' b = some i → σ b = some i := fun b i hb hs => by
    cases hsb : σ b with
    | none => have := (k2.new b i hsb hs).1.1; omega
    | some j => have := k2.sub b j hsb; rw [hs] at this; exact this.symm
  have meet_le : (meet σ' σ).le (AM.via ρ σ') := fun b i hb => by
    unfold meet at hb
    split at hb
    · rename_i hs
      obtain ⟨j, hj⟩ := Option.isSome_iff_exists.1 hs
      exact via_of (r0 b (old b j hj)) hb
    · cases hb
  have obj : ∀ b i, AM.via ρ σ' b = some i → ∃ c o'' o', ρ b = some c ∧ σ' c = some i ∧ H''.get b = some o'' ∧ H'.get c = some o' ∧ OR (AM.via ρ σ') w' i o'' ∧ (o''.own = true → o'.own = true) ∧ (o''.live = true → o'.live = true) := by
    intro b i hb
    obtain ⟨c, hc, hs⟩ := via_inv hb
    obtain ⟨o', g1, g2⟩ := k1.obj c i hs
    rcases ro b c o' hc g1 with ⟨rfl, hlt, e1, e2⟩ | ⟨o'', e1, e2⟩
    · refine ⟨b, o', o', hc, hs, e2, g1, ?_, fun x => x, fun x => x⟩
      have hsb := back b i hlt hs
      obtain ⟨o2, f1, f2⟩ := hr.obj b i hsb
      rw [e1] at f1; cases f1
      exact (g2.meet f2).mono meet_le
    · exact ⟨c, o'', o', hc, hs, e1, g1, e2.or g2, e2.own, e2.live⟩
  refine ⟨v', AM.via ρ σ', rfl, ⟨?_, ?_, ?_, ?_⟩, ⟨sub, ?_, ?_, ?_, k2.keep, k2.size, hn, k2.os, k2.tape, k2.output⟩, ?_⟩
  · intro b i hb
    obtain ⟨c, o'', o', _, _, e1, _, e2, _⟩ := obj b i hb
    exact ⟨o'', e1, e2⟩
  · intro b1 b2 i1 i2 o1 o2 hne hb1 hb2 ho1 ho2 hw hl
    obtain ⟨c1, p1, q1, a1, a2, a3, a4, _, a5, _⟩ := obj b1 i1 hb1
    obtain ⟨c2, p2, q2, d1, d2, d3, d4, _, _, d6⟩ := obj b2 i2 hb2
    rw [ho1] at a3; cases a3
    rw [ho2] at d3; cases d3
    exact k1.inj c1 c2 i1 i2 q1 q2 (fun hc => by subst hc; exact hne (ri b1 b2 c1 a1 d1)) a2 d2 a4 d4 (a5 hw) (d6 hl)
  · intro b i hb
    obtain ⟨c, _, hs⟩ := via_inv hb
    exact k1.lt c i hs
  · intro g hg
    obtain ⟨i, g1, g2, g3⟩ := hr.glob g hg
    exact ⟨i, sub g i g1, g2, g3⟩
  · intro b i hb hs
    obtain ⟨c, hc, hs'⟩ := via_inv hs
    by_cases hlt : b < H.n
    · have := r0 b hlt
      rw [hc] at this; cases this
      rw [back b i hlt hs'] at hb; cases hb
    · have hcn := (r1 b c hc).2 (by omega)
      have hsc : σ c = none := by
        cases hsc : σ c with
        | none => rfl
        | some j => have := old c j hsc; omega
      exact ⟨⟨by omega, (r1 b c hc).1⟩, (k2.new c i hsc hs').2⟩
  · intro b i o'' hb ho hw
    obtain ⟨c, p1, q1, a1, a2, a3, a4, _, a5, _⟩ := obj b i (sub b i hb)
    rw [r0 b (old b i hb)] at a1; cases a1
    rw [ho] at a3; cases a3
    exact k2.own b i q1 hb a4 (a5 hw)
  · intro b i o'' hb ho hw
    obtain ⟨c, p1, q1, a1, a2, a3, a4, _, _, a6⟩ := obj b i (sub b i hb)
    rw [r0 b (old b i hb)] at a1; cases a1
    rw [ho] at a3; cases a3
    exact k2.live b i q1 hb a4 (a6 hw)
  · rcases rv with ⟨rfl, hst⟩ | hrv
    · obtain ⟨x, hx⟩ := hst σ w args' hr ha
      exact (k3.meet hx).mono meet_le
    · exact hrv.via k3
theorem NV.plain {ρ : Nat → Option Nat} {v : Value} (h : plain1 v = true) : NV ρ v v := by
  unfold plain1 at h
  split at h <;> first | constructor | cases h
theorem NL.plain {ρ : Nat → Option Nat} : ∀ {l : List Value}, l.all plain1 = true → NL ρ l l
  | [], _ => .nil
  | v :: l, h => by
    simp only [List.all_cons, Bool.and_eq_true] at h
    exact .cons (NV.plain h.1) (NL.plain h.2)
theorem NL.get {ρ : Nat → Option Nat} {l l' : List Value} (h : NL ρ l l') : ∀ (i : Nat) (a : i < l.length) (b : i < l'.length), NV ρ l[i] l'[i] := by
  induction h with
  | nil => intro i a; simp at a
  | cons h _ ih =>
    intro i a b
    cases i with
    | zero => exact h
    | succ i => exact ih i (by simpa using a) (by simpa using b)
theorem NV.agg_of {ρ : Nat → Option Nat} {l l' : List Value} (h : NL ρ l l') : NV ρ (.agg l.toArray) (.agg l'.toArray) :=
  .agg _ _ (by simpa using h.length) (fun i a b => by simpa using h.get i (by simpa using a) (by simpa using b))
theorem NV.tuple_of {ρ : Nat → Option Nat} {l l' : List Value} (h : NL ρ l l') : NV ρ (.tuple l.toArray) (.tuple l'.toArray) :=
  .tuple _ _ (by simpa using h.length) (fun i a b => by simpa using h.get i (by simpa using a) (by simpa using b))
def rho (n : Nat) (bs : List Nat) : Nat → Option Nat := fun b => if b < n then some b else bs[b - n]?
theorem rho_old {n : Nat} {bs : List Nat} {b : Nat} (h : b < n) : rho n bs b = some b := by unfold rho; rw [if_pos h]
theorem ARun.gc0 (h : ARun P ng f args H v H') (k : Keeps H H') (hv : Stood ng args H v ∨ NV (rho H.n []) v v) : ARun P ng f args H v H := by
  refine h.gc (rho H.n []) (Nat.le_refl _) (fun b hb => rho_old hb) ?_ ?_ ?_ ?_
  · intro b c hb
    unfold rho at hb
    split at hb
    · cases hb; exact ⟨by assumption, by omega⟩
    · simp at hb
  · intro b1 b2 c h1 h2
    unfold rho at h1 h2
    split at h1 <;> split at h2 <;> simp_all
  · intro b c o' hb ho
    unfold rho at hb
    split at hb
    · rename_i hlt
      cases hb
      have := k.get b hlt
      rw [ho] at this
      exact .inl ⟨rfl, hlt, this.symm, this.symm⟩
    · simp at hb
  · rcases hv with hv | hv
    · exact .inl ⟨rfl, hv⟩
    · exact .inr hv
structure OB (e : Nat) (H K : AHeap) (v : Value) (l : List UInt8) : Prop where
  ap : AP K e 1 v l.length (cellsOf l)
  k : Keeps H K
  f : Fresh H.n v
theorem OB.bs {e : Nat} {H K : AHeap} {v : Value} {l : List UInt8} (h : OB e H K v l) : BS K v l := h.ap.bs
theorem OB.keeps {e : Nat} {H K K' : AHeap} {v : Value} {l : List UInt8} (h : OB e H K v l) (k : Keeps K K') : OB e H K' v l := ⟨h.ap.keeps k, h.k.trans k, h.f⟩
theorem OB.base {e : Nat} {H0 H K : AHeap} {v : Value} {l : List UInt8} (h : OB e H K v l) (k : Keeps H0 H) : OB e H0 K v l := ⟨h.ap, k.trans h.k, fun b hb => Nat.le_trans k.n (h.f b hb)⟩
theorem OB.nil (e : Nat) (H : AHeap) : OB e H H (.slice none 0 0) [] := ⟨.inl ⟨rfl, rfl, rfl⟩, Keeps.refl _, fun b hb => by cases hb⟩
theorem OB.one {e : Nat} {H K : AHeap} {v : Value} {l : List UInt8} (h : OB e H K v l) : v.oneCell' = true := by obtain ⟨a, rfl⟩ := h.ap.shape; rfl
theorem OB.is {e : Nat} {H K : AHeap} {v : Value} {l : List UInt8} (h : OB e H K v l) : isS v = true := by obtain ⟨a, rfl⟩ := h.ap.shape; rfl
theorem OB.len {e : Nat} {H K : AHeap} {v : Value} {l : List UInt8} (h : OB e H K v l) : lenS v = l.length := by obtain ⟨a, rfl⟩ := h.ap.shape; rfl
theorem OB.grow {e : Nat} {H K K' : AHeap} {v v' : Value} {l m : List UInt8} (h : OB e H K v l) (a : AP K' e 1 v' (l.length + m.length) (cellsOf l ++ cellsOf m)) (c : Chg (blkL v) K K') (hb : blk v' = blk v ∨ blk v' = some K.n) : OB e H K' v' (l ++ m) := by
  refine ⟨by rw [List.length_append, cellsOf_append]; exact a, h.k.chg_trans c (fun x hx => h.f x (mem_blkL.1 hx)), fun b hb' => ?_⟩
  rcases hb with e1 | e1
  · exact h.f b (by rw [← e1]; exact hb')
  · rw [e1] at hb'; cases hb'; exact h.k.n
section
variable {KF : List Value → AHeap → Prop} {fr tm : List Value} {tr : List TE} {K : AHeap}
theorem OB.appR {d : D} {r : List AOper} {e : Nat} {s x : Value} {l m : List UInt8} (h : OB e H K s l) (hx : BS K x m) (hs : l.length + m.length ≤ 1000000000)
    (hk : ∀ v' K', OB e H K' v' (l ++ m) → RW P ng r (d.frame v' fr) (d.temps v' tm) K' KF) : goR P ng (asem (.app e 1 1 s x) K) d r fr tm KF :=
  appG h.ap hx.sh hx.el (by rw [cellsOf_length, Nat.mul_one]) (by omega) (fun v' K' a c hb => hk v' K' (h.grow a c hb))
end
end Go.AM

set_option linter.unusedSimpArgs false
set_option linter.unusedVariables false
namespace Go.AM
def WR (H : AHeap) (e esz : Nat) (v : Value) (n : Nat) (c : List Value) : Prop :=
  (v = .slice none 0 0 ∧ n = 0 ∧ c = []) ∨ ∃ b k room d, v = slc b 0 n k ∧ n ≤ k ∧ d.length = k * esz ∧ d.take (n * esz) = c ∧ H.get b = some (.cells true room esz d e)
section
variable {H H' : AHeap} {e esz : Nat} {v : Value} {n : Nat} {c : List Value}
theorem AP.wr (h : AP H e esz v n c) : WR H e esz v n c := by
  rcases h with h | ⟨b, room, rfl, h1, h2⟩
  · exact .inl h
  · exact .inr ⟨b, n, room, c, rfl, Nat.le_refl _, h1, by rw [← h1, List.take_length], h2⟩
theorem WR.len (h : WR H e esz v n c) : c.length = n * esz := by
  rcases h with ⟨rfl, rfl, rfl⟩ | ⟨b, k, room, d, rfl, h1, h2, rfl, h4⟩
  · simp
  · have := Nat.mul_le_mul_right esz h1
    rw [List.length_take, h2]; omega
theorem WR.elems (h : WR H e esz v n c) : elemsA H esz v = some c := by
  rcases h with ⟨rfl, rfl, rfl⟩ | ⟨b, k, room, d, rfl, h1, h2, rfl, h4⟩
  · rfl
  · have := Nat.mul_le_mul_right esz h1
    simp only [elemsA, slc, h4]
    rw [if_pos (by omega), List.drop_zero]
theorem WR.shape (h : WR H e esz v n c) : ∃ a k, v = .slice a n k := by
  rcases h with ⟨rfl, rfl, rfl⟩ | ⟨b, k, room, d, rfl, h1, h2, h3, h4⟩
  · exact ⟨_, _, rfl⟩
  · exact ⟨_, _, rfl⟩
theorem WR.is (h : WR H e esz v n c) : isS v = true := by obtain ⟨a, k, rfl⟩ := h.shape; rfl
theorem WR.lenS (h : WR H e esz v n c) : Go.AM.lenS v = n := by obtain ⟨a, k, rfl⟩ := h.shape; rfl
theorem WR.one (h : WR H e esz v n c) : v.oneCell' = true := by obtain ⟨a, k, rfl⟩ := h.shape; rfl
theorem WR.lt (h : WR H e esz v n c) {b : Nat} (hb : blk v = some b) : b < H.n := by
  rcases h with ⟨rfl, rfl, rfl⟩ | ⟨b', k, room, d, rfl, h1, h2, h3, h4⟩
  · cases hb
  · cases hb; exact AHeap.get_lt h4
theorem WR.chg {S : List Nat} (h : WR H e esz v n c) (k : Chg S H H') (hS : ∀ x ∈ blkL v, x ∉ S) : WR H' e esz v n c := by
  rcases h with h | ⟨b, m, room, d, rfl, h1, h2, h3, h4⟩
  · exact .inl h
  · exact .inr ⟨b, m, room, d, rfl, h1, h2, h3, k.at_ h4 (hS b (mem_blkL.2 rfl))⟩
theorem WR.keeps (h : WR H e esz v n c) (k : Keeps H H') : WR H' e esz v n c := h.chg (k.chg []) (by simp)
theorem WR.sl {rows : List (List Value)} (h : WR H e esz v n rows.flatten) (hr : ∀ r ∈ rows, r.length = esz) (hn : n = rows.length) : Sl H esz v rows := by
  obtain ⟨a, k, rfl⟩ := h.shape
  exact ⟨⟨a, k, by rw [hn]⟩, hr, h.elems⟩
theorem WR.app {bytes m : Nat} {news : List Value} (h : WR H e esz v n c) (hm : news.length = m * esz) (hs : (n + m) * bytes ≤ 140737488355328 ∧ n + m ≤ 140737488355328) :
    ∃ v' H', appA H e esz bytes v m news = some (v', H') ∧ WR H' e esz v' (n + m) (c ++ news) ∧ Chg (blkL v) H H' ∧ (blk v' = blk v ∨ blk v' = some H.n) := by
  rcases h with ⟨rfl, rfl, rfl⟩ | ⟨b, k, room, d, rfl, h1, h2, h3, h4⟩
  · obtain ⟨v', H', a, b, d⟩ := AP.app (H := H) (e := e) (esz := esz) (v := .slice none 0 0) (n := 0) (c := []) (.inl ⟨rfl, rfl, rfl⟩) hm hs
    exact ⟨v', H', a, b.wr, d⟩
  · simp only [appA, slc]
    by_cases hm0 : m = 0
    · subst hm0
      have : news = [] := by rw [← List.length_eq_zero_iff]; omega
      subst this
      rw [if_pos rfl]
      exact ⟨_, _, rfl, .inr ⟨b, k, room, d, rfl, h1, h2, by simpa using h3, h4⟩, Chg.refl _ _, .inl rfl⟩
    · have hle := Nat.mul_le_mul_right esz h1
      have hc : c.length = n * esz := by rw [← h3, List.length_take, h2]; omega
      have hnm : (n + m) * esz = n * esz + m * esz := Nat.add_mul _ _ _
      rw [if_neg hm0, if_pos hs]
      simp only [h4, true_and]
      rw [if_pos (show 0 + k * esz ≤ d.length by omega)]
      by_cases hk : n + m ≤ k
      · have hle2 := Nat.mul_le_mul_right esz hk
        rw [if_pos hk]
        simp only [if_true]
        refine ⟨_, _, rfl, .inr ⟨b, k, room, _, rfl, hk, ?_, ?_, AHeap.get_set_same h4 _⟩, Chg.set H (AHeap.get_lt h4) _, .inl rfl⟩
        · rw [List.length_append, List.length_append, List.length_take, List.length_drop, hm]; omega
        · rw [Nat.zero_add, h3, List.take_append_of_le_length (by rw [List.length_append, hc, hm]; omega), List.take_of_length_le (by rw [List.length_append, hc, hm]; omega)]
      · rw [if_neg hk, List.drop_zero, h3]
        have hlen : (c ++ news).length = (n + m) * esz := by rw [List.length_append, hc, hm, Nat.add_mul]
        split
        · exact ⟨_, _, rfl, .inr ⟨H.n, n + m, true, _, rfl, Nat.le_refl _, hlen, by rw [← hlen, List.take_length], AHeap.get_alloc_new H _⟩, (Chg.refl _ _).alloc _, .inr rfl⟩
        · exact ⟨_, _, rfl, .inr ⟨H.n, n + m, true, _, rfl, Nat.le_refl _, hlen, by rw [← hlen, List.take_length], AHeap.get_alloc_new (H.set b .dead) _⟩, (Chg.set H (AHeap.get_lt h4) _).alloc _, .inr rfl⟩
end
section
variable {P : Program} {ng : Nat} {H : AHeap} {KF : List Value → AHeap → Prop} {fr tm : List Value} {tr : List TE} {e esz : Nat} {v : Value} {n : Nat} {c : List Value}
theorem WR.appR {d : D} {r : List AOper} {bytes : Nat} {x : Value} {m : Nat} {news : List Value} (h : WR H e esz v n c) (hx : ∃ a k, x = .slice a m k) (h1 : elemsA H esz x = some news) (hm : news.length = m * esz)
    (hs : (n + m) * bytes ≤ 140737488355328 ∧ n + m ≤ 140737488355328)
    (hk : ∀ v' H', WR H' e esz v' (n + m) (c ++ news) → Chg (blkL v) H H' → (blk v' = blk v ∨ blk v' = some H.n) → RW P ng r (d.frame v' fr) (d.temps v' tm) H' KF) : goR P ng (asem (.app e esz bytes v x) H) d r fr tm KF := by
  obtain ⟨v', H', e1, e2, e3, e4⟩ := h.app (bytes := bytes) hm hs
  obtain ⟨a, k, rfl⟩ := hx
  refine ⟨v', H', ?_, hk v' H' e2 e3 e4⟩
  simp only [asem, h1]; exact e1
end
end Go.AM

set_option linter.unusedSimpArgs false
set_option linter.unusedVariables false
namespace Go.AM
structure SepH (H K : AHeap) (ts : List Th) : Prop where
  sep : Sep K ts
  k : Keeps H K
  ge : ∀ t ∈ ts, ∀ y ∈ t.F, H.n ≤ y
section
variable {H K K' : AHeap} {t t' a b c d : Th} {r ts : List Th}
theorem SepH.keeps (h : SepH H K ts) (k : Keeps K K') : SepH H K' ts := ⟨h.sep.keeps k, h.k.trans k, h.ge⟩
theorem SepH.upd {l : List Th} (h : SepH H K (l ++ t :: r)) (c : Chg t.F K K') (hp : t'.P K') (hf : ∀ y ∈ t'.F, y ∈ t.F ∨ K.n ≤ y) : SepH H K' (l ++ t' :: r) := by
  refine ⟨h.sep.upd c hp hf, h.k.chg_trans c (fun y hy => h.ge t (by simp) y hy), fun x hx y hy => ?_⟩
  rcases List.mem_append.1 hx with hx | hx
  · exact h.ge x (by simp [hx]) y hy
  · rcases List.mem_cons.1 hx with rfl | hx
    · rcases hf y hy with e | e
      · exact h.ge t (by simp) y e
      · have := h.k.n; omega
    · exact h.ge x (by simp [hx]) y hy
theorem SepH.u0 (h : SepH H K (t :: r)) (c : Chg t.F K K') (hp : t'.P K') (hf : ∀ y ∈ t'.F, y ∈ t.F ∨ K.n ≤ y) : SepH H K' (t' :: r) := h.upd (l := []) c hp hf
theorem SepH.u1 (h : SepH H K (a :: t :: r)) (c : Chg t.F K K') (hp : t'.P K') (hf : ∀ y ∈ t'.F, y ∈ t.F ∨ K.n ≤ y) : SepH H K' (a :: t' :: r) := h.upd (l := [a]) c hp hf
theorem SepH.u2 (h : SepH H K (a :: b :: t :: r)) (c : Chg t.F K K') (hp : t'.P K') (hf : ∀ y ∈ t'.F, y ∈ t.F ∨ K.n ≤ y) : SepH H K' (a :: b :: t' :: r) := h.upd (l := [a, b]) c hp hf
theorem SepH.u3 (h : SepH H K (a :: b :: c :: t :: r)) (ch : Chg t.F K K') (hp : t'.P K') (hf : ∀ y ∈ t'.F, y ∈ t.F ∨ K.n ≤ y) : SepH H K' (a :: b :: c :: t' :: r) := h.upd (l := [a, b, c]) ch hp hf
theorem SepH.u4 (h : SepH H K (a :: b :: c :: d :: t :: r)) (ch : Chg t.F K K') (hp : t'.P K') (hf : ∀ y ∈ t'.F, y ∈ t.F ∨ K.n ≤ y) : SepH H K' (a :: b :: c :: d :: t' :: r) := h.upd (l := [a, b, c, d]) ch hp hf
theorem SepH.at_ (h : SepH H K ts) (i : Nat) (hi : ts[i]? = some t) : t.P K := h.sep.get i hi
theorem SepH.apart (h : SepH H K ts) (i j : Nat) (hij : i < j) (hi : ts[i]? = some a) (hj : ts[j]? = some b) {y : Nat} (hy : y ∈ a.F) : y ∉ b.F := h.sep.apart i j hij hi hj y hy
theorem SepH.lt (h : SepH H K ts) (i : Nat) (hi : ts[i]? = some t) {y : Nat} (hy : y ∈ t.F) : y < K.n := t.lt K (h.at_ i hi) y hy
theorem SepH.gei (h : SepH H K ts) (i : Nat) (hi : ts[i]? = some t) {y : Nat} (hy : y ∈ t.F) : H.n ≤ y := h.ge t (List.mem_of_getElem? hi) y hy
theorem SepH.old (h : SepH H K ts) (i : Nat) (hi : ts[i]? = some t) {y : Nat} (hy : y < H.n) : y ∉ t.F := fun hf => by have := h.gei i hi hf; omega
theorem SepH.add (h : SepH H K ts) (k : Keeps K K') (hp : t.P K') (hf : ∀ y ∈ t.F, K.n ≤ y) : SepH H K' (t :: ts) :=
  ⟨h.sep.add k hp hf, h.k.trans k, fun x hx y hy => by
    rcases List.mem_cons.1 hx with rfl | hx
    · have := hf y hy; have := h.k.n; omega
    · exact h.ge x hx y hy⟩
theorem SepH.nil (H : AHeap) : SepH H H [] := ⟨Sep.nil H, Keeps.refl H, by simp⟩
theorem SepH.perm {us : List Th} (h : SepH H K ts) (p : ts.Perm us) : SepH H K us := ⟨h.sep.perm p, h.k, fun t ht => h.ge t (p.mem_iff.2 ht)⟩
end
def thA (e esz : Nat) (v : Value) (n : Nat) (c : List Value) : Th where
  P K := AP K e esz v n c
  F := blkL v
  lt K h y hy := h.lt (mem_blkL.1 hy)
  st K K' h hn k := by
    rcases h with ⟨rfl, rfl, rfl⟩ | ⟨b, room, rfl, h1, h2⟩
    · exact .inl ⟨rfl, rfl, rfl⟩
    · exact .inr ⟨b, room, rfl, h1, by rw [k b (mem_blkL.2 rfl)]; exact h2⟩
end Go.AM

set_option linter.unusedSimpArgs false
set_option linter.unusedVariables false
namespace Go.AM
def cpre : Nat → ACode → ACode
  | 0, _ => .skip
  | 1, .seq a _ => a
  | n + 2, .seq a b => .seq a (cpre (n + 1) b)
  | _ + 1, c => c
def cpost : Nat → ACode → ACode
  | 0, c => c
  | n + 1, .seq _ b => cpost n b
  | _ + 1, _ => .skip
def cok : Nat → ACode → Bool
  | 0, _ => false
  | 1, .seq _ _ => true
  | n + 2, .seq _ b => cok (n + 1) b
  | _ + 1, _ => false
variable {P : Program} {ng : Nat} {H : AHeap} {Q : AQ} {fr : List Value}
theorem andThen2 (Q : AQ) (K K' : List Value → AHeap → Prop) : (Q.andThen K).andThen K' = Q.andThen K' := by
  funext e fr H
  cases e <;> rfl
theorem W_pp : ∀ (n : Nat) (c : ACode) (Q : AQ) (fr : List Value) (H : AHeap), cok n c = true → W P ng c Q fr H = W P ng (cpre n c) (Q.andThen (W P ng (cpost n c) Q)) fr H
  | 0, c, Q, fr, H, h => by simp [cok] at h
  | 1, c, Q, fr, H, h => by
    cases c <;> simp [cok] at h
    rfl
  | n + 2, c, Q, fr, H, h => by
    cases c <;> simp [cok] at h
    rename_i a b
    simp only [cpre, cpost, W_seq]
    rw [andThen2]
    congr 1
    funext e fr H
    cases e
    · exact W_pp (n + 1) b Q fr H h
    all_goals rfl
theorem W_part {c : ACode} (n : Nat) (M : List Value → AHeap → Prop) (hok : cok n c = true)
    (h1 : ∀ Q' : AQ, (∀ fr H, M fr H → Q' .normal fr H) → (∀ i fr H, Q (.exit i) fr H → Q' (.exit i) fr H) → (∀ fr H, Q .ret fr H → Q' .ret fr H) → W P ng (cpre n c) Q' fr H)
    (h2 : ∀ fr H, M fr H → W P ng (cpost n c) Q fr H) : W P ng c Q fr H := by
  rw [W_pp n c Q fr H hok]
  exact h1 _ (fun fr H h => h2 fr H h) (fun _ _ _ h => h) (fun _ _ h => h)
end Go.AM

set_option linter.unusedSimpArgs false
set_option linter.unusedVariables false
namespace Go.AM
section
variable {P : Program} {ng : Nat} {H : AHeap} {Q : AQ} {fr tm : List Value}
theorem str_emp : ByteArray.empty = ⟨([] : List UInt8).toArray⟩ := _root_.id rfl
theorem str_ext (l : List UInt8) (a b : Nat) : (⟨l.toArray⟩ : ByteArray).extract a b = ⟨((l.take b).drop a).toArray⟩ := by
  apply ByteArray.ext
  rw [ByteArray.data_extract, List.drop_take]
  simp [List.extract_eq_take_drop]
theorem str_size (l : List UInt8) : (⟨l.toArray⟩ : ByteArray).size = l.length := by simp [ByteArray.size]
theorem a_slsT {l : List UInt8} {n : Nat} {kd : IntKind} (h : n ≤ l.length) : asem (.slstr (.string ⟨l.toArray⟩) (some (.int kd (n : Int))) none) H = some (.string ⟨(l.drop n).toArray⟩, H) := by
  simp only [asem, bndA, str_size]
  rw [if_pos (by omega)]
  simp [str_ext]
theorem a_slsP {l : List UInt8} {n : Nat} {kd : IntKind} (h : n ≤ l.length) : asem (.slstr (.string ⟨l.toArray⟩) none (some (.int kd (n : Int)))) H = some (.string ⟨(l.take n).toArray⟩, H) := by
  simp only [asem, bndA, str_size]
  rw [if_pos (by omega)]
  simp [str_ext]
theorem a_slsM {l : List UInt8} {n m : Nat} {kd kd' : IntKind} (h : n ≤ m) (h2 : m ≤ l.length) : asem (.slstr (.string ⟨l.toArray⟩) (some (.int kd (n : Int))) (some (.int kd' (m : Int)))) H = some (.string ⟨((l.take m).drop n).toArray⟩, H) := by
  simp only [asem, bndA, str_size]
  rw [if_pos (by omega)]
  simp only
  rw [if_pos (by omega)]
  simp [str_ext]
theorem a_idxS {l : List UInt8} {n : Nat} {kd : IntKind} (h : n < l.length) : asem (.idxs (.string ⟨l.toArray⟩) (.int kd (n : Int))) H = some (.int .u8 ((l.getD n 0).toNat : Nat), H) := by
  simp only [asem, str_size]
  rw [if_pos (by omega)]
  simp [List.getD, List.getElem?_eq_getElem h]
theorem a_idxS0 {l : List UInt8} {kd : IntKind} (h : 0 < l.length) : asem (.idxs (.string ⟨l.toArray⟩) (.int kd 0)) H = some (.int .u8 ((l.getD 0 0).toNat : Nat), H) := a_idxS (n := 0) h
theorem b_eqS (a b : List UInt8) : binA .eql (.string ⟨a.toArray⟩) (.string ⟨b.toArray⟩) = some (.bool (decide (a = b))) := by rw [b_seql, bytes_eq]
theorem st_callvy (b : Nat) (xs : List Value) (d : D) (r : List AOper) (KF : List Value → AHeap → Prop) : stR P ng (.callv (.chan (some b)) xs) d r fr tm H KF = ∃ v H', AYield P ng b xs H v H' ∧ RW P ng r (d.frame v fr) (d.temps v tm) H' KF := _root_.id rfl
theorem yieldK {b : Nat} {xs : List Value} {R K : Value → AHeap → Prop} (h : ∃ v H', AYield P ng b xs H v H' ∧ R v H') (k : ∀ v H', R v H' → K v H') : ∃ v H', AYield P ng b xs H v H' ∧ K v H' := by
  obtain ⟨v, H', h1, h2⟩ := h; exact ⟨v, H', h1, k v H' h2⟩
theorem arun_ext {f : FuncId} {fn : Func} {e : Array Value → Sem Value} (hf : P.funcs[f]? = some fn) (hname : (fn.name == "runtime.NumGoroutine") = false) (hb : fn.body.isNone = true) (hn : Extern.findNext fn = none) (he : Extern.find fn = some e)
    {args : List Value} {v : Value} (hv : ∀ σ, VR σ v v) (h : ∀ σ w args', VL σ args args' → (e args'.toArray).run P w = .ok v w) : ARun P ng f args H v H := by
  refine ⟨⟨fn, hf⟩, Nat.le_refl _, fun σ w args' hr ha => ?_⟩
  refine .ext v w ?_ ⟨v, σ, rfl, hr, Ext.refl _ _ _ _, hv σ⟩
  rw [run_callFunc_extern hf hname hb hn he, h σ w args' ha]
  rfl
end
def ixB (c : UInt8) : List UInt8 → Option Nat
  | [] => none
  | x :: l => if x = c then some 0 else (ixB c l).map (· + 1)
def ixI (c : UInt8) (l : List UInt8) : Int := match ixB c l with
  | some i => (i : Int)
  | none => -1
theorem ixB_find (c : UInt8) (l : List UInt8) : l.findIdx? (· == c) = ixB c l := by
  induction l with
  | nil => rfl
  | cons x l ih =>
    simp only [List.findIdx?_cons, ixB, ih]
    by_cases h : x = c <;> simp [h]
theorem find_range {α : Type} (p : α → Bool) : ∀ (l : List α) (q : Nat → Bool), (∀ i (h : i < l.length), q i = p l[i]) → (List.range l.length).find? q = l.findIdx? p
  | [], q, h => rfl
  | x :: l, q, h => by
    rw [List.length_cons, List.range_succ_eq_map, List.find?_cons, List.findIdx?_cons]
    rw [h 0 (by simp)]
    simp only [List.getElem_cons_zero]
    cases p x with
    | true => rfl
    | false =>
      simp only [List.find?_map]
      rw [find_range p l (q ∘ Nat.succ) (fun i hi => by
        have h1 := h (i + 1) (by simpa using hi)
        rw [List.getElem_cons_succ] at h1
        exact h1)]
      cases l.findIdx? p <;> simp
theorem first_ix (l : List UInt8) (c : UInt8) : firstIdx ⟨l.toArray⟩ c = ixI c l := by
  unfold firstIdx ixI
  rw [← ixB_find, str_size, find_range (fun x => x == c) l]
  · cases l.findIdx? (· == c) <;> rfl
  · intro i h
    have : (⟨l.toArray⟩ : ByteArray)[i]! = l[i] := by
      rw [getElem!_pos (⟨l.toArray⟩ : ByteArray) i (by rw [str_size]; exact h)]
      rfl
    rw [this]
theorem ixB_some {c : UInt8} : ∀ {l : List UInt8} {i : Nat}, ixB c l = some i → i < l.length ∧ l.getD i 0 = c ∧ ∀ j, j < i → l.getD j 0 ≠ c
  | x :: l, i, h => by
    simp only [ixB] at h
    split at h
    · rename_i hx
      cases h
      exact ⟨by simp, by simpa using hx, fun j hj => absurd hj (by omega)⟩
    · rename_i hx
      simp only [Option.map_eq_some_iff] at h
      obtain ⟨k, hk, rfl⟩ := h
      obtain ⟨h1, h2, h3⟩ := ixB_some hk
      refine ⟨by simpa using h1, by simpa using h2, fun j hj => ?_⟩
      cases j with
      | zero => simpa using hx
      | succ j => simpa using h3 j (by omega)
theorem ixB_none {c : UInt8} : ∀ {l : List UInt8}, ixB c l = none → c ∉ l
  | [], _ => by simp
  | x :: l, h => by
    simp only [ixB] at h
    split at h
    · cases h
    · rename_i hx
      simp only [Option.map_eq_none_iff] at h
      simp only [List.mem_cons, not_or]
      exact ⟨fun e => hx e.symm, ixB_none h⟩
theorem ixB_le {c : UInt8} {l : List UInt8} {i : Nat} (h : ixB c l = some i) : i < l.length := (ixB_some h).1
theorem blen (ba : ByteArray) : ba.data.toList.length = ba.size := Array.length_toList
theorem bloop {β : Type} (f : β → UInt8 → β) (ba : ByteArray) : ∀ (i j : Nat) (b : β), j + i = ba.size →
    ByteArray.foldlM.loop (m := _root_.Id) (fun b x => pure (f b x)) ba ba.size (Nat.le_refl _) i j b = (ba.data.toList.drop j).foldl f b := by
  intro i
  induction i with
  | zero =>
    intro j b h
    unfold ByteArray.foldlM.loop
    rw [dif_neg (by omega), List.drop_of_length_le (by rw [blen]; omega)]
    rfl
  | succ i ih =>
    intro j b h
    unfold ByteArray.foldlM.loop
    have hj : j < ba.size := by omega
    rw [dif_pos hj]
    have hl : j < ba.data.toList.length := by rw [blen]; exact hj
    rw [List.drop_eq_getElem_cons hl, List.foldl_cons]
    exact ih (j + 1) _ (by omega)
theorem bfold {β : Type} (f : β → UInt8 → β) (ba : ByteArray) (b : β) : ba.foldl f b = ba.data.toList.foldl f b := by
  unfold ByteArray.foldl ByteArray.foldlM
  rw [dif_pos (Nat.le_refl _)]
  exact bloop f ba ba.size 0 b (by omega)
def cB (c : UInt8) : List UInt8 → Nat
  | [] => 0
  | x :: l => if x = c then cB c l + 1 else cB c l
theorem cB_fold (c : UInt8) : ∀ (l : List UInt8) (n : Int), l.foldl (fun (n : Int) x => if x == c then n + 1 else n) n = n + (cB c l : Int)
  | [], n => by simp [cB]
  | x :: l, n => by
    rw [List.foldl_cons, cB_fold]
    by_cases h : x = c
    · have e : cB c (x :: l) = cB c l + 1 := by simp [cB, h]
      rw [e, if_pos (by simpa using h)]; push_cast; omega
    · have e : cB c (x :: l) = cB c l := by simp [cB, h]
      rw [e, if_neg (by simpa using h)]
theorem cB_le (c : UInt8) : ∀ l : List UInt8, cB c l ≤ l.length
  | [] => Nat.le_refl _
  | x :: l => by
    have := cB_le c l
    simp only [cB, List.length_cons]
    split <;> omega
theorem run_count_string {P : Program} (l : List UInt8) (c : Int) (w : World) :
    (Extern.BytealgCount.count #[.string ⟨l.toArray⟩, .int .u8 c]).run P w = .ok (.int .i64 ((cB c.toNat.toUInt8 l : Nat) : Int)) w := by
  change Sem.run P (do
    let b ← Extern.Bytes.bytesOf (.string ⟨l.toArray⟩)
    let c' ← Extern.Bytes.asByte (.int .u8 c)
    pure (goInt (b.foldl (fun n x => if x == c' then n + 1 else n) ((0 : Nat) : Int)))) w = _
  simp only [Extern.Bytes.bytesOf, Extern.Bytes.asByte, Sem.run_bind, Sem.run_pure, Result.andThen_ok, bfold, cB_fold]
  simp [goInt]
def splitB (c : UInt8) : List UInt8 → List (List UInt8)
  | [] => [[]]
  | x :: l => if x = c then [] :: splitB c l else match splitB c l with
    | p :: r => (x :: p) :: r
    | [] => [[x]]
theorem splitB_ne (c : UInt8) (l : List UInt8) : splitB c l ≠ [] := by
  cases l with
  | nil => simp [splitB]
  | cons x l =>
    simp only [splitB]
    split
    · simp
    · split <;> simp
theorem splitB_ix {c : UInt8} : ∀ {l : List UInt8}, splitB c l = match ixB c l with
    | some i => l.take i :: splitB c (l.drop (i + 1))
    | none => [l]
  | [] => rfl
  | x :: l => by
    simp only [splitB, ixB]
    split
    · simp
    · rw [splitB_ix (l := l)]
      cases ixB c l <;> simp
theorem splitB_cB (c : UInt8) : ∀ l : List UInt8, (splitB c l).length = cB c l + 1
  | [] => rfl
  | x :: l => by
    have ih := splitB_cB c l
    simp only [splitB, cB]
    split
    · simp [ih]
    · split
      · rename_i p r h; rw [h] at ih; simpa using ih
      · rename_i h; exact absurd h (splitB_ne c l)
end Go.AM

set_option linter.unusedSimpArgs false
set_option linter.unusedVariables false
namespace Go.AM.Fd
open Nat (reduceAdd reduceEqDiff reduceLT reduceLeDiff reduceMul reduceSub)
open Go.Proofs Go.AM.F
noncomputable def ibsF : Func := (Go.Proofs.Tryd.prog.funcs[99]?).getD default
theorem ibs_f : Go.Proofs.Tryd.prog.funcs[99]? = some ibsF := by kernel_rfl
theorem ibs_n : (ibsF.name == "runtime.NumGoroutine") = false := by kernel_rfl
theorem ibs_b : ibsF.body.isNone = true := by kernel_rfl
theorem ibs_x : Extern.findNext ibsF = none := by kernel_rfl
theorem ibs_e : Extern.find ibsF = some Extern.BytealgIndexByte.indexByte := by kernel_rfl
theorem t99 (H : AHeap) (l : List UInt8) (c : Nat) : ∃ w H', ARun Go.Proofs.Tryd.prog 4 99 [.string ⟨l.toArray⟩, .int .u8 (c : Int)] H w H' ∧ w = .int .i64 (ixI (UInt8.ofNat c) l) ∧ H' = H := by
  refine ⟨_, _, arun_ext ibs_f ibs_n ibs_b ibs_x ibs_e (fun σ => .int .i64 (ixI (UInt8.ofNat c) l)) ?_, rfl, rfl⟩
  intro σ w args' hv
  cases hv with
  | cons a hv =>
    cases hv with
    | cons b hv =>
      cases hv
      cases a
      cases b
      have := run_indexByte_string (P := Go.Proofs.Tryd.prog) ⟨l.toArray⟩ (c : Int) w
      rw [first_ix] at this
      exact this
theorem t95 (H : AHeap) (l : List UInt8) (c : Nat) : ∃ w H', ARun Go.Proofs.Tryd.prog 4 95 [.string ⟨l.toArray⟩, .int .u8 (c : Int)] H w H' ∧ w = .int .i64 (ixI (UInt8.ofNat c) l) ∧ H' = H := by
  refine walk2 f95_ok f95_n ?_
  intro Q hq1 hq2
  simp (disch := first | assumption | omega | (simp only [LN] <;> omega) | (simp (disch := first | assumption | omega | (simp only [LN] <;> omega)) only [row_alloc, row_set]; assumption)) only [f95, W_block, P3, ↓reduceIte, reduceAdd, reduceEqDiff, reduceCtorEq, initFr, reduceLT, clsA, reduceLeDiff, reduceMul, reduceSub, reduceIte]
  refine callK (t99 H l c) ?_
  rintro _ K ⟨rfl, rfl⟩
  simp (disch := first | assumption | omega | (simp only [LN] <;> omega) | (simp (disch := first | assumption | omega | (simp only [LN] <;> omega)) only [row_alloc, row_set]; assumption)) only [W_block, P3, ↓reduceIte, reduceAdd, reduceEqDiff, reduceCtorEq, initFr, reduceLT, clsA, reduceLeDiff, reduceMul, reduceSub, reduceIte]
  exact hq2 _ _ ⟨_, rfl, rfl, rfl⟩
theorem t89 (H : AHeap) (l : List UInt8) (c : UInt8) : ∃ w H', ARun Go.Proofs.Tryd.prog 4 89 [.string ⟨l.toArray⟩, .string ⟨[c].toArray⟩] H w H' ∧ w = .int .i64 (ixI c l) ∧ H' = H := by
  refine walk2 f89_ok f89_n ?_
  intro Q hq1 hq2
  have e0 : (((1 : Nat) : Int) == 0) = false := by simp
  have e1 : (((1 : Nat) : Int) == 1) = true := by simp
  have e2 : [c].getD 0 0 = c := rfl
  have hl : 0 < [c].length := by simp
  by_cases hc : [c] = l
  · have e3 : decide ([c] = l) = true := by simpa using hc
    simp (disch := first | assumption | omega | (simp only [LN] <;> omega) | (simp (disch := first | assumption | omega | (simp only [LN] <;> omega)) only [row_alloc, row_set]; assumption)) only [f89, W_block, P3, ↓reduceIte, reduceAdd, reduceEqDiff, reduceCtorEq, initFr, reduceLT, clsA, reduceLeDiff, reduceMul, reduceSub, reduceIte, a_idxS0, e0, e1, e2, e3, bytes_eq]
    exact hq2 _ _ ⟨_, rfl, by rw [← hc]; simp [ixI, ixB]; rfl, rfl⟩
  · have e3 : decide ([c] = l) = false := by simpa using hc
    simp (disch := first | assumption | omega | (simp only [LN] <;> omega) | (simp (disch := first | assumption | omega | (simp only [LN] <;> omega)) only [row_alloc, row_set]; assumption)) only [f89, W_block, P3, ↓reduceIte, reduceAdd, reduceEqDiff, reduceCtorEq, initFr, reduceLT, clsA, reduceLeDiff, reduceMul, reduceSub, reduceIte, a_idxS0, e0, e1, e2, e3, bytes_eq]
    refine callK (t95 H l c.toNat) ?_
    rintro _ K ⟨rfl, rfl⟩
    simp (disch := first | assumption | omega | (simp only [LN] <;> omega) | (simp (disch := first | assumption | omega | (simp only [LN] <;> omega)) only [row_alloc, row_set]; assumption)) only [W_block, P3, ↓reduceIte, reduceAdd, reduceEqDiff, reduceCtorEq, initFr, reduceLT, clsA, reduceLeDiff, reduceMul, reduceSub, reduceIte, UInt8.ofNat_toNat]
    exact hq2 _ _ ⟨_, rfl, rfl, rfl⟩
theorem t78 (H : AHeap) (l : List UInt8) (c : UInt8) : ∃ w H', ARun Go.Proofs.Tryd.prog 4 78 [.string ⟨l.toArray⟩, .string ⟨[c].toArray⟩] H w H' ∧ w = .int .i64 (ixI c l) ∧ H' = H := by
  refine walk2 f78_ok f78_n ?_
  intro Q hq1 hq2
  simp (disch := first | assumption | omega | (simp only [LN] <;> omega) | (simp (disch := first | assumption | omega | (simp only [LN] <;> omega)) only [row_alloc, row_set]; assumption)) only [f78, W_block, P3, ↓reduceIte, reduceAdd, reduceEqDiff, reduceCtorEq, initFr, reduceLT, clsA, reduceLeDiff, reduceMul, reduceSub, reduceIte]
  refine callK (t89 H l c) ?_
  rintro _ K ⟨rfl, rfl⟩
  simp (disch := first | assumption | omega | (simp only [LN] <;> omega) | (simp (disch := first | assumption | omega | (simp only [LN] <;> omega)) only [row_alloc, row_set]; assumption)) only [W_block, P3, ↓reduceIte, reduceAdd, reduceEqDiff, reduceCtorEq, initFr, reduceLT, clsA, reduceLeDiff, reduceMul, reduceSub, reduceIte]
  exact hq2 _ _ ⟨_, rfl, rfl, rfl⟩
def cutB (c : UInt8) (l : List UInt8) : Value := match ixB c l with
  | some i => .tuple #[.string ⟨(l.take i).toArray⟩, .string ⟨(l.drop (i + 1)).toArray⟩, .bool true]
  | none => .tuple #[.string ⟨l.toArray⟩, .string ⟨([] : List UInt8).toArray⟩, .bool false]
theorem t79 (H : AHeap) (l : List UInt8) (c : UInt8) (hl : l.length ≤ 1000000000) : ∃ w H', ARun Go.Proofs.Tryd.prog 4 79 [.string ⟨l.toArray⟩, .string ⟨[c].toArray⟩] H w H' ∧ w = cutB c l ∧ H' = H := by
  refine walk2 f79_ok f79_n ?_
  intro Q hq1 hq2
  simp (disch := first | assumption | omega | (simp only [LN] <;> omega) | (simp (disch := first | assumption | omega | (simp only [LN] <;> omega)) only [row_alloc, row_set]; assumption)) only [f79, W_block, P3, ↓reduceIte, reduceAdd, reduceEqDiff, reduceCtorEq, initFr, reduceLT, clsA, reduceLeDiff, reduceMul, reduceSub, reduceIte]
  refine callK (t89 H l c) ?_
  rintro _ K ⟨rfl, rfl⟩
  cases hi : ixB c l with
  | none =>
    have e : ixI c l = -1 := by unfold ixI; rw [hi]
    simp (disch := first | assumption | omega | (simp only [LN] <;> omega) | (simp (disch := first | assumption | omega | (simp only [LN] <;> omega)) only [row_alloc, row_set]; assumption)) only [W_block, P3, ↓reduceIte, reduceAdd, reduceEqDiff, reduceCtorEq, initFr, reduceLT, clsA, reduceLeDiff, reduceMul, reduceSub, reduceIte, e]
    exact hq2 _ _ ⟨_, rfl, by unfold cutB; rw [hi]; rfl, rfl⟩
  | some i =>
    have e : ixI c l = (i : Int) := by unfold ixI; rw [hi]
    have hlt := ixB_le hi
    have h0 : (0 : Int) ≤ (i : Int) := by omega
    have hle : i ≤ l.length := by omega
    have hw : IntKind.i64.wrap ((i : Int) + ((1 : Nat) : Int)) = ((i + 1 : Nat) : Int) := by
      rw [wrap_i64 (by omega) (by omega)]; simp
    have hle2 : i + 1 ≤ l.length := by omega
    simp (disch := first | assumption | omega | (simp only [LN] <;> omega) | (simp (disch := first | assumption | omega | (simp only [LN] <;> omega)) only [row_alloc, row_set]; assumption)) only [W_block, P3, ↓reduceIte, reduceAdd, reduceEqDiff, reduceCtorEq, initFr, reduceLT, clsA, reduceLeDiff, reduceMul, reduceSub, reduceIte, e, a_slsP, a_slsT, hw]
    exact hq2 _ _ ⟨_, rfl, by unfold cutB; rw [hi]; rfl, rfl⟩
theorem t59 (H : AHeap) (l : List UInt8) (c : UInt8) (hl : l.length ≤ 1000000000) : ∃ w H', ARun Go.Proofs.Tryd.prog 4 59 [.string ⟨l.toArray⟩, .string ⟨[c].toArray⟩] H w H' ∧ w = cutB c l ∧ H' = H := by
  refine walk2 f59_ok f59_n ?_
  intro Q hq1 hq2
  simp (disch := first | assumption | omega | (simp only [LN] <;> omega) | (simp (disch := first | assumption | omega | (simp only [LN] <;> omega)) only [row_alloc, row_set]; assumption)) only [f59, W_block, P3, ↓reduceIte, reduceAdd, reduceEqDiff, reduceCtorEq, initFr, reduceLT, clsA, reduceLeDiff, reduceMul, reduceSub, reduceIte]
  refine callK (t79 H l c hl) ?_
  rintro _ K ⟨hw, rfl⟩
  unfold cutB at hw
  split at hw <;> (subst hw; simp (disch := first | assumption | omega | (simp only [LN] <;> omega) | (simp (disch := first | assumption | omega | (simp only [LN] <;> omega)) only [row_alloc, row_set]; assumption)) only [W_block, P3, ↓reduceIte, reduceAdd, reduceEqDiff, reduceCtorEq, initFr, reduceLT, clsA, reduceLeDiff, reduceMul, reduceSub, reduceIte])
  · rename_i i hi
    exact hq2 _ _ ⟨_, rfl, by unfold cutB; rw [hi]; rfl, rfl⟩
  · rename_i hi
    exact hq2 _ _ ⟨_, rfl, by unfold cutB; rw [hi]; rfl, rfl⟩
theorem t80 (H : AHeap) (l p : List UInt8) : ∃ w H', ARun Go.Proofs.Tryd.prog 4 80 [.string ⟨l.toArray⟩, .string ⟨p.toArray⟩] H w H' ∧ w = .bool (p.isPrefixOf l) ∧ H' = H := by
  refine walk2 f80_ok f80_n ?_
  intro Q hq1 hq2
  by_cases h : p.length ≤ l.length
  · have h1 : ((p.length : Nat) : Int) ≤ ((l.length : Nat) : Int) := by omega
    have e : (decide (l.take p.length = p)) = p.isPrefixOf l := by
      rw [Bool.eq_iff_iff, decide_eq_true_iff, List.isPrefixOf_iff_prefix, List.prefix_iff_eq_take]
      exact eq_comm
    simp (disch := first | assumption | omega | (simp only [LN] <;> omega) | (simp (disch := first | assumption | omega | (simp only [LN] <;> omega)) only [row_alloc, row_set]; assumption)) only [f80, W_block, P3, ↓reduceIte, reduceAdd, reduceEqDiff, reduceCtorEq, initFr, reduceLT, clsA, reduceLeDiff, reduceMul, reduceSub, reduceIte, a_slsP, bytes_eq, e]
    exact hq2 _ _ ⟨_, rfl, rfl, rfl⟩
  · have h1 : ¬ ((p.length : Nat) : Int) ≤ ((l.length : Nat) : Int) := by omega
    have e : p.isPrefixOf l = false := by
      rw [Bool.eq_false_iff]
      intro e
      exact h (List.isPrefixOf_iff_prefix.1 e).length_le
    simp (disch := first | assumption | omega | (simp only [LN] <;> omega) | (simp (disch := first | assumption | omega | (simp only [LN] <;> omega)) only [row_alloc, row_set]; assumption)) only [f80, W_block, P3, ↓reduceIte, reduceAdd, reduceEqDiff, reduceCtorEq, initFr, reduceLT, clsA, reduceLeDiff, reduceMul, reduceSub, reduceIte]
    exact hq2 _ _ ⟨_, rfl, by rw [e]; rfl, rfl⟩
theorem t60 (H : AHeap) (l p : List UInt8) : ∃ w H', ARun Go.Proofs.Tryd.prog 4 60 [.string ⟨l.toArray⟩, .string ⟨p.toArray⟩] H w H' ∧ w = .bool (p.isPrefixOf l) ∧ H' = H := by
  refine walk2 f60_ok f60_n ?_
  intro Q hq1 hq2
  simp (disch := first | assumption | omega | (simp only [LN] <;> omega) | (simp (disch := first | assumption | omega | (simp only [LN] <;> omega)) only [row_alloc, row_set]; assumption)) only [f60, W_block, P3, ↓reduceIte, reduceAdd, reduceEqDiff, reduceCtorEq, initFr, reduceLT, clsA, reduceLeDiff, reduceMul, reduceSub, reduceIte]
  refine callK (t80 H l p) ?_
  rintro _ K ⟨rfl, rfl⟩
  simp (disch := first | assumption | omega | (simp only [LN] <;> omega) | (simp (disch := first | assumption | omega | (simp only [LN] <;> omega)) only [row_alloc, row_set]; assumption)) only [W_block, P3, ↓reduceIte, reduceAdd, reduceEqDiff, reduceCtorEq, initFr, reduceLT, clsA, reduceLeDiff, reduceMul, reduceSub, reduceIte]
  exact hq2 _ _ ⟨_, rfl, rfl, rfl⟩
end Go.AM.Fd

set_option linter.unusedSimpArgs false
set_option linter.unusedVariables false
namespace Go.AM.Fd
open Nat (reduceAdd reduceEqDiff reduceLT reduceLeDiff reduceMul reduceSub)
open Go.Proofs Go.AM.F
def boxS (l : List UInt8) : AO := .cells true false 1 [.string ⟨l.toArray⟩] 9
theorem t81 (H : AHeap) (l : List UInt8) (c : UInt8) : ∃ w H', ARun Go.Proofs.Tryd.prog 4 81 [.string ⟨l.toArray⟩, .string ⟨[c].toArray⟩, .int .i64 0] H w H' ∧
    w = .func (.func 90) #[] #[ptr (H.n + 1) 0, ptr H.n 0, ptr (H.n + 2) 0] ∧ H' = ((H.alloc (boxS l)).alloc (boxS [c])).alloc (.cells true false 1 [.int .i64 0] 3) := by
  refine walk2 f81_ok f81_n ?_
  intro Q hq1 hq2
  simp (disch := first | assumption | omega | (simp only [LN] <;> omega) | (simp (disch := first | assumption | omega | (simp only [LN] <;> omega)) only [row_alloc, row_set]; assumption)) only [f81, W_block, P3, ↓reduceIte, reduceAdd, reduceEqDiff, reduceCtorEq, initFr, reduceLT, clsA, reduceLeDiff, reduceMul, reduceSub, reduceIte]
  exact hq2 _ _ ⟨_, rfl, rfl, rfl⟩
theorem t61 (H : AHeap) (l : List UInt8) (c : UInt8) : ∃ w H', ARun Go.Proofs.Tryd.prog 4 61 [.string ⟨l.toArray⟩, .string ⟨[c].toArray⟩] H w H' ∧
    w = .func (.func 90) #[] #[ptr (H.n + 1) 0, ptr H.n 0, ptr (H.n + 2) 0] ∧ H' = ((H.alloc (boxS l)).alloc (boxS [c])).alloc (.cells true false 1 [.int .i64 0] 3) := by
  refine walk2 f61_ok f61_n ?_
  intro Q hq1 hq2
  simp (disch := first | assumption | omega | (simp only [LN] <;> omega) | (simp (disch := first | assumption | omega | (simp only [LN] <;> omega)) only [row_alloc, row_set]; assumption)) only [f61, W_block, P3, ↓reduceIte, reduceAdd, reduceEqDiff, reduceCtorEq, initFr, reduceLT, clsA, reduceLeDiff, reduceMul, reduceSub, reduceIte]
  refine callK (t81 H l c) ?_
  rintro _ K ⟨rfl, rfl⟩
  simp (disch := first | assumption | omega | (simp only [LN] <;> omega) | (simp (disch := first | assumption | omega | (simp only [LN] <;> omega)) only [row_alloc, row_set]; assumption)) only [W_block, P3, ↓reduceIte, reduceAdd, reduceEqDiff, reduceCtorEq, initFr, reduceLT, clsA, reduceLeDiff, reduceMul, reduceSub, reduceIte]
  exact hq2 _ _ ⟨_, rfl, rfl, rfl⟩
theorem t90 (J : List (List UInt8) → List UInt8 → AHeap → Prop) (Jx : AHeap → Prop) {c : UInt8} {b p1 p2 p3 : Nat} {s : List UInt8} (hl : s.length ≤ 1000000000)
    (hr : ∀ pre sc H, J pre sc H → H.get p1 = some (boxS [c]) ∧ H.get p2 = some (boxS sc) ∧ H.get p3 = some (.cells true false 1 [.int .i64 0] 3))
    (hw : ∀ pre sc sc' H, J pre sc H → J pre sc' (H.set p2 (boxS sc')))
    (hy : ∀ pre x sc H, J pre sc H → (∃ rest, splitB c s = pre ++ x :: rest) → ∃ v H', AYield Go.Proofs.Tryd.prog 4 b [.string ⟨x.toArray⟩] H v H' ∧ ((v = .bool true ∧ J (pre ++ [x]) sc H') ∨ (v = .bool false ∧ Jx H')))
    {H : AHeap} (h0 : J [] s H) : ∃ w H', ARun Go.Proofs.Tryd.prog 4 90 [.chan (some b), ptr p1 0, ptr p2 0, ptr p3 0] H w H' ∧ ((∃ sc, J (splitB c s) sc H') ∨ Jx H') := by
  refine walk2 f90_ok f90_n ?_
  intro Q hq1 hq2
  obtain ⟨g1, g2, g3⟩ := hr _ _ _ h0
  have e0 : (((1 : Nat) : Int) == 0) = false := by simp
  unfold boxS at g1 g2
  simp (disch := first | assumption | omega | (simp only [LN] <;> omega) | (simp (disch := first | assumption | omega | (simp only [LN] <;> omega)) only [row_alloc, row_set]; assumption)) only [ f90, P3, ↓reduceIte, reduceAdd, reduceEqDiff, reduceCtorEq, initFr, reduceLT, clsA, reduceLeDiff, reduceMul, reduceSub, reduceIte, g1, e0]
  rw [W_block]
  refine W_loop2 (fun k fr H => ∃ pre sc x5 x6 x10 x11, fr = [.chan (some b), ptr p1 0, ptr p2 0, ptr p3 0, undef, x5, x6, .bool false, undef, undef, x10, x11] ∧ J pre sc H ∧ splitB c s = pre ++ splitB c sc ∧ sc.length = k ∧ sc.length ≤ s.length) s.length
    ⟨[], s, _, _, _, _, rfl, h0, rfl, rfl, Nat.le_refl _⟩ ?_
  rintro Q' k fr H ⟨pre, sc, x5, x6, x10, x11, rfl, hJ, hsp, hk, hle⟩ hn hx hret
  obtain ⟨g1, g2, g3⟩ := hr _ _ _ hJ
  unfold boxS at g1 g2
  simp (disch := first | assumption | omega | (simp only [LN] <;> omega) | (simp (disch := first | assumption | omega | (simp only [LN] <;> omega)) only [row_alloc, row_set]; assumption)) only [W_block, P3, ↓reduceIte, reduceAdd, reduceEqDiff, reduceCtorEq, initFr, reduceLT, clsA, reduceLeDiff, reduceMul, reduceSub, reduceIte, g1, g2]
  refine callK (t78 H sc c) ?_
  rintro _ K ⟨rfl, rfl⟩
  cases hi : ixB c sc with
  | none =>
    have e : ixI c sc = -1 := by unfold ixI; rw [hi]
    have hsp1 : splitB c sc = [sc] := by rw [splitB_ix, hi]
    rw [hsp1] at hsp
    simp (disch := first | assumption | omega | (simp only [LN] <;> omega) | (simp (disch := first | assumption | omega | (simp only [LN] <;> omega)) only [row_alloc, row_set]; assumption)) only [W_block, P3, ↓reduceIte, reduceAdd, reduceEqDiff, reduceCtorEq, initFr, reduceLT, clsA, reduceLeDiff, reduceMul, reduceSub, reduceIte, e, g1, g2]
    refine hx 2 _ _ ?_
    simp (disch := first | assumption | omega | (simp only [LN] <;> omega) | (simp (disch := first | assumption | omega | (simp only [LN] <;> omega)) only [row_alloc, row_set]; assumption)) only [W_block, P3, ↓reduceIte, reduceAdd, reduceEqDiff, reduceCtorEq, initFr, reduceLT, clsA, reduceLeDiff, reduceMul, reduceSub, reduceIte, g1, g2, st_callvy]
    refine yieldK (hy pre sc sc _ hJ ⟨[], hsp⟩) ?_
    rintro v K h
    refine hq1 _ _ ⟨_, rfl, ?_⟩
    rcases h with ⟨_, h⟩ | ⟨_, h⟩
    · exact .inl ⟨sc, by rw [hsp]; exact h⟩
    · exact .inr h
  | some i =>
    have e : ixI c sc = (i : Int) := by unfold ixI; rw [hi]
    have hlt := ixB_le hi
    have h0' : ¬ ((i : Int) < 0) := by omega
    have hw1 : IntKind.i64.wrap ((i : Int) + 0) = ((i : Nat) : Int) := by rw [wrap_i64 (by omega) (by omega)]; simp
    have hw2 : IntKind.i64.wrap ((i : Int) + ((1 : Nat) : Int)) = ((i + 1 : Nat) : Int) := by rw [wrap_i64 (by omega) (by omega)]; simp
    have hi1 : i ≤ sc.length := by omega
    have hi2 : i + 1 ≤ sc.length := by omega
    have hsp1 : splitB c sc = sc.take i :: splitB c (sc.drop (i + 1)) := by rw [splitB_ix, hi]
    rw [hsp1] at hsp
    simp (disch := first | assumption | omega | (simp only [LN] <;> omega) | (simp (disch := first | assumption | omega | (simp only [LN] <;> omega)) only [row_alloc, row_set]; assumption)) only [W_block, P3, ↓reduceIte, reduceAdd, reduceEqDiff, reduceCtorEq, initFr, reduceLT, clsA, reduceLeDiff, reduceMul, reduceSub, reduceIte, e, g1, g2, g3, a_slsP, hw1, st_callvy]
    refine yieldK (hy pre (sc.take i) sc _ hJ ⟨_, hsp⟩) ?_
    rintro v K h
    rcases h with ⟨rfl, h⟩ | ⟨rfl, h⟩
    · obtain ⟨k1, k2, k3⟩ := hr _ _ _ h
      have k2' := k2
      unfold boxS at k1 k2
      simp (disch := first | assumption | omega | (simp only [LN] <;> omega) | (simp (disch := first | assumption | omega | (simp only [LN] <;> omega)) only [row_alloc, row_set]; assumption)) only [W_block, P3, ↓reduceIte, reduceAdd, reduceEqDiff, reduceCtorEq, initFr, reduceLT, clsA, reduceLeDiff, reduceMul, reduceSub, reduceIte, k1, k2, k3, a_slsT, hw2]
      refine hn (sc.drop (i + 1)).length _ _ ⟨pre ++ [sc.take i], sc.drop (i + 1), _, _, _, _, rfl, hw _ _ (sc.drop (i + 1)) _ h, by simp [hsp], rfl, by simp; omega⟩ (by rw [← hk]; simp; omega)
    · simp (disch := first | assumption | omega | (simp only [LN] <;> omega) | (simp (disch := first | assumption | omega | (simp only [LN] <;> omega)) only [row_alloc, row_set]; assumption)) only [W_block, P3, ↓reduceIte, reduceAdd, reduceEqDiff, reduceCtorEq, initFr, reduceLT, clsA, reduceLeDiff, reduceMul, reduceSub, reduceIte]
      exact hret _ _ (hq2 _ _ ⟨_, rfl, .inr h⟩)
end Go.AM.Fd

set_option linter.unusedSimpArgs false
set_option linter.unusedVariables false
namespace Go.AM.Fd
open Nat (reduceAdd reduceEqDiff reduceLT reduceLeDiff reduceMul reduceSub)
open Go.Proofs Go.AM.F
def decB (l : List UInt8) (p : Nat) : Nat × Nat := Utf8.decode ⟨l.toArray⟩ p
theorem decB_pos {l : List UInt8} {p : Nat} : 1 ≤ (decB l p).2 := by
  unfold decB Utf8.decode
  repeat' split
  all_goals (first | omega | (simp only []; repeat' split) )
  all_goals first | omega | (dsimp only []; repeat' split)
  all_goals omega
def runs (l : List UInt8) : Nat → Nat → List (Nat × Int)
  | 0, _ => []
  | k + 1, p => if p < l.length then (p, ((decB l p).1 : Int)) :: runs l k (p + (decB l p).2) else []
theorem runs_more {l : List UInt8} : ∀ {k p : Nat}, l.length - p ≤ k → runs l k p = runs l (l.length - p) p
  | 0, p, h => by rw [show l.length - p = 0 by omega]
  | k + 1, p, h => by
    by_cases hp : p < l.length
    · obtain ⟨m, hm⟩ : ∃ m, l.length - p = m + 1 := ⟨l.length - p - 1, by omega⟩
      have h1 := decB_pos (l := l) (p := p)
      rw [hm]
      simp only [runs, if_pos hp]
      rw [runs_more (k := k) (by omega), runs_more (k := m) (by omega)]
    · rw [show l.length - p = 0 by omega]
      simp [runs, hp]
def runF (l : List UInt8) (p : Nat) : List (Nat × Int) := runs l (l.length - p) p
theorem runF_step {l : List UInt8} {p : Nat} (h : p < l.length) : runF l p = (p, ((decB l p).1 : Int)) :: runF l (p + (decB l p).2) := by
  obtain ⟨m, hm⟩ : ∃ m, l.length - p = m + 1 := ⟨l.length - p - 1, by omega⟩
  have h1 := decB_pos (l := l) (p := p)
  unfold runF
  rw [hm]
  simp only [runs, if_pos h]
  rw [runs_more (k := m) (by omega)]
theorem runF_end {l : List UInt8} {p : Nat} (h : ¬ p < l.length) : runF l p = [] := by
  unfold runF
  rw [show l.length - p = 0 by omega]
  rfl
theorem a_rngS {H : AHeap} (l : List UInt8) : asem (.rng (.string ⟨l.toArray⟩)) H = some (ptr H.n 0, H.alloc (.obj true (.stringIter ⟨l.toArray⟩ 0))) := rfl
theorem a_nextY {H : AHeap} {b p : Nat} {l : List UInt8} (hg : H.get b = some (.obj true (.stringIter ⟨l.toArray⟩ p))) (h : p < l.length) :
    asem (.next (ptr b 0)) H = some (.tuple #[.bool true, .int .i64 (p : Int), .int .i32 ((decB l p).1 : Int)], H.set b (.obj true (.stringIter ⟨l.toArray⟩ (p + (decB l p).2)))) := by
  simp only [asem, ptr, hg, str_size]
  rw [if_pos h]
  rfl
theorem a_nextN {H : AHeap} {b p : Nat} {l : List UInt8} (hg : H.get b = some (.obj true (.stringIter ⟨l.toArray⟩ p))) (h : ¬ p < l.length) : asem (.next (ptr b 0)) H = some (.tuple #[.bool false], H) := by
  simp only [asem, ptr, hg, str_size]
  rw [if_neg h]
def sgn (r : Int) : Bool := decide (33 ≤ r) && (decide (r < 127) || decide (160 < r)) && r != 58 && r != 35 && r != 43 && r != 45 && r != 65533
theorem t53 (H : AHeap) (r : Int) : ∃ w H', ARun Go.Proofs.Tryd.prog 4 53 [.int .i32 r] H w H' ∧ w = .bool (sgn r) ∧ H' = H := by
  refine walk2 f53_ok f53_n ?_
  intro Q hq1 hq2
  by_cases h1 : 33 ≤ r
  · by_cases h2 : r = 58
    · subst h2; simp (disch := first | assumption | omega | (simp only [LN] <;> omega) | (simp (disch := first | assumption | omega | (simp only [LN] <;> omega)) only [row_alloc, row_set]; assumption)) only [f53, W_block, P3, ↓reduceIte, reduceAdd, reduceEqDiff, reduceCtorEq, initFr, reduceLT, clsA, reduceLeDiff, reduceMul, reduceSub, reduceIte]; exact hq2 _ _ ⟨_, rfl, rfl, rfl⟩
    by_cases h3 : r = 35
    · subst h3; simp (disch := first | assumption | omega | (simp only [LN] <;> omega) | (simp (disch := first | assumption | omega | (simp only [LN] <;> omega)) only [row_alloc, row_set]; assumption)) only [f53, W_block, P3, ↓reduceIte, reduceAdd, reduceEqDiff, reduceCtorEq, initFr, reduceLT, clsA, reduceLeDiff, reduceMul, reduceSub, reduceIte]; exact hq2 _ _ ⟨_, rfl, rfl, rfl⟩
    by_cases h4 : r = 43
    · subst h4; simp (disch := first | assumption | omega | (simp only [LN] <;> omega) | (simp (disch := first | assumption | omega | (simp only [LN] <;> omega)) only [row_alloc, row_set]; assumption)) only [f53, W_block, P3, ↓reduceIte, reduceAdd, reduceEqDiff, reduceCtorEq, initFr, reduceLT, clsA, reduceLeDiff, reduceMul, reduceSub, reduceIte]; exact hq2 _ _ ⟨_, rfl, rfl, rfl⟩
    by_cases h5 : r = 45
    · subst h5; simp (disch := first | assumption | omega | (simp only [LN] <;> omega) | (simp (disch := first | assumption | omega | (simp only [LN] <;> omega)) only [row_alloc, row_set]; assumption)) only [f53, W_block, P3, ↓reduceIte, reduceAdd, reduceEqDiff, reduceCtorEq, initFr, reduceLT, clsA, reduceLeDiff, reduceMul, reduceSub, reduceIte]; exact hq2 _ _ ⟨_, rfl, rfl, rfl⟩
    by_cases h6 : r = 65533
    · subst h6; simp (disch := first | assumption | omega | (simp only [LN] <;> omega) | (simp (disch := first | assumption | omega | (simp only [LN] <;> omega)) only [row_alloc, row_set]; assumption)) only [f53, W_block, P3, ↓reduceIte, reduceAdd, reduceEqDiff, reduceCtorEq, initFr, reduceLT, clsA, reduceLeDiff, reduceMul, reduceSub, reduceIte]; exact hq2 _ _ ⟨_, rfl, rfl, rfl⟩
    by_cases h7 : r < 127
    · simp (disch := first | assumption | omega | (simp only [LN] <;> omega) | (simp (disch := first | assumption | omega | (simp only [LN] <;> omega)) only [row_alloc, row_set]; assumption)) only [f53, W_block, P3, ↓reduceIte, reduceAdd, reduceEqDiff, reduceCtorEq, initFr, reduceLT, clsA, reduceLeDiff, reduceMul, reduceSub, reduceIte]
      exact hq2 _ _ ⟨_, rfl, by simp [sgn, tupV, h1, h2, h3, h4, h5, h6, h7], rfl⟩
    · by_cases h8 : 160 < r
      · simp (disch := first | assumption | omega | (simp only [LN] <;> omega) | (simp (disch := first | assumption | omega | (simp only [LN] <;> omega)) only [row_alloc, row_set]; assumption)) only [f53, W_block, P3, ↓reduceIte, reduceAdd, reduceEqDiff, reduceCtorEq, initFr, reduceLT, clsA, reduceLeDiff, reduceMul, reduceSub, reduceIte]
        exact hq2 _ _ ⟨_, rfl, by simp [sgn, tupV, h1, h2, h3, h4, h5, h6, h7, h8], rfl⟩
      · simp (disch := first | assumption | omega | (simp only [LN] <;> omega) | (simp (disch := first | assumption | omega | (simp only [LN] <;> omega)) only [row_alloc, row_set]; assumption)) only [f53, W_block, P3, ↓reduceIte, reduceAdd, reduceEqDiff, reduceCtorEq, initFr, reduceLT, clsA, reduceLeDiff, reduceMul, reduceSub, reduceIte]
        exact hq2 _ _ ⟨_, rfl, by simp [sgn, tupV, h1, h2, h3, h4, h5, h6, h7, h8], rfl⟩
  · simp (disch := first | assumption | omega | (simp only [LN] <;> omega) | (simp (disch := first | assumption | omega | (simp only [LN] <;> omega)) only [row_alloc, row_set]; assumption)) only [f53, W_block, P3, ↓reduceIte, reduceAdd, reduceEqDiff, reduceCtorEq, initFr, reduceLT, clsA, reduceLeDiff, reduceMul, reduceSub, reduceIte]
    exact hq2 _ _ ⟨_, rfl, by simp [sgn, tupV, h1], rfl⟩
theorem t52 (H : AHeap) (r : Int) : ∃ w H', ARun Go.Proofs.Tryd.prog 4 52 [.int .i32 r] H w H' ∧ w = .bool (sgn r) ∧ H' = H := by
  refine walk2 f52_ok f52_n ?_
  intro Q hq1 hq2
  by_cases h1 : r < 33
  · simp (disch := first | assumption | omega | (simp only [LN] <;> omega) | (simp (disch := first | assumption | omega | (simp only [LN] <;> omega)) only [row_alloc, row_set]; assumption)) only [f52, W_block, P3, ↓reduceIte, reduceAdd, reduceEqDiff, reduceCtorEq, initFr, reduceLT, clsA, reduceLeDiff, reduceMul, reduceSub, reduceIte]
    exact hq2 _ _ ⟨_, rfl, by simp [sgn, tupV, show ¬ 33 ≤ r by omega], rfl⟩
  have h1' : 33 ≤ r := by omega
  by_cases h2 : r = 58
  · subst h2; simp (disch := first | assumption | omega | (simp only [LN] <;> omega) | (simp (disch := first | assumption | omega | (simp only [LN] <;> omega)) only [row_alloc, row_set]; assumption)) only [f52, W_block, P3, ↓reduceIte, reduceAdd, reduceEqDiff, reduceCtorEq, initFr, reduceLT, clsA, reduceLeDiff, reduceMul, reduceSub, reduceIte]; exact hq2 _ _ ⟨_, rfl, rfl, rfl⟩
  by_cases h3 : r = 35
  · subst h3; simp (disch := first | assumption | omega | (simp only [LN] <;> omega) | (simp (disch := first | assumption | omega | (simp only [LN] <;> omega)) only [row_alloc, row_set]; assumption)) only [f52, W_block, P3, ↓reduceIte, reduceAdd, reduceEqDiff, reduceCtorEq, initFr, reduceLT, clsA, reduceLeDiff, reduceMul, reduceSub, reduceIte]; exact hq2 _ _ ⟨_, rfl, rfl, rfl⟩
  by_cases h4 : r = 43
  · subst h4; simp (disch := first | assumption | omega | (simp only [LN] <;> omega) | (simp (disch := first | assumption | omega | (simp only [LN] <;> omega)) only [row_alloc, row_set]; assumption)) only [f52, W_block, P3, ↓reduceIte, reduceAdd, reduceEqDiff, reduceCtorEq, initFr, reduceLT, clsA, reduceLeDiff, reduceMul, reduceSub, reduceIte]; exact hq2 _ _ ⟨_, rfl, rfl, rfl⟩
  by_cases h5 : r = 45
  · subst h5; simp (disch := first | assumption | omega | (simp only [LN] <;> omega) | (simp (disch := first | assumption | omega | (simp only [LN] <;> omega)) only [row_alloc, row_set]; assumption)) only [f52, W_block, P3, ↓reduceIte, reduceAdd, reduceEqDiff, reduceCtorEq, initFr, reduceLT, clsA, reduceLeDiff, reduceMul, reduceSub, reduceIte]; exact hq2 _ _ ⟨_, rfl, rfl, rfl⟩
  by_cases h6 : r = 65533
  · subst h6; simp (disch := first | assumption | omega | (simp only [LN] <;> omega) | (simp (disch := first | assumption | omega | (simp only [LN] <;> omega)) only [row_alloc, row_set]; assumption)) only [f52, W_block, P3, ↓reduceIte, reduceAdd, reduceEqDiff, reduceCtorEq, initFr, reduceLT, clsA, reduceLeDiff, reduceMul, reduceSub, reduceIte]; exact hq2 _ _ ⟨_, rfl, rfl, rfl⟩
  by_cases h7 : 127 ≤ r
  · by_cases h8 : r ≤ 160
    · simp (disch := first | assumption | omega | (simp only [LN] <;> omega) | (simp (disch := first | assumption | omega | (simp only [LN] <;> omega)) only [row_alloc, row_set]; assumption)) only [f52, W_block, P3, ↓reduceIte, reduceAdd, reduceEqDiff, reduceCtorEq, initFr, reduceLT, clsA, reduceLeDiff, reduceMul, reduceSub, reduceIte]
      exact hq2 _ _ ⟨_, rfl, by simp [sgn, tupV, h1', h2, h3, h4, h5, h6, show ¬ r < 127 by omega, show ¬ 160 < r by omega], rfl⟩
    · simp (disch := first | assumption | omega | (simp only [LN] <;> omega) | (simp (disch := first | assumption | omega | (simp only [LN] <;> omega)) only [row_alloc, row_set]; assumption)) only [f52, W_block, P3, ↓reduceIte, reduceAdd, reduceEqDiff, reduceCtorEq, initFr, reduceLT, clsA, reduceLeDiff, reduceMul, reduceSub, reduceIte]
      exact hq2 _ _ ⟨_, rfl, by simp [sgn, tupV, h1', h2, h3, h4, h5, h6, show ¬ r < 127 by omega, show 160 < r by omega], rfl⟩
  · simp (disch := first | assumption | omega | (simp only [LN] <;> omega) | (simp (disch := first | assumption | omega | (simp only [LN] <;> omega)) only [row_alloc, row_set]; assumption)) only [f52, W_block, P3, ↓reduceIte, reduceAdd, reduceEqDiff, reduceCtorEq, initFr, reduceLT, clsA, reduceLeDiff, reduceMul, reduceSub, reduceIte]
    exact hq2 _ _ ⟨_, rfl, by simp [sgn, tupV, h1', h2, h3, h4, h5, h6, show r < 127 by omega], rfl⟩
def rightB (l : List UInt8) : Bool := (runF l 0).all (fun x => sgn x.2) && decide (1 ≤ (runF l 0).length) && decide ((runF l 0).length ≤ 16)
theorem t26 (H : AHeap) (l : List UInt8) (hl : l.length ≤ 9223372036854775807) : ∃ w H', ARun Go.Proofs.Tryd.prog 4 26 [.string ⟨l.toArray⟩] H w H' ∧ w = .bool (rightB l) ∧ H' = H := by
  suffices h : ∃ w H', ARun Go.Proofs.Tryd.prog 4 26 [.string ⟨l.toArray⟩] H w H' ∧ w = .bool (rightB l) ∧ Keeps H H' by
    obtain ⟨_, _, a, rfl, k⟩ := h
    exact ⟨_, _, a.gc0 k (.inr (.bool _)), rfl, rfl⟩
  refine walk2 f26_ok f26_n ?_
  intro Q hq1 hq2
  simp (disch := first | assumption | omega | (simp only [LN] <;> omega) | (simp (disch := first | assumption | omega | (simp only [LN] <;> omega)) only [row_alloc, row_set]; assumption)) only [ f26, P3, ↓reduceIte, reduceAdd, reduceEqDiff, reduceCtorEq, initFr, reduceLT, clsA, reduceLeDiff, reduceMul, reduceSub, reduceIte, a_rngS]
  rw [W_block]
  refine W_loop2 (fun k fr K => ∃ p n x1 x3 x5 x6 x7, fr = [.string ⟨l.toArray⟩, x1, .int .i64 ((n : Nat) : Int), x3, ptr H.n 0, x5, x6, x7] ∧ K.get H.n = some (.obj true (.stringIter ⟨l.toArray⟩ p)) ∧ Keeps H K ∧
      rightB l = ((runF l p).all (fun x => sgn x.2) && decide (1 ≤ n + (runF l p).length) && decide (n + (runF l p).length ≤ 16)) ∧ n ≤ p ∧ k = l.length - p) l.length
    ⟨0, 0, _, _, _, _, _, rfl, AHeap.get_alloc_new _ _, (Keeps.refl H).alloc _, by simp [rightB], Nat.le_refl _, rfl⟩ ?_
  rintro Q' k fr K ⟨p, n, x1, x3, x5, x6, x7, rfl, hg, hk, hr, hnp, rfl⟩ hn hx hret
  by_cases hp : p < l.length
  · have hstep := runF_step hp
    have hpos := decB_pos (l := l) (p := p)
    simp (disch := first | assumption | omega | (simp only [LN] <;> omega) | (simp (disch := first | assumption | omega | (simp only [LN] <;> omega)) only [row_alloc, row_set]; assumption)) only [W_block, P3, ↓reduceIte, reduceAdd, reduceEqDiff, reduceCtorEq, initFr, reduceLT, clsA, reduceLeDiff, reduceMul, reduceSub, reduceIte, a_nextY hg hp]
    refine callK (t52 _ _) ?_
    rintro _ K2 ⟨rfl, rfl⟩
    cases hs : sgn ((decB l p).1 : Int) with
    | false =>
      simp (disch := first | assumption | omega | (simp only [LN] <;> omega) | (simp (disch := first | assumption | omega | (simp only [LN] <;> omega)) only [row_alloc, row_set]; assumption)) only [W_block, P3, ↓reduceIte, reduceAdd, reduceEqDiff, reduceCtorEq, initFr, reduceLT, clsA, reduceLeDiff, reduceMul, reduceSub, reduceIte]
      refine hret _ _ (hq2 _ _ ⟨_, rfl, ?_, ?_⟩)
      · rw [hr, hstep]; simp [hs]; rfl
      · exact hk.set (Nat.le_refl _) (AHeap.get_lt hg) _
    | true =>
      have hw : IntKind.i64.wrap ((n : Int) + 1) = ((n + 1 : Nat) : Int) := by rw [wrap_i64 (by omega) (by omega)]; simp
      simp (disch := first | assumption | omega | (simp only [LN] <;> omega) | (simp (disch := first | assumption | omega | (simp only [LN] <;> omega)) only [row_alloc, row_set]; assumption)) only [W_block, P3, ↓reduceIte, reduceAdd, reduceEqDiff, reduceCtorEq, initFr, reduceLT, clsA, reduceLeDiff, reduceMul, reduceSub, reduceIte, hw]
      refine hn _ _ _ ⟨p + (decB l p).2, n + 1, _, _, _, _, _, rfl, AHeap.get_set_same hg _, hk.set (Nat.le_refl _) (AHeap.get_lt hg) _, ?_, by omega, rfl⟩ (by omega)
      rw [hr, hstep]
      simp only [List.all_cons, hs, Bool.true_and, List.length_cons, show n + ((runF l (p + (decB l p).2)).length + 1) = n + 1 + (runF l (p + (decB l p).2)).length by omega]
  · have hend := runF_end hp
    simp (disch := first | assumption | omega | (simp only [LN] <;> omega) | (simp (disch := first | assumption | omega | (simp only [LN] <;> omega)) only [row_alloc, row_set]; assumption)) only [W_block, P3, ↓reduceIte, reduceAdd, reduceEqDiff, reduceCtorEq, initFr, reduceLT, clsA, reduceLeDiff, reduceMul, reduceSub, reduceIte, a_nextN hg hp]
    refine hx 0 _ _ ?_
    rw [hend] at hr
    simp only [List.all_nil, Bool.true_and, List.length_nil, Nat.add_zero] at hr
    by_cases h1 : 1 ≤ n
    · have h1' : (1 : Int) ≤ (n : Int) := by omega
      simp (disch := first | assumption | omega | (simp only [LN] <;> omega) | (simp (disch := first | assumption | omega | (simp only [LN] <;> omega)) only [row_alloc, row_set]; assumption)) only [W_block, P3, ↓reduceIte, reduceAdd, reduceEqDiff, reduceCtorEq, initFr, reduceLT, clsA, reduceLeDiff, reduceMul, reduceSub, reduceIte]
      refine hq2 _ _ ⟨_, rfl, ?_, hk⟩
      rw [hr]
      simp only [tupV, List.getD_cons_succ, List.getD_cons_zero, h1, decide_true, Bool.true_and]
      congr 1
      rw [decide_eq_decide]; omega
    · have h1' : ¬ (1 : Int) ≤ (n : Int) := by omega
      simp (disch := first | assumption | omega | (simp only [LN] <;> omega) | (simp (disch := first | assumption | omega | (simp only [LN] <;> omega)) only [row_alloc, row_set]; assumption)) only [W_block, P3, ↓reduceIte, reduceAdd, reduceEqDiff, reduceCtorEq, initFr, reduceLT, clsA, reduceLeDiff, reduceMul, reduceSub, reduceIte]
      refine hq2 _ _ ⟨_, rfl, ?_, hk⟩
      rw [hr]
      simp only [tupV, List.getD_cons_succ, List.getD_cons_zero, h1, decide_false, Bool.false_and]
theorem t31 (H : AHeap) (l : List UInt8) (hl : l.length ≤ 9223372036854775807) : ∃ w H', ARun Go.Proofs.Tryd.prog 4 31 [.string ⟨l.toArray⟩] H w H' ∧ w = .bool (rightB l) ∧ H' = H := by
  suffices h : ∃ w H', ARun Go.Proofs.Tryd.prog 4 31 [.string ⟨l.toArray⟩] H w H' ∧ w = .bool (rightB l) ∧ Keeps H H' by
    obtain ⟨_, _, a, rfl, k⟩ := h
    exact ⟨_, _, a.gc0 k (.inr (.bool _)), rfl, rfl⟩
  refine walk2 f31_ok f31_n ?_
  intro Q hq1 hq2
  simp (disch := first | assumption | omega | (simp only [LN] <;> omega) | (simp (disch := first | assumption | omega | (simp only [LN] <;> omega)) only [row_alloc, row_set]; assumption)) only [ f31, P3, ↓reduceIte, reduceAdd, reduceEqDiff, reduceCtorEq, initFr, reduceLT, clsA, reduceLeDiff, reduceMul, reduceSub, reduceIte, a_rngS]
  rw [W_block]
  refine W_loop2 (fun k fr K => ∃ p n x1 x3 x5 x6 x7, fr = [.string ⟨l.toArray⟩, x1, .int .i64 ((n : Nat) : Int), x3, ptr H.n 0, x5, x6, x7] ∧ K.get H.n = some (.obj true (.stringIter ⟨l.toArray⟩ p)) ∧ Keeps H K ∧
      rightB l = ((runF l p).all (fun x => sgn x.2) && decide (1 ≤ n + (runF l p).length) && decide (n + (runF l p).length ≤ 16)) ∧ n ≤ p ∧ k = l.length - p) l.length
    ⟨0, 0, _, _, _, _, _, rfl, AHeap.get_alloc_new _ _, (Keeps.refl H).alloc _, by simp [rightB], Nat.le_refl _, rfl⟩ ?_
  rintro Q' k fr K ⟨p, n, x1, x3, x5, x6, x7, rfl, hg, hk, hr, hnp, rfl⟩ hn hx hret
  by_cases hp : p < l.length
  · have hstep := runF_step hp
    have hpos := decB_pos (l := l) (p := p)
    simp (disch := first | assumption | omega | (simp only [LN] <;> omega) | (simp (disch := first | assumption | omega | (simp only [LN] <;> omega)) only [row_alloc, row_set]; assumption)) only [W_block, P3, ↓reduceIte, reduceAdd, reduceEqDiff, reduceCtorEq, initFr, reduceLT, clsA, reduceLeDiff, reduceMul, reduceSub, reduceIte, a_nextY hg hp]
    refine callK (t53 _ _) ?_
    rintro _ K2 ⟨rfl, rfl⟩
    cases hs : sgn ((decB l p).1 : Int) with
    | false =>
      simp (disch := first | assumption | omega | (simp only [LN] <;> omega) | (simp (disch := first | assumption | omega | (simp only [LN] <;> omega)) only [row_alloc, row_set]; assumption)) only [W_block, P3, ↓reduceIte, reduceAdd, reduceEqDiff, reduceCtorEq, initFr, reduceLT, clsA, reduceLeDiff, reduceMul, reduceSub, reduceIte]
      refine hret _ _ (hq2 _ _ ⟨_, rfl, ?_, ?_⟩)
      · rw [hr, hstep]; simp [hs]; rfl
      · exact hk.set (Nat.le_refl _) (AHeap.get_lt hg) _
    | true =>
      have hw : IntKind.i64.wrap ((n : Int) + 1) = ((n + 1 : Nat) : Int) := by rw [wrap_i64 (by omega) (by omega)]; simp
      simp (disch := first | assumption | omega | (simp only [LN] <;> omega) | (simp (disch := first | assumption | omega | (simp only [LN] <;> omega)) only [row_alloc, row_set]; assumption)) only [W_block, P3, ↓reduceIte, reduceAdd, reduceEqDiff, reduceCtorEq, initFr, reduceLT, clsA, reduceLeDiff, reduceMul, reduceSub, reduceIte, hw]
      refine hn _ _ _ ⟨p + (decB l p).2, n + 1, _, _, _, _, _, rfl, AHeap.get_set_same hg _, hk.set (Nat.le_refl _) (AHeap.get_lt hg) _, ?_, by omega, rfl⟩ (by omega)
      rw [hr, hstep]
      simp only [List.all_cons, hs, Bool.true_and, List.length_cons, show n + ((runF l (p + (decB l p).2)).length + 1) = n + 1 + (runF l (p + (decB l p).2)).length by omega]
  · have hend := runF_end hp
    simp (disch := first | assumption | omega | (simp only [LN] <;> omega) | (simp (disch := first | assumption | omega | (simp only [LN] <;> omega)) only [row_alloc, row_set]; assumption)) only [W_block, P3, ↓reduceIte, reduceAdd, reduceEqDiff, reduceCtorEq, initFr, reduceLT, clsA, reduceLeDiff, reduceMul, reduceSub, reduceIte, a_nextN hg hp]
    refine hx 0 _ _ ?_
    rw [hend] at hr
    simp only [List.all_nil, Bool.true_and, List.length_nil, Nat.add_zero] at hr
    by_cases h1 : 1 ≤ n
    · have h1' : (1 : Int) ≤ (n : Int) := by omega
      simp (disch := first | assumption | omega | (simp only [LN] <;> omega) | (simp (disch := first | assumption | omega | (simp only [LN] <;> omega)) only [row_alloc, row_set]; assumption)) only [W_block, P3, ↓reduceIte, reduceAdd, reduceEqDiff, reduceCtorEq, initFr, reduceLT, clsA, reduceLeDiff, reduceMul, reduceSub, reduceIte]
      refine hq2 _ _ ⟨_, rfl, ?_, hk⟩
      rw [hr]
      simp only [tupV, List.getD_cons_succ, List.getD_cons_zero, h1, decide_true, Bool.true_and]
      congr 1
      rw [decide_eq_decide]; omega
    · have h1' : ¬ (1 : Int) ≤ (n : Int) := by omega
      simp (disch := first | assumption | omega | (simp only [LN] <;> omega) | (simp (disch := first | assumption | omega | (simp only [LN] <;> omega)) only [row_alloc, row_set]; assumption)) only [W_block, P3, ↓reduceIte, reduceAdd, reduceEqDiff, reduceCtorEq, initFr, reduceLT, clsA, reduceLeDiff, reduceMul, reduceSub, reduceIte]
      refine hq2 _ _ ⟨_, rfl, ?_, hk⟩
      rw [hr]
      simp only [tupV, List.getD_cons_succ, List.getD_cons_zero, h1, decide_false, Bool.false_and]
end Go.AM.Fd

set_option linter.unusedSimpArgs false
set_option linter.unusedVariables false
namespace Go.AM.Fd
open Nat (reduceAdd reduceEqDiff reduceLT reduceLeDiff reduceMul reduceSub)
open Go.Proofs Go.AM.F
def tRow (t : List UInt8) : List Value := [.string ⟨t.toArray⟩]
def TL (H : AHeap) (v : Value) (ts : List (List UInt8)) : Prop := Sl H 1 v (ts.map tRow)
theorem TL.len {H : AHeap} {v : Value} {ts : List (List UInt8)} (h : TL H v ts) : lenS v = ts.length := by
  have := Sl.len h; simpa using this
theorem TL.at_ {H : AHeap} {v : Value} {ts : List (List UInt8)} (h : TL H v ts) {i : Nat} (hi : i < ts.length) : nnS v = true ∧ rowA H 1 v i = some (tRow (ts.getD i [])) := by
  have := Sl.at_ h (by omega) (i := i) (by simpa using hi)
  refine ⟨this.1, ?_⟩
  rw [this.2]
  simp [List.getD, List.getElem?_eq_getElem hi]
theorem TL.nil (H : AHeap) : TL H (.slice none 0 0) [] := Sl.nil H 1
theorem TL.keeps {H K : AHeap} {v : Value} {ts : List (List UInt8)} (h : TL H v ts) (k : Keeps H K) : TL K v ts := Sl.keeps h k
theorem take_succ_eq {a b : List (List UInt8)} {i : Nat} (h : a.take i = b.take i) (ha : i < a.length) (hb : i < b.length) (he : a.getD i [] = b.getD i []) : a.take (i + 1) = b.take (i + 1) := by
  rw [List.take_add_one, List.take_add_one, h]
  simp only [List.getD, List.getElem?_eq_getElem ha, List.getElem?_eq_getElem hb, Option.getD_some] at he
  rw [List.getElem?_eq_getElem ha, List.getElem?_eq_getElem hb, he]
theorem t24 {H : AHeap} {v u : Value} {a b : List (List UInt8)} (ha : TL H v a) (hb : TL H u b) (hl : a.length ≤ 9223372036854775807) : ∃ w H', ARun Go.Proofs.Tryd.prog 4 24 [v, u] H w H' ∧ w = .bool (decide (a = b)) ∧ H' = H := by
  refine walk2 f24_ok f24_n ?_
  intro Q hq1 hq2
  have ia := Sl.is ha
  have ib := Sl.is hb
  have la := ha.len
  have lb := hb.len
  by_cases hlen : a.length = b.length
  · have e1 : (((a.length : Nat) : Int) != ((b.length : Nat) : Int)) = false := by simp [hlen]
    simp (disch := first | assumption | omega | (simp only [LN] <;> omega) | (simp (disch := first | assumption | omega | (simp only [LN] <;> omega)) only [row_alloc, row_set]; assumption)) only [ f24, P3, ↓reduceIte, reduceAdd, reduceEqDiff, reduceCtorEq, initFr, reduceLT, clsA, reduceLeDiff, reduceMul, reduceSub, reduceIte, la, lb, e1]
    rw [W_block]
    refine W_loop2 (fun k fr K => ∃ i x2 x5 x6, fr = [v, u, x2, .int .i64 ((i : Nat) : Int), .bool false, x5, x6] ∧ K = H ∧ i ≤ a.length ∧ a.take i = b.take i ∧ k = a.length - i) a.length
      ⟨0, _, _, _, rfl, rfl, by omega, by simp, rfl⟩ ?_
    rintro Q' k fr K ⟨i, x2, x5, x6, rfl, rfl, hi, hp, rfl⟩ hn hx hret
    by_cases hlt : i < a.length
    · obtain ⟨na, ra⟩ := ha.at_ hlt
      obtain ⟨nb, rb⟩ := hb.at_ (i := i) (by omega)
      have h0 : (0 : Int) ≤ (i : Int) := by omega
      have h1 : (i : Int) < ((lenS v : Nat) : Int) := by omega
      have h2 : (i : Int) < ((lenS u : Nat) : Int) := by omega
      have h3 : (i : Int) < ((a.length : Nat) : Int) := by omega
      have h4 : (i : Int) < ((b.length : Nat) : Int) := by omega
      unfold tRow at ra rb
      have hw : IntKind.i64.wrap ((i : Int) + 1) = ((i + 1 : Nat) : Int) := by rw [wrap_i64 (by omega) (by omega)]; simp
      by_cases he : a.getD i [] = b.getD i []
      · have e2 : decide (a.getD i [] = b.getD i []) = true := by simpa using he
        simp (disch := first | assumption | omega | (simp only [LN] <;> omega) | (simp (disch := first | assumption | omega | (simp only [LN] <;> omega)) only [row_alloc, row_set]; assumption)) only [W_block, P3, ↓reduceIte, reduceAdd, reduceEqDiff, reduceCtorEq, initFr, reduceLT, clsA, reduceLeDiff, reduceMul, reduceSub, reduceIte, la, lb, ra, rb, na, nb, a_load1v, bytes_eq, e2, hw]
        exact hn _ _ _ ⟨i + 1, _, _, _, rfl, rfl, by omega, take_succ_eq hp hlt (by omega) he, rfl⟩ (by omega)
      · have e2 : decide (a.getD i [] = b.getD i []) = false := by simpa using he
        simp (disch := first | assumption | omega | (simp only [LN] <;> omega) | (simp (disch := first | assumption | omega | (simp only [LN] <;> omega)) only [row_alloc, row_set]; assumption)) only [W_block, P3, ↓reduceIte, reduceAdd, reduceEqDiff, reduceCtorEq, initFr, reduceLT, clsA, reduceLeDiff, reduceMul, reduceSub, reduceIte, la, lb, ra, rb, na, nb, a_load1v, bytes_eq, e2, hw]
        refine hret _ _ (hq2 _ _ ⟨_, rfl, ?_, rfl⟩)
        have : ¬ a = b := fun hab => he (by rw [hab])
        simp only [tupV, List.getD_cons_succ, List.getD_cons_zero, this, decide_false]
    · have h3 : ¬ (i : Int) < ((a.length : Nat) : Int) := by omega
      simp (disch := first | assumption | omega | (simp only [LN] <;> omega) | (simp (disch := first | assumption | omega | (simp only [LN] <;> omega)) only [row_alloc, row_set]; assumption)) only [W_block, P3, ↓reduceIte, reduceAdd, reduceEqDiff, reduceCtorEq, initFr, reduceLT, clsA, reduceLeDiff, reduceMul, reduceSub, reduceIte, la, lb]
      refine hx 0 _ _ ?_
      simp (disch := first | assumption | omega | (simp only [LN] <;> omega) | (simp (disch := first | assumption | omega | (simp only [LN] <;> omega)) only [row_alloc, row_set]; assumption)) only [W_block, P3, ↓reduceIte, reduceAdd, reduceEqDiff, reduceCtorEq, initFr, reduceLT, clsA, reduceLeDiff, reduceMul, reduceSub, reduceIte]
      refine hq2 _ _ ⟨_, rfl, ?_, rfl⟩
      have : a = b := by
        rw [List.take_of_length_le (by omega), List.take_of_length_le (by omega)] at hp
        exact hp
      simp only [tupV, List.getD_cons_succ, List.getD_cons_zero, this, decide_true]
  · have e1 : (((a.length : Nat) : Int) != ((b.length : Nat) : Int)) = true := by simp; omega
    simp (disch := first | assumption | omega | (simp only [LN] <;> omega) | (simp (disch := first | assumption | omega | (simp only [LN] <;> omega)) only [row_alloc, row_set]; assumption)) only [f24, W_block, P3, ↓reduceIte, reduceAdd, reduceEqDiff, reduceCtorEq, initFr, reduceLT, clsA, reduceLeDiff, reduceMul, reduceSub, reduceIte, la, lb, e1]
    refine hq2 _ _ ⟨_, rfl, ?_, rfl⟩
    have : ¬ a = b := fun hab => hlen (by rw [hab])
    simp only [tupV, List.getD_cons_succ, List.getD_cons_zero, this, decide_false]
def aheadB (l : List UInt8) : List UInt8 := match ixB 35 l with
  | some i => l.take i
  | none => l
theorem ixB_at {c : UInt8} : ∀ {l : List UInt8} {i : Nat}, i < l.length → l.getD i 0 = c → (∀ j, j < i → l.getD j 0 ≠ c) → ixB c l = some i
  | x :: l, 0, _, h, _ => by
    have : x = c := by simpa using h
    simp [ixB, this]
  | x :: l, i + 1, hl, h, hn => by
    have hx : ¬ x = c := by simpa using hn 0 (by omega)
    simp only [ixB, if_neg hx]
    rw [ixB_at (l := l) (i := i) (by simpa using hl) (by simpa using h) (fun j hj => by simpa using hn (j + 1) (by omega))]
    rfl
theorem ixB_no {c : UInt8} : ∀ {l : List UInt8}, (∀ j, j < l.length → l.getD j 0 ≠ c) → ixB c l = none
  | [], _ => rfl
  | x :: l, hn => by
    have hx : ¬ x = c := by simpa using hn 0 (by simp)
    simp only [ixB, if_neg hx]
    rw [ixB_no (l := l) (fun j hj => by simpa using hn (j + 1) (by simpa using hj))]
    rfl
theorem u8_eqi (b : UInt8) (n : Nat) (h : n < 256) : (((b.toNat : Nat) : Int) == (n : Int)) = (b == UInt8.ofNat n) := by
  have h2 : (UInt8.ofNat n).toNat = n := by simp; omega
  rw [Bool.eq_iff_iff, beq_iff_eq, beq_iff_eq, ← UInt8.toNat_inj, h2]
  omega
def wholeB (l : List UInt8) (i : Nat) : Bool := [239, 191, 189].isPrefixOf (l.drop i)
end Go.AM.Fd

set_option linter.unusedSimpArgs false
set_option linter.unusedVariables false
namespace Go.AM
section
variable {P : Program} {ng : Nat} {H : AHeap} {Q : AQ} {fr tm : List Value} {KF : List Value → AHeap → Prop} {tr : List TE}
variable (d : D) (r : List AOper) (un : List Nat) (rd : List (AOper × List Nat))
theorem st_mkmap : stR P ng (.mkmap) d r fr tm H KF = goR P ng (asem .mkmap H) d r fr tm KF := st_of d r (by simp) (by simp) (by simp)
theorem st_mget (k : TypeDesc) (z : Value) (ok : Bool) (x y : Value) : stR P ng (.mget k z ok x y) d r fr tm H KF = goR P ng (asem (.mget k z ok x y) H) d r fr tm KF := st_of d r (by simp) (by simp) (by simp)
theorem sd_mget (k : TypeDesc) (z : Value) (ok : Bool) (x y : Value) : stD P ng (.mget k z ok x y) d un rd fr tm H tr KF = goD P ng (.mget k z ok x y) (asem (.mget k z ok x y) H) d un rd fr tm H tr KF := stD_of d un rd (by simp) (by simp) (by simp)
theorem st_mset (k : TypeDesc) (x y v : Value) : stR P ng (.mset k x y v) d r fr tm H KF = goR P ng (asem (.mset k x y v) H) d r fr tm KF := st_of d r (by simp) (by simp) (by simp)
theorem st_mm4 (m : Bool) (x y z w : Value) : stR P ng (.mm4 m x y z w) d r fr tm H KF = goR P ng (asem (.mm4 m x y z w) H) d r fr tm KF := st_of d r (by simp) (by simp) (by simp)
end
section
variable {H : AHeap}
theorem a_mm4 (m : Bool) (k : IntKind) (a b c e : Int) : asem (.mm4 m (.int k a) (.int k b) (.int k c) (.int k e)) H = some (.int k (mmI m (mmI m (mmI m a b) c) e), H) := by simp [asem]
theorem a_mkmap : asem .mkmap H = some (.map (some H.n), H.alloc (.obj true (.map #[] 0))) := _root_.id rfl
end
theorem cells_map (a : Option Nat) : (Value.map a).cells.toList = [.map a] := _root_.id rfl
structure Enc (d : TypeDesc) {κ : Type} [DecidableEq κ] (enc : κ → Value) : Prop where
  same : ∀ a b, Instr.sameNow d (enc a) (enc b) = some (decide (a = b))
  key : ∀ a, keyB d (enc a) = true
theorem encStr : Enc .string (fun l : List UInt8 => .string ⟨l.toArray⟩) := ⟨fun a b => by
  show some ((⟨a.toArray⟩ : ByteArray) == ⟨b.toArray⟩) = _
  have h : ((⟨a.toArray⟩ : ByteArray) == ⟨b.toArray⟩) = true ↔ a = b := by
    rw [MapKept.bytes_beq]
    constructor
    · intro h; cases h; rfl
    · rintro rfl; rfl
  by_cases e : a = b
  · rw [h.2 e]; simp [e]
  · have : ((⟨a.toArray⟩ : ByteArray) == ⟨b.toArray⟩) = false := by
      cases hb : ((⟨a.toArray⟩ : ByteArray) == ⟨b.toArray⟩)
      · rfl
      · exact absurd (h.1 hb) e
    rw [this]; simp [e], fun a => rfl⟩
section
variable {κ : Type} [DecidableEq κ] {enc : κ → Value} {d : TypeDesc} {H : AHeap}
def mfind (k : κ) : List (κ × Value) → Option Value
  | [] => none
  | (a, v) :: l => if k = a then some v else mfind k l
def mput (k : κ) (x : Value) : List (κ × Value) → List (κ × Value)
  | [] => [(k, x)]
  | (a, v) :: l => if k = a then (k, x) :: l else (a, v) :: mput k x l
theorem mput_new {k : κ} {x : Value} : ∀ {l : List (κ × Value)}, mfind k l = none → mput k x l = l ++ [(k, x)]
  | [], _ => rfl
  | (a, v) :: l, h => by
    simp only [mfind] at h
    split at h
    · cases h
    · rename_i hk
      simp only [mput, if_neg hk, mput_new h, List.cons_append]
theorem mem_mput {k : κ} {x : Value} {p : κ × Value} : ∀ {l : List (κ × Value)}, p ∈ mput k x l → p ∈ l ∨ p = (k, x)
  | [], h => by simp [mput] at h; exact .inr h
  | (a, v) :: l, h => by
    simp only [mput] at h
    split at h
    · simp only [List.mem_cons] at h ⊢
      rcases h with rfl | h
      · exact .inr rfl
      · exact .inl (.inr h)
    · simp only [List.mem_cons] at h ⊢
      rcases h with rfl | h
      · exact .inl (.inl rfl)
      · rcases mem_mput h with h | h
        · exact .inl (.inr h)
        · exact .inr h
def MP (enc : κ → Value) (H : AHeap) (b : Nat) (l : List (κ × Value)) : Prop :=
  (∃ es clock, H.get b = some (.obj true (.map es clock)) ∧ es.toList.map (fun e => (e.key, e.val)) = l.map (fun p => (enc p.1, p.2))) ∧ ∀ p ∈ l, gndB p.2 = true
omit [DecidableEq κ] in
theorem MP.lt {b : Nat} {l : List (κ × Value)} (h : MP enc H b l) : b < H.n := by
  obtain ⟨⟨es, c, h1, _⟩, _⟩ := h; exact AHeap.get_lt h1
omit [DecidableEq κ] in
theorem MP.get {H' : AHeap} {b : Nat} {l : List (κ × Value)} (h : MP enc H b l) (e : H'.get b = H.get b) : MP enc H' b l := by
  obtain ⟨⟨es, c, h1, h2⟩, h3⟩ := h; exact ⟨⟨es, c, by rw [e]; exact h1, h2⟩, h3⟩
omit [DecidableEq κ] in
theorem MP.new (H : AHeap) : MP enc (H.alloc (.obj true (.map #[] 0))) H.n [] := ⟨⟨#[], 0, AHeap.get_alloc_new _ _, rfl⟩, by simp⟩
theorem findNow_l (E : Enc d enc) (k : κ) : ∀ (es : List MapEntry) (l : List (κ × Value)) (i : Nat), es.map (fun e => (e.key, e.val)) = l.map (fun p => (enc p.1, p.2)) →
    ∃ r, Instr.findNow d (enc k) es i = some r ∧ r.map (·.2) = mfind k l ∧ ∀ j v, r = some (j, v) → i ≤ j ∧ ∀ x, ((es.modify (j - i) fun e => { e with key := enc k, val := x }).map (fun e => (e.key, e.val))) = (mput k x l).map (fun p => (enc p.1, p.2))
  | [], l, i, h => by
    have : l = [] := by cases l <;> simp_all
    subst this
    exact ⟨none, rfl, rfl, fun j v h => by cases h⟩
  | e :: es, l, i, h => by
    cases l with
    | nil => simp at h
    | cons p l =>
      obtain ⟨a, v⟩ := p
      simp only [List.map_cons, List.cons.injEq, Prod.mk.injEq] at h
      obtain ⟨⟨h1, h2⟩, h3⟩ := h
      by_cases hk : k = a
      · subst hk
        refine ⟨some (i, e.val), ?_, by simp [mfind, h2], ?_⟩
        · unfold Instr.findNow
          rw [h1, E.same]
          simp
        · intro j w hj
          cases hj
          refine ⟨Nat.le_refl _, fun x => ?_⟩
          simp [mput, h3]
      · obtain ⟨r, r1, r2, r3⟩ := findNow_l E k es l (i + 1) h3
        refine ⟨r, ?_, by simp [mfind, hk, r2], ?_⟩
        · unfold Instr.findNow
          rw [h1, E.same]
          simp [hk, r1]
        · intro j w hj
          obtain ⟨q1, q2⟩ := r3 j w hj
          refine ⟨by omega, fun x => ?_⟩
          rw [show j - i = (j - (i + 1)) + 1 by omega]
          simp only [List.modify_succ_cons, List.map_cons, mput, if_neg hk, q2 x, h1, h2]
def mres (z : Value) (ok : Bool) : Option Value → Value
  | some v => if ok then .tuple #[v, .bool true] else v
  | none => if ok then .tuple #[z, .bool false] else z
theorem mfind_mem {k : κ} {v : Value} : ∀ {l : List (κ × Value)}, mfind k l = some v → (k, v) ∈ l
  | (a, w) :: l, h => by
    simp only [mfind] at h
    split at h
    · rename_i e; cases h; subst e; simp
    · simp [mfind_mem h]
theorem a_mget (E : Enc d enc) {b : Nat} {l : List (κ × Value)} (h : MP enc H b l) (k : κ) (z : Value) (ok : Bool) : asem (.mget d z ok (.map (some b)) (enc k)) H = some (mres z ok (mfind k l), H) := by
  obtain ⟨⟨es, c, h1, h2⟩, h3⟩ := h
  obtain ⟨r, r1, r2, _⟩ := findNow_l E k es.toList l 0 h2
  simp only [asem, E.key, if_true, h1, r1, ← r2]
  cases r with
  | none => rfl
  | some p =>
    obtain ⟨j, v⟩ := p
    have : gndB v = true := h3 _ (mfind_mem (k := k) (by rw [← r2]; rfl))
    simp [mgetA, this, mres]
theorem a_mset (E : Enc d enc) {b : Nat} {l : List (κ × Value)} (h : MP enc H b l) (k : κ) {x : Value} (hx : gndB x = true) : ∃ o, asem (.mset d (.map (some b)) (enc k) x) H = some (undef, H.set b o) ∧ MP enc (H.set b o) b (mput k x l) := by
  obtain ⟨⟨es, c, h1, h2⟩, h3⟩ := h
  obtain ⟨r, r1, r2, r3⟩ := findNow_l E k es.toList l 0 h2
  have hg : ∀ p ∈ mput k x l, gndB p.2 = true := fun p hp => by
    rcases mem_mput hp with hp | rfl
    · exact h3 p hp
    · exact hx
  simp only [asem, E.key, hx, and_self, if_true, h1, r1]
  cases r with
  | none =>
    refine ⟨_, rfl, ⟨⟨_, _, AHeap.get_set_same h1 _, ?_⟩, hg⟩⟩
    rw [mput_new (by rw [← r2]; rfl)]
    simp [h2]
  | some p =>
    obtain ⟨j, v⟩ := p
    refine ⟨_, rfl, ⟨⟨_, _, AHeap.get_set_same h1 _, ?_⟩, hg⟩⟩
    obtain ⟨_, q⟩ := r3 j v rfl
    have := q x
    simpa using this
end
end Go.AM

set_option linter.unusedSimpArgs false
set_option linter.unusedVariables false
namespace Go.AM.Fd
open Go.Proofs Go.AM.F
structure Ro where
  n : List UInt8
  g : Int
  path : List Int
  pts : List (Int × Bool)
  ov : List Int
  fl : List (Int × Bool)
structure Ly where
  s : List (List UInt8)
  p : List (List UInt8 × Int)
  g : List (List UInt8 × Int)
  r : List Ro
def iRow (n : Int) : List Value := [.int .i64 n]
def nRow (x : Int × Bool) : List Value := [.int .i64 x.1, .bool x.2]
def pRow (x : List UInt8 × Int) : List Value := [.string ⟨x.1.toArray⟩, .int .i64 x.2]
def IL (H : AHeap) (v : Value) (l : List Int) : Prop := Sl H 1 v (l.map iRow)
def NL (H : AHeap) (v : Value) (l : List (Int × Bool)) : Prop := Sl H 2 v (l.map nRow)
def PL (H : AHeap) (v : Value) (l : List (List UInt8 × Int)) : Prop := Sl H 2 v (l.map pRow)
structure RV where
  r : Ro
  vp : Value
  vq : Value
  vo : Value
  vf : Value
def RV.row (x : RV) : List Value := [.string ⟨x.r.n.toArray⟩, .int .i64 x.r.g, x.vp, x.vq, x.vo, x.vf]
structure RV.ok (H : AHeap) (x : RV) : Prop where
  p : IL H x.vp x.r.path
  q : NL H x.vq x.r.pts
  o : IL H x.vo x.r.ov
  f : NL H x.vf x.r.fl
def RL (H : AHeap) (v : Value) (xs : List RV) : Prop := Sl H 6 v (xs.map RV.row)
structure V4 where
  s : Value
  p : Value
  g : Value
  r : Value
def V4.l (u : V4) : List Value := [u.s, u.p, u.g, u.r]
structure LyR (H : AHeap) (u : V4) (xs : List RV) (L : Ly) : Prop where
  s : TL H u.s L.s
  p : PL H u.p L.p
  g : PL H u.g L.g
  r : RL H u.r xs
  e : xs.map (·.r) = L.r
  ok : ∀ x ∈ xs, x.ok H
section
variable {H K : AHeap} {v : Value}
theorem IL.len {l : List Int} (h : IL H v l) : lenS v = l.length := by have := Sl.len h; simpa using this
theorem NL.len {l : List (Int × Bool)} (h : NL H v l) : lenS v = l.length := by have := Sl.len h; simpa using this
theorem PL.len {l : List (List UInt8 × Int)} (h : PL H v l) : lenS v = l.length := by have := Sl.len h; simpa using this
theorem RL.len {l : List RV} (h : RL H v l) : lenS v = l.length := by have := Sl.len h; simpa using this
theorem IL.keeps {l : List Int} (h : IL H v l) (k : Keeps H K) : IL K v l := Sl.keeps h k
theorem NL.keeps {l : List (Int × Bool)} (h : NL H v l) (k : Keeps H K) : NL K v l := Sl.keeps h k
theorem PL.keeps {l : List (List UInt8 × Int)} (h : PL H v l) (k : Keeps H K) : PL K v l := Sl.keeps h k
theorem RL.keeps {l : List RV} (h : RL H v l) (k : Keeps H K) : RL K v l := Sl.keeps h k
theorem IL.at_ {l : List Int} (h : IL H v l) {i : Nat} (hi : i < l.length) : nnS v = true ∧ rowA H 1 v i = some [.int .i64 (l.getD i 0)] := by
  have := Sl.at_ h (by omega) (i := i) (by simpa using hi)
  refine ⟨this.1, ?_⟩
  rw [this.2]; simp [List.getD, List.getElem?_eq_getElem hi, iRow]
theorem NL.at_ {l : List (Int × Bool)} (h : NL H v l) {i : Nat} (hi : i < l.length) : nnS v = true ∧ rowA H 2 v i = some [.int .i64 (l.getD i (0, false)).1, .bool (l.getD i (0, false)).2] := by
  have := Sl.at_ h (by omega) (i := i) (by simpa using hi)
  refine ⟨this.1, ?_⟩
  rw [this.2]; simp [List.getD, List.getElem?_eq_getElem hi, nRow]
theorem PL.at_ {l : List (List UInt8 × Int)} (h : PL H v l) {i : Nat} (hi : i < l.length) : nnS v = true ∧ rowA H 2 v i = some [.string ⟨(l.getD i ([], 0)).1.toArray⟩, .int .i64 (l.getD i ([], 0)).2] := by
  have := Sl.at_ h (by omega) (i := i) (by simpa using hi)
  refine ⟨this.1, ?_⟩
  rw [this.2]; simp [List.getD, List.getElem?_eq_getElem hi, pRow]
def rv0 : RV := ⟨⟨[], 0, [], [], [], []⟩, .slice none 0 0, .slice none 0 0, .slice none 0 0, .slice none 0 0⟩
theorem RL.at_ {l : List RV} (h : RL H v l) {i : Nat} (hi : i < l.length) : nnS v = true ∧ rowA H 6 v i = some (l.getD i rv0).row := by
  have := Sl.at_ h (by omega) (i := i) (by simpa using hi)
  refine ⟨this.1, ?_⟩
  rw [this.2]; simp [List.getD, List.getElem?_eq_getElem hi]
theorem RV.ok.keeps {x : RV} (h : x.ok H) (k : Keeps H K) : x.ok K := ⟨h.p.keeps k, h.q.keeps k, h.o.keeps k, h.f.keeps k⟩
theorem LyR.keeps {u : V4} {xs : List RV} {L : Ly} (h : LyR H u xs L) (k : Keeps H K) : LyR K u xs L :=
  ⟨h.s.keeps k, h.p.keeps k, h.g.keeps k, h.r.keeps k, h.e, fun x hx => (h.ok x hx).keeps k⟩
theorem LyR.rlen {u : V4} {xs : List RV} {L : Ly} (h : LyR H u xs L) : xs.length = L.r.length := by rw [← h.e]; simp
theorem LyR.rat {u : V4} {xs : List RV} {L : Ly} (h : LyR H u xs L) {i : Nat} (hi : i < L.r.length) : (xs.getD i rv0).ok H ∧ (xs.getD i rv0).r = L.r.getD i rv0.r := by
  have hi' : i < xs.length := by rw [h.rlen]; exact hi
  have e : xs.getD i rv0 = xs[i] := by simp [List.getD, List.getElem?_eq_getElem hi']
  refine ⟨by rw [e]; exact h.ok _ (List.getElem_mem _), ?_⟩
  rw [e]
  have : (xs.map (·.r))[i]'(by simpa using hi') = L.r[i] := by
    have := h.e
    simp only [← this]
  simp only [List.getElem_map] at this
  rw [this]; simp [List.getD, List.getElem?_eq_getElem hi]
end
end Go.AM.Fd

set_option maxRecDepth 100000
set_option maxHeartbeats 0
namespace Go.AM.F
def zclD : TypeId → List Value
 | 28 => [(.slice none 0 0), (.slice none 0 0), (.slice none 0 0), (.slice none 0 0)]
 | 49 => [(.slice none 0 0), (.slice none 0 0), (.slice none 0 0), (.slice none 0 0), (.map none)]
 | 43 => [(.string ByteArray.empty), (.int .i64 0), (.slice none 0 0), (.slice none 0 0), (.slice none 0 0), (.slice none 0 0)]
 | 58 => [(.string ByteArray.empty), (.int .i64 0)]
 | 59 => [(.string ByteArray.empty), (.int .i64 0)]
 | 45 => [(.int .i64 0), (.bool false)]
 | 116 => [(.bool false), (.bool false), (.bool false), (.bool false)]
 | _ => []
def zvlD : TypeId → Value
 | 62 => (.int .i64 0)
 | 65 => (.int .i64 0)
 | 63 => (.int .i64 0)
 | _ => undef
def zklD : TypeId → List Nat
 | 58 => [2, 1]
 | 59 => [2, 1]
 | 116 => [0, 0, 0, 0]
 | 45 => [1, 0]
 | _ => []
def zrlD : Nat → TypeId → List Value
 | 1, 3 => [(.int .i64 0)]
 | 1, 9 => [(.string ByteArray.empty)]
 | 1, 58 => [(.string ByteArray.empty), (.int .i64 0)]
 | 1, 59 => [(.string ByteArray.empty), (.int .i64 0)]
 | 1, 43 => [(.string ByteArray.empty), (.int .i64 0), (.slice none 0 0), (.slice none 0 0), (.slice none 0 0), (.slice none 0 0)]
 | 4, 29 => [(.int .i64 0), (.int .i64 0), (.int .i64 0), (.int .i64 0)]
 | 1, 45 => [(.int .i64 0), (.bool false)]
 | _, _ => []
noncomputable def f5 : AFunc := by
 refine (fun (_ : Cz zclD zvlD zklD zrlD Go.Proofs.Tryd.prog 4 [0, 1, 2] 5 ?a) => ?a) ?h
 case h =>
 intro zc zv zk zr hc hv hk hr
 conv => lhs; cbv; try simp only [hc, hv, hk, hr, zclD, zvlD, zklD, zrlD]
noncomputable def f8 : AFunc := by
 refine (fun (_ : Cz zclD zvlD zklD zrlD Go.Proofs.Tryd.prog 4 [0, 1, 2, 5, 6] 8 ?a) => ?a) ?h
 case h =>
 intro zc zv zk zr hc hv hk hr
 conv => lhs; cbv; try simp only [hc, hv, hk, hr, zclD, zvlD, zklD, zrlD]
theorem f8_ok : compF Go.Proofs.Tryd.prog 4 [0, 1, 2, 5, 6] 8 = some f8 := by kernel_rfl
theorem f8_n : argsOK Go.Proofs.Tryd.prog 8 0 = true := by kernel_rfl
noncomputable def f9 : AFunc := by
 refine (fun (_ : Cz zclD zvlD zklD zrlD Go.Proofs.Tryd.prog 4 [0, 2, 3, 4, 5, 6, 7, 8, 11, 17, 18, 19, 20, 28] 9 ?a) => ?a) ?h
 case h =>
 intro zc zv zk zr hc hv hk hr
 conv => lhs; cbv; try simp only [hc, hv, hk, hr, zclD, zvlD, zklD, zrlD]
theorem f9_ok : compF Go.Proofs.Tryd.prog 4 [0, 2, 3, 4, 5, 6, 7, 8, 11, 17, 18, 19, 20, 28] 9 = some f9 := by kernel_rfl
theorem f9_n : argsOK Go.Proofs.Tryd.prog 9 1 = true := by kernel_rfl
noncomputable def f11 : AFunc := by
 refine (fun (_ : Cz zclD zvlD zklD zrlD Go.Proofs.Tryd.prog 4 [0, 1, 2, 3, 4, 5, 6, 7, 40, 45, 58, 63, 76, 81, 95] 11 ?a) => ?a) ?h
 case h =>
 intro zc zv zk zr hc hv hk hr
 conv => lhs; cbv; try simp only [hc, hv, hk, hr, zclD, zvlD, zklD, zrlD]
theorem f11_ok : compF Go.Proofs.Tryd.prog 4 [0, 1, 2, 3, 4, 5, 6, 7, 40, 45, 58, 63, 76, 81, 95] 11 = some f11 := by kernel_rfl
theorem f11_n : argsOK Go.Proofs.Tryd.prog 11 2 = true := by kernel_rfl
noncomputable def f12 : AFunc := by
 refine (fun (_ : Cz zclD zvlD zklD zrlD Go.Proofs.Tryd.prog 4 [0, 1, 2, 4, 5, 6, 7, 8, 9, 10, 20, 41, 63, 85, 109] 12 ?a) => ?a) ?h
 case h =>
 intro zc zv zk zr hc hv hk hr
 conv => lhs; cbv; try simp only [hc, hv, hk, hr, zclD, zvlD, zklD, zrlD]
theorem f12_ok : compF Go.Proofs.Tryd.prog 4 [0, 1, 2, 4, 5, 6, 7, 8, 9, 10, 20, 41, 63, 85, 109] 12 = some f12 := by kernel_rfl
theorem f12_n : argsOK Go.Proofs.Tryd.prog 12 2 = true := by kernel_rfl
noncomputable def f13 : AFunc := by
 refine (fun (_ : Cz zclD zvlD zklD zrlD Go.Proofs.Tryd.prog 4 [0, 1, 2, 3, 4, 5, 6, 7, 8, 9, 10, 11, 12, 13, 14, 15, 16, 42, 47, 48, 49, 50, 68, 69, 70, 71, 98, 99, 100, 101, 128, 129, 130, 131] 13 ?a) => ?a) ?h
 case h =>
 intro zc zv zk zr hc hv hk hr
 conv => lhs; cbv; try simp only [hc, hv, hk, hr, zclD, zvlD, zklD, zrlD]
theorem f13_ok : compF Go.Proofs.Tryd.prog 4 [0, 1, 2, 3, 4, 5, 6, 7, 8, 9, 10, 11, 12, 13, 14, 15, 16, 42, 47, 48, 49, 50, 68, 69, 70, 71, 98, 99, 100, 101, 128, 129, 130, 131] 13 = some f13 := by kernel_rfl
theorem f13_n : argsOK Go.Proofs.Tryd.prog 13 1 = true := by kernel_rfl
noncomputable def f19 : AFunc := by
 refine (fun (_ : Cz zclD zvlD zklD zrlD Go.Proofs.Tryd.prog 4 [0, 1, 4, 5, 6, 18, 22, 23, 28, 34] 19 ?a) => ?a) ?h
 case h =>
 intro zc zv zk zr hc hv hk hr
 conv => lhs; cbv; try simp only [hc, hv, hk, hr, zclD, zvlD, zklD, zrlD]
theorem f19_ok : compF Go.Proofs.Tryd.prog 4 [0, 1, 4, 5, 6, 18, 22, 23, 28, 34] 19 = some f19 := by kernel_rfl
theorem f19_n : argsOK Go.Proofs.Tryd.prog 19 2 = true := by kernel_rfl
noncomputable def f25 : AFunc := by
 refine (fun (_ : Cz zclD zvlD zklD zrlD Go.Proofs.Tryd.prog 4 [0, 1, 2, 3, 4] 25 ?a) => ?a) ?h
 case h =>
 intro zc zv zk zr hc hv hk hr
 conv => lhs; cbv; try simp only [hc, hv, hk, hr, zclD, zvlD, zklD, zrlD]
theorem f25_ok : compF Go.Proofs.Tryd.prog 4 [0, 1, 2, 3, 4] 25 = some f25 := by kernel_rfl
theorem f25_n : argsOK Go.Proofs.Tryd.prog 25 2 = true := by kernel_rfl
noncomputable def f27 : AFunc := by
 refine (fun (_ : Cz zclD zvlD zklD zrlD Go.Proofs.Tryd.prog 4 [0, 1, 2, 6, 8, 18] 27 ?a) => ?a) ?h
 case h =>
 intro zc zv zk zr hc hv hk hr
 conv => lhs; cbv; try simp only [hc, hv, hk, hr, zclD, zvlD, zklD, zrlD]
theorem f27_ok : compF Go.Proofs.Tryd.prog 4 [0, 1, 2, 6, 8, 18] 27 = some f27 := by kernel_rfl
theorem f27_n : argsOK Go.Proofs.Tryd.prog 27 3 = true := by kernel_rfl
noncomputable def f28 : AFunc := by
 refine (fun (_ : Cz zclD zvlD zklD zrlD Go.Proofs.Tryd.prog 4 [0, 1, 4, 6, 7, 8, 9, 10, 19] 28 ?a) => ?a) ?h
 case h =>
 intro zc zv zk zr hc hv hk hr
 conv => lhs; cbv; try simp only [hc, hv, hk, hr, zclD, zvlD, zklD, zrlD]
theorem f28_ok : compF Go.Proofs.Tryd.prog 4 [0, 1, 4, 6, 7, 8, 9, 10, 19] 28 = some f28 := by kernel_rfl
theorem f28_n : argsOK Go.Proofs.Tryd.prog 28 2 = true := by kernel_rfl
noncomputable def f29 : AFunc := by
 refine (fun (_ : Cz zclD zvlD zklD zrlD Go.Proofs.Tryd.prog 4 [0, 1, 4, 5, 6, 7, 8, 9, 10, 23] 29 ?a) => ?a) ?h
 case h =>
 intro zc zv zk zr hc hv hk hr
 conv => lhs; cbv; try simp only [hc, hv, hk, hr, zclD, zvlD, zklD, zrlD]
theorem f29_ok : compF Go.Proofs.Tryd.prog 4 [0, 1, 4, 5, 6, 7, 8, 9, 10, 23] 29 = some f29 := by kernel_rfl
theorem f29_n : argsOK Go.Proofs.Tryd.prog 29 2 = true := by kernel_rfl
noncomputable def f44 : AFunc := by
 refine (fun (_ : Cz zclD zvlD zklD zrlD Go.Proofs.Tryd.prog 4 [0, 1, 4, 5, 16, 30] 44 ?a) => ?a) ?h
 case h =>
 intro zc zv zk zr hc hv hk hr
 conv => lhs; cbv; try simp only [hc, hv, hk, hr, zclD, zvlD, zklD, zrlD]
theorem f44_ok : compF Go.Proofs.Tryd.prog 4 [0, 1, 4, 5, 16, 30] 44 = some f44 := by kernel_rfl
theorem f44_n : argsOK Go.Proofs.Tryd.prog 44 2 = true := by kernel_rfl
noncomputable def f45 : AFunc := by
 refine (fun (_ : Cz zclD zvlD zklD zrlD Go.Proofs.Tryd.prog 4 [0, 1, 4, 6, 7, 8, 18, 30, 44, 48, 55, 90] 45 ?a) => ?a) ?h
 case h =>
 intro zc zv zk zr hc hv hk hr
 conv => lhs; cbv; try simp only [hc, hv, hk, hr, zclD, zvlD, zklD, zrlD]
theorem f45_ok : compF Go.Proofs.Tryd.prog 4 [0, 1, 4, 6, 7, 8, 18, 30, 44, 48, 55, 90] 45 = some f45 := by kernel_rfl
theorem f45_n : argsOK Go.Proofs.Tryd.prog 45 2 = true := by kernel_rfl
noncomputable def f46 : AFunc := by
 refine (fun (_ : Cz zclD zvlD zklD zrlD Go.Proofs.Tryd.prog 4 [0, 1, 4, 5, 7, 8, 9, 10, 11, 44, 56, 120, 143] 46 ?a) => ?a) ?h
 case h =>
 intro zc zv zk zr hc hv hk hr
 conv => lhs; cbv; try simp only [hc, hv, hk, hr, zclD, zvlD, zklD, zrlD]
theorem f46_ok : compF Go.Proofs.Tryd.prog 4 [0, 1, 4, 5, 7, 8, 9, 10, 11, 44, 56, 120, 143] 46 = some f46 := by kernel_rfl
theorem f46_n : argsOK Go.Proofs.Tryd.prog 46 2 = true := by kernel_rfl
noncomputable def f50 : AFunc := by
 refine (fun (_ : Cz zclD zvlD zklD zrlD Go.Proofs.Tryd.prog 4 [0, 1, 4, 5, 10, 14, 25] 50 ?a) => ?a) ?h
 case h =>
 intro zc zv zk zr hc hv hk hr
 conv => lhs; cbv; try simp only [hc, hv, hk, hr, zclD, zvlD, zklD, zrlD]
theorem f50_ok : compF Go.Proofs.Tryd.prog 4 [0, 1, 4, 5, 10, 14, 25] 50 = some f50 := by kernel_rfl
theorem f50_n : argsOK Go.Proofs.Tryd.prog 50 2 = true := by kernel_rfl
noncomputable def f51 : AFunc := by
 refine (fun (_ : Cz zclD zvlD zklD zrlD Go.Proofs.Tryd.prog 4 [0, 1, 4, 5, 10, 14, 25] 51 ?a) => ?a) ?h
 case h =>
 intro zc zv zk zr hc hv hk hr
 conv => lhs; cbv; try simp only [hc, hv, hk, hr, zclD, zvlD, zklD, zrlD]
theorem f51_ok : compF Go.Proofs.Tryd.prog 4 [0, 1, 4, 5, 10, 14, 25] 51 = some f51 := by kernel_rfl
theorem f51_n : argsOK Go.Proofs.Tryd.prog 51 2 = true := by kernel_rfl
noncomputable def f63 : AFunc := by
 refine (fun (_ : Cz zclD zvlD zklD zrlD Go.Proofs.Tryd.prog 4 [0, 2, 4, 5, 6, 7, 8, 23] 63 ?a) => ?a) ?h
 case h =>
 intro zc zv zk zr hc hv hk hr
 conv => lhs; cbv; try simp only [hc, hv, hk, hr, zclD, zvlD, zklD, zrlD]
theorem f63_ok : compF Go.Proofs.Tryd.prog 4 [0, 2, 4, 5, 6, 7, 8, 23] 63 = some f63 := by kernel_rfl
theorem f63_n : argsOK Go.Proofs.Tryd.prog 63 1 = true := by kernel_rfl
noncomputable def f64 : AFunc := by
 refine (fun (_ : Cz zclD zvlD zklD zrlD Go.Proofs.Tryd.prog 4 [0, 1, 4, 5, 6, 8, 9, 10, 11, 12, 13, 14, 28] 64 ?a) => ?a) ?h
 case h =>
 intro zc zv zk zr hc hv hk hr
 conv => lhs; cbv; try simp only [hc, hv, hk, hr, zclD, zvlD, zklD, zrlD]
theorem f64_ok : compF Go.Proofs.Tryd.prog 4 [0, 1, 4, 5, 6, 8, 9, 10, 11, 12, 13, 14, 28] 64 = some f64 := by kernel_rfl
theorem f64_n : argsOK Go.Proofs.Tryd.prog 64 2 = true := by kernel_rfl
noncomputable def f65 : AFunc := by
 refine (fun (_ : Cz zclD zvlD zklD zrlD Go.Proofs.Tryd.prog 4 [0, 1, 4, 5, 6, 8, 9, 10, 11, 12, 13, 14, 32] 65 ?a) => ?a) ?h
 case h =>
 intro zc zv zk zr hc hv hk hr
 conv => lhs; cbv; try simp only [hc, hv, hk, hr, zclD, zvlD, zklD, zrlD]
theorem f65_ok : compF Go.Proofs.Tryd.prog 4 [0, 1, 4, 5, 6, 8, 9, 10, 11, 12, 13, 14, 32] 65 = some f65 := by kernel_rfl
theorem f65_n : argsOK Go.Proofs.Tryd.prog 65 2 = true := by kernel_rfl
noncomputable def f70 : AFunc := by
 refine (fun (_ : Cz zclD zvlD zklD zrlD Go.Proofs.Tryd.prog 4 [0, 2, 3, 7, 14] 70 ?a) => ?a) ?h
 case h =>
 intro zc zv zk zr hc hv hk hr
 conv => lhs; cbv; try simp only [hc, hv, hk, hr, zclD, zvlD, zklD, zrlD]
theorem f70_ok : compF Go.Proofs.Tryd.prog 4 [0, 2, 3, 7, 14] 70 = some f70 := by kernel_rfl
theorem f70_n : argsOK Go.Proofs.Tryd.prog 70 1 = true := by kernel_rfl
noncomputable def f82 : AFunc := by
 refine (fun (_ : Cz zclD zvlD zklD zrlD Go.Proofs.Tryd.prog 4 [0, 1, 4] 82 ?a) => ?a) ?h
 case h =>
 intro zc zv zk zr hc hv hk hr
 conv => lhs; cbv; try simp only [hc, hv, hk, hr, zclD, zvlD, zklD, zrlD]
theorem f82_ok : compF Go.Proofs.Tryd.prog 4 [0, 1, 4] 82 = some f82 := by kernel_rfl
theorem f82_n : argsOK Go.Proofs.Tryd.prog 82 2 = true := by kernel_rfl
noncomputable def f91 : AFunc := by
 refine (fun (_ : Cz zclD zvlD zklD zrlD Go.Proofs.Tryd.prog 4 [0, 1, 4] 91 ?a) => ?a) ?h
 case h =>
 intro zc zv zk zr hc hv hk hr
 conv => lhs; cbv; try simp only [hc, hv, hk, hr, zclD, zvlD, zklD, zrlD]
theorem f91_ok : compF Go.Proofs.Tryd.prog 4 [0, 1, 4] 91 = some f91 := by kernel_rfl
theorem f91_n : argsOK Go.Proofs.Tryd.prog 91 2 = true := by kernel_rfl
noncomputable def f3 : AFunc := by
 refine (fun (_ : Cz zclD zvlD zklD zrlD Go.Proofs.Tryd.prog 4 [0, 2, 3, 4, 5, 6, 7, 8, 16] 3 ?a) => ?a) ?h
 case h =>
 intro zc zv zk zr hc hv hk hr
 conv => lhs; cbv; try simp only [hc, hv, hk, hr, zclD, zvlD, zklD, zrlD]
noncomputable def f4 : AFunc := by
 refine (fun (_ : Cz zclD zvlD zklD zrlD Go.Proofs.Tryd.prog 4 [0, 2, 3, 4, 5, 6, 7, 8, 9, 10, 13, 18, 24, 30] 4 ?a) => ?a) ?h
 case h =>
 intro zc zv zk zr hc hv hk hr
 conv => lhs; cbv; try simp only [hc, hv, hk, hr, zclD, zvlD, zklD, zrlD]
end Go.AM.F

set_option linter.unusedSimpArgs false
set_option linter.unusedVariables false
namespace Go.AM.Fd
open Nat (reduceAdd reduceEqDiff reduceLT reduceLeDiff reduceMul reduceSub)
open Go.Proofs Go.AM.F
def inB (n x : Int) : Bool := decide (0 ≤ x) && decide (x < n)
theorem all_take {α : Type} {p : α → Bool} {l : List α} {i : Nat} {d : α} (h : i < l.length) (hp : (l.take i).all p = true) (hx : p (l.getD i d) = true) : (l.take (i + 1)).all p = true := by
  rw [List.take_add_one, List.all_append, hp, List.getElem?_eq_getElem h]
  simpa [List.getD, List.getElem?_eq_getElem h] using hx
theorem all_not {α : Type} {p : α → Bool} {l : List α} {i : Nat} {d : α} (h : i < l.length) (hx : p (l.getD i d) = false) : l.all p = false := by
  rw [List.all_eq_false]
  exact ⟨l[i], List.getElem_mem _, by simpa [List.getD, List.getElem?_eq_getElem h] using hx⟩
theorem t28 {H : AHeap} {v : Value} {l : List Int} (n : Int) (h : IL H v l) (hl : l.length ≤ 9223372036854775807) : ∃ w H', ARun Go.Proofs.Tryd.prog 4 28 [.int .i64 n, v] H w H' ∧ w = .bool (l.all (inB n)) ∧ H' = H := by
  refine walk2 f28_ok f28_n ?_
  intro Q hq1 hq2
  have ia := Sl.is h
  have la := h.len
  simp (disch := first | assumption | omega | (simp only [LN] <;> omega) | (simp (disch := first | assumption | omega | (simp only [LN] <;> omega)) only [row_alloc, row_set]; assumption)) only [ f28, P3, ↓reduceIte, reduceAdd, reduceEqDiff, reduceCtorEq, initFr, reduceLT, clsA, reduceLeDiff, reduceMul, reduceSub, reduceIte, la]
  rw [W_block]
  refine W_loop2 (fun k fr K => ∃ i x3 x7 x8, fr = [.int .i64 n, v, .bool false, x3, v, .int .i64 ((l.length : Nat) : Int), .int .i64 ((i : Nat) : Int), x7, x8] ∧ K = H ∧ i ≤ l.length ∧ (l.take i).all (inB n) = true ∧ k = l.length - i) l.length
    ⟨0, _, _, _, rfl, rfl, by omega, by simp, rfl⟩ ?_
  rintro Q' k fr K ⟨i, x3, x7, x8, rfl, rfl, hi, hp, rfl⟩ hn hx hret
  by_cases hlt : i < l.length
  · obtain ⟨na, ra⟩ := h.at_ hlt
    have h0 : (0 : Int) ≤ (i : Int) := by omega
    have h1 : (i : Int) < ((lenS v : Nat) : Int) := by omega
    have h3 : (i : Int) < ((l.length : Nat) : Int) := by omega
    have hw : IntKind.i64.wrap ((i : Int) + 1) = ((i + 1 : Nat) : Int) := by rw [wrap_i64 (by omega) (by omega)]; simp
    have stop : inB n (l.getD i 0) = false → l.all (inB n) = false := fun e => all_not hlt e
    have go : inB n (l.getD i 0) = true → (l.take (i + 1)).all (inB n) = true := fun e => all_take hlt hp e
    generalize l.getD i 0 = x at *
    by_cases hx0 : x < 0
    · simp (disch := first | assumption | omega | (simp only [LN] <;> omega) | (simp (disch := first | assumption | omega | (simp only [LN] <;> omega)) only [row_alloc, row_set]; assumption)) only [W_block, P3, ↓reduceIte, reduceAdd, reduceEqDiff, reduceCtorEq, initFr, reduceLT, clsA, reduceLeDiff, reduceMul, reduceSub, reduceIte, la, ra, na, a_load1v]
      refine hret _ _ (hq2 _ _ ⟨_, rfl, ?_, rfl⟩)
      rw [stop (by simp [inB]; omega)]; rfl
    · by_cases hxn : n ≤ x
      · simp (disch := first | assumption | omega | (simp only [LN] <;> omega) | (simp (disch := first | assumption | omega | (simp only [LN] <;> omega)) only [row_alloc, row_set]; assumption)) only [W_block, P3, ↓reduceIte, reduceAdd, reduceEqDiff, reduceCtorEq, initFr, reduceLT, clsA, reduceLeDiff, reduceMul, reduceSub, reduceIte, la, ra, na, a_load1v]
        refine hret _ _ (hq2 _ _ ⟨_, rfl, ?_, rfl⟩)
        rw [stop (by simp [inB]; omega)]; rfl
      · simp (disch := first | assumption | omega | (simp only [LN] <;> omega) | (simp (disch := first | assumption | omega | (simp only [LN] <;> omega)) only [row_alloc, row_set]; assumption)) only [W_block, P3, ↓reduceIte, reduceAdd, reduceEqDiff, reduceCtorEq, initFr, reduceLT, clsA, reduceLeDiff, reduceMul, reduceSub, reduceIte, la, ra, na, a_load1v, hw]
        exact hn _ _ _ ⟨i + 1, _, _, _, rfl, rfl, by omega, go (by simp [inB]; omega), rfl⟩ (by omega)
  · have h3 : ¬ (i : Int) < ((l.length : Nat) : Int) := by omega
    simp (disch := first | assumption | omega | (simp only [LN] <;> omega) | (simp (disch := first | assumption | omega | (simp only [LN] <;> omega)) only [row_alloc, row_set]; assumption)) only [W_block, P3, ↓reduceIte, reduceAdd, reduceEqDiff, reduceCtorEq, initFr, reduceLT, clsA, reduceLeDiff, reduceMul, reduceSub, reduceIte, la]
    refine hx 0 _ _ ?_
    simp (disch := first | assumption | omega | (simp only [LN] <;> omega) | (simp (disch := first | assumption | omega | (simp only [LN] <;> omega)) only [row_alloc, row_set]; assumption)) only [W_block, P3, ↓reduceIte, reduceAdd, reduceEqDiff, reduceCtorEq, initFr, reduceLT, clsA, reduceLeDiff, reduceMul, reduceSub, reduceIte]
    refine hq2 _ _ ⟨_, rfl, ?_, rfl⟩
    rw [List.take_of_length_le (by omega)] at hp
    rw [hp]; rfl
end Go.AM.Fd

set_option linter.unusedSimpArgs false
set_option linter.unusedVariables false
namespace Go.AM.Fd
open Nat (reduceAdd reduceEqDiff reduceLT reduceLeDiff reduceMul reduceSub)
open Go.Proofs Go.AM.F
theorem t29 {H : AHeap} {v : Value} {l : List (Int × Bool)} (n : Int) (h : NL H v l) (hl : l.length ≤ 9223372036854775807) : ∃ w H', ARun Go.Proofs.Tryd.prog 4 29 [v, .int .i64 n] H w H' ∧ w = .bool (decide (l.length ≤ 16) && l.all (fun x => inB n x.1)) ∧ H' = H := by
  suffices h' : ∃ w H', ARun Go.Proofs.Tryd.prog 4 29 [v, .int .i64 n] H w H' ∧ w = .bool (decide (l.length ≤ 16) && l.all (fun x => inB n x.1)) ∧ Keeps H H' by
    obtain ⟨_, _, a, rfl, k⟩ := h'
    exact ⟨_, _, a.gc0 k (.inr (.bool _)), rfl, rfl⟩
  refine walk2 f29_ok f29_n ?_
  intro Q hq1 hq2
  have ia := Sl.is h
  have la := h.len
  simp (disch := first | assumption | omega | (simp only [LN] <;> omega) | (simp (disch := first | assumption | omega | (simp only [LN] <;> omega)) only [row_alloc, row_set]; assumption)) only [ f29, P3, ↓reduceIte, reduceAdd, reduceEqDiff, reduceCtorEq, initFr, reduceLT, clsA, reduceLeDiff, reduceMul, reduceSub, reduceIte, la]
  rw [W_block]
  refine W_loop2 (fun k fr K => ∃ i x3 x4 x8 x9, fr = [v, .int .i64 n, .bool false, x3, x4, v, .int .i64 ((l.length : Nat) : Int), .int .i64 ((i : Nat) : Int), x8, x9] ∧ Keeps H K ∧ i ≤ l.length ∧ i ≤ 16 ∧ (l.take i).all (fun x => inB n x.1) = true ∧ k = l.length - i) l.length
    ⟨0, _, _, _, _, rfl, Keeps.refl H, by omega, by omega, by simp, rfl⟩ ?_
  rintro Q' k fr K ⟨i, x3, x4, x8, x9, rfl, hk, hi, hi6, hp, rfl⟩ hn hx hret
  by_cases hlt : i < l.length
  · obtain ⟨na, ra⟩ := (h.keeps hk).at_ hlt
    have hbl := Sl.bn_le (h.keeps hk) (by intro e; simp at e; subst e; simp at hlt) (by omega)
    have h0 : (0 : Int) ≤ (i : Int) := by omega
    have h1 : (i : Int) < ((lenS v : Nat) : Int) := by omega
    have h3 : (i : Int) < ((l.length : Nat) : Int) := by omega
    have hw : IntKind.i64.wrap ((i : Int) + 1) = ((i + 1 : Nat) : Int) := by rw [wrap_i64 (by omega) (by omega)]; simp
    have stop : inB n (l.getD i (0, false)).1 = false → l.all (fun x => inB n x.1) = false := fun e => all_not (d := (0, false)) hlt e
    have go : inB n (l.getD i (0, false)).1 = true → (l.take (i + 1)).all (fun x => inB n x.1) = true := fun e => all_take (d := (0, false)) hlt hp e
    generalize l.getD i (0, false) = x at *
    have o1 : one1 (Value.int .i64 x.1) = True := by simp [one1, one_int]
    by_cases h6 : (16 : Int) ≤ (i : Int)
    · simp (disch := first | assumption | omega | (simp only [LN] <;> omega) | (simp (disch := first | assumption | omega | (simp only [LN] <;> omega)) only [row_alloc, row_set]; assumption)) only [W_block, P3, ↓reduceIte, reduceAdd, reduceEqDiff, reduceCtorEq, initFr, reduceLT, clsA, reduceLeDiff, reduceMul, reduceSub, reduceIte, la, ra, na, a_loadnvf, h6]
      refine hret _ _ (hq2 _ _ ⟨_, rfl, ?_, ?_⟩)
      · have : ¬ l.length ≤ 16 := by omega
        simp [tupV, this]
      · exact (hk.alloc _)
    · simp (disch := first | assumption | omega | (simp only [LN] <;> omega) | (simp (disch := first | assumption | omega | (simp only [LN] <;> omega)) only [row_alloc, row_set]; assumption)) only [W_block, P3, ↓reduceIte, reduceAdd, reduceEqDiff, reduceCtorEq, initFr, reduceLT, clsA, reduceLeDiff, reduceMul, reduceSub, reduceIte, la, ra, na, a_loadnvf, h6]
      have hk2 := (hk.alloc (.cells true false 2 [.int .i64 x.1, .bool x.2] 45)).alloc (.cells true false 1 [.int .i64 x.1] 3)
      have hil : IL ((K.alloc (.cells true false 2 [.int .i64 x.1, .bool x.2] 45)).alloc (.cells true false 1 [.int .i64 x.1] 3)) (slc (K.n + 1) 0 1 1) [x.1] :=
        ⟨⟨_, _, rfl⟩, by simp [iRow], by rw [elems_new (by simp [alloc_n]) rfl]; rfl⟩
      refine callK (t28 n hil (by simp)) ?_
      rintro _ _ ⟨rfl, rfl⟩
      cases hb : inB n x.1 with
      | false =>
        have e : [x.1].all (inB n) = false := by simp [hb]
        simp (disch := first | assumption | omega | (simp only [LN] <;> omega) | (simp (disch := first | assumption | omega | (simp only [LN] <;> omega)) only [row_alloc, row_set]; assumption)) only [W_block, P3, ↓reduceIte, reduceAdd, reduceEqDiff, reduceCtorEq, initFr, reduceLT, clsA, reduceLeDiff, reduceMul, reduceSub, reduceIte, e]
        refine hret _ _ (hq2 _ _ ⟨_, rfl, ?_, hk2⟩)
        rw [stop hb]; simp [tupV]
      | true =>
        have e : [x.1].all (inB n) = true := by simp [hb]
        simp (disch := first | assumption | omega | (simp only [LN] <;> omega) | (simp (disch := first | assumption | omega | (simp only [LN] <;> omega)) only [row_alloc, row_set]; assumption)) only [W_block, P3, ↓reduceIte, reduceAdd, reduceEqDiff, reduceCtorEq, initFr, reduceLT, clsA, reduceLeDiff, reduceMul, reduceSub, reduceIte, e, hw]
        exact hn _ _ _ ⟨i + 1, _, _, _, _, rfl, hk2, by omega, by omega, go hb, rfl⟩ (by omega)
  · have h3 : ¬ (i : Int) < ((l.length : Nat) : Int) := by omega
    simp (disch := first | assumption | omega | (simp only [LN] <;> omega) | (simp (disch := first | assumption | omega | (simp only [LN] <;> omega)) only [row_alloc, row_set]; assumption)) only [W_block, P3, ↓reduceIte, reduceAdd, reduceEqDiff, reduceCtorEq, initFr, reduceLT, clsA, reduceLeDiff, reduceMul, reduceSub, reduceIte, la]
    refine hx 0 _ _ ?_
    simp (disch := first | assumption | omega | (simp only [LN] <;> omega) | (simp (disch := first | assumption | omega | (simp only [LN] <;> omega)) only [row_alloc, row_set]; assumption)) only [W_block, P3, ↓reduceIte, reduceAdd, reduceEqDiff, reduceCtorEq, initFr, reduceLT, clsA, reduceLeDiff, reduceMul, reduceSub, reduceIte]
    refine hq2 _ _ ⟨_, rfl, ?_, hk⟩
    rw [List.take_of_length_le (by omega)] at hp
    have : l.length ≤ 16 := by omega
    simp [tupV, hp, this]
def sEnc (l : List UInt8) : Value := .string ⟨l.toArray⟩
theorem sEnc_e : Enc .string sEnc := encStr
theorem mfind_none {k : List UInt8} : ∀ {M : List (List UInt8 × Value)}, mfind k M = none ↔ k ∉ M.map (·.1)
  | [] => by simp [mfind]
  | (a, v) :: M => by
    simp only [mfind, List.map_cons, List.mem_cons, not_or]
    split
    · rename_i e; simp [e]
    · rename_i e; rw [mfind_none (M := M)]; simp [e]
theorem t27 {H : AHeap} {b mb T : Nat} {own room : Bool} {c : List Value} {M : List (List UInt8 × Value)} (hb : H.get b = some (.cells own room 5 c T)) (hc : c[4]? = some (.map (some mb))) (hm : MP sEnc H mb M) (n : List UInt8) {x : Value} (hx : gndB x = true) :
    ∃ w H', ARun Go.Proofs.Tryd.prog 4 27 [ptr b 0, .string ⟨n.toArray⟩, x] H w H' ∧ w = .bool (mfind n M).isNone ∧ Chg [mb] H H' ∧ MP sEnc H' mb (if (mfind n M).isNone then M ++ [(n, x)] else M) := by
  refine walk2 f27_ok f27_n ?_
  intro Q hq1 hq2
  have g := a_mget sEnc_e hm n .nilIface true
  obtain ⟨o, s1, s2⟩ := a_mset sEnc_e hm n hx
  simp only [sEnc] at g s1
  cases hf : mfind n M with
  | some y =>
    rw [hf] at g
    simp only [mres, if_true] at g
    simp (disch := first | assumption | omega | (simp only [LN] <;> omega) | (simp (disch := first | assumption | omega | (simp only [LN] <;> omega)) only [row_alloc, row_set]; assumption)) only [f27, W_block, P3, ↓reduceIte, reduceAdd, reduceEqDiff, reduceCtorEq, initFr, reduceLT, clsA, reduceLeDiff, reduceMul, reduceSub, reduceIte, hb, hc, st_mget, g]
    refine hq2 _ _ ⟨_, rfl, by simp [tupV, hf], Chg.refl _ _, by simpa [hf] using hm⟩
  | none =>
    rw [hf] at g
    simp only [mres, if_true] at g
    simp (disch := first | assumption | omega | (simp only [LN] <;> omega) | (simp (disch := first | assumption | omega | (simp only [LN] <;> omega)) only [row_alloc, row_set]; assumption)) only [f27, W_block, P3, ↓reduceIte, reduceAdd, reduceEqDiff, reduceCtorEq, initFr, reduceLT, clsA, reduceLeDiff, reduceMul, reduceSub, reduceIte, hb, hc, st_mget, st_mset, g, s1]
    refine hq2 _ _ ⟨_, rfl, by simp [tupV, hf], Chg.set H hm.lt o, ?_⟩
    rw [mput_new hf] at s2
    simpa [hf] using s2
end Go.AM.Fd

set_option linter.unusedSimpArgs false
set_option linter.unusedVariables false
namespace Go.AM.Fd
open Nat (reduceAdd reduceEqDiff reduceLT reduceLeDiff reduceMul reduceSub)
open Go.Proofs Go.AM.F
def okN (l : List (List UInt8)) : Bool := l.all rightB && decide l.Nodup
theorem okN_snoc (ns : List (List UInt8)) (n : List UInt8) : okN (ns ++ [n]) = (okN ns && (rightB n && !ns.contains n)) := by
  simp only [okN, List.all_append, List.all_cons, List.all_nil, Bool.and_true]
  have : decide (ns ++ [n]).Nodup = (decide ns.Nodup && !ns.contains n) := by
    by_cases h1 : ns.Nodup
    · by_cases h2 : n ∈ ns
      · have : ¬ (ns ++ [n]).Nodup := by
          intro h; rw [List.nodup_append] at h
          exact h.2.2 n h2 n (by simp) rfl
        simp [this, h2]
      · have : (ns ++ [n]).Nodup := by
          rw [List.nodup_append]
          exact ⟨h1, by simp, fun a ha b hb => by simp at hb; subst hb; intro e; subst e; exact h2 ha⟩
        simp [this, h1, h2]
    · have : ¬ (ns ++ [n]).Nodup := fun h => h1 (List.nodup_append.1 h).1
      simp [this, h1]
  rw [this]
  cases ns.all rightB <;> cases rightB n <;> simp
def needB (n : Nat) (l : List (Int × Bool)) : Bool := decide (l.length ≤ 16) && l.all (fun x => inB n x.1)
def roB (L : Ly) (r : Ro) : Bool := inB L.g.length r.g && (decide (r.path.length ≤ 16) && decide (r.ov.length ≤ 16) && r.path.all (inB L.s.length) && r.ov.all (inB L.s.length)) && (needB L.p.length r.pts && needB L.p.length r.fl)
def fullB (L : Ly) : Bool := decide (64 < L.s.length) || decide (32 < L.p.length) || decide (32 < L.g.length) || decide (64 < L.r.length)
def nm2 (L : Ly) (i : Nat) : List (List UInt8) := L.s ++ (L.p.take i).map (·.1)
def nm3 (L : Ly) (i : Nat) : List (List UInt8) := L.s ++ L.p.map (·.1) ++ (L.g.take i).map (·.1)
def nm4 (L : Ly) (i : Nat) : List (List UInt8) := L.s ++ L.p.map (·.1) ++ L.g.map (·.1) ++ (L.r.take i).map (·.n)
def namesL (L : Ly) : List (List UInt8) := L.s ++ L.p.map (·.1) ++ L.g.map (·.1) ++ L.r.map (·.n)
def al2 (L : Ly) (i : Nat) : Bool := (L.p.take i).all fun x => inB L.s.length x.2
def al3 (L : Ly) (i : Nat) : Bool := L.p.all (fun x => inB L.s.length x.2) && (L.g.take i).all fun x => inB L.s.length x.2
def al4 (L : Ly) (i : Nat) : Bool := L.p.all (fun x => inB L.s.length x.2) && L.g.all (fun x => inB L.s.length x.2) && (L.r.take i).all (roB L)
def mayB (L : Ly) : Bool := !fullB L && (okN (namesL L) && (L.p.all (fun x => inB L.s.length x.2) && L.g.all (fun x => inB L.s.length x.2) && L.r.all (roB L)))
theorem take_snoc {α : Type} {l : List α} {i : Nat} (d : α) (h : i < l.length) : l.take (i + 1) = l.take i ++ [l.getD i d] := by
  rw [List.take_add_one, List.getElem?_eq_getElem h]; simp [List.getD, List.getElem?_eq_getElem h]
structure LyFit (L : Ly) : Prop where
  s : L.s.length ≤ 1000000000 ∧ ∀ x ∈ L.s, x.length ≤ 9223372036854775807
  p : L.p.length ≤ 1000000000 ∧ ∀ x ∈ L.p, x.1.length ≤ 9223372036854775807
  g : L.g.length ≤ 1000000000 ∧ ∀ x ∈ L.g, x.1.length ≤ 9223372036854775807
  r : L.r.length ≤ 1000000000 ∧ ∀ x ∈ L.r, x.n.length ≤ 9223372036854775807 ∧ x.path.length ≤ 9223372036854775807 ∧ x.pts.length ≤ 9223372036854775807 ∧ x.ov.length ≤ 9223372036854775807 ∧ x.fl.length ≤ 9223372036854775807
theorem getD_mem {α : Type} {l : List α} {i : Nat} {d : α} (h : i < l.length) : l.getD i d ∈ l := by
  simp [List.getD, List.getElem?_eq_getElem h]
structure MSt (H K : AHeap) (u : V4) (ok : Bool) (ns : List (List UInt8)) : Prop where
  k : Keeps H K
  l : K.get H.n = some (.cells true false 4 u.l 28)
  b : K.get (H.n + 2) = some (.cells true false 5 [.slice none 0 0, .slice none 0 0, .slice none 0 0, .slice none 0 0, .map (some (H.n + 1))] 49)
  m : ok = true → ∃ M, MP sEnc K (H.n + 1) M ∧ M.map (·.1) = ns
theorem MSt.keeps {H K K' : AHeap} {u : V4} {ok : Bool} {ns : List (List UInt8)} (h : MSt H K u ok ns) (k : Keeps K K') : MSt H K' u ok ns :=
  ⟨h.k.trans k, k.at_ h.l, k.at_ h.b, fun e => by obtain ⟨M, h1, h2⟩ := h.m e; exact ⟨M, h1.get (k.get _ h1.lt), h2⟩⟩
theorem MSt.no {H K : AHeap} {u : V4} {ok : Bool} {ns ns' : List (List UInt8)} (h : MSt H K u ok ns) : MSt H K u false ns' := ⟨h.k, h.l, h.b, fun e => by cases e⟩
theorem MSt.fresh {H K : AHeap} {u : V4} {ns : List (List UInt8)} (h : MSt H K u true ns) (n : List UInt8) {x : Value} (hx : gndB x = true) :
    ∃ w K', ARun Go.Proofs.Tryd.prog 4 27 [ptr (H.n + 2) 0, .string ⟨n.toArray⟩, x] K w K' ∧ w = .bool (!ns.contains n) ∧ MSt H K' u (!ns.contains n) (ns ++ [n]) ∧ K.n ≤ K'.n ∧ (∀ b, H.n + 2 < b → b < K.n → K'.get b = K.get b) := by
  obtain ⟨M, h1, h2⟩ := h.m rfl
  obtain ⟨w, K', r, rfl, c, m⟩ := t27 (hc := rfl) h.b h1 n hx
  have e : (mfind n M).isNone = !ns.contains n := by
    cases hf : mfind n M with
    | none => have := mfind_none.1 hf; rw [h2] at this; simp [this]
    | some y =>
      have : n ∈ M.map (·.1) := by
        rcases Classical.em (n ∈ M.map (·.1)) with h | h
        · exact h
        · rw [mfind_none.2 h] at hf; cases hf
      rw [h2] at this; simp [this]
  rw [e] at r m
  refine ⟨_, _, r, rfl, ⟨h.k.chg_trans c (by simp), c.at_ h.l (by simp), c.at_ h.b (by simp), fun hn => ?_⟩, c.n, fun b hb hlt => c.get b hlt (by simp; omega)⟩
  rw [hn] at m
  exact ⟨_, m, by simp [h2]⟩
def mF (A : Value) (h : Nat) (L : Ly) (ok : Bool) : List Value := [A, ptr h 0, .bool false, .int .i64 ((L.s.length : Nat) : Int), .int .i64 ((L.p.length : Nat) : Int), .int .i64 ((L.g.length : Nat) : Int), .int .i64 ((L.r.length : Nat) : Int), ptr (h + 2) 0, .bool ok]
def M1 (A : Value) (H : AHeap) (u : V4) (L : Ly) (fr : List Value) (K : AHeap) : Prop :=
  ∃ ok x9 x10 x11 x12 x13 x14 x15 x16 x17 x18 x19 x20 x21 x22 x23 x24 x25 x26 x27 x28 x29 x30 x31 x32 x33, fr = mF A H.n L ok ++ [x9, x10, x11, x12, x13, x14, x15, x16, x17, x18, x19, x20, x21, x22, x23, x24, x25, x26, x27, x28, x29, x30, x31, x32, x33] ∧ ok = okN L.s ∧ MSt H K u ok L.s
set_option maxHeartbeats 1000000 in
theorem may1 {H : AHeap} {u : V4} {xs : List RV} {L : Ly} {Q : AQ} (h : LyR H u xs L) (hf : LyFit L) (hfu : fullB L = false)
    (hk : ∀ fr K, M1 (.agg u.l.toArray) H u L fr K → Q .normal fr K) : W Go.Proofs.Tryd.prog 4 (cpre 6 f13.body) Q (initFr f13.sl [.agg u.l.toArray]) H := by
  have ls := h.s.len
  have lp := h.p.len
  have lg := h.g.len
  have lr := h.r.len
  have er := h.rlen
  have is := Sl.is h.s
  have ip := Sl.is h.p
  have ig := Sl.is h.g
  have ir := Sl.is h.r
  have os := Sl.one h.s
  have op := Sl.one h.p
  have og := Sl.one h.g
  have or := Sl.one h.r
  simp only [fullB, Bool.or_eq_false_iff, decide_eq_false_iff_not] at hfu
  obtain ⟨⟨⟨f1, f2⟩, f3⟩, f4⟩ := hfu
  have h0 := h
  obtain ⟨us, up, ug, ur⟩ := u
  simp only [V4.l] at *
  have c1 : ¬ (64 : Int) < ((L.s.length : Nat) : Int) := by omega
  have c2 : ¬ (32 : Int) < ((L.p.length : Nat) : Int) := by omega
  have c3 : ¬ (32 : Int) < ((L.g.length : Nat) : Int) := by omega
  have c4 : ¬ (64 : Int) < ((L.r.length : Nat) : Int) := by omega
  simp (disch := first | assumption | omega | (simp only [LN] <;> omega) | (simp (disch := first | assumption | omega | (simp only [LN] <;> omega)) only [row_alloc, row_set]; assumption)) only [ f13, cpre, P3, ↓reduceIte, reduceAdd, reduceEqDiff, reduceCtorEq, initFr, reduceLT, clsA, reduceLeDiff, reduceMul, reduceSub, reduceIte, ls, lp, lg, lr, er, os, op, og, or, st_mkmap, a_mkmap, fill_cons, cells_map, one_map, o_map]
  have k0 := (((Keeps.refl H).alloc (.cells true false 4 [us, up, ug, ur] 28)).alloc (.obj true (.map #[] 0))).alloc (.cells true false 5 [.slice none 0 0, .slice none 0 0, .slice none 0 0, .slice none 0 0, .map (some (H.n + 1))] 49)
  have st0 : MSt H (((H.alloc (.cells true false 4 [us, up, ug, ur] 28)).alloc (.obj true (.map #[] 0))).alloc (.cells true false 5 [.slice none 0 0, .slice none 0 0, .slice none 0 0, .slice none 0 0, .map (some (H.n + 1))] 49)) ⟨us, up, ug, ur⟩ true [] := by
    refine ⟨k0, ?_, AHeap.get_alloc_new _ _, fun _ => ⟨[], MP.get (MP.new (H.alloc (.cells true false 4 [us, up, ug, ur] 28))) (g_old _ (by simp [alloc_n])), rfl⟩⟩
    rw [g_old _ (by simp [alloc_n]; omega), g_old _ (by simp [alloc_n])]; exact AHeap.get_alloc_new _ _
  generalize ((H.alloc (.cells true false 4 [us, up, ug, ur] 28)).alloc (.obj true (.map #[] 0))).alloc (.cells true false 5 [.slice none 0 0, .slice none 0 0, .slice none 0 0, .slice none 0 0, .map (some (H.n + 1))] 49) = K0 at st0 k0 ⊢
  rw [W_block]
  refine W_loop2 (fun k fr K => ∃ ok i x9 x10 x21, fr = [.agg #[us, up, ug, ur], ptr H.n 0, .bool false, .int .i64 ((L.s.length : Nat) : Int), .int .i64 ((L.p.length : Nat) : Int), .int .i64 ((L.g.length : Nat) : Int), .int .i64 ((L.r.length : Nat) : Int), ptr (H.n + 2) 0, .bool ok, x9, x10, undef, undef, undef, undef, undef, undef, .bool false, us, .int .i64 ((L.s.length : Nat) : Int), .int .i64 ((i : Nat) : Int), x21, undef, undef, undef, undef, undef, undef, undef, undef, undef, undef, undef, undef] ∧
      ok = okN (L.s.take i) ∧ MSt H K ⟨us, up, ug, ur⟩ ok (L.s.take i) ∧ i ≤ L.s.length ∧ k = L.s.length - i) L.s.length
    ⟨true, 0, _, _, _, rfl, by simp [okN], st0, by omega, rfl⟩ ?_
  rintro Q' k fr K ⟨ok, i, x9, x10, x21, rfl, hok, hst, hi, rfl⟩ hn hx hret
  by_cases hlt : i < L.s.length
  · obtain ⟨na, ra⟩ := (h0.s.keeps hst.k).at_ hlt
    have h1 : (0 : Int) ≤ (i : Int) := by omega
    have h2 : (i : Int) < ((lenS us : Nat) : Int) := by omega
    have h3 : (i : Int) < ((L.s.length : Nat) : Int) := by omega
    have hw : IntKind.i64.wrap ((i : Int) + 1) = ((i + 1 : Nat) : Int) := by rw [wrap_i64 (by omega) (by omega)]; simp
    have hlen := hf.s.2 _ (getD_mem (d := []) hlt)
    have ts := take_snoc [] hlt
    unfold tRow at ra
    have hs := okN_snoc (L.s.take i) (L.s.getD i [])
    rw [← ts] at hs
    cases ok with
    | false =>
      simp (disch := first | assumption | omega | (simp only [LN] <;> omega) | (simp (disch := first | assumption | omega | (simp only [LN] <;> omega)) only [row_alloc, row_set]; assumption)) only [W_block, P3, ↓reduceIte, reduceAdd, reduceEqDiff, reduceCtorEq, initFr, reduceLT, clsA, reduceLeDiff, reduceMul, reduceSub, reduceIte, ls, ra, na, a_load1v, hw]
      refine hn _ _ _ ⟨false, i + 1, _, _, _, rfl, ?_, hst.no, by omega, rfl⟩ (by omega)
      rw [hs, ← hok]; rfl
    | true =>
      simp (disch := first | assumption | omega | (simp only [LN] <;> omega) | (simp (disch := first | assumption | omega | (simp only [LN] <;> omega)) only [row_alloc, row_set]; assumption)) only [W_block, P3, ↓reduceIte, reduceAdd, reduceEqDiff, reduceCtorEq, initFr, reduceLT, clsA, reduceLeDiff, reduceMul, reduceSub, reduceIte, ls, ra, na, a_load1v, hw]
      refine callK (t26 _ _ hlen) ?_
      rintro _ _ ⟨rfl, rfl⟩
      cases hr : rightB (L.s.getD i []) with
      | false =>
        simp (disch := first | assumption | omega | (simp only [LN] <;> omega) | (simp (disch := first | assumption | omega | (simp only [LN] <;> omega)) only [row_alloc, row_set]; assumption)) only [W_block, P3, ↓reduceIte, reduceAdd, reduceEqDiff, reduceCtorEq, initFr, reduceLT, clsA, reduceLeDiff, reduceMul, reduceSub, reduceIte, hw]
        refine hn _ _ _ ⟨false, i + 1, _, _, _, rfl, ?_, hst.no, by omega, rfl⟩ (by omega)
        rw [hs, hr]; simp
      | true =>
        simp (disch := first | assumption | omega | (simp only [LN] <;> omega) | (simp (disch := first | assumption | omega | (simp only [LN] <;> omega)) only [row_alloc, row_set]; assumption)) only [W_block, P3, ↓reduceIte, reduceAdd, reduceEqDiff, reduceCtorEq, initFr, reduceLT, clsA, reduceLeDiff, reduceMul, reduceSub, reduceIte, hw]
        refine callK (R := fun w K' => w = .bool (!(L.s.take i).contains (L.s.getD i [])) ∧ MSt H K' ⟨us, up, ug, ur⟩ (!(L.s.take i).contains (L.s.getD i [])) (L.s.take i ++ [L.s.getD i []])) (by obtain ⟨w, K', a, b, c, _⟩ := hst.fresh (L.s.getD i []) (x := .iface 62 (.int .i64 (i : Int))) rfl; exact ⟨w, K', a, b, c⟩) ?_
        rintro _ K' ⟨rfl, st'⟩
        rw [← ts] at st'
        cases hc : (L.s.take i).contains (L.s.getD i []) with
        | false =>
          rw [hc] at st'
          simp (disch := first | assumption | omega | (simp only [LN] <;> omega) | (simp (disch := first | assumption | omega | (simp only [LN] <;> omega)) only [row_alloc, row_set]; assumption)) only [W_block, P3, ↓reduceIte, reduceAdd, reduceEqDiff, reduceCtorEq, initFr, reduceLT, clsA, reduceLeDiff, reduceMul, reduceSub, reduceIte, hw]
          refine hn _ _ _ ⟨true, i + 1, _, _, _, rfl, ?_, st', by omega, rfl⟩ (by omega)
          rw [hs, ← hok, hr, hc]; rfl
        | true =>
          rw [hc] at st'
          simp (disch := first | assumption | omega | (simp only [LN] <;> omega) | (simp (disch := first | assumption | omega | (simp only [LN] <;> omega)) only [row_alloc, row_set]; assumption)) only [W_block, P3, ↓reduceIte, reduceAdd, reduceEqDiff, reduceCtorEq, initFr, reduceLT, clsA, reduceLeDiff, reduceMul, reduceSub, reduceIte, hw]
          refine hn _ _ _ ⟨false, i + 1, _, _, _, rfl, ?_, st', by omega, rfl⟩ (by omega)
          rw [hs, ← hok, hr, hc]; rfl
  · have h3 : ¬ (i : Int) < ((L.s.length : Nat) : Int) := by omega
    simp (disch := first | assumption | omega | (simp only [LN] <;> omega) | (simp (disch := first | assumption | omega | (simp only [LN] <;> omega)) only [row_alloc, row_set]; assumption)) only [W_block, P3, ↓reduceIte, reduceAdd, reduceEqDiff, reduceCtorEq, initFr, reduceLT, clsA, reduceLeDiff, reduceMul, reduceSub, reduceIte, ls]
    refine hx 0 _ _ ?_
    have e : L.s.take i = L.s := List.take_of_length_le (by omega)
    rw [e] at hok hst
    exact hk _ _ ⟨ok, _, _, _, _, _, _, _, _, _, _, _, _, _, _, _, _, _, _, _, _, _, _, _, _, _, rfl, hok, hst⟩
end Go.AM.Fd
