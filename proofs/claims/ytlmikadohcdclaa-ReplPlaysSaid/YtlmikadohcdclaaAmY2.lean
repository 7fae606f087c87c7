/- The abstract machine, part Y2: for walks: loops with what comes behind left closed, variables, own bytes. -/
import Derived.Test.YtlmikadohcdclaaAmY
import Derived.Test.YtlmikadohcdclaaAmU3
set_option linter.unusedSimpArgs false
set_option linter.unusedVariables false
namespace Go.AM

section
variable {P : Program} {ng : Nat} {H : AHeap} {Q : AQ} {fr tm : List Value}

theorem W_loop2 {c : ACode} (I : Nat → List Value → AHeap → Prop) (n : Nat) (h0 : I n fr H)
    (hs : ∀ (Q' : AQ) (k : Nat) (fr : List Value) (H : AHeap), I k fr H → (∀ k' fr H, I k' fr H → k' < k → Q' .normal fr H) → (∀ i fr H, Q (.exit i) fr H → Q' (.exit i) fr H) → (∀ fr H, Q .ret fr H → Q' .ret fr H) → W P ng c Q' fr H) : W P ng (.loop c) Q fr H :=
  ⟨I, n, h0, fun k fr H hI => hs _ k fr H hI (fun k' fr H h1 h2 => ⟨k', h2, h1⟩) (fun _ _ _ h => h) (fun _ _ h => h)⟩

theorem alloc_set (H : AHeap) (o o' : AO) : (H.alloc o).set H.n o' = H.alloc o' := by
  simp [AHeap.alloc, AHeap.set]

/-- A variable, and the value that it gets at once. -/
theorem a_var {n : Nat} {room : Bool} {esz e : Nat} {c : List Value} {xs : Array Value} (hc : c.length = n) (hx : xs.size = n) (h1 : xs.toList.all Value.oneCell' = true) :
    asem (.storen n (ptr H.n 0) (.agg xs)) (H.alloc (.cells true room esz c e)) = some (undef, H.alloc (.cells true room esz xs.toList e)) := by
  simp only [asem, ptr, AHeap.get_alloc_new]
  rw [if_pos ⟨by omega, by simpa [Value.cells] using hx, h1⟩, alloc_set]
  simp only [List.take_zero, List.nil_append, Nat.zero_add, Value.cells]
  rw [List.drop_of_length_le (by omega), List.append_nil]
theorem a_var1 {room : Bool} {esz e : Nat} {x z : Value} (h1 : x.oneCell' = true) : asem (.store1 (ptr H.n 0) x) (H.alloc (.cells true room esz [z] e)) = some (undef, H.alloc (.cells true room esz [x] e)) := by
  rw [a_st (AHeap.get_alloc_new H _) (by simp) h1, alloc_set]
  rfl

theorem a_b2sB {v : Value} {l : List UInt8} (h : BS H v l) : asem (.b2s v) H = some (.string ⟨l.toArray⟩, H) := by
  simp only [asem, h.el, bytesOf_cellsOf]
theorem keepsB_ap {H' : AHeap} {e z n : Nat} {v : Value} {c : List Value} (h : AP H e z v n c) (k : Keeps H H') : keepsB (readsA (.b2s v)) H H' := by
  rcases h with ⟨rfl, rfl, rfl⟩ | ⟨b, room, rfl, h1, h2⟩
  · simp [readsA, keepsB]
  · simp only [readsA, slc, keepsB, and_true]
    exact k.get b (AHeap.get_lt h2)
theorem olderB_ap {e z n : Nat} {v : Value} {c : List Value} (h : AP H e z v n c) : olderB (readsA (.b2s v)) H := by
  rcases h with ⟨rfl, rfl, rfl⟩ | ⟨b, room, rfl, h1, h2⟩
  · simp [readsA, olderB]
  · simp only [readsA, slc, olderB, and_true]
    exact AHeap.get_lt h2
theorem bytes_append (p q : List UInt8) : (⟨p.toArray⟩ : ByteArray) ++ ⟨q.toArray⟩ = ⟨(p ++ q).toArray⟩ := by
  rw [← bCat_eq]; rfl
theorem bytes_eq (p q : List UInt8) : decide ((⟨p.toArray⟩ : ByteArray) = ⟨q.toArray⟩) = decide (p = q) := by
  rw [bstr_eq, bEq_eq]
theorem a_s2bl (e : Nat) (l : List UInt8) : asem (.s2b e (.string ⟨l.toArray⟩)) H = some (slc H.n 0 l.length l.length, H.alloc (.cells true true 1 (cellsOf l) e)) := by
  have hs : (⟨l.toArray⟩ : ByteArray).size = l.length := by simp [ByteArray.size]
  simp only [asem, hs]
  rfl
theorem bs_new (H : AHeap) (e : Nat) (room : Bool) (l : List UInt8) : BS (H.alloc (.cells true room 1 (cellsOf l) e)) (slc H.n 0 l.length l.length) l :=
  ⟨⟨_, _, rfl⟩, elems_own (AHeap.get_alloc_new H _) (by simp [cellsOf])⟩

theorem cells_set (l : List UInt8) (j n : Nat) : (cellsOf l).set j (.int .u8 ((UInt8.ofNat n).toNat)) = cellsOf (l.set j (UInt8.ofNat n)) := by
  simp [cellsOf, List.map_set]
theorem cells_get {l : List UInt8} {j : Nat} (h : j < l.length) : (cellsOf l)[j]? = some (.int .u8 l[j].toNat) := by simp [cellsOf, h]
theorem inc_byte (b : UInt8) : (IntKind.u8.wrap ((b.toNat : Int) + 1)) = ((UInt8.ofNat (b.toNat + 1)).toNat : Int) := by
  rw [wrap_u8]
  simp only [UInt8.toNat_ofNat']; omega
theorem wrap_nat {n : Nat} (h : n < 9223372036854775808) : IntKind.i64.wrap (n : Int) = n := wrap_i64 (by omega) (by omega)
theorem wrap_succ {n : Nat} (h : n + 1 < 9223372036854775808) : IntKind.i64.wrap ((n : Int) + 1) = ((n + 1 : Nat) : Int) := by rw [wrap_i64 (by omega) (by omega)]; push_cast; rfl

end
/-! The lemmas of walks, as one. -/
set_option linter.defProp false in
def ANs := (And.intro (And.intro (And.intro (And.intro (And.intro (And.intro (And.intro @W_skip @W_reg) (And.intro @W_seq (And.intro @w_cond @cond_true))) (And.intro (And.intro @cond_false (And.intro @W_exit @W_ret)) (And.intro @W_dreg (And.intro @r_nil @r_cons)))) (And.intro (And.intro (And.intro @r_consg (And.intro @gd_true @gd_false)) (And.intro @go_some (And.intro @st_call @st_callv))) (And.intro (And.intro @d_nil (And.intro @d_cons @d_consg)) (And.intro @gdD_true (And.intro @gdD_false @goD_some))))) (And.intro (And.intro (And.intro (And.intro @goD_some' @stD_call) (And.intro @st_mov (And.intro @st_pick @st_new))) (And.intro (And.intro @st_box (And.intro @st_build @st_bslice)) (And.intro @st_load1 (And.intro @st_loadn @st_store1)))) (And.intro (And.intro (And.intro @st_storen (And.intro @st_nilck @st_bin)) (And.intro @st_eqv (And.intro @st_un @st_i2i))) (And.intro (And.intro @st_s2s (And.intro @st_s2b @st_b2s)) (And.intro @st_iface (And.intro @st_mkfn @st_mksl)))))) (And.intro (And.intro (And.intro (And.intro (And.intro @st_slstr @st_slsl) (And.intro @st_faddr (And.intro @st_fld1 @st_fldn))) (And.intro (And.intro @st_iaddr (And.intro @st_idxs @st_assert)) (And.intro @st_extract (And.intro @st_len @st_mark)))) (And.intro (And.intro (And.intro @sd_pick (And.intro @sd_new @sd_box)) (And.intro @sd_build (And.intro @sd_bslice @sd_load1))) (And.intro (And.intro @sd_loadn (And.intro @sd_store1 @sd_storen)) (And.intro @sd_nilck (And.intro @sd_bin @sd_eqv))))) (And.intro (And.intro (And.intro (And.intro @sd_un @sd_i2i) (And.intro @sd_s2s (And.intro @sd_s2b @sd_b2s))) (And.intro (And.intro @sd_iface (And.intro @sd_mkfn @sd_mksl)) (And.intro @sd_slstr (And.intro @sd_slsl @sd_faddr)))) (And.intro (And.intro (And.intro @sd_fld1 (And.intro @sd_fldn @sd_iaddr)) (And.intro @sd_idxs (And.intro @sd_assert @sd_extract))) (And.intro (And.intro @sd_len (And.intro @sd_mark @sd_mov)) (And.intro @a_mov (And.intro @a_pick @a_new))))))) (And.intro (And.intro (And.intro (And.intro (And.intro (And.intro @a_box @a_build) (And.intro @a_load1 (And.intro @a_loadn @a_nilck))) (And.intro (And.intro @a_bin (And.intro @a_eqv @a_not)) (And.intro @a_neg (And.intro @a_i2i @a_s2s)))) (And.intro (And.intro (And.intro @a_s2b (And.intro @a_iface @a_mkfn)) (And.intro @a_faddr (And.intro @a_fld1 @a_iaddr))) (And.intro (And.intro @a_assert (And.intro @a_extract @a_len)) (And.intro @a_lenc (And.intro @a_lens @AX_fr))))) (And.intro (And.intro (And.intro (And.intro @AX_tm @AX_c) (And.intro @AX_fn (And.intro @AX_g @D_no))) (And.intro (And.intro @D_no' (And.intro @D_tm @D_tm')) (And.intro @D_fr (And.intro @D_fr' @getD_nil')))) (And.intro (And.intro (And.intro @want_x (And.intro @bi_tt @bi_tf)) (And.intro @bi_ft (And.intro @bi_ff @pk_t))) (And.intro (And.intro @pk_f (And.intro @resO0 @resO1)) (And.intro @resO2 (And.intro @resO3 @e_sn)))))) (And.intro (And.intro (And.intro (And.intro (And.intro @e_ss @e_pn) (And.intro @e_ps (And.intro @e_bb @fill0))) (And.intro (And.intro @fill1 (And.intro @b_add @b_sub)) (And.intro @b_mul (And.intro @b_eql @b_neq)))) (And.intro (And.intro (And.intro @b_lss (And.intro @b_leq @b_gtr)) (And.intro @b_geq (And.intro @b_and @b_or))) (And.intro (And.intro @b_xor (And.intro @b_seql @b_sneq)) (And.intro @b_slss (And.intro @at_n @at_e))))) (And.intro (And.intro (And.intro (And.intro @at_r (And.intro @ib_n @ib_r)) (And.intro @ib_e (And.intro @ib_x @one_int))) (And.intro (And.intro @one_bool (And.intro @one_str @one_sl)) (And.intro @one_slc (And.intro @one_ptr @one_pn)))) (And.intro (And.intro (And.intro @one_if (And.intro @one_map @bnd_none)) (And.intro @o_int (And.intro @o_bool @o_str))) (And.intro (And.intro @o_sl (And.intro @o_slc @o_ptr)) (And.intro @o_pn (And.intro @o_if @o_map))))))))
set_option linter.defProp false in
def ANc := (And.intro (And.intro (And.intro (And.intro (And.intro @List.getD_cons_zero.{0} @List.getD_cons_succ.{0}) (And.intro @List.set_cons_zero.{0} @List.set_cons_succ.{0})) (And.intro (And.intro @List.map_cons.{0,0} @List.map_nil.{0,0}) (And.intro @Option.map_some.{0,0} (And.intro @Option.map_none.{0,0} @beq_self_eq_true.{0})))) (And.intro (And.intro (And.intro @if_true.{1} @if_true.{0}) (And.intro @Bool.false_eq_true @if_false.{1})) (And.intro (And.intro @if_false.{0} @Bool.not_true) (And.intro @Bool.not_false (And.intro @Nat.add_zero @Nat.zero_add))))) (And.intro (And.intro (And.intro (And.intro @Nat.mul_one @Int.toNat_natCast) (And.intro @List.getElem?_cons_zero.{0} @List.getElem?_cons_succ.{0})) (And.intro (And.intro @true_and @and_true) (And.intro @false_and (And.intro @Exit.exit.injEq @Bool.true_beq)))) (And.intro (And.intro (And.intro @Bool.false_beq @beq_true) (And.intro @beq_false (And.intro @List.length_cons.{0} @List.length_nil.{0}))) (And.intro (And.intro @List.all_cons.{0} @List.all_nil.{0}) (And.intro @Bool.and_true (And.intro @Bool.true_and @and_self))))))
end Go.AM
