/- The abstract machine, part Y3: for walks that compute what is read: heaps by their blocks, slices by their rows. -/
import Derived.Test.YtlmikadohcdclaaAmY2
set_option linter.unusedSimpArgs false
set_option linter.unusedVariables false
namespace Go.AM

section
variable {P : Program} {ng : Nat} {H H' : AHeap} {Q : AQ} {fr tm : List Value}

/-! ### Blocks -/
def cellO (g : Option AO) (o : Nat) : Option Value := match g with
  | some (.cells _ _ _ c _) => c[o]?
  | _ => none
def rangeO (g : Option AO) (o n : Nat) : Option (List Value) := match g with
  | some (.cells _ _ _ c _) => if o + n ≤ c.length then some ((c.drop o).take n) else none
  | _ => none
theorem cellA_e (H : AHeap) (b o : Nat) : cellA H b o = cellO (H.get b) o := by unfold cellA cellO; rfl
theorem rangeA_e (H : AHeap) (b o n : Nat) : rangeA H b o n = rangeO (H.get b) o n := by unfold rangeA rangeO; rfl
theorem cellO_c (own room : Bool) (esz e : Nat) (c : List Value) (o : Nat) : cellO (some (.cells own room esz c e)) o = c[o]? := _root_.id rfl
theorem rangeO_c (own room : Bool) (esz e : Nat) (c : List Value) (o n : Nat) : rangeO (some (.cells own room esz c e)) o n = if o + n ≤ c.length then some ((c.drop o).take n) else none := _root_.id rfl
def st1O (H : AHeap) (b o : Nat) (x : Value) (g : Option AO) : Option (Value × AHeap) := match g with
  | some (.cells true room esz c e) => if o < c.length ∧ x.oneCell' = true then some (undef, H.set b (.cells true room esz (c.set o x) e)) else none
  | _ => none
def stnO (H : AHeap) (b o n : Nat) (x : List Value) (g : Option AO) : Option (Value × AHeap) := match g with
  | some (.cells true room esz c e) => if o + n ≤ c.length ∧ x.length = n ∧ x.all Value.oneCell' = true then some (undef, H.set b (.cells true room esz (c.take o ++ x ++ c.drop (o + n)) e)) else none
  | _ => none
theorem a_store1e (H : AHeap) (b o : Nat) (x : Value) : asem (.store1 (ptr b o) x) H = st1O H b o x (H.get b) := by
  unfold st1O
  rfl
theorem a_storene (H : AHeap) (b o n : Nat) (x : Value) : asem (.storen n (ptr b o) x) H = stnO H b o n x.cells.toList (H.get b) := by
  unfold stnO
  rfl
theorem st1O_c (b o : Nat) (x : Value) (room : Bool) (esz e : Nat) (c : List Value) : st1O H b o x (some (.cells true room esz c e)) = if o < c.length ∧ x.oneCell' = true then some (undef, H.set b (.cells true room esz (c.set o x) e)) else none := by
  unfold st1O; rfl
theorem stnO_c (b o n : Nat) (x : List Value) (room : Bool) (esz e : Nat) (c : List Value) : stnO H b o n x (some (.cells true room esz c e)) = if o + n ≤ c.length ∧ x.length = n ∧ x.all Value.oneCell' = true then some (undef, H.set b (.cells true room esz (c.take o ++ x ++ c.drop (o + n)) e)) else none := by
  unfold stnO; rfl
theorem rng_full {own room : Bool} {esz e n : Nat} {c : List Value} (h : c.length = n) : rangeO (some (.cells own room esz c e)) 0 n = some c := by
  rw [rangeO_c, if_pos (by omega), List.drop_zero, List.take_of_length_le (by omega)]
theorem rng_part {own room : Bool} {esz e o n : Nat} {c : List Value} (h : c.length ≠ n) : rangeO (some (.cells own room esz c e)) o n = if o + n ≤ c.length then some ((c.drop o).take n) else none := rangeO_c ..
theorem stn_full {b n : Nat} {x : List Value} {room : Bool} {esz e : Nat} {c : List Value} (h : c.length = n) : stnO H b 0 n x (some (.cells true room esz c e)) = if x.length = n ∧ x.all Value.oneCell' = true then some (undef, H.set b (.cells true room esz x e)) else none := by
  rw [stnO_c]
  by_cases hx : x.length = n ∧ x.all Value.oneCell' = true
  · rw [if_pos ⟨by omega, hx⟩, if_pos hx, List.take_zero, List.nil_append, List.drop_of_length_le (by omega), List.append_nil]
  · rw [if_neg (fun h => hx h.2), if_neg hx]
theorem stn_part {b o n : Nat} {x : List Value} {room : Bool} {esz e : Nat} {c : List Value} (h : c.length ≠ n) : stnO H b o n x (some (.cells true room esz c e)) = if o + n ≤ c.length ∧ x.length = n ∧ x.all Value.oneCell' = true then some (undef, H.set b (.cells true room esz (c.take o ++ x ++ c.drop (o + n)) e)) else none := stnO_c ..
theorem b_shr1 (n : Nat) : binA .shr (.int .u64 (n : Int)) (.int .u64 1) = some (.int .u64 ((n / 2 : Nat) : Int)) := by
  simp only [binA, IntKind.bits]
  rw [if_pos (by omega)]
  have : ((n : Int)).fdiv 2 = ((n / 2 : Nat) : Int) := by rw [Int.fdiv_eq_ediv_of_nonneg _ (by omega)]; omega
  simpa using this
theorem cells_agg (l : List Value) : (Value.agg l.toArray).cells.toList = l := by simp [Value.cells]
theorem toList_arr (l : List Value) : l.toArray.toList = l := by simp
theorem size_arr (l : List Value) : l.toArray.size = l.length := by simp

theorem g_new {b : Nat} (o : AO) (h : b = H.n) : (H.alloc o).get b = some o := by subst h; exact AHeap.get_alloc_new H o
theorem g_old {b : Nat} (o : AO) (h : b < H.n) : (H.alloc o).get b = H.get b := AHeap.get_alloc_old H o h
theorem g_set (b : Nat) (o : AO) : (H.set b o).get b = (H.get b).map fun _ => o := by
  by_cases hb : b < H.n
  · by_cases h : H.n - 1 - b < H.l.length
    · simp [AHeap.get, AHeap.set, hb, h]
    · simp only [AHeap.get, AHeap.set, hb, if_true, List.getElem?_eq_none (Nat.le_of_not_lt h), Option.map_none]
      exact List.getElem?_eq_none (by simpa using Nat.le_of_not_lt h)
  · simp [AHeap.get, AHeap.set, hb]
theorem g_sets {b b' : Nat} (o : AO) (h : b' ≠ b) (h2 : b < H.n) : (H.set b o).get b' = H.get b' := AHeap.get_set_other H h h2 o
theorem set_new {b : Nat} (o o' : AO) (h : b = H.n) : (H.alloc o).set b o' = H.alloc o' := by subst h; exact alloc_set H o o'
theorem set_old {b : Nat} (o o' : AO) (h : b < H.n) : (H.alloc o).set b o' = (H.set b o').alloc o := by
  simp only [AHeap.alloc, AHeap.set, show H.n + 1 - 1 - b = (H.n - 1 - b) + 1 by omega, List.set_cons_succ]
theorem set_set (b : Nat) (o o' : AO) : (H.set b o).set b o' = H.set b o' := by simp [AHeap.set]
theorem lt_yes {a b : Nat} (h : a < b) : (a < b) = True := by simp [h]
theorem le_yes {a b : Nat} (h : a ≤ b) : (a ≤ b) = True := by simp [h]
theorem eqn_yes {a b : Nat} (h : a = b) : (a = b) = True := by simp [h]
theorem eqn_no {a b : Nat} (h : ¬ a = b) : (a = b) = False := by simp [h]
theorem lti_yes {a b : Int} (h : a < b) : (a < b) = True := by simp [h]
theorem lei_yes {a b : Int} (h : a ≤ b) : (a ≤ b) = True := by simp [h]
theorem lti_no {a b : Int} (h : ¬ a < b) : (a < b) = False := by simp [h]
theorem lei_no {a b : Int} (h : ¬ a ≤ b) : (a ≤ b) = False := by simp [h]
theorem beqi_no {a b : Int} (h : ¬ a = b) : (a == b) = false := by simp [h]
theorem beqi_yes {a b : Int} (h : a = b) : (a == b) = true := by simp [h]
theorem bnei_no {a b : Int} (h : a = b) : (a != b) = false := by simp [h]
theorem bnei_yes {a b : Int} (h : ¬ a = b) : (a != b) = true := by simp [h]

theorem cond_split {b : Bool} {t e : ACode} (ht : b = true → W P ng t Q fr H) (he : b = false → W P ng e Q fr H) : condW P ng (.bool b) t e Q fr H := by
  cases b
  · rw [cond_false]; exact he rfl
  · rw [cond_true]; exact ht rfl
theorem gd_split {KF : List Value → AHeap → Prop} {b c : Bool} {op : AOp AX} {d : D} {r : List AOper} (ht : b = c → stR P ng (op.map (AX.ev fr tm)) d r fr tm H KF) (he : b = (!c) → RW P ng r (d.frame undef fr) (d.temps undef tm) H KF) : gdR P ng (boolIs (.bool b) c) op d r fr tm H KF := by
  cases b <;> cases c <;> simp only [bi_tt, bi_tf, bi_ft, bi_ff, gd_true, gd_false] <;> first | exact ht rfl | exact he rfl
theorem gdD_split {KF : List Value → AHeap → Prop} {tr : List TE} {b c : Bool} {op : AOp AX} {d : D} {un : List Nat} {r : List (AOper × List Nat)} (ht : b = c → stD P ng (op.map (AX.ev fr tm)) d un r fr tm H tr KF) (he : b = (!c) → RD P ng r (d.frame undef fr) (d.temps undef tm) H (tr ++ [⟨9, [], H, H⟩]) KF) : gdD P ng (boolIs (.bool b) c) op d un r fr tm H tr KF := by
  cases b <;> cases c <;> simp only [bi_tt, bi_tf, bi_ft, bi_ff, gdD_true, gdD_false] <;> first | exact ht rfl | exact he rfl
theorem bi_u (b : Bool) : boolIs undef b = false := by cases b <;> rfl
theorem boolIs_t (b : Bool) : boolIs (.bool b) true = b := by cases b <;> rfl
theorem boolIs_f (b : Bool) : boolIs (.bool b) false = !b := by cases b <;> rfl

/-- A call: what is known of it, and what comes behind. -/
theorem callK {f : FuncId} {xs : List Value} {R K : Value → AHeap → Prop} (h : ∃ v H', ARun P ng f xs H v H' ∧ R v H') (k : ∀ v H', R v H' → K v H') : ∃ v H', ARun P ng f xs H v H' ∧ K v H' := by
  obtain ⟨v, H', h1, h2⟩ := h; exact ⟨v, H', h1, k v H' h2⟩
theorem Chg1.get {r : Nat} (c : Chg [r] H H') {b : Nat} (h1 : b < H.n) (h2 : b ≠ r) : H'.get b = H.get b := c.get b h1 (by simpa using h2)
theorem Chg2.get {r s : Nat} (c : Chg [r, s] H H') {b : Nat} (h1 : b < H.n) (h2 : b ≠ r) (h3 : b ≠ s) : H'.get b = H.get b := c.get b h1 (by simp [h2, h3])
theorem Keeps.trans' {A B C : AHeap} (k : Keeps B C) (h : Keeps A B) : Keeps A C := h.trans k
theorem Chg.set' {S : List Nat} {A B : AHeap} (h : Chg S A B) {b : Nat} (hb : A.n ≤ b ∨ b ∈ S) (hb2 : b < B.n) (o : AO) : Chg S A (B.set b o) :=
  h.trans (Chg.set B hb2 o) (by intro x hx; simp at hx; subst hx; exact hb.symm)
theorem Chg.keeps' {S : List Nat} {A B C : AHeap} (k : Keeps B C) (h : Chg S A B) : Chg S A C := h.trans (k.chg []) (by simp)

/-! ### Slices by their rows -/
/-- One more than the block that a value leads to; 0: none. -/
def bn (v : Value) : Nat := match blk v with
  | some b => b + 1
  | none => 0
/-- The place of a cell of an element of a slice. -/
def elP (v : Value) (esz j off : Nat) : Value := match v with
  | .slice (some ⟨b, o, none⟩) _ _ => ptr b (o + j * esz + off)
  | _ => undef
/-- Is it a slice that lies in a block? -/
def nnS (v : Value) : Bool := match v with
  | .slice (some ⟨_, _, none⟩) _ _ => true
  | _ => false
def lenS (v : Value) : Nat := match v with
  | .slice _ n _ => n
  | _ => 0
def isS (v : Value) : Bool := match v with
  | .slice _ _ _ => true
  | _ => false
/-- The cells of an element of a slice. -/
def rowA (H : AHeap) (esz : Nat) (v : Value) (j : Nat) : Option (List Value) := match v with
  | .slice (some ⟨b, o, none⟩) _ _ => rangeA H b (o + j * esz) esz
  | _ => none
theorem nnS_inv {v : Value} (h : nnS v = true) : ∃ b o n k, v = slc b o n k := by
  unfold nnS at h
  split at h
  · exact ⟨_, _, _, _, rfl⟩
  · cases h
theorem isS_inv {v : Value} (h : isS v = true) : ∃ a n k, v = .slice a n k := by
  unfold isS at h
  split at h
  · exact ⟨_, _, _, rfl⟩
  · cases h
theorem a_lenv {v : Value} (h : isS v = true) : asem (.len false v) H = some (.int .i64 (lenS v), H) := by
  obtain ⟨a, n, k, rfl⟩ := isS_inv h; rfl
theorem a_iaddrv {v : Value} {esz : Nat} {kd : IntKind} {i : Int} (h : nnS v = true) (h1 : 0 ≤ i) (h2 : i < (lenS v : Int)) : asem (.iaddr esz v (.int kd i)) H = some (elP v esz i.toNat 0, H) := by
  obtain ⟨b, o, n, k, rfl⟩ := nnS_inv h
  rw [a_iaddr, if_pos ⟨h1, h2⟩]; rfl
theorem a_faddrv {v : Value} {esz j off d : Nat} (h : nnS v = true) : asem (.faddr d (elP v esz j off)) H = some (elP v esz j (off + d), H) := by
  obtain ⟨b, o, n, k, rfl⟩ := nnS_inv h
  show asem (.faddr d (ptr b (o + j * esz + off))) H = _
  rw [a_faddr, Nat.add_assoc]; rfl
theorem rowA_range {v : Value} {esz j : Nat} {r : List Value} (h : rowA H esz v j = some r) : ∃ b o n k, v = slc b o n k ∧ r.length = esz ∧ ∃ own room z c e, H.get b = some (.cells own room z c e) ∧ o + j * esz + esz ≤ c.length ∧ r = (c.drop (o + j * esz)).take esz := by
  unfold rowA at h
  split at h
  · rename_i b o n k
    refine ⟨b, o, n, k, rfl, ?_⟩
    unfold rangeA at h
    split at h
    · rename_i own room z c e hg
      split at h
      · rename_i hl
        simp only [Option.some.injEq] at h; subst h
        exact ⟨by rw [List.length_take, List.length_drop]; omega, own, room, z, c, e, hg, hl, rfl⟩
      · cases h
    · cases h
  · cases h
theorem a_load1v {v : Value} {esz j off : Nat} {r : List Value} (h : rowA H esz v j = some r) (ho : off < esz) : asem (.load1 (elP v esz j off)) H = r[off]?.map fun x => (x, H) := by
  obtain ⟨b, o, n, k, rfl, h1, own, room, z, c, e, h2, h3, h4⟩ := rowA_range h
  show asem (.load1 (ptr b (o + j * esz + off))) H = _
  rw [a_load1, cellA_of h2, h4, List.getElem?_take_of_lt ho, List.getElem?_drop]
theorem a_loadnv {v : Value} {esz j off n : Nat} {r : List Value} (h : rowA H esz v j = some r) (ho : off + n ≤ esz) : asem (.loadn n (elP v esz j off)) H = some (.agg ((r.drop off).take n).toArray, H) := by
  obtain ⟨b, o, n', k, rfl, h1, own, room, z, c, e, h2, h3, h4⟩ := rowA_range h
  show asem (.loadn n (ptr b (o + j * esz + off))) H = _
  rw [a_loadn, rangeA_of h2, if_pos (by omega), h4, List.drop_take, List.take_take, List.drop_drop, Nat.min_eq_left (by omega)]
  rfl
theorem a_loadnvf {v : Value} {n j : Nat} {r : List Value} (h : rowA H n v j = some r) : asem (.loadn n (elP v n j 0)) H = some (.agg r.toArray, H) := by
  obtain ⟨_, _, _, _, _, hl, _⟩ := rowA_range h
  rw [a_loadnv h (by omega), List.drop_zero, List.take_of_length_le (by omega)]
theorem a_loadnvp {v : Value} {esz j off n : Nat} {r : List Value} (hne : n ≠ esz) (h : rowA H esz v j = some r) (ho : off + n ≤ esz) : asem (.loadn n (elP v esz j off)) H = some (.agg ((r.drop off).take n).toArray, H) := a_loadnv h ho
theorem stD_callv {KF : List Value → AHeap → Prop} {tr : List TE} (g : FuncId) (first cap : Array Value) (xs : List Value) (d : D) (un : List Nat) (r : List (AOper × List Nat)) : stD P ng (.callv (.func (.func g) first cap) xs) d un r fr tm H tr KF = callD P ng g (first.toList ++ xs ++ cap.toList) d un r fr tm H tr KF := _root_.id rfl
theorem reads_el {v : Value} {esz j off : Nat} (h : nnS v = true) : readsA (.load1 (elP v esz j off)) = [bn v - 1] := by
  obtain ⟨b, o, n', k, rfl⟩ := nnS_inv h; rfl
theorem readsn_el {v : Value} {esz j off n : Nat} (h : nnS v = true) : readsA (.loadn n (elP v esz j off)) = [bn v - 1] := by
  obtain ⟨b, o, n', k, rfl⟩ := nnS_inv h; rfl
theorem nnS_bn {v : Value} (h : nnS v = true) : 0 < bn v := by
  obtain ⟨b, o, n', k, rfl⟩ := nnS_inv h; simp [bn, blk, slc]

theorem rowA_get {esz : Nat} {v : Value} {j : Nat} (h : ∀ b, blk v = some b → H'.get b = H.get b) : rowA H' esz v j = rowA H esz v j := by
  unfold rowA
  split
  · rename_i b o n k
    rw [rangeA_e, rangeA_e, h b rfl]
  · rfl
theorem bn_lt {v : Value} {n b : Nat} (h : bn v ≤ n) (e : blk v = some b) : b < n := by
  unfold bn at h; rw [e] at h; exact h
theorem row_alloc {esz : Nat} {v : Value} {j : Nat} (o : AO) (h : bn v ≤ H.n) : rowA (H.alloc o) esz v j = rowA H esz v j := rowA_get fun b e => g_old o (bn_lt h e)
theorem row_set {esz : Nat} {v : Value} {j b : Nat} (o : AO) (h : bn v ≠ b + 1) (hb : b < H.n) : rowA (H.set b o) esz v j = rowA H esz v j := rowA_get fun x e => g_sets o (by intro hx; subst hx; apply h; unfold bn; rw [e]) hb
theorem Keeps.row (k : Keeps H H') {esz : Nat} {v : Value} {j : Nat} (h : bn v ≤ H.n) : rowA H' esz v j = rowA H esz v j := rowA_get fun b e => k.get b (bn_lt h e)
theorem Chg1.row {r : Nat} (k : Chg [r] H H') {esz : Nat} {v : Value} {j : Nat} (h : bn v ≤ H.n) (h2 : bn v ≠ r + 1) : rowA H' esz v j = rowA H esz v j := rowA_get fun b e => Chg1.get k (bn_lt h e) (by intro hx; subst hx; apply h2; unfold bn; rw [e])

/-- A slice that reads as rows of cells. -/
structure Sl (H : AHeap) (esz : Nat) (v : Value) (rows : List (List Value)) : Prop where
  sh : ∃ a k, v = .slice a rows.length k
  row : ∀ r ∈ rows, r.length = esz
  el : elemsA H esz v = some rows.flatten
theorem Sl.len {esz : Nat} {v : Value} {rows : List (List Value)} (h : Sl H esz v rows) : lenS v = rows.length := by
  obtain ⟨a, k, rfl⟩ := h.sh; rfl
theorem Sl.is {esz : Nat} {v : Value} {rows : List (List Value)} (h : Sl H esz v rows) : isS v = true := by
  obtain ⟨a, k, rfl⟩ := h.sh; rfl
theorem Sl.one {esz : Nat} {v : Value} {rows : List (List Value)} (h : Sl H esz v rows) : v.oneCell' = true := by
  obtain ⟨a, k, rfl⟩ := h.sh; rfl
theorem Sl.nil (H : AHeap) (esz : Nat) : Sl H esz (.slice none 0 0) [] := ⟨⟨_, _, rfl⟩, by simp, rfl⟩
theorem flat_len {esz : Nat} : ∀ {rows : List (List Value)}, (∀ r ∈ rows, r.length = esz) → rows.flatten.length = rows.length * esz
  | [], _ => by simp
  | r :: rows, h => by
    have h1 := h r (by simp)
    have h2 := flat_len (rows := rows) (fun x hx => h x (by simp [hx]))
    rw [List.flatten_cons, List.length_append, h1, h2, List.length_cons, Nat.add_mul]; omega
theorem flat_at {esz : Nat} : ∀ {rows : List (List Value)}, (∀ r ∈ rows, r.length = esz) → ∀ (i : Nat) (hi : i < rows.length), (rows.flatten.drop (i * esz)).take esz = rows[i]
  | r :: rows, h, 0, _ => by
    have h1 := h r (by simp)
    rw [Nat.zero_mul, List.drop_zero, List.flatten_cons, List.take_append_of_le_length (by omega), List.take_of_length_le (by omega)]; rfl
  | r :: rows, h, i + 1, hi => by
    have h1 := h r (by simp)
    have h2 := flat_at (rows := rows) (fun x hx => h x (by simp [hx])) i (by simpa using hi)
    rw [Nat.add_mul, Nat.one_mul, Nat.add_comm, ← List.drop_drop, List.flatten_cons]
    rw [show (r ++ rows.flatten).drop esz = rows.flatten by rw [← h1, List.drop_left], h2]
    rfl
theorem Sl.at_ {esz : Nat} {v : Value} {rows : List (List Value)} (h : Sl H esz v rows) (hz : 0 < esz) {i : Nat} (hi : i < rows.length) : nnS v = true ∧ rowA H esz v i = some rows[i] := by
  have h2 := h.el
  have hfl := flat_len h.row
  have hpos : 0 < rows.flatten.length := by rw [hfl]; exact Nat.mul_pos (by omega) hz
  obtain ⟨a, k, rfl⟩ := h.sh
  match a, h2 with
  | none, h2 => simp only [elemsA, Option.some.injEq] at h2; rw [← h2] at hpos; simp at hpos
  | some ⟨b, o, some q⟩, h2 =>
    simp only [elemsA] at h2
    rw [if_neg (by omega)] at h2; cases h2
  | some ⟨b, o, none⟩, h2 =>
    refine ⟨rfl, ?_⟩
    simp only [elemsA] at h2
    simp only [rowA, rangeA]
    split at h2
    · rename_i own room z c e hg
      split at h2
      · rename_i hl
        have hm : (i + 1) * esz ≤ rows.length * esz := Nat.mul_le_mul_right esz hi
        rw [Nat.add_mul, Nat.one_mul] at hm
        rw [if_pos (by omega)]
        simp only [Option.some.injEq] at h2
        have := flat_at h.row i hi
        rw [← h2, List.drop_take, List.take_take, List.drop_drop, Nat.min_eq_left (by omega)] at this
        rw [this]
      · cases h2
    · cases h2
theorem Sl.bn_le {esz : Nat} {v : Value} {rows : List (List Value)} (h : Sl H esz v rows) (hr : rows ≠ []) (hz : 0 < esz) : bn v ≤ H.n := by
  have hl : 0 < rows.length := List.length_pos_iff.2 hr
  obtain ⟨h1, h2⟩ := h.at_ hz hl
  obtain ⟨b, o, n, k, rfl, _, own, room, z, c, e, hg, _⟩ := rowA_range h2
  exact AHeap.get_lt hg
theorem Sl.get' {esz : Nat} {v : Value} {rows : List (List Value)} (h : Sl H esz v rows) (k : ∀ b, blk v = some b → b < H.n → H'.get b = H.get b) : Sl H' esz v rows := by
  refine ⟨h.sh, h.row, ?_⟩
  have h2 := h.el
  obtain ⟨a, c, rfl⟩ := h.sh
  match a, h2 with
  | none, h2 => exact h2
  | some ⟨b, o, none⟩, h2 =>
    simp only [elemsA] at h2 ⊢
    cases hg : H.get b with
    | none => rw [hg] at h2; cases h2
    | some ob => rw [k b rfl (AHeap.get_lt hg)]; exact h2
  | some ⟨b, o, some _⟩, h2 => simpa [elemsA] using h2
theorem Sl.keeps {esz : Nat} {v : Value} {rows : List (List Value)} (h : Sl H esz v rows) (k : Keeps H H') : Sl H' esz v rows := h.get' fun b _ hb => k.get b hb
theorem Sl.chg {esz : Nat} {v : Value} {rows : List (List Value)} {S : List Nat} (h : Sl H esz v rows) (k : Chg S H H') (hS : ∀ b, blk v = some b → b ∉ S) : Sl H' esz v rows := h.get' fun b e hb => k.get b hb (hS b e)
theorem Sl.chg1 {esz : Nat} {v : Value} {rows : List (List Value)} {r : Nat} (h : Sl H esz v rows) (k : Chg [r] H H') (hS : bn v ≠ r + 1) : Sl H' esz v rows := h.get' fun b e hb => Chg1.get k hb (by intro hx; subst hx; apply hS; unfold bn; rw [e])
theorem BS.sl {v : Value} {l : List UInt8} (h : BS H v l) : Sl H 1 v (l.map fun b => [.int .u8 b.toNat]) := by
  obtain ⟨a, k, e⟩ := h.sh
  refine ⟨⟨a, k, by rw [List.length_map]; exact e⟩, ?_, ?_⟩
  · intro r hr; simp at hr; obtain ⟨b, _, rfl⟩ := hr; rfl
  · rw [h.el]
    congr 1
    clear h e
    induction l with
    | nil => rfl
    | cons b l ih => simp only [List.map_cons, List.flatten_cons, ← ih]; rfl
theorem AP.sl {e esz : Nat} {v : Value} {n : Nat} {rows : List (List Value)} (h : AP H e esz v n rows.flatten) (hr : ∀ r ∈ rows, r.length = esz) (hn : n = rows.length) : Sl H esz v rows := by
  obtain ⟨a, ha⟩ := h.shape
  exact ⟨⟨a, n, by rw [← hn]; exact ha⟩, hr, h.elems⟩
theorem AP.bn {e esz : Nat} {v : Value} {n : Nat} {c : List Value} (h : AP H e esz v n c) : bn v ≤ H.n := by
  unfold Go.AM.bn
  split
  · rename_i b hb; exact h.lt hb
  · omega

/-! further operations -/
section
variable {KF : List Value → AHeap → Prop} {tr : List TE} (d : D) (r : List AOper) (un : List Nat) (rd : List (AOper × List Nat))
theorem st_app (e s b : Nat) (x y : Value) : stR P ng (.app e s b x y) d r fr tm H KF = goR P ng (asem (.app e s b x y) H) d r fr tm KF := st_of d r (by simp) (by simp)
theorem st_apps (e b : Nat) (x y : Value) : stR P ng (.apps e b x y) d r fr tm H KF = goR P ng (asem (.apps e b x y) H) d r fr tm KF := st_of d r (by simp) (by simp)
theorem sd_apps (e b : Nat) (x y : Value) : stD P ng (.apps e b x y) d un rd fr tm H tr KF = goD P ng (.apps e b x y) (asem (.apps e b x y) H) d un rd fr tm H tr KF := stD_of d un rd (by simp) (by simp)
theorem st_iaddrp (s n : Nat) (x i : Value) : stR P ng (.iaddrp s n x i) d r fr tm H KF = goR P ng (asem (.iaddrp s n x i) H) d r fr tm KF := st_of d r (by simp) (by simp)
theorem sd_iaddrp (s n : Nat) (x i : Value) : stD P ng (.iaddrp s n x i) d un rd fr tm H tr KF = goD P ng (.iaddrp s n x i) (asem (.iaddrp s n x i) H) d un rd fr tm H tr KF := stD_of d un rd (by simp) (by simp)
theorem st_idxa (a : Bool) (s n : Nat) (x i : Value) : stR P ng (.idxa a s n x i) d r fr tm H KF = goR P ng (asem (.idxa a s n x i) H) d r fr tm KF := st_of d r (by simp) (by simp)
theorem sd_idxa (a : Bool) (s n : Nat) (x i : Value) : stD P ng (.idxa a s n x i) d un rd fr tm H tr KF = goD P ng (.idxa a s n x i) (asem (.idxa a s n x i) H) d un rd fr tm H tr KF := stD_of d un rd (by simp) (by simp)
theorem st_slarr (s n : Nat) (x : Value) (lo hi mx : Option Value) : stR P ng (.slarr s n x lo hi mx) d r fr tm H KF = goR P ng (asem (.slarr s n x lo hi mx) H) d r fr tm KF := st_of d r (by simp) (by simp)
theorem sd_slarr (s n : Nat) (x : Value) (lo hi mx : Option Value) : stD P ng (.slarr s n x lo hi mx) d un rd fr tm H tr KF = goD P ng (.slarr s n x lo hi mx) (asem (.slarr s n x lo hi mx) H) d un rd fr tm H tr KF := stD_of d un rd (by simp) (by simp)
theorem st_eqs (c : List Nat) (n : Bool) (x y : Value) : stR P ng (.eqs c n x y) d r fr tm H KF = goR P ng (asem (.eqs c n x y) H) d r fr tm KF := st_of d r (by simp) (by simp)
theorem sd_eqs (c : List Nat) (n : Bool) (x y : Value) : stD P ng (.eqs c n x y) d un rd fr tm H tr KF = goD P ng (.eqs c n x y) (asem (.eqs c n x y) H) d un rd fr tm H tr KF := stD_of d un rd (by simp) (by simp)
theorem st_mm (m : Bool) (x y : Value) : stR P ng (.mm m x y) d r fr tm H KF = goR P ng (asem (.mm m x y) H) d r fr tm KF := st_of d r (by simp) (by simp)
theorem sd_mm (m : Bool) (x y : Value) : stD P ng (.mm m x y) d un rd fr tm H tr KF = goD P ng (.mm m x y) (asem (.mm m x y) H) d un rd fr tm H tr KF := stD_of d un rd (by simp) (by simp)
theorem st_i2str (x : Value) : stR P ng (.i2str x) d r fr tm H KF = goR P ng (asem (.i2str x) H) d r fr tm KF := st_of d r (by simp) (by simp)
theorem sd_i2str (x : Value) : stD P ng (.i2str x) d un rd fr tm H tr KF = goD P ng (.i2str x) (asem (.i2str x) H) d un rd fr tm H tr KF := stD_of d un rd (by simp) (by simp)
theorem st_rng (x : Value) : stR P ng (.rng x) d r fr tm H KF = goR P ng (asem (.rng x) H) d r fr tm KF := st_of d r (by simp) (by simp)
theorem st_next (x : Value) : stR P ng (.next x) d r fr tm H KF = goR P ng (asem (.next x) H) d r fr tm KF := st_of d r (by simp) (by simp)
theorem st_copy (e : Nat) (x y : Value) : stR P ng (.copy e x y) d r fr tm H KF = goR P ng (asem (.copy e x y) H) d r fr tm KF := st_of d r (by simp) (by simp)
theorem sd_copy (e : Nat) (x y : Value) : stD P ng (.copy e x y) d un rd fr tm H tr KF = goD P ng (.copy e x y) (asem (.copy e x y) H) d un rd fr tm H tr KF := stD_of d un rd (by simp) (by simp)
theorem st_clr (e : Nat) (z : List Value) (x : Value) : stR P ng (.clr e z x) d r fr tm H KF = goR P ng (asem (.clr e z x) H) d r fr tm KF := st_of d r (by simp) (by simp)
end
theorem a_mm (m : Bool) (k : IntKind) (a b : Int) : asem (.mm m (.int k a) (.int k b)) H = some (.int k (if m then (if b > a then b else a) else (if b < a then b else a)), H) := by
  simp [asem]
theorem a_mmx (k : IntKind) (a b : Int) : asem (.mm true (.int k a) (.int k b)) H = some (.int k (max a b), H) := by
  rw [a_mm]; simp only [if_true]; congr 3; split <;> omega
theorem a_mmn (k : IntKind) (a b : Int) : asem (.mm false (.int k a) (.int k b)) H = some (.int k (min a b), H) := by
  rw [a_mm]; simp only [Bool.false_eq_true, if_false]; congr 3; split <;> omega
theorem a_iaddrp (esz n b o : Nat) (kd : IntKind) (i : Int) : asem (.iaddrp esz n (ptr b o) (.int kd i)) H = if 0 ≤ i ∧ i < (n : Int) then some (ptr b (o + i.toNat * esz), H) else none := _root_.id rfl
theorem a_bslicee (e esz n : Nat) (z : List Value) (ps : List (Nat × Nat × Value)) : asem (.bslice e esz n z ps) H = (fillA z ps).bind fun c => if c.all Value.oneCell' = true ∧ c.length = n * esz then some (slc H.n 0 n n, H.alloc (.cells true false esz c e)) else none := by
  simp only [asem]; cases fillA z ps <;> rfl
theorem fill_cons (c : List Value) (o n : Nat) (v : Value) (r : List (Nat × Nat × Value)) : fillA c ((o, n, v) :: r) = if v.cells.toList.length = n ∧ o + n ≤ c.length then fillA (c.take o ++ v.cells.toList ++ c.drop (o + n)) r else none := by
  simp only [fillA]
theorem cells_int (k : IntKind) (n : Int) : (Value.int k n).cells.toList = [.int k n] := _root_.id rfl
theorem cells_bool (n : Bool) : (Value.bool n).cells.toList = [.bool n] := _root_.id rfl
theorem cells_str (n : ByteArray) : (Value.string n).cells.toList = [.string n] := _root_.id rfl
theorem cells_sl (a : Option Addr) (n k : Nat) : (Value.slice a n k).cells.toList = [.slice a n k] := _root_.id rfl
theorem cells_slc (b o n k : Nat) : (slc b o n k).cells.toList = [slc b o n k] := _root_.id rfl
theorem cells_ptr (b o : Nat) : (ptr b o).cells.toList = [ptr b o] := _root_.id rfl
theorem cells_pn (a : Option Addr) : (Value.pointer a).cells.toList = [.pointer a] := _root_.id rfl
theorem cells_isS {v : Value} (h : isS v = true) : v.cells.toList = [v] := by obtain ⟨a, n, k, rfl⟩ := isS_inv h; rfl
theorem o_isS {v : Value} (h : isS v = true) : one1 v = True := by obtain ⟨a, n, k, rfl⟩ := isS_inv h; simp [one1, one_sl]
theorem one_isS {v : Value} (h : isS v = true) : v.oneCell' = true := by obtain ⟨a, n, k, rfl⟩ := isS_inv h; rfl
theorem resC (i n : Nat) (fr : List Value) : resO [.cn n i] fr H = (celln n (fr.getD i undef) H) := by
  simp only [resO, resVs, RX.get]
  cases celln n (fr.getD i undef) H <;> rfl
theorem cellnp (n b o : Nat) : celln n (ptr b o) H = (rangeA H b o n).map fun c => .agg c.toArray := _root_.id rfl
theorem cell1p (b o : Nat) : cell1 (ptr b o) H = cellA H b o := _root_.id rfl
theorem touch_load1 (b o : Nat) (H : AHeap) : touchA (.load1 (ptr b o)) H = [b] := _root_.id rfl
theorem touch_loadn (n b o : Nat) (H : AHeap) : touchA (.loadn n (ptr b o)) H = [b] := _root_.id rfl
theorem touch_load1v {v : Value} {esz j off : Nat} (h : nnS v = true) (H : AHeap) : touchA (.load1 (elP v esz j off)) H = [bn v - 1] := by
  show readsA _ = _; exact reads_el h
theorem touch_loadnv {v : Value} {esz j off n : Nat} (h : nnS v = true) (H : AHeap) : touchA (.loadn n (elP v esz j off)) H = [bn v - 1] := by
  show readsA _ = _; exact readsn_el h
theorem keepsB_n (A B : AHeap) : keepsB [] A B = True := _root_.id rfl
theorem keepsB_c (b : Nat) (l : List Nat) (A B : AHeap) : keepsB (b :: l) A B = (B.get b = A.get b ∧ keepsB l A B) := _root_.id rfl
theorem olderB_n (A : AHeap) : olderB [] A = True := _root_.id rfl
theorem olderB_c (b : Nat) (l : List Nat) (A : AHeap) : olderB (b :: l) A = (b < A.n ∧ olderB l A) := _root_.id rfl
/-- What one owes to one that was ahead. -/
def ob1 (k : Nat) (bs : List Nat) (A B : AHeap) (x : Option TE) : Prop := match x with
  | some t => if k = 1 ∧ t.k = 3 then olderB bs t.H ∧ keepsB bs t.H t.H' else if k = 3 ∧ (t.k = 1 ∨ t.k = 2) then keepsB t.bs A B else True
  | none => True
theorem obl_c (k : Nat) (bs : List Nat) (A B : AHeap) (tr : List TE) (i : Nat) (un : List Nat) : oblA k bs A B tr (i :: un) = (ob1 k bs A B tr[i]? ∧ oblA k bs A B tr un) := _root_.id rfl
theorem ob1_0 (bs : List Nat) (A B : AHeap) (x : Option TE) : ob1 0 bs A B x = True := by unfold ob1; split <;> simp
theorem ob1_2 (bs : List Nat) (A B : AHeap) (x : Option TE) : ob1 2 bs A B x = True := by unfold ob1; split <;> simp
theorem ob1_s (k : Nat) (bs : List Nat) (A B : AHeap) (j : Nat) (cs : List Nat) (C D : AHeap) : ob1 k bs A B (some ⟨j, cs, C, D⟩) = if k = 1 ∧ j = 3 then olderB bs C ∧ keepsB bs C D else if k = 3 ∧ (j = 1 ∨ j = 2) then keepsB cs A B else True := _root_.id rfl
theorem touch_0 {op : AOp Value} (h : clsA op = 0) (H : AHeap) : touchA op H = [] := by simp [touchA, h]
theorem touch_2 {op : AOp Value} (h : clsA op = 2) (H : AHeap) : touchA op H = [H.n] := by simp [touchA, h]
theorem touch_3 {op : AOp Value} (h : clsA op = 3) (H : AHeap) : touchA op H = [] := by simp [touchA, h]
end
/-! The lemmas of walks, as one. -/
set_option linter.defProp false in
def A3s := (And.intro (And.intro (And.intro (And.intro (And.intro (And.intro @cellA_e @rangeA_e) (And.intro @cellO_c (And.intro @rng_full @rng_part))) (And.intro (And.intro @a_store1e (And.intro @a_storene @st1O_c)) (And.intro @stn_full (And.intro @stn_part @a_load1v)))) (And.intro (And.intro (And.intro @a_loadnvf (And.intro @a_loadnvp @stD_callv)) (And.intro @cells_agg (And.intro @toList_arr @size_arr))) (And.intro (And.intro @g_new (And.intro @g_old @g_set)) (And.intro @g_sets (And.intro @set_new @set_old))))) (And.intro (And.intro (And.intro (And.intro @set_set @alloc_n) (And.intro @set_n (And.intro @lt_yes @le_yes))) (And.intro (And.intro @eqn_yes (And.intro @lti_yes @lei_yes)) (And.intro @lti_no (And.intro @lei_no @beqi_no)))) (And.intro (And.intro (And.intro @beqi_yes (And.intro @bnei_no @bnei_yes)) (And.intro @boolIs_t (And.intro @boolIs_f @a_lenv))) (And.intro (And.intro @a_iaddrv (And.intro @a_faddrv @row_alloc)) (And.intro @row_set (And.intro @st_app @st_apps)))))) (And.intro (And.intro (And.intro (And.intro (And.intro @sd_apps @sd_app) (And.intro @st_iaddrp (And.intro @sd_iaddrp @st_idxa))) (And.intro (And.intro @sd_idxa (And.intro @st_slarr @sd_slarr)) (And.intro @st_eqs (And.intro @sd_eqs @st_mm)))) (And.intro (And.intro (And.intro @sd_mm (And.intro @st_i2str @sd_i2str)) (And.intro @st_rng (And.intro @st_next @st_copy))) (And.intro (And.intro @sd_copy (And.intro @st_clr @a_mmx)) (And.intro @a_mmn (And.intro @a_iaddrp @a_bslicee))))) (And.intro (And.intro (And.intro (And.intro @cells_int (And.intro @cells_bool @cells_str)) (And.intro @cells_sl (And.intro @cells_slc @cells_ptr))) (And.intro (And.intro @cells_pn (And.intro @touch_load1 @touch_loadn)) (And.intro @touch_load1v (And.intro @touch_loadnv @keepsB_n)))) (And.intro (And.intro (And.intro @keepsB_c (And.intro @olderB_n @olderB_c)) (And.intro @obl_nil (And.intro @obl_c @ob1_0))) (And.intro (And.intro @ob1_2 (And.intro @ob1_s @bi_u)) (And.intro @resC (And.intro @cellnp @cell1p)))))))
set_option linter.defProp false in
def A3c := (And.intro (And.intro (And.intro (And.intro @List.append_nil.{0} @List.nil_append.{0}) (And.intro @List.cons_append.{0} @decide_true)) (And.intro (And.intro @decide_false @List.drop_zero.{0}) (And.intro @Option.bind_some.{0,0} @List.toList_toArray.{0}))) (And.intro (And.intro (And.intro @implies_true.{1} @implies_true.{0}) (And.intro @not_true_eq_false @not_false_eq_true)) (And.intro (And.intro @and_false @Int.toNat_zero) (And.intro @bne_self_eq_false.{0} @Bool.not_not))))
end Go.AM
