/- Part of the proof. -/
import Derived.Test.YtngnahfbgilapaaGLKnown02
set_option linter.unusedSimpArgs false
set_option linter.unusedVariables false
set_option linter.unusedSimpArgs false
set_option linter.unusedVariables false
namespace Go.AM
section
variable {P : Program} {ng : Nat} {H H' : AHeap} {Q : AQ} {fr tm : List Value}
def cellO (g : Option AO) (o : Nat) : Option Value := match g with
  | some (.cells _ _ _ c _) => c[o]?
  | _ => none
def rangeO (g : Option AO) (o n : Nat) : Option (List Value) := match g with
  | some (.cells _ _ _ c _) => if o + n ≤ c.length then some ((c.drop o).take n) else none
  | _ => none
theorem cellA_e (H : AHeap) (b o : Nat) : cellA H b o = cellO (H.get b) o := by unfold cellA cellO; rfl
theorem rangeA_e (H : AHeap) (b o n : Nat) : rangeA H b o n = rangeO (H.get b) o n := by unfold rangeA rangeO; rfl
theorem cellO_c (own room : Bool) (esz e : Nat) (c : List Value) (o : Nat) : cellO (some (.cells own room esz c e)) o = c[o]? := _root_.id rfl
theorem rangeO_c (own room : Bool) (esz e : Nat) (c : List Value) (o n : Nat) : rangeO (some (.cells own room esz c e)) o n = if o + n ≤ c.length then some ((c.drop o).take n) else none := _root_.id rfl
def st1O (H : AHeap) (b o : Nat) (x : Value) (g : Option AO) : Option (Value × AHeap) := match g with
  | some (.cells true room esz c e) => if o < c.length ∧ x.oneCell' = true then some (undef, H.set b (.cells true room esz (c.set o x) e)) else none
  | _ => none
def stnO (H : AHeap) (b o n : Nat) (x : List Value) (g : Option AO) : Option (Value × AHeap) := match g with
  | some (.cells true room esz c e) => if o + n ≤ c.length ∧ x.length = n ∧ x.all Value.oneCell' = true then some (undef, H.set b (.cells true room esz (c.take o ++ x ++ c.drop (o + n)) e)) else none
  | _ => none
theorem a_store1e (H : AHeap) (b o : Nat) (x : Value) : asem (.store1 (ptr b o) x) H = st1O H b o x (H.get b) := by
  unfold st1O
  rfl
theorem a_storene (H : AHeap) (b o n : Nat) (x : Value) : asem (.storen n (ptr b o) x) H = stnO H b o n x.cells.toList (H.get b) := by
  unfold stnO
  rfl
theorem st1O_c (b o : Nat) (x : Value) (room : Bool) (esz e : Nat) (c : List Value) : st1O H b o x (some (.cells true room esz c e)) = if o < c.length ∧ x.oneCell' = true then some (undef, H.set b (.cells true room esz (c.set o x) e)) else none := by
  unfold st1O; rfl
theorem stnO_c (b o n : Nat) (x : List Value) (room : Bool) (esz e : Nat) (c : List Value) : stnO H b o n x (some (.cells true room esz c e)) = if o + n ≤ c.length ∧ x.length = n ∧ x.all Value.oneCell' = true then some (undef, H.set b (.cells true room esz (c.take o ++ x ++ c.drop (o + n)) e)) else none := by
  unfold stnO; rfl
theorem rng_full {own room : Bool} {esz e n : Nat} {c : List Value} (h : c.length = n) : rangeO (some (.cells own room esz c e)) 0 n = some c := by
  rw [rangeO_c, if_pos (by omega), List.drop_zero, List.take_of_length_le (by omega)]
theorem rng_part {own room : Bool} {esz e o n : Nat} {c : List Value} (h : c.length ≠ n) : rangeO (some (.cells own room esz c e)) o n = if o + n ≤ c.length then some ((c.drop o).take n) else none := rangeO_c ..
theorem stn_full {b n : Nat} {x : List Value} {room : Bool} {esz e : Nat} {c : List Value} (h : c.length = n) : stnO H b 0 n x (some (.cells true room esz c e)) = if x.length = n ∧ x.all Value.oneCell' = true then some (undef, H.set b (.cells true room esz x e)) else none := by
  rw [stnO_c]
  by_cases hx : x.length = n ∧ x.all Value.oneCell' = true
  · rw [if_pos ⟨by omega, hx⟩, if_pos hx, List.take_zero, List.nil_append, List.drop_of_length_le (by omega), List.append_nil]
  · rw [if_neg (fun h => hx h.2), if_neg hx]
theorem stn_part {b o n : Nat} {x : List Value} {room : Bool} {esz e : Nat} {c : List Value} (h : c.length ≠ n) : stnO H b o n x (some (.cells true room esz c e)) = if o + n ≤ c.length ∧ x.length = n ∧ x.all Value.oneCell' = true then some (undef, H.set b (.cells true room esz (c.take o ++ x ++ c.drop (o + n)) e)) else none := stnO_c ..
theorem cells_agg (l : List Value) : (Value.agg l.toArray).cells.toList = l := by simp [Value.cells]
theorem toList_arr (l : List Value) : l.toArray.toList = l := by simp
theorem size_arr (l : List Value) : l.toArray.size = l.length := by simp
theorem g_new {b : Nat} (o : AO) (h : b = H.n) : (H.alloc o).get b = some o := by subst h; exact AHeap.get_alloc_new H o
theorem g_old {b : Nat} (o : AO) (h : b < H.n) : (H.alloc o).get b = H.get b := AHeap.get_alloc_old H o h
theorem g_set (b : Nat) (o : AO) : (H.set b o).get b = (H.get b).map fun _ => o := by
  by_cases hb : b < H.n
  · by_cases h : H.n - 1 - b < H.l.length
    · simp [AHeap.get, AHeap.set, hb, h]
    · simp only [AHeap.get, AHeap.set, hb, if_true, List.getElem?_eq_none (Nat.le_of_not_lt h), Option.map_none]
      exact List.getElem?_eq_none (by simpa using Nat.le_of_not_lt h)
  · simp [AHeap.get, AHeap.set, hb]
theorem g_sets {b b' : Nat} (o : AO) (h : b' ≠ b) (h2 : b < H.n) : (H.set b o).get b' = H.get b' := AHeap.get_set_other H h h2 o
theorem set_new {b : Nat} (o o' : AO) (h : b = H.n) : (H.alloc o).set b o' = H.alloc o' := by subst h; exact alloc_set H o o'
theorem set_old {b : Nat} (o o' : AO) (h : b < H.n) : (H.alloc o).set b o' = (H.set b o').alloc o := by
  simp only [AHeap.alloc, AHeap.set, show H.n + 1 - 1 - b = (H.n - 1 - b) + 1 by omega, List.set_cons_succ]
theorem set_set (b : Nat) (o o' : AO) : (H.set b o).set b o' = H.set b o' := by simp [AHeap.set]
theorem lt_yes {a b : Nat} (h : a < b) : (a < b) = True := by simp [h]
theorem le_yes {a b : Nat} (h : a ≤ b) : (a ≤ b) = True := by simp [h]
theorem eqn_yes {a b : Nat} (h : a = b) : (a = b) = True := by simp [h]
theorem lti_yes {a b : Int} (h : a < b) : (a < b) = True := by simp [h]
theorem lei_yes {a b : Int} (h : a ≤ b) : (a ≤ b) = True := by simp [h]
theorem lti_no {a b : Int} (h : ¬ a < b) : (a < b) = False := by simp [h]
theorem lei_no {a b : Int} (h : ¬ a ≤ b) : (a ≤ b) = False := by simp [h]
theorem beqi_no {a b : Int} (h : ¬ a = b) : (a == b) = false := by simp [h]
theorem beqi_yes {a b : Int} (h : a = b) : (a == b) = true := by simp [h]
theorem bnei_no {a b : Int} (h : a = b) : (a != b) = false := by simp [h]
theorem bnei_yes {a b : Int} (h : ¬ a = b) : (a != b) = true := by simp [h]
theorem bi_u (b : Bool) : boolIs undef b = false := by cases b <;> rfl
theorem boolIs_t (b : Bool) : boolIs (.bool b) true = b := by cases b <;> rfl
theorem boolIs_f (b : Bool) : boolIs (.bool b) false = !b := by cases b <;> rfl
theorem callK {f : FuncId} {xs : List Value} {R K : Value → AHeap → Prop} (h : ∃ v H', ARun P ng f xs H v H' ∧ R v H') (k : ∀ v H', R v H' → K v H') : ∃ v H', ARun P ng f xs H v H' ∧ K v H' := by
  obtain ⟨v, H', h1, h2⟩ := h; exact ⟨v, H', h1, k v H' h2⟩
theorem Chg1.get {r : Nat} (c : Chg [r] H H') {b : Nat} (h1 : b < H.n) (h2 : b ≠ r) : H'.get b = H.get b := c.get b h1 (by simpa using h2)
theorem Chg2.get {r s : Nat} (c : Chg [r, s] H H') {b : Nat} (h1 : b < H.n) (h2 : b ≠ r) (h3 : b ≠ s) : H'.get b = H.get b := c.get b h1 (by simp [h2, h3])
theorem Keeps.trans' {A B C : AHeap} (k : Keeps B C) (h : Keeps A B) : Keeps A C := h.trans k
def bn (v : Value) : Nat := match blk v with
  | some b => b + 1
  | none => 0
def elP (v : Value) (esz j off : Nat) : Value := match v with
  | .slice (some ⟨b, o, none⟩) _ _ => ptr b (o + j * esz + off)
  | _ => undef
def nnS (v : Value) : Bool := match v with
  | .slice (some ⟨_, _, none⟩) _ _ => true
  | _ => false
def lenS (v : Value) : Nat := match v with
  | .slice _ n _ => n
  | _ => 0
def isS (v : Value) : Bool := match v with
  | .slice _ _ _ => true
  | _ => false
def rowA (H : AHeap) (esz : Nat) (v : Value) (j : Nat) : Option (List Value) := match v with
  | .slice (some ⟨b, o, none⟩) _ _ => rangeA H b (o + j * esz) esz
  | _ => none
theorem nnS_inv {v : Value} (h : nnS v = true) : ∃ b o n k, v = slc b o n k := by
  unfold nnS at h
  split at h
  · exact ⟨_, _, _, _, rfl⟩
  · cases h
theorem isS_inv {v : Value} (h : isS v = true) : ∃ a n k, v = .slice a n k := by
  unfold isS at h
  split at h
  · exact ⟨_, _, _, rfl⟩
  · cases h
theorem a_lenv {v : Value} (h : isS v = true) : asem (.len false v) H = some (.int .i64 (lenS v), H) := by
  obtain ⟨a, n, k, rfl⟩ := isS_inv h; rfl
theorem a_iaddrv {v : Value} {esz : Nat} {kd : IntKind} {i : Int} (h : nnS v = true) (h1 : 0 ≤ i) (h2 : i < (lenS v : Int)) : asem (.iaddr esz v (.int kd i)) H = some (elP v esz i.toNat 0, H) := by
  obtain ⟨b, o, n, k, rfl⟩ := nnS_inv h
  rw [a_iaddr, if_pos ⟨h1, h2⟩]; rfl
theorem a_faddrv {v : Value} {esz j off d : Nat} (h : nnS v = true) : asem (.faddr d (elP v esz j off)) H = some (elP v esz j (off + d), H) := by
  obtain ⟨b, o, n, k, rfl⟩ := nnS_inv h
  show asem (.faddr d (ptr b (o + j * esz + off))) H = _
  rw [a_faddr, Nat.add_assoc]; rfl
theorem rowA_range {v : Value} {esz j : Nat} {r : List Value} (h : rowA H esz v j = some r) : ∃ b o n k, v = slc b o n k ∧ r.length = esz ∧ ∃ own room z c e, H.get b = some (.cells own room z c e) ∧ o + j * esz + esz ≤ c.length ∧ r = (c.drop (o + j * esz)).take esz := by
  unfold rowA at h
  split at h
  · rename_i b o n k
    refine ⟨b, o, n, k, rfl, ?_⟩
    unfold rangeA at h
    split at h
    · rename_i own room z c e hg
      split at h
      · rename_i hl
        simp only [Option.some.injEq] at h; subst h
        exact ⟨by rw [List.length_take, List.length_drop]; omega, own, room, z, c, e, hg, hl, rfl⟩
      · cases h
    · cases h
  · cases h
theorem a_load1v {v : Value} {esz j off : Nat} {r : List Value} (h : rowA H esz v j = some r) (ho : off < esz) : asem (.load1 (elP v esz j off)) H = r[off]?.map fun x => (x, H) := by
  obtain ⟨b, o, n, k, rfl, h1, own, room, z, c, e, h2, h3, h4⟩ := rowA_range h
  show asem (.load1 (ptr b (o + j * esz + off))) H = _
  rw [a_load1, cellA_of h2, h4, List.getElem?_take_of_lt ho, List.getElem?_drop]
theorem a_loadnv {v : Value} {esz j off n : Nat} {r : List Value} (h : rowA H esz v j = some r) (ho : off + n ≤ esz) : asem (.loadn n (elP v esz j off)) H = some (.agg ((r.drop off).take n).toArray, H) := by
  obtain ⟨b, o, n', k, rfl, h1, own, room, z, c, e, h2, h3, h4⟩ := rowA_range h
  show asem (.loadn n (ptr b (o + j * esz + off))) H = _
  rw [a_loadn, rangeA_of h2, if_pos (by omega), h4, List.drop_take, List.take_take, List.drop_drop, Nat.min_eq_left (by omega)]
  rfl
theorem a_loadnvf {v : Value} {n j : Nat} {r : List Value} (h : rowA H n v j = some r) : asem (.loadn n (elP v n j 0)) H = some (.agg r.toArray, H) := by
  obtain ⟨_, _, _, _, _, hl, _⟩ := rowA_range h
  rw [a_loadnv h (by omega), List.drop_zero, List.take_of_length_le (by omega)]
theorem a_loadnvp {v : Value} {esz j off n : Nat} {r : List Value} (hne : n ≠ esz) (h : rowA H esz v j = some r) (ho : off + n ≤ esz) : asem (.loadn n (elP v esz j off)) H = some (.agg ((r.drop off).take n).toArray, H) := a_loadnv h ho
theorem stD_callv {KF : List Value → AHeap → Prop} {tr : List TE} (g : FuncId) (first cap : Array Value) (xs : List Value) (d : D) (un : List Nat) (r : List (AOper × List Nat)) : stD P ng (.callv (.func (.func g) first cap) xs) d un r fr tm H tr KF = callD P ng g (first.toList ++ xs ++ cap.toList) d un r fr tm H tr KF := _root_.id rfl
theorem reads_el {v : Value} {esz j off : Nat} (h : nnS v = true) : readsA (.load1 (elP v esz j off)) = [bn v - 1] := by
  obtain ⟨b, o, n', k, rfl⟩ := nnS_inv h; rfl
theorem readsn_el {v : Value} {esz j off n : Nat} (h : nnS v = true) : readsA (.loadn n (elP v esz j off)) = [bn v - 1] := by
  obtain ⟨b, o, n', k, rfl⟩ := nnS_inv h; rfl
theorem rowA_get {esz : Nat} {v : Value} {j : Nat} (h : ∀ b, blk v = some b → H'.get b = H.get b) : rowA H' esz v j = rowA H esz v j := by
  unfold rowA
  split
  · rename_i b o n k
    rw [rangeA_e, rangeA_e, h b rfl]
  · rfl
theorem bn_lt {v : Value} {n b : Nat} (h : bn v ≤ n) (e : blk v = some b) : b < n := by
  unfold bn at h; rw [e] at h; exact h
theorem row_alloc {esz : Nat} {v : Value} {j : Nat} (o : AO) (h : bn v ≤ H.n) : rowA (H.alloc o) esz v j = rowA H esz v j := rowA_get fun b e => g_old o (bn_lt h e)
theorem row_set {esz : Nat} {v : Value} {j b : Nat} (o : AO) (h : bn v ≠ b + 1) (hb : b < H.n) : rowA (H.set b o) esz v j = rowA H esz v j := rowA_get fun x e => g_sets o (by intro hx; subst hx; apply h; unfold bn; rw [e]) hb
theorem Keeps.row (k : Keeps H H') {esz : Nat} {v : Value} {j : Nat} (h : bn v ≤ H.n) : rowA H' esz v j = rowA H esz v j := rowA_get fun b e => k.get b (bn_lt h e)
theorem Chg1.row {r : Nat} (k : Chg [r] H H') {esz : Nat} {v : Value} {j : Nat} (h : bn v ≤ H.n) (h2 : bn v ≠ r + 1) : rowA H' esz v j = rowA H esz v j := rowA_get fun b e => Chg1.get k (bn_lt h e) (by intro hx; subst hx; apply h2; unfold bn; rw [e])
structure Sl (H : AHeap) (esz : Nat) (v : Value) (rows : List (List Value)) : Prop where
  sh : ∃ a k, v = .slice a rows.length k
  row : ∀ r ∈ rows, r.length = esz
  el : elemsA H esz v = some rows.flatten
theorem Sl.len {esz : Nat} {v : Value} {rows : List (List Value)} (h : Sl H esz v rows) : lenS v = rows.length := by
  obtain ⟨a, k, rfl⟩ := h.sh; rfl
theorem Sl.is {esz : Nat} {v : Value} {rows : List (List Value)} (h : Sl H esz v rows) : isS v = true := by
  obtain ⟨a, k, rfl⟩ := h.sh; rfl
theorem Sl.one {esz : Nat} {v : Value} {rows : List (List Value)} (h : Sl H esz v rows) : v.oneCell' = true := by
  obtain ⟨a, k, rfl⟩ := h.sh; rfl
theorem Sl.nil (H : AHeap) (esz : Nat) : Sl H esz (.slice none 0 0) [] := ⟨⟨_, _, rfl⟩, by simp, rfl⟩
theorem flat_len {esz : Nat} : ∀ {rows : List (List Value)}, (∀ r ∈ rows, r.length = esz) → rows.flatten.length = rows.length * esz
  | [], _ => by simp
  | r :: rows, h => by
    have h1 := h r (by simp)
    have h2 := flat_len (rows := rows) (fun x hx => h x (by simp [hx]))
    rw [List.flatten_cons, List.length_append, h1, h2, List.length_cons, Nat.add_mul]; omega
theorem flat_at {esz : Nat} : ∀ {rows : List (List Value)}, (∀ r ∈ rows, r.length = esz) → ∀ (i : Nat) (hi : i < rows.length), (rows.flatten.drop (i * esz)).take esz = rows[i]
  | r :: rows, h, 0, _ => by
    have h1 := h r (by simp)
    rw [Nat.zero_mul, List.drop_zero, List.flatten_cons, List.take_append_of_le_length (by omega), List.take_of_length_le (by omega)]; rfl
  | r :: rows, h, i + 1, hi => by
    have h1 := h r (by simp)
    have h2 := flat_at (rows := rows) (fun x hx => h x (by simp [hx])) i (by simpa using hi)
    rw [Nat.add_mul, Nat.one_mul, Nat.add_comm, ← List.drop_drop, List.flatten_cons]
    rw [show (r ++ rows.flatten).drop esz = rows.flatten by rw [← h1, List.drop_left], h2]
    rfl
theorem Sl.at_ {esz : Nat} {v : Value} {rows : List (List Value)} (h : Sl H esz v rows) (hz : 0 < esz) {i : Nat} (hi : i < rows.length) : nnS v = true ∧ rowA H esz v i = some rows[i] := by
  have h2 := h.el
  have hfl := flat_len h.row
  have hpos : 0 < rows.flatten.length := by rw [hfl]; exact Nat.mul_pos (by omega) hz
  obtain ⟨a, k, rfl⟩ := h.sh
  match a, h2 with
  | none, h2 => simp only [elemsA, Option.some.injEq] at h2; rw [← h2] at hpos; simp at hpos
  | some ⟨b, o, some q⟩, h2 =>
    simp only [elemsA] at h2
    rw [if_neg (by omega)] at h2; cases h2
  | some ⟨b, o, none⟩, h2 =>
    refine ⟨rfl, ?_⟩
    simp only [elemsA] at h2
    simp only [rowA, rangeA]
    split at h2
    · rename_i own room z c e hg
      split at h2
      · rename_i hl
        have hm : (i + 1) * esz ≤ rows.length * esz := Nat.mul_le_mul_right esz hi
        rw [Nat.add_mul, Nat.one_mul] at hm
        rw [if_pos (by omega)]
        simp only [Option.some.injEq] at h2
        have := flat_at h.row i hi
        rw [← h2, List.drop_take, List.take_take, List.drop_drop, Nat.min_eq_left (by omega)] at this
        rw [this]
      · cases h2
    · cases h2
theorem Sl.bn_le {esz : Nat} {v : Value} {rows : List (List Value)} (h : Sl H esz v rows) (hr : rows ≠ []) (hz : 0 < esz) : bn v ≤ H.n := by
  have hl : 0 < rows.length := List.length_pos_iff.2 hr
  obtain ⟨h1, h2⟩ := h.at_ hz hl
  obtain ⟨b, o, n, k, rfl, _, own, room, z, c, e, hg, _⟩ := rowA_range h2
  exact AHeap.get_lt hg
theorem Sl.get' {esz : Nat} {v : Value} {rows : List (List Value)} (h : Sl H esz v rows) (k : ∀ b, blk v = some b → b < H.n → H'.get b = H.get b) : Sl H' esz v rows := by
  refine ⟨h.sh, h.row, ?_⟩
  have h2 := h.el
  obtain ⟨a, c, rfl⟩ := h.sh
  match a, h2 with
  | none, h2 => exact h2
  | some ⟨b, o, none⟩, h2 =>
    simp only [elemsA] at h2 ⊢
    cases hg : H.get b with
    | none => rw [hg] at h2; cases h2
    | some ob => rw [k b rfl (AHeap.get_lt hg)]; exact h2
  | some ⟨b, o, some _⟩, h2 => simpa [elemsA] using h2
theorem Sl.keeps {esz : Nat} {v : Value} {rows : List (List Value)} (h : Sl H esz v rows) (k : Keeps H H') : Sl H' esz v rows := h.get' fun b _ hb => k.get b hb
theorem Sl.chg {esz : Nat} {v : Value} {rows : List (List Value)} {S : List Nat} (h : Sl H esz v rows) (k : Chg S H H') (hS : ∀ b, blk v = some b → b ∉ S) : Sl H' esz v rows := h.get' fun b e hb => k.get b hb (hS b e)
theorem BS.sl {v : Value} {l : List UInt8} (h : BS H v l) : Sl H 1 v (l.map fun b => [.int .u8 b.toNat]) := by
  obtain ⟨a, k, e⟩ := h.sh
  refine ⟨⟨a, k, by rw [List.length_map]; exact e⟩, ?_, ?_⟩
  · intro r hr; simp at hr; obtain ⟨b, _, rfl⟩ := hr; rfl
  · rw [h.el]
    congr 1
    clear h e
    induction l with
    | nil => rfl
    | cons b l ih => simp only [List.map_cons, List.flatten_cons, ← ih]; rfl
theorem AP.sl {e esz : Nat} {v : Value} {n : Nat} {rows : List (List Value)} (h : AP H e esz v n rows.flatten) (hr : ∀ r ∈ rows, r.length = esz) (hn : n = rows.length) : Sl H esz v rows := by
  obtain ⟨a, ha⟩ := h.shape
  exact ⟨⟨a, n, by rw [← hn]; exact ha⟩, hr, h.elems⟩
theorem AP.bn {e esz : Nat} {v : Value} {n : Nat} {c : List Value} (h : AP H e esz v n c) : bn v ≤ H.n := by
  unfold Go.AM.bn
  split
  · rename_i b hb; exact h.lt hb
  · omega
section
variable {KF : List Value → AHeap → Prop} {tr : List TE} (d : D) (r : List AOper) (un : List Nat) (rd : List (AOper × List Nat))
theorem st_app (e s b : Nat) (x y : Value) : stR P ng (.app e s b x y) d r fr tm H KF = goR P ng (asem (.app e s b x y) H) d r fr tm KF := st_of d r (by simp) (by simp)
theorem st_apps (e b : Nat) (x y : Value) : stR P ng (.apps e b x y) d r fr tm H KF = goR P ng (asem (.apps e b x y) H) d r fr tm KF := st_of d r (by simp) (by simp)
theorem sd_apps (e b : Nat) (x y : Value) : stD P ng (.apps e b x y) d un rd fr tm H tr KF = goD P ng (.apps e b x y) (asem (.apps e b x y) H) d un rd fr tm H tr KF := stD_of d un rd (by simp) (by simp)
theorem st_iaddrp (s n : Nat) (x i : Value) : stR P ng (.iaddrp s n x i) d r fr tm H KF = goR P ng (asem (.iaddrp s n x i) H) d r fr tm KF := st_of d r (by simp) (by simp)
theorem sd_iaddrp (s n : Nat) (x i : Value) : stD P ng (.iaddrp s n x i) d un rd fr tm H tr KF = goD P ng (.iaddrp s n x i) (asem (.iaddrp s n x i) H) d un rd fr tm H tr KF := stD_of d un rd (by simp) (by simp)
theorem st_idxa (a : Bool) (s n : Nat) (x i : Value) : stR P ng (.idxa a s n x i) d r fr tm H KF = goR P ng (asem (.idxa a s n x i) H) d r fr tm KF := st_of d r (by simp) (by simp)
theorem sd_idxa (a : Bool) (s n : Nat) (x i : Value) : stD P ng (.idxa a s n x i) d un rd fr tm H tr KF = goD P ng (.idxa a s n x i) (asem (.idxa a s n x i) H) d un rd fr tm H tr KF := stD_of d un rd (by simp) (by simp)
theorem st_slarr (s n : Nat) (x : Value) (lo hi mx : Option Value) : stR P ng (.slarr s n x lo hi mx) d r fr tm H KF = goR P ng (asem (.slarr s n x lo hi mx) H) d r fr tm KF := st_of d r (by simp) (by simp)
theorem sd_slarr (s n : Nat) (x : Value) (lo hi mx : Option Value) : stD P ng (.slarr s n x lo hi mx) d un rd fr tm H tr KF = goD P ng (.slarr s n x lo hi mx) (asem (.slarr s n x lo hi mx) H) d un rd fr tm H tr KF := stD_of d un rd (by simp) (by simp)
theorem st_eqs (c : List Nat) (n : Bool) (x y : Value) : stR P ng (.eqs c n x y) d r fr tm H KF = goR P ng (asem (.eqs c n x y) H) d r fr tm KF := st_of d r (by simp) (by simp)
theorem sd_eqs (c : List Nat) (n : Bool) (x y : Value) : stD P ng (.eqs c n x y) d un rd fr tm H tr KF = goD P ng (.eqs c n x y) (asem (.eqs c n x y) H) d un rd fr tm H tr KF := stD_of d un rd (by simp) (by simp)
theorem st_mm (m : Bool) (x y : Value) : stR P ng (.mm m x y) d r fr tm H KF = goR P ng (asem (.mm m x y) H) d r fr tm KF := st_of d r (by simp) (by simp)
theorem sd_mm (m : Bool) (x y : Value) : stD P ng (.mm m x y) d un rd fr tm H tr KF = goD P ng (.mm m x y) (asem (.mm m x y) H) d un rd fr tm H tr KF := stD_of d un rd (by simp) (by simp)
theorem st_i2str (x : Value) : stR P ng (.i2str x) d r fr tm H KF = goR P ng (asem (.i2str x) H) d r fr tm KF := st_of d r (by simp) (by simp)
theorem sd_i2str (x : Value) : stD P ng (.i2str x) d un rd fr tm H tr KF = goD P ng (.i2str x) (asem (.i2str x) H) d un rd fr tm H tr KF := stD_of d un rd (by simp) (by simp)
theorem st_rng (x : Value) : stR P ng (.rng x) d r fr tm H KF = goR P ng (asem (.rng x) H) d r fr tm KF := st_of d r (by simp) (by simp)
theorem st_next (x : Value) : stR P ng (.next x) d r fr tm H KF = goR P ng (asem (.next x) H) d r fr tm KF := st_of d r (by simp) (by simp)
theorem st_copy (e : Nat) (x y : Value) : stR P ng (.copy e x y) d r fr tm H KF = goR P ng (asem (.copy e x y) H) d r fr tm KF := st_of d r (by simp) (by simp)
theorem sd_copy (e : Nat) (x y : Value) : stD P ng (.copy e x y) d un rd fr tm H tr KF = goD P ng (.copy e x y) (asem (.copy e x y) H) d un rd fr tm H tr KF := stD_of d un rd (by simp) (by simp)
theorem st_clr (e : Nat) (z : List Value) (x : Value) : stR P ng (.clr e z x) d r fr tm H KF = goR P ng (asem (.clr e z x) H) d r fr tm KF := st_of d r (by simp) (by simp)
end
theorem a_mm (m : Bool) (k : IntKind) (a b : Int) : asem (.mm m (.int k a) (.int k b)) H = some (.int k (if m then (if b > a then b else a) else (if b < a then b else a)), H) := by
  simp [asem]
theorem a_mmx (k : IntKind) (a b : Int) : asem (.mm true (.int k a) (.int k b)) H = some (.int k (max a b), H) := by
  rw [a_mm]; simp only [if_true]; congr 3; split <;> omega
theorem a_mmn (k : IntKind) (a b : Int) : asem (.mm false (.int k a) (.int k b)) H = some (.int k (min a b), H) := by
  rw [a_mm]; simp only [Bool.false_eq_true, if_false]; congr 3; split <;> omega
theorem a_iaddrp (esz n b o : Nat) (kd : IntKind) (i : Int) : asem (.iaddrp esz n (ptr b o) (.int kd i)) H = if 0 ≤ i ∧ i < (n : Int) then some (ptr b (o + i.toNat * esz), H) else none := _root_.id rfl
theorem a_bslicee (e esz n : Nat) (z : List Value) (ps : List (Nat × Nat × Value)) : asem (.bslice e esz n z ps) H = (fillA z ps).bind fun c => if c.all Value.oneCell' = true ∧ c.length = n * esz then some (slc H.n 0 n n, H.alloc (.cells true false esz c e)) else none := by
  simp only [asem]; cases fillA z ps <;> rfl
theorem cells_int (k : IntKind) (n : Int) : (Value.int k n).cells.toList = [.int k n] := _root_.id rfl
theorem cells_bool (n : Bool) : (Value.bool n).cells.toList = [.bool n] := _root_.id rfl
theorem cells_str (n : ByteArray) : (Value.string n).cells.toList = [.string n] := _root_.id rfl
theorem cells_sl (a : Option Addr) (n k : Nat) : (Value.slice a n k).cells.toList = [.slice a n k] := _root_.id rfl
theorem cells_slc (b o n k : Nat) : (slc b o n k).cells.toList = [slc b o n k] := _root_.id rfl
theorem cells_ptr (b o : Nat) : (ptr b o).cells.toList = [ptr b o] := _root_.id rfl
theorem cells_pn (a : Option Addr) : (Value.pointer a).cells.toList = [.pointer a] := _root_.id rfl
theorem one_isS {v : Value} (h : isS v = true) : v.oneCell' = true := by obtain ⟨a, n, k, rfl⟩ := isS_inv h; rfl
theorem resC (i n : Nat) (fr : List Value) : resO [.cn n i] fr H = (celln n (fr.getD i undef) H) := by
  simp only [resO, resVs, RX.get]
  cases celln n (fr.getD i undef) H <;> rfl
theorem cellnp (n b o : Nat) : celln n (ptr b o) H = (rangeA H b o n).map fun c => .agg c.toArray := _root_.id rfl
theorem cell1p (b o : Nat) : cell1 (ptr b o) H = cellA H b o := _root_.id rfl
theorem touch_load1 (b o : Nat) (H : AHeap) : touchA (.load1 (ptr b o)) H = [b] := _root_.id rfl
theorem touch_loadn (n b o : Nat) (H : AHeap) : touchA (.loadn n (ptr b o)) H = [b] := _root_.id rfl
theorem touch_load1v {v : Value} {esz j off : Nat} (h : nnS v = true) (H : AHeap) : touchA (.load1 (elP v esz j off)) H = [bn v - 1] := by
  show readsA _ = _; exact reads_el h
theorem touch_loadnv {v : Value} {esz j off n : Nat} (h : nnS v = true) (H : AHeap) : touchA (.loadn n (elP v esz j off)) H = [bn v - 1] := by
  show readsA _ = _; exact readsn_el h
theorem keepsB_n (A B : AHeap) : keepsB [] A B = True := _root_.id rfl
theorem keepsB_c (b : Nat) (l : List Nat) (A B : AHeap) : keepsB (b :: l) A B = (B.get b = A.get b ∧ keepsB l A B) := _root_.id rfl
theorem olderB_n (A : AHeap) : olderB [] A = True := _root_.id rfl
theorem olderB_c (b : Nat) (l : List Nat) (A : AHeap) : olderB (b :: l) A = (b < A.n ∧ olderB l A) := _root_.id rfl
def ob1 (k : Nat) (bs : List Nat) (A B : AHeap) (x : Option TE) : Prop := match x with
  | some t => if k = 1 ∧ t.k = 3 then olderB bs t.H ∧ keepsB bs t.H t.H' else if k = 3 ∧ (t.k = 1 ∨ t.k = 2) then keepsB t.bs A B else True
  | none => True
theorem obl_c (k : Nat) (bs : List Nat) (A B : AHeap) (tr : List TE) (i : Nat) (un : List Nat) : oblA k bs A B tr (i :: un) = (ob1 k bs A B tr[i]? ∧ oblA k bs A B tr un) := _root_.id rfl
theorem ob1_0 (bs : List Nat) (A B : AHeap) (x : Option TE) : ob1 0 bs A B x = True := by unfold ob1; split <;> simp
theorem ob1_2 (bs : List Nat) (A B : AHeap) (x : Option TE) : ob1 2 bs A B x = True := by unfold ob1; split <;> simp
theorem ob1_s (k : Nat) (bs : List Nat) (A B : AHeap) (j : Nat) (cs : List Nat) (C D : AHeap) : ob1 k bs A B (some ⟨j, cs, C, D⟩) = if k = 1 ∧ j = 3 then olderB bs C ∧ keepsB bs C D else if k = 3 ∧ (j = 1 ∨ j = 2) then keepsB cs A B else True := _root_.id rfl
end
set_option linter.defProp false in
def A3s := (And.intro (And.intro (And.intro (And.intro (And.intro (And.intro @cellA_e @rangeA_e) (And.intro @cellO_c (And.intro @rng_full @rng_part))) (And.intro (And.intro @a_store1e (And.intro @a_storene @st1O_c)) (And.intro @stn_full (And.intro @stn_part @a_load1v)))) (And.intro (And.intro (And.intro @a_loadnvf (And.intro @a_loadnvp @stD_callv)) (And.intro @cells_agg (And.intro @toList_arr @size_arr))) (And.intro (And.intro @g_new (And.intro @g_old @g_set)) (And.intro @g_sets (And.intro @set_new @set_old))))) (And.intro (And.intro (And.intro (And.intro @set_set @alloc_n) (And.intro @set_n (And.intro @lt_yes @le_yes))) (And.intro (And.intro @eqn_yes (And.intro @lti_yes @lei_yes)) (And.intro @lti_no (And.intro @lei_no @beqi_no)))) (And.intro (And.intro (And.intro @beqi_yes (And.intro @bnei_no @bnei_yes)) (And.intro @boolIs_t (And.intro @boolIs_f @a_lenv))) (And.intro (And.intro @a_iaddrv (And.intro @a_faddrv @row_alloc)) (And.intro @row_set (And.intro @st_app @st_apps)))))) (And.intro (And.intro (And.intro (And.intro (And.intro @sd_apps @sd_app) (And.intro @st_iaddrp (And.intro @sd_iaddrp @st_idxa))) (And.intro (And.intro @sd_idxa (And.intro @st_slarr @sd_slarr)) (And.intro @st_eqs (And.intro @sd_eqs @st_mm)))) (And.intro (And.intro (And.intro @sd_mm (And.intro @st_i2str @sd_i2str)) (And.intro @st_rng (And.intro @st_next @st_copy))) (And.intro (And.intro @sd_copy (And.intro @st_clr @a_mmx)) (And.intro @a_mmn (And.intro @a_iaddrp @a_bslicee))))) (And.intro (And.intro (And.intro (And.intro @cells_int (And.intro @cells_bool @cells_str)) (And.intro @cells_sl (And.intro @cells_slc @cells_ptr))) (And.intro (And.intro @cells_pn (And.intro @touch_load1 @touch_loadn)) (And.intro @touch_load1v (And.intro @touch_loadnv @keepsB_n)))) (And.intro (And.intro (And.intro @keepsB_c (And.intro @olderB_n @olderB_c)) (And.intro @obl_nil (And.intro @obl_c @ob1_0))) (And.intro (And.intro @ob1_2 (And.intro @ob1_s @bi_u)) (And.intro @resC (And.intro @cellnp @cell1p)))))))
set_option linter.defProp false in
def A3c := (And.intro (And.intro (And.intro (And.intro @List.append_nil.{0} @List.nil_append.{0}) (And.intro @List.cons_append.{0} @decide_true)) (And.intro (And.intro @decide_false @List.drop_zero.{0}) (And.intro @Option.bind_some.{0,0} @List.toList_toArray.{0}))) (And.intro (And.intro (And.intro @implies_true.{1} @implies_true.{0}) (And.intro @not_true_eq_false @not_false_eq_true)) (And.intro (And.intro @and_false @Int.toNat_zero) (And.intro @bne_self_eq_false.{0} @Bool.not_not))))
set_option linter.defProp false in
def LN := And.intro @List.length_cons.{0} (And.intro @List.length_nil.{0} (And.intro @alloc_n @set_n))
set_option linter.defProp false in
def P3 := And.intro ANs (And.intro A3s (And.intro ANc (And.intro A3c (And.intro (And.intro (And.intro (And.intro (And.intro @AOp.map.eq_1 (And.intro @AOp.map.eq_2 @AOp.map.eq_3)) (And.intro @AOp.map.eq_4 (And.intro @AOp.map.eq_5 @AOp.map.eq_6))) (And.intro (And.intro @AOp.map.eq_7 (And.intro @AOp.map.eq_8 @AOp.map.eq_9)) (And.intro (And.intro @AOp.map.eq_10 @AOp.map.eq_11) (And.intro @AOp.map.eq_12 @AOp.map.eq_13)))) (And.intro (And.intro (And.intro @AOp.map.eq_14 (And.intro @AOp.map.eq_15 @AOp.map.eq_16)) (And.intro @AOp.map.eq_17 (And.intro @AOp.map.eq_18 @AOp.map.eq_19))) (And.intro (And.intro @AOp.map.eq_20 (And.intro @AOp.map.eq_21 @AOp.map.eq_22)) (And.intro (And.intro @AOp.map.eq_23 @AOp.map.eq_24) (And.intro @AOp.map.eq_25 @AOp.map.eq_26))))) (And.intro (And.intro (And.intro (And.intro @AOp.map.eq_27 (And.intro @AOp.map.eq_28 @AOp.map.eq_29)) (And.intro @AOp.map.eq_30 (And.intro @AOp.map.eq_31 @AOp.map.eq_32))) (And.intro (And.intro @AOp.map.eq_33 (And.intro @AOp.map.eq_34 @AOp.map.eq_35)) (And.intro (And.intro @AOp.map.eq_36 @AOp.map.eq_37) (And.intro @AOp.map.eq_38 @AOp.map.eq_39)))) (And.intro (And.intro (And.intro @AOp.map.eq_40 (And.intro @AOp.map.eq_41 @AOp.map.eq_42)) (And.intro (And.intro @AOp.map.eq_43 @AOp.map.eq_44) (And.intro @AOp.map.eq_45 @AOp.map.eq_46))) (And.intro (And.intro @AOp.map.eq_47 (And.intro @List.take_nil.{0} @List.take_zero.{0})) (And.intro (And.intro @List.take_succ_cons.{0} @List.drop_nil.{0}) (And.intro @List.drop_zero.{0} @List.drop_succ_cons.{0})))))))))
end Go.AM

set_option linter.unusedSimpArgs false
set_option linter.unusedVariables false
namespace Go.AM
structure Th where
  P : AHeap → Prop
  F : List Nat
  lt : ∀ H, P H → ∀ b ∈ F, b < H.n
  st : ∀ H H', P H → H.n ≤ H'.n → (∀ b ∈ F, H'.get b = H.get b) → P H'
def Apart (a b : Th) : Prop := ∀ x ∈ a.F, x ∉ b.F
theorem Apart.symm {a b : Th} (h : Apart a b) : Apart b a := fun x h1 h2 => h x h2 h1
structure Sep (H : AHeap) (ts : List Th) : Prop where
  all : ∀ t ∈ ts, t.P H
  ap : ts.Pairwise Apart
theorem Sep.nil (H : AHeap) : Sep H [] := ⟨by simp, .nil⟩
theorem Sep.get {H : AHeap} {ts : List Th} (h : Sep H ts) (i : Nat) {t : Th} (hi : ts[i]? = some t) : t.P H := h.all t (List.mem_of_getElem? hi)
theorem Sep.keeps {H H' : AHeap} {ts : List Th} (h : Sep H ts) (k : Keeps H H') : Sep H' ts :=
  ⟨fun t ht => t.st H H' (h.all t ht) k.n (fun b hb => k.get b (t.lt H (h.all t ht) b hb)), h.ap⟩
theorem Sep.upd {H H' : AHeap} {t t' : Th} {r : List Th} : ∀ {l : List Th}, Sep H (l ++ t :: r) → Chg t.F H H' → t'.P H' → (∀ b ∈ t'.F, b ∈ t.F ∨ H.n ≤ b) → Sep H' (l ++ t' :: r) := by
  intro l h c hp hf
  have key : ∀ x, x.P H → Apart t x → Apart t' x := fun x hx ha b hb hbx => by
    rcases hf b hb with h1 | h1
    · exact ha b h1 hbx
    · have := x.lt H hx b hbx; omega
  have stay : ∀ x, x.P H → Apart t x → x.P H' := fun x hx ha => x.st H H' hx c.n (fun b hb => c.get b (x.lt H hx b hb) (fun hbt => ha b hbt hb))
  have h1 := List.pairwise_append.1 h.ap
  obtain ⟨a1, a2, a3⟩ := h1
  have a4 := List.pairwise_cons.1 a2
  refine ⟨?_, List.pairwise_append.2 ⟨a1, List.pairwise_cons.2 ⟨fun x hx => key x (h.all x (by simp [hx])) (a4.1 x hx), a4.2⟩, ?_⟩⟩
  · intro x hx
    rcases List.mem_append.1 hx with hx | hx
    · exact stay x (h.all x (by simp [hx])) (a3 x hx t (by simp)).symm
    · rcases List.mem_cons.1 hx with rfl | hx
      · exact hp
      · exact stay x (h.all x (by simp [hx])) (a4.1 x hx)
  · intro x hx y hy
    rcases List.mem_cons.1 hy with rfl | hy
    · exact (key x (h.all x (by simp [hx])) (a3 x hx t (by simp)).symm).symm
    · exact a3 x hx y (by simp [hy])
theorem Sep.apart {H : AHeap} {ts : List Th} (h : Sep H ts) (i j : Nat) (hij : i < j) {a b : Th} (hi : ts[i]? = some a) (hj : ts[j]? = some b) : Apart a b := by
  obtain ⟨h1, rfl⟩ := List.getElem?_eq_some_iff.1 hi
  obtain ⟨h2, rfl⟩ := List.getElem?_eq_some_iff.1 hj
  exact List.pairwise_iff_getElem.1 h.ap i j h1 h2 hij
theorem Sep.add {H H' : AHeap} {t : Th} {ts : List Th} (h : Sep H ts) (k : Keeps H H') (hp : t.P H') (hf : ∀ b ∈ t.F, H.n ≤ b) : Sep H' (t :: ts) :=
  ⟨fun x hx => by
    rcases List.mem_cons.1 hx with rfl | hx
    · exact hp
    · exact (h.keeps k).all x hx, List.pairwise_cons.2 ⟨fun x hx b hb hbx => by have := x.lt H (h.all x hx) b hbx; have := hf b hb; omega, h.ap⟩⟩
theorem Sep.perm {H : AHeap} {ts us : List Th} (h : Sep H ts) (p : ts.Perm us) : Sep H us :=
  ⟨fun t ht => h.all t (p.mem_iff.2 ht), p.pairwise_iff (fun {a b} hab => hab.symm) |>.1 h.ap⟩
def thB (b : Nat) (o : AO) : Th where
  P H := H.get b = some o
  F := [b]
  lt H h x hx := by simp at hx; subst hx; exact AHeap.get_lt h
  st H H' h _ k := by rw [k b (by simp)]; exact h
theorem Sep.box {H : AHeap} {ts : List Th} (h : Sep H ts) (o : AO) : Sep (H.alloc o) (thB H.n o :: ts) :=
  h.add ((Keeps.refl H).alloc o) (AHeap.get_alloc_new H o) (by simp [thB])
section
variable {P : Program} {ng : Nat} {H : AHeap} {KF : List Value → AHeap → Prop} {fr tm : List Value} {tr : List TE} {Q : AQ}
theorem appG {d : D} {r : List AOper} {e esz bytes : Nat} {s x : Value} {n m : Nat} {c news : List Value} (h : AP H e esz s n c) (hx : ∃ a k, x = .slice a m k) (h1 : elemsA H esz x = some news) (hm : news.length = m * esz)
    (hs : (n + m) * bytes ≤ 140737488355328 ∧ n + m ≤ 140737488355328)
    (hk : ∀ v' H', AP H' e esz v' (n + m) (c ++ news) → Chg (blkL s) H H' → (blk v' = blk s ∨ blk v' = some H.n) → RW P ng r (d.frame v' fr) (d.temps v' tm) H' KF) : goR P ng (asem (.app e esz bytes s x) H) d r fr tm KF := by
  rw [← st_app]; exact appR h hx h1 hm hs hk
theorem appGD {d : D} {r : List (AOper × List Nat)} {e esz bytes : Nat} {s x : Value} {n m : Nat} {c news : List Value} (h : AP H e esz s n c) (hx : ∃ a k, x = .slice a m k) (h1 : elemsA H esz x = some news) (hm : news.length = m * esz)
    (hs : (n + m) * bytes ≤ 140737488355328 ∧ n + m ≤ 140737488355328)
    (hk : ∀ v' H', AP H' e esz v' (n + m) (c ++ news) → Chg (blkL s) H H' → (blk v' = blk s ∨ blk v' = some H.n) → RD P ng r (d.frame v' fr) (d.temps v' tm) H' (tr ++ [⟨3, [], H, H'⟩]) KF) : goD P ng (.app e esz bytes s x) (asem (.app e esz bytes s x) H) d [] r fr tm H tr KF := by
  obtain ⟨v', H', e1, e2, e3, e4⟩ := h.app (bytes := bytes) hm hs
  obtain ⟨a, k, rfl⟩ := hx
  exact ⟨v', H', by simp only [asem, h1]; exact e1, trivial, hk v' H' e2 e3 e4⟩
theorem W_mid {c : ACode} {K : List Value → AHeap → Prop} (M : List Value → AHeap → Prop)
    (h1 : ∀ Q' : AQ, (∀ fr H, M fr H → Q' .normal fr H) → (∀ i fr H, Q (.exit i) fr H → Q' (.exit i) fr H) → (∀ fr H, Q .ret fr H → Q' .ret fr H) → W P ng c Q' fr H)
    (h2 : ∀ fr H, M fr H → K fr H) : W P ng c (Q.andThen K) fr H :=
  h1 _ (fun fr H h => h2 fr H h) (fun _ _ _ h => h) (fun _ _ h => h)
end
theorem elems_new {H : AHeap} {own room : Bool} {esz e n : Nat} {c : List Value} {b : Nat} (hb : b = H.n) (h : c.length = n * esz) : elemsA (H.alloc (.cells own room esz c e)) esz (slc b 0 n n) = some c := by
  subst hb; exact elems_own (AHeap.get_alloc_new H _) h
theorem b_remn {kd : IntKind} {n m : Nat} (h : 0 < m) : binA .rem (.int kd (n : Int)) (.int kd (m : Int)) = some (.int kd ((n % m : Nat) : Int)) := by
  simp only [binA, if_true, intA]
  rw [if_neg (by omega)]
  rfl
theorem b_rem8 {kd : IntKind} (n : Nat) : binA .rem (.int kd (n : Int)) (.int kd 8) = some (.int kd ((n % 8 : Nat) : Int)) := b_remn (m := 8) (by omega)
def chunks (esz : Nat) : Nat → List Value → List (List Value)
  | 0, _ => []
  | n + 1, c => c.take esz :: chunks esz n (c.drop esz)
theorem chunks_len (esz : Nat) : ∀ (n : Nat) (c : List Value), (chunks esz n c).length = n
  | 0, _ => rfl
  | n + 1, c => by simp [chunks, chunks_len esz n]
theorem chunks_flat (esz : Nat) : ∀ (n : Nat) (c : List Value), (chunks esz n c).flatten = c.take (n * esz)
  | 0, _ => by simp [chunks]
  | n + 1, c => by
    rw [chunks, List.flatten_cons, chunks_flat esz n, Nat.add_mul, Nat.one_mul, Nat.add_comm (n * esz) esz, List.take_add]
theorem chunks_mem (esz : Nat) : ∀ (n : Nat) (c : List Value) (r : List Value), r ∈ chunks esz n c → ∃ i, i < n ∧ r = (c.drop (i * esz)).take esz
  | n + 1, c, r, h => by
    simp only [chunks, List.mem_cons] at h
    rcases h with rfl | h
    · exact ⟨0, by omega, by simp⟩
    · obtain ⟨i, hi, rfl⟩ := chunks_mem esz n _ r h
      exact ⟨i + 1, by omega, by rw [List.drop_drop, Nat.add_mul, Nat.one_mul, Nat.add_comm]⟩
theorem AR.rows {P : Program} {t e esz : Nat} {H : AHeap} {v : Value} (hu : P.underlying t = some (.slice e)) (hz : P.cellsOf e = esz) (h : AR P H.get t [v]) : ∃ rows, Sl H esz v rows ∧ ∀ r ∈ rows, AR P H.get e r := by
  subst hz
  rcases h.slice_inv hu with h2 | ⟨x, hx, h2⟩ | ⟨b, n, k, c, u, h2, h3, h4, h5, h6, h7, h8⟩
  · cases h2; exact ⟨[], Sl.nil _ _, by simp⟩
  · cases h2
    refine ⟨[], ⟨⟨_, _, rfl⟩, by simp, ?_⟩, by simp⟩
    obtain ⟨b, o, s⟩ := x
    cases s with
    | none => simp at hx
    | some s => simp [elemsA]
  · cases h2
    have hnk : n * P.cellsOf e ≤ c.length := by rw [h7]; exact Nat.mul_le_mul_right _ h4
    refine ⟨chunks (P.cellsOf e) n c, ⟨⟨_, k, by rw [chunks_len]; rfl⟩, ?_, ?_⟩, ?_⟩
    · intro r hr
      obtain ⟨i, hi, rfl⟩ := chunks_mem _ _ _ _ hr
      have : (i + 1) * P.cellsOf e ≤ n * P.cellsOf e := Nat.mul_le_mul_right _ hi
      rw [Nat.add_mul, Nat.one_mul] at this
      rw [List.length_take, List.length_drop]; omega
    · rw [chunks_flat]
      simp only [elemsA, slc, h6]
      rw [if_pos (by omega), List.drop_zero]
    · intro r hr
      obtain ⟨i, hi, rfl⟩ := chunks_mem _ _ _ _ hr
      exact h8 i (by omega)
theorem AV.rows {P : Program} {t e esz : Nat} {H : AHeap} {v : Value} (hu : P.underlying t = some (.slice e)) (hz : P.cellsOf e = esz) (h : AV P H.get t v) : ∃ rows, Sl H esz v rows ∧ ∀ r ∈ rows, AR P H.get e r := by
  have h1 := h.one (by unfold isAggT; rw [hu]; rfl)
  have := h.1
  rw [h1] at this
  exact this.rows hu hz
end Go.AM

set_option linter.unusedSimpArgs false
set_option linter.unusedVariables false
namespace Go.AM.Fd
open Nat (reduceAdd reduceEqDiff reduceLT reduceLeDiff reduceMul reduceSub)
open Go.Proofs Go.AM.F
def be : Nat → Nat → List UInt8
  | 0, _ => []
  | w + 1, n => UInt8.ofNat (n / 256 ^ w) :: be w n
theorem be_length : ∀ w n, (be w n).length = w
  | 0, _ => rfl
  | w + 1, n => by simp [be, be_length w n]
theorem pow8 (i : Nat) : (2 : Nat) ^ (8 * i) = 256 ^ i := by rw [Nat.pow_mul]
theorem byte_cell (n i : Nat) : (((n : Int).fdiv (2 ^ (8 * i))) % 256 : Int) = ((UInt8.ofNat (n / 256 ^ i)).toNat : Int) := by
  have h1 : ((2 : Int) ^ (8 * i)) = ((256 ^ i : Nat) : Int) := by rw [← pow8]; push_cast; rfl
  rw [h1, Int.fdiv_eq_ediv_of_nonneg _ (Int.natCast_nonneg _)]
  simp only [UInt8.toNat_ofNat']
  omega
theorem t106 (n w : Nat) (hw : w ≤ 8) (H : AHeap) : ∃ v H', ARun Go.Proofs.Try.prog 0 106 [.int .u64 n, .int .i64 w] H v H' ∧
    AP H' 5 1 v w (cellsOf (be w n)) ∧ Keeps H H' ∧ Fresh H.n v := by
  refine walk f106_ok f106_n ?_
  simp only [f106, initFr, ↓reduceIte, RD_nil, RD_cons, RD_consg, W_dreg, obl_nil, Nat.reduceAdd, Nat.add_zero, Nat.zero_add, Nat.mul_one, Int.toNat_natCast, W_skip, W_reg, W_seq, W_cond, W_block, W_exit, W_ret, getD_nil', RW_nil, RW_cons, RW_consg, AOp.map, AX_fr, AX_tm, AX_c, AX_fn, AX_g, D_no, D_no', D_tm, D_tm', D_fr, D_fr', List.getD_cons_zero, List.getD_cons_succ, List.set_cons_zero, List.set_cons_succ, List.map_cons, List.map_nil, Option.map_some, Option.map_none, wantA, beq_self_eq_true, if_true, Bool.false_eq_true, if_false, Bool.not_true, Bool.not_false, s_mov, s_pick, s_new, s_box, s_build, s_bslice, s_load1, s_loadn, s_nilck, s_bin, s_eqv, s_not, s_neg, s_i2i, s_s2s, s_s2b, s_iface, s_mkfn, s_faddr, s_fld1, s_iaddr, s_idxs, s_assert, s_extract, s_len, s_lens, s_lenc, s_callf, resO0, resO1, resO2, resO3, List.getElem?_cons_zero, List.getElem?_cons_succ, Nat.reduceEqDiff, true_and, and_true, false_and, e_sn, e_ss, e_pn, e_ps, e_bb, fill0, fill1, b_add, b_sub, b_mul, b_eql, b_neq, b_lss, b_leq, b_gtr, b_geq, b_and, b_or, b_xor, b_seql, b_sneq, b_slss, AQ.andThen, AQ.inBlock, Option.some.injEq, exists_eq_left', exists_eq_left, reduceCtorEq, Exit.exit.injEq]
  rw [wrap_i64 (by omega) (by omega)]
  refine W_loop (fun k fr H1 => ∃ (i : Int) (x v : Value) (l : List UInt8), fr = [.int .u64 n, .int .i64 w, .slice none 0 0, v, .int .i64 i, x] ∧ -1 ≤ i ∧ i < w ∧ k = (i + 1).toNat ∧
    l ++ be (i + 1).toNat n = be w n ∧ AP H1 5 1 v l.length (cellsOf l) ∧ Keeps H H1 ∧ Fresh H.n v) (w) ?_ ?_
  · refine ⟨_, undef, _, [], rfl, by omega, by omega, by omega, ?_, .inl ⟨rfl, rfl, rfl⟩, Keeps.refl H, fun b hb => by cases hb⟩
    simp [show ((w : Int) - 1 + 1).toNat = w by omega]
  · rintro k fr H1 ⟨i, x, v, l, rfl, h1, h2, rfl, h3, h4, h5, h6⟩
    simp only [↓reduceIte, RD_nil, RD_cons, RD_consg, W_dreg, obl_nil, Nat.reduceAdd, Nat.add_zero, Nat.zero_add, Nat.mul_one, Int.toNat_natCast, W_skip, W_reg, W_seq, W_cond, W_block, W_exit, W_ret, getD_nil', RW_nil, RW_cons, RW_consg, AOp.map, AX_fr, AX_tm, AX_c, AX_fn, AX_g, D_no, D_no', D_tm, D_tm', D_fr, D_fr', List.getD_cons_zero, List.getD_cons_succ, List.set_cons_zero, List.set_cons_succ, List.map_cons, List.map_nil, Option.map_some, Option.map_none, wantA, beq_self_eq_true, if_true, Bool.false_eq_true, if_false, Bool.not_true, Bool.not_false, s_mov, s_pick, s_new, s_box, s_build, s_bslice, s_load1, s_loadn, s_nilck, s_bin, s_eqv, s_not, s_neg, s_i2i, s_s2s, s_s2b, s_iface, s_mkfn, s_faddr, s_fld1, s_iaddr, s_idxs, s_assert, s_extract, s_len, s_lens, s_lenc, s_callf, resO0, resO1, resO2, resO3, List.getElem?_cons_zero, List.getElem?_cons_succ, Nat.reduceEqDiff, true_and, and_true, false_and, e_sn, e_ss, e_pn, e_ps, e_bb, fill0, fill1, b_add, b_sub, b_mul, b_eql, b_neq, b_lss, b_leq, b_gtr, b_geq, b_and, b_or, b_xor, b_seql, b_sneq, b_slss, AQ.andThen, AQ.inBlock, Option.some.injEq, exists_eq_left', exists_eq_left, reduceCtorEq, Exit.exit.injEq]
    by_cases hi : 0 ≤ i
    · simp only [hi, decide_true, ↓reduceIte, RD_nil, RD_cons, RD_consg, W_dreg, obl_nil, Nat.reduceAdd, Nat.add_zero, Nat.zero_add, Nat.mul_one, Int.toNat_natCast, W_skip, W_reg, W_seq, W_cond, W_block, W_exit, W_ret, getD_nil', RW_nil, RW_cons, RW_consg, AOp.map, AX_fr, AX_tm, AX_c, AX_fn, AX_g, D_no, D_no', D_tm, D_tm', D_fr, D_fr', List.getD_cons_zero, List.getD_cons_succ, List.set_cons_zero, List.set_cons_succ, List.map_cons, List.map_nil, Option.map_some, Option.map_none, wantA, beq_self_eq_true, if_true, Bool.false_eq_true, if_false, Bool.not_true, Bool.not_false, s_mov, s_pick, s_new, s_box, s_build, s_bslice, s_load1, s_loadn, s_nilck, s_bin, s_eqv, s_not, s_neg, s_i2i, s_s2s, s_s2b, s_iface, s_mkfn, s_faddr, s_fld1, s_iaddr, s_idxs, s_assert, s_extract, s_len, s_lens, s_lenc, s_callf, resO0, resO1, resO2, resO3, List.getElem?_cons_zero, List.getElem?_cons_succ, Nat.reduceEqDiff, true_and, and_true, false_and, e_sn, e_ss, e_pn, e_ps, e_bb, fill0, fill1, b_add, b_sub, b_mul, b_eql, b_neq, b_lss, b_leq, b_gtr, b_geq, b_and, b_or, b_xor, b_seql, b_sneq, b_slss, AQ.andThen, AQ.inBlock, Option.some.injEq, exists_eq_left', exists_eq_left, reduceCtorEq, Exit.exit.injEq]
      rw [wrap_i64 (by omega) (by omega)]
      obtain ⟨j, rfl⟩ : ∃ j : Nat, i = j := ⟨i.toNat, by omega⟩
      simp only [b_shr _ _ _ _ (show (0 : Int) ≤ 8 * (j : Int) by omega), fill1, ↓reduceIte, RD_nil, RD_cons, RD_consg, W_dreg, obl_nil, Nat.reduceAdd, Nat.add_zero, Nat.zero_add, Nat.mul_one, Int.toNat_natCast, W_skip, W_reg, W_seq, W_cond, W_block, W_exit, W_ret, getD_nil', RW_nil, RW_cons, RW_consg, AOp.map, AX_fr, AX_tm, AX_c, AX_fn, AX_g, D_no, D_no', D_tm, D_tm', D_fr, D_fr', List.getD_cons_zero, List.getD_cons_succ, List.set_cons_zero, List.set_cons_succ, List.map_cons, List.map_nil, Option.map_some, Option.map_none, wantA, beq_self_eq_true, if_true, Bool.false_eq_true, if_false, Bool.not_true, Bool.not_false, s_mov, s_pick, s_new, s_box, s_build, s_bslice, s_load1, s_loadn, s_nilck, s_bin, s_eqv, s_not, s_neg, s_i2i, s_s2s, s_s2b, s_iface, s_mkfn, s_faddr, s_fld1, s_iaddr, s_idxs, s_assert, s_extract, s_len, s_lens, s_lenc, s_callf, resO0, resO1, resO2, resO3, List.getElem?_cons_zero, List.getElem?_cons_succ, Nat.reduceEqDiff, true_and, and_true, false_and, e_sn, e_ss, e_pn, e_ps, e_bb, fill0, fill1, b_add, b_sub, b_mul, b_eql, b_neq, b_lss, b_leq, b_gtr, b_geq, b_and, b_or, b_xor, b_seql, b_sneq, b_slss, AQ.andThen, AQ.inBlock, Option.some.injEq, exists_eq_left', exists_eq_left, reduceCtorEq, Exit.exit.injEq]
      have hmin : min (8 * (j : Int)).toNat IntKind.u64.bits = 8 * j := by simp only [IntKind.bits]; omega
      rw [hmin, wrap_u8, byte_cell]
      have hj : ((j : Int) + 1).toNat = j + 1 := by omega
      rw [hj] at h3
      have hlen : l.length + (j + 1) = w := by
        have := congrArg List.length h3
        simpa [be_length] using this
      refine ⟨⟨rfl, rfl⟩, s_appAP (h4.keeps ((Keeps.refl H1).alloc _)) ⟨_, _, rfl⟩ (elems_own (AHeap.get_alloc_new H1 _) rfl) rfl (by omega) ?_⟩
      intro v' H' k1 k2 k3
      have hk := (h5.alloc _).chg_trans k2 (Fresh.L h6)
      refine ⟨j, by omega, j - 1, .bool true, v', l ++ [UInt8.ofNat (n / 256 ^ j)], ?_, by omega, by omega, by omega, ?_, ?_, hk, h6.app (by rw [alloc_n]; have := h5.n; omega) k3⟩
      · rw [wrap_i64 (by omega) (by omega)]
      · rw [show ((j : Int) - 1 + 1).toNat = j by omega, ← h3]
        simp [be]
      · rw [cellsOf_append, List.length_append]
        exact k1
    · simp only [hi, decide_false, ↓reduceIte, RD_nil, RD_cons, RD_consg, W_dreg, obl_nil, Nat.reduceAdd, Nat.add_zero, Nat.zero_add, Nat.mul_one, Int.toNat_natCast, W_skip, W_reg, W_seq, W_cond, W_block, W_exit, W_ret, getD_nil', RW_nil, RW_cons, RW_consg, AOp.map, AX_fr, AX_tm, AX_c, AX_fn, AX_g, D_no, D_no', D_tm, D_tm', D_fr, D_fr', List.getD_cons_zero, List.getD_cons_succ, List.set_cons_zero, List.set_cons_succ, List.map_cons, List.map_nil, Option.map_some, Option.map_none, wantA, beq_self_eq_true, if_true, Bool.false_eq_true, if_false, Bool.not_true, Bool.not_false, s_mov, s_pick, s_new, s_box, s_build, s_bslice, s_load1, s_loadn, s_nilck, s_bin, s_eqv, s_not, s_neg, s_i2i, s_s2s, s_s2b, s_iface, s_mkfn, s_faddr, s_fld1, s_iaddr, s_idxs, s_assert, s_extract, s_len, s_lens, s_lenc, s_callf, resO0, resO1, resO2, resO3, List.getElem?_cons_zero, List.getElem?_cons_succ, Nat.reduceEqDiff, true_and, and_true, false_and, e_sn, e_ss, e_pn, e_ps, e_bb, fill0, fill1, b_add, b_sub, b_mul, b_eql, b_neq, b_lss, b_leq, b_gtr, b_geq, b_and, b_or, b_xor, b_seql, b_sneq, b_slss, AQ.andThen, AQ.inBlock, Option.some.injEq, exists_eq_left', exists_eq_left, reduceCtorEq, Exit.exit.injEq]
      have : (i + 1).toNat = 0 := by omega
      rw [this] at h3
      simp only [be, List.append_nil] at h3
      subst h3
      rw [be_length] at h4
      exact ⟨h4, h5, h6⟩
theorem t73 {H : AHeap} {x : Value} {l : List UInt8} (hx : BS H x l) (hl : l.length ≤ 1000000000) : ∃ v H', ARun Go.Proofs.Try.prog 0 73 [x] H v H' ∧
    AP H' 5 1 v l.length (cellsOf l) ∧ Keeps H H' ∧ Fresh H.n v := by
  refine walk f73_ok f73_n ?_
  obtain ⟨a, k, rfl⟩ := hx.sh
  cases a with
  | none =>
    have hl0 : l = [] := by
      have := hx.el
      simp only [elemsA, Option.some.injEq] at this
      have := congrArg List.length this
      rw [cellsOf_length] at this
      exact List.length_eq_zero_iff.1 this.symm
    subst hl0
    simp only [f73, initFr, ↓reduceIte, RD_nil, RD_cons, RD_consg, W_dreg, obl_nil, Nat.reduceAdd, Nat.add_zero, Nat.zero_add, Nat.mul_one, Int.toNat_natCast, W_skip, W_reg, W_seq, W_cond, W_block, W_exit, W_ret, getD_nil', RW_nil, RW_cons, RW_consg, AOp.map, AX_fr, AX_tm, AX_c, AX_fn, AX_g, D_no, D_no', D_tm, D_tm', D_fr, D_fr', List.getD_cons_zero, List.getD_cons_succ, List.set_cons_zero, List.set_cons_succ, List.map_cons, List.map_nil, Option.map_some, Option.map_none, wantA, beq_self_eq_true, if_true, Bool.false_eq_true, if_false, Bool.not_true, Bool.not_false, s_mov, s_pick, s_new, s_box, s_build, s_bslice, s_load1, s_loadn, s_nilck, s_bin, s_eqv, s_not, s_neg, s_i2i, s_s2s, s_s2b, s_iface, s_mkfn, s_faddr, s_fld1, s_iaddr, s_idxs, s_assert, s_extract, s_len, s_lens, s_lenc, s_callf, resO0, resO1, resO2, resO3, List.getElem?_cons_zero, List.getElem?_cons_succ, Nat.reduceEqDiff, true_and, and_true, false_and, e_sn, e_ss, e_pn, e_ps, e_bb, fill0, fill1, b_add, b_sub, b_mul, b_eql, b_neq, b_lss, b_leq, b_gtr, b_geq, b_and, b_or, b_xor, b_seql, b_sneq, b_slss, AQ.andThen, AQ.inBlock, Option.some.injEq, exists_eq_left', exists_eq_left, reduceCtorEq, Exit.exit.injEq]
    exact ⟨.inl ⟨rfl, rfl, rfl⟩, Keeps.refl H, fun b hb => by cases hb⟩
  | some a =>
    simp only [f73, initFr, ↓reduceIte, RD_nil, RD_cons, RD_consg, W_dreg, obl_nil, Nat.reduceAdd, Nat.add_zero, Nat.zero_add, Nat.mul_one, Int.toNat_natCast, W_skip, W_reg, W_seq, W_cond, W_block, W_exit, W_ret, getD_nil', RW_nil, RW_cons, RW_consg, AOp.map, AX_fr, AX_tm, AX_c, AX_fn, AX_g, D_no, D_no', D_tm, D_tm', D_fr, D_fr', List.getD_cons_zero, List.getD_cons_succ, List.set_cons_zero, List.set_cons_succ, List.map_cons, List.map_nil, Option.map_some, Option.map_none, wantA, beq_self_eq_true, if_true, Bool.false_eq_true, if_false, Bool.not_true, Bool.not_false, s_mov, s_pick, s_new, s_box, s_build, s_bslice, s_load1, s_loadn, s_nilck, s_bin, s_eqv, s_not, s_neg, s_i2i, s_s2s, s_s2b, s_iface, s_mkfn, s_faddr, s_fld1, s_iaddr, s_idxs, s_assert, s_extract, s_len, s_lens, s_lenc, s_callf, resO0, resO1, resO2, resO3, List.getElem?_cons_zero, List.getElem?_cons_succ, Nat.reduceEqDiff, true_and, and_true, false_and, e_sn, e_ss, e_pn, e_ps, e_bb, fill0, fill1, b_add, b_sub, b_mul, b_eql, b_neq, b_lss, b_leq, b_gtr, b_geq, b_and, b_or, b_xor, b_seql, b_sneq, b_slss, AQ.andThen, AQ.inBlock, Option.some.injEq, exists_eq_left', exists_eq_left, reduceCtorEq, Exit.exit.injEq]
    refine ⟨⟨rfl, rfl⟩, s_appAP (.inr ⟨_, _, rfl, rfl, AHeap.get_alloc_new H _⟩) ⟨_, _, rfl⟩ (hx.keeps ((Keeps.refl H).alloc _)).el (by rw [cellsOf_length]; omega) (by omega) ?_⟩
    intro v' H' k1 k2 k3
    rw [Nat.zero_add, List.nil_append] at k1
    have hf : Fresh H.n (slc H.n 0 0 0) := fun b hb => by cases hb; exact Nat.le_refl _
    exact ⟨k1, ((Keeps.refl H).alloc _).chg_trans k2 hf.L, Fresh.app hf (by rw [alloc_n]; omega) k3⟩
def wd (t : Nat) : Nat := if t = 5 then 1 else if t = 111 then 2 else if t = 25 then 4 else 8
def kd (t : Nat) : IntKind := if t = 5 then .u8 else if t = 111 then .u16 else if t = 25 then .u32 else .u64
theorem t114 (t n : Nat) (ht : t = 5 ∨ t = 111 ∨ t = 25 ∨ t = 24) (hn : n < 256 ^ wd t) (H : AHeap) : ARun Go.Proofs.Try.prog 0 114 [.iface t (.int (kd t) n)] H (.tuple #[.int .u64 n, .int .i64 (wd t)]) H := by
  suffices h : ∃ v H', ARun Go.Proofs.Try.prog 0 114 [.iface t (.int (kd t) n)] H v H' ∧ v = .tuple #[.int .u64 n, .int .i64 (wd t)] ∧ H' = H by
    obtain ⟨v, H', h1, h2, h3⟩ := h
    rw [h2, h3] at h1; exact h1
  refine walk f114_ok f114_n ?_
  rcases ht with rfl | rfl | rfl | rfl <;> simp only [f114, initFr, kd, wd, ↓reduceIte, RD_nil, RD_cons, RD_consg, W_dreg, obl_nil, Nat.reduceAdd, Nat.add_zero, Nat.zero_add, Nat.mul_one, Int.toNat_natCast, W_skip, W_reg, W_seq, W_cond, W_block, W_exit, W_ret, getD_nil', RW_nil, RW_cons, RW_consg, AOp.map, AX_fr, AX_tm, AX_c, AX_fn, AX_g, D_no, D_no', D_tm, D_tm', D_fr, D_fr', List.getD_cons_zero, List.getD_cons_succ, List.set_cons_zero, List.set_cons_succ, List.map_cons, List.map_nil, Option.map_some, Option.map_none, wantA, beq_self_eq_true, if_true, Bool.false_eq_true, if_false, Bool.not_true, Bool.not_false, s_mov, s_pick, s_new, s_box, s_build, s_bslice, s_load1, s_loadn, s_nilck, s_bin, s_eqv, s_not, s_neg, s_i2i, s_s2s, s_s2b, s_iface, s_mkfn, s_faddr, s_fld1, s_iaddr, s_idxs, s_assert, s_extract, s_len, s_lens, s_lenc, s_callf, resO0, resO1, resO2, resO3, List.getElem?_cons_zero, List.getElem?_cons_succ, Nat.reduceEqDiff, true_and, and_true, false_and, e_sn, e_ss, e_pn, e_ps, e_bb, fill0, fill1, b_add, b_sub, b_mul, b_eql, b_neq, b_lss, b_leq, b_gtr, b_geq, b_and, b_or, b_xor, b_seql, b_sneq, b_slss, AQ.andThen, AQ.inBlock, Option.some.injEq, exists_eq_left', exists_eq_left, reduceCtorEq, Exit.exit.injEq, Nat.reduceEqDiff] at hn ⊢ <;> (try rw [wrap_u64]) <;> (try rw [Int.emod_eq_of_lt (by omega) (by omega)]) <;> trivial
def WS (H : AHeap) (b bv : Nat) (l : List UInt8) : Prop :=
  ∃ v, H.get b = some (.cells true false 1 [v] 166) ∧ AP H 5 1 v l.length (cellsOf l) ∧ (blk v = none ∧ bv = b ∨ blk v = some bv ∧ bv ≠ b)
theorem WS.lt {H : AHeap} {b bv : Nat} {l : List UInt8} (h : WS H b bv l) : b < H.n ∧ bv < H.n := by
  obtain ⟨v, h1, h2, h3⟩ := h
  have := AHeap.get_lt h1
  refine ⟨this, ?_⟩
  rcases h3 with ⟨_, rfl⟩ | ⟨h3, _⟩
  · exact this
  · exact h2.lt h3
theorem WS.chg {H H' : AHeap} {b bv : Nat} {l : List UInt8} {S : List Nat} (h : WS H b bv l) (k : Chg S H H') (h1 : b ∉ S) (h2 : bv ∉ S) : WS H' b bv l := by
  obtain ⟨v, a1, a2, a3⟩ := h
  refine ⟨v, k.at_ a1 h1, a2.chg k ?_, a3⟩
  intro x hx
  rw [mem_blkL] at hx
  rcases a3 with ⟨e, _⟩ | ⟨e, _⟩
  · rw [e] at hx; cases hx
  · rw [e] at hx; cases hx; exact h2
theorem WS.app {H : AHeap} {b bv : Nat} {l m : List UInt8} {x : Value} (h : WS H b bv l) (hx : BS H x m) (hl : l.length + m.length ≤ 1000000000) :
    ∃ v v' H1, H.get b = some (.cells true false 1 [v] 166) ∧ (∀ K : Value → AHeap → Prop, K v' H1 → stepA Go.Proofs.Try.prog 0 (.app 5 1 1 v x) H K) ∧ H1.get b = some (.cells true false 1 [v] 166) ∧ v'.oneCell' = true ∧
      ∃ bv', WS (H1.set b (.cells true false 1 [v'] 166)) b bv' (l ++ m) ∧ (bv' = bv ∨ H.n ≤ bv') ∧ Chg [b, bv] H (H1.set b (.cells true false 1 [v'] 166)) := by
  obtain ⟨v, h1, h2, h3⟩ := h
  obtain ⟨a, k, rfl⟩ := hx.sh
  obtain ⟨v', H', k1, k2, k3, k4⟩ := h2.app (bytes := 1) (news := cellsOf m) (m := m.length) (by rw [cellsOf_length]; omega) (by omega)
  have hb : b ∉ blkL v := by
    rw [mem_blkL]
    rcases h3 with ⟨e, _⟩ | ⟨e, hne⟩
    · rw [e]; simp
    · rw [e]; simpa using hne
  have hbn := AHeap.get_lt h1
  have hb1 := k3.at_ h1 hb
  have hS : ∀ x ∈ blkL v, x ∈ [b, bv] ∨ H.n ≤ x := by
    intro x hx
    rw [mem_blkL] at hx
    rcases h3 with ⟨e, _⟩ | ⟨e, hne⟩
    · rw [e] at hx; cases hx
    · rw [e] at hx; cases hx; simp
  have hv'b : blk v' ≠ some b := by
    rcases k4 with k4 | k4
    · exact fun e => hb (mem_blkL.2 (k4 ▸ e))
    · rw [k4]; simp; omega
  refine ⟨v, v', H', h1, fun K hK => by rw [s_app rfl hx.el k1]; exact hK, hb1, ?_, ?_⟩
  · obtain ⟨a', ha⟩ := k2.shape
    rw [ha]; rfl
  have hset := Chg.set H' (AHeap.get_lt hb1) (.cells true false 1 [v'] 166)
  have hW : AP (H'.set b (.cells true false 1 [v'] 166)) 5 1 v' (l ++ m).length (cellsOf (l ++ m)) := by
    rw [List.length_append, cellsOf_append]
    refine k2.chg hset ?_
    intro x hx
    rw [mem_blkL] at hx
    intro e
    simp only [List.mem_singleton] at e
    subst e
    exact hv'b hx
  have hC : Chg [b, bv] H (H'.set b (.cells true false 1 [v'] 166)) := by
    refine Chg.trans (S := [b, bv]) (Chg.mono k3 (fun x hx => ?_)) hset (by simp)
    rcases hS x hx with h | h
    · exact h
    · rw [mem_blkL] at hx
      have := h2.lt hx
      omega
  cases hbv : blk v' with
  | none =>
    have hbl : blk v = none := by
      rcases k4 with k4 | k4
      · rw [← k4]; exact hbv
      · rw [hbv] at k4; cases k4
    refine ⟨bv, ⟨v', AHeap.get_set_same hb1 _, hW, .inl ⟨hbv, ?_⟩⟩, .inl rfl, hC⟩
    rcases h3 with ⟨_, e⟩ | ⟨e, _⟩
    · exact e
    · rw [hbl] at e; cases e
  | some x =>
    refine ⟨x, ⟨v', AHeap.get_set_same hb1 _, hW, .inr ⟨hbv, fun e => hv'b (by rw [hbv, e])⟩⟩, ?_, hC⟩
    rcases k4 with k4 | k4
    · rw [hbv] at k4
      rcases h3 with ⟨e, _⟩ | ⟨e, _⟩
      · rw [e] at k4; cases k4
      · rw [e] at k4; cases k4; exact .inl rfl
    · rw [hbv] at k4; cases k4; exact .inr (Nat.le_refl _)
theorem t105 {H : AHeap} {b bv : Nat} {l : List UInt8} (h : WS H b bv l) (t n : Nat) (ht : t = 5 ∨ t = 111 ∨ t = 25 ∨ t = 24) (hn : n < 256 ^ wd t) (hl : l.length ≤ 100000000) :
    ∃ v H', ARun Go.Proofs.Try.prog 0 105 [ptr b 0, .iface t (.int (kd t) n)] H v H' ∧ ∃ bv', WS H' b bv' (l ++ be (wd t) n) ∧ (bv' = bv ∨ H.n ≤ bv') ∧ Chg [b, bv] H H' := by
  refine walk f105_ok f105_n ?_
  have r35 := t114 t n ht hn H
  have hw : 1 ≤ wd t ∧ wd t ≤ 8 := by rcases ht with rfl | rfl | rfl | rfl <;> simp [wd]
  simp only [f105, initFr, ↓reduceIte, RD_nil, RD_cons, RD_consg, W_dreg, obl_nil, Nat.reduceAdd, Nat.add_zero, Nat.zero_add, Nat.mul_one, Int.toNat_natCast, W_skip, W_reg, W_seq, W_cond, W_block, W_exit, W_ret, getD_nil', RW_nil, RW_cons, RW_consg, AOp.map, AX_fr, AX_tm, AX_c, AX_fn, AX_g, D_no, D_no', D_tm, D_tm', D_fr, D_fr', List.getD_cons_zero, List.getD_cons_succ, List.set_cons_zero, List.set_cons_succ, List.map_cons, List.map_nil, Option.map_some, Option.map_none, wantA, beq_self_eq_true, if_true, Bool.false_eq_true, if_false, Bool.not_true, Bool.not_false, s_mov, s_pick, s_new, s_box, s_build, s_bslice, s_load1, s_loadn, s_nilck, s_bin, s_eqv, s_not, s_neg, s_i2i, s_s2s, s_s2b, s_iface, s_mkfn, s_faddr, s_fld1, s_iaddr, s_idxs, s_assert, s_extract, s_len, s_lens, s_lenc, s_callf, resO0, resO1, resO2, resO3, List.getElem?_cons_zero, List.getElem?_cons_succ, Nat.reduceEqDiff, true_and, and_true, false_and, e_sn, e_ss, e_pn, e_ps, e_bb, fill0, fill1, b_add, b_sub, b_mul, b_eql, b_neq, b_lss, b_leq, b_gtr, b_geq, b_and, b_or, b_xor, b_seql, b_sneq, b_slss, AQ.andThen, AQ.inBlock, Option.some.injEq, exists_eq_left', exists_eq_left, reduceCtorEq, Exit.exit.injEq]
  refine ⟨_, _, r35, ?_⟩
  simp only [↓reduceIte, RD_nil, RD_cons, RD_consg, W_dreg, obl_nil, Nat.reduceAdd, Nat.add_zero, Nat.zero_add, Nat.mul_one, Int.toNat_natCast, W_skip, W_reg, W_seq, W_cond, W_block, W_exit, W_ret, getD_nil', RW_nil, RW_cons, RW_consg, AOp.map, AX_fr, AX_tm, AX_c, AX_fn, AX_g, D_no, D_no', D_tm, D_tm', D_fr, D_fr', List.getD_cons_zero, List.getD_cons_succ, List.set_cons_zero, List.set_cons_succ, List.map_cons, List.map_nil, Option.map_some, Option.map_none, wantA, beq_self_eq_true, if_true, Bool.false_eq_true, if_false, Bool.not_true, Bool.not_false, s_mov, s_pick, s_new, s_box, s_build, s_bslice, s_load1, s_loadn, s_nilck, s_bin, s_eqv, s_not, s_neg, s_i2i, s_s2s, s_s2b, s_iface, s_mkfn, s_faddr, s_fld1, s_iaddr, s_idxs, s_assert, s_extract, s_len, s_lens, s_lenc, s_callf, resO0, resO1, resO2, resO3, List.getElem?_cons_zero, List.getElem?_cons_succ, Nat.reduceEqDiff, true_and, and_true, false_and, e_sn, e_ss, e_pn, e_ps, e_bb, fill0, fill1, b_add, b_sub, b_mul, b_eql, b_neq, b_lss, b_leq, b_gtr, b_geq, b_and, b_or, b_xor, b_seql, b_sneq, b_slss, AQ.andThen, AQ.inBlock, Option.some.injEq, exists_eq_left', exists_eq_left, reduceCtorEq, Exit.exit.injEq]
  rw [wrap_i64 (n := (wd t : Int) - 1) (by omega) (by omega), wrap_i64 (by omega) (by omega)]
  refine W_loop (fun k fr H1 => ∃ (j : Int) (x : Value) (m : List UInt8) (bv1 : Nat), fr = [ptr b 0, .iface t (.int (kd t) n), .int .u64 n, .int .i64 (wd t), .int .i64 (8 * j), .bool false, x] ∧ -1 ≤ j ∧ j < wd t ∧ k = (j + 1).toNat ∧
    m ++ be (j + 1).toNat n = be (wd t) n ∧ WS H1 b bv1 (l ++ m) ∧ (bv1 = bv ∨ H.n ≤ bv1) ∧ Chg [b, bv] H H1) (wd t) ?_ ?_
  · refine ⟨(wd t : Int) - 1, undef, [], bv, rfl, by omega, by omega, by omega, ?_, by rw [List.append_nil]; exact h, .inl rfl, Chg.refl _ _⟩
    rw [show ((wd t : Int) - 1 + 1).toNat = wd t by omega, List.nil_append]
  · rintro k fr H1 ⟨j, x, m, bv1, rfl, h1, h2, rfl, h3, h4, h5, h6⟩
    simp only [↓reduceIte, RD_nil, RD_cons, RD_consg, W_dreg, obl_nil, Nat.reduceAdd, Nat.add_zero, Nat.zero_add, Nat.mul_one, Int.toNat_natCast, W_skip, W_reg, W_seq, W_cond, W_block, W_exit, W_ret, getD_nil', RW_nil, RW_cons, RW_consg, AOp.map, AX_fr, AX_tm, AX_c, AX_fn, AX_g, D_no, D_no', D_tm, D_tm', D_fr, D_fr', List.getD_cons_zero, List.getD_cons_succ, List.set_cons_zero, List.set_cons_succ, List.map_cons, List.map_nil, Option.map_some, Option.map_none, wantA, beq_self_eq_true, if_true, Bool.false_eq_true, if_false, Bool.not_true, Bool.not_false, s_mov, s_pick, s_new, s_box, s_build, s_bslice, s_load1, s_loadn, s_nilck, s_bin, s_eqv, s_not, s_neg, s_i2i, s_s2s, s_s2b, s_iface, s_mkfn, s_faddr, s_fld1, s_iaddr, s_idxs, s_assert, s_extract, s_len, s_lens, s_lenc, s_callf, resO0, resO1, resO2, resO3, List.getElem?_cons_zero, List.getElem?_cons_succ, Nat.reduceEqDiff, true_and, and_true, false_and, e_sn, e_ss, e_pn, e_ps, e_bb, fill0, fill1, b_add, b_sub, b_mul, b_eql, b_neq, b_lss, b_leq, b_gtr, b_geq, b_and, b_or, b_xor, b_seql, b_sneq, b_slss, AQ.andThen, AQ.inBlock, Option.some.injEq, exists_eq_left', exists_eq_left, reduceCtorEq, Exit.exit.injEq]
    by_cases hj : 0 ≤ j
    · obtain ⟨i, rfl⟩ : ∃ i : Nat, j = i := ⟨j.toNat, by omega⟩
      simp only [show (0 : Int) ≤ 8 * (i : Int) by omega, decide_true, ↓reduceIte, RD_nil, RD_cons, RD_consg, W_dreg, obl_nil, Nat.reduceAdd, Nat.add_zero, Nat.zero_add, Nat.mul_one, Int.toNat_natCast, W_skip, W_reg, W_seq, W_cond, W_block, W_exit, W_ret, getD_nil', RW_nil, RW_cons, RW_consg, AOp.map, AX_fr, AX_tm, AX_c, AX_fn, AX_g, D_no, D_no', D_tm, D_tm', D_fr, D_fr', List.getD_cons_zero, List.getD_cons_succ, List.set_cons_zero, List.set_cons_succ, List.map_cons, List.map_nil, Option.map_some, Option.map_none, wantA, beq_self_eq_true, if_true, Bool.false_eq_true, if_false, Bool.not_true, Bool.not_false, s_mov, s_pick, s_new, s_box, s_build, s_bslice, s_load1, s_loadn, s_nilck, s_bin, s_eqv, s_not, s_neg, s_i2i, s_s2s, s_s2b, s_iface, s_mkfn, s_faddr, s_fld1, s_iaddr, s_idxs, s_assert, s_extract, s_len, s_lens, s_lenc, s_callf, resO0, resO1, resO2, resO3, List.getElem?_cons_zero, List.getElem?_cons_succ, Nat.reduceEqDiff, true_and, and_true, false_and, e_sn, e_ss, e_pn, e_ps, e_bb, fill0, fill1, b_add, b_sub, b_mul, b_eql, b_neq, b_lss, b_leq, b_gtr, b_geq, b_and, b_or, b_xor, b_seql, b_sneq, b_slss, AQ.andThen, AQ.inBlock, Option.some.injEq, exists_eq_left', exists_eq_left, reduceCtorEq, Exit.exit.injEq]
      have hji : ((i : Int) + 1).toNat = i + 1 := by omega
      rw [hji] at h3
      have hlen : m.length + (i + 1) = wd t := by
        have := congrArg List.length h3
        simpa [be_length] using this
      have h4' := h4.chg (S := []) (((Keeps.refl H1).alloc (.cells true false 1 [.int .u8 (UInt8.ofNat (n / 256 ^ i)).toNat] 5)).chg []) (by simp) (by simp)
      obtain ⟨v, v', H2, e1, e2, e3, e4, bv', e5, e6, e7⟩ := h4'.app (m := [UInt8.ofNat (n / 256 ^ i)]) (x := slc H1.n 0 1 1) ⟨⟨_, _, rfl⟩, elems_own (AHeap.get_alloc_new H1 _) rfl⟩ (by simp; omega)
      have e0 : H1.get b = some (.cells true false 1 [v] 166) := by
        rw [AHeap.get_alloc_old H1 _ h4.lt.1] at e1; exact e1
      simp only [cellA_of e0, b_shr _ _ _ _ (show (0 : Int) ≤ 8 * (i : Int) by omega), ↓reduceIte, RD_nil, RD_cons, RD_consg, W_dreg, obl_nil, Nat.reduceAdd, Nat.add_zero, Nat.zero_add, Nat.mul_one, Int.toNat_natCast, W_skip, W_reg, W_seq, W_cond, W_block, W_exit, W_ret, getD_nil', RW_nil, RW_cons, RW_consg, AOp.map, AX_fr, AX_tm, AX_c, AX_fn, AX_g, D_no, D_no', D_tm, D_tm', D_fr, D_fr', List.getD_cons_zero, List.getD_cons_succ, List.set_cons_zero, List.set_cons_succ, List.map_cons, List.map_nil, Option.map_some, Option.map_none, wantA, beq_self_eq_true, if_true, Bool.false_eq_true, if_false, Bool.not_true, Bool.not_false, s_mov, s_pick, s_new, s_box, s_build, s_bslice, s_load1, s_loadn, s_nilck, s_bin, s_eqv, s_not, s_neg, s_i2i, s_s2s, s_s2b, s_iface, s_mkfn, s_faddr, s_fld1, s_iaddr, s_idxs, s_assert, s_extract, s_len, s_lens, s_lenc, s_callf, resO0, resO1, resO2, resO3, List.getElem?_cons_zero, List.getElem?_cons_succ, Nat.reduceEqDiff, true_and, and_true, false_and, e_sn, e_ss, e_pn, e_ps, e_bb, fill0, fill1, b_add, b_sub, b_mul, b_eql, b_neq, b_lss, b_leq, b_gtr, b_geq, b_and, b_or, b_xor, b_seql, b_sneq, b_slss, AQ.andThen, AQ.inBlock, Option.some.injEq, exists_eq_left', exists_eq_left, reduceCtorEq, Exit.exit.injEq]
      have hmin : min (8 * (i : Int)).toNat IntKind.u64.bits = 8 * i := by simp only [IntKind.bits]; omega
      rw [hmin, wrap_u8, byte_cell]
      refine ⟨⟨rfl, rfl⟩, e2 _ ?_⟩
      simp only [↓reduceIte, RD_nil, RD_cons, RD_consg, W_dreg, obl_nil, Nat.reduceAdd, Nat.add_zero, Nat.zero_add, Nat.mul_one, Int.toNat_natCast, W_skip, W_reg, W_seq, W_cond, W_block, W_exit, W_ret, getD_nil', RW_nil, RW_cons, RW_consg, AOp.map, AX_fr, AX_tm, AX_c, AX_fn, AX_g, D_no, D_no', D_tm, D_tm', D_fr, D_fr', List.getD_cons_zero, List.getD_cons_succ, List.set_cons_zero, List.set_cons_succ, List.map_cons, List.map_nil, Option.map_some, Option.map_none, wantA, beq_self_eq_true, if_true, Bool.false_eq_true, if_false, Bool.not_true, Bool.not_false, s_mov, s_pick, s_new, s_box, s_build, s_bslice, s_load1, s_loadn, s_nilck, s_bin, s_eqv, s_not, s_neg, s_i2i, s_s2s, s_s2b, s_iface, s_mkfn, s_faddr, s_fld1, s_iaddr, s_idxs, s_assert, s_extract, s_len, s_lens, s_lenc, s_callf, resO0, resO1, resO2, resO3, List.getElem?_cons_zero, List.getElem?_cons_succ, Nat.reduceEqDiff, true_and, and_true, false_and, e_sn, e_ss, e_pn, e_ps, e_bb, fill0, fill1, b_add, b_sub, b_mul, b_eql, b_neq, b_lss, b_leq, b_gtr, b_geq, b_and, b_or, b_xor, b_seql, b_sneq, b_slss, AQ.andThen, AQ.inBlock, Option.some.injEq, exists_eq_left', exists_eq_left, reduceCtorEq, Exit.exit.injEq, s_store1 e3]
      refine ⟨⟨by simp, e4⟩, i, by omega, (i : Int) - 1, .bool true, m ++ [UInt8.ofNat (n / 256 ^ i)], bv', ?_, by omega, by omega, by omega, ?_, ?_, ?_, ?_⟩
      · rw [wrap_i64 (by omega) (by omega), show 8 * (i : Int) - 8 = 8 * ((i : Int) - 1) by omega]
      · rw [show ((i : Int) - 1 + 1).toNat = i by omega, ← h3]
        simp [be]
      · rw [← List.append_assoc]; exact e5
      · have := h6.n
        rw [alloc_n] at e6
        omega
      · have := h6.n
        refine (h6.alloc _).trans e7 ?_
        intro x hx
        simp only [List.mem_cons, List.not_mem_nil, or_false] at hx ⊢
        omega
    · simp only [show ¬ (0 : Int) ≤ 8 * j by omega, decide_false, ↓reduceIte, RD_nil, RD_cons, RD_consg, W_dreg, obl_nil, Nat.reduceAdd, Nat.add_zero, Nat.zero_add, Nat.mul_one, Int.toNat_natCast, W_skip, W_reg, W_seq, W_cond, W_block, W_exit, W_ret, getD_nil', RW_nil, RW_cons, RW_consg, AOp.map, AX_fr, AX_tm, AX_c, AX_fn, AX_g, D_no, D_no', D_tm, D_tm', D_fr, D_fr', List.getD_cons_zero, List.getD_cons_succ, List.set_cons_zero, List.set_cons_succ, List.map_cons, List.map_nil, Option.map_some, Option.map_none, wantA, beq_self_eq_true, if_true, Bool.false_eq_true, if_false, Bool.not_true, Bool.not_false, s_mov, s_pick, s_new, s_box, s_build, s_bslice, s_load1, s_loadn, s_nilck, s_bin, s_eqv, s_not, s_neg, s_i2i, s_s2s, s_s2b, s_iface, s_mkfn, s_faddr, s_fld1, s_iaddr, s_idxs, s_assert, s_extract, s_len, s_lens, s_lenc, s_callf, resO0, resO1, resO2, resO3, List.getElem?_cons_zero, List.getElem?_cons_succ, Nat.reduceEqDiff, true_and, and_true, false_and, e_sn, e_ss, e_pn, e_ps, e_bb, fill0, fill1, b_add, b_sub, b_mul, b_eql, b_neq, b_lss, b_leq, b_gtr, b_geq, b_and, b_or, b_xor, b_seql, b_sneq, b_slss, AQ.andThen, AQ.inBlock, Option.some.injEq, exists_eq_left', exists_eq_left, reduceCtorEq, Exit.exit.injEq]
      have : (j + 1).toNat = 0 := by omega
      rw [this] at h3
      simp only [be, List.append_nil] at h3
      subst h3
      exact ⟨bv1, h4, h5, h6⟩
def Put (H H' : AHeap) (b bv : Nat) (l : List UInt8) : Prop := ∃ bv', WS H' b bv' l ∧ (bv' = bv ∨ H.n ≤ bv') ∧ Chg [b, bv] H H'
theorem t79 {H : AHeap} {b bv : Nat} {l : List UInt8} (h : WS H b bv l) (n : Nat) (hn : n < 256) (hl : l.length ≤ 100000000) : ∃ v H', ARun Go.Proofs.Try.prog 0 79 [ptr b 0, .int .u8 n] H v H' ∧ Put H H' b bv (l ++ be 1 n) := by
  refine walk f79_ok f79_n ?_
  obtain ⟨v, H', r, p⟩ := t105 h 5 n (by omega) (by simpa [wd] using hn) hl
  simp only [f79, initFr, ↓reduceIte, RD_nil, RD_cons, RD_consg, W_dreg, obl_nil, Nat.reduceAdd, Nat.add_zero, Nat.zero_add, Nat.mul_one, Int.toNat_natCast, W_skip, W_reg, W_seq, W_cond, W_block, W_exit, W_ret, getD_nil', RW_nil, RW_cons, RW_consg, AOp.map, AX_fr, AX_tm, AX_c, AX_fn, AX_g, D_no, D_no', D_tm, D_tm', D_fr, D_fr', List.getD_cons_zero, List.getD_cons_succ, List.set_cons_zero, List.set_cons_succ, List.map_cons, List.map_nil, Option.map_some, Option.map_none, wantA, beq_self_eq_true, if_true, Bool.false_eq_true, if_false, Bool.not_true, Bool.not_false, s_mov, s_pick, s_new, s_box, s_build, s_bslice, s_load1, s_loadn, s_nilck, s_bin, s_eqv, s_not, s_neg, s_i2i, s_s2s, s_s2b, s_iface, s_mkfn, s_faddr, s_fld1, s_iaddr, s_idxs, s_assert, s_extract, s_len, s_lens, s_lenc, s_callf, resO0, resO1, resO2, resO3, List.getElem?_cons_zero, List.getElem?_cons_succ, Nat.reduceEqDiff, true_and, and_true, false_and, e_sn, e_ss, e_pn, e_ps, e_bb, fill0, fill1, b_add, b_sub, b_mul, b_eql, b_neq, b_lss, b_leq, b_gtr, b_geq, b_and, b_or, b_xor, b_seql, b_sneq, b_slss, AQ.andThen, AQ.inBlock, Option.some.injEq, exists_eq_left', exists_eq_left, reduceCtorEq, Exit.exit.injEq]
  exact ⟨v, H', r, p⟩
theorem t81 {H : AHeap} {b bv : Nat} {l : List UInt8} (h : WS H b bv l) (n : Nat) (hn : n < 65536) (hl : l.length ≤ 100000000) : ∃ v H', ARun Go.Proofs.Try.prog 0 81 [ptr b 0, .int .u16 n] H v H' ∧ Put H H' b bv (l ++ be 2 n) := by
  refine walk f81_ok f81_n ?_
  obtain ⟨v, H', r, p⟩ := t105 h 111 n (by omega) (by simpa [wd] using hn) hl
  simp only [f81, initFr, ↓reduceIte, RD_nil, RD_cons, RD_consg, W_dreg, obl_nil, Nat.reduceAdd, Nat.add_zero, Nat.zero_add, Nat.mul_one, Int.toNat_natCast, W_skip, W_reg, W_seq, W_cond, W_block, W_exit, W_ret, getD_nil', RW_nil, RW_cons, RW_consg, AOp.map, AX_fr, AX_tm, AX_c, AX_fn, AX_g, D_no, D_no', D_tm, D_tm', D_fr, D_fr', List.getD_cons_zero, List.getD_cons_succ, List.set_cons_zero, List.set_cons_succ, List.map_cons, List.map_nil, Option.map_some, Option.map_none, wantA, beq_self_eq_true, if_true, Bool.false_eq_true, if_false, Bool.not_true, Bool.not_false, s_mov, s_pick, s_new, s_box, s_build, s_bslice, s_load1, s_loadn, s_nilck, s_bin, s_eqv, s_not, s_neg, s_i2i, s_s2s, s_s2b, s_iface, s_mkfn, s_faddr, s_fld1, s_iaddr, s_idxs, s_assert, s_extract, s_len, s_lens, s_lenc, s_callf, resO0, resO1, resO2, resO3, List.getElem?_cons_zero, List.getElem?_cons_succ, Nat.reduceEqDiff, true_and, and_true, false_and, e_sn, e_ss, e_pn, e_ps, e_bb, fill0, fill1, b_add, b_sub, b_mul, b_eql, b_neq, b_lss, b_leq, b_gtr, b_geq, b_and, b_or, b_xor, b_seql, b_sneq, b_slss, AQ.andThen, AQ.inBlock, Option.some.injEq, exists_eq_left', exists_eq_left, reduceCtorEq, Exit.exit.injEq]
  exact ⟨v, H', r, p⟩
theorem t85 {H : AHeap} {b bv : Nat} {l : List UInt8} (h : WS H b bv l) (n : Nat) (hn : n < 4294967296) (hl : l.length ≤ 100000000) : ∃ v H', ARun Go.Proofs.Try.prog 0 85 [ptr b 0, .int .u32 n] H v H' ∧ Put H H' b bv (l ++ be 4 n) := by
  refine walk f85_ok f85_n ?_
  obtain ⟨v, H', r, p⟩ := t105 h 25 n (by omega) (by simpa [wd] using hn) hl
  simp only [f85, initFr, ↓reduceIte, RD_nil, RD_cons, RD_consg, W_dreg, obl_nil, Nat.reduceAdd, Nat.add_zero, Nat.zero_add, Nat.mul_one, Int.toNat_natCast, W_skip, W_reg, W_seq, W_cond, W_block, W_exit, W_ret, getD_nil', RW_nil, RW_cons, RW_consg, AOp.map, AX_fr, AX_tm, AX_c, AX_fn, AX_g, D_no, D_no', D_tm, D_tm', D_fr, D_fr', List.getD_cons_zero, List.getD_cons_succ, List.set_cons_zero, List.set_cons_succ, List.map_cons, List.map_nil, Option.map_some, Option.map_none, wantA, beq_self_eq_true, if_true, Bool.false_eq_true, if_false, Bool.not_true, Bool.not_false, s_mov, s_pick, s_new, s_box, s_build, s_bslice, s_load1, s_loadn, s_nilck, s_bin, s_eqv, s_not, s_neg, s_i2i, s_s2s, s_s2b, s_iface, s_mkfn, s_faddr, s_fld1, s_iaddr, s_idxs, s_assert, s_extract, s_len, s_lens, s_lenc, s_callf, resO0, resO1, resO2, resO3, List.getElem?_cons_zero, List.getElem?_cons_succ, Nat.reduceEqDiff, true_and, and_true, false_and, e_sn, e_ss, e_pn, e_ps, e_bb, fill0, fill1, b_add, b_sub, b_mul, b_eql, b_neq, b_lss, b_leq, b_gtr, b_geq, b_and, b_or, b_xor, b_seql, b_sneq, b_slss, AQ.andThen, AQ.inBlock, Option.some.injEq, exists_eq_left', exists_eq_left, reduceCtorEq, Exit.exit.injEq]
  exact ⟨v, H', r, p⟩
theorem t84 {H : AHeap} {b bv : Nat} {l : List UInt8} (h : WS H b bv l) (n : Nat) (hn : n < 18446744073709551616) (hl : l.length ≤ 100000000) : ∃ v H', ARun Go.Proofs.Try.prog 0 84 [ptr b 0, .int .u64 n] H v H' ∧ Put H H' b bv (l ++ be 8 n) := by
  refine walk f84_ok f84_n ?_
  obtain ⟨v, H', r, p⟩ := t105 h 24 n (by omega) (by simpa [wd] using hn) hl
  simp only [f84, initFr, ↓reduceIte, RD_nil, RD_cons, RD_consg, W_dreg, obl_nil, Nat.reduceAdd, Nat.add_zero, Nat.zero_add, Nat.mul_one, Int.toNat_natCast, W_skip, W_reg, W_seq, W_cond, W_block, W_exit, W_ret, getD_nil', RW_nil, RW_cons, RW_consg, AOp.map, AX_fr, AX_tm, AX_c, AX_fn, AX_g, D_no, D_no', D_tm, D_tm', D_fr, D_fr', List.getD_cons_zero, List.getD_cons_succ, List.set_cons_zero, List.set_cons_succ, List.map_cons, List.map_nil, Option.map_some, Option.map_none, wantA, beq_self_eq_true, if_true, Bool.false_eq_true, if_false, Bool.not_true, Bool.not_false, s_mov, s_pick, s_new, s_box, s_build, s_bslice, s_load1, s_loadn, s_nilck, s_bin, s_eqv, s_not, s_neg, s_i2i, s_s2s, s_s2b, s_iface, s_mkfn, s_faddr, s_fld1, s_iaddr, s_idxs, s_assert, s_extract, s_len, s_lens, s_lenc, s_callf, resO0, resO1, resO2, resO3, List.getElem?_cons_zero, List.getElem?_cons_succ, Nat.reduceEqDiff, true_and, and_true, false_and, e_sn, e_ss, e_pn, e_ps, e_bb, fill0, fill1, b_add, b_sub, b_mul, b_eql, b_neq, b_lss, b_leq, b_gtr, b_geq, b_and, b_or, b_xor, b_seql, b_sneq, b_slss, AQ.andThen, AQ.inBlock, Option.some.injEq, exists_eq_left', exists_eq_left, reduceCtorEq, Exit.exit.injEq]
  exact ⟨v, H', r, p⟩
theorem t82 {H : AHeap} {b bv : Nat} {l m : List UInt8} {x : Value} (h : WS H b bv l) (hx : BS H x m) (hl : l.length + m.length ≤ 1000000000) : ∃ v H', ARun Go.Proofs.Try.prog 0 82 [ptr b 0, x] H v H' ∧ Put H H' b bv (l ++ m) := by
  refine walk f82_ok f82_n ?_
  obtain ⟨v, v', H1, e1, e2, e3, e4, e5⟩ := h.app hx hl
  simp only [f82, initFr, cellA_of e1, ↓reduceIte, RD_nil, RD_cons, RD_consg, W_dreg, obl_nil, Nat.reduceAdd, Nat.add_zero, Nat.zero_add, Nat.mul_one, Int.toNat_natCast, W_skip, W_reg, W_seq, W_cond, W_block, W_exit, W_ret, getD_nil', RW_nil, RW_cons, RW_consg, AOp.map, AX_fr, AX_tm, AX_c, AX_fn, AX_g, D_no, D_no', D_tm, D_tm', D_fr, D_fr', List.getD_cons_zero, List.getD_cons_succ, List.set_cons_zero, List.set_cons_succ, List.map_cons, List.map_nil, Option.map_some, Option.map_none, wantA, beq_self_eq_true, if_true, Bool.false_eq_true, if_false, Bool.not_true, Bool.not_false, s_mov, s_pick, s_new, s_box, s_build, s_bslice, s_load1, s_loadn, s_nilck, s_bin, s_eqv, s_not, s_neg, s_i2i, s_s2s, s_s2b, s_iface, s_mkfn, s_faddr, s_fld1, s_iaddr, s_idxs, s_assert, s_extract, s_len, s_lens, s_lenc, s_callf, resO0, resO1, resO2, resO3, List.getElem?_cons_zero, List.getElem?_cons_succ, Nat.reduceEqDiff, true_and, and_true, false_and, e_sn, e_ss, e_pn, e_ps, e_bb, fill0, fill1, b_add, b_sub, b_mul, b_eql, b_neq, b_lss, b_leq, b_gtr, b_geq, b_and, b_or, b_xor, b_seql, b_sneq, b_slss, AQ.andThen, AQ.inBlock, Option.some.injEq, exists_eq_left', exists_eq_left, reduceCtorEq, Exit.exit.injEq]
  refine e2 _ ?_
  simp only [s_store1 e3, ↓reduceIte, RD_nil, RD_cons, RD_consg, W_dreg, obl_nil, Nat.reduceAdd, Nat.add_zero, Nat.zero_add, Nat.mul_one, Int.toNat_natCast, W_skip, W_reg, W_seq, W_cond, W_block, W_exit, W_ret, getD_nil', RW_nil, RW_cons, RW_consg, AOp.map, AX_fr, AX_tm, AX_c, AX_fn, AX_g, D_no, D_no', D_tm, D_tm', D_fr, D_fr', List.getD_cons_zero, List.getD_cons_succ, List.set_cons_zero, List.set_cons_succ, List.map_cons, List.map_nil, Option.map_some, Option.map_none, wantA, beq_self_eq_true, if_true, Bool.false_eq_true, if_false, Bool.not_true, Bool.not_false, s_mov, s_pick, s_new, s_box, s_build, s_bslice, s_load1, s_loadn, s_nilck, s_bin, s_eqv, s_not, s_neg, s_i2i, s_s2s, s_s2b, s_iface, s_mkfn, s_faddr, s_fld1, s_iaddr, s_idxs, s_assert, s_extract, s_len, s_lens, s_lenc, s_callf, resO0, resO1, resO2, resO3, List.getElem?_cons_zero, List.getElem?_cons_succ, Nat.reduceEqDiff, true_and, and_true, false_and, e_sn, e_ss, e_pn, e_ps, e_bb, fill0, fill1, b_add, b_sub, b_mul, b_eql, b_neq, b_lss, b_leq, b_gtr, b_geq, b_and, b_or, b_xor, b_seql, b_sneq, b_slss, AQ.andThen, AQ.inBlock, Option.some.injEq, exists_eq_left', exists_eq_left, reduceCtorEq, Exit.exit.injEq]
  exact ⟨⟨by simp, e4⟩, e5⟩
theorem t104 {H : AHeap} {b bv : Nat} {l : List UInt8} (h : WS H b bv l) (hl : l.length ≤ 1000000000) : ∃ v H', ARun Go.Proofs.Try.prog 0 104 [ptr b 0] H v H' ∧ AP H' 5 1 v l.length (cellsOf l) ∧ Keeps H H' ∧ Fresh H.n v := by
  refine walk f104_ok f104_n ?_
  obtain ⟨v, h1, h2, h3⟩ := h
  obtain ⟨v', H', r, p⟩ := t73 h2.bs hl
  simp only [f104, initFr, cellA_of h1, ↓reduceIte, RD_nil, RD_cons, RD_consg, W_dreg, obl_nil, Nat.reduceAdd, Nat.add_zero, Nat.zero_add, Nat.mul_one, Int.toNat_natCast, W_skip, W_reg, W_seq, W_cond, W_block, W_exit, W_ret, getD_nil', RW_nil, RW_cons, RW_consg, AOp.map, AX_fr, AX_tm, AX_c, AX_fn, AX_g, D_no, D_no', D_tm, D_tm', D_fr, D_fr', List.getD_cons_zero, List.getD_cons_succ, List.set_cons_zero, List.set_cons_succ, List.map_cons, List.map_nil, Option.map_some, Option.map_none, wantA, beq_self_eq_true, if_true, Bool.false_eq_true, if_false, Bool.not_true, Bool.not_false, s_mov, s_pick, s_new, s_box, s_build, s_bslice, s_load1, s_loadn, s_nilck, s_bin, s_eqv, s_not, s_neg, s_i2i, s_s2s, s_s2b, s_iface, s_mkfn, s_faddr, s_fld1, s_iaddr, s_idxs, s_assert, s_extract, s_len, s_lens, s_lenc, s_callf, resO0, resO1, resO2, resO3, List.getElem?_cons_zero, List.getElem?_cons_succ, Nat.reduceEqDiff, true_and, and_true, false_and, e_sn, e_ss, e_pn, e_ps, e_bb, fill0, fill1, b_add, b_sub, b_mul, b_eql, b_neq, b_lss, b_leq, b_gtr, b_geq, b_and, b_or, b_xor, b_seql, b_sneq, b_slss, AQ.andThen, AQ.inBlock, Option.some.injEq, exists_eq_left', exists_eq_left, reduceCtorEq, Exit.exit.injEq]
  exact ⟨v', H', r, p⟩
theorem be_mod : ∀ w n k : Nat, w ≤ k → be w (n % 256 ^ k) = be w n
  | 0, _, _, _ => rfl
  | w + 1, n, k, h => by
    simp only [be]
    rw [be_mod w n k (by omega)]
    congr 1
    have h1 : n % 256 ^ k / 256 ^ w = n / 256 ^ w % 256 ^ (k - w) := by
      rw [show (256 : Nat) ^ k = 256 ^ w * 256 ^ (k - w) by rw [← Nat.pow_add]; congr 1; omega]
      rw [Nat.mod_mul_right_div_self]
    rw [h1]
    have h2 : (256 : Nat) ^ (k - w) = 256 * 256 ^ (k - w - 1) := by
      rw [← Nat.pow_succ']; congr 1; omega
    apply UInt8.toNat_inj.1
    simp only [UInt8.toNat_ofNat', h2]
    exact Nat.mod_mul_right_mod _ _ _
def num (l : List UInt8) : Nat := l.foldl (fun n b => (n * 256 + b.toNat) % 18446744073709551616) 0
theorem num_append (l : List UInt8) (b : UInt8) : num (l ++ [b]) = (num l * 256 + b.toNat) % 18446744073709551616 := by simp [num]
theorem or_byte (n : Nat) (b : UInt8) : (IntKind.u64.wrap ((BitVec.ofInt IntKind.u64.bits (IntKind.u64.wrap ((n : Int) * 2 ^ (min 8 IntKind.u64.bits))) ||| BitVec.ofInt IntKind.u64.bits (b.toNat : Int)).toNat : Int)) =
    (((n * 256 + b.toNat) % 18446744073709551616 : Nat) : Int) := by
  have hb := b.toNat_lt
  change IntKind.u64.wrap (((BitVec.ofInt 64 (IntKind.u64.wrap ((n : Int) * 2 ^ (min 8 64))) ||| BitVec.ofInt 64 (b.toNat : Int)).toNat : Nat) : Int) = _
  have e1 : (IntKind.u64.wrap ((n : Int) * 2 ^ (min 8 64))) = ((n * 256 % 18446744073709551616 : Nat) : Int) := by
    rw [wrap_u64]
    have : (2 : Int) ^ (min 8 64) = 256 := by decide
    rw [this]
    omega
  rw [e1]
  simp only [BitVec.ofInt_natCast, BitVec.toNat_or, BitVec.toNat_ofNat]
  have h1 : n * 256 % 18446744073709551616 % 2 ^ 64 = (n % 72057594037927936) <<< 8 := by
    rw [Nat.shiftLeft_eq]; omega
  have h2 : b.toNat % 2 ^ 64 = b.toNat := by omega
  rw [h1, h2, ← Nat.shiftLeft_add_eq_or_of_lt (by omega), wrap_u64, Nat.shiftLeft_eq]
  omega
theorem t102 {H : AHeap} {x : Value} {l : List UInt8} (hx : BS H x l) (hl : l.length ≤ 1000000000) : ARun Go.Proofs.Try.prog 0 102 [x] H (.int .u64 (num l)) H := by
  suffices h : ∃ v H', ARun Go.Proofs.Try.prog 0 102 [x] H v H' ∧ v = .int .u64 (num l) ∧ H' = H by
    obtain ⟨v, H', h1, h2, h3⟩ := h
    rw [h2, h3] at h1; exact h1
  refine walk f102_ok f102_n ?_
  simp only [f102, initFr, ↓reduceIte, RD_nil, RD_cons, RD_consg, W_dreg, obl_nil, Nat.reduceAdd, Nat.add_zero, Nat.zero_add, Nat.mul_one, Int.toNat_natCast, W_skip, W_reg, W_seq, W_cond, W_block, W_exit, W_ret, getD_nil', RW_nil, RW_cons, RW_consg, AOp.map, AX_fr, AX_tm, AX_c, AX_fn, AX_g, D_no, D_no', D_tm, D_tm', D_fr, D_fr', List.getD_cons_zero, List.getD_cons_succ, List.set_cons_zero, List.set_cons_succ, List.map_cons, List.map_nil, Option.map_some, Option.map_none, wantA, beq_self_eq_true, if_true, Bool.false_eq_true, if_false, Bool.not_true, Bool.not_false, s_mov, s_pick, s_new, s_box, s_build, s_bslice, s_load1, s_loadn, s_nilck, s_bin, s_eqv, s_not, s_neg, s_i2i, s_s2s, s_s2b, s_iface, s_mkfn, s_faddr, s_fld1, s_iaddr, s_idxs, s_assert, s_extract, s_len, s_lens, s_lenc, s_callf, resO0, resO1, resO2, resO3, List.getElem?_cons_zero, List.getElem?_cons_succ, Nat.reduceEqDiff, true_and, and_true, false_and, e_sn, e_ss, e_pn, e_ps, e_bb, fill0, fill1, b_add, b_sub, b_mul, b_eql, b_neq, b_lss, b_leq, b_gtr, b_geq, b_and, b_or, b_xor, b_seql, b_sneq, b_slss, AQ.andThen, AQ.inBlock, Option.some.injEq, exists_eq_left', exists_eq_left, reduceCtorEq, Exit.exit.injEq]
  refine W_loop (fun k fr H1 => ∃ (i : Nat) (c : Value), fr = [x, .int .u64 0, .int .u64 (num (l.take i)), .int .i64 i, c] ∧ i ≤ l.length ∧ k = l.length - i ∧ H1 = H) l.length ?_ ?_
  · exact ⟨0, undef, by simp [num], by omega, rfl, rfl⟩
  · rintro k fr H1 ⟨i, c, rfl, h1, rfl, rfl⟩
    obtain ⟨a, kk, hsh⟩ := hx.sh
    by_cases hi : i < l.length
    · obtain ⟨b, o, kc, rfl, hc⟩ := hx.split (fun e => by subst e; simp at hi)
      simp only [↓reduceIte, RD_nil, RD_cons, RD_consg, W_dreg, obl_nil, Nat.reduceAdd, Nat.add_zero, Nat.zero_add, Nat.mul_one, Int.toNat_natCast, W_skip, W_reg, W_seq, W_cond, W_block, W_exit, W_ret, getD_nil', RW_nil, RW_cons, RW_consg, AOp.map, AX_fr, AX_tm, AX_c, AX_fn, AX_g, D_no, D_no', D_tm, D_tm', D_fr, D_fr', List.getD_cons_zero, List.getD_cons_succ, List.set_cons_zero, List.set_cons_succ, List.map_cons, List.map_nil, Option.map_some, Option.map_none, wantA, beq_self_eq_true, if_true, Bool.false_eq_true, if_false, Bool.not_true, Bool.not_false, s_mov, s_pick, s_new, s_box, s_build, s_bslice, s_load1, s_loadn, s_nilck, s_bin, s_eqv, s_not, s_neg, s_i2i, s_s2s, s_s2b, s_iface, s_mkfn, s_faddr, s_fld1, s_iaddr, s_idxs, s_assert, s_extract, s_len, s_lens, s_lenc, s_callf, resO0, resO1, resO2, resO3, List.getElem?_cons_zero, List.getElem?_cons_succ, Nat.reduceEqDiff, true_and, and_true, false_and, e_sn, e_ss, e_pn, e_ps, e_bb, fill0, fill1, b_add, b_sub, b_mul, b_eql, b_neq, b_lss, b_leq, b_gtr, b_geq, b_and, b_or, b_xor, b_seql, b_sneq, b_slss, AQ.andThen, AQ.inBlock, Option.some.injEq, exists_eq_left', exists_eq_left, reduceCtorEq, Exit.exit.injEq, show (i : Int) < (l.length : Int) by omega, decide_true, hc i hi, b_shl _ _ _ _ (show (0 : Int) ≤ 8 by omega), wrap_u64 ((l[i].toNat : Int))]
      have e1 : ((l[i].toNat : Int) % 18446744073709551616) = (l[i].toNat : Int) := by have := l[i].toNat_lt; omega
      rw [show Int.toNat 8 = 8 from rfl, e1, or_byte, ← num_append, wrap_i64 (by omega) (by omega)]
      refine ⟨by omega, l.length - (i + 1), by omega, i + 1, .bool true, ?_, by omega, rfl⟩
      rw [List.take_succ_eq_append_getElem hi]
      rfl
    · subst hsh
      simp only [↓reduceIte, RD_nil, RD_cons, RD_consg, W_dreg, obl_nil, Nat.reduceAdd, Nat.add_zero, Nat.zero_add, Nat.mul_one, Int.toNat_natCast, W_skip, W_reg, W_seq, W_cond, W_block, W_exit, W_ret, getD_nil', RW_nil, RW_cons, RW_consg, AOp.map, AX_fr, AX_tm, AX_c, AX_fn, AX_g, D_no, D_no', D_tm, D_tm', D_fr, D_fr', List.getD_cons_zero, List.getD_cons_succ, List.set_cons_zero, List.set_cons_succ, List.map_cons, List.map_nil, Option.map_some, Option.map_none, wantA, beq_self_eq_true, if_true, Bool.false_eq_true, if_false, Bool.not_true, Bool.not_false, s_mov, s_pick, s_new, s_box, s_build, s_bslice, s_load1, s_loadn, s_nilck, s_bin, s_eqv, s_not, s_neg, s_i2i, s_s2s, s_s2b, s_iface, s_mkfn, s_faddr, s_fld1, s_iaddr, s_idxs, s_assert, s_extract, s_len, s_lens, s_lenc, s_callf, resO0, resO1, resO2, resO3, List.getElem?_cons_zero, List.getElem?_cons_succ, Nat.reduceEqDiff, true_and, and_true, false_and, e_sn, e_ss, e_pn, e_ps, e_bb, fill0, fill1, b_add, b_sub, b_mul, b_eql, b_neq, b_lss, b_leq, b_gtr, b_geq, b_and, b_or, b_xor, b_seql, b_sneq, b_slss, AQ.andThen, AQ.inBlock, Option.some.injEq, exists_eq_left', exists_eq_left, reduceCtorEq, Exit.exit.injEq, show ¬ (i : Int) < (l.length : Int) by omega, decide_false]
      rw [List.take_of_length_le (by omega)]
def RV (H : AHeap) (r bv : Nat) (v : Value) (l : List UInt8) : Prop :=
  (v = .slice none 0 0 ∧ l = [] ∧ bv = r) ∨ ∃ o c rm, v = slc bv o l.length l.length ∧ H.get bv = some (.cells true rm 1 c 5) ∧ bv ≠ r ∧ c.drop o = cellsOf l ∧ o ≤ c.length
def RS (H : AHeap) (r bv : Nat) (l : List UInt8) (bad : Bool) : Prop := ∃ v, H.get r = some (.cells true false 2 [v, .bool bad] 171) ∧ RV H r bv v l
theorem RV.bs {H : AHeap} {r bv : Nat} {v : Value} {l : List UInt8} (h : RV H r bv v l) : BS H v l := by
  rcases h with ⟨rfl, rfl, rfl⟩ | ⟨o, c, rm, rfl, h1, h2, h3, h4⟩
  · exact BS.nil H
  · refine ⟨⟨_, _, rfl⟩, ?_⟩
    have hl := congrArg List.length h3
    rw [List.length_drop, cellsOf_length] at hl
    simp only [elemsA, slc, h1]
    rw [if_pos (by omega), h3, List.take_of_length_le (by rw [cellsOf_length]; omega)]
theorem RV.chg {H H' : AHeap} {r bv : Nat} {v : Value} {l : List UInt8} {S : List Nat} (h : RV H r bv v l) (k : Chg S H H') (hS : bv ∉ S) : RV H' r bv v l := by
  rcases h with ⟨rfl, rfl, rfl⟩ | ⟨o, c, rm, rfl, h1, h2, h3, h4⟩
  · exact .inl ⟨rfl, rfl, rfl⟩
  · exact .inr ⟨o, c, rm, rfl, k.at_ h1 hS, h2, h3, h4⟩
theorem RS.chg {H H' : AHeap} {r bv : Nat} {l : List UInt8} {bad : Bool} {S : List Nat} (h : RS H r bv l bad) (k : Chg S H H') (h1 : r ∉ S) (h2 : bv ∉ S) : RS H' r bv l bad := by
  obtain ⟨v, a1, a2⟩ := h
  exact ⟨v, k.at_ a1 h1, a2.chg k h2⟩
theorem RS.lt {H : AHeap} {r bv : Nat} {l : List UInt8} {bad : Bool} (h : RS H r bv l bad) : r < H.n ∧ bv < H.n := by
  obtain ⟨v, a1, a2⟩ := h
  refine ⟨AHeap.get_lt a1, ?_⟩
  rcases a2 with ⟨_, _, rfl⟩ | ⟨o, c, rm, _, h1, _⟩
  · exact AHeap.get_lt a1
  · exact AHeap.get_lt h1
theorem t96 {H : AHeap} {x : Value} {l : List UInt8} (hx : BS H x l) (hl : l.length ≤ 1000000000) : ∃ v H', ARun Go.Proofs.Try.prog 0 96 [x] H v H' ∧ ∃ r bv, v = ptr r 0 ∧ RS H' r bv l false ∧ H.n ≤ r ∧ H.n ≤ bv ∧ Keeps H H' := by
  refine walk f96_ok f96_n ?_
  obtain ⟨v, H1, r31, p1, p2, p3⟩ := t73 hx hl
  simp only [f96, initFr, ↓reduceIte, RD_nil, RD_cons, RD_consg, W_dreg, obl_nil, Nat.reduceAdd, Nat.add_zero, Nat.zero_add, Nat.mul_one, Int.toNat_natCast, W_skip, W_reg, W_seq, W_cond, W_block, W_exit, W_ret, getD_nil', RW_nil, RW_cons, RW_consg, AOp.map, AX_fr, AX_tm, AX_c, AX_fn, AX_g, D_no, D_no', D_tm, D_tm', D_fr, D_fr', List.getD_cons_zero, List.getD_cons_succ, List.set_cons_zero, List.set_cons_succ, List.map_cons, List.map_nil, Option.map_some, Option.map_none, wantA, beq_self_eq_true, if_true, Bool.false_eq_true, if_false, Bool.not_true, Bool.not_false, s_mov, s_pick, s_new, s_box, s_build, s_bslice, s_load1, s_loadn, s_nilck, s_bin, s_eqv, s_not, s_neg, s_i2i, s_s2s, s_s2b, s_iface, s_mkfn, s_faddr, s_fld1, s_iaddr, s_idxs, s_assert, s_extract, s_len, s_lens, s_lenc, s_callf, resO0, resO1, resO2, resO3, List.getElem?_cons_zero, List.getElem?_cons_succ, Nat.reduceEqDiff, true_and, and_true, false_and, e_sn, e_ss, e_pn, e_ps, e_bb, fill0, fill1, b_add, b_sub, b_mul, b_eql, b_neq, b_lss, b_leq, b_gtr, b_geq, b_and, b_or, b_xor, b_seql, b_sneq, b_slss, AQ.andThen, AQ.inBlock, Option.some.injEq, exists_eq_left', exists_eq_left, reduceCtorEq, Exit.exit.injEq]
  refine ⟨_, _, r31, ?_⟩
  obtain ⟨a, ha⟩ := p1.shape
  have hf : fillA [.slice none 0 0, .bool false] [(0, 1, v)] = some [v, .bool false] := by rw [ha]; rfl
  refine ⟨_, hf, ?_⟩
  simp only [↓reduceIte, RD_nil, RD_cons, RD_consg, W_dreg, obl_nil, Nat.reduceAdd, Nat.add_zero, Nat.zero_add, Nat.mul_one, Int.toNat_natCast, W_skip, W_reg, W_seq, W_cond, W_block, W_exit, W_ret, getD_nil', RW_nil, RW_cons, RW_consg, AOp.map, AX_fr, AX_tm, AX_c, AX_fn, AX_g, D_no, D_no', D_tm, D_tm', D_fr, D_fr', List.getD_cons_zero, List.getD_cons_succ, List.set_cons_zero, List.set_cons_succ, List.map_cons, List.map_nil, Option.map_some, Option.map_none, wantA, beq_self_eq_true, if_true, Bool.false_eq_true, if_false, Bool.not_true, Bool.not_false, s_mov, s_pick, s_new, s_box, s_build, s_bslice, s_load1, s_loadn, s_nilck, s_bin, s_eqv, s_not, s_neg, s_i2i, s_s2s, s_s2b, s_iface, s_mkfn, s_faddr, s_fld1, s_iaddr, s_idxs, s_assert, s_extract, s_len, s_lens, s_lenc, s_callf, resO0, resO1, resO2, resO3, List.getElem?_cons_zero, List.getElem?_cons_succ, Nat.reduceEqDiff, true_and, and_true, false_and, e_sn, e_ss, e_pn, e_ps, e_bb, fill0, fill1, b_add, b_sub, b_mul, b_eql, b_neq, b_lss, b_leq, b_gtr, b_geq, b_and, b_or, b_xor, b_seql, b_sneq, b_slss, AQ.andThen, AQ.inBlock, Option.some.injEq, exists_eq_left', exists_eq_left, reduceCtorEq, Exit.exit.injEq, Value.cells]
  refine ⟨by rw [ha]; rfl, H1.n, ?_⟩
  have hK := (Keeps.refl H1).alloc (.cells true false 2 [v, .bool false] 171)
  have hg := AHeap.get_alloc_new H1 (.cells true false 2 [v, .bool false] 171)
  rcases p1 with ⟨rfl, h2, h3⟩ | ⟨b, room, rfl, h1, h2⟩
  · have hl0 : l = [] := List.length_eq_zero_iff.1 h2
    subst hl0
    exact ⟨H1.n, rfl, ⟨_, hg, .inl ⟨rfl, rfl, rfl⟩⟩, p2.n, p2.n, p2.trans hK⟩
  · have hb := AHeap.get_lt h2
    exact ⟨b, rfl, ⟨_, hg, .inr ⟨0, _, room, rfl, hK.at_ h2, by omega, by rw [List.drop_zero], by omega⟩⟩, p2.n, p3 b rfl, p2.trans hK⟩
def TK (H H' : AHeap) (r bv : Nat) (l : List UInt8) (n : Nat) (v : Value) : Prop :=
  Chg [r] H H' ∧ ((v = .slice none 0 0 ∧ l = [] ∧ n = 0 ∧ bv = r ∧ H'.get r = some (.cells true false 2 [.slice none 0 0, .bool false] 171)) ∨
    ∃ o c rm, v = slc bv o n n ∧ H'.get r = some (.cells true false 2 [slc bv (o + n) (l.length - n) (l.length - n), .bool false] 171) ∧ H'.get bv = some (.cells true rm 1 c 5) ∧ bv ≠ r ∧ c.drop o = cellsOf l ∧ o + n ≤ c.length)
theorem TK.rs {H H' : AHeap} {r bv : Nat} {l : List UInt8} {n : Nat} {v : Value} (h : TK H H' r bv l n v) : RS H' r bv (l.drop n) false := by
  obtain ⟨_, ⟨rfl, rfl, rfl, rfl, h1⟩ | ⟨o, c, rm, rfl, h1, h2, h3, h4, h5⟩⟩ := h
  · exact ⟨_, h1, .inl ⟨rfl, rfl, rfl⟩⟩
  · refine ⟨_, h1, .inr ⟨o + n, c, rm, by rw [List.length_drop], h2, h3, ?_, h5⟩⟩
    rw [← List.drop_drop, h4]
    simp [cellsOf, List.map_drop]
theorem TK.bs {H H' : AHeap} {r bv : Nat} {l : List UInt8} {n : Nat} {v : Value} (h : TK H H' r bv l n v) (hn : n ≤ l.length) : BS H' v (l.take n) := by
  obtain ⟨_, ⟨rfl, rfl, rfl, rfl, h1⟩ | ⟨o, c, rm, rfl, h1, h2, h3, h4, h5⟩⟩ := h
  · exact BS.nil H'
  · refine ⟨⟨some ⟨bv, o, none⟩, n, by rw [List.length_take, Nat.min_eq_left hn]; rfl⟩, ?_⟩
    simp only [elemsA, slc, h2, Nat.mul_one]
    rw [if_pos h5, h4]
    simp [cellsOf, List.map_take]
theorem t103 {H : AHeap} {r bv : Nat} {l : List UInt8} {bad : Bool} (h : RS H r bv l bad) (n : Int) (hl : l.length ≤ 1000000000) :
    ∃ v H', ARun Go.Proofs.Try.prog 0 103 [ptr r 0, .int .i64 n] H v H' ∧ if bad = true ∨ n < 0 ∨ (l.length : Int) < n then v = .slice none 0 0 ∧ RS H' r r [] true ∧ Chg [r] H H' else TK H H' r bv l n.toNat v := by
  refine walk2 f103_ok f103_n ?_
  intro Q hq1 hq2
  obtain ⟨v, h1, h2⟩ := h
  obtain ⟨a, k, hsh⟩ := h2.bs.sh
  have hrn := AHeap.get_lt h1
  have e1 : ∀ x : Value, (H.set r (.cells true false 2 [x, .bool bad] 171)).get r = some (.cells true false 2 [x, .bool bad] 171) := fun x => AHeap.get_set_same h1 _
  have fail : RS ((H.set r (.cells true false 2 [.slice none 0 0, .bool bad] 171)).set r (.cells true false 2 [.slice none 0 0, .bool true] 171)) r r [] true ∧ Chg [r] H ((H.set r (.cells true false 2 [.slice none 0 0, .bool bad] 171)).set r (.cells true false 2 [.slice none 0 0, .bool true] 171)) :=
    ⟨⟨_, AHeap.get_set_same (e1 _) _, .inl ⟨rfl, rfl, rfl⟩⟩, (Chg.set H hrn _).trans (Chg.set (H.set r _) hrn _) (fun x hx => .inl hx)⟩
  by_cases hbad : bad = true
  · subst hbad
    simp only [f103, W_block, ANs, AOp.map, ↓reduceIte, Nat.reduceAdd, Nat.reduceEqDiff, reduceCtorEq, initFr, Nat.reduceLT, ANc, cellA_of h1, a_st h1, a_st (e1 _)]
    refine hq2 _ _ ⟨_, rfl, ?_⟩
    rw [if_pos (.inl rfl)]
    exact ⟨rfl, fail⟩
  · have hb0 : bad = false := by simpa using hbad
    subst hb0
    by_cases hn : n < 0
    · simp only [f103, W_block, ANs, AOp.map, ↓reduceIte, Nat.reduceAdd, Nat.reduceEqDiff, reduceCtorEq, initFr, Nat.reduceLT, ANc, cellA_of h1, hn, decide_true, a_st h1, a_st (e1 _)]
      refine hq2 _ _ ⟨_, rfl, ?_⟩
      rw [if_pos (.inr (.inl hn))]
      exact ⟨rfl, fail⟩
    · by_cases hn2 : (l.length : Int) < n
      · subst hsh
        simp only [f103, W_block, ANs, AOp.map, ↓reduceIte, Nat.reduceAdd, Nat.reduceEqDiff, reduceCtorEq, initFr, Nat.reduceLT, ANc, cellA_of h1, hn, decide_true, decide_false, hn2, a_st h1, a_st (e1 _)]
        refine hq2 _ _ ⟨_, rfl, ?_⟩
        rw [if_pos (.inr (.inr hn2))]
        exact ⟨rfl, fail⟩
      · obtain ⟨m, rfl⟩ : ∃ m : Nat, n = m := ⟨n.toNat, by omega⟩
        have hm : m ≤ l.length := by omega
        rcases h2 with ⟨rfl, rfl, rfl⟩ | ⟨o, c, rm, rfl, g1, g2, g3, g4⟩
        · have hm0 : m = 0 := by simpa using hm
          have z1 : ∀ k : IntKind, bndA (some (.int k (m : Int))) 0 0 = some 0 := fun k => by rw [hm0]; exact bnd_some k 0 0 0 (Nat.le_refl _)
          have hn3 : ¬ (((0 : Nat) : Int) < (m : Int)) := by omega
          simp only [f103, W_block, ANs, AOp.map, ↓reduceIte, Nat.reduceAdd, Nat.reduceEqDiff, reduceCtorEq, initFr, Nat.reduceLT, ANc, cellA_of h1, hn, decide_true, decide_false, hn3, a_slsl_nil ⟨0, 0, 0, z1 .i64, z1 .i64, bnd_none 0 0⟩, a_slsl_nil ⟨0, 0, 0, bnd_none 0 0, bnd_none 0 0, z1 .i64⟩, a_st h1]
          refine hq2 _ _ ⟨_, rfl, ?_⟩
          rw [if_neg (by simp; omega)]
          exact ⟨Chg.set H hrn _, .inl ⟨rfl, rfl, hm0, rfl, AHeap.get_set_same h1 _⟩⟩
        · simp only [f103, W_block, ANs, AOp.map, ↓reduceIte, Nat.reduceAdd, Nat.reduceEqDiff, reduceCtorEq, initFr, Nat.reduceLT, ANc, cellA_of h1, hn, decide_true, decide_false, hn2, a_slsl g1 (bnd_some .i64 m l.length l.length hm) (bnd_some .i64 m l.length m (Nat.le_refl _)) (bnd_none 0 m),
            a_slsl g1 (bnd_none l.length l.length) (bnd_none l.length l.length) (bnd_some .i64 m 0 l.length hm), a_st h1, Nat.sub_zero, Nat.zero_mul]
          refine hq2 _ _ ⟨_, rfl, ?_⟩
          rw [if_neg (by simp; omega)]
          exact ⟨Chg.set H hrn _, .inr ⟨o, c, rm, rfl, AHeap.get_set_same h1 _, by rw [AHeap.get_set_other H g2 hrn]; exact g1, g2, g3, by
            have hl := congrArg List.length g3
            rw [List.length_drop, cellsOf_length] at hl
            simp only [Int.toNat_natCast]; omega⟩⟩
def failB (l : List UInt8) (bad : Bool) (n : Int) : Prop := bad = true ∨ n < 0 ∨ (l.length : Int) < n
instance (l : List UInt8) (bad : Bool) (n : Int) : Decidable (failB l bad n) := by unfold failB; infer_instance
def gotL (l : List UInt8) (bad : Bool) (n : Int) : List UInt8 := if failB l bad n then [] else l.take n.toNat
def restL (l : List UInt8) (bad : Bool) (n : Int) : List UInt8 := if failB l bad n then [] else l.drop n.toNat
def badB (l : List UInt8) (bad : Bool) (n : Int) : Bool := decide (failB l bad n)
def Aft (H H' : AHeap) (r bv : Nat) (l : List UInt8) (bad : Bool) (n : Int) : Prop := ∃ bv', RS H' r bv' (restL l bad n) (badB l bad n) ∧ (bv' = bv ∨ bv' = r)
theorem t103' {H : AHeap} {r bv : Nat} {l : List UInt8} {bad : Bool} (h : RS H r bv l bad) (n : Int) (hl : l.length ≤ 1000000000) :
    ∃ v H', ARun Go.Proofs.Try.prog 0 103 [ptr r 0, .int .i64 n] H v H' ∧ BS H' v (gotL l bad n) ∧ Aft H H' r bv l bad n ∧ Chg [r] H H' ∧ ((v = .slice none 0 0 ∧ gotL l bad n = []) ∨ (¬ failB l bad n ∧ TK H H' r bv l n.toNat v)) := by
  obtain ⟨v, H', q, p⟩ := t103 h n hl
  refine ⟨v, H', q, ?_⟩
  by_cases hf : failB l bad n
  · rw [if_pos (show bad = true ∨ n < 0 ∨ (l.length : Int) < n from hf)] at p
    obtain ⟨rfl, p1, p2⟩ := p
    have hb : badB l bad n = true := by simp [badB, hf]
    refine ⟨by simp only [gotL, hf, if_true]; exact BS.nil H', ⟨r, by rw [hb]; simp only [restL, hf, if_true]; exact p1, .inr rfl⟩, p2, .inl ⟨rfl, by simp [gotL, hf]⟩⟩
  · rw [if_neg (show ¬ (bad = true ∨ n < 0 ∨ (l.length : Int) < n) from hf)] at p
    have hb : badB l bad n = false := by simp [badB, hf]
    have hn : n.toNat ≤ l.length := by unfold failB at hf; omega
    refine ⟨by simp only [gotL, hf, if_false]; exact p.bs hn, ⟨bv, by rw [hb]; simp only [restL, hf, if_false]; exact p.rs, .inl rfl⟩, p.1, .inr ⟨hf, p⟩⟩
def tyR (k : Nat) : Nat := if k = 0 then 5 else if k = 1 then 111 else if k = 2 then 25 else 24
def kdR (k : Nat) : IntKind := if k = 0 then .u8 else if k = 1 then .u16 else if k = 2 then .u32 else .u64
theorem fold_le : ∀ (l : List UInt8) (a : Nat), l.foldl (fun n b => (n * 256 + b.toNat) % 18446744073709551616) a + 1 ≤ a * 256 ^ l.length + 256 ^ l.length
  | [], a => by simp
  | b :: l, a => by
    have h := fold_le l ((a * 256 + b.toNat) % 18446744073709551616)
    have hb := b.toNat_lt
    have h1 : (a * 256 + b.toNat) % 18446744073709551616 ≤ a * 256 + 255 := Nat.le_trans (Nat.mod_le _ _) (by omega)
    have h2 : ((a * 256 + b.toNat) % 18446744073709551616) * 256 ^ l.length ≤ (a * 256 + 255) * 256 ^ l.length := Nat.mul_le_mul_right _ h1
    simp only [List.foldl_cons, List.length_cons, Nat.pow_succ]
    have h3 : (a * 256 + 255) * 256 ^ l.length + 256 ^ l.length = a * (256 ^ l.length * 256) + 256 ^ l.length * 256 := by
      rw [Nat.add_mul, Nat.mul_assoc, Nat.mul_comm 256 (256 ^ l.length)]; omega
    omega
theorem num_lt' (l : List UInt8) : num l < 256 ^ l.length := by
  have := fold_le l 0
  unfold num
  omega
theorem t110 {H : AHeap} {x : Value} {l : List UInt8} (hx : BS H x l) (k : Nat) (hk : k < 4) (hl : l.length ≤ 2 ^ k) : ∃ v H', ARun Go.Proofs.Try.prog 0 110 [x, .int .i64 ((2 ^ k : Nat) : Int)] H v H' ∧ v = .iface (tyR k) (.int (kdR k) (num l)) ∧ H' = H := by
  refine walk2 f110_ok f110_n ?_
  intro Q hq1 hq2
  obtain ⟨a, kk, hsh⟩ := hx.sh
  have hp8 : 2 ^ k ≤ 8 := by
    have c0 : k = 0 ∨ k = 1 ∨ k = 2 ∨ k = 3 := by omega
    rcases c0 with rfl | rfl | rfl | rfl <;> decide
  rw [hsh]
  simp only [f110, W_block, ANs, AOp.map, ↓reduceIte, Nat.reduceAdd, Nat.reduceEqDiff, reduceCtorEq, initFr, Nat.reduceLT, ANc]
  refine W_loop2 (fun q fr H1 => ∃ (i : Nat) (z y : Value), fr = [.slice a l.length kk, .int .i64 ((2 ^ k : Nat) : Int), .nilIface, .int .u64 (num (l.take i)), y, .slice a l.length kk, .int .i64 l.length, .int .i64 i, z, undef, undef, undef, undef] ∧ i ≤ l.length ∧ q = l.length - i ∧ H1 = H) l.length ?_ ?_
  · exact ⟨0, undef, undef, by simp [num], by omega, by omega, rfl⟩
  · rintro Q' q fr H1 ⟨i, z, y, rfl, h1, rfl, rfl⟩ hnext hexit hret
    by_cases hi : i < l.length
    · obtain ⟨b, o, kc, hs, hc⟩ := hx.split (fun e => by subst e; simp at hi)
      rw [hsh] at hs
      have e1 : ((l[i].toNat : Int) % 18446744073709551616) = (l[i].toNat : Int) := by have := l[i].toNat_lt; omega
      rw [hs]
      simp only [W_block, ANs, AOp.map, ↓reduceIte, Nat.reduceAdd, Nat.reduceEqDiff, reduceCtorEq, initFr, Nat.reduceLT, ANc, show (i : Int) < (l.length : Int) by omega, decide_true, show (0 : Int) ≤ (i : Int) by omega, hc i hi, b_shl _ _ _ _ (show (0 : Int) ≤ 8 by omega), wrap_u64 ((l[i].toNat : Int)), show Int.toNat 8 = 8 from rfl, e1, or_byte, ← num_append, wrap_succ (n := i) (by omega)]
      refine hnext _ _ _ ⟨i + 1, _, _, by rw [List.take_succ_eq_append_getElem hi, hs], by omega, rfl, rfl⟩ (by omega)
    · simp only [W_block, ANs, AOp.map, ↓reduceIte, Nat.reduceAdd, Nat.reduceEqDiff, reduceCtorEq, initFr, Nat.reduceLT, ANc, show ¬ (i : Int) < (l.length : Int) by omega, decide_false]
      refine hexit _ _ _ ?_
      have hnum := num_lt' l
      rw [List.take_of_length_le (by omega)]
      have hpw : 256 ^ l.length ≤ 256 ^ (2 ^ k) := Nat.pow_le_pow_right (by omega) hl
      have c0 : k = 0 ∨ k = 1 ∨ k = 2 ∨ k = 3 := by omega
      rcases c0 with rfl | rfl | rfl | rfl
      · simp only [W_block, ANs, AOp.map, ↓reduceIte, Nat.reduceAdd, Nat.reduceEqDiff, reduceCtorEq, initFr, Nat.reduceLT, ANc, show ((((2 ^ 0 : Nat) : Int)) == 1) = true by decide]
        refine hq2 _ _ ⟨_, rfl, ?_, rfl⟩
        rw [wrap_u8, Int.emod_eq_of_lt (by omega) (by omega)]
        rfl
      · simp only [W_block, ANs, AOp.map, ↓reduceIte, Nat.reduceAdd, Nat.reduceEqDiff, reduceCtorEq, initFr, Nat.reduceLT, ANc, show ((((2 ^ 1 : Nat) : Int)) == 1) = false by decide, show ((((2 ^ 1 : Nat) : Int)) == 2) = true by decide]
        refine hq2 _ _ ⟨_, rfl, ?_, rfl⟩
        rw [wrap_u16, Int.emod_eq_of_lt (by omega) (by omega)]
        rfl
      · simp only [W_block, ANs, AOp.map, ↓reduceIte, Nat.reduceAdd, Nat.reduceEqDiff, reduceCtorEq, initFr, Nat.reduceLT, ANc, show ((((2 ^ 2 : Nat) : Int)) == 1) = false by decide, show ((((2 ^ 2 : Nat) : Int)) == 2) = false by decide, show ((((2 ^ 2 : Nat) : Int)) == 4) = true by decide]
        refine hq2 _ _ ⟨_, rfl, ?_, rfl⟩
        rw [wrap_u32, Int.emod_eq_of_lt (by omega) (by omega)]
        rfl
      · simp only [W_block, ANs, AOp.map, ↓reduceIte, Nat.reduceAdd, Nat.reduceEqDiff, reduceCtorEq, initFr, Nat.reduceLT, ANc, show ((((2 ^ 3 : Nat) : Int)) == 1) = false by decide, show ((((2 ^ 3 : Nat) : Int)) == 2) = false by decide, show ((((2 ^ 3 : Nat) : Int)) == 4) = false by decide]
        exact hq2 _ _ ⟨_, rfl, rfl, rfl⟩
theorem got_le (l : List UInt8) (bad : Bool) (n : Int) : ((gotL l bad n).length : Int) ≤ max n 0 := by
  unfold gotL
  split
  · simp; omega
  · rw [List.length_take]; omega
theorem t98 {H : AHeap} {r bv : Nat} {l : List UInt8} {bad : Bool} (h : RS H r bv l bad) (k : Nat) (hk : k < 4) (hl : l.length ≤ 1000000000) :
    ∃ v H', ARun Go.Proofs.Try.prog 0 98 [ptr r 0, .int .i64 ((2 ^ k : Nat) : Int)] H v H' ∧ v = .iface (tyR k) (.int (kdR k) (num (gotL l bad ((2 ^ k : Nat) : Int)))) ∧ Aft H H' r bv l bad ((2 ^ k : Nat) : Int) ∧ Chg [r] H H' := by
  refine walk2 f98_ok f98_n ?_
  intro Q hq1 hq2
  obtain ⟨v, H1, r1, p1, p2, p3, _⟩ := t103' h ((2 ^ k : Nat) : Int) hl
  simp only [f98, W_block, ANs, AOp.map, ↓reduceIte, Nat.reduceAdd, Nat.reduceEqDiff, reduceCtorEq, initFr, Nat.reduceLT, ANc]
  refine ⟨_, _, r1, ?_⟩
  simp only [W_block, ANs, AOp.map, ↓reduceIte, Nat.reduceAdd, Nat.reduceEqDiff, reduceCtorEq, initFr, Nat.reduceLT, ANc]
  have hle := got_le l bad ((2 ^ k : Nat) : Int)
  rw [Int.max_eq_left (Int.natCast_nonneg _)] at hle
  obtain ⟨v2, H2, r2, rfl, rfl⟩ := t110 p1 k hk (Int.ofNat_le.1 hle)
  refine ⟨_, _, r2, ?_⟩
  simp only [W_block, ANs, AOp.map, ↓reduceIte, Nat.reduceAdd, Nat.reduceEqDiff, reduceCtorEq, initFr, Nat.reduceLT, ANc]
  exact hq2 _ _ ⟨_, rfl, rfl, p2, p3⟩
theorem t63 {H : AHeap} {r bv : Nat} {l : List UInt8} {bad : Bool} (h : RS H r bv l bad) (hl : l.length ≤ 1000000000) :
    ∃ v H', ARun Go.Proofs.Try.prog 0 63 [ptr r 0] H v H' ∧ v = .int .u8 (num (gotL l bad 1)) ∧ Aft H H' r bv l bad 1 ∧ Chg [r] H H' := by
  refine walk2 f63_ok f63_n ?_
  intro Q hq1 hq2
  obtain ⟨v, H1, r1, rfl, p2, p3⟩ := t98 h 0 (by omega) hl
  simp only [f63, W_block, ANs, AOp.map, ↓reduceIte, Nat.reduceAdd, Nat.reduceEqDiff, reduceCtorEq, initFr, Nat.reduceLT, ANc]
  refine ⟨_, _, r1, ?_⟩
  simp only [W_block, ANs, AOp.map, ↓reduceIte, Nat.reduceAdd, Nat.reduceEqDiff, reduceCtorEq, initFr, Nat.reduceLT, ANc, tyR, kdR]
  exact hq2 _ _ ⟨_, rfl, rfl, p2, p3⟩
theorem t75 {H : AHeap} {r bv : Nat} {l : List UInt8} {bad : Bool} (h : RS H r bv l bad) (hl : l.length ≤ 1000000000) :
    ∃ v H', ARun Go.Proofs.Try.prog 0 75 [ptr r 0] H v H' ∧ v = .int .u16 (num (gotL l bad 2)) ∧ Aft H H' r bv l bad 2 ∧ Chg [r] H H' := by
  refine walk2 f75_ok f75_n ?_
  intro Q hq1 hq2
  obtain ⟨v, H1, r1, rfl, p2, p3⟩ := t98 h 1 (by omega) hl
  simp only [f75, W_block, ANs, AOp.map, ↓reduceIte, Nat.reduceAdd, Nat.reduceEqDiff, reduceCtorEq, initFr, Nat.reduceLT, ANc]
  refine ⟨_, _, r1, ?_⟩
  simp only [W_block, ANs, AOp.map, ↓reduceIte, Nat.reduceAdd, Nat.reduceEqDiff, reduceCtorEq, initFr, Nat.reduceLT, ANc, tyR, kdR]
  exact hq2 _ _ ⟨_, rfl, rfl, p2, p3⟩
theorem t65 {H : AHeap} {r bv : Nat} {l : List UInt8} {bad : Bool} (h : RS H r bv l bad) (hl : l.length ≤ 1000000000) :
    ∃ v H', ARun Go.Proofs.Try.prog 0 65 [ptr r 0] H v H' ∧ v = .int .u32 (num (gotL l bad 4)) ∧ Aft H H' r bv l bad 4 ∧ Chg [r] H H' := by
  refine walk2 f65_ok f65_n ?_
  intro Q hq1 hq2
  obtain ⟨v, H1, r1, rfl, p2, p3⟩ := t98 h 2 (by omega) hl
  simp only [f65, W_block, ANs, AOp.map, ↓reduceIte, Nat.reduceAdd, Nat.reduceEqDiff, reduceCtorEq, initFr, Nat.reduceLT, ANc]
  refine ⟨_, _, r1, ?_⟩
  simp only [W_block, ANs, AOp.map, ↓reduceIte, Nat.reduceAdd, Nat.reduceEqDiff, reduceCtorEq, initFr, Nat.reduceLT, ANc, tyR, kdR]
  exact hq2 _ _ ⟨_, rfl, rfl, p2, p3⟩
theorem t64 {H : AHeap} {r bv : Nat} {l : List UInt8} {bad : Bool} (h : RS H r bv l bad) (hl : l.length ≤ 1000000000) :
    ∃ v H', ARun Go.Proofs.Try.prog 0 64 [ptr r 0] H v H' ∧ v = .int .u64 (num (gotL l bad 8)) ∧ Aft H H' r bv l bad 8 ∧ Chg [r] H H' := by
  refine walk2 f64_ok f64_n ?_
  intro Q hq1 hq2
  obtain ⟨v, H1, r1, rfl, p2, p3⟩ := t98 h 3 (by omega) hl
  simp only [f64, W_block, ANs, AOp.map, ↓reduceIte, Nat.reduceAdd, Nat.reduceEqDiff, reduceCtorEq, initFr, Nat.reduceLT, ANc]
  refine ⟨_, _, r1, ?_⟩
  simp only [W_block, ANs, AOp.map, ↓reduceIte, Nat.reduceAdd, Nat.reduceEqDiff, reduceCtorEq, initFr, Nat.reduceLT, ANc, tyR, kdR]
  exact hq2 _ _ ⟨_, rfl, rfl, p2, p3⟩
theorem t74 {H : AHeap} {r bv : Nat} {l : List UInt8} {bad : Bool} (h : RS H r bv l bad) (n : Int) (hl : l.length ≤ 1000000000) :
    ∃ v H', ARun Go.Proofs.Try.prog 0 74 [ptr r 0, .int .i64 n] H v H' ∧ BS H' v (gotL l bad n) ∧ Aft H H' r bv l bad n ∧ Chg [r] H H' ∧ ((v = .slice none 0 0 ∧ gotL l bad n = []) ∨ (¬ failB l bad n ∧ TK H H' r bv l n.toNat v)) := by
  refine walk2 f74_ok f74_n ?_
  intro Q hq1 hq2
  obtain ⟨v, H1, r1, p⟩ := t103' h n hl
  simp only [f74, W_block, ANs, AOp.map, ↓reduceIte, Nat.reduceAdd, Nat.reduceEqDiff, reduceCtorEq, initFr, Nat.reduceLT, ANc]
  refine ⟨_, _, r1, ?_⟩
  simp only [W_block, ANs, AOp.map, ↓reduceIte, Nat.reduceAdd, Nat.reduceEqDiff, reduceCtorEq, initFr, Nat.reduceLT, ANc]
  exact hq2 _ _ ⟨_, rfl, p⟩
theorem t99 {H : AHeap} {r bv : Nat} {l : List UInt8} {bad : Bool} (h : RS H r bv l bad) : ∃ v H', ARun Go.Proofs.Try.prog 0 99 [ptr r 0] H v H' ∧ v = .bool bad ∧ H' = H := by
  refine walk2 f99_ok f99_n ?_
  intro Q hq1 hq2
  obtain ⟨v, h1, h2⟩ := h
  simp only [f99, W_block, ANs, AOp.map, ↓reduceIte, Nat.reduceAdd, Nat.reduceEqDiff, reduceCtorEq, initFr, Nat.reduceLT, ANc, cellA_of h1]
  exact hq2 _ _ ⟨_, rfl, rfl, rfl⟩
theorem t100 {H : AHeap} {r bv : Nat} {l : List UInt8} {bad : Bool} (h : RS H r bv l bad) : ∃ v H', ARun Go.Proofs.Try.prog 0 100 [ptr r 0] H v H' ∧ v = .int .i64 l.length ∧ H' = H := by
  refine walk2 f100_ok f100_n ?_
  intro Q hq1 hq2
  obtain ⟨v, h1, h2⟩ := h
  obtain ⟨a, k, rfl⟩ := h2.bs.sh
  simp only [f100, W_block, ANs, AOp.map, ↓reduceIte, Nat.reduceAdd, Nat.reduceEqDiff, reduceCtorEq, initFr, Nat.reduceLT, ANc, cellA_of h1]
  exact hq2 _ _ ⟨_, rfl, rfl, rfl⟩
end Go.AM.Fd

set_option linter.unusedSimpArgs false
set_option linter.unusedVariables false
namespace Go.AM
theorem ofI (n a : Nat) : BitVec.ofInt n (a : Int) = BitVec.ofNat n a := BitVec.ofInt_natCast ..
theorem bv_xor (n a b : Nat) : (BitVec.ofInt n (a : Int) ^^^ BitVec.ofInt n (b : Int)).toNat = (a ^^^ b) % 2 ^ n := by
  rw [ofI, ofI, BitVec.toNat_xor, BitVec.toNat_ofNat, BitVec.toNat_ofNat, Nat.xor_mod_two_pow]
theorem bv_and (n a b : Nat) : (BitVec.ofInt n (a : Int) &&& BitVec.ofInt n (b : Int)).toNat = (a &&& b) % 2 ^ n := by
  rw [ofI, ofI, BitVec.toNat_and, BitVec.toNat_ofNat, BitVec.toNat_ofNat, Nat.and_mod_two_pow]
def uk (k : IntKind) : Bool := !k.signed
theorem wrapU {k : IntKind} (h : uk k = true) (n : Nat) (hn : n < 2 ^ k.bits) : k.wrap (n : Int) = n := by
  cases k <;> simp [uk, IntKind.signed] at h <;> simp [IntKind.wrap, IntKind.bits, IntKind.signed] at hn ⊢ <;> omega
theorem w_xor {k : IntKind} (hk : uk k = true) {a b : Nat} (ha : a < 2 ^ k.bits) (hb : b < 2 ^ k.bits) : k.wrap ((BitVec.ofInt k.bits (a : Int) ^^^ BitVec.ofInt k.bits (b : Int)).toNat : Int) = ((a ^^^ b : Nat) : Int) := by
  rw [bv_xor, Nat.mod_eq_of_lt (Nat.xor_lt_two_pow ha hb), wrapU hk _ (Nat.xor_lt_two_pow ha hb)]
theorem w_and {k : IntKind} (hk : uk k = true) {a b : Nat} (ha : a < 2 ^ k.bits) : k.wrap ((BitVec.ofInt k.bits (a : Int) &&& BitVec.ofInt k.bits (b : Int)).toNat : Int) = ((a &&& b : Nat) : Int) := by
  have : a &&& b < 2 ^ k.bits := Nat.lt_of_le_of_lt Nat.and_le_left ha
  rw [bv_and, Nat.mod_eq_of_lt this, wrapU hk _ this]
theorem w_xor32 {a b : Nat} (ha : a < 4294967296) (hb : b < 4294967296) : IntKind.u32.wrap ((BitVec.ofInt IntKind.u32.bits (a : Int) ^^^ BitVec.ofInt IntKind.u32.bits (b : Int)).toNat : Int) = ((a ^^^ b : Nat) : Int) := w_xor (k := .u32) rfl ha hb
theorem w_xor8 {a b : Nat} (ha : a < 256) (hb : b < 256) : IntKind.u8.wrap ((BitVec.ofInt IntKind.u8.bits (a : Int) ^^^ BitVec.ofInt IntKind.u8.bits (b : Int)).toNat : Int) = ((a ^^^ b : Nat) : Int) := w_xor (k := .u8) rfl ha hb
theorem w_and1 {k : IntKind} (hk : uk k = true) {a : Nat} (ha : a < 2 ^ k.bits) : k.wrap ((BitVec.ofInt k.bits (a : Int) &&& BitVec.ofInt k.bits 1).toNat : Int) = ((a % 2 : Nat) : Int) := by
  have := w_and hk (b := 1) ha
  rw [Nat.and_one_is_mod] at this; exact this
theorem b_shrN {k k' : IntKind} {n s : Nat} (h : s ≤ k.bits) : binA .shr (.int k (n : Int)) (.int k' (s : Int)) = some (.int k ((n / 2 ^ s : Nat) : Int)) := by
  rw [b_shr _ _ _ _ (Int.natCast_nonneg s), Int.toNat_natCast, Nat.min_eq_left h, Int.fdiv_eq_ediv_of_nonneg _ (Int.le_of_lt (Int.pow_pos (by omega)))]
  simp
theorem a_uxor {H : AHeap} {k : IntKind} {n : Int} : asem (.un .xor (.int k n)) H = some (.int k (k.wrap (BitVec.ofInt k.bits (if k.signed then -1 else k.max) ^^^ BitVec.ofInt k.bits n).toNat), H) := _root_.id rfl
def BQ (H : AHeap) (v : Value) (l : List UInt8) : Prop :=
  (v = .slice none 0 0 ∧ l = []) ∨ (∃ b o z, v = .slice (some ⟨b, o, some z⟩) 0 0 ∧ l = []) ∨
    ∃ b o k own room esz c e, v = slc b o l.length k ∧ l.length ≤ k ∧ H.get b = some (.cells own room esz c e) ∧ (esz = 1 ∨ room = false) ∧ (c.drop o).take l.length = cellsOf l ∧ o + l.length ≤ c.length
theorem BQ.bs {H : AHeap} {v : Value} {l : List UInt8} (h : BQ H v l) : BS H v l := by
  rcases h with ⟨rfl, rfl⟩ | ⟨b, o, z, rfl, rfl⟩ | ⟨b, o, k, own, room, esz, c, e, rfl, h1, h2, h3, h4, h5⟩
  · exact BS.nil H
  · exact ⟨⟨_, _, rfl⟩, by simp [elemsA, cellsOf]⟩
  · refine ⟨⟨_, _, rfl⟩, ?_⟩
    simp only [elemsA, slc, h2, Nat.mul_one]
    rw [if_pos h5, h4]
def tb : Value → List Nat
  | .slice (some ⟨b, _, none⟩) _ _ => [b]
  | _ => []
theorem BQ.tbl {H : AHeap} {v : Value} {l : List UInt8} (h : BQ H v l) : ∀ b ∈ tb v, b < H.n := by
  rcases h with ⟨rfl, rfl⟩ | ⟨b, o, z, rfl, rfl⟩ | ⟨b, o, k, own, room, esz, c, e, rfl, h1, h2, h3, h4, h5⟩
  · simp [tb]
  · simp [tb]
  · intro x hx; simp [tb, slc] at hx; subst hx; exact AHeap.get_lt h2
theorem BQ.chg {H H' : AHeap} {v : Value} {l : List UInt8} {S : List Nat} (h : BQ H v l) (k : Chg S H H') (hS : ∀ b ∈ tb v, b ∉ S) : BQ H' v l := by
  rcases h with h | h | ⟨b, o, kk, own, room, esz, c, e, rfl, h1, h2, h3, h4, h5⟩
  · exact .inl h
  · exact .inr (.inl h)
  · exact .inr (.inr ⟨b, o, kk, own, room, esz, c, e, rfl, h1, k.at_ h2 (hS b (by simp [tb, slc])), h3, h4, h5⟩)
theorem touch_sl (s : Nat) (v : Value) (a b c : Option Value) (X : AHeap) : touchA (.slsl s v a b c) X = tb v := by
  unfold touchA
  have : clsA (.slsl s v a b c) = 1 := rfl
  rw [if_pos this]
  cases v <;> try rfl
  rename_i a n k
  cases a with
  | none => rfl
  | some a =>
    obtain ⟨b, o, z⟩ := a
    cases z <;> rfl
theorem tb_older {v : Value} {H : AHeap} (h : ∀ b ∈ tb v, b < H.n) : olderB (tb v) H := by
  unfold tb at *
  split
  · exact ⟨h _ (by simp), trivial⟩
  · trivial
theorem tb_keeps {v : Value} {S : List Nat} {H H' : AHeap} (h : ∀ b ∈ tb v, b < H.n ∧ b ∉ S) (k : Chg S H H') : keepsB (tb v) H H' := by
  unfold tb at *
  split
  · rename_i b _ _ _
    have := h b (by simp)
    exact ⟨k.get _ this.1 this.2, trivial⟩
  · trivial
theorem BQ.keeps {H H' : AHeap} {v : Value} {l : List UInt8} (h : BQ H v l) (k : Keeps H H') : BQ H' v l := h.chg (k.chg []) (by simp)
theorem AP.bq {H : AHeap} {e : Nat} {v : Value} {n : Nat} {l : List UInt8} (h : AP H e 1 v n (cellsOf l)) : BQ H v l := by
  rcases h with ⟨rfl, rfl, h2⟩ | ⟨b, room, rfl, h1, h2⟩
  · have := congrArg List.length h2
    rw [cellsOf_length] at this
    exact .inl ⟨rfl, List.length_eq_zero_iff.1 this⟩
  · rw [cellsOf_length, Nat.mul_one] at h1
    subst h1
    exact .inr (.inr ⟨b, 0, l.length, true, room, 1, _, e, rfl, Nat.le_refl _, h2, .inl rfl, by rw [List.drop_zero, List.take_of_length_le (by rw [cellsOf_length]; omega)], by rw [cellsOf_length]; omega⟩)
theorem BQ.cut {H : AHeap} {v : Value} {l : List UInt8} (h : BQ H v l) {lo hi : Option Value} {i j : Nat} (hij : i ≤ j) (hj : j ≤ l.length) (h1 : ∀ k, l.length ≤ k → bndA hi l.length k = some j) (h2 : bndA lo 0 j = some i) :
    ∃ w, asem (.slsl 1 v lo hi none) H = some (w, H) ∧ BQ H w ((l.drop i).take (j - i)) := by
  rcases h with ⟨rfl, rfl⟩ | ⟨b, o, z, rfl, rfl⟩ | ⟨b, o, k, own, room, esz, c, e, rfl, p1, p2, p3, p4, p5⟩
  · have hj0 : j = 0 := by simpa using hj
    have hi0 : i = 0 := by omega
    subst hj0; subst hi0
    exact ⟨_, a_slsl_nil ⟨0, 0, 0, bnd_none 0 0, h1 0 (Nat.le_refl _), h2⟩, .inl ⟨rfl, rfl⟩⟩
  · have hj0 : j = 0 := by simpa using hj
    have hi0 : i = 0 := by omega
    subst hj0; subst hi0
    refine ⟨.slice (some ⟨b, o, some z⟩) 0 0, ?_, .inr (.inl ⟨b, o, z, rfl, rfl⟩)⟩
    have := h1 0 (Nat.le_refl _)
    simp only [List.length_nil] at this
    simp only [asem, bnd_none, this, h2]
    simp
  · refine ⟨slc b (o + i) (j - i) (k - i), ?_, ?_⟩
    · have := h1 k p1
      simp only [asem, slc, bnd_none, this, h2, p2, Nat.mul_one]
      rw [if_pos p3]
    · have hl : ((l.drop i).take (j - i)).length = j - i := by rw [List.length_take, List.length_drop]; omega
      refine .inr (.inr ⟨b, o + i, k - i, own, room, esz, c, e, by rw [hl], by rw [hl]; omega, p2, p3, ?_, by rw [hl]; omega⟩)
      rw [hl]
      have e1 : cellsOf ((l.drop i).take (j - i)) = ((cellsOf l).drop i).take (j - i) := by simp [cellsOf, List.map_take, List.map_drop]
      rw [e1, ← p4, ← List.drop_drop, List.drop_take, List.take_take]
      congr 1
      omega
theorem BQ.from_ {H : AHeap} {v : Value} {l : List UInt8} (h : BQ H v l) {k : IntKind} (i : Nat) (hi : i ≤ l.length) : ∃ w, asem (.slsl 1 v (some (.int k (i : Nat))) none none) H = some (w, H) ∧ BQ H w (l.drop i) := by
  obtain ⟨w, h1, h2⟩ := h.cut (hi := none) (lo := some (.int k (i : Nat))) (i := i) (j := l.length) hi (Nat.le_refl _) (fun _ _ => bnd_none _ _) (bnd_some k i 0 l.length hi)
  exact ⟨w, h1, by rwa [List.take_of_length_le (by rw [List.length_drop]; omega)] at h2⟩
theorem BQ.to_ {H : AHeap} {v : Value} {l : List UInt8} (h : BQ H v l) {k : IntKind} (j : Nat) (hj : j ≤ l.length) : ∃ w, asem (.slsl 1 v none (some (.int k (j : Nat))) none) H = some (w, H) ∧ BQ H w (l.take j) := by
  obtain ⟨w, h1, h2⟩ := h.cut (hi := some (.int k (j : Nat))) (lo := none) (i := 0) (j := j) (by omega) hj (fun m hm => bnd_some k j l.length m (by omega)) (bnd_none 0 j)
  exact ⟨w, h1, by simpa using h2⟩
theorem BQ.mid {H : AHeap} {v : Value} {l : List UInt8} (h : BQ H v l) {k k' : IntKind} (i j : Nat) (hi : i ≤ j) (hj : j ≤ l.length) : ∃ w, asem (.slsl 1 v (some (.int k (i : Nat))) (some (.int k' (j : Nat))) none) H = some (w, H) ∧ BQ H w ((l.drop i).take (j - i)) :=
  h.cut (hi := some (.int k' (j : Nat))) (lo := some (.int k (i : Nat))) hi hj (fun m hm => bnd_some k' j l.length m (by omega)) (bnd_some k i 0 j hi)
theorem AR.bq {P : Program} {t e : Nat} {H : AHeap} {v : Value} (hu : P.underlying t = some (.slice e)) (hu5 : P.underlying e = some (.int .u8)) (hz : P.cellsOf e = 1) (h : AR P H.get t [v]) : ∃ l, BQ H v l := by
  rcases h.slice_inv hu with h2 | ⟨x, hx, h2⟩ | ⟨b, n, k, c, u, h2, h3, h4, h5, h6, h7, h8⟩
  · cases h2; exact ⟨[], .inl ⟨rfl, rfl⟩⟩
  · cases h2
    obtain ⟨b, o, s⟩ := x
    cases s with
    | none => simp at hx
    | some s => exact ⟨[], .inr (.inl ⟨_, _, _, rfl, rfl⟩)⟩
  · cases h2
    obtain ⟨l, rfl⟩ := AR.bytes hu5 hz k c h7 h8
    rw [cellsOf_length, hz] at h7
    rw [hz] at h6
    have hl : (l.take n).length = n := by rw [List.length_take]; omega
    exact ⟨l.take n, .inr (.inr ⟨b, 0, k, false, false, 1, _, _, by rw [hl], by rw [hl]; exact h4, h6, .inr rfl, by rw [hl]; simp [cellsOf, List.map_take], by rw [hl, cellsOf_length]; omega⟩)⟩
theorem el_tbl {H : AHeap} {esz : Nat} {v : Value} {l : List Value} (h : elemsA H esz v = some l) : ∀ b ∈ tb v, b < H.n := by
  intro b hb
  unfold tb at hb
  split at hb
  · rename_i x o n k
    simp only [List.mem_singleton] at hb; subst hb
    simp only [elemsA] at h
    cases hg : H.get b with
    | none => rw [hg] at h; cases h
    | some ob => exact AHeap.get_lt hg
  · cases hb
theorem el_get {H H' : AHeap} {esz : Nat} {v : Value} {l : List Value} (h : elemsA H esz v = some l) (k : ∀ b ∈ tb v, b < H.n → H'.get b = H.get b) : elemsA H' esz v = some l := by
  have ht := el_tbl h
  unfold elemsA at h ⊢
  split
  · exact h
  · rename_i b o n k2
    have hb : b ∈ tb (.slice (some ⟨b, o, none⟩) n k2) := by simp [tb]
    rw [k b hb (ht b hb)]; exact h
  · exact h
  · simp at h
theorem Sl.tbl {H : AHeap} {esz : Nat} {v : Value} {rows : List (List Value)} (h : Sl H esz v rows) : ∀ b ∈ tb v, b < H.n := el_tbl h.el
theorem Sl.chgT {H H' : AHeap} {esz : Nat} {v : Value} {rows : List (List Value)} {S : List Nat} (h : Sl H esz v rows) (k : Chg S H H') (hS : ∀ b ∈ tb v, b ∉ S) : Sl H' esz v rows :=
  ⟨h.sh, h.row, el_get h.el fun b hb hn => k.get b hn (hS b hb)⟩
theorem BS.tbl {H : AHeap} {v : Value} {l : List UInt8} (h : BS H v l) : ∀ b ∈ tb v, b < H.n := el_tbl h.el
theorem BS.chgT {H H' : AHeap} {v : Value} {l : List UInt8} {S : List Nat} (h : BS H v l) (k : Chg S H H') (hS : ∀ b ∈ tb v, b ∉ S) : BS H' v l :=
  ⟨h.sh, el_get h.el fun b hb hn => k.get b hn (hS b hb)⟩
theorem resCT {H : AHeap} (n i j : Nat) (fr : List Value) : resO [.cn n i, .t j] fr H = (celln n (fr.getD i undef) H).map fun c => .tuple #[c, fr.getD j undef] := by
  simp only [resO, resVs, RX.get]
  cases celln n (fr.getD i undef) H <;> rfl
theorem Chg1.tr {r : Nat} {A B C : AHeap} (h : Chg [r] A B) (k : Chg [r] B C) : Chg [r] A C := h.trans k (fun x hx => .inl hx)
theorem tb_blk {v : Value} {b : Nat} (h : b ∈ tb v) : blk v = some b := by
  unfold tb at h
  split at h
  · simp only [List.mem_singleton] at h; subst h; rfl
  · cases h
theorem Fresh.tb {n : Nat} {v : Value} (h : Fresh n v) : ∀ b ∈ Go.AM.tb v, n ≤ b := fun b hb => h b (tb_blk hb)
end Go.AM

set_option linter.unusedSimpArgs false
set_option linter.unusedVariables false
namespace Go.AM.Fd
open Nat (reduceAdd reduceEqDiff reduceLT reduceLeDiff reduceMul reduceSub)
open Go.Proofs Go.AM.F
def DV : Nat := 3988292384
def ah (r : Nat) : Nat := if r % 2 = 1 then r / 2 ^^^ DV else r / 2
def ei : Nat → Nat → Nat
  | 0, r => r
  | n + 1, r => ei n (ah r)
def crcS (r : Nat) (c : UInt8) : Nat := ei 8 (r ^^^ c.toNat)
def crcL (l : List UInt8) : Nat := l.foldl crcS 4294967295
def crc (l : List UInt8) : Nat := 4294967295 ^^^ crcL l
theorem ah_lt {r : Nat} (h : r < 4294967296) : ah r < 4294967296 := by
  unfold ah
  split
  · exact Nat.xor_lt_two_pow (n := 32) (by omega) (by decide)
  · omega
theorem ei_lt : ∀ n {r : Nat}, r < 4294967296 → ei n r < 4294967296
  | 0, _, h => h
  | n + 1, _, h => ei_lt n (ah_lt h)
theorem xc_lt {r : Nat} (h : r < 4294967296) (c : UInt8) : r ^^^ c.toNat < 4294967296 := Nat.xor_lt_two_pow (n := 32) (by omega) (by have := c.toNat_lt; omega)
theorem crcS_lt {r : Nat} (h : r < 4294967296) (c : UInt8) : crcS r c < 4294967296 := ei_lt 8 (xc_lt h c)
theorem fold_lt : ∀ (l : List UInt8) {r : Nat}, r < 4294967296 → l.foldl crcS r < 4294967296
  | [], _, h => h
  | c :: l, _, h => fold_lt l (crcS_lt h c)
theorem crcL_lt (l : List UInt8) : crcL l < 4294967296 := fold_lt l (by decide)
theorem crc_lt (l : List UInt8) : crc l < 4294967296 := Nat.xor_lt_two_pow (n := 32) (by decide) (crcL_lt l)
theorem t109 (r : Nat) (hr : r < 4294967296) (H : AHeap) : ∃ v H', ARun Go.Proofs.Try.prog 0 109 [.int .u32 r] H v H' ∧ v = .int .u32 (ah r) ∧ H' = H := by
  refine walk2 f109_ok f109_n ?_
  intro Q hq1 hq2
  have h1 : IntKind.u32.wrap ((BitVec.ofInt IntKind.u32.bits (r : Int) &&& BitVec.ofInt IntKind.u32.bits 1).toNat : Int) = ((r % 2 : Nat) : Int) := w_and1 (k := .u32) rfl hr
  have h2 : binA .shr (.int .u32 (r : Int)) (.int .u64 1) = some (.int .u32 ((r / 2 : Nat) : Int)) := b_shrN (k := .u32) (k' := .u64) (n := r) (s := 1) (by decide)
  have h3 : IntKind.u32.wrap ((BitVec.ofInt IntKind.u32.bits ((r / 2 : Nat) : Int) ^^^ BitVec.ofInt IntKind.u32.bits 3988292384).toNat : Int) = ((r / 2 ^^^ DV : Nat) : Int) := w_xor32 (b := DV) (by omega) (by decide)
  by_cases h : r % 2 = 1
  · have h4 : (0 : Int) < ((r % 2 : Nat) : Int) := by omega
    simp (disch := first | assumption | omega | (simp only [LN] <;> omega) | (simp (disch := first | assumption | omega | (simp only [LN] <;> omega)) only [row_alloc, row_set]; assumption)) only [f109, W_block, P3, ↓reduceIte, reduceAdd, reduceEqDiff, reduceCtorEq, initFr, reduceLT, clsA, reduceLeDiff, reduceMul, reduceSub, reduceIte, h1, h2, h3, h4]
    exact hq2 _ _ ⟨_, rfl, by rw [ah, if_pos h]; rfl, rfl⟩
  · have h4 : ¬ (0 : Int) < ((r % 2 : Nat) : Int) := by omega
    simp (disch := first | assumption | omega | (simp only [LN] <;> omega) | (simp (disch := first | assumption | omega | (simp only [LN] <;> omega)) only [row_alloc, row_set]; assumption)) only [f109, W_block, P3, ↓reduceIte, reduceAdd, reduceEqDiff, reduceCtorEq, initFr, reduceLT, clsA, reduceLeDiff, reduceMul, reduceSub, reduceIte, h1, h2, h3, h4]
    exact hq2 _ _ ⟨_, rfl, by rw [ah, if_neg h]; rfl, rfl⟩
theorem t108 (r : Nat) (hr : r < 4294967296) (H : AHeap) : ∃ v H', ARun Go.Proofs.Try.prog 0 108 [.int .u32 r, .func (.func 109) #[] #[]] H v H' ∧ v = .int .u32 (ei 8 r) ∧ H' = H := by
  refine walk2 f108_ok f108_n ?_
  intro Q hq1 hq2
  simp (disch := first | assumption | omega | (simp only [LN] <;> omega) | (simp (disch := first | assumption | omega | (simp only [LN] <;> omega)) only [row_alloc, row_set]; assumption)) only [f108, W_block, P3, ↓reduceIte, reduceAdd, reduceEqDiff, reduceCtorEq, initFr, reduceLT, clsA, reduceLeDiff, reduceMul, reduceSub, reduceIte]
  refine W_loop2 (fun q fr K => K = H ∧ ∃ (i s : Nat) (a : Value), i ≤ 8 ∧ q = 8 - i ∧ s < 4294967296 ∧ ei (8 - i) s = ei 8 r ∧ fr = [.int .u32 s, .func (.func 109) #[] #[], .int .u32 0, .int .i64 i, a]) 8 ⟨rfl, 0, r, undef, by omega, rfl, hr, rfl, rfl⟩ ?_
  rintro Q' q fr K ⟨rfl, i, s, a, hi, rfl, hs, he8, rfl⟩ hn he hrt
  by_cases hc : i < 8
  · simp (disch := first | assumption | omega | (simp only [LN] <;> omega) | (simp (disch := first | assumption | omega | (simp only [LN] <;> omega)) only [row_alloc, row_set]; assumption)) only [W_block, P3, ↓reduceIte, reduceAdd, reduceEqDiff, reduceCtorEq, initFr, reduceLT, clsA, reduceLeDiff, reduceMul, reduceSub, reduceIte]
    refine callK (t109 s hs K) ?_
    rintro _ _ ⟨rfl, rfl⟩
    simp (disch := first | assumption | omega | (simp only [LN] <;> omega) | (simp (disch := first | assumption | omega | (simp only [LN] <;> omega)) only [row_alloc, row_set]; assumption)) only [W_block, P3, ↓reduceIte, reduceAdd, reduceEqDiff, reduceCtorEq, initFr, reduceLT, clsA, reduceLeDiff, reduceMul, reduceSub, reduceIte, wrap_succ (n := i) (by omega)]
    refine hn _ _ _ ⟨rfl, i + 1, ah s, _, by omega, rfl, ah_lt hs, ?_, rfl⟩ (by omega)
    rw [← he8, show 8 - i = (8 - (i + 1)) + 1 by omega]; rfl
  · obtain rfl : i = 8 := by omega
    simp (disch := first | assumption | omega | (simp only [LN] <;> omega) | (simp (disch := first | assumption | omega | (simp only [LN] <;> omega)) only [row_alloc, row_set]; assumption)) only [W_block, P3, ↓reduceIte, reduceAdd, reduceEqDiff, reduceCtorEq, initFr, reduceLT, clsA, reduceLeDiff, reduceMul, reduceSub, reduceIte]
    refine he _ _ _ ?_
    simp (disch := first | assumption | omega | (simp only [LN] <;> omega) | (simp (disch := first | assumption | omega | (simp only [LN] <;> omega)) only [row_alloc, row_set]; assumption)) only [W_block, P3, ↓reduceIte, reduceAdd, reduceEqDiff, reduceCtorEq, initFr, reduceLT, clsA, reduceLeDiff, reduceMul, reduceSub, reduceIte]
    exact hq2 _ _ ⟨_, rfl, by rw [← he8]; rfl, rfl⟩
theorem t97 {H : AHeap} {x : Value} {l : List UInt8} (hx : BS H x l) (hl : l.length ≤ 1000000000) : ∃ v H', ARun Go.Proofs.Try.prog 0 97 [x] H v H' ∧ v = .int .u32 (crc l) ∧ H' = H := by
  refine walk2 f97_ok f97_n ?_
  intro Q hq1 hq2
  have hs := hx.sl
  have his := hs.is
  have hlen := hs.len
  rw [List.length_map] at hlen
  simp (disch := first | assumption | omega | (simp only [LN] <;> omega) | (simp (disch := first | assumption | omega | (simp only [LN] <;> omega)) only [row_alloc, row_set]; assumption)) only [f97, W_block, P3, ↓reduceIte, reduceAdd, reduceEqDiff, reduceCtorEq, initFr, reduceLT, clsA, reduceLeDiff, reduceMul, reduceSub, reduceIte, hlen]
  refine W_loop2 (fun q fr K => K = H ∧ ∃ (i : Nat) (y a : Value), i ≤ l.length ∧ q = l.length - i ∧ fr = [x, .int .u32 0, .int .u32 ((l.take i).foldl crcS 4294967295 : Nat), y, x, .int .i64 l.length, .int .i64 i, a]) l.length ⟨rfl, 0, undef, undef, by omega, rfl, rfl⟩ ?_
  rintro Q' q fr K ⟨rfl, i, y, a, hi, rfl, rfl⟩ hn he hrt
  have hr := fold_lt (l.take i) (r := 4294967295) (by decide)
  generalize hR : (l.take i).foldl crcS 4294967295 = R at hr ⊢
  by_cases hc : i < l.length
  · obtain ⟨hnn, hrow⟩ := hs.at_ (by omega) (i := i) (by simpa using hc)
    rw [List.getElem_map] at hrow
    have hw : IntKind.u32.wrap (l[i].toNat : Int) = l[i].toNat := by rw [wrap_u32]; have := l[i].toNat_lt; omega
    have hw2 := w_xor32 (a := R) (b := l[i].toNat) hr (by have := l[i].toNat_lt; omega)
    simp (disch := first | assumption | omega | (simp only [LN] <;> omega) | (simp (disch := first | assumption | omega | (simp only [LN] <;> omega)) only [row_alloc, row_set]; assumption)) only [W_block, P3, ↓reduceIte, reduceAdd, reduceEqDiff, reduceCtorEq, initFr, reduceLT, clsA, reduceLeDiff, reduceMul, reduceSub, reduceIte, hlen, hw, hw2]
    refine callK (t108 _ (xc_lt hr l[i]) K) ?_
    rintro _ _ ⟨rfl, rfl⟩
    simp (disch := first | assumption | omega | (simp only [LN] <;> omega) | (simp (disch := first | assumption | omega | (simp only [LN] <;> omega)) only [row_alloc, row_set]; assumption)) only [W_block, P3, ↓reduceIte, reduceAdd, reduceEqDiff, reduceCtorEq, initFr, reduceLT, clsA, reduceLeDiff, reduceMul, reduceSub, reduceIte, wrap_succ (n := i) (by omega)]
    refine hn _ _ _ ⟨rfl, i + 1, .int .u8 l[i].toNat, .bool true, by omega, rfl, ?_⟩ (by omega)
    rw [List.take_succ_eq_append_getElem hc, List.foldl_append, hR]
    rfl
  · simp (disch := first | assumption | omega | (simp only [LN] <;> omega) | (simp (disch := first | assumption | omega | (simp only [LN] <;> omega)) only [row_alloc, row_set]; assumption)) only [W_block, P3, ↓reduceIte, reduceAdd, reduceEqDiff, reduceCtorEq, initFr, reduceLT, clsA, reduceLeDiff, reduceMul, reduceSub, reduceIte]
    refine he _ _ _ ?_
    have hw2 := w_xor32 (a := 4294967295) (b := R) (by decide) hr
    simp (disch := first | assumption | omega | (simp only [LN] <;> omega) | (simp (disch := first | assumption | omega | (simp only [LN] <;> omega)) only [row_alloc, row_set]; assumption)) only [W_block, P3, ↓reduceIte, reduceAdd, reduceEqDiff, reduceCtorEq, initFr, reduceLT, clsA, reduceLeDiff, reduceMul, reduceSub, reduceIte, a_uxor]
    rw [List.take_of_length_le (by omega)] at hR
    exact hq2 _ _ ⟨_, rfl, by unfold crc crcL; rw [hR, ← hw2]; rfl, rfl⟩
def TB : List Nat := [1996959894, 3993919788, 124634137, 249268274, 498536548, 997073096, 1994146192, 3988292384]
def CTB : List Value := [.int .u32 1996959894, .int .u32 3993919788, .int .u32 124634137, .int .u32 249268274, .int .u32 498536548, .int .u32 997073096, .int .u32 1994146192, .int .u32 3988292384]
def gk (u n : Nat) : Nat → Nat
  | 0 => n
  | k + 1 => if u / 2 ^ k % 2 = 1 then gk u n k ^^^ TB.getD k 0 else gk u n k
theorem CTB_at {k : Nat} (h : k < 8) : CTB[k]? = some (.int .u32 (TB.getD k 0 : Nat)) := by
  obtain rfl | rfl | rfl | rfl | rfl | rfl | rfl | rfl : k = 0 ∨ k = 1 ∨ k = 2 ∨ k = 3 ∨ k = 4 ∨ k = 5 ∨ k = 6 ∨ k = 7 := by omega
  all_goals rfl
theorem TB_lt (k : Nat) : TB.getD k 0 < 4294967296 := by
  by_cases h : k < 8
  · obtain rfl | rfl | rfl | rfl | rfl | rfl | rfl | rfl : k = 0 ∨ k = 1 ∨ k = 2 ∨ k = 3 ∨ k = 4 ∨ k = 5 ∨ k = 6 ∨ k = 7 := by omega
    all_goals decide
  · rw [List.getD_eq_getElem?_getD, List.getElem?_eq_none (by simp [TB]; omega)]; decide
theorem gk_lt {u n : Nat} (h : n < 4294967296) : ∀ k, gk u n k < 4294967296
  | 0 => h
  | k + 1 => by
    rw [gk]
    split
    · exact Nat.xor_lt_two_pow (n := 32) (gk_lt h k) (TB_lt k)
    · exact gk_lt h k
theorem bit_half (x k : Nat) : x / 2 ^ k / 2 = x / 2 ^ (k + 1) := by rw [Nat.div_div_eq_div_mul, Nat.pow_succ]
theorem xor_half (a b : Nat) : (a ^^^ b) / 2 = a / 2 ^^^ b / 2 := Nat.xor_div_two ..
theorem xor_par (a b : Nat) : (a ^^^ b) % 2 = (a % 2) ^^^ (b % 2) := Nat.xor_mod_two_pow (n := 1)
theorem ah_xor (a b : Nat) : ah (a ^^^ b) = ah a ^^^ ah b := by
  unfold ah
  rw [xor_half, xor_par]
  rcases Nat.mod_two_eq_zero_or_one a with h1 | h1 <;> rcases Nat.mod_two_eq_zero_or_one b with h2 | h2 <;> simp only [h1, h2, Nat.reduceXor, if_true, if_false, Nat.reduceEqDiff, Nat.zero_ne_one]
  · rw [Nat.xor_assoc]
  · rw [Nat.xor_assoc, Nat.xor_assoc, Nat.xor_comm DV]
  · rw [show (a / 2 ^^^ DV) ^^^ (b / 2 ^^^ DV) = (a / 2 ^^^ b / 2) ^^^ (DV ^^^ DV) by rw [Nat.xor_assoc, Nat.xor_assoc, ← Nat.xor_assoc DV, ← Nat.xor_assoc (b / 2), Nat.xor_comm DV (b / 2)], Nat.xor_self, Nat.xor_zero]
theorem ei_xor : ∀ n a b, ei n (a ^^^ b) = ei n a ^^^ ei n b
  | 0, _, _ => rfl
  | n + 1, a, b => by rw [ei, ah_xor, ei_xor n]; rfl
def dd (k x : Nat) : Nat := if x / 2 ^ k % 2 = 1 then DV else 0
def tt (x k : Nat) : Nat := if x / 2 ^ k % 2 = 1 then TB.getD k 0 else 0
theorem ah_dd (x : Nat) : ah x = x / 2 ^^^ dd 0 x := by
  unfold ah dd
  rw [Nat.pow_zero, Nat.div_one]
  split
  · rfl
  · rw [Nat.xor_zero]
theorem ei_dd {m k : Nat} (x : Nat) (h : ei m DV = TB.getD k 0) : ei m (dd k x) = tt x k := by
  unfold dd tt
  split
  · exact h
  · have : ∀ n, ei n 0 = 0 := fun n => by induction n with
      | zero => rfl
      | succ n ih => rw [ei, show ah 0 = 0 from rfl, ih]
    exact this m
theorem dd_half (x k : Nat) : dd 0 (x / 2 ^ k) = dd k x := by unfold dd; rw [Nat.pow_zero, Nat.div_one]
theorem ei_step (m k x : Nat) (h : ei m DV = TB.getD k 0) : ei (m + 1) (x / 2 ^ k) = ei m (x / 2 ^ (k + 1)) ^^^ tt x k := by
  rw [ei, ah_dd, dd_half, bit_half, ei_xor, ei_dd x h]
theorem ei8 (x : Nat) : ei 8 x = x / 256 ^^^ tt x 7 ^^^ tt x 6 ^^^ tt x 5 ^^^ tt x 4 ^^^ tt x 3 ^^^ tt x 2 ^^^ tt x 1 ^^^ tt x 0 := by
  have h := ei_step 7 0 x (by decide)
  rw [Nat.pow_zero, Nat.div_one] at h
  rw [h, ei_step 6 1 x (by decide), ei_step 5 2 x (by decide), ei_step 4 3 x (by decide), ei_step 3 4 x (by decide), ei_step 2 5 x (by decide), ei_step 1 6 x (by decide), ei_step 0 7 x (by decide)]
  rfl
theorem gk_tt (u n k : Nat) : gk u n (k + 1) = gk u n k ^^^ tt u k := by
  rw [gk, tt]
  split
  · rfl
  · rw [Nat.xor_zero]
theorem gk8 (u n : Nat) : gk u n 8 = n ^^^ tt u 7 ^^^ tt u 6 ^^^ tt u 5 ^^^ tt u 4 ^^^ tt u 3 ^^^ tt u 2 ^^^ tt u 1 ^^^ tt u 0 := by
  rw [gk_tt, gk_tt, gk_tt, gk_tt, gk_tt, gk_tt, gk_tt, gk_tt, gk]
  ac_rfl
theorem crcS_gk (n : Nat) (c : UInt8) : crcS n c = gk ((n % 256) ^^^ c.toNat) (n / 256) 8 := by
  have hc := c.toNat_lt
  have h1 : (n % 256) ^^^ c.toNat = (n ^^^ c.toNat) % 256 := by
    have := Nat.xor_mod_two_pow (a := n) (b := c.toNat) (n := 8)
    rw [show 2 ^ 8 = 256 from rfl] at this
    rw [this, Nat.mod_eq_of_lt hc]
  have h2 : n / 256 = (n ^^^ c.toNat) / 256 := by
    have := Nat.xor_div_two_pow (a := n) (b := c.toNat) (n := 8)
    rw [show 2 ^ 8 = 256 from rfl] at this
    rw [this, Nat.div_eq_of_lt hc, Nat.xor_zero]
  have h3 : ∀ k, k < 8 → tt ((n ^^^ c.toNat) % 256) k = tt (n ^^^ c.toNat) k := by
    intro k hk
    unfold tt
    have : (n ^^^ c.toNat) % 256 / 2 ^ k % 2 = (n ^^^ c.toNat) / 2 ^ k % 2 := by
      generalize n ^^^ c.toNat = x
      obtain rfl | rfl | rfl | rfl | rfl | rfl | rfl | rfl : k = 0 ∨ k = 1 ∨ k = 2 ∨ k = 3 ∨ k = 4 ∨ k = 5 ∨ k = 6 ∨ k = 7 := by omega
      all_goals (simp only [Nat.reducePow]; omega)
    rw [this]
  unfold crcS
  rw [ei8, gk8, h1, h2, h3 0 (by omega), h3 1 (by omega), h3 2 (by omega), h3 3 (by omega), h3 4 (by omega), h3 5 (by omega), h3 6 (by omega), h3 7 (by omega)]
theorem fillTB : fillA [(.int .u32 0), (.int .u32 0), (.int .u32 0), (.int .u32 0), (.int .u32 0), (.int .u32 0), (.int .u32 0), (.int .u32 0)] [(0, 1, .int .u32 1996959894), (1, 1, .int .u32 3993919788), (2, 1, .int .u32 124634137), (3, 1, .int .u32 249268274), (4, 1, .int .u32 498536548), (5, 1, .int .u32 997073096), (6, 1, .int .u32 1994146192), (7, 1, .int .u32 3988292384)] = some CTB := rfl
theorem CTB_o : (CTB.all Value.oneCell' = true ∧ CTB.length = 8) = True := by simp [CTB, Value.oneCell']
theorem CTB_n : CTB.length = 8 := rfl
theorem t115 {H : AHeap} {x : Value} {l : List UInt8} (hx : BS H x l) (n : Nat) (hn : n < 4294967296) (hl : l.length ≤ 1000000000) : ∃ v H', ARun Go.Proofs.Try.prog 0 115 [.int .u32 n, x] H v H' ∧ v = .int .u32 (l.foldl crcS n : Nat) ∧ Keeps H H' := by
  refine walk2 f115_ok f115_n ?_
  intro Q hq1 hq2
  have his := hx.sl.is
  have hlen := hx.sl.len
  rw [List.length_map] at hlen
  simp (disch := first | assumption | omega | (simp only [LN] <;> omega) | (simp (disch := first | assumption | omega | (simp only [LN] <;> omega)) only [row_alloc, row_set]; assumption)) only [f115, W_block, P3, ↓reduceIte, reduceAdd, reduceEqDiff, reduceCtorEq, initFr, reduceLT, clsA, reduceLeDiff, reduceMul, reduceSub, reduceIte, hlen, fillTB, CTB_o]
  obtain ⟨Ha, hHa⟩ : ∃ X, X = H.alloc (.cells true false 1 CTB 25) := ⟨_, rfl⟩
  have ka := (Keeps.refl H).alloc (.cells true false 1 CTB 25)
  have g := AHeap.get_alloc_new H (.cells true false 1 CTB 25)
  rw [← hHa] at ka g ⊢
  have la := AHeap.get_lt g
  have hs := hx.sl.keeps ka
  refine W_loop2 (fun q fr K => K = Ha ∧ ∃ (i : Nat) (u k a b e : Value), i ≤ l.length ∧ q = l.length - i ∧ fr = [.int .u32 ((l.take i).foldl crcS n : Nat), x, .int .u32 0, slc H.n 0 8 8, .int .i64 i, u, k, a, b, e]) l.length ⟨rfl, 0, undef, undef, undef, undef, undef, by omega, rfl, rfl⟩ ?_
  rintro Q' q fr K ⟨rfl, i, u, k, a, b, e, hi, rfl, rfl⟩ hn' he hrt
  have hr := fold_lt (l.take i) hn
  generalize hR : (l.take i).foldl crcS n = R at hr ⊢
  by_cases hc : i < l.length
  · obtain ⟨hnn, hrow⟩ := hs.at_ (by omega) (i := i) (by simpa using hc)
    rw [List.getElem_map] at hrow
    have hw : IntKind.u8.wrap (R : Int) = ((R % 256 : Nat) : Int) := by rw [wrap_u8]; omega
    have hw2 := w_xor8 (a := R % 256) (b := l[i].toNat) (by omega) (by have := l[i].toNat_lt; omega)
    have hw3 : binA .shr (.int .u32 (R : Int)) (.int .u64 8) = some (.int .u32 ((R / 256 : Nat) : Int)) := b_shrN (k := .u32) (k' := .u64) (n := R) (s := 8) (by decide)
    simp (disch := first | assumption | omega | (simp only [LN] <;> omega) | (simp (disch := first | assumption | omega | (simp only [LN] <;> omega)) only [row_alloc, row_set]; assumption)) only [W_block, P3, ↓reduceIte, reduceAdd, reduceEqDiff, reduceCtorEq, initFr, reduceLT, clsA, reduceLeDiff, reduceMul, reduceSub, reduceIte, hlen, hw, hw2, hw3]
    have hU : R % 256 ^^^ l[i].toNat < 256 := Nat.xor_lt_two_pow (n := 8) (by omega) (by have := l[i].toNat_lt; omega)
    have hS : crcS R l[i] = gk (R % 256 ^^^ l[i].toNat) (R / 256) 8 := crcS_gk R l[i]
    generalize R % 256 ^^^ l[i].toNat = U at hU hS ⊢
    refine W_loop2 (fun q fr K' => K' = K ∧ ∃ (k : Nat) (b e : Value), k ≤ 8 ∧ q = 8 - k ∧ fr = [.int .u32 (gk U (R / 256) k : Nat), x, .int .u32 0, slc H.n 0 8 8, .int .i64 i, .int .u8 (U : Nat), .int .i64 k, .bool true, b, e]) 8 ⟨rfl, 0, _, _, by omega, rfl, rfl⟩ ?_
    rintro Q2 q fr K' ⟨rfl, k, b, e, hk, rfl, rfl⟩ hn2 he2 hr2
    have hG := gk_lt (u := U) (n := R / 256) (by omega) k
    by_cases hk8 : k < 8
    · have h1 : binA .shr (.int .u8 (U : Int)) (.int .i64 (k : Int)) = some (.int .u8 ((U / 2 ^ k : Nat) : Int)) := b_shrN (k := .u8) (k' := .i64) (by show k ≤ 8; omega)
      have h2 : IntKind.u8.wrap ((BitVec.ofInt IntKind.u8.bits ((U / 2 ^ k : Nat) : Int) &&& BitVec.ofInt IntKind.u8.bits 1).toNat : Int) = ((U / 2 ^ k % 2 : Nat) : Int) := w_and1 (k := .u8) rfl (Nat.lt_of_le_of_lt (Nat.div_le_self ..) hU)
      have h3 := CTB_at hk8
      have h4 := w_xor32 hG (TB_lt k)
      by_cases hb : U / 2 ^ k % 2 = 1
      · have h5 : ((U / 2 ^ k % 2 : Nat) : Int) = 1 := by omega
        simp (disch := first | assumption | omega | (simp only [LN] <;> omega) | (simp (disch := first | assumption | omega | (simp only [LN] <;> omega)) only [row_alloc, row_set]; assumption)) only [W_block, P3, ↓reduceIte, reduceAdd, reduceEqDiff, reduceCtorEq, initFr, reduceLT, clsA, reduceLeDiff, reduceMul, reduceSub, reduceIte, h1, h2, h3, h4, h5, g, CTB_n, wrap_succ (n := k) (by omega)]
        refine hn2 _ _ _ ⟨rfl, k + 1, .bool true, .bool true, by omega, rfl, ?_⟩ (by omega)
        rw [gk, if_pos hb]
      · have h5 : ((U / 2 ^ k % 2 : Nat) : Int) ≠ 1 := by omega
        simp (disch := first | assumption | omega | (simp only [LN] <;> omega) | (simp (disch := first | assumption | omega | (simp only [LN] <;> omega)) only [row_alloc, row_set]; assumption)) only [W_block, P3, ↓reduceIte, reduceAdd, reduceEqDiff, reduceCtorEq, initFr, reduceLT, clsA, reduceLeDiff, reduceMul, reduceSub, reduceIte, h1, h2, h3, h4, h5, g, CTB_n, wrap_succ (n := k) (by omega)]
        refine hn2 _ _ _ ⟨rfl, k + 1, .bool true, .bool false, by omega, rfl, ?_⟩ (by omega)
        rw [gk, if_neg hb]
    · obtain rfl : k = 8 := by omega
      simp (disch := first | assumption | omega | (simp only [LN] <;> omega) | (simp (disch := first | assumption | omega | (simp only [LN] <;> omega)) only [row_alloc, row_set]; assumption)) only [W_block, P3, ↓reduceIte, reduceAdd, reduceEqDiff, reduceCtorEq, initFr, reduceLT, clsA, reduceLeDiff, reduceMul, reduceSub, reduceIte]
      refine he2 _ _ _ ?_
      simp (disch := first | assumption | omega | (simp only [LN] <;> omega) | (simp (disch := first | assumption | omega | (simp only [LN] <;> omega)) only [row_alloc, row_set]; assumption)) only [W_block, P3, ↓reduceIte, reduceAdd, reduceEqDiff, reduceCtorEq, initFr, reduceLT, clsA, reduceLeDiff, reduceMul, reduceSub, reduceIte, wrap_succ (n := i) (by omega)]
      refine hn' _ _ _ ⟨rfl, i + 1, .int .u8 (U : Nat), .int .i64 8, .bool true, .bool false, e, by omega, rfl, ?_⟩ (by omega)
      rw [List.take_succ_eq_append_getElem hc, List.foldl_append, hR]
      simp only [List.foldl_cons, List.foldl_nil, hS]
      rfl
  · simp (disch := first | assumption | omega | (simp only [LN] <;> omega) | (simp (disch := first | assumption | omega | (simp only [LN] <;> omega)) only [row_alloc, row_set]; assumption)) only [W_block, P3, ↓reduceIte, reduceAdd, reduceEqDiff, reduceCtorEq, initFr, reduceLT, clsA, reduceLeDiff, reduceMul, reduceSub, reduceIte, hlen]
    refine he _ _ _ ?_
    simp (disch := first | assumption | omega | (simp only [LN] <;> omega) | (simp (disch := first | assumption | omega | (simp only [LN] <;> omega)) only [row_alloc, row_set]; assumption)) only [W_block, P3, ↓reduceIte, reduceAdd, reduceEqDiff, reduceCtorEq, initFr, reduceLT, clsA, reduceLeDiff, reduceMul, reduceSub, reduceIte]
    rw [List.take_of_length_le (by omega)] at hR
    exact hq2 _ _ ⟨_, rfl, by rw [hR]; rfl, ka⟩
theorem t107 {H : AHeap} {x : Value} {l : List UInt8} (hx : BS H x l) (hl : l.length ≤ 1000000000) : ∃ v H', ARun Go.Proofs.Try.prog 0 107 [x] H v H' ∧ v = .int .u32 (crc l) ∧ Keeps H H' := by
  refine walk2 f107_ok f107_n ?_
  intro Q hq1 hq2
  simp (disch := first | assumption | omega | (simp only [LN] <;> omega) | (simp (disch := first | assumption | omega | (simp only [LN] <;> omega)) only [row_alloc, row_set]; assumption)) only [f107, W_block, P3, ↓reduceIte, reduceAdd, reduceEqDiff, reduceCtorEq, initFr, reduceLT, clsA, reduceLeDiff, reduceMul, reduceSub, reduceIte]
  refine callK (t115 hx 4294967295 (by decide) hl) ?_
  rintro _ K ⟨rfl, k⟩
  have hw2 := w_xor32 (a := 4294967295) (b := l.foldl crcS 4294967295) (by decide) (fold_lt l (by decide))
  simp (disch := first | assumption | omega | (simp only [LN] <;> omega) | (simp (disch := first | assumption | omega | (simp only [LN] <;> omega)) only [row_alloc, row_set]; assumption)) only [W_block, P3, ↓reduceIte, reduceAdd, reduceEqDiff, reduceCtorEq, initFr, reduceLT, clsA, reduceLeDiff, reduceMul, reduceSub, reduceIte, a_uxor]
  exact hq2 _ _ ⟨_, rfl, by unfold crc crcL; rw [← hw2]; rfl, k⟩
end Go.AM.Fd

set_option linter.unusedSimpArgs false
set_option linter.unusedVariables false
namespace Go.AM.Fd
open Go.Proofs Go.AM.F
def val : List UInt8 → Nat
  | [] => 0
  | c :: l => c.toNat * 256 ^ l.length + val l
theorem val_lt : ∀ l, val l < 256 ^ l.length
  | [] => by simp [val]
  | c :: l => by
    have h1 := val_lt l
    have h2 := c.toNat_lt
    have h3 : c.toNat * 256 ^ l.length ≤ 255 * 256 ^ l.length := Nat.mul_le_mul_right _ (by omega)
    simp only [val, List.length_cons, Nat.pow_succ]
    omega
theorem fold_val : ∀ (l : List UInt8) (a : Nat), (a + 1) * 256 ^ l.length ≤ 18446744073709551616 → l.foldl (fun n b => (n * 256 + b.toNat) % 18446744073709551616) a = a * 256 ^ l.length + val l
  | [], a, h => by simp [val]
  | c :: l, a, h => by
    have h2 := c.toNat_lt
    have hp : 0 < 256 ^ l.length := Nat.pow_pos (by omega)
    rw [List.length_cons, Nat.pow_succ, Nat.mul_comm (256 ^ l.length), ← Nat.mul_assoc] at h
    have h3 : (a * 256 + c.toNat + 1) * 256 ^ l.length ≤ (a + 1) * 256 * 256 ^ l.length := Nat.mul_le_mul_right _ (by omega)
    have h4 : (a * 256 + c.toNat + 1) * 1 ≤ (a * 256 + c.toNat + 1) * 256 ^ l.length := Nat.mul_le_mul_left _ hp
    rw [List.foldl_cons, Nat.mod_eq_of_lt (by omega), fold_val l _ (by omega)]
    simp only [val, List.length_cons, Nat.pow_succ]
    rw [Nat.add_mul, Nat.mul_assoc a, Nat.mul_comm 256]
    omega
theorem num_val {l : List UInt8} (h : l.length ≤ 8) : num l = val l := by
  unfold num
  rw [fold_val l 0 ?_]
  · omega
  · have : 256 ^ l.length ≤ 256 ^ 8 := Nat.pow_le_pow_right (by omega) h
    have e : (256 : Nat) ^ 8 = 18446744073709551616 := by decide
    omega
theorem val_be : ∀ w n, val (be w n) = n % 256 ^ w
  | 0, n => by simp [be, val, Nat.mod_one]
  | w + 1, n => by
    have e1 : n % 256 ^ (w + 1) = (n / 256 ^ w % 256) * 256 ^ w + n % 256 ^ w := by
      rw [Nat.pow_succ, Nat.mod_mul, Nat.mul_comm (256 ^ w), Nat.add_comm]
    have e3 : (UInt8.ofNat (n / 256 ^ w)).toNat = n / 256 ^ w % 256 := by simp
    rw [be, val, be_length, val_be w, e3, e1]
theorem be_val : ∀ l : List UInt8, be l.length (val l) = l
  | [] => rfl
  | c :: l => by
    have h := val_lt l
    have hp : 0 < 256 ^ l.length := Nat.pow_pos (by omega)
    rw [List.length_cons, be, val]
    have e1 : (c.toNat * 256 ^ l.length + val l) / 256 ^ l.length = c.toNat := by
      rw [Nat.add_comm, Nat.add_mul_div_right _ _ hp, Nat.div_eq_of_lt h, Nat.zero_add]
    have e2 : be l.length (c.toNat * 256 ^ l.length + val l) = be l.length (val l) := by
      rw [← be_mod _ (c.toNat * 256 ^ l.length + val l) l.length (Nat.le_refl _), Nat.add_comm, Nat.add_mul_mod_self_right, Nat.mod_eq_of_lt h]
    rw [e1, e2, be_val l]
    simp
theorem num_be (w n : Nat) (h : w ≤ 8) : num (be w n) = n % 256 ^ w := by rw [num_val (by rw [be_length]; exact h), val_be]
theorem be_num (l : List UInt8) (h : l.length ≤ 8) : be l.length (num l) = l := by rw [num_val h, be_val]
def seg (l : List UInt8) (s w : Nat) : List UInt8 := if l.length < s + w then [] else (l.drop s).take w
def na (l : List UInt8) (s w : Nat) : Nat := num (seg l s w)
theorem na_lt (l : List UInt8) (s w : Nat) : na l s w < 256 ^ w := by
  unfold na
  have h1 := num_lt' (seg l s w)
  have h2 : (seg l s w).length ≤ w := by
    unfold seg
    split
    · simp
    · rw [List.length_take]; omega
  exact Nat.lt_of_lt_of_le h1 (Nat.pow_le_pow_right (by omega) h2)
theorem na1 (l : List UInt8) (s : Nat) : na l s 1 < 256 := na_lt l s 1
theorem na2 (l : List UInt8) (s : Nat) : na l s 2 < 65536 := na_lt l s 2
theorem na8 (l : List UInt8) (s : Nat) : na l s 8 < 18446744073709551616 := na_lt l s 8
theorem be_na {l : List UInt8} {s w : Nat} (h : s + w ≤ l.length) (hw : w ≤ 8) : be w (na l s w) = (l.drop s).take w := by
  unfold na seg
  rw [if_neg (by omega)]
  have hl : ((l.drop s).take w).length = w := by rw [List.length_take, List.length_drop]; omega
  have := be_num ((l.drop s).take w) (by omega)
  rw [hl] at this
  exact this
theorem seg_in {l : List UInt8} {s w : Nat} (h : s + w ≤ l.length) : seg l s w = (l.drop s).take w := by unfold seg; rw [if_neg (by omega)]
theorem seg_app (p q : List UInt8) {s w : Nat} (h : p.length ≤ s) : seg (p ++ q) s w = seg q (s - p.length) w := by
  unfold seg
  rw [List.length_append, List.drop_append, List.drop_of_length_le h, List.nil_append]
  by_cases h1 : p.length + q.length < s + w
  · rw [if_pos h1, if_pos (by omega)]
  · rw [if_neg h1, if_neg (by omega)]
theorem seg_left (p q : List UInt8) {s w : Nat} (h : s + w ≤ p.length) : seg (p ++ q) s w = seg p s w := by
  unfold seg
  rw [List.length_append, if_neg (by omega), if_neg (by omega), List.drop_append, List.take_append_of_le_length (by rw [List.length_drop]; omega)]
theorem na_be (k n : Nat) (q : List UInt8) {s w : Nat} (h : k ≤ s) : na (be k n ++ q) s w = na q (s - k) w := by
  unfold na
  rw [seg_app _ _ (by rw [be_length]; exact h), be_length]
theorem na_0 (n : Nat) (q : List UInt8) {w : Nat} (hw : w ≤ 8) (hn : n < 256 ^ w) : na (be w n ++ q) 0 w = n := by
  unfold na
  rw [seg_left _ _ (by rw [be_length]; omega), seg_in (by rw [be_length]; omega), List.drop_zero, List.take_of_length_le (by rw [be_length]; omega), num_be w n hw, Nat.mod_eq_of_lt hn]
theorem td (l : List UInt8) {s w t : Nat} (h : t = s + w) : (l.drop s).take w ++ l.drop t = l.drop s := by
  subst h
  rw [← List.drop_drop, List.take_append_drop]
def chk (l : List UInt8) : List UInt8 := l ++ be 4 (crc l)
def bd (b : List UInt8) : List UInt8 := (b.drop 1).take (b.length - 5)
def frm (k : Nat) (b : List UInt8) : Bool := decide (5 ≤ b.length) && (b[0]? == some (UInt8.ofNat k) && num (b.drop (b.length - 4)) == crc (b.take (b.length - 4)))
theorem bd_len (b : List UInt8) : (bd b).length = b.length - 5 := by unfold bd; rw [List.length_take, List.length_drop]; omega
theorem chk_len (l : List UInt8) : (chk l).length = l.length + 4 := by simp [chk, be_length]
theorem bd_chk (k : UInt8) (l : List UInt8) : bd (chk (k :: l)) = l := by
  unfold bd
  rw [chk_len, chk, List.cons_append, List.drop_one, List.tail_cons, List.length_cons, show l.length + 1 + 4 - 5 = l.length by omega, List.take_left]
theorem frm_len {k : Nat} {b : List UInt8} (h : frm k b = true) : 5 ≤ b.length := by
  simp only [frm, Bool.and_eq_true, decide_eq_true_eq] at h; exact h.1
theorem frm_eq {k : Nat} {b : List UInt8} (h : frm k b = true) : b = chk (UInt8.ofNat k :: bd b) := by
  simp only [frm, Bool.and_eq_true, decide_eq_true_eq, beq_iff_eq] at h
  obtain ⟨h1, h2, h3⟩ := h
  cases b with
  | nil => simp at h1
  | cons c b =>
    simp only [List.getElem?_cons_zero, Option.some.injEq] at h2
    subst h2
    have e1 : (UInt8.ofNat k :: bd (UInt8.ofNat k :: b)) = (UInt8.ofNat k :: b).take ((UInt8.ofNat k :: b).length - 4) := by
      unfold bd
      rw [List.drop_one, List.tail_cons, List.length_cons]
      rw [List.length_cons] at h1
      rw [show b.length + 1 - 4 = (b.length + 1 - 5) + 1 by omega, List.take_succ_cons]
    rw [e1]
    unfold chk
    rw [← h3]
    generalize hx : UInt8.ofNat k :: b = x at *
    have hl : (x.drop (x.length - 4)).length = 4 := by rw [List.length_drop]; omega
    have := be_num (x.drop (x.length - 4)) (by omega)
    rw [hl] at this
    rw [this, List.take_append_drop]
theorem frm_chk {k : Nat} (l : List UInt8) : frm k (chk (UInt8.ofNat k :: l)) = true := by
  have hl := chk_len (UInt8.ofNat k :: l)
  rw [List.length_cons] at hl
  simp only [frm, Bool.and_eq_true, decide_eq_true_eq, beq_iff_eq]
  refine ⟨by omega, by simp [chk], ?_⟩
  rw [hl, show l.length + 1 + 4 - 4 = (UInt8.ofNat k :: l).length by simp]
  unfold chk
  rw [List.drop_left, List.take_left, num_be 4 _ (by omega), Nat.mod_eq_of_lt (crc_lt _)]
theorem na_bd {b : List UInt8} {s w : Nat} (h : s + w + 5 ≤ b.length) : na b (s + 1) w = na (bd b) s w := by
  unfold na
  rw [seg_in (by omega), seg_in (by rw [bd_len]; omega)]
  unfold bd
  rw [List.drop_take, List.take_take, List.drop_drop, Nat.min_eq_left (by omega), Nat.add_comm 1 s]
def sg (n : Nat) : Int := IntKind.i64.wrap n
theorem sg_pos {n : Nat} (hn : n < 18446744073709551616) (h : 0 ≤ sg n) : sg n = n := by
  unfold sg at *
  simp [IntKind.wrap, IntKind.bits, IntKind.signed] at *
  omega
theorem sg_nat {n : Nat} (hn : n < 9223372036854775808) : sg n = n := wrap_i64 (by omega) (by omega)
theorem be_sg {l : List UInt8} {s : Nat} (h : s + 8 ≤ l.length) (h0 : 0 ≤ sg (na l s 8)) : be 8 (sg (na l s 8)).toNat = (l.drop s).take 8 := by
  rw [sg_pos (na8 l s) h0, Int.toNat_natCast, be_na h (by omega)]
structure Li where
  f : Nat
  t : Nat
  q : Int
  k : Int
  B : List UInt8
def Li0 : Li := ⟨0, 0, 0, 0, []⟩
def sqB (n : Int) : Bool := decide (0 ≤ n) && decide (n ≤ 4611686018427387904)
theorem sqB_iff {n : Int} : sqB n = true ↔ 0 ≤ n ∧ n ≤ 4611686018427387904 := by simp [sqB]
def okLi (x : Li) : Bool := sqB x.q && sqB x.k && decide (x.B.length ≤ 2048)
structure rgLi (x : Li) : Prop where
  hf : x.f < 256
  ht : x.t < 256
def enLi (x : Li) : List UInt8 := be 1 x.f ++ (be 1 x.t ++ (be 8 x.q.toNat ++ (be 8 x.k.toNat ++ (be 2 x.B.length ++ x.B))))
def deLi (l : List UInt8) : Li := ⟨na l 0 1, na l 1 1, sg (na l 2 8), sg (na l 10 8), seg l 20 (na l 18 2)⟩
def pdLi (l : List UInt8) : Option Li := if l.length = 20 + na l 18 2 ∧ okLi (deLi l) = true then some (deLi l) else none
theorem enLi_len (x : Li) : (enLi x).length = 20 + x.B.length := by simp [enLi, be_length]; omega
theorem okLi_iff {x : Li} : okLi x = true ↔ (0 ≤ x.q ∧ x.q ≤ 4611686018427387904) ∧ (0 ≤ x.k ∧ x.k ≤ 4611686018427387904) ∧ x.B.length ≤ 2048 := by
  simp only [okLi, Bool.and_eq_true, sqB_iff, decide_eq_true_eq, and_assoc]
theorem deLi_rg (l : List UInt8) : rgLi (deLi l) := ⟨na1 l 0, na1 l 1⟩
theorem pdLi_e {l : List UInt8} {x : Li} (h : pdLi l = some x) : enLi x = l ∧ okLi x = true ∧ rgLi x := by
  unfold pdLi at h
  split at h
  · rename_i hc
    obtain ⟨h1, h2⟩ := hc
    simp only [Option.some.injEq] at h; subst h
    refine ⟨?_, h2, deLi_rg l⟩
    have h3 := okLi_iff.1 h2
    simp only [deLi] at h3
    have hs : seg l 20 (na l 18 2) = l.drop 20 := by rw [seg_in (by omega), List.take_of_length_le (by rw [List.length_drop]; omega)]
    unfold enLi deLi
    simp only
    rw [hs, show (l.drop 20).length = na l 18 2 by rw [List.length_drop]; omega, be_na (by omega) (by omega), be_na (by omega) (by omega), be_sg (by omega) h3.1.1, be_sg (by omega) h3.2.1.1, be_na (by omega) (by omega), td l rfl, td l rfl, td l rfl, td l rfl, td l rfl, List.drop_zero]
  · cases h
theorem pdLi_d {x : Li} (h1 : okLi x = true) (h2 : rgLi x) : pdLi (enLi x) = some x := by
  have h := okLi_iff.1 h1
  have e0 : na (enLi x) 18 2 = x.B.length := by
    unfold enLi
    simp only [na_be, Nat.reduceLeDiff, Nat.reduceSub, Nat.le_refl, Nat.sub_self]
    rw [na_0 _ _ (by omega) (by omega)]
  have e1 : seg (enLi x) 20 x.B.length = x.B := by
    rw [seg_in (by rw [enLi_len]; omega)]
    unfold enLi
    rw [← List.append_assoc, ← List.append_assoc, ← List.append_assoc, ← List.append_assoc, List.drop_append, List.drop_of_length_le (by simp [be_length])]
    simp [be_length]
  have e : deLi (enLi x) = x := by
    unfold deLi
    rw [e0, e1]
    unfold enLi
    simp only [na_be, Nat.reduceLeDiff, Nat.reduceSub, Nat.le_refl, Nat.sub_self]
    rw [na_0 _ _ (by omega) h2.hf, na_0 _ _ (by omega) h2.ht, na_0 _ _ (by omega) (by omega), na_0 _ _ (by omega) (by omega), sg_nat (by omega), sg_nat (by omega), Int.toNat_of_nonneg h.1.1, Int.toNat_of_nonneg h.2.1.1]
  unfold pdLi
  rw [if_pos ⟨by rw [enLi_len, e0], by rw [e]; exact h1⟩, e]
end Go.AM.Fd

set_option linter.unusedSimpArgs false
set_option linter.unusedVariables false
namespace Go.AM.Fd
open Nat (reduceAdd reduceEqDiff reduceLT reduceLeDiff reduceMul reduceSub)
open Go.Proofs Go.AM.F
def RR (H : AHeap) (lo hi r : Nat) (l : List UInt8) (s : Nat) : Prop := lo ≤ r ∧ r < hi ∧ hi ≤ H.n ∧ ∃ bv, lo ≤ bv ∧ bv < hi ∧ RS H r bv (l.drop s) (decide (l.length < s))
theorem RR.keeps {H H' : AHeap} {lo hi r : Nat} {l : List UInt8} {s : Nat} (h : RR H lo hi r l s) (k : Keeps H H') : RR H' lo hi r l s := by
  obtain ⟨h1, h2, h3, bv, h4, h5, h6⟩ := h
  exact ⟨h1, h2, Nat.le_trans h3 k.n, bv, h4, h5, h6.chg (k.chg []) (by simp) (by simp)⟩
theorem RR.chg {H H' : AHeap} {lo hi r b : Nat} {l : List UInt8} {s : Nat} (h : RR H lo hi r l s) (k : Chg [b] H H') (hb : b < lo ∨ hi ≤ b) : RR H' lo hi r l s := by
  obtain ⟨h1, h2, h3, bv, h4, h5, h6⟩ := h
  exact ⟨h1, h2, Nat.le_trans h3 k.n, bv, h4, h5, h6.chg k (by simp; omega) (by simp; omega)⟩
theorem fail_at (l : List UInt8) (s w : Nat) : failB (l.drop s) (decide (l.length < s)) (w : Int) ↔ l.length < s + w := by
  unfold failB
  rw [List.length_drop, decide_eq_true_eq]
  omega
theorem Aft.rr {H H' : AHeap} {r bv lo hi s w : Nat} {l : List UInt8} (h : Aft H H' r bv (l.drop s) (decide (l.length < s)) (w : Int)) (h1 : lo ≤ r) (h2 : r < hi) (h3 : hi ≤ H'.n) (h4 : lo ≤ bv) (h5 : bv < hi) : RR H' lo hi r l (s + w) := by
  obtain ⟨bv', p1, p2⟩ := h
  refine ⟨h1, h2, h3, bv', by omega, by omega, ?_⟩
  have e1 : restL (l.drop s) (decide (l.length < s)) (w : Int) = l.drop (s + w) := by
    unfold restL
    by_cases hf : l.length < s + w
    · rw [if_pos ((fail_at l s w).2 hf), List.drop_of_length_le (by omega)]
    · rw [if_neg (fun h => hf ((fail_at l s w).1 h)), Int.toNat_natCast, List.drop_drop]
  have e2 : badB (l.drop s) (decide (l.length < s)) (w : Int) = decide (l.length < s + w) := by
    unfold badB
    rw [decide_eq_decide, fail_at]
  rw [e1, e2] at p1
  exact p1
theorem gotL_at (l : List UInt8) (s w : Nat) : gotL (l.drop s) (decide (l.length < s)) (w : Int) = seg l s w := by
  unfold gotL seg
  by_cases hf : l.length < s + w
  · rw [if_pos ((fail_at l s w).2 hf), if_pos hf]
  · rw [if_neg (fun h => hf ((fail_at l s w).1 h)), if_neg hf, Int.toNat_natCast]
section
variable {H : AHeap} {lo hi r s : Nat} {l : List UInt8}
theorem q63 (h : RR H lo hi r l s) (hl : l.length ≤ 1000000000) : ∃ v H', ARun Go.Proofs.Try.prog 0 63 [ptr r 0] H v H' ∧ v = .int .u8 (na l s 1 : Nat) ∧ RR H' lo hi r l (s + 1) ∧ Chg [r] H H' := by
  obtain ⟨h1, h2, h3, bv, h4, h5, h6⟩ := h
  obtain ⟨v, H', q, rfl, p1, p2⟩ := t63 h6 (by rw [List.length_drop]; omega)
  exact ⟨_, H', q, by rw [show (1 : Int) = ((1 : Nat) : Int) from rfl, gotL_at]; rfl, Aft.rr p1 h1 h2 (Nat.le_trans h3 p2.n) h4 h5, p2⟩
theorem q75 (h : RR H lo hi r l s) (hl : l.length ≤ 1000000000) : ∃ v H', ARun Go.Proofs.Try.prog 0 75 [ptr r 0] H v H' ∧ v = .int .u16 (na l s 2 : Nat) ∧ RR H' lo hi r l (s + 2) ∧ Chg [r] H H' := by
  obtain ⟨h1, h2, h3, bv, h4, h5, h6⟩ := h
  obtain ⟨v, H', q, rfl, p1, p2⟩ := t75 h6 (by rw [List.length_drop]; omega)
  exact ⟨_, H', q, by rw [show (2 : Int) = ((2 : Nat) : Int) from rfl, gotL_at]; rfl, Aft.rr p1 h1 h2 (Nat.le_trans h3 p2.n) h4 h5, p2⟩
theorem q65 (h : RR H lo hi r l s) (hl : l.length ≤ 1000000000) : ∃ v H', ARun Go.Proofs.Try.prog 0 65 [ptr r 0] H v H' ∧ v = .int .u32 (na l s 4 : Nat) ∧ RR H' lo hi r l (s + 4) ∧ Chg [r] H H' := by
  obtain ⟨h1, h2, h3, bv, h4, h5, h6⟩ := h
  obtain ⟨v, H', q, rfl, p1, p2⟩ := t65 h6 (by rw [List.length_drop]; omega)
  exact ⟨_, H', q, by rw [show (4 : Int) = ((4 : Nat) : Int) from rfl, gotL_at]; rfl, Aft.rr p1 h1 h2 (Nat.le_trans h3 p2.n) h4 h5, p2⟩
theorem q64 (h : RR H lo hi r l s) (hl : l.length ≤ 1000000000) : ∃ v H', ARun Go.Proofs.Try.prog 0 64 [ptr r 0] H v H' ∧ v = .int .u64 (na l s 8 : Nat) ∧ RR H' lo hi r l (s + 8) ∧ Chg [r] H H' := by
  obtain ⟨h1, h2, h3, bv, h4, h5, h6⟩ := h
  obtain ⟨v, H', q, rfl, p1, p2⟩ := t64 h6 (by rw [List.length_drop]; omega)
  exact ⟨_, H', q, by rw [show (8 : Int) = ((8 : Nat) : Int) from rfl, gotL_at]; rfl, Aft.rr p1 h1 h2 (Nat.le_trans h3 p2.n) h4 h5, p2⟩
theorem q74 (h : RR H lo hi r l s) (w : Nat) (hl : l.length ≤ 1000000000) : ∃ v H', ARun Go.Proofs.Try.prog 0 74 [ptr r 0, .int .i64 (w : Nat)] H v H' ∧ BS H' v (seg l s w) ∧ RR H' lo hi r l (s + w) ∧ Chg [r] H H' ∧ (∀ b, blk v = some b → lo ≤ b ∧ b < hi) := by
  obtain ⟨h1, h2, h3, bv, h4, h5, h6⟩ := h
  obtain ⟨v, H', q, p0, p1, p2, p3⟩ := t74 h6 (w : Int) (by rw [List.length_drop]; omega)
  rw [gotL_at] at p0
  refine ⟨_, H', q, p0, Aft.rr p1 h1 h2 (Nat.le_trans h3 p2.n) h4 h5, p2, ?_⟩
  intro b hb
  rcases p3 with ⟨rfl, _⟩ | ⟨_, _, ⟨rfl, _⟩ | ⟨o, c, rm, rfl, _⟩⟩
  · cases hb
  · cases hb
  · cases hb; exact ⟨h4, h5⟩
theorem q99 (h : RR H lo hi r l s) : ∃ v H', ARun Go.Proofs.Try.prog 0 99 [ptr r 0] H v H' ∧ v = .bool (decide (l.length < s)) ∧ H' = H := by
  obtain ⟨h1, h2, h3, bv, h4, h5, h6⟩ := h
  exact t99 h6
theorem q100 (h : RR H lo hi r l s) : ∃ v H', ARun Go.Proofs.Try.prog 0 100 [ptr r 0] H v H' ∧ v = .int .i64 (l.length - s : Nat) ∧ H' = H := by
  obtain ⟨h1, h2, h3, bv, h4, h5, h6⟩ := h
  have := t100 h6
  rwa [List.length_drop] at this
end
theorem n103 (n : Int) (H : AHeap) : ∃ v H', ARun Go.Proofs.Try.prog 0 103 [.pointer none, .int .i64 n] H v H' ∧ v = .slice none 0 0 ∧ H' = H := by
  refine walk2 f103_ok f103_n ?_
  intro Q hq1 hq2
  simp (disch := first | assumption | omega | (simp only [LN] <;> omega) | (simp (disch := first | assumption | omega | (simp only [LN] <;> omega)) only [row_alloc, row_set]; assumption)) only [f103, W_block, P3, ↓reduceIte, reduceAdd, reduceEqDiff, reduceCtorEq, initFr, reduceLT, clsA, reduceLeDiff, reduceMul, reduceSub, reduceIte]
  exact hq2 _ _ ⟨_, rfl, rfl, rfl⟩
theorem n98 (k : Nat) (hk : k < 4) (H : AHeap) : ∃ v H', ARun Go.Proofs.Try.prog 0 98 [.pointer none, .int .i64 ((2 ^ k : Nat) : Int)] H v H' ∧ v = .iface (tyR k) (.int (kdR k) 0) ∧ H' = H := by
  refine walk2 f98_ok f98_n ?_
  intro Q hq1 hq2
  simp (disch := first | assumption | omega | (simp only [LN] <;> omega) | (simp (disch := first | assumption | omega | (simp only [LN] <;> omega)) only [row_alloc, row_set]; assumption)) only [f98, W_block, P3, ↓reduceIte, reduceAdd, reduceEqDiff, reduceCtorEq, initFr, reduceLT, clsA, reduceLeDiff, reduceMul, reduceSub, reduceIte]
  refine callK (n103 _ H) ?_
  rintro _ _ ⟨rfl, rfl⟩
  simp (disch := first | assumption | omega | (simp only [LN] <;> omega) | (simp (disch := first | assumption | omega | (simp only [LN] <;> omega)) only [row_alloc, row_set]; assumption)) only [W_block, P3, ↓reduceIte, reduceAdd, reduceEqDiff, reduceCtorEq, initFr, reduceLT, clsA, reduceLeDiff, reduceMul, reduceSub, reduceIte]
  refine callK (t110 (BS.nil _) k hk (by simp)) ?_
  rintro _ _ ⟨rfl, rfl⟩
  simp (disch := first | assumption | omega | (simp only [LN] <;> omega) | (simp (disch := first | assumption | omega | (simp only [LN] <;> omega)) only [row_alloc, row_set]; assumption)) only [W_block, P3, ↓reduceIte, reduceAdd, reduceEqDiff, reduceCtorEq, initFr, reduceLT, clsA, reduceLeDiff, reduceMul, reduceSub, reduceIte]
  exact hq2 _ _ ⟨_, rfl, rfl, rfl⟩
theorem n63 (H : AHeap) : ∃ v H', ARun Go.Proofs.Try.prog 0 63 [.pointer none] H v H' ∧ v = .int .u8 0 ∧ H' = H := by
  refine walk2 f63_ok f63_n ?_
  intro Q hq1 hq2
  simp (disch := first | assumption | omega | (simp only [LN] <;> omega) | (simp (disch := first | assumption | omega | (simp only [LN] <;> omega)) only [row_alloc, row_set]; assumption)) only [f63, W_block, P3, ↓reduceIte, reduceAdd, reduceEqDiff, reduceCtorEq, initFr, reduceLT, clsA, reduceLeDiff, reduceMul, reduceSub, reduceIte]
  refine callK (n98 0 (by omega) H) ?_
  rintro _ _ ⟨rfl, rfl⟩
  simp (disch := first | assumption | omega | (simp only [LN] <;> omega) | (simp (disch := first | assumption | omega | (simp only [LN] <;> omega)) only [row_alloc, row_set]; assumption)) only [W_block, P3, ↓reduceIte, reduceAdd, reduceEqDiff, reduceCtorEq, initFr, reduceLT, clsA, reduceLeDiff, reduceMul, reduceSub, reduceIte, tyR, kdR]
  exact hq2 _ _ ⟨_, rfl, rfl, rfl⟩
theorem n75 (H : AHeap) : ∃ v H', ARun Go.Proofs.Try.prog 0 75 [.pointer none] H v H' ∧ v = .int .u16 0 ∧ H' = H := by
  refine walk2 f75_ok f75_n ?_
  intro Q hq1 hq2
  simp (disch := first | assumption | omega | (simp only [LN] <;> omega) | (simp (disch := first | assumption | omega | (simp only [LN] <;> omega)) only [row_alloc, row_set]; assumption)) only [f75, W_block, P3, ↓reduceIte, reduceAdd, reduceEqDiff, reduceCtorEq, initFr, reduceLT, clsA, reduceLeDiff, reduceMul, reduceSub, reduceIte]
  refine callK (n98 1 (by omega) H) ?_
  rintro _ _ ⟨rfl, rfl⟩
  simp (disch := first | assumption | omega | (simp only [LN] <;> omega) | (simp (disch := first | assumption | omega | (simp only [LN] <;> omega)) only [row_alloc, row_set]; assumption)) only [W_block, P3, ↓reduceIte, reduceAdd, reduceEqDiff, reduceCtorEq, initFr, reduceLT, clsA, reduceLeDiff, reduceMul, reduceSub, reduceIte, tyR, kdR]
  exact hq2 _ _ ⟨_, rfl, rfl, rfl⟩
theorem n64 (H : AHeap) : ∃ v H', ARun Go.Proofs.Try.prog 0 64 [.pointer none] H v H' ∧ v = .int .u64 0 ∧ H' = H := by
  refine walk2 f64_ok f64_n ?_
  intro Q hq1 hq2
  simp (disch := first | assumption | omega | (simp only [LN] <;> omega) | (simp (disch := first | assumption | omega | (simp only [LN] <;> omega)) only [row_alloc, row_set]; assumption)) only [f64, W_block, P3, ↓reduceIte, reduceAdd, reduceEqDiff, reduceCtorEq, initFr, reduceLT, clsA, reduceLeDiff, reduceMul, reduceSub, reduceIte]
  refine callK (n98 3 (by omega) H) ?_
  rintro _ _ ⟨rfl, rfl⟩
  simp (disch := first | assumption | omega | (simp only [LN] <;> omega) | (simp (disch := first | assumption | omega | (simp only [LN] <;> omega)) only [row_alloc, row_set]; assumption)) only [W_block, P3, ↓reduceIte, reduceAdd, reduceEqDiff, reduceCtorEq, initFr, reduceLT, clsA, reduceLeDiff, reduceMul, reduceSub, reduceIte, tyR, kdR]
  exact hq2 _ _ ⟨_, rfl, rfl, rfl⟩
theorem n74 (n : Int) (H : AHeap) : ∃ v H', ARun Go.Proofs.Try.prog 0 74 [.pointer none, .int .i64 n] H v H' ∧ v = .slice none 0 0 ∧ H' = H := by
  refine walk2 f74_ok f74_n ?_
  intro Q hq1 hq2
  simp (disch := first | assumption | omega | (simp only [LN] <;> omega) | (simp (disch := first | assumption | omega | (simp only [LN] <;> omega)) only [row_alloc, row_set]; assumption)) only [f74, W_block, P3, ↓reduceIte, reduceAdd, reduceEqDiff, reduceCtorEq, initFr, reduceLT, clsA, reduceLeDiff, reduceMul, reduceSub, reduceIte]
  refine callK (n103 _ H) ?_
  rintro _ _ ⟨rfl, rfl⟩
  simp (disch := first | assumption | omega | (simp only [LN] <;> omega) | (simp (disch := first | assumption | omega | (simp only [LN] <;> omega)) only [row_alloc, row_set]; assumption)) only [W_block, P3, ↓reduceIte, reduceAdd, reduceEqDiff, reduceCtorEq, initFr, reduceLT, clsA, reduceLeDiff, reduceMul, reduceSub, reduceIte]
  exact hq2 _ _ ⟨_, rfl, rfl, rfl⟩
theorem frm_w (k : Nat) (b : List UInt8) (h5 : 5 ≤ b.length) : frm k b = (b[0]? == some (UInt8.ofNat k) && num (b.drop (b.length - 4)) == crc (b.take (b.length - 4))) := by
  simp [frm, h5]
theorem t62 {H : AHeap} {x : Value} {b : List UInt8} (hx : BQ H x b) (k : Nat) (hk : k < 256) (hl : b.length ≤ 1000000000) : ∃ v H', ARun Go.Proofs.Try.prog 0 62 [.int .u8 k, x] H v H' ∧ Keeps H H' ∧
    ((v = .tuple #[.pointer none, .bool false] ∧ H' = H ∧ frm k b = false) ∨ ∃ r, v = .tuple #[ptr r 0, .bool (frm k b)] ∧ RR H' H.n H'.n r (bd b) 0) := by
  refine walk2 f62_ok f62_n ?_
  intro Q hq1 hq2
  have hs := hx.bs.sl
  have his := hs.is
  have hlen := hs.len
  rw [List.length_map] at hlen
  by_cases h5 : b.length < 5
  · simp (disch := first | assumption | omega | (simp only [LN] <;> omega) | (simp (disch := first | assumption | omega | (simp only [LN] <;> omega)) only [row_alloc, row_set]; assumption)) only [f62, W_block, P3, ↓reduceIte, reduceAdd, reduceEqDiff, reduceCtorEq, initFr, reduceLT, clsA, reduceLeDiff, reduceMul, reduceSub, reduceIte, hlen]
    exact hq2 _ _ ⟨_, rfl, Keeps.refl _, .inl ⟨rfl, rfl, by simp [frm]; omega⟩⟩
  · obtain ⟨hnn, hrow⟩ := hs.at_ (by omega) (i := 0) (by rw [List.length_map]; omega)
    rw [List.getElem_map] at hrow
    by_cases h0 : b[0] = UInt8.ofNat k
    · have e0 : ((b[0].toNat : Nat) : Int) = (k : Int) := by rw [h0]; simp; omega
      have hw : IntKind.i64.wrap ((b.length : Int) - 4) = ((b.length - 4 : Nat) : Int) := by rw [wrap_i64 (by omega) (by omega)]; omega
      obtain ⟨w1, s1, q1⟩ := hx.from_ (k := .i64) (b.length - 4) (by omega)
      simp (disch := first | assumption | omega | (simp only [LN] <;> omega) | (simp (disch := first | assumption | omega | (simp only [LN] <;> omega)) only [row_alloc, row_set]; assumption)) only [f62, W_block, P3, ↓reduceIte, reduceAdd, reduceEqDiff, reduceCtorEq, initFr, reduceLT, clsA, reduceLeDiff, reduceMul, reduceSub, reduceIte, hlen, e0, hw, s1]
      refine callK (t96 q1.bs (by rw [List.length_drop]; omega)) ?_
      rintro _ H1 ⟨r1, bv1, rfl, p1, p2, p3, k1⟩
      obtain ⟨w2, s2, q2⟩ := (hx.keeps k1).mid (k := .i64) (k' := .i64) 1 (b.length - 4) (by omega) (by omega)
      have s2' : asem (.slsl 1 x (some (.int .i64 1)) (some (.int .i64 (b.length - 4 : Nat))) none) H1 = some (w2, H1) := s2
      simp (disch := first | assumption | omega | (simp only [LN] <;> omega) | (simp (disch := first | assumption | omega | (simp only [LN] <;> omega)) only [row_alloc, row_set]; assumption)) only [W_block, P3, ↓reduceIte, reduceAdd, reduceEqDiff, reduceCtorEq, initFr, reduceLT, clsA, reduceLeDiff, reduceMul, reduceSub, reduceIte, hlen, hw, s2']
      refine callK (t96 q2.bs (by rw [List.length_take, List.length_drop]; omega)) ?_
      rintro _ H2 ⟨r2, bv2, rfl, o1, o2, o3, k2⟩
      simp (disch := first | assumption | omega | (simp only [LN] <;> omega) | (simp (disch := first | assumption | omega | (simp only [LN] <;> omega)) only [row_alloc, row_set]; assumption)) only [W_block, P3, ↓reduceIte, reduceAdd, reduceEqDiff, reduceCtorEq, initFr, reduceLT, clsA, reduceLeDiff, reduceMul, reduceSub, reduceIte, hlen, hw]
      refine callK (t65 (p1.chg (k2.chg []) (by simp) (by simp)) (by rw [List.length_drop]; omega)) ?_
      rintro _ H3 ⟨rfl, m1, k3⟩
      have kk : Keeps H H3 := (k1.trans k2).chg_trans k3 (by simp; omega)
      obtain ⟨w3, s3, q3⟩ := (hx.keeps kk).to_ (k := .i64) (b.length - 4) (by omega)
      have tx := hx.tbl
      have n1 := k1.n
      have n2 := k2.n
      simp (disch := first | assumption | omega | (simp only [LN] <;> omega) | (simp (disch := first | assumption | omega | (simp only [LN] <;> omega)) only [row_alloc, row_set]; assumption)) only [W_block, P3, ↓reduceIte, reduceAdd, reduceEqDiff, reduceCtorEq, initFr, reduceLT, clsA, reduceLeDiff, reduceMul, reduceSub, reduceIte, hlen, hw, s3, touch_sl]
      refine ⟨⟨⟨tb_older (fun y hy => Nat.lt_of_lt_of_le (tx y hy) n1), tb_keeps (fun y hy => ⟨Nat.lt_of_lt_of_le (tx y hy) n1, by simp⟩) (k2.chg [])⟩,
        tb_older (fun y hy => Nat.lt_of_lt_of_le (tx y hy) (Nat.le_trans n1 n2)), tb_keeps (fun y hy => ⟨Nat.lt_of_lt_of_le (tx y hy) (Nat.le_trans n1 n2), by have := tx y hy; simp; omega⟩) k3⟩, ?_⟩
      refine callK (t97 q3.bs (by rw [List.length_take]; omega)) ?_
      rintro _ _ ⟨rfl, rfl⟩
      simp (disch := first | assumption | omega | (simp only [LN] <;> omega) | (simp (disch := first | assumption | omega | (simp only [LN] <;> omega)) only [row_alloc, row_set]; assumption)) only [W_block, P3, ↓reduceIte, reduceAdd, reduceEqDiff, reduceCtorEq, initFr, reduceLT, clsA, reduceLeDiff, reduceMul, reduceSub, reduceIte]
      have eb : (b.drop 1).take (b.length - 4 - 1) = bd b := by unfold bd; rw [show b.length - 4 - 1 = b.length - 5 by omega]
      have eg : gotL (b.drop (b.length - 4)) false 4 = b.drop (b.length - 4) := by
        have hl4 : (b.drop (b.length - 4)).length = 4 := by rw [List.length_drop]; omega
        unfold gotL
        rw [if_neg (by unfold failB; rw [hl4]; simp), List.take_of_length_le (by rw [hl4]; decide)]
      have ef : frm k b = ((num (b.drop (b.length - 4)) : Int) == (crc (b.take (b.length - 4)) : Int)) := by
        have e1 : ((b[0]? == some (UInt8.ofNat k)) = true) := by rw [List.getElem?_eq_getElem (by omega), h0]; simp
        rw [frm_w k b (by omega), e1, Bool.true_and, Bool.eq_iff_iff, beq_iff_eq, beq_iff_eq]
        omega
      refine hq2 _ _ ⟨_, rfl, kk, .inr ⟨r2, by rw [ef, eg]; rfl, by omega, AHeap.get_lt ((o1.chg k3 (by simp; have := p1.lt; omega) (by simp; have := p1.lt; omega)).choose_spec.1), Nat.le_refl _, bv2, by omega, ?_, ?_⟩⟩
      · exact (o1.chg k3 (by simp; have := p1.lt; omega) (by simp; have := p1.lt; omega)).lt.2
      · have := o1.chg k3 (by simp; have := p1.lt; omega) (by simp; have := p1.lt; omega)
        rw [eb] at this
        rw [List.drop_zero, decide_eq_false (by omega)]
        exact this
    · have e0 : ((b[0].toNat : Nat) : Int) ≠ (k : Int) := by
        intro he
        apply h0
        apply UInt8.toNat_inj.1
        simp; omega
      simp (disch := first | assumption | omega | (simp only [LN] <;> omega) | (simp (disch := first | assumption | omega | (simp only [LN] <;> omega)) only [row_alloc, row_set]; assumption)) only [f62, W_block, P3, ↓reduceIte, reduceAdd, reduceEqDiff, reduceCtorEq, initFr, reduceLT, clsA, reduceLeDiff, reduceMul, reduceSub, reduceIte, hlen, e0]
      refine hq2 _ _ ⟨_, rfl, Keeps.refl _, .inl ⟨rfl, rfl, ?_⟩⟩
      have e1 : ((b[0]? == some (UInt8.ofNat k)) = false) := by rw [List.getElem?_eq_getElem (by omega)]; simpa using h0
      rw [frm_w k b (by omega), e1, Bool.false_and]
end Go.AM.Fd

set_option linter.unusedSimpArgs false
set_option linter.unusedVariables false
namespace Go.AM.Fd
open Nat (reduceAdd reduceEqDiff reduceLT reduceLeDiff reduceMul reduceSub)
open Go.Proofs Go.AM.F
def II (l : List Int) : List (List Value) := l.map fun n => [.int .i64 n]
end Go.AM.Fd

set_option linter.unusedSimpArgs false
set_option linter.unusedVariables false
namespace Go.AM.Fd
open Nat (reduceAdd reduceEqDiff reduceLT reduceLeDiff reduceMul reduceSub)
open Go.Proofs Go.AM.F
def cLi (v : Value) (x : Li) : List Value := [.int .u8 (x.f : Nat), .int .u8 (x.t : Nat), .int .i64 x.q, .int .i64 x.k, v]
theorem sl2 (H : AHeap) (n m : Int) (e : Nat) : Sl (H.alloc (.cells true false 1 [.int .i64 n, .int .i64 m] e)) 1 (slc H.n 0 2 2) (II [n, m]) := by
  refine ⟨⟨_, _, rfl⟩, by simp [II], ?_⟩
  exact elems_own (AHeap.get_alloc_new H _) rfl
theorem fillII (x y : Value) (n m : Int) : fillA [x, y] [(0, 1, .int .i64 n), (1, 1, .int .i64 m)] = some [.int .i64 n, .int .i64 m] := rfl
theorem mayLi (x : Li) {vb : Value} {H : AHeap} (hb : BS H vb x.B) : ∃ v H', ARun Go.Proofs.Try.prog 0 101 [.iface 65 (.agg (cLi vb x).toArray)] H v H' ∧ v = .bool (okLi x) ∧ Keeps H H' := by
  refine walk2 f101_ok f101_n ?_
  intro Q hq1 hq2
  have hone := hb.sl.one
  have his := hb.sl.is
  have hlen := hb.sl.len
  rw [List.length_map] at hlen
  have lz : Z70.length = 70 := rfl
  have oz : Z70.all Value.oneCell' = true := rfl
  by_cases h0 : 0 ≤ x.q
  · by_cases h1 : x.q ≤ 4611686018427387904
    · by_cases h2 : 0 ≤ x.k
      · by_cases h3 : x.k ≤ 4611686018427387904
        · by_cases h4 : (x.B.length : Int) ≤ 2048
          · simp (disch := first | assumption | omega | (simp only [LN] <;> omega) | (simp (disch := first | assumption | omega | (simp only [LN] <;> omega)) only [row_alloc, row_set]; assumption)) only [f101, W_block, P3, ↓reduceIte, reduceAdd, reduceEqDiff, reduceCtorEq, initFr, reduceLT, clsA, reduceLeDiff, reduceMul, reduceSub, reduceIte, cLi, hone, hlen, oz]
            exact hq2 _ _ ⟨_, rfl, congrArg Value.bool (a₁ := _) (by simp [okLi, sqB]; omega), by ((repeat (first | exact Keeps.refl _ | assumption | refine Keeps.alloc ?_ _ | (refine Keeps.set ?_ (by first | omega | (simp only [alloc_n, set_n] <;> omega)) (by first | omega | (simp only [alloc_n, set_n] <;> omega)) _) | (refine Keeps.trans' (by assumption) ?_))))⟩
          · simp (disch := first | assumption | omega | (simp only [LN] <;> omega) | (simp (disch := first | assumption | omega | (simp only [LN] <;> omega)) only [row_alloc, row_set]; assumption)) only [f101, W_block, P3, ↓reduceIte, reduceAdd, reduceEqDiff, reduceCtorEq, initFr, reduceLT, clsA, reduceLeDiff, reduceMul, reduceSub, reduceIte, cLi, hone, hlen, oz]
            exact hq2 _ _ ⟨_, rfl, congrArg Value.bool (a₁ := _) (by simp [okLi, sqB]; omega), by ((repeat (first | exact Keeps.refl _ | assumption | refine Keeps.alloc ?_ _ | (refine Keeps.set ?_ (by first | omega | (simp only [alloc_n, set_n] <;> omega)) (by first | omega | (simp only [alloc_n, set_n] <;> omega)) _) | (refine Keeps.trans' (by assumption) ?_))))⟩
        · simp (disch := first | assumption | omega | (simp only [LN] <;> omega) | (simp (disch := first | assumption | omega | (simp only [LN] <;> omega)) only [row_alloc, row_set]; assumption)) only [f101, W_block, P3, ↓reduceIte, reduceAdd, reduceEqDiff, reduceCtorEq, initFr, reduceLT, clsA, reduceLeDiff, reduceMul, reduceSub, reduceIte, cLi, hone, hlen, oz]
          exact hq2 _ _ ⟨_, rfl, congrArg Value.bool (a₁ := _) (by simp [okLi, sqB]; omega), by ((repeat (first | exact Keeps.refl _ | assumption | refine Keeps.alloc ?_ _ | (refine Keeps.set ?_ (by first | omega | (simp only [alloc_n, set_n] <;> omega)) (by first | omega | (simp only [alloc_n, set_n] <;> omega)) _) | (refine Keeps.trans' (by assumption) ?_))))⟩
      · simp (disch := first | assumption | omega | (simp only [LN] <;> omega) | (simp (disch := first | assumption | omega | (simp only [LN] <;> omega)) only [row_alloc, row_set]; assumption)) only [f101, W_block, P3, ↓reduceIte, reduceAdd, reduceEqDiff, reduceCtorEq, initFr, reduceLT, clsA, reduceLeDiff, reduceMul, reduceSub, reduceIte, cLi, hone, hlen, oz]
        exact hq2 _ _ ⟨_, rfl, congrArg Value.bool (a₁ := _) (by simp [okLi, sqB]; omega), by ((repeat (first | exact Keeps.refl _ | assumption | refine Keeps.alloc ?_ _ | (refine Keeps.set ?_ (by first | omega | (simp only [alloc_n, set_n] <;> omega)) (by first | omega | (simp only [alloc_n, set_n] <;> omega)) _) | (refine Keeps.trans' (by assumption) ?_))))⟩
    · simp (disch := first | assumption | omega | (simp only [LN] <;> omega) | (simp (disch := first | assumption | omega | (simp only [LN] <;> omega)) only [row_alloc, row_set]; assumption)) only [f101, W_block, P3, ↓reduceIte, reduceAdd, reduceEqDiff, reduceCtorEq, initFr, reduceLT, clsA, reduceLeDiff, reduceMul, reduceSub, reduceIte, cLi, hone, hlen, oz]
      exact hq2 _ _ ⟨_, rfl, congrArg Value.bool (a₁ := _) (by simp [okLi, sqB]; omega), by ((repeat (first | exact Keeps.refl _ | assumption | refine Keeps.alloc ?_ _ | (refine Keeps.set ?_ (by first | omega | (simp only [alloc_n, set_n] <;> omega)) (by first | omega | (simp only [alloc_n, set_n] <;> omega)) _) | (refine Keeps.trans' (by assumption) ?_))))⟩
  · simp (disch := first | assumption | omega | (simp only [LN] <;> omega) | (simp (disch := first | assumption | omega | (simp only [LN] <;> omega)) only [row_alloc, row_set]; assumption)) only [f101, W_block, P3, ↓reduceIte, reduceAdd, reduceEqDiff, reduceCtorEq, initFr, reduceLT, clsA, reduceLeDiff, reduceMul, reduceSub, reduceIte, cLi, hone, hlen, oz]
    exact hq2 _ _ ⟨_, rfl, congrArg Value.bool (a₁ := _) (by simp [okLi, sqB]; omega), by ((repeat (first | exact Keeps.refl _ | assumption | refine Keeps.alloc ?_ _ | (refine Keeps.set ?_ (by first | omega | (simp only [alloc_n, set_n] <;> omega)) (by first | omega | (simp only [alloc_n, set_n] <;> omega)) _) | (refine Keeps.trans' (by assumption) ?_))))⟩
end Go.AM.Fd

set_option linter.unusedSimpArgs false
set_option linter.unusedVariables false
namespace Go.AM.Fd
open Nat (reduceAdd reduceEqDiff reduceLT reduceLeDiff reduceMul reduceSub)
open Go.Proofs Go.AM.F
theorem Put.lt {H H' : AHeap} {b bv : Nat} {l : List UInt8} (h : Put H H' b bv l) : H.n ≤ H'.n := h.choose_spec.2.2.n
theorem Put.trans {A B C : AHeap} {b bv bv' : Nat} {l : List UInt8} (hl : bv < A.n) (h1 : bv' = bv ∨ A.n ≤ bv') (k : Chg [b, bv] A B) (h2 : Put B C b bv' l) : Put A C b bv l := by
  obtain ⟨bw, w, hb, k2⟩ := h2
  refine ⟨bw, w, ?_, ⟨Nat.le_trans k.n k2.n, fun x hx hn => ?_⟩⟩
  · have := k.n; omega
  · simp only [List.mem_cons, List.not_mem_nil, or_false, not_or] at hn
    rw [k2.get x (Nat.lt_of_lt_of_le hx k.n) (by simp; omega), k.get x hx (by simp; omega)]
theorem Put.keeps {A B : AHeap} {b bv : Nat} {l : List UInt8} (w : WS A b bv l) (k : Keeps A B) : Put A B b bv l :=
  ⟨bv, w.chg (k.chg []) (by simp) (by simp), .inl rfl, k.chg _⟩
def nsB (l : List Int) : List UInt8 := l.flatMap fun n => be 8 n.toNat
theorem nsB_len (l : List Int) : (nsB l).length = 8 * l.length := by
  induction l with
  | nil => rfl
  | cons x l ih =>
    rw [nsB, List.flatMap_cons, List.length_append, be_length, List.length_cons]
    have : (l.flatMap fun n => be 8 n.toNat).length = 8 * l.length := ih
    omega
theorem t80 {H : AHeap} {b bv : Nat} {l : List UInt8} (h : WS H b bv l) {v : Value} {ns : List Int} (hs : Sl H 1 v (II ns)) (hv : ∀ y, blk v = some y → y ≠ b ∧ y ≠ bv) (hn : ∀ n ∈ ns, 0 ≤ n ∧ n ≤ 4611686018427387904) (hl : l.length ≤ 10000000) (hnl : ns.length ≤ 1000) :
    ∃ w H', ARun Go.Proofs.Try.prog 0 80 [ptr b 0, v] H w H' ∧ Put H H' b bv (l ++ nsB ns) := by
  refine walk2 f80_ok f80_n ?_
  intro Q hq1 hq2
  have his := hs.is
  have hlen := hs.len
  rw [II, List.length_map] at hlen
  have hlt := h.lt
  simp (disch := first | assumption | omega | (simp only [LN] <;> omega) | (simp (disch := first | assumption | omega | (simp only [LN] <;> omega)) only [row_alloc, row_set]; assumption)) only [f80, W_block, P3, ↓reduceIte, reduceAdd, reduceEqDiff, reduceCtorEq, initFr, reduceLT, clsA, reduceLeDiff, reduceMul, reduceSub, reduceIte, hlen]
  refine W_loop2 (fun q fr K => ∃ (i bw : Nat) (c e : Value), i ≤ ns.length ∧ q = ns.length - i ∧ WS K b bw (l ++ nsB (ns.take i)) ∧ (bw = bv ∨ H.n ≤ bw) ∧ Chg [b, bv] H K ∧ fr = [ptr b 0, v, c, v, .int .i64 ns.length, .int .i64 i, e]) ns.length ⟨0, bv, undef, undef, by omega, rfl, by simpa [nsB] using h, .inl rfl, Chg.refl _ _, rfl⟩ ?_
  rintro Q' q fr K ⟨i, bw, c, e, hi, rfl, hw, hbw, kK, rfl⟩ hn' he hrt
  have nK := kK.n
  by_cases hc : i < ns.length
  · obtain ⟨hnn, hrow⟩ := (hs.chg kK (fun y hy => by have := hv y hy; simp; omega)).at_ (by omega) (i := i) (by simpa [II] using hc)
    simp only [II, List.getElem_map] at hrow
    have hb := hn _ (List.getElem_mem hc)
    have hwr : IntKind.u64.wrap ns[i] = ((ns[i].toNat : Nat) : Int) := by rw [wrap_u64]; omega
    simp (disch := first | assumption | omega | (simp only [LN] <;> omega) | (simp (disch := first | assumption | omega | (simp only [LN] <;> omega)) only [row_alloc, row_set]; assumption)) only [W_block, P3, ↓reduceIte, reduceAdd, reduceEqDiff, reduceCtorEq, initFr, reduceLT, clsA, reduceLeDiff, reduceMul, reduceSub, reduceIte, hwr]
    refine callK (t84 hw ns[i].toNat (by omega) (by
      rw [List.length_append, nsB_len, List.length_take]; omega)) ?_
    rintro w K2 ⟨bw2, hw2, hb2, k2⟩
    simp (disch := first | assumption | omega | (simp only [LN] <;> omega) | (simp (disch := first | assumption | omega | (simp only [LN] <;> omega)) only [row_alloc, row_set]; assumption)) only [W_block, P3, ↓reduceIte, reduceAdd, reduceEqDiff, reduceCtorEq, initFr, reduceLT, clsA, reduceLeDiff, reduceMul, reduceSub, reduceIte, wrap_succ (n := i) (by omega)]
    refine hn' _ _ _ ⟨i + 1, bw2, _, _, by omega, rfl, ?_, by have := hw.lt; omega, ?_, rfl⟩ (by omega)
    · rw [List.take_succ_eq_append_getElem hc, nsB, List.flatMap_append]
      simp only [List.flatMap_cons, List.flatMap_nil, List.append_nil, ← List.append_assoc]
      rw [← nsB]
      exact hw2
    · refine ⟨Nat.le_trans kK.n k2.n, fun x hx hxn => ?_⟩
      simp only [List.mem_cons, List.not_mem_nil, or_false, not_or] at hxn
      rw [k2.get x (by omega) (by simp; omega), kK.get x hx (by simp; omega)]
  · simp (disch := first | assumption | omega | (simp only [LN] <;> omega) | (simp (disch := first | assumption | omega | (simp only [LN] <;> omega)) only [row_alloc, row_set]; assumption)) only [W_block, P3, ↓reduceIte, reduceAdd, reduceEqDiff, reduceCtorEq, initFr, reduceLT, clsA, reduceLeDiff, reduceMul, reduceSub, reduceIte]
    refine he _ _ _ ?_
    simp (disch := first | assumption | omega | (simp only [LN] <;> omega) | (simp (disch := first | assumption | omega | (simp only [LN] <;> omega)) only [row_alloc, row_set]; assumption)) only [W_block, P3, ↓reduceIte, reduceAdd, reduceEqDiff, reduceCtorEq, initFr, reduceLT, clsA, reduceLeDiff, reduceMul, reduceSub, reduceIte]
    rw [List.take_of_length_le (by omega)] at hw
    exact hq1 _ _ ⟨_, rfl, bw, hw, hbw, kK⟩
def CLO (H : AHeap) (g : Nat) (cap : Value) (pre body : List UInt8) : Prop :=
  ∀ (H1 : AHeap) (b bv : Nat), Keeps H H1 → H.n ≤ b → H.n ≤ bv → WS H1 b bv pre → ∃ w H', ARun Go.Proofs.Try.prog 0 g [ptr b 0, cap] H1 w H' ∧ Put H1 H' b bv (pre ++ body)
theorem blk_slc_eq {b o n k y : Nat} (h : blk (slc b o n k) = some y) : y = b := by cases h; rfl
theorem WS.alloc {H : AHeap} {b bv : Nat} {l : List UInt8} (h : WS H b bv l) (o : AO) : WS (H.alloc o) b bv l := h.chg (((Keeps.refl H).alloc o).chg []) (by simp) (by simp)
theorem Chg2.al {H K : AHeap} {b bv : Nat} {o : AO} (d : Chg [b, bv] (H.alloc o) K) : Chg [b, bv] H K := ⟨Nat.le_trans (by rw [alloc_n]; omega) d.n, fun x hx hn => by rw [d.get x (by rw [alloc_n]; omega) hn, AHeap.get_alloc_old _ _ hx]⟩
theorem or_al {H : AHeap} {b bv : Nat} {o : AO} (h : b = bv ∨ (H.alloc o).n ≤ b) : b = bv ∨ H.n ≤ b := by rw [alloc_n] at h; omega
theorem t78 {H : AHeap} {p : Nat} {x : Li} {vb : Value} (g : H.get p = some (.cells true false 5 (cLi vb x) 65)) (hB : BS H vb x.B) (hx : rgLi x) (hok : okLi x = true) (pre : List UInt8) (hp : pre.length ≤ 1000) : CLO H 78 (ptr p 0) pre (enLi x) := by
  intro H1 b bv k1 hb hbv w
  have hok' := okLi_iff.1 hok
  refine walk2 f78_ok f78_n ?_
  intro Q hq1 hq2
  have lpH := AHeap.get_lt g
  have g := k1.at_ g
  have lp := AHeap.get_lt g
  have hlt := w.lt
  have hone := hB.sl.one
  have his := hB.sl.is
  have hlen := hB.sl.len
  rw [List.length_map] at hlen
  have hB1 := hB.keeps k1
  have hne : ∀ y ∈ tb vb, y < H.n := hB.tbl
  simp (disch := first | assumption | omega | (simp only [LN] <;> omega) | (simp (disch := first | assumption | omega | (simp only [LN] <;> omega)) only [row_alloc, row_set]; assumption)) only [f78, W_block, P3, ↓reduceIte, reduceAdd, reduceEqDiff, reduceCtorEq, initFr, reduceLT, clsA, reduceLeDiff, reduceMul, reduceSub, reduceIte, g, cLi]
  refine callK (t79 w x.f hx.hf (by omega)) ?_
  rintro _ K1 ⟨b1, w1, hb1, d1⟩
  have n1 := d1.n
  have l1 := w1.lt
  simp (disch := first | assumption | omega | (simp only [LN] <;> omega) | (simp (disch := first | assumption | omega | (simp only [LN] <;> omega)) only [row_alloc, row_set]; assumption)) only [Chg2.get d1, W_block, P3, ↓reduceIte, reduceAdd, reduceEqDiff, reduceCtorEq, initFr, reduceLT, clsA, reduceLeDiff, reduceMul, reduceSub, reduceIte, g, cLi]
  refine callK (t79 w1 x.t hx.ht (by simp [be_length]; omega)) ?_
  rintro _ K2 ⟨b2, w2, hb2, d2⟩
  have n2 := d2.n
  have l2 := w2.lt
  simp (disch := first | assumption | omega | (simp only [LN] <;> omega) | (simp (disch := first | assumption | omega | (simp only [LN] <;> omega)) only [row_alloc, row_set]; assumption)) only [Chg2.get d1, Chg2.get d2, W_block, P3, ↓reduceIte, reduceAdd, reduceEqDiff, reduceCtorEq, initFr, reduceLT, clsA, reduceLeDiff, reduceMul, reduceSub, reduceIte, g, cLi, fillII]
  refine callK (t80 (w2.alloc _) (sl2 _ _ _ _) (by intro y hy; have := blk_slc_eq hy; omega) (by simp; omega) (by simp [be_length]; omega) (by simp)) ?_
  rintro _ K3 ⟨b3, w3, hb3, d3⟩
  have hb3 := or_al hb3
  have d3 := Chg2.al d3
  have n3 := d3.n
  have l3 := w3.lt
  have hw : IntKind.u16.wrap (x.B.length : Int) = (x.B.length : Nat) := by rw [wrap_u16]; omega
  simp (disch := first | assumption | omega | (simp only [LN] <;> omega) | (simp (disch := first | assumption | omega | (simp only [LN] <;> omega)) only [row_alloc, row_set]; assumption)) only [Chg2.get d1, Chg2.get d2, Chg2.get d3, W_block, P3, ↓reduceIte, reduceAdd, reduceEqDiff, reduceCtorEq, initFr, reduceLT, clsA, reduceLeDiff, reduceMul, reduceSub, reduceIte, g, cLi, hlen, hw]
  refine callK (t81 w3 x.B.length (by omega) (by simp [be_length, nsB_len]; omega)) ?_
  rintro _ K4 ⟨b4, w4, hb4, d4⟩
  have n4 := d4.n
  have l4 := w4.lt
  have hB4 : BS K4 vb x.B := (((hB1.chgT d1 (fun y hy => by have := hne y hy; simp; omega)).chgT d2 (fun y hy => by have := hne y hy; simp; omega)).chgT d3 (fun y hy => by have := hne y hy; simp; omega)).chgT d4 (fun y hy => by have := hne y hy; simp; omega)
  simp (disch := first | assumption | omega | (simp only [LN] <;> omega) | (simp (disch := first | assumption | omega | (simp only [LN] <;> omega)) only [row_alloc, row_set]; assumption)) only [Chg2.get d1, Chg2.get d2, Chg2.get d3, Chg2.get d4, W_block, P3, ↓reduceIte, reduceAdd, reduceEqDiff, reduceCtorEq, initFr, reduceLT, clsA, reduceLeDiff, reduceMul, reduceSub, reduceIte, g, cLi]
  refine callK (t82 w4 hB4 (by simp [be_length, nsB_len]; omega)) ?_
  rintro _ K5 p5
  simp (disch := first | assumption | omega | (simp only [LN] <;> omega) | (simp (disch := first | assumption | omega | (simp only [LN] <;> omega)) only [row_alloc, row_set]; assumption)) only [W_block, P3, ↓reduceIte, reduceAdd, reduceEqDiff, reduceCtorEq, initFr, reduceLT, clsA, reduceLeDiff, reduceMul, reduceSub, reduceIte]
  refine hq1 _ _ ⟨_, rfl, ?_⟩
  have e : pre ++ enLi x = pre ++ be 1 x.f ++ be 1 x.t ++ nsB [x.q, x.k] ++ be 2 x.B.length ++ x.B := by simp [enLi, nsB, List.append_assoc]
  rw [e]
  exact Put.trans hlt.2 hb1 d1 (Put.trans l1.2 hb2 d2 (Put.trans l2.2 hb3 d3 (Put.trans l3.2 hb4 d4 p5)))
end Go.AM.Fd

set_option linter.unusedSimpArgs false
set_option linter.unusedVariables false
namespace Go.AM.Fd
open Nat (reduceAdd reduceEqDiff reduceLT reduceLeDiff reduceMul reduceSub)
open Go.Proofs Go.AM.F
theorem new_ws (H : AHeap) : WS (H.alloc (.cells true false 1 [.slice none 0 0] 166)) H.n H.n [] := ⟨_, AHeap.get_alloc_new H _, .inl ⟨rfl, rfl, rfl⟩, .inl ⟨rfl, rfl⟩⟩
theorem be1 (k : Nat) : be 1 k = [UInt8.ofNat k] := by simp [be]
def PutR (H H' : AHeap) (v : Value) (l : List UInt8) : Prop := AP H' 5 1 v l.length (cellsOf l) ∧ Keeps H H' ∧ Fresh H.n v
theorem t77 {H : AHeap} (k : Nat) (hk : k < 256) (vi : Value) (okb : Bool) (g : Nat) (cap : Value) (body : List UInt8) (hb : body.length ≤ 100000)
    (hmay : ∃ v H', ARun Go.Proofs.Try.prog 0 101 [vi] H v H' ∧ v = .bool okb ∧ Keeps H H') (hfill : okb = true → CLO H g cap (be 1 k) body) :
    ∃ v H', ARun Go.Proofs.Try.prog 0 77 [.int .u8 k, vi, .func (.func g) #[] #[cap]] H v H' ∧ PutR H H' v (if okb then chk (UInt8.ofNat k :: body) else []) := by
  refine walk2 f77_ok f77_n ?_
  intro Q hq1 hq2
  simp (disch := first | assumption | omega | (simp only [LN] <;> omega) | (simp (disch := first | assumption | omega | (simp only [LN] <;> omega)) only [row_alloc, row_set]; assumption)) only [f77, W_block, P3, ↓reduceIte, reduceAdd, reduceEqDiff, reduceCtorEq, initFr, reduceLT, clsA, reduceLeDiff, reduceMul, reduceSub, reduceIte]
  refine callK hmay ?_
  rintro _ H1 ⟨rfl, k1⟩
  cases okb with
  | false =>
    simp (disch := first | assumption | omega | (simp only [LN] <;> omega) | (simp (disch := first | assumption | omega | (simp only [LN] <;> omega)) only [row_alloc, row_set]; assumption)) only [W_block, P3, ↓reduceIte, reduceAdd, reduceEqDiff, reduceCtorEq, initFr, reduceLT, clsA, reduceLeDiff, reduceMul, reduceSub, reduceIte]
    exact hq2 _ _ ⟨_, rfl, .inl ⟨rfl, rfl, rfl⟩, k1, by intro b hb; cases hb⟩
  | true =>
    have hn1 := k1.n
    simp (disch := first | assumption | omega | (simp only [LN] <;> omega) | (simp (disch := first | assumption | omega | (simp only [LN] <;> omega)) only [row_alloc, row_set]; assumption)) only [W_block, P3, ↓reduceIte, reduceAdd, reduceEqDiff, reduceCtorEq, initFr, reduceLT, clsA, reduceLeDiff, reduceMul, reduceSub, reduceIte]
    have w0 := new_ws H1
    have k2 := (Keeps.refl H1).alloc (.cells true false 1 [.slice none 0 0] 166)
    obtain ⟨Ha, hHa⟩ : ∃ X, X = H1.alloc (.cells true false 1 [.slice none 0 0] 166) := ⟨_, rfl⟩
    rw [← hHa] at w0 k2 ⊢
    have n2 := k2.n
    refine callK (t79 w0 k hk (by simp)) ?_
    rintro _ H3 ⟨b3, w3, hb3, d3⟩
    rw [List.nil_append] at w3
    have n3 := d3.n
    have k3 : Keeps H H3 := (k1.trans k2).chg_trans d3 (by simp; omega)
    simp (disch := first | assumption | omega | (simp only [LN] <;> omega) | (simp (disch := first | assumption | omega | (simp only [LN] <;> omega)) only [row_alloc, row_set]; assumption)) only [W_block, P3, ↓reduceIte, reduceAdd, reduceEqDiff, reduceCtorEq, initFr, reduceLT, clsA, reduceLeDiff, reduceMul, reduceSub, reduceIte]
    refine callK (hfill rfl H3 H1.n b3 k3 (by omega) (by omega) w3) ?_
    rintro _ H4 ⟨b4, w4, hb4, d4⟩
    have n4 := d4.n
    have k4 : Keeps H H4 := k3.chg_trans d4 (by simp; omega)
    have hlen : (be 1 k ++ body).length ≤ 1000000 := by simp [be_length]; omega
    simp (disch := first | assumption | omega | (simp only [LN] <;> omega) | (simp (disch := first | assumption | omega | (simp only [LN] <;> omega)) only [row_alloc, row_set]; assumption)) only [W_block, P3, ↓reduceIte, reduceAdd, reduceEqDiff, reduceCtorEq, initFr, reduceLT, clsA, reduceLeDiff, reduceMul, reduceSub, reduceIte]
    refine callK (t104 w4 (by omega)) ?_
    rintro v5 H5 ⟨a5, k5, f5⟩
    simp (disch := first | assumption | omega | (simp only [LN] <;> omega) | (simp (disch := first | assumption | omega | (simp only [LN] <;> omega)) only [row_alloc, row_set]; assumption)) only [W_block, P3, ↓reduceIte, reduceAdd, reduceEqDiff, reduceCtorEq, initFr, reduceLT, clsA, reduceLeDiff, reduceMul, reduceSub, reduceIte]
    refine callK (t97 a5.bs (by omega)) ?_
    rintro _ _ ⟨rfl, rfl⟩
    simp (disch := first | assumption | omega | (simp only [LN] <;> omega) | (simp (disch := first | assumption | omega | (simp only [LN] <;> omega)) only [row_alloc, row_set]; assumption)) only [W_block, P3, ↓reduceIte, reduceAdd, reduceEqDiff, reduceCtorEq, initFr, reduceLT, clsA, reduceLeDiff, reduceMul, reduceSub, reduceIte]
    refine callK (t85 (w4.chg (k5.chg []) (by simp) (by simp)) (crc (be 1 k ++ body)) (crc_lt _) (by omega)) ?_
    rintro _ H6 ⟨b6, w6, hb6, d6⟩
    have n6 := d6.n
    have n5 := k5.n
    simp (disch := first | assumption | omega | (simp only [LN] <;> omega) | (simp (disch := first | assumption | omega | (simp only [LN] <;> omega)) only [row_alloc, row_set]; assumption)) only [W_block, P3, ↓reduceIte, reduceAdd, reduceEqDiff, reduceCtorEq, initFr, reduceLT, clsA, reduceLeDiff, reduceMul, reduceSub, reduceIte]
    refine callK (t104 w6 (by rw [List.length_append, be_length]; omega)) ?_
    rintro v7 H7 ⟨a7, k7, f7⟩
    simp (disch := first | assumption | omega | (simp only [LN] <;> omega) | (simp (disch := first | assumption | omega | (simp only [LN] <;> omega)) only [row_alloc, row_set]; assumption)) only [W_block, P3, ↓reduceIte, reduceAdd, reduceEqDiff, reduceCtorEq, initFr, reduceLT, clsA, reduceLeDiff, reduceMul, reduceSub, reduceIte]
    have k6 : Keeps H H6 := (k4.trans k5).chg_trans d6 (by simp; omega)
    refine hq2 _ _ ⟨_, rfl, ?_, k6.trans k7, fun b hb => by have := f7 b hb; have := k6.n; omega⟩
    rw [be1] at a7
    exact a7
def fLi (x : Li) : List UInt8 := if okLi x then chk (5 :: enLi x) else []
theorem CLO.keeps {H H' : AHeap} {g : Nat} {cap : Value} {pre body : List UInt8} (h : CLO H g cap pre body) (k : Keeps H H') : CLO H' g cap pre body :=
  fun H1 b bv k1 hb hbv w => h H1 b bv (k.trans k1) (Nat.le_trans k.n hb) (Nat.le_trans k.n hbv) w
theorem PutR.from_ {A B C : AHeap} {v : Value} {l : List UInt8} (k : Keeps A B) (h : PutR B C v l) : PutR A C v l := ⟨h.1, k.trans h.2.1, fun b hb => Nat.le_trans k.n (h.2.2 b hb)⟩
theorem t36 {H : AHeap} (x : Li) {vb : Value} (hx : rgLi x) (hB : BS H vb x.B) (hl : x.B.length ≤ 50000) : ∃ v H', ARun Go.Proofs.Try.prog 0 36 [.agg (cLi vb x).toArray] H v H' ∧ PutR H H' v (fLi x) := by
  refine walk2 f36_ok f36_n ?_
  intro Q hq1 hq2
  have hone := hB.sl.one
  have k0 := (Keeps.refl H).alloc (.cells true false 5 (cLi vb x) 65)
  have g := AHeap.get_alloc_new H (.cells true false 5 (cLi vb x) 65)
  have hcl : vb.cells.toList = [vb] := by obtain ⟨a, k, rfl⟩ := hB.sh; rfl
  have lx : (cLi vb x).length = 5 := rfl
  have ox : (cLi vb x).all Value.oneCell' = true := by simp only [cLi, List.all_cons, List.all_nil, hone]; rfl
  simp (disch := first | assumption | omega | (simp only [LN] <;> omega) | (simp (disch := first | assumption | omega | (simp only [LN] <;> omega)) only [row_alloc, row_set]; assumption)) only [f36, W_block, P3, ↓reduceIte, reduceAdd, reduceEqDiff, reduceCtorEq, initFr, reduceLT, clsA, reduceLeDiff, reduceMul, reduceSub, reduceIte, ox]
  have hB1 := hB.keeps k0
  refine callK (t77 5 (by omega) _ (okLi x) 78 _ (enLi x) (by rw [enLi_len]; omega) (mayLi x hB1) (fun hok => t78 g hB1 hx hok _ (by rw [be_length]; omega))) ?_
  rintro v H' p
  simp (disch := first | assumption | omega | (simp only [LN] <;> omega) | (simp (disch := first | assumption | omega | (simp only [LN] <;> omega)) only [row_alloc, row_set]; assumption)) only [W_block, P3, ↓reduceIte, reduceAdd, reduceEqDiff, reduceCtorEq, initFr, reduceLT, clsA, reduceLeDiff, reduceMul, reduceSub, reduceIte]
  exact hq2 _ _ ⟨_, rfl, PutR.from_ k0 p⟩
end Go.AM.Fd
