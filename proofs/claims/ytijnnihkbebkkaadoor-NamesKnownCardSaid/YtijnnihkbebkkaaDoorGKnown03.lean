/- Part of the proof. -/
import Derived.Test.YtijnnihkbebkkaaDoorGKnown02
import Derived.Laws.Externs
set_option linter.unusedSimpArgs false
set_option linter.unusedVariables false
set_option linter.unusedSimpArgs false
set_option linter.unusedVariables false
namespace Go.AM
section
variable {P : Program} {ng : Nat} {H H' : AHeap} {Q : AQ} {fr tm : List Value}
def cellO (g : Option AO) (o : Nat) : Option Value := match g with
  | some (.cells _ _ _ c _) => c[o]?
  | _ => none
def rangeO (g : Option AO) (o n : Nat) : Option (List Value) := match g with
  | some (.cells _ _ _ c _) => if o + n ≤ c.length then some ((c.drop o).take n) else none
  | _ => none
theorem cellA_e (H : AHeap) (b o : Nat) : cellA H b o = cellO (H.get b) o := by unfold cellA cellO; rfl
theorem rangeA_e (H : AHeap) (b o n : Nat) : rangeA H b o n = rangeO (H.get b) o n := by unfold rangeA rangeO; rfl
theorem cellO_c (own room : Bool) (esz e : Nat) (c : List Value) (o : Nat) : cellO (some (.cells own room esz c e)) o = c[o]? := _root_.id rfl
theorem rangeO_c (own room : Bool) (esz e : Nat) (c : List Value) (o n : Nat) : rangeO (some (.cells own room esz c e)) o n = if o + n ≤ c.length then some ((c.drop o).take n) else none := _root_.id rfl
def st1O (H : AHeap) (b o : Nat) (x : Value) (g : Option AO) : Option (Value × AHeap) := match g with
  | some (.cells true room esz c e) => if o < c.length ∧ x.oneCell' = true then some (undef, H.set b (.cells true room esz (c.set o x) e)) else none
  | _ => none
def stnO (H : AHeap) (b o n : Nat) (x : List Value) (g : Option AO) : Option (Value × AHeap) := match g with
  | some (.cells true room esz c e) => if o + n ≤ c.length ∧ x.length = n ∧ x.all Value.oneCell' = true then some (undef, H.set b (.cells true room esz (c.take o ++ x ++ c.drop (o + n)) e)) else none
  | _ => none
theorem a_store1e (H : AHeap) (b o : Nat) (x : Value) : asem (.store1 (ptr b o) x) H = st1O H b o x (H.get b) := by
  unfold st1O
  rfl
theorem a_storene (H : AHeap) (b o n : Nat) (x : Value) : asem (.storen n (ptr b o) x) H = stnO H b o n x.cells.toList (H.get b) := by
  unfold stnO
  rfl
theorem st1O_c (b o : Nat) (x : Value) (room : Bool) (esz e : Nat) (c : List Value) : st1O H b o x (some (.cells true room esz c e)) = if o < c.length ∧ x.oneCell' = true then some (undef, H.set b (.cells true room esz (c.set o x) e)) else none := by
  unfold st1O; rfl
theorem stnO_c (b o n : Nat) (x : List Value) (room : Bool) (esz e : Nat) (c : List Value) : stnO H b o n x (some (.cells true room esz c e)) = if o + n ≤ c.length ∧ x.length = n ∧ x.all Value.oneCell' = true then some (undef, H.set b (.cells true room esz (c.take o ++ x ++ c.drop (o + n)) e)) else none := by
  unfold stnO; rfl
theorem rng_full {own room : Bool} {esz e n : Nat} {c : List Value} (h : c.length = n) : rangeO (some (.cells own room esz c e)) 0 n = some c := by
  rw [rangeO_c, if_pos (by omega), List.drop_zero, List.take_of_length_le (by omega)]
theorem rng_part {own room : Bool} {esz e o n : Nat} {c : List Value} (h : c.length ≠ n) : rangeO (some (.cells own room esz c e)) o n = if o + n ≤ c.length then some ((c.drop o).take n) else none := rangeO_c ..
theorem stn_full {b n : Nat} {x : List Value} {room : Bool} {esz e : Nat} {c : List Value} (h : c.length = n) : stnO H b 0 n x (some (.cells true room esz c e)) = if x.length = n ∧ x.all Value.oneCell' = true then some (undef, H.set b (.cells true room esz x e)) else none := by
  rw [stnO_c]
  by_cases hx : x.length = n ∧ x.all Value.oneCell' = true
  · rw [if_pos ⟨by omega, hx⟩, if_pos hx, List.take_zero, List.nil_append, List.drop_of_length_le (by omega), List.append_nil]
  · rw [if_neg (fun h => hx h.2), if_neg hx]
theorem stn_part {b o n : Nat} {x : List Value} {room : Bool} {esz e : Nat} {c : List Value} (h : c.length ≠ n) : stnO H b o n x (some (.cells true room esz c e)) = if o + n ≤ c.length ∧ x.length = n ∧ x.all Value.oneCell' = true then some (undef, H.set b (.cells true room esz (c.take o ++ x ++ c.drop (o + n)) e)) else none := stnO_c ..
theorem cells_agg (l : List Value) : (Value.agg l.toArray).cells.toList = l := by simp [Value.cells]
theorem toList_arr (l : List Value) : l.toArray.toList = l := by simp
theorem size_arr (l : List Value) : l.toArray.size = l.length := by simp
theorem g_new {b : Nat} (o : AO) (h : b = H.n) : (H.alloc o).get b = some o := by subst h; exact AHeap.get_alloc_new H o
theorem g_old {b : Nat} (o : AO) (h : b < H.n) : (H.alloc o).get b = H.get b := AHeap.get_alloc_old H o h
theorem g_set (b : Nat) (o : AO) : (H.set b o).get b = (H.get b).map fun _ => o := by
  by_cases hb : b < H.n
  · by_cases h : H.n - 1 - b < H.l.length
    · simp [AHeap.get, AHeap.set, hb, h]
    · simp only [AHeap.get, AHeap.set, hb, if_true, List.getElem?_eq_none (Nat.le_of_not_lt h), Option.map_none]
      exact List.getElem?_eq_none (by simpa using Nat.le_of_not_lt h)
  · simp [AHeap.get, AHeap.set, hb]
theorem g_sets {b b' : Nat} (o : AO) (h : b' ≠ b) (h2 : b < H.n) : (H.set b o).get b' = H.get b' := AHeap.get_set_other H h h2 o
theorem set_new {b : Nat} (o o' : AO) (h : b = H.n) : (H.alloc o).set b o' = H.alloc o' := by subst h; exact alloc_set H o o'
theorem set_old {b : Nat} (o o' : AO) (h : b < H.n) : (H.alloc o).set b o' = (H.set b o').alloc o := by
  simp only [AHeap.alloc, AHeap.set, show H.n + 1 - 1 - b = (H.n - 1 - b) + 1 by omega, List.set_cons_succ]
theorem set_set (b : Nat) (o o' : AO) : (H.set b o).set b o' = H.set b o' := by simp [AHeap.set]
theorem lt_yes {a b : Nat} (h : a < b) : (a < b) = True := by simp [h]
theorem le_yes {a b : Nat} (h : a ≤ b) : (a ≤ b) = True := by simp [h]
theorem eqn_yes {a b : Nat} (h : a = b) : (a = b) = True := by simp [h]
theorem lti_yes {a b : Int} (h : a < b) : (a < b) = True := by simp [h]
theorem lei_yes {a b : Int} (h : a ≤ b) : (a ≤ b) = True := by simp [h]
theorem lti_no {a b : Int} (h : ¬ a < b) : (a < b) = False := by simp [h]
theorem lei_no {a b : Int} (h : ¬ a ≤ b) : (a ≤ b) = False := by simp [h]
theorem beqi_no {a b : Int} (h : ¬ a = b) : (a == b) = false := by simp [h]
theorem beqi_yes {a b : Int} (h : a = b) : (a == b) = true := by simp [h]
theorem bnei_no {a b : Int} (h : a = b) : (a != b) = false := by simp [h]
theorem bnei_yes {a b : Int} (h : ¬ a = b) : (a != b) = true := by simp [h]
theorem bi_u (b : Bool) : boolIs undef b = false := by cases b <;> rfl
theorem boolIs_t (b : Bool) : boolIs (.bool b) true = b := by cases b <;> rfl
theorem boolIs_f (b : Bool) : boolIs (.bool b) false = !b := by cases b <;> rfl
theorem callK {f : FuncId} {xs : List Value} {R K : Value → AHeap → Prop} (h : ∃ v H', ARun P ng f xs H v H' ∧ R v H') (k : ∀ v H', R v H' → K v H') : ∃ v H', ARun P ng f xs H v H' ∧ K v H' := by
  obtain ⟨v, H', h1, h2⟩ := h; exact ⟨v, H', h1, k v H' h2⟩
theorem Chg1.get {r : Nat} (c : Chg [r] H H') {b : Nat} (h1 : b < H.n) (h2 : b ≠ r) : H'.get b = H.get b := c.get b h1 (by simpa using h2)
theorem Chg2.get {r s : Nat} (c : Chg [r, s] H H') {b : Nat} (h1 : b < H.n) (h2 : b ≠ r) (h3 : b ≠ s) : H'.get b = H.get b := c.get b h1 (by simp [h2, h3])
theorem Chg.set' {S : List Nat} {A B : AHeap} (h : Chg S A B) {b : Nat} (hb : A.n ≤ b ∨ b ∈ S) (hb2 : b < B.n) (o : AO) : Chg S A (B.set b o) :=
  h.trans (Chg.set B hb2 o) (by intro x hx; simp at hx; subst hx; exact hb.symm)
def bn (v : Value) : Nat := match blk v with
  | some b => b + 1
  | none => 0
def elP (v : Value) (esz j off : Nat) : Value := match v with
  | .slice (some ⟨b, o, none⟩) _ _ => ptr b (o + j * esz + off)
  | _ => undef
def nnS (v : Value) : Bool := match v with
  | .slice (some ⟨_, _, none⟩) _ _ => true
  | _ => false
def lenS (v : Value) : Nat := match v with
  | .slice _ n _ => n
  | _ => 0
def isS (v : Value) : Bool := match v with
  | .slice _ _ _ => true
  | _ => false
def rowA (H : AHeap) (esz : Nat) (v : Value) (j : Nat) : Option (List Value) := match v with
  | .slice (some ⟨b, o, none⟩) _ _ => rangeA H b (o + j * esz) esz
  | _ => none
theorem nnS_inv {v : Value} (h : nnS v = true) : ∃ b o n k, v = slc b o n k := by
  unfold nnS at h
  split at h
  · exact ⟨_, _, _, _, rfl⟩
  · cases h
theorem isS_inv {v : Value} (h : isS v = true) : ∃ a n k, v = .slice a n k := by
  unfold isS at h
  split at h
  · exact ⟨_, _, _, rfl⟩
  · cases h
theorem a_lenv {v : Value} (h : isS v = true) : asem (.len false v) H = some (.int .i64 (lenS v), H) := by
  obtain ⟨a, n, k, rfl⟩ := isS_inv h; rfl
theorem a_iaddrv {v : Value} {esz : Nat} {kd : IntKind} {i : Int} (h : nnS v = true) (h1 : 0 ≤ i) (h2 : i < (lenS v : Int)) : asem (.iaddr esz v (.int kd i)) H = some (elP v esz i.toNat 0, H) := by
  obtain ⟨b, o, n, k, rfl⟩ := nnS_inv h
  rw [a_iaddr, if_pos ⟨h1, h2⟩]; rfl
theorem a_faddrv {v : Value} {esz j off d : Nat} (h : nnS v = true) : asem (.faddr d (elP v esz j off)) H = some (elP v esz j (off + d), H) := by
  obtain ⟨b, o, n, k, rfl⟩ := nnS_inv h
  show asem (.faddr d (ptr b (o + j * esz + off))) H = _
  rw [a_faddr, Nat.add_assoc]; rfl
theorem rowA_range {v : Value} {esz j : Nat} {r : List Value} (h : rowA H esz v j = some r) : ∃ b o n k, v = slc b o n k ∧ r.length = esz ∧ ∃ own room z c e, H.get b = some (.cells own room z c e) ∧ o + j * esz + esz ≤ c.length ∧ r = (c.drop (o + j * esz)).take esz := by
  unfold rowA at h
  split at h
  · rename_i b o n k
    refine ⟨b, o, n, k, rfl, ?_⟩
    unfold rangeA at h
    split at h
    · rename_i own room z c e hg
      split at h
      · rename_i hl
        simp only [Option.some.injEq] at h; subst h
        exact ⟨by rw [List.length_take, List.length_drop]; omega, own, room, z, c, e, hg, hl, rfl⟩
      · cases h
    · cases h
  · cases h
theorem a_load1v {v : Value} {esz j off : Nat} {r : List Value} (h : rowA H esz v j = some r) (ho : off < esz) : asem (.load1 (elP v esz j off)) H = r[off]?.map fun x => (x, H) := by
  obtain ⟨b, o, n, k, rfl, h1, own, room, z, c, e, h2, h3, h4⟩ := rowA_range h
  show asem (.load1 (ptr b (o + j * esz + off))) H = _
  rw [a_load1, cellA_of h2, h4, List.getElem?_take_of_lt ho, List.getElem?_drop]
theorem a_loadnv {v : Value} {esz j off n : Nat} {r : List Value} (h : rowA H esz v j = some r) (ho : off + n ≤ esz) : asem (.loadn n (elP v esz j off)) H = some (.agg ((r.drop off).take n).toArray, H) := by
  obtain ⟨b, o, n', k, rfl, h1, own, room, z, c, e, h2, h3, h4⟩ := rowA_range h
  show asem (.loadn n (ptr b (o + j * esz + off))) H = _
  rw [a_loadn, rangeA_of h2, if_pos (by omega), h4, List.drop_take, List.take_take, List.drop_drop, Nat.min_eq_left (by omega)]
  rfl
theorem a_loadnvf {v : Value} {n j : Nat} {r : List Value} (h : rowA H n v j = some r) : asem (.loadn n (elP v n j 0)) H = some (.agg r.toArray, H) := by
  obtain ⟨_, _, _, _, _, hl, _⟩ := rowA_range h
  rw [a_loadnv h (by omega), List.drop_zero, List.take_of_length_le (by omega)]
theorem a_loadnvp {v : Value} {esz j off n : Nat} {r : List Value} (hne : n ≠ esz) (h : rowA H esz v j = some r) (ho : off + n ≤ esz) : asem (.loadn n (elP v esz j off)) H = some (.agg ((r.drop off).take n).toArray, H) := a_loadnv h ho
theorem stD_callv {KF : List Value → AHeap → Prop} {tr : List TE} (g : FuncId) (first cap : Array Value) (xs : List Value) (d : D) (un : List Nat) (r : List (AOper × List Nat)) : stD P ng (.callv (.func (.func g) first cap) xs) d un r fr tm H tr KF = callD P ng g (first.toList ++ xs ++ cap.toList) d un r fr tm H tr KF := _root_.id rfl
theorem reads_el {v : Value} {esz j off : Nat} (h : nnS v = true) : readsA (.load1 (elP v esz j off)) = [bn v - 1] := by
  obtain ⟨b, o, n', k, rfl⟩ := nnS_inv h; rfl
theorem readsn_el {v : Value} {esz j off n : Nat} (h : nnS v = true) : readsA (.loadn n (elP v esz j off)) = [bn v - 1] := by
  obtain ⟨b, o, n', k, rfl⟩ := nnS_inv h; rfl
theorem rowA_get {esz : Nat} {v : Value} {j : Nat} (h : ∀ b, blk v = some b → H'.get b = H.get b) : rowA H' esz v j = rowA H esz v j := by
  unfold rowA
  split
  · rename_i b o n k
    rw [rangeA_e, rangeA_e, h b rfl]
  · rfl
theorem bn_lt {v : Value} {n b : Nat} (h : bn v ≤ n) (e : blk v = some b) : b < n := by
  unfold bn at h; rw [e] at h; exact h
theorem row_alloc {esz : Nat} {v : Value} {j : Nat} (o : AO) (h : bn v ≤ H.n) : rowA (H.alloc o) esz v j = rowA H esz v j := rowA_get fun b e => g_old o (bn_lt h e)
theorem row_set {esz : Nat} {v : Value} {j b : Nat} (o : AO) (h : bn v ≠ b + 1) (hb : b < H.n) : rowA (H.set b o) esz v j = rowA H esz v j := rowA_get fun x e => g_sets o (by intro hx; subst hx; apply h; unfold bn; rw [e]) hb
theorem Keeps.row (k : Keeps H H') {esz : Nat} {v : Value} {j : Nat} (h : bn v ≤ H.n) : rowA H' esz v j = rowA H esz v j := rowA_get fun b e => k.get b (bn_lt h e)
theorem Chg1.row {r : Nat} (k : Chg [r] H H') {esz : Nat} {v : Value} {j : Nat} (h : bn v ≤ H.n) (h2 : bn v ≠ r + 1) : rowA H' esz v j = rowA H esz v j := rowA_get fun b e => Chg1.get k (bn_lt h e) (by intro hx; subst hx; apply h2; unfold bn; rw [e])
structure Sl (H : AHeap) (esz : Nat) (v : Value) (rows : List (List Value)) : Prop where
  sh : ∃ a k, v = .slice a rows.length k
  row : ∀ r ∈ rows, r.length = esz
  el : elemsA H esz v = some rows.flatten
theorem Sl.len {esz : Nat} {v : Value} {rows : List (List Value)} (h : Sl H esz v rows) : lenS v = rows.length := by
  obtain ⟨a, k, rfl⟩ := h.sh; rfl
theorem Sl.is {esz : Nat} {v : Value} {rows : List (List Value)} (h : Sl H esz v rows) : isS v = true := by
  obtain ⟨a, k, rfl⟩ := h.sh; rfl
theorem Sl.one {esz : Nat} {v : Value} {rows : List (List Value)} (h : Sl H esz v rows) : v.oneCell' = true := by
  obtain ⟨a, k, rfl⟩ := h.sh; rfl
theorem Sl.nil (H : AHeap) (esz : Nat) : Sl H esz (.slice none 0 0) [] := ⟨⟨_, _, rfl⟩, by simp, rfl⟩
theorem flat_len {esz : Nat} : ∀ {rows : List (List Value)}, (∀ r ∈ rows, r.length = esz) → rows.flatten.length = rows.length * esz
  | [], _ => by simp
  | r :: rows, h => by
    have h1 := h r (by simp)
    have h2 := flat_len (rows := rows) (fun x hx => h x (by simp [hx]))
    rw [List.flatten_cons, List.length_append, h1, h2, List.length_cons, Nat.add_mul]; omega
theorem flat_at {esz : Nat} : ∀ {rows : List (List Value)}, (∀ r ∈ rows, r.length = esz) → ∀ (i : Nat) (hi : i < rows.length), (rows.flatten.drop (i * esz)).take esz = rows[i]
  | r :: rows, h, 0, _ => by
    have h1 := h r (by simp)
    rw [Nat.zero_mul, List.drop_zero, List.flatten_cons, List.take_append_of_le_length (by omega), List.take_of_length_le (by omega)]; rfl
  | r :: rows, h, i + 1, hi => by
    have h1 := h r (by simp)
    have h2 := flat_at (rows := rows) (fun x hx => h x (by simp [hx])) i (by simpa using hi)
    rw [Nat.add_mul, Nat.one_mul, Nat.add_comm, ← List.drop_drop, List.flatten_cons]
    rw [show (r ++ rows.flatten).drop esz = rows.flatten by rw [← h1, List.drop_left], h2]
    rfl
theorem Sl.at_ {esz : Nat} {v : Value} {rows : List (List Value)} (h : Sl H esz v rows) (hz : 0 < esz) {i : Nat} (hi : i < rows.length) : nnS v = true ∧ rowA H esz v i = some rows[i] := by
  have h2 := h.el
  have hfl := flat_len h.row
  have hpos : 0 < rows.flatten.length := by rw [hfl]; exact Nat.mul_pos (by omega) hz
  obtain ⟨a, k, rfl⟩ := h.sh
  match a, h2 with
  | none, h2 => simp only [elemsA, Option.some.injEq] at h2; rw [← h2] at hpos; simp at hpos
  | some ⟨b, o, some q⟩, h2 =>
    simp only [elemsA] at h2
    rw [if_neg (by omega)] at h2; cases h2
  | some ⟨b, o, none⟩, h2 =>
    refine ⟨rfl, ?_⟩
    simp only [elemsA] at h2
    simp only [rowA, rangeA]
    split at h2
    · rename_i own room z c e hg
      split at h2
      · rename_i hl
        have hm : (i + 1) * esz ≤ rows.length * esz := Nat.mul_le_mul_right esz hi
        rw [Nat.add_mul, Nat.one_mul] at hm
        rw [if_pos (by omega)]
        simp only [Option.some.injEq] at h2
        have := flat_at h.row i hi
        rw [← h2, List.drop_take, List.take_take, List.drop_drop, Nat.min_eq_left (by omega)] at this
        rw [this]
      · cases h2
    · cases h2
theorem Sl.get' {esz : Nat} {v : Value} {rows : List (List Value)} (h : Sl H esz v rows) (k : ∀ b, blk v = some b → b < H.n → H'.get b = H.get b) : Sl H' esz v rows := by
  refine ⟨h.sh, h.row, ?_⟩
  have h2 := h.el
  obtain ⟨a, c, rfl⟩ := h.sh
  match a, h2 with
  | none, h2 => exact h2
  | some ⟨b, o, none⟩, h2 =>
    simp only [elemsA] at h2 ⊢
    cases hg : H.get b with
    | none => rw [hg] at h2; cases h2
    | some ob => rw [k b rfl (AHeap.get_lt hg)]; exact h2
  | some ⟨b, o, some _⟩, h2 => simpa [elemsA] using h2
theorem Sl.keeps {esz : Nat} {v : Value} {rows : List (List Value)} (h : Sl H esz v rows) (k : Keeps H H') : Sl H' esz v rows := h.get' fun b _ hb => k.get b hb
theorem Sl.chg {esz : Nat} {v : Value} {rows : List (List Value)} {S : List Nat} (h : Sl H esz v rows) (k : Chg S H H') (hS : ∀ b, blk v = some b → b ∉ S) : Sl H' esz v rows := h.get' fun b e hb => k.get b hb (hS b e)
theorem BS.sl {v : Value} {l : List UInt8} (h : BS H v l) : Sl H 1 v (l.map fun b => [.int .u8 b.toNat]) := by
  obtain ⟨a, k, e⟩ := h.sh
  refine ⟨⟨a, k, by rw [List.length_map]; exact e⟩, ?_, ?_⟩
  · intro r hr; simp at hr; obtain ⟨b, _, rfl⟩ := hr; rfl
  · rw [h.el]
    congr 1
    clear h e
    induction l with
    | nil => rfl
    | cons b l ih => simp only [List.map_cons, List.flatten_cons, ← ih]; rfl
theorem AP.sl {e esz : Nat} {v : Value} {n : Nat} {rows : List (List Value)} (h : AP H e esz v n rows.flatten) (hr : ∀ r ∈ rows, r.length = esz) (hn : n = rows.length) : Sl H esz v rows := by
  obtain ⟨a, ha⟩ := h.shape
  exact ⟨⟨a, n, by rw [← hn]; exact ha⟩, hr, h.elems⟩
theorem AP.bn {e esz : Nat} {v : Value} {n : Nat} {c : List Value} (h : AP H e esz v n c) : bn v ≤ H.n := by
  unfold Go.AM.bn
  split
  · rename_i b hb; exact h.lt hb
  · omega
section
variable {KF : List Value → AHeap → Prop} {tr : List TE} (d : D) (r : List AOper) (un : List Nat) (rd : List (AOper × List Nat))
theorem st_app (e s b : Nat) (x y : Value) : stR P ng (.app e s b x y) d r fr tm H KF = goR P ng (asem (.app e s b x y) H) d r fr tm KF := st_of d r (by simp) (by simp)
theorem st_apps (e b : Nat) (x y : Value) : stR P ng (.apps e b x y) d r fr tm H KF = goR P ng (asem (.apps e b x y) H) d r fr tm KF := st_of d r (by simp) (by simp)
theorem sd_apps (e b : Nat) (x y : Value) : stD P ng (.apps e b x y) d un rd fr tm H tr KF = goD P ng (.apps e b x y) (asem (.apps e b x y) H) d un rd fr tm H tr KF := stD_of d un rd (by simp) (by simp)
theorem st_iaddrp (s n : Nat) (x i : Value) : stR P ng (.iaddrp s n x i) d r fr tm H KF = goR P ng (asem (.iaddrp s n x i) H) d r fr tm KF := st_of d r (by simp) (by simp)
theorem sd_iaddrp (s n : Nat) (x i : Value) : stD P ng (.iaddrp s n x i) d un rd fr tm H tr KF = goD P ng (.iaddrp s n x i) (asem (.iaddrp s n x i) H) d un rd fr tm H tr KF := stD_of d un rd (by simp) (by simp)
theorem st_idxa (a : Bool) (s n : Nat) (x i : Value) : stR P ng (.idxa a s n x i) d r fr tm H KF = goR P ng (asem (.idxa a s n x i) H) d r fr tm KF := st_of d r (by simp) (by simp)
theorem sd_idxa (a : Bool) (s n : Nat) (x i : Value) : stD P ng (.idxa a s n x i) d un rd fr tm H tr KF = goD P ng (.idxa a s n x i) (asem (.idxa a s n x i) H) d un rd fr tm H tr KF := stD_of d un rd (by simp) (by simp)
theorem st_slarr (s n : Nat) (x : Value) (lo hi mx : Option Value) : stR P ng (.slarr s n x lo hi mx) d r fr tm H KF = goR P ng (asem (.slarr s n x lo hi mx) H) d r fr tm KF := st_of d r (by simp) (by simp)
theorem sd_slarr (s n : Nat) (x : Value) (lo hi mx : Option Value) : stD P ng (.slarr s n x lo hi mx) d un rd fr tm H tr KF = goD P ng (.slarr s n x lo hi mx) (asem (.slarr s n x lo hi mx) H) d un rd fr tm H tr KF := stD_of d un rd (by simp) (by simp)
theorem st_eqs (c : List Nat) (n : Bool) (x y : Value) : stR P ng (.eqs c n x y) d r fr tm H KF = goR P ng (asem (.eqs c n x y) H) d r fr tm KF := st_of d r (by simp) (by simp)
theorem sd_eqs (c : List Nat) (n : Bool) (x y : Value) : stD P ng (.eqs c n x y) d un rd fr tm H tr KF = goD P ng (.eqs c n x y) (asem (.eqs c n x y) H) d un rd fr tm H tr KF := stD_of d un rd (by simp) (by simp)
theorem st_mm (m : Bool) (x y : Value) : stR P ng (.mm m x y) d r fr tm H KF = goR P ng (asem (.mm m x y) H) d r fr tm KF := st_of d r (by simp) (by simp)
theorem sd_mm (m : Bool) (x y : Value) : stD P ng (.mm m x y) d un rd fr tm H tr KF = goD P ng (.mm m x y) (asem (.mm m x y) H) d un rd fr tm H tr KF := stD_of d un rd (by simp) (by simp)
theorem st_i2str (x : Value) : stR P ng (.i2str x) d r fr tm H KF = goR P ng (asem (.i2str x) H) d r fr tm KF := st_of d r (by simp) (by simp)
theorem sd_i2str (x : Value) : stD P ng (.i2str x) d un rd fr tm H tr KF = goD P ng (.i2str x) (asem (.i2str x) H) d un rd fr tm H tr KF := stD_of d un rd (by simp) (by simp)
theorem st_rng (x : Value) : stR P ng (.rng x) d r fr tm H KF = goR P ng (asem (.rng x) H) d r fr tm KF := st_of d r (by simp) (by simp)
theorem st_next (x : Value) : stR P ng (.next x) d r fr tm H KF = goR P ng (asem (.next x) H) d r fr tm KF := st_of d r (by simp) (by simp)
theorem st_copy (e : Nat) (x y : Value) : stR P ng (.copy e x y) d r fr tm H KF = goR P ng (asem (.copy e x y) H) d r fr tm KF := st_of d r (by simp) (by simp)
theorem sd_copy (e : Nat) (x y : Value) : stD P ng (.copy e x y) d un rd fr tm H tr KF = goD P ng (.copy e x y) (asem (.copy e x y) H) d un rd fr tm H tr KF := stD_of d un rd (by simp) (by simp)
theorem st_clr (e : Nat) (z : List Value) (x : Value) : stR P ng (.clr e z x) d r fr tm H KF = goR P ng (asem (.clr e z x) H) d r fr tm KF := st_of d r (by simp) (by simp)
end
theorem a_mm (m : Bool) (k : IntKind) (a b : Int) : asem (.mm m (.int k a) (.int k b)) H = some (.int k (if m then (if b > a then b else a) else (if b < a then b else a)), H) := by
  simp [asem]
theorem a_mmx (k : IntKind) (a b : Int) : asem (.mm true (.int k a) (.int k b)) H = some (.int k (max a b), H) := by
  rw [a_mm]; simp only [if_true]; congr 3; split <;> omega
theorem a_mmn (k : IntKind) (a b : Int) : asem (.mm false (.int k a) (.int k b)) H = some (.int k (min a b), H) := by
  rw [a_mm]; simp only [Bool.false_eq_true, if_false]; congr 3; split <;> omega
theorem a_iaddrp (esz n b o : Nat) (kd : IntKind) (i : Int) : asem (.iaddrp esz n (ptr b o) (.int kd i)) H = if 0 ≤ i ∧ i < (n : Int) then some (ptr b (o + i.toNat * esz), H) else none := _root_.id rfl
theorem a_bslicee (e esz n : Nat) (z : List Value) (ps : List (Nat × Nat × Value)) : asem (.bslice e esz n z ps) H = (fillA z ps).bind fun c => if c.all Value.oneCell' = true ∧ c.length = n * esz then some (slc H.n 0 n n, H.alloc (.cells true false esz c e)) else none := by
  simp only [asem]; cases fillA z ps <;> rfl
theorem cells_int (k : IntKind) (n : Int) : (Value.int k n).cells.toList = [.int k n] := _root_.id rfl
theorem cells_bool (n : Bool) : (Value.bool n).cells.toList = [.bool n] := _root_.id rfl
theorem cells_str (n : ByteArray) : (Value.string n).cells.toList = [.string n] := _root_.id rfl
theorem cells_sl (a : Option Addr) (n k : Nat) : (Value.slice a n k).cells.toList = [.slice a n k] := _root_.id rfl
theorem cells_slc (b o n k : Nat) : (slc b o n k).cells.toList = [slc b o n k] := _root_.id rfl
theorem cells_ptr (b o : Nat) : (ptr b o).cells.toList = [ptr b o] := _root_.id rfl
theorem cells_pn (a : Option Addr) : (Value.pointer a).cells.toList = [.pointer a] := _root_.id rfl
theorem resC (i n : Nat) (fr : List Value) : resO [.cn n i] fr H = (celln n (fr.getD i undef) H) := by
  simp only [resO, resVs, RX.get]
  cases celln n (fr.getD i undef) H <;> rfl
theorem cellnp (n b o : Nat) : celln n (ptr b o) H = (rangeA H b o n).map fun c => .agg c.toArray := _root_.id rfl
theorem cell1p (b o : Nat) : cell1 (ptr b o) H = cellA H b o := _root_.id rfl
theorem touch_load1 (b o : Nat) (H : AHeap) : touchA (.load1 (ptr b o)) H = [b] := _root_.id rfl
theorem touch_loadn (n b o : Nat) (H : AHeap) : touchA (.loadn n (ptr b o)) H = [b] := _root_.id rfl
theorem touch_load1v {v : Value} {esz j off : Nat} (h : nnS v = true) (H : AHeap) : touchA (.load1 (elP v esz j off)) H = [bn v - 1] := by
  show readsA _ = _; exact reads_el h
theorem touch_loadnv {v : Value} {esz j off n : Nat} (h : nnS v = true) (H : AHeap) : touchA (.loadn n (elP v esz j off)) H = [bn v - 1] := by
  show readsA _ = _; exact readsn_el h
theorem keepsB_n (A B : AHeap) : keepsB [] A B = True := _root_.id rfl
theorem keepsB_c (b : Nat) (l : List Nat) (A B : AHeap) : keepsB (b :: l) A B = (B.get b = A.get b ∧ keepsB l A B) := _root_.id rfl
theorem olderB_n (A : AHeap) : olderB [] A = True := _root_.id rfl
theorem olderB_c (b : Nat) (l : List Nat) (A : AHeap) : olderB (b :: l) A = (b < A.n ∧ olderB l A) := _root_.id rfl
def ob1 (k : Nat) (bs : List Nat) (A B : AHeap) (x : Option TE) : Prop := match x with
  | some t => if k = 1 ∧ t.k = 3 then olderB bs t.H ∧ keepsB bs t.H t.H' else if k = 3 ∧ (t.k = 1 ∨ t.k = 2) then keepsB t.bs A B else True
  | none => True
theorem obl_c (k : Nat) (bs : List Nat) (A B : AHeap) (tr : List TE) (i : Nat) (un : List Nat) : oblA k bs A B tr (i :: un) = (ob1 k bs A B tr[i]? ∧ oblA k bs A B tr un) := _root_.id rfl
theorem ob1_0 (bs : List Nat) (A B : AHeap) (x : Option TE) : ob1 0 bs A B x = True := by unfold ob1; split <;> simp
theorem ob1_2 (bs : List Nat) (A B : AHeap) (x : Option TE) : ob1 2 bs A B x = True := by unfold ob1; split <;> simp
theorem ob1_s (k : Nat) (bs : List Nat) (A B : AHeap) (j : Nat) (cs : List Nat) (C D : AHeap) : ob1 k bs A B (some ⟨j, cs, C, D⟩) = if k = 1 ∧ j = 3 then olderB bs C ∧ keepsB bs C D else if k = 3 ∧ (j = 1 ∨ j = 2) then keepsB cs A B else True := _root_.id rfl
end
set_option linter.defProp false in
def A3s := (And.intro (And.intro (And.intro (And.intro (And.intro (And.intro @cellA_e @rangeA_e) (And.intro @cellO_c (And.intro @rng_full @rng_part))) (And.intro (And.intro @a_store1e (And.intro @a_storene @st1O_c)) (And.intro @stn_full (And.intro @stn_part @a_load1v)))) (And.intro (And.intro (And.intro @a_loadnvf (And.intro @a_loadnvp @stD_callv)) (And.intro @cells_agg (And.intro @toList_arr @size_arr))) (And.intro (And.intro @g_new (And.intro @g_old @g_set)) (And.intro @g_sets (And.intro @set_new @set_old))))) (And.intro (And.intro (And.intro (And.intro @set_set @alloc_n) (And.intro @set_n (And.intro @lt_yes @le_yes))) (And.intro (And.intro @eqn_yes (And.intro @lti_yes @lei_yes)) (And.intro @lti_no (And.intro @lei_no @beqi_no)))) (And.intro (And.intro (And.intro @beqi_yes (And.intro @bnei_no @bnei_yes)) (And.intro @boolIs_t (And.intro @boolIs_f @a_lenv))) (And.intro (And.intro @a_iaddrv (And.intro @a_faddrv @row_alloc)) (And.intro @row_set (And.intro @st_app @st_apps)))))) (And.intro (And.intro (And.intro (And.intro (And.intro @sd_apps @sd_app) (And.intro @st_iaddrp (And.intro @sd_iaddrp @st_idxa))) (And.intro (And.intro @sd_idxa (And.intro @st_slarr @sd_slarr)) (And.intro @st_eqs (And.intro @sd_eqs @st_mm)))) (And.intro (And.intro (And.intro @sd_mm (And.intro @st_i2str @sd_i2str)) (And.intro @st_rng (And.intro @st_next @st_copy))) (And.intro (And.intro @sd_copy (And.intro @st_clr @a_mmx)) (And.intro @a_mmn (And.intro @a_iaddrp @a_bslicee))))) (And.intro (And.intro (And.intro (And.intro @cells_int (And.intro @cells_bool @cells_str)) (And.intro @cells_sl (And.intro @cells_slc @cells_ptr))) (And.intro (And.intro @cells_pn (And.intro @touch_load1 @touch_loadn)) (And.intro @touch_load1v (And.intro @touch_loadnv @keepsB_n)))) (And.intro (And.intro (And.intro @keepsB_c (And.intro @olderB_n @olderB_c)) (And.intro @obl_nil (And.intro @obl_c @ob1_0))) (And.intro (And.intro @ob1_2 (And.intro @ob1_s @bi_u)) (And.intro @resC (And.intro @cellnp @cell1p)))))))
set_option linter.defProp false in
def A3c := (And.intro (And.intro (And.intro (And.intro @List.append_nil.{0} @List.nil_append.{0}) (And.intro @List.cons_append.{0} @decide_true)) (And.intro (And.intro @decide_false @List.drop_zero.{0}) (And.intro @Option.bind_some.{0,0} @List.toList_toArray.{0}))) (And.intro (And.intro (And.intro @implies_true.{1} @implies_true.{0}) (And.intro @not_true_eq_false @not_false_eq_true)) (And.intro (And.intro @and_false @Int.toNat_zero) (And.intro @bne_self_eq_false.{0} @Bool.not_not))))
set_option linter.defProp false in
def LN := And.intro @List.length_cons.{0} (And.intro @List.length_nil.{0} (And.intro @alloc_n @set_n))
set_option linter.defProp false in
def P3 := And.intro ANs (And.intro A3s (And.intro ANc (And.intro A3c (And.intro (And.intro (And.intro (And.intro (And.intro @AOp.map.eq_1 (And.intro @AOp.map.eq_2 @AOp.map.eq_3)) (And.intro @AOp.map.eq_4 (And.intro @AOp.map.eq_5 @AOp.map.eq_6))) (And.intro (And.intro @AOp.map.eq_7 (And.intro @AOp.map.eq_8 @AOp.map.eq_9)) (And.intro (And.intro @AOp.map.eq_10 @AOp.map.eq_11) (And.intro @AOp.map.eq_12 @AOp.map.eq_13)))) (And.intro (And.intro (And.intro @AOp.map.eq_14 (And.intro @AOp.map.eq_15 @AOp.map.eq_16)) (And.intro @AOp.map.eq_17 (And.intro @AOp.map.eq_18 @AOp.map.eq_19))) (And.intro (And.intro @AOp.map.eq_20 (And.intro @AOp.map.eq_21 @AOp.map.eq_22)) (And.intro (And.intro @AOp.map.eq_23 @AOp.map.eq_24) (And.intro @AOp.map.eq_25 @AOp.map.eq_26))))) (And.intro (And.intro (And.intro (And.intro @AOp.map.eq_27 (And.intro @AOp.map.eq_28 @AOp.map.eq_29)) (And.intro @AOp.map.eq_30 (And.intro @AOp.map.eq_31 @AOp.map.eq_32))) (And.intro (And.intro @AOp.map.eq_33 (And.intro @AOp.map.eq_34 @AOp.map.eq_35)) (And.intro (And.intro @AOp.map.eq_36 @AOp.map.eq_37) (And.intro @AOp.map.eq_38 @AOp.map.eq_39)))) (And.intro (And.intro (And.intro @AOp.map.eq_40 (And.intro @AOp.map.eq_41 @AOp.map.eq_42)) (And.intro (And.intro @AOp.map.eq_43 @AOp.map.eq_44) (And.intro @AOp.map.eq_45 @AOp.map.eq_46))) (And.intro (And.intro @AOp.map.eq_47 (And.intro @List.take_nil.{0} @List.take_zero.{0})) (And.intro (And.intro @List.take_succ_cons.{0} @List.drop_nil.{0}) (And.intro @List.drop_zero.{0} @List.drop_succ_cons.{0})))))))))
end Go.AM

set_option linter.unusedSimpArgs false
set_option linter.unusedVariables false
namespace Go.AM
structure Th where
  P : AHeap → Prop
  F : List Nat
  lt : ∀ H, P H → ∀ b ∈ F, b < H.n
  st : ∀ H H', P H → H.n ≤ H'.n → (∀ b ∈ F, H'.get b = H.get b) → P H'
def Apart (a b : Th) : Prop := ∀ x ∈ a.F, x ∉ b.F
theorem Apart.symm {a b : Th} (h : Apart a b) : Apart b a := fun x h1 h2 => h x h2 h1
structure Sep (H : AHeap) (ts : List Th) : Prop where
  all : ∀ t ∈ ts, t.P H
  ap : ts.Pairwise Apart
theorem Sep.nil (H : AHeap) : Sep H [] := ⟨by simp, .nil⟩
theorem Sep.get {H : AHeap} {ts : List Th} (h : Sep H ts) (i : Nat) {t : Th} (hi : ts[i]? = some t) : t.P H := h.all t (List.mem_of_getElem? hi)
theorem Sep.keeps {H H' : AHeap} {ts : List Th} (h : Sep H ts) (k : Keeps H H') : Sep H' ts :=
  ⟨fun t ht => t.st H H' (h.all t ht) k.n (fun b hb => k.get b (t.lt H (h.all t ht) b hb)), h.ap⟩
theorem Sep.upd {H H' : AHeap} {t t' : Th} {r : List Th} : ∀ {l : List Th}, Sep H (l ++ t :: r) → Chg t.F H H' → t'.P H' → (∀ b ∈ t'.F, b ∈ t.F ∨ H.n ≤ b) → Sep H' (l ++ t' :: r) := by
  intro l h c hp hf
  have key : ∀ x, x.P H → Apart t x → Apart t' x := fun x hx ha b hb hbx => by
    rcases hf b hb with h1 | h1
    · exact ha b h1 hbx
    · have := x.lt H hx b hbx; omega
  have stay : ∀ x, x.P H → Apart t x → x.P H' := fun x hx ha => x.st H H' hx c.n (fun b hb => c.get b (x.lt H hx b hb) (fun hbt => ha b hbt hb))
  have h1 := List.pairwise_append.1 h.ap
  obtain ⟨a1, a2, a3⟩ := h1
  have a4 := List.pairwise_cons.1 a2
  refine ⟨?_, List.pairwise_append.2 ⟨a1, List.pairwise_cons.2 ⟨fun x hx => key x (h.all x (by simp [hx])) (a4.1 x hx), a4.2⟩, ?_⟩⟩
  · intro x hx
    rcases List.mem_append.1 hx with hx | hx
    · exact stay x (h.all x (by simp [hx])) (a3 x hx t (by simp)).symm
    · rcases List.mem_cons.1 hx with rfl | hx
      · exact hp
      · exact stay x (h.all x (by simp [hx])) (a4.1 x hx)
  · intro x hx y hy
    rcases List.mem_cons.1 hy with rfl | hy
    · exact (key x (h.all x (by simp [hx])) (a3 x hx t (by simp)).symm).symm
    · exact a3 x hx y (by simp [hy])
theorem Sep.apart {H : AHeap} {ts : List Th} (h : Sep H ts) (i j : Nat) (hij : i < j) {a b : Th} (hi : ts[i]? = some a) (hj : ts[j]? = some b) : Apart a b := by
  obtain ⟨h1, rfl⟩ := List.getElem?_eq_some_iff.1 hi
  obtain ⟨h2, rfl⟩ := List.getElem?_eq_some_iff.1 hj
  exact List.pairwise_iff_getElem.1 h.ap i j h1 h2 hij
theorem Sep.add {H H' : AHeap} {t : Th} {ts : List Th} (h : Sep H ts) (k : Keeps H H') (hp : t.P H') (hf : ∀ b ∈ t.F, H.n ≤ b) : Sep H' (t :: ts) :=
  ⟨fun x hx => by
    rcases List.mem_cons.1 hx with rfl | hx
    · exact hp
    · exact (h.keeps k).all x hx, List.pairwise_cons.2 ⟨fun x hx b hb hbx => by have := x.lt H (h.all x hx) b hbx; have := hf b hb; omega, h.ap⟩⟩
def thB (b : Nat) (o : AO) : Th where
  P H := H.get b = some o
  F := [b]
  lt H h x hx := by simp at hx; subst hx; exact AHeap.get_lt h
  st H H' h _ k := by rw [k b (by simp)]; exact h
theorem Sep.box {H : AHeap} {ts : List Th} (h : Sep H ts) (o : AO) : Sep (H.alloc o) (thB H.n o :: ts) :=
  h.add ((Keeps.refl H).alloc o) (AHeap.get_alloc_new H o) (by simp [thB])
section
variable {P : Program} {ng : Nat} {H : AHeap} {KF : List Value → AHeap → Prop} {fr tm : List Value} {tr : List TE} {Q : AQ}
theorem appG {d : D} {r : List AOper} {e esz bytes : Nat} {s x : Value} {n m : Nat} {c news : List Value} (h : AP H e esz s n c) (hx : ∃ a k, x = .slice a m k) (h1 : elemsA H esz x = some news) (hm : news.length = m * esz)
    (hs : (n + m) * bytes ≤ 140737488355328 ∧ n + m ≤ 140737488355328)
    (hk : ∀ v' H', AP H' e esz v' (n + m) (c ++ news) → Chg (blkL s) H H' → (blk v' = blk s ∨ blk v' = some H.n) → RW P ng r (d.frame v' fr) (d.temps v' tm) H' KF) : goR P ng (asem (.app e esz bytes s x) H) d r fr tm KF := by
  rw [← st_app]; exact appR h hx h1 hm hs hk
end
theorem elems_new {H : AHeap} {own room : Bool} {esz e n : Nat} {c : List Value} {b : Nat} (hb : b = H.n) (h : c.length = n * esz) : elemsA (H.alloc (.cells own room esz c e)) esz (slc b 0 n n) = some c := by
  subst hb; exact elems_own (AHeap.get_alloc_new H _) h
def chunks (esz : Nat) : Nat → List Value → List (List Value)
  | 0, _ => []
  | n + 1, c => c.take esz :: chunks esz n (c.drop esz)
theorem chunks_len (esz : Nat) : ∀ (n : Nat) (c : List Value), (chunks esz n c).length = n
  | 0, _ => rfl
  | n + 1, c => by simp [chunks, chunks_len esz n]
theorem chunks_flat (esz : Nat) : ∀ (n : Nat) (c : List Value), (chunks esz n c).flatten = c.take (n * esz)
  | 0, _ => by simp [chunks]
  | n + 1, c => by
    rw [chunks, List.flatten_cons, chunks_flat esz n, Nat.add_mul, Nat.one_mul, Nat.add_comm (n * esz) esz, List.take_add]
theorem chunks_mem (esz : Nat) : ∀ (n : Nat) (c : List Value) (r : List Value), r ∈ chunks esz n c → ∃ i, i < n ∧ r = (c.drop (i * esz)).take esz
  | n + 1, c, r, h => by
    simp only [chunks, List.mem_cons] at h
    rcases h with rfl | h
    · exact ⟨0, by omega, by simp⟩
    · obtain ⟨i, hi, rfl⟩ := chunks_mem esz n _ r h
      exact ⟨i + 1, by omega, by rw [List.drop_drop, Nat.add_mul, Nat.one_mul, Nat.add_comm]⟩
theorem AR.rows {P : Program} {t e esz : Nat} {H : AHeap} {v : Value} (hu : P.underlying t = some (.slice e)) (hz : P.cellsOf e = esz) (h : AR P H.get t [v]) : ∃ rows, Sl H esz v rows ∧ ∀ r ∈ rows, AR P H.get e r := by
  subst hz
  rcases h.slice_inv hu with h2 | ⟨x, hx, h2⟩ | ⟨b, n, k, c, u, h2, h3, h4, h5, h6, h7, h8⟩
  · cases h2; exact ⟨[], Sl.nil _ _, by simp⟩
  · cases h2
    refine ⟨[], ⟨⟨_, _, rfl⟩, by simp, ?_⟩, by simp⟩
    obtain ⟨b, o, s⟩ := x
    cases s with
    | none => simp at hx
    | some s => simp [elemsA]
  · cases h2
    have hnk : n * P.cellsOf e ≤ c.length := by rw [h7]; exact Nat.mul_le_mul_right _ h4
    refine ⟨chunks (P.cellsOf e) n c, ⟨⟨_, k, by rw [chunks_len]; rfl⟩, ?_, ?_⟩, ?_⟩
    · intro r hr
      obtain ⟨i, hi, rfl⟩ := chunks_mem _ _ _ _ hr
      have : (i + 1) * P.cellsOf e ≤ n * P.cellsOf e := Nat.mul_le_mul_right _ hi
      rw [Nat.add_mul, Nat.one_mul] at this
      rw [List.length_take, List.length_drop]; omega
    · rw [chunks_flat]
      simp only [elemsA, slc, h6]
      rw [if_pos (by omega), List.drop_zero]
    · intro r hr
      obtain ⟨i, hi, rfl⟩ := chunks_mem _ _ _ _ hr
      exact h8 i (by omega)
theorem AV.rows {P : Program} {t e esz : Nat} {H : AHeap} {v : Value} (hu : P.underlying t = some (.slice e)) (hz : P.cellsOf e = esz) (h : AV P H.get t v) : ∃ rows, Sl H esz v rows ∧ ∀ r ∈ rows, AR P H.get e r := by
  have h1 := h.one (by unfold isAggT; rw [hu]; rfl)
  have := h.1
  rw [h1] at this
  exact this.rows hu hz
end Go.AM

set_option linter.unusedSimpArgs false
set_option linter.unusedVariables false
namespace Go.AM
def BQ (H : AHeap) (v : Value) (l : List UInt8) : Prop :=
  (v = .slice none 0 0 ∧ l = []) ∨ (∃ b o z, v = .slice (some ⟨b, o, some z⟩) 0 0 ∧ l = []) ∨
    ∃ b o k own room esz c e, v = slc b o l.length k ∧ l.length ≤ k ∧ H.get b = some (.cells own room esz c e) ∧ (esz = 1 ∨ room = false) ∧ (c.drop o).take l.length = cellsOf l ∧ o + l.length ≤ c.length
theorem BQ.bs {H : AHeap} {v : Value} {l : List UInt8} (h : BQ H v l) : BS H v l := by
  rcases h with ⟨rfl, rfl⟩ | ⟨b, o, z, rfl, rfl⟩ | ⟨b, o, k, own, room, esz, c, e, rfl, h1, h2, h3, h4, h5⟩
  · exact BS.nil H
  · exact ⟨⟨_, _, rfl⟩, by simp [elemsA, cellsOf]⟩
  · refine ⟨⟨_, _, rfl⟩, ?_⟩
    simp only [elemsA, slc, h2, Nat.mul_one]
    rw [if_pos h5, h4]
def tb : Value → List Nat
  | .slice (some ⟨b, _, none⟩) _ _ => [b]
  | _ => []
theorem BQ.chg {H H' : AHeap} {v : Value} {l : List UInt8} {S : List Nat} (h : BQ H v l) (k : Chg S H H') (hS : ∀ b ∈ tb v, b ∉ S) : BQ H' v l := by
  rcases h with h | h | ⟨b, o, kk, own, room, esz, c, e, rfl, h1, h2, h3, h4, h5⟩
  · exact .inl h
  · exact .inr (.inl h)
  · exact .inr (.inr ⟨b, o, kk, own, room, esz, c, e, rfl, h1, k.at_ h2 (hS b (by simp [tb, slc])), h3, h4, h5⟩)
theorem BQ.keeps {H H' : AHeap} {v : Value} {l : List UInt8} (h : BQ H v l) (k : Keeps H H') : BQ H' v l := h.chg (k.chg []) (by simp)
theorem BQ.cut {H : AHeap} {v : Value} {l : List UInt8} (h : BQ H v l) {lo hi : Option Value} {i j : Nat} (hij : i ≤ j) (hj : j ≤ l.length) (h1 : ∀ k, l.length ≤ k → bndA hi l.length k = some j) (h2 : bndA lo 0 j = some i) :
    ∃ w, asem (.slsl 1 v lo hi none) H = some (w, H) ∧ BQ H w ((l.drop i).take (j - i)) := by
  rcases h with ⟨rfl, rfl⟩ | ⟨b, o, z, rfl, rfl⟩ | ⟨b, o, k, own, room, esz, c, e, rfl, p1, p2, p3, p4, p5⟩
  · have hj0 : j = 0 := by simpa using hj
    have hi0 : i = 0 := by omega
    subst hj0; subst hi0
    exact ⟨_, a_slsl_nil ⟨0, 0, 0, bnd_none 0 0, h1 0 (Nat.le_refl _), h2⟩, .inl ⟨rfl, rfl⟩⟩
  · have hj0 : j = 0 := by simpa using hj
    have hi0 : i = 0 := by omega
    subst hj0; subst hi0
    refine ⟨.slice (some ⟨b, o, some z⟩) 0 0, ?_, .inr (.inl ⟨b, o, z, rfl, rfl⟩)⟩
    have := h1 0 (Nat.le_refl _)
    simp only [List.length_nil] at this
    simp only [asem, bnd_none, this, h2]
    simp
  · refine ⟨slc b (o + i) (j - i) (k - i), ?_, ?_⟩
    · have := h1 k p1
      simp only [asem, slc, bnd_none, this, h2, p2, Nat.mul_one]
      rw [if_pos p3]
    · have hl : ((l.drop i).take (j - i)).length = j - i := by rw [List.length_take, List.length_drop]; omega
      refine .inr (.inr ⟨b, o + i, k - i, own, room, esz, c, e, by rw [hl], by rw [hl]; omega, p2, p3, ?_, by rw [hl]; omega⟩)
      rw [hl]
      have e1 : cellsOf ((l.drop i).take (j - i)) = ((cellsOf l).drop i).take (j - i) := by simp [cellsOf, List.map_take, List.map_drop]
      rw [e1, ← p4, ← List.drop_drop, List.drop_take, List.take_take]
      congr 1
      omega
theorem Chg1.tr {r : Nat} {A B C : AHeap} (h : Chg [r] A B) (k : Chg [r] B C) : Chg [r] A C := h.trans k (fun x hx => .inl hx)
theorem tb_blk {v : Value} {b : Nat} (h : b ∈ tb v) : blk v = some b := by
  unfold tb at h
  split at h
  · simp only [List.mem_singleton] at h; subst h; rfl
  · cases h
theorem Fresh.tb {n : Nat} {v : Value} (h : Fresh n v) : ∀ b ∈ Go.AM.tb v, n ≤ b := fun b hb => h b (tb_blk hb)
end Go.AM

set_option linter.unusedSimpArgs false
set_option linter.unusedVariables false
namespace Go.AM
def via (ρ : Nat → Option Nat) (σ : Sg) : Sg := fun b => (ρ b).bind σ
theorem via_of {ρ : Nat → Option Nat} {σ : Sg} {b c : Nat} {i : BI} (h : ρ b = some c) (k : σ c = some i) : via ρ σ b = some i := by
  unfold via; rw [h]; exact k
theorem via_inv {ρ : Nat → Option Nat} {σ : Sg} {b : Nat} {i : BI} (h : via ρ σ b = some i) : ∃ c, ρ b = some c ∧ σ c = some i := by
  unfold via at h
  cases hb : ρ b with
  | none => rw [hb] at h; cases h
  | some c => rw [hb] at h; exact ⟨c, rfl, h⟩
inductive NV (ρ : Nat → Option Nat) : Value → Value → Prop
  | bool (b : Bool) : NV ρ (.bool b) (.bool b)
  | int (k : IntKind) (n : Int) : NV ρ (.int k n) (.int k n)
  | string (s : ByteArray) : NV ρ (.string s) (.string s)
  | nilPtr : NV ρ (.pointer none) (.pointer none)
  | ptr {b c o : Nat} (h : ρ b = some c) : NV ρ (.pointer (some ⟨b, o, none⟩)) (.pointer (some ⟨c, o, none⟩))
  | nilSl : NV ρ (.slice none 0 0) (.slice none 0 0)
  | sl {b c o n k : Nat} (h : ρ b = some c) : NV ρ (.slice (some ⟨b, o, none⟩) n k) (.slice (some ⟨c, o, none⟩) n k)
  | slz {x : Addr} (hx : x.spot.isSome = true) : NV ρ (.slice (some x) 0 0) (.slice (some x) 0 0)
  | nilMap : NV ρ (.map none) (.map none)
  | map {b c : Nat} (h : ρ b = some c) : NV ρ (.map (some b)) (.map (some c))
  | func (fn : Fn) (xs xs' ys ys' : Array Value) (h1 : xs.size = xs'.size) (h2 : ∀ i (a : i < xs.size) (b : i < xs'.size), NV ρ xs[i] xs'[i])
      (h3 : ys.size = ys'.size) (h4 : ∀ i (a : i < ys.size) (b : i < ys'.size), NV ρ ys[i] ys'[i]) : NV ρ (.func fn xs ys) (.func fn xs' ys')
  | nilFunc : NV ρ .nilFunc .nilFunc
  | iface (t : TypeId) {v v' : Value} (h : NV ρ v v') : NV ρ (.iface t v) (.iface t v')
  | nilIface : NV ρ .nilIface .nilIface
  | agg (xs xs' : Array Value) (h1 : xs.size = xs'.size) (h2 : ∀ i (a : i < xs.size) (b : i < xs'.size), NV ρ xs[i] xs'[i]) : NV ρ (.agg xs) (.agg xs')
  | tuple (xs xs' : Array Value) (h1 : xs.size = xs'.size) (h2 : ∀ i (a : i < xs.size) (b : i < xs'.size), NV ρ xs[i] xs'[i]) : NV ρ (.tuple xs) (.tuple xs')
inductive NL (ρ : Nat → Option Nat) : List Value → List Value → Prop
  | nil : NL ρ [] []
  | cons {v v' : Value} {l l' : List Value} (h : NV ρ v v') (t : NL ρ l l') : NL ρ (v :: l) (v' :: l')
theorem NV.via {ρ : Nat → Option Nat} {σ : Sg} {a b : Value} (h : NV ρ a b) : ∀ {c : Value}, VR σ b c → VR (AM.via ρ σ) a c := by
  induction h with
  | bool b => intro c k; cases k; exact .bool _
  | int k n => intro c k; cases k; exact .int _ _
  | string s => intro c k; cases k; exact .string _
  | nilPtr => intro c k; cases k; exact .nilPtr
  | ptr e => intro c k; cases k with | ptr e2 => exact .ptr (via_of e e2)
  | nilSl => intro c k; cases k; exact .nilSl
  | sl e =>
    intro c k
    cases k with
    | sl e2 hn2 hk2 => exact .sl (via_of e e2) hn2 hk2
    | sl0 e2 => exact .sl0 (via_of e e2)
    | slz hx => simp at hx
  | slz hx =>
    intro c k
    cases k with
    | sl e2 hn2 hk2 => simp at hx
    | sl0 e2 => exact .slz hx
    | slz _ => exact .slz hx
  | nilMap => intro c k; cases k; exact .nilMap
  | map e => intro c k; cases k with | map e2 => exact .map (via_of e e2)
  | func fn xs xs' ys ys' h1 _ h3 _ i2 i4 =>
    intro c k
    cases k with
    | func _ _ zs _ us g1 g2 g3 g4 => exact .func fn xs zs ys us (by omega) (fun i a b => i2 i a (by omega) (g2 i (by omega) b)) (by omega) (fun i a b => i4 i a (by omega) (g4 i (by omega) b))
  | nilFunc => intro c k; cases k; exact .nilFunc
  | iface t _ ih => intro c k; cases k with | iface _ k => exact .iface t (ih k)
  | nilIface => intro c k; cases k; exact .nilIface
  | agg xs xs' h1 _ ih =>
    intro c k
    cases k with
    | agg _ zs g1 g2 => exact .agg xs zs (by omega) (fun i a b => ih i a (by omega) (g2 i (by omega) b))
  | tuple xs xs' h1 _ ih =>
    intro c k
    cases k with
    | tuple _ zs g1 g2 => exact .tuple xs zs (by omega) (fun i a b => ih i a (by omega) (g2 i (by omega) b))
theorem NL.via {ρ : Nat → Option Nat} {σ : Sg} {a b : List Value} (h : NL ρ a b) : ∀ {c : List Value}, VL σ b c → VL (AM.via ρ σ) a c := by
  induction h with
  | nil => intro c k; cases k; exact .nil
  | cons h _ ih => intro c k; cases k with | cons k1 k2 => exact .cons (h.via k1) (ih k2)
theorem NL.length {ρ : Nat → Option Nat} {a b : List Value} (h : NL ρ a b) : a.length = b.length := by
  induction h with
  | nil => rfl
  | cons _ _ ih => simp [ih]
theorem NL.one {ρ : Nat → Option Nat} {a b : List Value} (h : NL ρ a b) (hb : ∀ v ∈ b, v.oneCell' = true) : ∀ v ∈ a, v.oneCell' = true := by
  induction h with
  | nil => simp
  | cons h _ ih =>
    intro v hv
    rcases List.mem_cons.1 hv with rfl | hv
    · have := hb _ (List.mem_cons_self ..)
      cases h <;> first | exact this | rfl
    · exact ih (fun v hv => hb v (List.mem_cons_of_mem _ hv)) v hv
def AOr (ρ : Nat → Option Nat) (a b : AO) : Prop := match a with
  | .dead => True
  | .cells own room esz c e => ∃ own' c', b = .cells own' room esz c' e ∧ (own = true → own' = true) ∧ NL ρ c c'
  | .obj own o => ∃ own', b = .obj own' o ∧ (own = true → own' = true)
  | .loop .. => False
theorem AOr.own {ρ : Nat → Option Nat} {a b : AO} (h : AOr ρ a b) (ha : a.own = true) : b.own = true := by
  cases a with
  | dead => cases ha
  | cells own room esz c e => obtain ⟨own', c', rfl, h1, _⟩ := h; exact h1 ha
  | obj own o => obtain ⟨own', rfl, h1⟩ := h; exact h1 ha
  | loop own st pe L => exact h.elim
theorem AOr.live {ρ : Nat → Option Nat} {a b : AO} (h : AOr ρ a b) (ha : a.live = true) : b.live = true := by
  cases a with
  | dead => cases ha
  | cells own room esz c e => obtain ⟨own', c', rfl, h1, _⟩ := h; rfl
  | obj own o => obtain ⟨own', rfl, h1⟩ := h; rfl
  | loop own st pe L => exact h.elim
theorem AOr.or {ρ : Nat → Option Nat} {a b : AO} (h : AOr ρ a b) {σ : Sg} {w : World} {i : BI} (k : OR σ w i b) : OR (AM.via ρ σ) w i a := by
  cases a with
  | dead => trivial
  | cells own room esz c e =>
    obtain ⟨own', c', rfl, h1, h2⟩ := h
    obtain ⟨a1, a2, a3, a4, a9, d, fr, a5, a6, a7, a8⟩ := k
    have hl := h2.length
    exact ⟨by rw [hl]; exact a1, a2, a3, by rw [hl]; exact a4, h2.one a9, d, fr, a5, a6, by rw [hl]; exact h2.via a7, fun ho => a8 (h1 ho)⟩
  | obj own o => obtain ⟨own', rfl, h1⟩ := h; exact k
  | loop own st pe L => exact h.elim
variable {P : Program} {ng : Nat} {f : FuncId} {args : List Value} {H H' H'' : AHeap} {v v'' : Value}
def Stood (ng : Nat) (args : List Value) (H : AHeap) (v : Value) : Prop := ∀ (σ : Sg) (w : World) (args' : List Value), HR ng σ H.get w → VL σ args args' → ∃ x, VR σ v x
theorem ARun.gc (h : ARun P ng f args H v H') (ρ : Nat → Option Nat) (hn : H.n ≤ H''.n)
    (r0 : ∀ b, b < H.n → ρ b = some b) (r1 : ∀ b c, ρ b = some c → b < H''.n ∧ (H.n ≤ b → H.n ≤ c)) (ri : ∀ b1 b2 c, ρ b1 = some c → ρ b2 = some c → b1 = b2)
    (ro : ∀ b c o', ρ b = some c → H'.get c = some o' → (b = c ∧ b < H.n ∧ H.get b = some o' ∧ H''.get b = some o') ∨ ∃ o'', H''.get b = some o'' ∧ AOr ρ o'' o')
    (rv : (v'' = v ∧ Stood ng args H v) ∨ NV ρ v'' v) : ARun P ng f args H v'' H'' := by
  obtain ⟨h0, h1, h2⟩ := h
  refine ⟨h0, hn, fun σ w args' hr ha => ?_⟩
  refine (h2 σ w args' hr ha).mono ?_
  rintro e w' ⟨v', σ', rfl, k1, k2, k3⟩
  have old : ∀ b i, σ b = some i → b < H.n := fun b i hb => by
    obtain ⟨o, g, _⟩ := hr.obj b i hb
    exact AHeap.get_lt g
  have sub : σ.le (AM.via ρ σ') := fun b i hb => via_of (r0 b (old b i hb)) (k2.sub b i hb)
  have back : ∀ b i, b < H.n → σ' b = some i → σ b = some i := fun b i hb hs => by
    cases hsb : σ b with
    | none => have := (k2.new b i hsb hs).1.1; omega
    | some j => have := k2.sub b j hsb; rw [hs] at this; exact this.symm
  have meet_le : (meet σ' σ).le (AM.via ρ σ') := fun b i hb => by
    unfold meet at hb
    split at hb
    · rename_i hs
      obtain ⟨j, hj⟩ := Option.isSome_iff_exists.1 hs
      exact via_of (r0 b (old b j hj)) hb
    · cases hb
  have obj : ∀ b i, AM.via ρ σ' b = some i → ∃ c o'' o', ρ b = some c ∧ σ' c = some i ∧ H''.get b = some o'' ∧ H'.get c = some o' ∧ OR (AM.via ρ σ') w' i o'' ∧ (o''.own = true → o'.own = true) ∧ (o''.live = true → o'.live = true) := by
    intro b i hb
    obtain ⟨c, hc, hs⟩ := via_inv hb
    obtain ⟨o', g1, g2⟩ := k1.obj c i hs
    rcases ro b c o' hc g1 with ⟨rfl, hlt, e1, e2⟩ | ⟨o'', e1, e2⟩
    · refine ⟨b, o', o', hc, hs, e2, g1, ?_, fun x => x, fun x => x⟩
      have hsb := back b i hlt hs
      obtain ⟨o2, f1, f2⟩ := hr.obj b i hsb
      rw [e1] at f1; cases f1
      exact (g2.meet f2).mono meet_le
    · exact ⟨c, o'', o', hc, hs, e1, g1, e2.or g2, e2.own, e2.live⟩
  refine ⟨v', AM.via ρ σ', rfl, ⟨?_, ?_, ?_, ?_⟩, ⟨sub, ?_, ?_, ?_, k2.keep, k2.size, hn, k2.os, k2.tape, k2.output⟩, ?_⟩
  · intro b i hb
    obtain ⟨c, o'', o', _, _, e1, _, e2, _⟩ := obj b i hb
    exact ⟨o'', e1, e2⟩
  · intro b1 b2 i1 i2 o1 o2 hne hb1 hb2 ho1 ho2 hw hl
    obtain ⟨c1, p1, q1, a1, a2, a3, a4, _, a5, _⟩ := obj b1 i1 hb1
    obtain ⟨c2, p2, q2, d1, d2, d3, d4, _, _, d6⟩ := obj b2 i2 hb2
    rw [ho1] at a3; cases a3
    rw [ho2] at d3; cases d3
    exact k1.inj c1 c2 i1 i2 q1 q2 (fun hc => by subst hc; exact hne (ri b1 b2 c1 a1 d1)) a2 d2 a4 d4 (a5 hw) (d6 hl)
  · intro b i hb
    obtain ⟨c, _, hs⟩ := via_inv hb
    exact k1.lt c i hs
  · intro g hg
    obtain ⟨i, g1, g2, g3⟩ := hr.glob g hg
    exact ⟨i, sub g i g1, g2, g3⟩
  · intro b i hb hs
    obtain ⟨c, hc, hs'⟩ := via_inv hs
    by_cases hlt : b < H.n
    · have := r0 b hlt
      rw [hc] at this; cases this
      rw [back b i hlt hs'] at hb; cases hb
    · have hcn := (r1 b c hc).2 (by omega)
      have hsc : σ c = none := by
        cases hsc : σ c with
        | none => rfl
        | some j => have := old c j hsc; omega
      exact ⟨⟨by omega, (r1 b c hc).1⟩, (k2.new c i hsc hs').2⟩
  · intro b i o'' hb ho hw
    obtain ⟨c, p1, q1, a1, a2, a3, a4, _, a5, _⟩ := obj b i (sub b i hb)
    rw [r0 b (old b i hb)] at a1; cases a1
    rw [ho] at a3; cases a3
    exact k2.own b i q1 hb a4 (a5 hw)
  · intro b i o'' hb ho hw
    obtain ⟨c, p1, q1, a1, a2, a3, a4, _, _, a6⟩ := obj b i (sub b i hb)
    rw [r0 b (old b i hb)] at a1; cases a1
    rw [ho] at a3; cases a3
    exact k2.live b i q1 hb a4 (a6 hw)
  · rcases rv with ⟨rfl, hst⟩ | hrv
    · obtain ⟨x, hx⟩ := hst σ w args' hr ha
      exact (k3.meet hx).mono meet_le
    · exact hrv.via k3
theorem NV.plain {ρ : Nat → Option Nat} {v : Value} (h : plain1 v = true) : NV ρ v v := by
  unfold plain1 at h
  split at h <;> first | constructor | cases h
theorem NL.plain {ρ : Nat → Option Nat} : ∀ {l : List Value}, l.all plain1 = true → NL ρ l l
  | [], _ => .nil
  | v :: l, h => by
    simp only [List.all_cons, Bool.and_eq_true] at h
    exact .cons (NV.plain h.1) (NL.plain h.2)
theorem NL.get {ρ : Nat → Option Nat} {l l' : List Value} (h : NL ρ l l') : ∀ (i : Nat) (a : i < l.length) (b : i < l'.length), NV ρ l[i] l'[i] := by
  induction h with
  | nil => intro i a; simp at a
  | cons h _ ih =>
    intro i a b
    cases i with
    | zero => exact h
    | succ i => exact ih i (by simpa using a) (by simpa using b)
theorem NV.agg_of {ρ : Nat → Option Nat} {l l' : List Value} (h : NL ρ l l') : NV ρ (.agg l.toArray) (.agg l'.toArray) :=
  .agg _ _ (by simpa using h.length) (fun i a b => by simpa using h.get i (by simpa using a) (by simpa using b))
theorem NV.tuple_of {ρ : Nat → Option Nat} {l l' : List Value} (h : NL ρ l l') : NV ρ (.tuple l.toArray) (.tuple l'.toArray) :=
  .tuple _ _ (by simpa using h.length) (fun i a b => by simpa using h.get i (by simpa using a) (by simpa using b))
def rho (n : Nat) (bs : List Nat) : Nat → Option Nat := fun b => if b < n then some b else bs[b - n]?
theorem rho_old {n : Nat} {bs : List Nat} {b : Nat} (h : b < n) : rho n bs b = some b := by unfold rho; rw [if_pos h]
theorem ARun.gc0 (h : ARun P ng f args H v H') (k : Keeps H H') (hv : Stood ng args H v ∨ NV (rho H.n []) v v) : ARun P ng f args H v H := by
  refine h.gc (rho H.n []) (Nat.le_refl _) (fun b hb => rho_old hb) ?_ ?_ ?_ ?_
  · intro b c hb
    unfold rho at hb
    split at hb
    · cases hb; exact ⟨by assumption, by omega⟩
    · simp at hb
  · intro b1 b2 c h1 h2
    unfold rho at h1 h2
    split at h1 <;> split at h2 <;> simp_all
  · intro b c o' hb ho
    unfold rho at hb
    split at hb
    · rename_i hlt
      cases hb
      have := k.get b hlt
      rw [ho] at this
      exact .inl ⟨rfl, hlt, this.symm, this.symm⟩
    · simp at hb
  · rcases hv with hv | hv
    · exact .inl ⟨rfl, hv⟩
    · exact .inr hv
structure OB (e : Nat) (H K : AHeap) (v : Value) (l : List UInt8) : Prop where
  ap : AP K e 1 v l.length (cellsOf l)
  k : Keeps H K
  f : Fresh H.n v
theorem OB.bs {e : Nat} {H K : AHeap} {v : Value} {l : List UInt8} (h : OB e H K v l) : BS K v l := h.ap.bs
theorem OB.keeps {e : Nat} {H K K' : AHeap} {v : Value} {l : List UInt8} (h : OB e H K v l) (k : Keeps K K') : OB e H K' v l := ⟨h.ap.keeps k, h.k.trans k, h.f⟩
theorem OB.base {e : Nat} {H0 H K : AHeap} {v : Value} {l : List UInt8} (h : OB e H K v l) (k : Keeps H0 H) : OB e H0 K v l := ⟨h.ap, k.trans h.k, fun b hb => Nat.le_trans k.n (h.f b hb)⟩
theorem OB.nil (e : Nat) (H : AHeap) : OB e H H (.slice none 0 0) [] := ⟨.inl ⟨rfl, rfl, rfl⟩, Keeps.refl _, fun b hb => by cases hb⟩
theorem OB.one {e : Nat} {H K : AHeap} {v : Value} {l : List UInt8} (h : OB e H K v l) : v.oneCell' = true := by obtain ⟨a, rfl⟩ := h.ap.shape; rfl
theorem OB.is {e : Nat} {H K : AHeap} {v : Value} {l : List UInt8} (h : OB e H K v l) : isS v = true := by obtain ⟨a, rfl⟩ := h.ap.shape; rfl
theorem OB.len {e : Nat} {H K : AHeap} {v : Value} {l : List UInt8} (h : OB e H K v l) : lenS v = l.length := by obtain ⟨a, rfl⟩ := h.ap.shape; rfl
theorem OB.grow {e : Nat} {H K K' : AHeap} {v v' : Value} {l m : List UInt8} (h : OB e H K v l) (a : AP K' e 1 v' (l.length + m.length) (cellsOf l ++ cellsOf m)) (c : Chg (blkL v) K K') (hb : blk v' = blk v ∨ blk v' = some K.n) : OB e H K' v' (l ++ m) := by
  refine ⟨by rw [List.length_append, cellsOf_append]; exact a, h.k.chg_trans c (fun x hx => h.f x (mem_blkL.1 hx)), fun b hb' => ?_⟩
  rcases hb with e1 | e1
  · exact h.f b (by rw [← e1]; exact hb')
  · rw [e1] at hb'; cases hb'; exact h.k.n
section
variable {KF : List Value → AHeap → Prop} {fr tm : List Value} {tr : List TE} {K : AHeap}
theorem OB.appR {d : D} {r : List AOper} {e : Nat} {s x : Value} {l m : List UInt8} (h : OB e H K s l) (hx : BS K x m) (hs : l.length + m.length ≤ 1000000000)
    (hk : ∀ v' K', OB e H K' v' (l ++ m) → RW P ng r (d.frame v' fr) (d.temps v' tm) K' KF) : goR P ng (asem (.app e 1 1 s x) K) d r fr tm KF :=
  appG h.ap hx.sh hx.el (by rw [cellsOf_length, Nat.mul_one]) (by omega) (fun v' K' a c hb => hk v' K' (h.grow a c hb))
end
theorem callP {xs : List Value} {K : Value → AHeap → Prop} (h : ∃ w H', ARun P ng f xs H w H' ∧ w = v ∧ H' = H) (k : K v H) : ∃ v H', ARun P ng f xs H v H' ∧ K v H' := by
  obtain ⟨w, H', h1, rfl, rfl⟩ := h
  exact ⟨_, _, h1, k⟩
end Go.AM

set_option linter.unusedSimpArgs false
set_option linter.unusedVariables false
namespace Go.AM
def WR (H : AHeap) (e esz : Nat) (v : Value) (n : Nat) (c : List Value) : Prop :=
  (v = .slice none 0 0 ∧ n = 0 ∧ c = []) ∨ ∃ b k room d, v = slc b 0 n k ∧ n ≤ k ∧ d.length = k * esz ∧ d.take (n * esz) = c ∧ H.get b = some (.cells true room esz d e)
section
variable {H H' : AHeap} {e esz : Nat} {v : Value} {n : Nat} {c : List Value}
theorem AP.wr (h : AP H e esz v n c) : WR H e esz v n c := by
  rcases h with h | ⟨b, room, rfl, h1, h2⟩
  · exact .inl h
  · exact .inr ⟨b, n, room, c, rfl, Nat.le_refl _, h1, by rw [← h1, List.take_length], h2⟩
theorem WR.len (h : WR H e esz v n c) : c.length = n * esz := by
  rcases h with ⟨rfl, rfl, rfl⟩ | ⟨b, k, room, d, rfl, h1, h2, rfl, h4⟩
  · simp
  · have := Nat.mul_le_mul_right esz h1
    rw [List.length_take, h2]; omega
theorem WR.elems (h : WR H e esz v n c) : elemsA H esz v = some c := by
  rcases h with ⟨rfl, rfl, rfl⟩ | ⟨b, k, room, d, rfl, h1, h2, rfl, h4⟩
  · rfl
  · have := Nat.mul_le_mul_right esz h1
    simp only [elemsA, slc, h4]
    rw [if_pos (by omega), List.drop_zero]
theorem WR.shape (h : WR H e esz v n c) : ∃ a k, v = .slice a n k := by
  rcases h with ⟨rfl, rfl, rfl⟩ | ⟨b, k, room, d, rfl, h1, h2, h3, h4⟩
  · exact ⟨_, _, rfl⟩
  · exact ⟨_, _, rfl⟩
theorem WR.is (h : WR H e esz v n c) : isS v = true := by obtain ⟨a, k, rfl⟩ := h.shape; rfl
theorem WR.lenS (h : WR H e esz v n c) : Go.AM.lenS v = n := by obtain ⟨a, k, rfl⟩ := h.shape; rfl
theorem WR.one (h : WR H e esz v n c) : v.oneCell' = true := by obtain ⟨a, k, rfl⟩ := h.shape; rfl
theorem WR.lt (h : WR H e esz v n c) {b : Nat} (hb : blk v = some b) : b < H.n := by
  rcases h with ⟨rfl, rfl, rfl⟩ | ⟨b', k, room, d, rfl, h1, h2, h3, h4⟩
  · cases hb
  · cases hb; exact AHeap.get_lt h4
theorem WR.chg {S : List Nat} (h : WR H e esz v n c) (k : Chg S H H') (hS : ∀ x ∈ blkL v, x ∉ S) : WR H' e esz v n c := by
  rcases h with h | ⟨b, m, room, d, rfl, h1, h2, h3, h4⟩
  · exact .inl h
  · exact .inr ⟨b, m, room, d, rfl, h1, h2, h3, k.at_ h4 (hS b (mem_blkL.2 rfl))⟩
theorem WR.keeps (h : WR H e esz v n c) (k : Keeps H H') : WR H' e esz v n c := h.chg (k.chg []) (by simp)
theorem WR.sl {rows : List (List Value)} (h : WR H e esz v n rows.flatten) (hr : ∀ r ∈ rows, r.length = esz) (hn : n = rows.length) : Sl H esz v rows := by
  obtain ⟨a, k, rfl⟩ := h.shape
  exact ⟨⟨a, k, by rw [hn]⟩, hr, h.elems⟩
theorem WR.app {bytes m : Nat} {news : List Value} (h : WR H e esz v n c) (hm : news.length = m * esz) (hs : (n + m) * bytes ≤ 140737488355328 ∧ n + m ≤ 140737488355328) :
    ∃ v' H', appA H e esz bytes v m news = some (v', H') ∧ WR H' e esz v' (n + m) (c ++ news) ∧ Chg (blkL v) H H' ∧ (blk v' = blk v ∨ blk v' = some H.n) := by
  rcases h with ⟨rfl, rfl, rfl⟩ | ⟨b, k, room, d, rfl, h1, h2, h3, h4⟩
  · obtain ⟨v', H', a, b, d⟩ := AP.app (H := H) (e := e) (esz := esz) (v := .slice none 0 0) (n := 0) (c := []) (.inl ⟨rfl, rfl, rfl⟩) hm hs
    exact ⟨v', H', a, b.wr, d⟩
  · simp only [appA, slc]
    by_cases hm0 : m = 0
    · subst hm0
      have : news = [] := by rw [← List.length_eq_zero_iff]; omega
      subst this
      rw [if_pos rfl]
      exact ⟨_, _, rfl, .inr ⟨b, k, room, d, rfl, h1, h2, by simpa using h3, h4⟩, Chg.refl _ _, .inl rfl⟩
    · have hle := Nat.mul_le_mul_right esz h1
      have hc : c.length = n * esz := by rw [← h3, List.length_take, h2]; omega
      have hnm : (n + m) * esz = n * esz + m * esz := Nat.add_mul _ _ _
      rw [if_neg hm0, if_pos hs]
      simp only [h4, true_and]
      rw [if_pos (show 0 + k * esz ≤ d.length by omega)]
      by_cases hk : n + m ≤ k
      · have hle2 := Nat.mul_le_mul_right esz hk
        rw [if_pos hk]
        simp only [if_true]
        refine ⟨_, _, rfl, .inr ⟨b, k, room, _, rfl, hk, ?_, ?_, AHeap.get_set_same h4 _⟩, Chg.set H (AHeap.get_lt h4) _, .inl rfl⟩
        · rw [List.length_append, List.length_append, List.length_take, List.length_drop, hm]; omega
        · rw [Nat.zero_add, h3, List.take_append_of_le_length (by rw [List.length_append, hc, hm]; omega), List.take_of_length_le (by rw [List.length_append, hc, hm]; omega)]
      · rw [if_neg hk, List.drop_zero, h3]
        have hlen : (c ++ news).length = (n + m) * esz := by rw [List.length_append, hc, hm, Nat.add_mul]
        split
        · exact ⟨_, _, rfl, .inr ⟨H.n, n + m, true, _, rfl, Nat.le_refl _, hlen, by rw [← hlen, List.take_length], AHeap.get_alloc_new H _⟩, (Chg.refl _ _).alloc _, .inr rfl⟩
        · exact ⟨_, _, rfl, .inr ⟨H.n, n + m, true, _, rfl, Nat.le_refl _, hlen, by rw [← hlen, List.take_length], AHeap.get_alloc_new (H.set b .dead) _⟩, (Chg.set H (AHeap.get_lt h4) _).alloc _, .inr rfl⟩
end
section
variable {P : Program} {ng : Nat} {H : AHeap} {KF : List Value → AHeap → Prop} {fr tm : List Value} {tr : List TE} {e esz : Nat} {v : Value} {n : Nat} {c : List Value}
theorem WR.appR {d : D} {r : List AOper} {bytes : Nat} {x : Value} {m : Nat} {news : List Value} (h : WR H e esz v n c) (hx : ∃ a k, x = .slice a m k) (h1 : elemsA H esz x = some news) (hm : news.length = m * esz)
    (hs : (n + m) * bytes ≤ 140737488355328 ∧ n + m ≤ 140737488355328)
    (hk : ∀ v' H', WR H' e esz v' (n + m) (c ++ news) → Chg (blkL v) H H' → (blk v' = blk v ∨ blk v' = some H.n) → RW P ng r (d.frame v' fr) (d.temps v' tm) H' KF) : goR P ng (asem (.app e esz bytes v x) H) d r fr tm KF := by
  obtain ⟨v', H', e1, e2, e3, e4⟩ := h.app (bytes := bytes) hm hs
  obtain ⟨a, k, rfl⟩ := hx
  refine ⟨v', H', ?_, hk v' H' e2 e3 e4⟩
  simp only [asem, h1]; exact e1
end
end Go.AM

set_option linter.unusedSimpArgs false
set_option linter.unusedVariables false
namespace Go.AM
structure SepH (H K : AHeap) (ts : List Th) : Prop where
  sep : Sep K ts
  k : Keeps H K
  ge : ∀ t ∈ ts, ∀ y ∈ t.F, H.n ≤ y
section
variable {H K K' : AHeap} {t t' a b c d : Th} {r ts : List Th}
theorem SepH.keeps (h : SepH H K ts) (k : Keeps K K') : SepH H K' ts := ⟨h.sep.keeps k, h.k.trans k, h.ge⟩
theorem SepH.upd {l : List Th} (h : SepH H K (l ++ t :: r)) (c : Chg t.F K K') (hp : t'.P K') (hf : ∀ y ∈ t'.F, y ∈ t.F ∨ K.n ≤ y) : SepH H K' (l ++ t' :: r) := by
  refine ⟨h.sep.upd c hp hf, h.k.chg_trans c (fun y hy => h.ge t (by simp) y hy), fun x hx y hy => ?_⟩
  rcases List.mem_append.1 hx with hx | hx
  · exact h.ge x (by simp [hx]) y hy
  · rcases List.mem_cons.1 hx with rfl | hx
    · rcases hf y hy with e | e
      · exact h.ge t (by simp) y e
      · have := h.k.n; omega
    · exact h.ge x (by simp [hx]) y hy
theorem SepH.u1 (h : SepH H K (a :: t :: r)) (c : Chg t.F K K') (hp : t'.P K') (hf : ∀ y ∈ t'.F, y ∈ t.F ∨ K.n ≤ y) : SepH H K' (a :: t' :: r) := h.upd (l := [a]) c hp hf
theorem SepH.u2 (h : SepH H K (a :: b :: t :: r)) (c : Chg t.F K K') (hp : t'.P K') (hf : ∀ y ∈ t'.F, y ∈ t.F ∨ K.n ≤ y) : SepH H K' (a :: b :: t' :: r) := h.upd (l := [a, b]) c hp hf
theorem SepH.u3 (h : SepH H K (a :: b :: c :: t :: r)) (ch : Chg t.F K K') (hp : t'.P K') (hf : ∀ y ∈ t'.F, y ∈ t.F ∨ K.n ≤ y) : SepH H K' (a :: b :: c :: t' :: r) := h.upd (l := [a, b, c]) ch hp hf
theorem SepH.at_ (h : SepH H K ts) (i : Nat) (hi : ts[i]? = some t) : t.P K := h.sep.get i hi
theorem SepH.apart (h : SepH H K ts) (i j : Nat) (hij : i < j) (hi : ts[i]? = some a) (hj : ts[j]? = some b) {y : Nat} (hy : y ∈ a.F) : y ∉ b.F := h.sep.apart i j hij hi hj y hy
theorem SepH.lt (h : SepH H K ts) (i : Nat) (hi : ts[i]? = some t) {y : Nat} (hy : y ∈ t.F) : y < K.n := t.lt K (h.at_ i hi) y hy
theorem SepH.gei (h : SepH H K ts) (i : Nat) (hi : ts[i]? = some t) {y : Nat} (hy : y ∈ t.F) : H.n ≤ y := h.ge t (List.mem_of_getElem? hi) y hy
theorem SepH.old (h : SepH H K ts) (i : Nat) (hi : ts[i]? = some t) {y : Nat} (hy : y < H.n) : y ∉ t.F := fun hf => by have := h.gei i hi hf; omega
theorem SepH.add (h : SepH H K ts) (k : Keeps K K') (hp : t.P K') (hf : ∀ y ∈ t.F, K.n ≤ y) : SepH H K' (t :: ts) :=
  ⟨h.sep.add k hp hf, h.k.trans k, fun x hx y hy => by
    rcases List.mem_cons.1 hx with rfl | hx
    · have := hf y hy; have := h.k.n; omega
    · exact h.ge x hx y hy⟩
theorem SepH.nil (H : AHeap) : SepH H H [] := ⟨Sep.nil H, Keeps.refl H, by simp⟩
end
def thA (e esz : Nat) (v : Value) (n : Nat) (c : List Value) : Th where
  P K := AP K e esz v n c
  F := blkL v
  lt K h y hy := h.lt (mem_blkL.1 hy)
  st K K' h hn k := by
    rcases h with ⟨rfl, rfl, rfl⟩ | ⟨b, room, rfl, h1, h2⟩
    · exact .inl ⟨rfl, rfl, rfl⟩
    · exact .inr ⟨b, room, rfl, h1, by rw [k b (mem_blkL.2 rfl)]; exact h2⟩
end Go.AM

set_option linter.unusedSimpArgs false
set_option linter.unusedVariables false
namespace Go.AM
def cpre : Nat → ACode → ACode
  | 0, _ => .skip
  | 1, .seq a _ => a
  | n + 2, .seq a b => .seq a (cpre (n + 1) b)
  | _ + 1, c => c
def cpost : Nat → ACode → ACode
  | 0, c => c
  | n + 1, .seq _ b => cpost n b
  | _ + 1, _ => .skip
def cok : Nat → ACode → Bool
  | 0, _ => false
  | 1, .seq _ _ => true
  | n + 2, .seq _ b => cok (n + 1) b
  | _ + 1, _ => false
variable {P : Program} {ng : Nat} {H : AHeap} {Q : AQ} {fr : List Value}
theorem andThen2 (Q : AQ) (K K' : List Value → AHeap → Prop) : (Q.andThen K).andThen K' = Q.andThen K' := by
  funext e fr H
  cases e <;> rfl
theorem W_pp : ∀ (n : Nat) (c : ACode) (Q : AQ) (fr : List Value) (H : AHeap), cok n c = true → W P ng c Q fr H = W P ng (cpre n c) (Q.andThen (W P ng (cpost n c) Q)) fr H
  | 0, c, Q, fr, H, h => by simp [cok] at h
  | 1, c, Q, fr, H, h => by
    cases c <;> simp [cok] at h
    rfl
  | n + 2, c, Q, fr, H, h => by
    cases c <;> simp [cok] at h
    rename_i a b
    simp only [cpre, cpost, W_seq]
    rw [andThen2]
    congr 1
    funext e fr H
    cases e
    · exact W_pp (n + 1) b Q fr H h
    all_goals rfl
theorem W_part {c : ACode} (n : Nat) (M : List Value → AHeap → Prop) (hok : cok n c = true)
    (h1 : ∀ Q' : AQ, (∀ fr H, M fr H → Q' .normal fr H) → (∀ i fr H, Q (.exit i) fr H → Q' (.exit i) fr H) → (∀ fr H, Q .ret fr H → Q' .ret fr H) → W P ng (cpre n c) Q' fr H)
    (h2 : ∀ fr H, M fr H → W P ng (cpost n c) Q fr H) : W P ng c Q fr H := by
  rw [W_pp n c Q fr H hok]
  exact h1 _ (fun fr H h => h2 fr H h) (fun _ _ _ h => h) (fun _ _ h => h)
end Go.AM

set_option linter.unusedSimpArgs false
set_option linter.unusedVariables false
namespace Go.AM
section
variable {P : Program} {ng : Nat} {H : AHeap} {Q : AQ} {fr tm : List Value}
theorem str_emp : ByteArray.empty = ⟨([] : List UInt8).toArray⟩ := _root_.id rfl
theorem str_ext (l : List UInt8) (a b : Nat) : (⟨l.toArray⟩ : ByteArray).extract a b = ⟨((l.take b).drop a).toArray⟩ := by
  apply ByteArray.ext
  rw [ByteArray.data_extract, List.drop_take]
  simp [List.extract_eq_take_drop]
theorem str_size (l : List UInt8) : (⟨l.toArray⟩ : ByteArray).size = l.length := by simp [ByteArray.size]
theorem a_slsT {l : List UInt8} {n : Nat} {kd : IntKind} (h : n ≤ l.length) : asem (.slstr (.string ⟨l.toArray⟩) (some (.int kd (n : Int))) none) H = some (.string ⟨(l.drop n).toArray⟩, H) := by
  simp only [asem, bndA, str_size]
  rw [if_pos (by omega)]
  simp [str_ext]
theorem a_slsP {l : List UInt8} {n : Nat} {kd : IntKind} (h : n ≤ l.length) : asem (.slstr (.string ⟨l.toArray⟩) none (some (.int kd (n : Int)))) H = some (.string ⟨(l.take n).toArray⟩, H) := by
  simp only [asem, bndA, str_size]
  rw [if_pos (by omega)]
  simp [str_ext]
theorem a_slsM {l : List UInt8} {n m : Nat} {kd kd' : IntKind} (h : n ≤ m) (h2 : m ≤ l.length) : asem (.slstr (.string ⟨l.toArray⟩) (some (.int kd (n : Int))) (some (.int kd' (m : Int)))) H = some (.string ⟨((l.take m).drop n).toArray⟩, H) := by
  simp only [asem, bndA, str_size]
  rw [if_pos (by omega)]
  simp only
  rw [if_pos (by omega)]
  simp [str_ext]
theorem a_idxS {l : List UInt8} {n : Nat} {kd : IntKind} (h : n < l.length) : asem (.idxs (.string ⟨l.toArray⟩) (.int kd (n : Int))) H = some (.int .u8 ((l.getD n 0).toNat : Nat), H) := by
  simp only [asem, str_size]
  rw [if_pos (by omega)]
  simp [List.getD, List.getElem?_eq_getElem h]
theorem a_idxS0 {l : List UInt8} {kd : IntKind} (h : 0 < l.length) : asem (.idxs (.string ⟨l.toArray⟩) (.int kd 0)) H = some (.int .u8 ((l.getD 0 0).toNat : Nat), H) := a_idxS (n := 0) h
theorem b_addS {a b : List UInt8} (h : a.length + b.length ≤ 140737488355328) : binA .add (.string ⟨a.toArray⟩) (.string ⟨b.toArray⟩) = some (.string ⟨(a ++ b).toArray⟩) := by
  rw [b_sadd (by simpa [str_size] using h), bytes_append]
theorem st_callvy (b : Nat) (xs : List Value) (d : D) (r : List AOper) (KF : List Value → AHeap → Prop) : stR P ng (.callv (.chan (some b)) xs) d r fr tm H KF = ∃ v H', AYield P ng b xs H v H' ∧ RW P ng r (d.frame v fr) (d.temps v tm) H' KF := _root_.id rfl
theorem yieldK {b : Nat} {xs : List Value} {R K : Value → AHeap → Prop} (h : ∃ v H', AYield P ng b xs H v H' ∧ R v H') (k : ∀ v H', R v H' → K v H') : ∃ v H', AYield P ng b xs H v H' ∧ K v H' := by
  obtain ⟨v, H', h1, h2⟩ := h; exact ⟨v, H', h1, k v H' h2⟩
theorem arun_ext {f : FuncId} {fn : Func} {e : Array Value → Sem Value} (hf : P.funcs[f]? = some fn) (hname : (fn.name == "runtime.NumGoroutine") = false) (hb : fn.body.isNone = true) (hn : Extern.findNext fn = none) (he : Extern.find fn = some e)
    {args : List Value} {v : Value} (hv : ∀ σ, VR σ v v) (h : ∀ σ w args', VL σ args args' → (e args'.toArray).run P w = .ok v w) : ARun P ng f args H v H := by
  refine ⟨⟨fn, hf⟩, Nat.le_refl _, fun σ w args' hr ha => ?_⟩
  refine .ext v w ?_ ⟨v, σ, rfl, hr, Ext.refl _ _ _ _, hv σ⟩
  rw [run_callFunc_extern hf hname hb hn he, h σ w args' ha]
  rfl
end
def ixB (c : UInt8) : List UInt8 → Option Nat
  | [] => none
  | x :: l => if x = c then some 0 else (ixB c l).map (· + 1)
def ixI (c : UInt8) (l : List UInt8) : Int := match ixB c l with
  | some i => (i : Int)
  | none => -1
theorem ixB_find (c : UInt8) (l : List UInt8) : l.findIdx? (· == c) = ixB c l := by
  induction l with
  | nil => rfl
  | cons x l ih =>
    simp only [List.findIdx?_cons, ixB, ih]
    by_cases h : x = c <;> simp [h]
theorem find_range {α : Type} (p : α → Bool) : ∀ (l : List α) (q : Nat → Bool), (∀ i (h : i < l.length), q i = p l[i]) → (List.range l.length).find? q = l.findIdx? p
  | [], q, h => rfl
  | x :: l, q, h => by
    rw [List.length_cons, List.range_succ_eq_map, List.find?_cons, List.findIdx?_cons]
    rw [h 0 (by simp)]
    simp only [List.getElem_cons_zero]
    cases p x with
    | true => rfl
    | false =>
      simp only [List.find?_map]
      rw [find_range p l (q ∘ Nat.succ) (fun i hi => by
        have h1 := h (i + 1) (by simpa using hi)
        rw [List.getElem_cons_succ] at h1
        exact h1)]
      cases l.findIdx? p <;> simp
theorem first_ix (l : List UInt8) (c : UInt8) : firstIdx ⟨l.toArray⟩ c = ixI c l := by
  unfold firstIdx ixI
  rw [← ixB_find, str_size, find_range (fun x => x == c) l]
  · cases l.findIdx? (· == c) <;> rfl
  · intro i h
    have : (⟨l.toArray⟩ : ByteArray)[i]! = l[i] := by
      rw [getElem!_pos (⟨l.toArray⟩ : ByteArray) i (by rw [str_size]; exact h)]
      rfl
    rw [this]
theorem ixB_some {c : UInt8} : ∀ {l : List UInt8} {i : Nat}, ixB c l = some i → i < l.length ∧ l.getD i 0 = c ∧ ∀ j, j < i → l.getD j 0 ≠ c
  | x :: l, i, h => by
    simp only [ixB] at h
    split at h
    · rename_i hx
      cases h
      exact ⟨by simp, by simpa using hx, fun j hj => absurd hj (by omega)⟩
    · rename_i hx
      simp only [Option.map_eq_some_iff] at h
      obtain ⟨k, hk, rfl⟩ := h
      obtain ⟨h1, h2, h3⟩ := ixB_some hk
      refine ⟨by simpa using h1, by simpa using h2, fun j hj => ?_⟩
      cases j with
      | zero => simpa using hx
      | succ j => simpa using h3 j (by omega)
theorem ixB_none {c : UInt8} : ∀ {l : List UInt8}, ixB c l = none → c ∉ l
  | [], _ => by simp
  | x :: l, h => by
    simp only [ixB] at h
    split at h
    · cases h
    · rename_i hx
      simp only [Option.map_eq_none_iff] at h
      simp only [List.mem_cons, not_or]
      exact ⟨fun e => hx e.symm, ixB_none h⟩
theorem ixB_le {c : UInt8} {l : List UInt8} {i : Nat} (h : ixB c l = some i) : i < l.length := (ixB_some h).1
theorem blen (ba : ByteArray) : ba.data.toList.length = ba.size := Array.length_toList
theorem bloop {β : Type} (f : β → UInt8 → β) (ba : ByteArray) : ∀ (i j : Nat) (b : β), j + i = ba.size →
    ByteArray.foldlM.loop (m := _root_.Id) (fun b x => pure (f b x)) ba ba.size (Nat.le_refl _) i j b = (ba.data.toList.drop j).foldl f b := by
  intro i
  induction i with
  | zero =>
    intro j b h
    unfold ByteArray.foldlM.loop
    rw [dif_neg (by omega), List.drop_of_length_le (by rw [blen]; omega)]
    rfl
  | succ i ih =>
    intro j b h
    unfold ByteArray.foldlM.loop
    have hj : j < ba.size := by omega
    rw [dif_pos hj]
    have hl : j < ba.data.toList.length := by rw [blen]; exact hj
    rw [List.drop_eq_getElem_cons hl, List.foldl_cons]
    exact ih (j + 1) _ (by omega)
theorem bfold {β : Type} (f : β → UInt8 → β) (ba : ByteArray) (b : β) : ba.foldl f b = ba.data.toList.foldl f b := by
  unfold ByteArray.foldl ByteArray.foldlM
  rw [dif_pos (Nat.le_refl _)]
  exact bloop f ba ba.size 0 b (by omega)
def cB (c : UInt8) : List UInt8 → Nat
  | [] => 0
  | x :: l => if x = c then cB c l + 1 else cB c l
theorem cB_fold (c : UInt8) : ∀ (l : List UInt8) (n : Int), l.foldl (fun (n : Int) x => if x == c then n + 1 else n) n = n + (cB c l : Int)
  | [], n => by simp [cB]
  | x :: l, n => by
    rw [List.foldl_cons, cB_fold]
    by_cases h : x = c
    · have e : cB c (x :: l) = cB c l + 1 := by simp [cB, h]
      rw [e, if_pos (by simpa using h)]; push_cast; omega
    · have e : cB c (x :: l) = cB c l := by simp [cB, h]
      rw [e, if_neg (by simpa using h)]
theorem cB_le (c : UInt8) : ∀ l : List UInt8, cB c l ≤ l.length
  | [] => Nat.le_refl _
  | x :: l => by
    have := cB_le c l
    simp only [cB, List.length_cons]
    split <;> omega
theorem run_count_string {P : Program} (l : List UInt8) (c : Int) (w : World) :
    (Extern.BytealgCount.count #[.string ⟨l.toArray⟩, .int .u8 c]).run P w = .ok (.int .i64 ((cB c.toNat.toUInt8 l : Nat) : Int)) w := by
  change Sem.run P (do
    let b ← Extern.Bytes.bytesOf (.string ⟨l.toArray⟩)
    let c' ← Extern.Bytes.asByte (.int .u8 c)
    pure (goInt (b.foldl (fun n x => if x == c' then n + 1 else n) ((0 : Nat) : Int)))) w = _
  simp only [Extern.Bytes.bytesOf, Extern.Bytes.asByte, Sem.run_bind, Sem.run_pure, Result.andThen_ok, bfold, cB_fold]
  simp [goInt]
def splitB (c : UInt8) : List UInt8 → List (List UInt8)
  | [] => [[]]
  | x :: l => if x = c then [] :: splitB c l else match splitB c l with
    | p :: r => (x :: p) :: r
    | [] => [[x]]
theorem splitB_ne (c : UInt8) (l : List UInt8) : splitB c l ≠ [] := by
  cases l with
  | nil => simp [splitB]
  | cons x l =>
    simp only [splitB]
    split
    · simp
    · split <;> simp
theorem splitB_ix {c : UInt8} : ∀ {l : List UInt8}, splitB c l = match ixB c l with
    | some i => l.take i :: splitB c (l.drop (i + 1))
    | none => [l]
  | [] => rfl
  | x :: l => by
    simp only [splitB, ixB]
    split
    · simp
    · rw [splitB_ix (l := l)]
      cases ixB c l <;> simp
theorem splitB_cB (c : UInt8) : ∀ l : List UInt8, (splitB c l).length = cB c l + 1
  | [] => rfl
  | x :: l => by
    have ih := splitB_cB c l
    simp only [splitB, cB]
    split
    · simp [ih]
    · split
      · rename_i p r h; rw [h] at ih; simpa using ih
      · rename_i h; exact absurd h (splitB_ne c l)
end Go.AM

set_option linter.unusedSimpArgs false
set_option linter.unusedVariables false
namespace Go.AM.Fd
open Nat (reduceAdd reduceEqDiff reduceLT reduceLeDiff reduceMul reduceSub)
open Go.Proofs Go.AM.F
noncomputable def ibsF : Func := (Go.Proofs.Tryd.prog.funcs[45]?).getD default
theorem ibs_f : Go.Proofs.Tryd.prog.funcs[45]? = some ibsF := by kernel_rfl
theorem ibs_n : (ibsF.name == "runtime.NumGoroutine") = false := by kernel_rfl
theorem ibs_b : ibsF.body.isNone = true := by kernel_rfl
theorem ibs_x : Extern.findNext ibsF = none := by kernel_rfl
theorem ibs_e : Extern.find ibsF = some Extern.BytealgIndexByte.indexByte := by kernel_rfl
theorem t45 (H : AHeap) (l : List UInt8) (c : Nat) : ∃ w H', ARun Go.Proofs.Tryd.prog 3 45 [.string ⟨l.toArray⟩, .int .u8 (c : Int)] H w H' ∧ w = .int .i64 (ixI (UInt8.ofNat c) l) ∧ H' = H := by
  refine ⟨_, _, arun_ext ibs_f ibs_n ibs_b ibs_x ibs_e (fun σ => .int .i64 (ixI (UInt8.ofNat c) l)) ?_, rfl, rfl⟩
  intro σ w args' hv
  cases hv with
  | cons a hv =>
    cases hv with
    | cons b hv =>
      cases hv
      cases a
      cases b
      have := run_indexByte_string (P := Go.Proofs.Tryd.prog) ⟨l.toArray⟩ (c : Int) w
      rw [first_ix] at this
      exact this
theorem t38 (H : AHeap) (l : List UInt8) (c : Nat) : ∃ w H', ARun Go.Proofs.Tryd.prog 3 38 [.string ⟨l.toArray⟩, .int .u8 (c : Int)] H w H' ∧ w = .int .i64 (ixI (UInt8.ofNat c) l) ∧ H' = H := by
  refine walk2 f38_ok f38_n ?_
  intro Q hq1 hq2
  simp (disch := first | assumption | omega | (simp only [LN] <;> omega) | (simp (disch := first | assumption | omega | (simp only [LN] <;> omega)) only [row_alloc, row_set]; assumption)) only [f38, W_block, P3, ↓reduceIte, reduceAdd, reduceEqDiff, reduceCtorEq, initFr, reduceLT, clsA, reduceLeDiff, reduceMul, reduceSub, reduceIte]
  refine callK (t45 H l c) ?_
  rintro _ K ⟨rfl, rfl⟩
  simp (disch := first | assumption | omega | (simp only [LN] <;> omega) | (simp (disch := first | assumption | omega | (simp only [LN] <;> omega)) only [row_alloc, row_set]; assumption)) only [W_block, P3, ↓reduceIte, reduceAdd, reduceEqDiff, reduceCtorEq, initFr, reduceLT, clsA, reduceLeDiff, reduceMul, reduceSub, reduceIte]
  exact hq2 _ _ ⟨_, rfl, rfl, rfl⟩
theorem t32 (H : AHeap) (l : List UInt8) (c : UInt8) : ∃ w H', ARun Go.Proofs.Tryd.prog 3 32 [.string ⟨l.toArray⟩, .string ⟨[c].toArray⟩] H w H' ∧ w = .int .i64 (ixI c l) ∧ H' = H := by
  refine walk2 f32_ok f32_n ?_
  intro Q hq1 hq2
  have e0 : (((1 : Nat) : Int) == 0) = false := by simp
  have e1 : (((1 : Nat) : Int) == 1) = true := by simp
  have e2 : [c].getD 0 0 = c := rfl
  have hl : 0 < [c].length := by simp
  by_cases hc : [c] = l
  · have e3 : decide ([c] = l) = true := by simpa using hc
    simp (disch := first | assumption | omega | (simp only [LN] <;> omega) | (simp (disch := first | assumption | omega | (simp only [LN] <;> omega)) only [row_alloc, row_set]; assumption)) only [f32, W_block, P3, ↓reduceIte, reduceAdd, reduceEqDiff, reduceCtorEq, initFr, reduceLT, clsA, reduceLeDiff, reduceMul, reduceSub, reduceIte, a_idxS0, e0, e1, e2, e3, bytes_eq]
    exact hq2 _ _ ⟨_, rfl, by rw [← hc]; simp [ixI, ixB]; rfl, rfl⟩
  · have e3 : decide ([c] = l) = false := by simpa using hc
    simp (disch := first | assumption | omega | (simp only [LN] <;> omega) | (simp (disch := first | assumption | omega | (simp only [LN] <;> omega)) only [row_alloc, row_set]; assumption)) only [f32, W_block, P3, ↓reduceIte, reduceAdd, reduceEqDiff, reduceCtorEq, initFr, reduceLT, clsA, reduceLeDiff, reduceMul, reduceSub, reduceIte, a_idxS0, e0, e1, e2, e3, bytes_eq]
    refine callK (t38 H l c.toNat) ?_
    rintro _ K ⟨rfl, rfl⟩
    simp (disch := first | assumption | omega | (simp only [LN] <;> omega) | (simp (disch := first | assumption | omega | (simp only [LN] <;> omega)) only [row_alloc, row_set]; assumption)) only [W_block, P3, ↓reduceIte, reduceAdd, reduceEqDiff, reduceCtorEq, initFr, reduceLT, clsA, reduceLeDiff, reduceMul, reduceSub, reduceIte, UInt8.ofNat_toNat]
    exact hq2 _ _ ⟨_, rfl, rfl, rfl⟩
theorem t35 (H : AHeap) (l : List UInt8) (c : UInt8) : ∃ w H', ARun Go.Proofs.Tryd.prog 3 35 [.string ⟨l.toArray⟩, .string ⟨[c].toArray⟩] H w H' ∧ w = .int .i64 (ixI c l) ∧ H' = H := by
  refine walk2 f35_ok f35_n ?_
  intro Q hq1 hq2
  simp (disch := first | assumption | omega | (simp only [LN] <;> omega) | (simp (disch := first | assumption | omega | (simp only [LN] <;> omega)) only [row_alloc, row_set]; assumption)) only [f35, W_block, P3, ↓reduceIte, reduceAdd, reduceEqDiff, reduceCtorEq, initFr, reduceLT, clsA, reduceLeDiff, reduceMul, reduceSub, reduceIte]
  refine callK (t32 H l c) ?_
  rintro _ K ⟨rfl, rfl⟩
  simp (disch := first | assumption | omega | (simp only [LN] <;> omega) | (simp (disch := first | assumption | omega | (simp only [LN] <;> omega)) only [row_alloc, row_set]; assumption)) only [W_block, P3, ↓reduceIte, reduceAdd, reduceEqDiff, reduceCtorEq, initFr, reduceLT, clsA, reduceLeDiff, reduceMul, reduceSub, reduceIte]
  exact hq2 _ _ ⟨_, rfl, rfl, rfl⟩
def cutB (c : UInt8) (l : List UInt8) : Value := match ixB c l with
  | some i => .tuple #[.string ⟨(l.take i).toArray⟩, .string ⟨(l.drop (i + 1)).toArray⟩, .bool true]
  | none => .tuple #[.string ⟨l.toArray⟩, .string ⟨([] : List UInt8).toArray⟩, .bool false]
theorem t28 (H : AHeap) (l : List UInt8) (c : UInt8) (hl : l.length ≤ 1000000000) : ∃ w H', ARun Go.Proofs.Tryd.prog 3 28 [.string ⟨l.toArray⟩, .string ⟨[c].toArray⟩] H w H' ∧ w = cutB c l ∧ H' = H := by
  refine walk2 f28_ok f28_n ?_
  intro Q hq1 hq2
  simp (disch := first | assumption | omega | (simp only [LN] <;> omega) | (simp (disch := first | assumption | omega | (simp only [LN] <;> omega)) only [row_alloc, row_set]; assumption)) only [f28, W_block, P3, ↓reduceIte, reduceAdd, reduceEqDiff, reduceCtorEq, initFr, reduceLT, clsA, reduceLeDiff, reduceMul, reduceSub, reduceIte]
  refine callK (t32 H l c) ?_
  rintro _ K ⟨rfl, rfl⟩
  cases hi : ixB c l with
  | none =>
    have e : ixI c l = -1 := by unfold ixI; rw [hi]
    simp (disch := first | assumption | omega | (simp only [LN] <;> omega) | (simp (disch := first | assumption | omega | (simp only [LN] <;> omega)) only [row_alloc, row_set]; assumption)) only [W_block, P3, ↓reduceIte, reduceAdd, reduceEqDiff, reduceCtorEq, initFr, reduceLT, clsA, reduceLeDiff, reduceMul, reduceSub, reduceIte, e]
    exact hq2 _ _ ⟨_, rfl, by unfold cutB; rw [hi]; rfl, rfl⟩
  | some i =>
    have e : ixI c l = (i : Int) := by unfold ixI; rw [hi]
    have hlt := ixB_le hi
    have h0 : (0 : Int) ≤ (i : Int) := by omega
    have hle : i ≤ l.length := by omega
    have hw : IntKind.i64.wrap ((i : Int) + ((1 : Nat) : Int)) = ((i + 1 : Nat) : Int) := by
      rw [wrap_i64 (by omega) (by omega)]; simp
    have hle2 : i + 1 ≤ l.length := by omega
    simp (disch := first | assumption | omega | (simp only [LN] <;> omega) | (simp (disch := first | assumption | omega | (simp only [LN] <;> omega)) only [row_alloc, row_set]; assumption)) only [W_block, P3, ↓reduceIte, reduceAdd, reduceEqDiff, reduceCtorEq, initFr, reduceLT, clsA, reduceLeDiff, reduceMul, reduceSub, reduceIte, e, a_slsP, a_slsT, hw]
    exact hq2 _ _ ⟨_, rfl, by unfold cutB; rw [hi]; rfl, rfl⟩
theorem t22 (H : AHeap) (l : List UInt8) (c : UInt8) (hl : l.length ≤ 1000000000) : ∃ w H', ARun Go.Proofs.Tryd.prog 3 22 [.string ⟨l.toArray⟩, .string ⟨[c].toArray⟩] H w H' ∧ w = cutB c l ∧ H' = H := by
  refine walk2 f22_ok f22_n ?_
  intro Q hq1 hq2
  simp (disch := first | assumption | omega | (simp only [LN] <;> omega) | (simp (disch := first | assumption | omega | (simp only [LN] <;> omega)) only [row_alloc, row_set]; assumption)) only [f22, W_block, P3, ↓reduceIte, reduceAdd, reduceEqDiff, reduceCtorEq, initFr, reduceLT, clsA, reduceLeDiff, reduceMul, reduceSub, reduceIte]
  refine callK (t28 H l c hl) ?_
  rintro _ K ⟨hw, rfl⟩
  unfold cutB at hw
  split at hw <;> (subst hw; simp (disch := first | assumption | omega | (simp only [LN] <;> omega) | (simp (disch := first | assumption | omega | (simp only [LN] <;> omega)) only [row_alloc, row_set]; assumption)) only [W_block, P3, ↓reduceIte, reduceAdd, reduceEqDiff, reduceCtorEq, initFr, reduceLT, clsA, reduceLeDiff, reduceMul, reduceSub, reduceIte])
  · rename_i i hi
    exact hq2 _ _ ⟨_, rfl, by unfold cutB; rw [hi]; rfl, rfl⟩
  · rename_i hi
    exact hq2 _ _ ⟨_, rfl, by unfold cutB; rw [hi]; rfl, rfl⟩
theorem t29 (H : AHeap) (l p : List UInt8) : ∃ w H', ARun Go.Proofs.Tryd.prog 3 29 [.string ⟨l.toArray⟩, .string ⟨p.toArray⟩] H w H' ∧ w = .bool (p.isPrefixOf l) ∧ H' = H := by
  refine walk2 f29_ok f29_n ?_
  intro Q hq1 hq2
  by_cases h : p.length ≤ l.length
  · have h1 : ((p.length : Nat) : Int) ≤ ((l.length : Nat) : Int) := by omega
    have e : (decide (l.take p.length = p)) = p.isPrefixOf l := by
      rw [Bool.eq_iff_iff, decide_eq_true_iff, List.isPrefixOf_iff_prefix, List.prefix_iff_eq_take]
      exact eq_comm
    simp (disch := first | assumption | omega | (simp only [LN] <;> omega) | (simp (disch := first | assumption | omega | (simp only [LN] <;> omega)) only [row_alloc, row_set]; assumption)) only [f29, W_block, P3, ↓reduceIte, reduceAdd, reduceEqDiff, reduceCtorEq, initFr, reduceLT, clsA, reduceLeDiff, reduceMul, reduceSub, reduceIte, a_slsP, bytes_eq, e]
    exact hq2 _ _ ⟨_, rfl, rfl, rfl⟩
  · have h1 : ¬ ((p.length : Nat) : Int) ≤ ((l.length : Nat) : Int) := by omega
    have e : p.isPrefixOf l = false := by
      rw [Bool.eq_false_iff]
      intro e
      exact h (List.isPrefixOf_iff_prefix.1 e).length_le
    simp (disch := first | assumption | omega | (simp only [LN] <;> omega) | (simp (disch := first | assumption | omega | (simp only [LN] <;> omega)) only [row_alloc, row_set]; assumption)) only [f29, W_block, P3, ↓reduceIte, reduceAdd, reduceEqDiff, reduceCtorEq, initFr, reduceLT, clsA, reduceLeDiff, reduceMul, reduceSub, reduceIte]
    exact hq2 _ _ ⟨_, rfl, by rw [e]; rfl, rfl⟩
theorem t23 (H : AHeap) (l p : List UInt8) : ∃ w H', ARun Go.Proofs.Tryd.prog 3 23 [.string ⟨l.toArray⟩, .string ⟨p.toArray⟩] H w H' ∧ w = .bool (p.isPrefixOf l) ∧ H' = H := by
  refine walk2 f23_ok f23_n ?_
  intro Q hq1 hq2
  simp (disch := first | assumption | omega | (simp only [LN] <;> omega) | (simp (disch := first | assumption | omega | (simp only [LN] <;> omega)) only [row_alloc, row_set]; assumption)) only [f23, W_block, P3, ↓reduceIte, reduceAdd, reduceEqDiff, reduceCtorEq, initFr, reduceLT, clsA, reduceLeDiff, reduceMul, reduceSub, reduceIte]
  refine callK (t29 H l p) ?_
  rintro _ K ⟨rfl, rfl⟩
  simp (disch := first | assumption | omega | (simp only [LN] <;> omega) | (simp (disch := first | assumption | omega | (simp only [LN] <;> omega)) only [row_alloc, row_set]; assumption)) only [W_block, P3, ↓reduceIte, reduceAdd, reduceEqDiff, reduceCtorEq, initFr, reduceLT, clsA, reduceLeDiff, reduceMul, reduceSub, reduceIte]
  exact hq2 _ _ ⟨_, rfl, rfl, rfl⟩
end Go.AM.Fd

set_option linter.unusedSimpArgs false
set_option linter.unusedVariables false
namespace Go.AM.Fd
open Nat (reduceAdd reduceEqDiff reduceLT reduceLeDiff reduceMul reduceSub)
open Go.Proofs Go.AM.F
def boxS (l : List UInt8) : AO := .cells true false 1 [.string ⟨l.toArray⟩] 9
theorem t30 (H : AHeap) (l : List UInt8) (c : UInt8) : ∃ w H', ARun Go.Proofs.Tryd.prog 3 30 [.string ⟨l.toArray⟩, .string ⟨[c].toArray⟩, .int .i64 0] H w H' ∧
    w = .func (.func 33) #[] #[ptr (H.n + 1) 0, ptr H.n 0, ptr (H.n + 2) 0] ∧ H' = ((H.alloc (boxS l)).alloc (boxS [c])).alloc (.cells true false 1 [.int .i64 0] 3) := by
  refine walk2 f30_ok f30_n ?_
  intro Q hq1 hq2
  simp (disch := first | assumption | omega | (simp only [LN] <;> omega) | (simp (disch := first | assumption | omega | (simp only [LN] <;> omega)) only [row_alloc, row_set]; assumption)) only [f30, W_block, P3, ↓reduceIte, reduceAdd, reduceEqDiff, reduceCtorEq, initFr, reduceLT, clsA, reduceLeDiff, reduceMul, reduceSub, reduceIte]
  exact hq2 _ _ ⟨_, rfl, rfl, rfl⟩
theorem t24 (H : AHeap) (l : List UInt8) (c : UInt8) : ∃ w H', ARun Go.Proofs.Tryd.prog 3 24 [.string ⟨l.toArray⟩, .string ⟨[c].toArray⟩] H w H' ∧
    w = .func (.func 33) #[] #[ptr (H.n + 1) 0, ptr H.n 0, ptr (H.n + 2) 0] ∧ H' = ((H.alloc (boxS l)).alloc (boxS [c])).alloc (.cells true false 1 [.int .i64 0] 3) := by
  refine walk2 f24_ok f24_n ?_
  intro Q hq1 hq2
  simp (disch := first | assumption | omega | (simp only [LN] <;> omega) | (simp (disch := first | assumption | omega | (simp only [LN] <;> omega)) only [row_alloc, row_set]; assumption)) only [f24, W_block, P3, ↓reduceIte, reduceAdd, reduceEqDiff, reduceCtorEq, initFr, reduceLT, clsA, reduceLeDiff, reduceMul, reduceSub, reduceIte]
  refine callK (t30 H l c) ?_
  rintro _ K ⟨rfl, rfl⟩
  simp (disch := first | assumption | omega | (simp only [LN] <;> omega) | (simp (disch := first | assumption | omega | (simp only [LN] <;> omega)) only [row_alloc, row_set]; assumption)) only [W_block, P3, ↓reduceIte, reduceAdd, reduceEqDiff, reduceCtorEq, initFr, reduceLT, clsA, reduceLeDiff, reduceMul, reduceSub, reduceIte]
  exact hq2 _ _ ⟨_, rfl, rfl, rfl⟩
theorem t33 (J : List (List UInt8) → List UInt8 → AHeap → Prop) (Jx : AHeap → Prop) {c : UInt8} {b p1 p2 p3 : Nat} {s : List UInt8} (hl : s.length ≤ 1000000000)
    (hr : ∀ pre sc H, J pre sc H → H.get p1 = some (boxS [c]) ∧ H.get p2 = some (boxS sc) ∧ H.get p3 = some (.cells true false 1 [.int .i64 0] 3))
    (hw : ∀ pre sc sc' H, J pre sc H → J pre sc' (H.set p2 (boxS sc')))
    (hy : ∀ pre x sc H, J pre sc H → (∃ rest, splitB c s = pre ++ x :: rest) → ∃ v H', AYield Go.Proofs.Tryd.prog 3 b [.string ⟨x.toArray⟩] H v H' ∧ ((v = .bool true ∧ J (pre ++ [x]) sc H') ∨ (v = .bool false ∧ Jx H')))
    {H : AHeap} (h0 : J [] s H) : ∃ w H', ARun Go.Proofs.Tryd.prog 3 33 [.chan (some b), ptr p1 0, ptr p2 0, ptr p3 0] H w H' ∧ ((∃ sc, J (splitB c s) sc H') ∨ Jx H') := by
  refine walk2 f33_ok f33_n ?_
  intro Q hq1 hq2
  obtain ⟨g1, g2, g3⟩ := hr _ _ _ h0
  have e0 : (((1 : Nat) : Int) == 0) = false := by simp
  unfold boxS at g1 g2
  simp (disch := first | assumption | omega | (simp only [LN] <;> omega) | (simp (disch := first | assumption | omega | (simp only [LN] <;> omega)) only [row_alloc, row_set]; assumption)) only [ f33, P3, ↓reduceIte, reduceAdd, reduceEqDiff, reduceCtorEq, initFr, reduceLT, clsA, reduceLeDiff, reduceMul, reduceSub, reduceIte, g1, e0]
  rw [W_block]
  refine W_loop2 (fun k fr H => ∃ pre sc x5 x6 x10 x11, fr = [.chan (some b), ptr p1 0, ptr p2 0, ptr p3 0, undef, x5, x6, .bool false, undef, undef, x10, x11] ∧ J pre sc H ∧ splitB c s = pre ++ splitB c sc ∧ sc.length = k ∧ sc.length ≤ s.length) s.length
    ⟨[], s, _, _, _, _, rfl, h0, rfl, rfl, Nat.le_refl _⟩ ?_
  rintro Q' k fr H ⟨pre, sc, x5, x6, x10, x11, rfl, hJ, hsp, hk, hle⟩ hn hx hret
  obtain ⟨g1, g2, g3⟩ := hr _ _ _ hJ
  unfold boxS at g1 g2
  simp (disch := first | assumption | omega | (simp only [LN] <;> omega) | (simp (disch := first | assumption | omega | (simp only [LN] <;> omega)) only [row_alloc, row_set]; assumption)) only [W_block, P3, ↓reduceIte, reduceAdd, reduceEqDiff, reduceCtorEq, initFr, reduceLT, clsA, reduceLeDiff, reduceMul, reduceSub, reduceIte, g1, g2]
  refine callK (t35 H sc c) ?_
  rintro _ K ⟨rfl, rfl⟩
  cases hi : ixB c sc with
  | none =>
    have e : ixI c sc = -1 := by unfold ixI; rw [hi]
    have hsp1 : splitB c sc = [sc] := by rw [splitB_ix, hi]
    rw [hsp1] at hsp
    simp (disch := first | assumption | omega | (simp only [LN] <;> omega) | (simp (disch := first | assumption | omega | (simp only [LN] <;> omega)) only [row_alloc, row_set]; assumption)) only [W_block, P3, ↓reduceIte, reduceAdd, reduceEqDiff, reduceCtorEq, initFr, reduceLT, clsA, reduceLeDiff, reduceMul, reduceSub, reduceIte, e, g1, g2]
    refine hx 2 _ _ ?_
    simp (disch := first | assumption | omega | (simp only [LN] <;> omega) | (simp (disch := first | assumption | omega | (simp only [LN] <;> omega)) only [row_alloc, row_set]; assumption)) only [W_block, P3, ↓reduceIte, reduceAdd, reduceEqDiff, reduceCtorEq, initFr, reduceLT, clsA, reduceLeDiff, reduceMul, reduceSub, reduceIte, g1, g2, st_callvy]
    refine yieldK (hy pre sc sc _ hJ ⟨[], hsp⟩) ?_
    rintro v K h
    refine hq1 _ _ ⟨_, rfl, ?_⟩
    rcases h with ⟨_, h⟩ | ⟨_, h⟩
    · exact .inl ⟨sc, by rw [hsp]; exact h⟩
    · exact .inr h
  | some i =>
    have e : ixI c sc = (i : Int) := by unfold ixI; rw [hi]
    have hlt := ixB_le hi
    have h0' : ¬ ((i : Int) < 0) := by omega
    have hw1 : IntKind.i64.wrap ((i : Int) + 0) = ((i : Nat) : Int) := by rw [wrap_i64 (by omega) (by omega)]; simp
    have hw2 : IntKind.i64.wrap ((i : Int) + ((1 : Nat) : Int)) = ((i + 1 : Nat) : Int) := by rw [wrap_i64 (by omega) (by omega)]; simp
    have hi1 : i ≤ sc.length := by omega
    have hi2 : i + 1 ≤ sc.length := by omega
    have hsp1 : splitB c sc = sc.take i :: splitB c (sc.drop (i + 1)) := by rw [splitB_ix, hi]
    rw [hsp1] at hsp
    simp (disch := first | assumption | omega | (simp only [LN] <;> omega) | (simp (disch := first | assumption | omega | (simp only [LN] <;> omega)) only [row_alloc, row_set]; assumption)) only [W_block, P3, ↓reduceIte, reduceAdd, reduceEqDiff, reduceCtorEq, initFr, reduceLT, clsA, reduceLeDiff, reduceMul, reduceSub, reduceIte, e, g1, g2, g3, a_slsP, hw1, st_callvy]
    refine yieldK (hy pre (sc.take i) sc _ hJ ⟨_, hsp⟩) ?_
    rintro v K h
    rcases h with ⟨rfl, h⟩ | ⟨rfl, h⟩
    · obtain ⟨k1, k2, k3⟩ := hr _ _ _ h
      have k2' := k2
      unfold boxS at k1 k2
      simp (disch := first | assumption | omega | (simp only [LN] <;> omega) | (simp (disch := first | assumption | omega | (simp only [LN] <;> omega)) only [row_alloc, row_set]; assumption)) only [W_block, P3, ↓reduceIte, reduceAdd, reduceEqDiff, reduceCtorEq, initFr, reduceLT, clsA, reduceLeDiff, reduceMul, reduceSub, reduceIte, k1, k2, k3, a_slsT, hw2]
      refine hn (sc.drop (i + 1)).length _ _ ⟨pre ++ [sc.take i], sc.drop (i + 1), _, _, _, _, rfl, hw _ _ (sc.drop (i + 1)) _ h, by simp [hsp], rfl, by simp; omega⟩ (by rw [← hk]; simp; omega)
    · simp (disch := first | assumption | omega | (simp only [LN] <;> omega) | (simp (disch := first | assumption | omega | (simp only [LN] <;> omega)) only [row_alloc, row_set]; assumption)) only [W_block, P3, ↓reduceIte, reduceAdd, reduceEqDiff, reduceCtorEq, initFr, reduceLT, clsA, reduceLeDiff, reduceMul, reduceSub, reduceIte]
      exact hret _ _ (hq2 _ _ ⟨_, rfl, .inr h⟩)
end Go.AM.Fd

set_option linter.unusedSimpArgs false
set_option linter.unusedVariables false
namespace Go.AM.Fd
open Nat (reduceAdd reduceEqDiff reduceLT reduceLeDiff reduceMul reduceSub)
open Go.Proofs Go.AM.F
def decB (l : List UInt8) (p : Nat) : Nat × Nat := Utf8.decode ⟨l.toArray⟩ p
theorem decB_pos {l : List UInt8} {p : Nat} : 1 ≤ (decB l p).2 := by
  unfold decB Utf8.decode
  repeat' split
  all_goals (first | omega | (simp only []; repeat' split) )
  all_goals first | omega | (dsimp only []; repeat' split)
  all_goals omega
def runs (l : List UInt8) : Nat → Nat → List (Nat × Int)
  | 0, _ => []
  | k + 1, p => if p < l.length then (p, ((decB l p).1 : Int)) :: runs l k (p + (decB l p).2) else []
theorem runs_more {l : List UInt8} : ∀ {k p : Nat}, l.length - p ≤ k → runs l k p = runs l (l.length - p) p
  | 0, p, h => by rw [show l.length - p = 0 by omega]
  | k + 1, p, h => by
    by_cases hp : p < l.length
    · obtain ⟨m, hm⟩ : ∃ m, l.length - p = m + 1 := ⟨l.length - p - 1, by omega⟩
      have h1 := decB_pos (l := l) (p := p)
      rw [hm]
      simp only [runs, if_pos hp]
      rw [runs_more (k := k) (by omega), runs_more (k := m) (by omega)]
    · rw [show l.length - p = 0 by omega]
      simp [runs, hp]
def runF (l : List UInt8) (p : Nat) : List (Nat × Int) := runs l (l.length - p) p
theorem runF_step {l : List UInt8} {p : Nat} (h : p < l.length) : runF l p = (p, ((decB l p).1 : Int)) :: runF l (p + (decB l p).2) := by
  obtain ⟨m, hm⟩ : ∃ m, l.length - p = m + 1 := ⟨l.length - p - 1, by omega⟩
  have h1 := decB_pos (l := l) (p := p)
  unfold runF
  rw [hm]
  simp only [runs, if_pos h]
  rw [runs_more (k := m) (by omega)]
theorem runF_end {l : List UInt8} {p : Nat} (h : ¬ p < l.length) : runF l p = [] := by
  unfold runF
  rw [show l.length - p = 0 by omega]
  rfl
theorem a_rngS {H : AHeap} (l : List UInt8) : asem (.rng (.string ⟨l.toArray⟩)) H = some (ptr H.n 0, H.alloc (.obj true (.stringIter ⟨l.toArray⟩ 0))) := rfl
theorem a_nextY {H : AHeap} {b p : Nat} {l : List UInt8} (hg : H.get b = some (.obj true (.stringIter ⟨l.toArray⟩ p))) (h : p < l.length) :
    asem (.next (ptr b 0)) H = some (.tuple #[.bool true, .int .i64 (p : Int), .int .i32 ((decB l p).1 : Int)], H.set b (.obj true (.stringIter ⟨l.toArray⟩ (p + (decB l p).2)))) := by
  simp only [asem, ptr, hg, str_size]
  rw [if_pos h]
  rfl
theorem a_nextN {H : AHeap} {b p : Nat} {l : List UInt8} (hg : H.get b = some (.obj true (.stringIter ⟨l.toArray⟩ p))) (h : ¬ p < l.length) : asem (.next (ptr b 0)) H = some (.tuple #[.bool false], H) := by
  simp only [asem, ptr, hg, str_size]
  rw [if_neg h]
def sgn (r : Int) : Bool := decide (33 ≤ r) && (decide (r < 127) || decide (160 < r)) && r != 58 && r != 35 && r != 43 && r != 45 && r != 65533
theorem t11 (H : AHeap) (r : Int) : ∃ w H', ARun Go.Proofs.Tryd.prog 3 11 [.int .i32 r] H w H' ∧ w = .bool (sgn r) ∧ H' = H := by
  refine walk2 f11_ok f11_n ?_
  intro Q hq1 hq2
  by_cases h1 : 33 ≤ r
  · by_cases h2 : r = 58
    · subst h2; simp (disch := first | assumption | omega | (simp only [LN] <;> omega) | (simp (disch := first | assumption | omega | (simp only [LN] <;> omega)) only [row_alloc, row_set]; assumption)) only [f11, W_block, P3, ↓reduceIte, reduceAdd, reduceEqDiff, reduceCtorEq, initFr, reduceLT, clsA, reduceLeDiff, reduceMul, reduceSub, reduceIte]; exact hq2 _ _ ⟨_, rfl, rfl, rfl⟩
    by_cases h3 : r = 35
    · subst h3; simp (disch := first | assumption | omega | (simp only [LN] <;> omega) | (simp (disch := first | assumption | omega | (simp only [LN] <;> omega)) only [row_alloc, row_set]; assumption)) only [f11, W_block, P3, ↓reduceIte, reduceAdd, reduceEqDiff, reduceCtorEq, initFr, reduceLT, clsA, reduceLeDiff, reduceMul, reduceSub, reduceIte]; exact hq2 _ _ ⟨_, rfl, rfl, rfl⟩
    by_cases h4 : r = 43
    · subst h4; simp (disch := first | assumption | omega | (simp only [LN] <;> omega) | (simp (disch := first | assumption | omega | (simp only [LN] <;> omega)) only [row_alloc, row_set]; assumption)) only [f11, W_block, P3, ↓reduceIte, reduceAdd, reduceEqDiff, reduceCtorEq, initFr, reduceLT, clsA, reduceLeDiff, reduceMul, reduceSub, reduceIte]; exact hq2 _ _ ⟨_, rfl, rfl, rfl⟩
    by_cases h5 : r = 45
    · subst h5; simp (disch := first | assumption | omega | (simp only [LN] <;> omega) | (simp (disch := first | assumption | omega | (simp only [LN] <;> omega)) only [row_alloc, row_set]; assumption)) only [f11, W_block, P3, ↓reduceIte, reduceAdd, reduceEqDiff, reduceCtorEq, initFr, reduceLT, clsA, reduceLeDiff, reduceMul, reduceSub, reduceIte]; exact hq2 _ _ ⟨_, rfl, rfl, rfl⟩
    by_cases h6 : r = 65533
    · subst h6; simp (disch := first | assumption | omega | (simp only [LN] <;> omega) | (simp (disch := first | assumption | omega | (simp only [LN] <;> omega)) only [row_alloc, row_set]; assumption)) only [f11, W_block, P3, ↓reduceIte, reduceAdd, reduceEqDiff, reduceCtorEq, initFr, reduceLT, clsA, reduceLeDiff, reduceMul, reduceSub, reduceIte]; exact hq2 _ _ ⟨_, rfl, rfl, rfl⟩
    by_cases h7 : r < 127
    · simp (disch := first | assumption | omega | (simp only [LN] <;> omega) | (simp (disch := first | assumption | omega | (simp only [LN] <;> omega)) only [row_alloc, row_set]; assumption)) only [f11, W_block, P3, ↓reduceIte, reduceAdd, reduceEqDiff, reduceCtorEq, initFr, reduceLT, clsA, reduceLeDiff, reduceMul, reduceSub, reduceIte]
      exact hq2 _ _ ⟨_, rfl, by simp [sgn, tupV, h1, h2, h3, h4, h5, h6, h7], rfl⟩
    · by_cases h8 : 160 < r
      · simp (disch := first | assumption | omega | (simp only [LN] <;> omega) | (simp (disch := first | assumption | omega | (simp only [LN] <;> omega)) only [row_alloc, row_set]; assumption)) only [f11, W_block, P3, ↓reduceIte, reduceAdd, reduceEqDiff, reduceCtorEq, initFr, reduceLT, clsA, reduceLeDiff, reduceMul, reduceSub, reduceIte]
        exact hq2 _ _ ⟨_, rfl, by simp [sgn, tupV, h1, h2, h3, h4, h5, h6, h7, h8], rfl⟩
      · simp (disch := first | assumption | omega | (simp only [LN] <;> omega) | (simp (disch := first | assumption | omega | (simp only [LN] <;> omega)) only [row_alloc, row_set]; assumption)) only [f11, W_block, P3, ↓reduceIte, reduceAdd, reduceEqDiff, reduceCtorEq, initFr, reduceLT, clsA, reduceLeDiff, reduceMul, reduceSub, reduceIte]
        exact hq2 _ _ ⟨_, rfl, by simp [sgn, tupV, h1, h2, h3, h4, h5, h6, h7, h8], rfl⟩
  · simp (disch := first | assumption | omega | (simp only [LN] <;> omega) | (simp (disch := first | assumption | omega | (simp only [LN] <;> omega)) only [row_alloc, row_set]; assumption)) only [f11, W_block, P3, ↓reduceIte, reduceAdd, reduceEqDiff, reduceCtorEq, initFr, reduceLT, clsA, reduceLeDiff, reduceMul, reduceSub, reduceIte]
    exact hq2 _ _ ⟨_, rfl, by simp [sgn, tupV, h1], rfl⟩
theorem t10 (H : AHeap) (r : Int) : ∃ w H', ARun Go.Proofs.Tryd.prog 3 10 [.int .i32 r] H w H' ∧ w = .bool (sgn r) ∧ H' = H := by
  refine walk2 f10_ok f10_n ?_
  intro Q hq1 hq2
  by_cases h1 : r < 33
  · simp (disch := first | assumption | omega | (simp only [LN] <;> omega) | (simp (disch := first | assumption | omega | (simp only [LN] <;> omega)) only [row_alloc, row_set]; assumption)) only [f10, W_block, P3, ↓reduceIte, reduceAdd, reduceEqDiff, reduceCtorEq, initFr, reduceLT, clsA, reduceLeDiff, reduceMul, reduceSub, reduceIte]
    exact hq2 _ _ ⟨_, rfl, by simp [sgn, tupV, show ¬ 33 ≤ r by omega], rfl⟩
  have h1' : 33 ≤ r := by omega
  by_cases h2 : r = 58
  · subst h2; simp (disch := first | assumption | omega | (simp only [LN] <;> omega) | (simp (disch := first | assumption | omega | (simp only [LN] <;> omega)) only [row_alloc, row_set]; assumption)) only [f10, W_block, P3, ↓reduceIte, reduceAdd, reduceEqDiff, reduceCtorEq, initFr, reduceLT, clsA, reduceLeDiff, reduceMul, reduceSub, reduceIte]; exact hq2 _ _ ⟨_, rfl, rfl, rfl⟩
  by_cases h3 : r = 35
  · subst h3; simp (disch := first | assumption | omega | (simp only [LN] <;> omega) | (simp (disch := first | assumption | omega | (simp only [LN] <;> omega)) only [row_alloc, row_set]; assumption)) only [f10, W_block, P3, ↓reduceIte, reduceAdd, reduceEqDiff, reduceCtorEq, initFr, reduceLT, clsA, reduceLeDiff, reduceMul, reduceSub, reduceIte]; exact hq2 _ _ ⟨_, rfl, rfl, rfl⟩
  by_cases h4 : r = 43
  · subst h4; simp (disch := first | assumption | omega | (simp only [LN] <;> omega) | (simp (disch := first | assumption | omega | (simp only [LN] <;> omega)) only [row_alloc, row_set]; assumption)) only [f10, W_block, P3, ↓reduceIte, reduceAdd, reduceEqDiff, reduceCtorEq, initFr, reduceLT, clsA, reduceLeDiff, reduceMul, reduceSub, reduceIte]; exact hq2 _ _ ⟨_, rfl, rfl, rfl⟩
  by_cases h5 : r = 45
  · subst h5; simp (disch := first | assumption | omega | (simp only [LN] <;> omega) | (simp (disch := first | assumption | omega | (simp only [LN] <;> omega)) only [row_alloc, row_set]; assumption)) only [f10, W_block, P3, ↓reduceIte, reduceAdd, reduceEqDiff, reduceCtorEq, initFr, reduceLT, clsA, reduceLeDiff, reduceMul, reduceSub, reduceIte]; exact hq2 _ _ ⟨_, rfl, rfl, rfl⟩
  by_cases h6 : r = 65533
  · subst h6; simp (disch := first | assumption | omega | (simp only [LN] <;> omega) | (simp (disch := first | assumption | omega | (simp only [LN] <;> omega)) only [row_alloc, row_set]; assumption)) only [f10, W_block, P3, ↓reduceIte, reduceAdd, reduceEqDiff, reduceCtorEq, initFr, reduceLT, clsA, reduceLeDiff, reduceMul, reduceSub, reduceIte]; exact hq2 _ _ ⟨_, rfl, rfl, rfl⟩
  by_cases h7 : 127 ≤ r
  · by_cases h8 : r ≤ 160
    · simp (disch := first | assumption | omega | (simp only [LN] <;> omega) | (simp (disch := first | assumption | omega | (simp only [LN] <;> omega)) only [row_alloc, row_set]; assumption)) only [f10, W_block, P3, ↓reduceIte, reduceAdd, reduceEqDiff, reduceCtorEq, initFr, reduceLT, clsA, reduceLeDiff, reduceMul, reduceSub, reduceIte]
      exact hq2 _ _ ⟨_, rfl, by simp [sgn, tupV, h1', h2, h3, h4, h5, h6, show ¬ r < 127 by omega, show ¬ 160 < r by omega], rfl⟩
    · simp (disch := first | assumption | omega | (simp only [LN] <;> omega) | (simp (disch := first | assumption | omega | (simp only [LN] <;> omega)) only [row_alloc, row_set]; assumption)) only [f10, W_block, P3, ↓reduceIte, reduceAdd, reduceEqDiff, reduceCtorEq, initFr, reduceLT, clsA, reduceLeDiff, reduceMul, reduceSub, reduceIte]
      exact hq2 _ _ ⟨_, rfl, by simp [sgn, tupV, h1', h2, h3, h4, h5, h6, show ¬ r < 127 by omega, show 160 < r by omega], rfl⟩
  · simp (disch := first | assumption | omega | (simp only [LN] <;> omega) | (simp (disch := first | assumption | omega | (simp only [LN] <;> omega)) only [row_alloc, row_set]; assumption)) only [f10, W_block, P3, ↓reduceIte, reduceAdd, reduceEqDiff, reduceCtorEq, initFr, reduceLT, clsA, reduceLeDiff, reduceMul, reduceSub, reduceIte]
    exact hq2 _ _ ⟨_, rfl, by simp [sgn, tupV, h1', h2, h3, h4, h5, h6, show r < 127 by omega], rfl⟩
def rightB (l : List UInt8) : Bool := (runF l 0).all (fun x => sgn x.2) && decide (1 ≤ (runF l 0).length) && decide ((runF l 0).length ≤ 16)
theorem t13 (H : AHeap) (l : List UInt8) (hl : l.length ≤ 1000000000) : ∃ w H', ARun Go.Proofs.Tryd.prog 3 13 [.string ⟨l.toArray⟩] H w H' ∧ w = .bool (rightB l) ∧ H' = H := by
  suffices h : ∃ w H', ARun Go.Proofs.Tryd.prog 3 13 [.string ⟨l.toArray⟩] H w H' ∧ w = .bool (rightB l) ∧ Keeps H H' by
    obtain ⟨_, _, a, rfl, k⟩ := h
    exact ⟨_, _, a.gc0 k (.inr (.bool _)), rfl, rfl⟩
  refine walk2 f13_ok f13_n ?_
  intro Q hq1 hq2
  simp (disch := first | assumption | omega | (simp only [LN] <;> omega) | (simp (disch := first | assumption | omega | (simp only [LN] <;> omega)) only [row_alloc, row_set]; assumption)) only [ f13, P3, ↓reduceIte, reduceAdd, reduceEqDiff, reduceCtorEq, initFr, reduceLT, clsA, reduceLeDiff, reduceMul, reduceSub, reduceIte, a_rngS]
  rw [W_block]
  refine W_loop2 (fun k fr K => ∃ p n x1 x3 x5 x6 x7, fr = [.string ⟨l.toArray⟩, x1, .int .i64 ((n : Nat) : Int), x3, ptr H.n 0, x5, x6, x7] ∧ K.get H.n = some (.obj true (.stringIter ⟨l.toArray⟩ p)) ∧ Keeps H K ∧
      rightB l = ((runF l p).all (fun x => sgn x.2) && decide (1 ≤ n + (runF l p).length) && decide (n + (runF l p).length ≤ 16)) ∧ n ≤ p ∧ k = l.length - p) l.length
    ⟨0, 0, _, _, _, _, _, rfl, AHeap.get_alloc_new _ _, (Keeps.refl H).alloc _, by simp [rightB], Nat.le_refl _, rfl⟩ ?_
  rintro Q' k fr K ⟨p, n, x1, x3, x5, x6, x7, rfl, hg, hk, hr, hnp, rfl⟩ hn hx hret
  by_cases hp : p < l.length
  · have hstep := runF_step hp
    have hpos := decB_pos (l := l) (p := p)
    simp (disch := first | assumption | omega | (simp only [LN] <;> omega) | (simp (disch := first | assumption | omega | (simp only [LN] <;> omega)) only [row_alloc, row_set]; assumption)) only [W_block, P3, ↓reduceIte, reduceAdd, reduceEqDiff, reduceCtorEq, initFr, reduceLT, clsA, reduceLeDiff, reduceMul, reduceSub, reduceIte, a_nextY hg hp]
    refine callK (t10 _ _) ?_
    rintro _ K2 ⟨rfl, rfl⟩
    cases hs : sgn ((decB l p).1 : Int) with
    | false =>
      simp (disch := first | assumption | omega | (simp only [LN] <;> omega) | (simp (disch := first | assumption | omega | (simp only [LN] <;> omega)) only [row_alloc, row_set]; assumption)) only [W_block, P3, ↓reduceIte, reduceAdd, reduceEqDiff, reduceCtorEq, initFr, reduceLT, clsA, reduceLeDiff, reduceMul, reduceSub, reduceIte]
      refine hret _ _ (hq2 _ _ ⟨_, rfl, ?_, ?_⟩)
      · rw [hr, hstep]; simp [hs]; rfl
      · exact hk.set (Nat.le_refl _) (AHeap.get_lt hg) _
    | true =>
      have hw : IntKind.i64.wrap ((n : Int) + 1) = ((n + 1 : Nat) : Int) := by rw [wrap_i64 (by omega) (by omega)]; simp
      simp (disch := first | assumption | omega | (simp only [LN] <;> omega) | (simp (disch := first | assumption | omega | (simp only [LN] <;> omega)) only [row_alloc, row_set]; assumption)) only [W_block, P3, ↓reduceIte, reduceAdd, reduceEqDiff, reduceCtorEq, initFr, reduceLT, clsA, reduceLeDiff, reduceMul, reduceSub, reduceIte, hw]
      refine hn _ _ _ ⟨p + (decB l p).2, n + 1, _, _, _, _, _, rfl, AHeap.get_set_same hg _, hk.set (Nat.le_refl _) (AHeap.get_lt hg) _, ?_, by omega, rfl⟩ (by omega)
      rw [hr, hstep]
      simp only [List.all_cons, hs, Bool.true_and, List.length_cons, show n + ((runF l (p + (decB l p).2)).length + 1) = n + 1 + (runF l (p + (decB l p).2)).length by omega]
  · have hend := runF_end hp
    simp (disch := first | assumption | omega | (simp only [LN] <;> omega) | (simp (disch := first | assumption | omega | (simp only [LN] <;> omega)) only [row_alloc, row_set]; assumption)) only [W_block, P3, ↓reduceIte, reduceAdd, reduceEqDiff, reduceCtorEq, initFr, reduceLT, clsA, reduceLeDiff, reduceMul, reduceSub, reduceIte, a_nextN hg hp]
    refine hx 0 _ _ ?_
    rw [hend] at hr
    simp only [List.all_nil, Bool.true_and, List.length_nil, Nat.add_zero] at hr
    by_cases h1 : 1 ≤ n
    · have h1' : (1 : Int) ≤ (n : Int) := by omega
      simp (disch := first | assumption | omega | (simp only [LN] <;> omega) | (simp (disch := first | assumption | omega | (simp only [LN] <;> omega)) only [row_alloc, row_set]; assumption)) only [W_block, P3, ↓reduceIte, reduceAdd, reduceEqDiff, reduceCtorEq, initFr, reduceLT, clsA, reduceLeDiff, reduceMul, reduceSub, reduceIte]
      refine hq2 _ _ ⟨_, rfl, ?_, hk⟩
      rw [hr]
      simp only [tupV, List.getD_cons_succ, List.getD_cons_zero, h1, decide_true, Bool.true_and]
      congr 1
      rw [decide_eq_decide]; omega
    · have h1' : ¬ (1 : Int) ≤ (n : Int) := by omega
      simp (disch := first | assumption | omega | (simp only [LN] <;> omega) | (simp (disch := first | assumption | omega | (simp only [LN] <;> omega)) only [row_alloc, row_set]; assumption)) only [W_block, P3, ↓reduceIte, reduceAdd, reduceEqDiff, reduceCtorEq, initFr, reduceLT, clsA, reduceLeDiff, reduceMul, reduceSub, reduceIte]
      refine hq2 _ _ ⟨_, rfl, ?_, hk⟩
      rw [hr]
      simp only [tupV, List.getD_cons_succ, List.getD_cons_zero, h1, decide_false, Bool.false_and]
theorem t14 (H : AHeap) (l : List UInt8) (hl : l.length ≤ 1000000000) : ∃ w H', ARun Go.Proofs.Tryd.prog 3 14 [.string ⟨l.toArray⟩] H w H' ∧ w = .bool (rightB l) ∧ H' = H := by
  suffices h : ∃ w H', ARun Go.Proofs.Tryd.prog 3 14 [.string ⟨l.toArray⟩] H w H' ∧ w = .bool (rightB l) ∧ Keeps H H' by
    obtain ⟨_, _, a, rfl, k⟩ := h
    exact ⟨_, _, a.gc0 k (.inr (.bool _)), rfl, rfl⟩
  refine walk2 f14_ok f14_n ?_
  intro Q hq1 hq2
  simp (disch := first | assumption | omega | (simp only [LN] <;> omega) | (simp (disch := first | assumption | omega | (simp only [LN] <;> omega)) only [row_alloc, row_set]; assumption)) only [ f14, P3, ↓reduceIte, reduceAdd, reduceEqDiff, reduceCtorEq, initFr, reduceLT, clsA, reduceLeDiff, reduceMul, reduceSub, reduceIte, a_rngS]
  rw [W_block]
  refine W_loop2 (fun k fr K => ∃ p n x1 x3 x5 x6 x7, fr = [.string ⟨l.toArray⟩, x1, .int .i64 ((n : Nat) : Int), x3, ptr H.n 0, x5, x6, x7] ∧ K.get H.n = some (.obj true (.stringIter ⟨l.toArray⟩ p)) ∧ Keeps H K ∧
      rightB l = ((runF l p).all (fun x => sgn x.2) && decide (1 ≤ n + (runF l p).length) && decide (n + (runF l p).length ≤ 16)) ∧ n ≤ p ∧ k = l.length - p) l.length
    ⟨0, 0, _, _, _, _, _, rfl, AHeap.get_alloc_new _ _, (Keeps.refl H).alloc _, by simp [rightB], Nat.le_refl _, rfl⟩ ?_
  rintro Q' k fr K ⟨p, n, x1, x3, x5, x6, x7, rfl, hg, hk, hr, hnp, rfl⟩ hn hx hret
  by_cases hp : p < l.length
  · have hstep := runF_step hp
    have hpos := decB_pos (l := l) (p := p)
    simp (disch := first | assumption | omega | (simp only [LN] <;> omega) | (simp (disch := first | assumption | omega | (simp only [LN] <;> omega)) only [row_alloc, row_set]; assumption)) only [W_block, P3, ↓reduceIte, reduceAdd, reduceEqDiff, reduceCtorEq, initFr, reduceLT, clsA, reduceLeDiff, reduceMul, reduceSub, reduceIte, a_nextY hg hp]
    refine callK (t11 _ _) ?_
    rintro _ K2 ⟨rfl, rfl⟩
    cases hs : sgn ((decB l p).1 : Int) with
    | false =>
      simp (disch := first | assumption | omega | (simp only [LN] <;> omega) | (simp (disch := first | assumption | omega | (simp only [LN] <;> omega)) only [row_alloc, row_set]; assumption)) only [W_block, P3, ↓reduceIte, reduceAdd, reduceEqDiff, reduceCtorEq, initFr, reduceLT, clsA, reduceLeDiff, reduceMul, reduceSub, reduceIte]
      refine hret _ _ (hq2 _ _ ⟨_, rfl, ?_, ?_⟩)
      · rw [hr, hstep]; simp [hs]; rfl
      · exact hk.set (Nat.le_refl _) (AHeap.get_lt hg) _
    | true =>
      have hw : IntKind.i64.wrap ((n : Int) + 1) = ((n + 1 : Nat) : Int) := by rw [wrap_i64 (by omega) (by omega)]; simp
      simp (disch := first | assumption | omega | (simp only [LN] <;> omega) | (simp (disch := first | assumption | omega | (simp only [LN] <;> omega)) only [row_alloc, row_set]; assumption)) only [W_block, P3, ↓reduceIte, reduceAdd, reduceEqDiff, reduceCtorEq, initFr, reduceLT, clsA, reduceLeDiff, reduceMul, reduceSub, reduceIte, hw]
      refine hn _ _ _ ⟨p + (decB l p).2, n + 1, _, _, _, _, _, rfl, AHeap.get_set_same hg _, hk.set (Nat.le_refl _) (AHeap.get_lt hg) _, ?_, by omega, rfl⟩ (by omega)
      rw [hr, hstep]
      simp only [List.all_cons, hs, Bool.true_and, List.length_cons, show n + ((runF l (p + (decB l p).2)).length + 1) = n + 1 + (runF l (p + (decB l p).2)).length by omega]
  · have hend := runF_end hp
    simp (disch := first | assumption | omega | (simp only [LN] <;> omega) | (simp (disch := first | assumption | omega | (simp only [LN] <;> omega)) only [row_alloc, row_set]; assumption)) only [W_block, P3, ↓reduceIte, reduceAdd, reduceEqDiff, reduceCtorEq, initFr, reduceLT, clsA, reduceLeDiff, reduceMul, reduceSub, reduceIte, a_nextN hg hp]
    refine hx 0 _ _ ?_
    rw [hend] at hr
    simp only [List.all_nil, Bool.true_and, List.length_nil, Nat.add_zero] at hr
    by_cases h1 : 1 ≤ n
    · have h1' : (1 : Int) ≤ (n : Int) := by omega
      simp (disch := first | assumption | omega | (simp only [LN] <;> omega) | (simp (disch := first | assumption | omega | (simp only [LN] <;> omega)) only [row_alloc, row_set]; assumption)) only [W_block, P3, ↓reduceIte, reduceAdd, reduceEqDiff, reduceCtorEq, initFr, reduceLT, clsA, reduceLeDiff, reduceMul, reduceSub, reduceIte]
      refine hq2 _ _ ⟨_, rfl, ?_, hk⟩
      rw [hr]
      simp only [tupV, List.getD_cons_succ, List.getD_cons_zero, h1, decide_true, Bool.true_and]
      congr 1
      rw [decide_eq_decide]; omega
    · have h1' : ¬ (1 : Int) ≤ (n : Int) := by omega
      simp (disch := first | assumption | omega | (simp only [LN] <;> omega) | (simp (disch := first | assumption | omega | (simp only [LN] <;> omega)) only [row_alloc, row_set]; assumption)) only [W_block, P3, ↓reduceIte, reduceAdd, reduceEqDiff, reduceCtorEq, initFr, reduceLT, clsA, reduceLeDiff, reduceMul, reduceSub, reduceIte]
      refine hq2 _ _ ⟨_, rfl, ?_, hk⟩
      rw [hr]
      simp only [tupV, List.getD_cons_succ, List.getD_cons_zero, h1, decide_false, Bool.false_and]
end Go.AM.Fd

set_option linter.unusedSimpArgs false
set_option linter.unusedVariables false
namespace Go.AM.Fd
open Nat (reduceAdd reduceEqDiff reduceLT reduceLeDiff reduceMul reduceSub)
open Go.Proofs Go.AM.F
def tRow (t : List UInt8) : List Value := [.string ⟨t.toArray⟩]
def TL (H : AHeap) (v : Value) (ts : List (List UInt8)) : Prop := Sl H 1 v (ts.map tRow)
theorem TL.len {H : AHeap} {v : Value} {ts : List (List UInt8)} (h : TL H v ts) : lenS v = ts.length := by
  have := Sl.len h; simpa using this
theorem TL.at_ {H : AHeap} {v : Value} {ts : List (List UInt8)} (h : TL H v ts) {i : Nat} (hi : i < ts.length) : nnS v = true ∧ rowA H 1 v i = some (tRow (ts.getD i [])) := by
  have := Sl.at_ h (by omega) (i := i) (by simpa using hi)
  refine ⟨this.1, ?_⟩
  rw [this.2]
  simp [List.getD, List.getElem?_eq_getElem hi]
theorem TL.nil (H : AHeap) : TL H (.slice none 0 0) [] := Sl.nil H 1
theorem TL.keeps {H K : AHeap} {v : Value} {ts : List (List UInt8)} (h : TL H v ts) (k : Keeps H K) : TL K v ts := Sl.keeps h k
theorem take_succ_eq {a b : List (List UInt8)} {i : Nat} (h : a.take i = b.take i) (ha : i < a.length) (hb : i < b.length) (he : a.getD i [] = b.getD i []) : a.take (i + 1) = b.take (i + 1) := by
  rw [List.take_add_one, List.take_add_one, h]
  simp only [List.getD, List.getElem?_eq_getElem ha, List.getElem?_eq_getElem hb, Option.getD_some] at he
  rw [List.getElem?_eq_getElem ha, List.getElem?_eq_getElem hb, he]
theorem t17 {H : AHeap} {v u : Value} {a b : List (List UInt8)} (ha : TL H v a) (hb : TL H u b) (hl : a.length ≤ 1000000000) : ∃ w H', ARun Go.Proofs.Tryd.prog 3 17 [v, u] H w H' ∧ w = .bool (decide (a = b)) ∧ H' = H := by
  refine walk2 f17_ok f17_n ?_
  intro Q hq1 hq2
  have ia := Sl.is ha
  have ib := Sl.is hb
  have la := ha.len
  have lb := hb.len
  by_cases hlen : a.length = b.length
  · have e1 : (((a.length : Nat) : Int) != ((b.length : Nat) : Int)) = false := by simp [hlen]
    simp (disch := first | assumption | omega | (simp only [LN] <;> omega) | (simp (disch := first | assumption | omega | (simp only [LN] <;> omega)) only [row_alloc, row_set]; assumption)) only [ f17, P3, ↓reduceIte, reduceAdd, reduceEqDiff, reduceCtorEq, initFr, reduceLT, clsA, reduceLeDiff, reduceMul, reduceSub, reduceIte, la, lb, e1]
    rw [W_block]
    refine W_loop2 (fun k fr K => ∃ i x2 x5 x6, fr = [v, u, x2, .int .i64 ((i : Nat) : Int), .bool false, x5, x6] ∧ K = H ∧ i ≤ a.length ∧ a.take i = b.take i ∧ k = a.length - i) a.length
      ⟨0, _, _, _, rfl, rfl, by omega, by simp, rfl⟩ ?_
    rintro Q' k fr K ⟨i, x2, x5, x6, rfl, rfl, hi, hp, rfl⟩ hn hx hret
    by_cases hlt : i < a.length
    · obtain ⟨na, ra⟩ := ha.at_ hlt
      obtain ⟨nb, rb⟩ := hb.at_ (i := i) (by omega)
      have h0 : (0 : Int) ≤ (i : Int) := by omega
      have h1 : (i : Int) < ((lenS v : Nat) : Int) := by omega
      have h2 : (i : Int) < ((lenS u : Nat) : Int) := by omega
      have h3 : (i : Int) < ((a.length : Nat) : Int) := by omega
      have h4 : (i : Int) < ((b.length : Nat) : Int) := by omega
      unfold tRow at ra rb
      have hw : IntKind.i64.wrap ((i : Int) + 1) = ((i + 1 : Nat) : Int) := by rw [wrap_i64 (by omega) (by omega)]; simp
      by_cases he : a.getD i [] = b.getD i []
      · have e2 : decide (a.getD i [] = b.getD i []) = true := by simpa using he
        simp (disch := first | assumption | omega | (simp only [LN] <;> omega) | (simp (disch := first | assumption | omega | (simp only [LN] <;> omega)) only [row_alloc, row_set]; assumption)) only [W_block, P3, ↓reduceIte, reduceAdd, reduceEqDiff, reduceCtorEq, initFr, reduceLT, clsA, reduceLeDiff, reduceMul, reduceSub, reduceIte, la, lb, ra, rb, na, nb, a_load1v, bytes_eq, e2, hw]
        exact hn _ _ _ ⟨i + 1, _, _, _, rfl, rfl, by omega, take_succ_eq hp hlt (by omega) he, rfl⟩ (by omega)
      · have e2 : decide (a.getD i [] = b.getD i []) = false := by simpa using he
        simp (disch := first | assumption | omega | (simp only [LN] <;> omega) | (simp (disch := first | assumption | omega | (simp only [LN] <;> omega)) only [row_alloc, row_set]; assumption)) only [W_block, P3, ↓reduceIte, reduceAdd, reduceEqDiff, reduceCtorEq, initFr, reduceLT, clsA, reduceLeDiff, reduceMul, reduceSub, reduceIte, la, lb, ra, rb, na, nb, a_load1v, bytes_eq, e2, hw]
        refine hret _ _ (hq2 _ _ ⟨_, rfl, ?_, rfl⟩)
        have : ¬ a = b := fun hab => he (by rw [hab])
        simp only [tupV, List.getD_cons_succ, List.getD_cons_zero, this, decide_false]
    · have h3 : ¬ (i : Int) < ((a.length : Nat) : Int) := by omega
      simp (disch := first | assumption | omega | (simp only [LN] <;> omega) | (simp (disch := first | assumption | omega | (simp only [LN] <;> omega)) only [row_alloc, row_set]; assumption)) only [W_block, P3, ↓reduceIte, reduceAdd, reduceEqDiff, reduceCtorEq, initFr, reduceLT, clsA, reduceLeDiff, reduceMul, reduceSub, reduceIte, la, lb]
      refine hx 0 _ _ ?_
      simp (disch := first | assumption | omega | (simp only [LN] <;> omega) | (simp (disch := first | assumption | omega | (simp only [LN] <;> omega)) only [row_alloc, row_set]; assumption)) only [W_block, P3, ↓reduceIte, reduceAdd, reduceEqDiff, reduceCtorEq, initFr, reduceLT, clsA, reduceLeDiff, reduceMul, reduceSub, reduceIte]
      refine hq2 _ _ ⟨_, rfl, ?_, rfl⟩
      have : a = b := by
        rw [List.take_of_length_le (by omega), List.take_of_length_le (by omega)] at hp
        exact hp
      simp only [tupV, List.getD_cons_succ, List.getD_cons_zero, this, decide_true]
  · have e1 : (((a.length : Nat) : Int) != ((b.length : Nat) : Int)) = true := by simp; omega
    simp (disch := first | assumption | omega | (simp only [LN] <;> omega) | (simp (disch := first | assumption | omega | (simp only [LN] <;> omega)) only [row_alloc, row_set]; assumption)) only [f17, W_block, P3, ↓reduceIte, reduceAdd, reduceEqDiff, reduceCtorEq, initFr, reduceLT, clsA, reduceLeDiff, reduceMul, reduceSub, reduceIte, la, lb, e1]
    refine hq2 _ _ ⟨_, rfl, ?_, rfl⟩
    have : ¬ a = b := fun hab => hlen (by rw [hab])
    simp only [tupV, List.getD_cons_succ, List.getD_cons_zero, this, decide_false]
def aheadB (l : List UInt8) : List UInt8 := match ixB 35 l with
  | some i => l.take i
  | none => l
theorem ixB_at {c : UInt8} : ∀ {l : List UInt8} {i : Nat}, i < l.length → l.getD i 0 = c → (∀ j, j < i → l.getD j 0 ≠ c) → ixB c l = some i
  | x :: l, 0, _, h, _ => by
    have : x = c := by simpa using h
    simp [ixB, this]
  | x :: l, i + 1, hl, h, hn => by
    have hx : ¬ x = c := by simpa using hn 0 (by omega)
    simp only [ixB, if_neg hx]
    rw [ixB_at (l := l) (i := i) (by simpa using hl) (by simpa using h) (fun j hj => by simpa using hn (j + 1) (by omega))]
    rfl
theorem ixB_no {c : UInt8} : ∀ {l : List UInt8}, (∀ j, j < l.length → l.getD j 0 ≠ c) → ixB c l = none
  | [], _ => rfl
  | x :: l, hn => by
    have hx : ¬ x = c := by simpa using hn 0 (by simp)
    simp only [ixB, if_neg hx]
    rw [ixB_no (l := l) (fun j hj => by simpa using hn (j + 1) (by simpa using hj))]
    rfl
theorem u8_eqi (b : UInt8) (n : Nat) (h : n < 256) : (((b.toNat : Nat) : Int) == (n : Int)) = (b == UInt8.ofNat n) := by
  have h2 : (UInt8.ofNat n).toNat = n := by simp; omega
  rw [Bool.eq_iff_iff, beq_iff_eq, beq_iff_eq, ← UInt8.toNat_inj, h2]
  omega
theorem t25 (H : AHeap) (l : List UInt8) (hl : l.length ≤ 1000000000) : ∃ w H', ARun Go.Proofs.Tryd.prog 3 25 [.string ⟨l.toArray⟩] H w H' ∧ w = .string ⟨(aheadB l).toArray⟩ ∧ H' = H := by
  refine walk2 f25_ok f25_n ?_
  intro Q hq1 hq2
  simp (disch := first | assumption | omega | (simp only [LN] <;> omega) | (simp (disch := first | assumption | omega | (simp only [LN] <;> omega)) only [row_alloc, row_set]; assumption)) only [ f25, P3, ↓reduceIte, reduceAdd, reduceEqDiff, reduceCtorEq, initFr, reduceLT, clsA, reduceLeDiff, reduceMul, reduceSub, reduceIte]
  rw [W_block]
  refine W_loop2 (fun k fr K => ∃ i x1 x3 x4, fr = [.string ⟨l.toArray⟩, x1, .int .i64 ((i : Nat) : Int), x3, x4] ∧ K = H ∧ i ≤ l.length ∧ (∀ j, j < i → l.getD j 0 ≠ 35) ∧ k = l.length - i) l.length
    ⟨0, _, _, _, rfl, rfl, by omega, fun j hj => absurd hj (by omega), rfl⟩ ?_
  rintro Q' k fr K ⟨i, x1, x3, x4, rfl, rfl, hi, hp, rfl⟩ hn hx hret
  by_cases hlt : i < l.length
  · have h3 : (i : Int) < ((l.length : Nat) : Int) := by omega
    have hw : IntKind.i64.wrap ((i : Int) + 1) = ((i + 1 : Nat) : Int) := by rw [wrap_i64 (by omega) (by omega)]; simp
    have e0 := u8_eqi (l.getD i 0) 35 (by omega)
    by_cases he : l.getD i 0 = 35
    · have e2 : ((((l.getD i 0).toNat : Nat) : Int) == 35) = true := by rw [show (35 : Int) = ((35 : Nat) : Int) from rfl, e0, he]; rfl
      simp (disch := first | assumption | omega | (simp only [LN] <;> omega) | (simp (disch := first | assumption | omega | (simp only [LN] <;> omega)) only [row_alloc, row_set]; assumption)) only [W_block, P3, ↓reduceIte, reduceAdd, reduceEqDiff, reduceCtorEq, initFr, reduceLT, clsA, reduceLeDiff, reduceMul, reduceSub, reduceIte, a_idxS, e2, a_slsP]
      refine hret _ _ (hq2 _ _ ⟨_, rfl, ?_, rfl⟩)
      simp only [tupV, List.getD_cons_succ, List.getD_cons_zero, aheadB, ixB_at hlt he hp]
    · have e2 : ((((l.getD i 0).toNat : Nat) : Int) == 35) = false := by rw [show (35 : Int) = ((35 : Nat) : Int) from rfl, e0]; simpa using he
      simp (disch := first | assumption | omega | (simp only [LN] <;> omega) | (simp (disch := first | assumption | omega | (simp only [LN] <;> omega)) only [row_alloc, row_set]; assumption)) only [W_block, P3, ↓reduceIte, reduceAdd, reduceEqDiff, reduceCtorEq, initFr, reduceLT, clsA, reduceLeDiff, reduceMul, reduceSub, reduceIte, a_idxS, e2, hw]
      refine hn _ _ _ ⟨i + 1, _, _, _, rfl, rfl, by omega, fun j hj => ?_, rfl⟩ (by omega)
      rcases Nat.lt_or_ge j i with h | h
      · exact hp j h
      · rw [show j = i by omega]; exact he
  · have h3 : ¬ (i : Int) < ((l.length : Nat) : Int) := by omega
    simp (disch := first | assumption | omega | (simp only [LN] <;> omega) | (simp (disch := first | assumption | omega | (simp only [LN] <;> omega)) only [row_alloc, row_set]; assumption)) only [W_block, P3, ↓reduceIte, reduceAdd, reduceEqDiff, reduceCtorEq, initFr, reduceLT, clsA, reduceLeDiff, reduceMul, reduceSub, reduceIte]
    refine hx 0 _ _ ?_
    simp (disch := first | assumption | omega | (simp only [LN] <;> omega) | (simp (disch := first | assumption | omega | (simp only [LN] <;> omega)) only [row_alloc, row_set]; assumption)) only [W_block, P3, ↓reduceIte, reduceAdd, reduceEqDiff, reduceCtorEq, initFr, reduceLT, clsA, reduceLeDiff, reduceMul, reduceSub, reduceIte]
    refine hq2 _ _ ⟨_, rfl, ?_, rfl⟩
    simp only [tupV, List.getD_cons_succ, List.getD_cons_zero, aheadB, ixB_no (fun j hj => hp j (by omega))]
def wholeB (l : List UInt8) (i : Nat) : Bool := [239, 191, 189].isPrefixOf (l.drop i)
theorem whole_no {l : List UInt8} {i : Nat} (h : ¬ i + 3 ≤ l.length) : wholeB l i = false := by
  unfold wholeB
  rw [Bool.eq_false_iff]
  intro e
  have := (List.isPrefixOf_iff_prefix.1 e).length_le
  simp at this; omega
theorem drop_at {l : List UInt8} {i : Nat} (h : i < l.length) : l.drop i = l.getD i 0 :: l.drop (i + 1) := by
  rw [List.drop_eq_getElem_cons h]
  simp [List.getD, List.getElem?_eq_getElem h]
theorem whole_yes {l : List UInt8} {i : Nat} (h : i + 3 ≤ l.length) : wholeB l i = (l.getD i 0 == 239 && l.getD (i + 1) 0 == 191 && l.getD (i + 2) 0 == 189) := by
  unfold wholeB
  rw [drop_at (by omega), drop_at (by omega : i + 1 < l.length), drop_at (by omega : i + 1 + 1 < l.length)]
  simp only [List.isPrefixOf_cons_cons, List.isPrefixOf_nil_left, Bool.and_true]
  rw [Bool.eq_iff_iff]
  simp only [Bool.and_eq_true, beq_iff_eq]
  constructor
  · rintro ⟨a, b, c⟩; exact ⟨⟨a.symm, b.symm⟩, c.symm⟩
  · rintro ⟨⟨a, b⟩, c⟩; exact ⟨a.symm, b.symm, c.symm⟩
theorem t26 (H : AHeap) (l : List UInt8) (i : Nat) (hl : l.length ≤ 1000000000) (hi : i ≤ l.length) : ∃ w H', ARun Go.Proofs.Tryd.prog 3 26 [.string ⟨l.toArray⟩, .int .i64 (i : Int)] H w H' ∧ w = .bool (wholeB l i) ∧ H' = H := by
  refine walk2 f26_ok f26_n ?_
  intro Q hq1 hq2
  have hw1 : IntKind.i64.wrap ((i : Int) + 1) = ((i + 1 : Nat) : Int) := by rw [wrap_i64 (by omega) (by omega)]; simp
  have hw2 : IntKind.i64.wrap ((i : Int) + 2) = ((i + 2 : Nat) : Int) := by rw [wrap_i64 (by omega) (by omega)]; simp
  have hw3 : IntKind.i64.wrap ((i : Int) + 3) = ((i + 3 : Nat) : Int) := by rw [wrap_i64 (by omega) (by omega)]; simp
  by_cases h : i + 3 ≤ l.length
  · have h3 : ((i + 3 : Nat) : Int) ≤ ((l.length : Nat) : Int) := by omega
    have i0 : i < l.length := by omega
    have i1 : i + 1 < l.length := by omega
    have i2 : i + 2 < l.length := by omega
    have e0 : ((((l.getD i 0).toNat : Nat) : Int) == 239) = (l.getD i 0 == 239) := u8_eqi (l.getD i 0) 239 (by omega)
    have e1 : ((((l.getD (i + 1) 0).toNat : Nat) : Int) == 191) = (l.getD (i + 1) 0 == 191) := u8_eqi (l.getD (i + 1) 0) 191 (by omega)
    have e2 : ((((l.getD (i + 2) 0).toNat : Nat) : Int) == 189) = (l.getD (i + 2) 0 == 189) := u8_eqi (l.getD (i + 2) 0) 189 (by omega)
    have hq : ∀ fr H2 b, b = wholeB l i → resO f26.res fr H2 = some (.bool b) → H2 = H → Q .ret fr H2 := fun fr H2 b h1 h2 h3 => hq2 _ _ ⟨_, h2, by rw [h1], h3⟩
    rw [whole_yes h] at hq
    clear hq1 hq2
    cases c0 : (l.getD i 0 == 239) with
    | false =>
      rw [c0] at e0 hq
      simp (disch := first | assumption | omega | (simp only [LN] <;> omega) | (simp (disch := first | assumption | omega | (simp only [LN] <;> omega)) only [row_alloc, row_set]; assumption)) only [f26, W_block, P3, ↓reduceIte, reduceAdd, reduceEqDiff, reduceCtorEq, initFr, reduceLT, clsA, reduceLeDiff, reduceMul, reduceSub, reduceIte, hw1, hw2, hw3, a_idxS, e0]
      exact hq _ _ false (by simp) rfl rfl
    | true =>
      rw [c0] at e0 hq
      cases c1 : (l.getD (i + 1) 0 == 191) with
      | false =>
        rw [c1] at e1 hq
        simp (disch := first | assumption | omega | (simp only [LN] <;> omega) | (simp (disch := first | assumption | omega | (simp only [LN] <;> omega)) only [row_alloc, row_set]; assumption)) only [f26, W_block, P3, ↓reduceIte, reduceAdd, reduceEqDiff, reduceCtorEq, initFr, reduceLT, clsA, reduceLeDiff, reduceMul, reduceSub, reduceIte, hw1, hw2, hw3, a_idxS, e0, e1]
        exact hq _ _ false (by simp) rfl rfl
      | true =>
        rw [c1] at e1 hq
        cases c2 : (l.getD (i + 2) 0 == 189) with
        | false =>
          rw [c2] at e2 hq
          simp (disch := first | assumption | omega | (simp only [LN] <;> omega) | (simp (disch := first | assumption | omega | (simp only [LN] <;> omega)) only [row_alloc, row_set]; assumption)) only [f26, W_block, P3, ↓reduceIte, reduceAdd, reduceEqDiff, reduceCtorEq, initFr, reduceLT, clsA, reduceLeDiff, reduceMul, reduceSub, reduceIte, hw1, hw2, hw3, a_idxS, e0, e1, e2]
          exact hq _ _ false (by simp) rfl rfl
        | true =>
          rw [c2] at e2 hq
          simp (disch := first | assumption | omega | (simp only [LN] <;> omega) | (simp (disch := first | assumption | omega | (simp only [LN] <;> omega)) only [row_alloc, row_set]; assumption)) only [f26, W_block, P3, ↓reduceIte, reduceAdd, reduceEqDiff, reduceCtorEq, initFr, reduceLT, clsA, reduceLeDiff, reduceMul, reduceSub, reduceIte, hw1, hw2, hw3, a_idxS, e0, e1, e2]
          exact hq _ _ true (by simp) rfl rfl
  · have h3 : ¬ ((i + 3 : Nat) : Int) ≤ ((l.length : Nat) : Int) := by omega
    simp (disch := first | assumption | omega | (simp only [LN] <;> omega) | (simp (disch := first | assumption | omega | (simp only [LN] <;> omega)) only [row_alloc, row_set]; assumption)) only [f26, W_block, P3, ↓reduceIte, reduceAdd, reduceEqDiff, reduceCtorEq, initFr, reduceLT, clsA, reduceLeDiff, reduceMul, reduceSub, reduceIte, hw1, hw2, hw3]
    exact hq2 _ _ ⟨_, rfl, by rw [whole_no h]; rfl, rfl⟩
end Go.AM.Fd

set_option linter.unusedSimpArgs false
set_option linter.unusedVariables false
namespace Go.AM.Fd
open Nat (reduceAdd reduceEqDiff reduceLT reduceLeDiff reduceMul reduceSub)
open Go.Proofs Go.AM.F
def okC (l : List UInt8) (x : Nat × Int) : Bool := !decide (x.2 < 32) && !(x.2 == 65533 && !wholeB l x.1)
def okW (l : List UInt8) : Bool := (runF l 0).all (okC l)
def wordsB (l : List UInt8) : List (List UInt8) := (splitB 32 l).filter fun t => !t.isEmpty
def txs (ts : List (List UInt8)) : List Value := ts.map fun t => .string ⟨t.toArray⟩
theorem txs_len (ts : List (List UInt8)) : (txs ts).length = ts.length := by simp [txs]
theorem txs_app (a : List (List UInt8)) (t : List UInt8) : txs a ++ [.string ⟨t.toArray⟩] = txs (a ++ [t]) := by simp [txs]
theorem AP.tl {H : AHeap} {v : Value} {ts : List (List UInt8)} (h : AP H 9 1 v ts.length (txs ts)) : TL H v ts := by
  refine AP.sl (rows := ts.map tRow) (e := 9) (n := ts.length) ?_ (by simp [tRow]) (by simp)
  have : (ts.map tRow).flatten = txs ts := by
    clear h
    unfold txs
    induction ts with
    | nil => rfl
    | cons t ts ih => simp only [List.map_cons, List.flatten_cons, ih]; rfl
  rw [this]
  simpa using h
theorem splitB_len (c : UInt8) : ∀ l : List UInt8, (splitB c l).length ≤ l.length + 1
  | [] => by simp [splitB]
  | x :: l => by
    have ih := splitB_len c l
    simp only [splitB]
    split
    · simp; omega
    · split
      · rename_i p r h; rw [h] at ih; simp at ih ⊢; omega
      · simp
theorem wordsB_len (l : List UInt8) : (wordsB l).length ≤ l.length + 1 := Nat.le_trans (List.length_filter_le ..) (splitB_len ..)
theorem ixB_drop {c : UInt8} {l : List UInt8} {f i : Nat} (hf : f ≤ i) (hi : i < l.length) (hc : l.getD i 0 = c) (hn : ∀ j, f ≤ j → j < i → l.getD j 0 ≠ c) : ixB c (l.drop f) = some (i - f) := by
  refine ixB_at (by rw [List.length_drop]; omega) ?_ (fun j hj => ?_)
  · simp only [List.getD, List.getElem?_drop] at hc ⊢
    rw [show f + (i - f) = i by omega]; exact hc
  · have := hn (f + j) (by omega) (by omega)
    simp only [List.getD, List.getElem?_drop] at this ⊢
    exact this
theorem ixB_drop_no {c : UInt8} {l : List UInt8} {f : Nat} (hn : ∀ j, f ≤ j → j < l.length → l.getD j 0 ≠ c) : ixB c (l.drop f) = none := by
  refine ixB_no (fun j hj => ?_)
  rw [List.length_drop] at hj
  have := hn (f + j) (by omega) (by omega)
  simp only [List.getD, List.getElem?_drop] at this ⊢
  exact this
def WRes (H : AHeap) (w : Value) (K : AHeap) (l : List UInt8) : Prop :=
  Keeps H K ∧ if okW (aheadB l) then ∃ v, w = .tuple #[v, .int .i64 0] ∧ AP K 9 1 v (wordsB (aheadB l)).length (txs (wordsB (aheadB l))) ∧ Fresh H.n v else w = .tuple #[.slice none 0 0, .int .i64 30]
theorem ahead_len (l : List UInt8) : (aheadB l).length ≤ l.length := by
  unfold aheadB
  split <;> simp; omega
theorem t16 (H : AHeap) (l : List UInt8) (hl : l.length ≤ 1000000) : ∃ w K, ARun Go.Proofs.Tryd.prog 3 16 [.string ⟨l.toArray⟩] H w K ∧ WRes H w K l := by
  refine walk2 f16_ok f16_n ?_
  intro Q hq1 hq2
  have hal := ahead_len l
  simp (disch := first | assumption | omega | (simp only [LN] <;> omega) | (simp (disch := first | assumption | omega | (simp only [LN] <;> omega)) only [row_alloc, row_set]; assumption)) only [ f16, P3, ↓reduceIte, reduceAdd, reduceEqDiff, reduceCtorEq, initFr, reduceLT, clsA, reduceLeDiff, reduceMul, reduceSub, reduceIte]
  refine callK (t25 H l (by omega)) ?_
  rintro _ K ⟨rfl, rfl⟩
  obtain ⟨s, hs⟩ : ∃ s, aheadB l = s := ⟨_, rfl⟩
  unfold WRes at hq1 hq2
  rw [hs] at hal hq1 hq2 ⊢
  simp (disch := first | assumption | omega | (simp only [LN] <;> omega) | (simp (disch := first | assumption | omega | (simp only [LN] <;> omega)) only [row_alloc, row_set]; assumption)) only [ P3, ↓reduceIte, reduceAdd, reduceEqDiff, reduceCtorEq, initFr, reduceLT, clsA, reduceLeDiff, reduceMul, reduceSub, reduceIte, a_rngS]
  rw [W_block]
  refine W_loop2 (fun k fr L => ∃ p x3 x4 x9 x10 x11, fr = [.string ⟨s.toArray⟩, .slice none 0 0, .int .i64 0, x3, x4, undef, undef, undef, ptr K.n 0, x9, x10, x11, undef, undef, undef] ∧ L.get K.n = some (.obj true (.stringIter ⟨s.toArray⟩ p)) ∧ Keeps K L ∧
      okW s = (runF s p).all (okC s) ∧ k = s.length - p) s.length
    ⟨0, _, _, _, _, _, rfl, AHeap.get_alloc_new _ _, (Keeps.refl K).alloc _, rfl, rfl⟩ ?_
  rintro Q' k fr L ⟨p, x3, x4, x9, x10, x11, rfl, hg, hk, hr, rfl⟩ hn hx hret
  by_cases hp : p < s.length
  · have hstep := runF_step hp
    have hpos := decB_pos (l := s) (p := p)
    have hset := hk.set (Nat.le_refl _) (AHeap.get_lt hg) (.obj true (.stringIter ⟨s.toArray⟩ (p + (decB s p).2)))
    have hnext : okC s (p, ((decB s p).1 : Int)) = true → okW s = (runF s (p + (decB s p).2)).all (okC s) := fun h => by rw [hr, hstep]; simp [h]
    have hbad : okC s (p, ((decB s p).1 : Int)) = false → okW s = false := fun h => by rw [hr, hstep]; simp [h]
    have hgs := AHeap.get_set_same hg (.obj true (.stringIter ⟨s.toArray⟩ (p + (decB s p).2)))
    obtain ⟨d, hd⟩ : ∃ d, (decB s p).1 = d := ⟨_, rfl⟩
    rw [hd] at hnext hbad
    have hnx := a_nextY hg hp
    rw [hd] at hnx
    by_cases c1 : (d : Int) < 32
    · simp (disch := first | assumption | omega | (simp only [LN] <;> omega) | (simp (disch := first | assumption | omega | (simp only [LN] <;> omega)) only [row_alloc, row_set]; assumption)) only [W_block, P3, ↓reduceIte, reduceAdd, reduceEqDiff, reduceCtorEq, initFr, reduceLT, clsA, reduceLeDiff, reduceMul, reduceSub, reduceIte, hnx]
      refine hret _ _ (hq2 _ _ ⟨_, rfl, hset, ?_⟩)
      rw [hbad (by simp [okC, c1])]
      rfl
    · by_cases c2 : (d : Int) = 65533
      · have e2 : ((d : Int) == 65533) = true := by simpa using c2
        simp (disch := first | assumption | omega | (simp only [LN] <;> omega) | (simp (disch := first | assumption | omega | (simp only [LN] <;> omega)) only [row_alloc, row_set]; assumption)) only [W_block, P3, ↓reduceIte, reduceAdd, reduceEqDiff, reduceCtorEq, initFr, reduceLT, clsA, reduceLeDiff, reduceMul, reduceSub, reduceIte, hnx, e2]
        refine callK (t26 _ s p (by omega) (by omega)) ?_
        rintro _ K2 ⟨rfl, rfl⟩
        cases c3 : wholeB s p with
        | true =>
          simp (disch := first | assumption | omega | (simp only [LN] <;> omega) | (simp (disch := first | assumption | omega | (simp only [LN] <;> omega)) only [row_alloc, row_set]; assumption)) only [W_block, P3, ↓reduceIte, reduceAdd, reduceEqDiff, reduceCtorEq, initFr, reduceLT, clsA, reduceLeDiff, reduceMul, reduceSub, reduceIte]
          exact hn _ _ _ ⟨p + (decB s p).2, _, _, _, _, _, rfl, hgs, hset, hnext (by simp [okC, c1, c2, c3]), rfl⟩ (by omega)
        | false =>
          simp (disch := first | assumption | omega | (simp only [LN] <;> omega) | (simp (disch := first | assumption | omega | (simp only [LN] <;> omega)) only [row_alloc, row_set]; assumption)) only [W_block, P3, ↓reduceIte, reduceAdd, reduceEqDiff, reduceCtorEq, initFr, reduceLT, clsA, reduceLeDiff, reduceMul, reduceSub, reduceIte]
          refine hret _ _ (hq2 _ _ ⟨_, rfl, hset, ?_⟩)
          rw [hbad (by simp [okC, c1, c2, c3])]
          rfl
      · have e2 : ((d : Int) == 65533) = false := by simpa using c2
        simp (disch := first | assumption | omega | (simp only [LN] <;> omega) | (simp (disch := first | assumption | omega | (simp only [LN] <;> omega)) only [row_alloc, row_set]; assumption)) only [W_block, P3, ↓reduceIte, reduceAdd, reduceEqDiff, reduceCtorEq, initFr, reduceLT, clsA, reduceLeDiff, reduceMul, reduceSub, reduceIte, hnx, e2]
        exact hn _ _ _ ⟨p + (decB s p).2, _, _, _, _, _, rfl, hgs, hset, hnext (by simp [okC, c1, c2]), rfl⟩ (by omega)
  · have hend := runF_end hp
    rw [hend] at hr
    simp only [List.all_nil] at hr
    rw [hr] at hq1 hq2
    simp only [if_true] at hq1 hq2
    simp (disch := first | assumption | omega | (simp only [LN] <;> omega) | (simp (disch := first | assumption | omega | (simp only [LN] <;> omega)) only [row_alloc, row_set]; assumption)) only [W_block, P3, ↓reduceIte, reduceAdd, reduceEqDiff, reduceCtorEq, initFr, reduceLT, clsA, reduceLeDiff, reduceMul, reduceSub, reduceIte, a_nextN hg hp]
    refine hx 0 _ _ ?_
    simp (disch := first | assumption | omega | (simp only [LN] <;> omega) | (simp (disch := first | assumption | omega | (simp only [LN] <;> omega)) only [row_alloc, row_set]; assumption)) only [ P3, ↓reduceIte, reduceAdd, reduceEqDiff, reduceCtorEq, initFr, reduceLT, clsA, reduceLeDiff, reduceMul, reduceSub, reduceIte]
    rw [W_block]
    refine W_loop2 (fun k fr M => ∃ i f ts v x12 x13 x14, fr = [.string ⟨s.toArray⟩, .slice none 0 0, .int .i64 0, x3, x4, v, .int .i64 ((f : Nat) : Int), .int .i64 ((i : Nat) : Int), ptr K.n 0, .tuple #[.bool false], .bool false, x11, x12, x13, x14] ∧
        Keeps K M ∧ AP M 9 1 v ts.length (txs ts) ∧ Fresh K.n v ∧ f ≤ i ∧ i ≤ s.length + 1 ∧ k = s.length + 1 - i ∧ ts.length ≤ i ∧
        ((i ≤ s.length ∧ (∀ j, f ≤ j → j < i → s.getD j 0 ≠ 32) ∧ wordsB s = ts ++ wordsB (s.drop f)) ∨ (i = s.length + 1 ∧ wordsB s = ts))) (s.length + 1)
      ⟨0, 0, [], _, _, _, _, rfl, hk, .inl ⟨rfl, rfl, rfl⟩, (fun b hb => by cases hb), Nat.le_refl _, by omega, rfl, by simp, .inl ⟨by omega, fun j h1 h2 => absurd h2 (by omega), by simp⟩⟩ ?_
    rintro Q2 k fr M ⟨i, f, ts, v, x12, x13, x14, rfl, km, ha, hfr, hfi, hi, rfl, htl, hcase⟩ hn2 hx2 hret2
    have hw : IntKind.i64.wrap ((i : Int) + 1) = ((i + 1 : Nat) : Int) := by rw [wrap_i64 (by omega) (by omega)]; simp
    rcases hcase with ⟨hi1, hns, hws⟩ | ⟨rfl, hws⟩
    · have hle : (i : Int) ≤ ((s.length : Nat) : Int) := by omega
      have hfs : f ≤ s.length := by omega
      by_cases hlt : i < s.length
      · have h3 : (i : Int) < ((s.length : Nat) : Int) := by omega
        have e0 : ((((s.getD i 0).toNat : Nat) : Int) != 32) = !(s.getD i 0 == 32) := by
          have h32 : ((((s.getD i 0).toNat : Nat) : Int) == 32) = (s.getD i 0 == 32) := u8_eqi (s.getD i 0) 32 (by omega)
          simp only [bne]
          rw [h32]
        by_cases he : s.getD i 0 = 32
        · have e1 : (s.getD i 0 == 32) = true := by simpa using he
          rw [e1] at e0
          simp only [Bool.not_true] at e0
          have hix := ixB_drop hfi hlt he hns
          have hsp : splitB 32 (s.drop f) = (s.take i).drop f :: splitB 32 (s.drop (i + 1)) := by
            rw [splitB_ix, hix]
            simp only
            rw [List.drop_drop, show f + (i - f + 1) = i + 1 by omega, List.drop_take]
          by_cases hlf : f < i
          · have hlf' : (f : Int) < (i : Int) := by omega
            have hne : ((s.take i).drop f).isEmpty = false := by
              rw [List.isEmpty_eq_false_iff, ← List.length_pos_iff, List.length_drop, List.length_take]; omega
            have hfl : fillA [.string ByteArray.empty] [(0, 1, .string ⟨((s.take i).drop f).toArray⟩)] = some [.string ⟨((s.take i).drop f).toArray⟩] := rfl
            have k4 := (Keeps.refl M).alloc (.cells true false 1 [.string ⟨((s.take i).drop f).toArray⟩] 9)
            simp (disch := first | assumption | omega | (simp only [LN] <;> omega) | (simp (disch := first | assumption | omega | (simp only [LN] <;> omega)) only [row_alloc, row_set]; assumption)) only [W_block, P3, ↓reduceIte, reduceAdd, reduceEqDiff, reduceCtorEq, initFr, reduceLT, clsA, reduceLeDiff, reduceMul, reduceSub, reduceIte, a_idxS, e0, a_slsM, hfl]
            refine appG (ha.keeps k4) ⟨_, _, rfl⟩ (elems_new rfl rfl) rfl (by omega) ?_
            intro v' M2 a2 c2 b2
            simp (disch := first | assumption | omega | (simp only [LN] <;> omega) | (simp (disch := first | assumption | omega | (simp only [LN] <;> omega)) only [row_alloc, row_set]; assumption)) only [W_block, P3, ↓reduceIte, reduceAdd, reduceEqDiff, reduceCtorEq, initFr, reduceLT, clsA, reduceLeDiff, reduceMul, reduceSub, reduceIte, hw]
            have hk2 : Keeps K M2 := (km.trans k4).chg_trans c2 (hfr.L)
            refine hn2 _ _ _ ⟨i + 1, i + 1, ts ++ [(s.take i).drop f], v', _, _, _, rfl, hk2, ?_, hfr.app (by have := km.n; simp [AHeap.alloc]; omega) b2, Nat.le_refl _, by omega, rfl, by simp; omega, .inl ⟨by omega, fun j h1 h2 => absurd h2 (by omega), ?_⟩⟩ (by omega)
            · simpa [txs_app] using a2
            · rw [hws]
              unfold wordsB
              rw [hsp, List.filter_cons, hne]
              simp
          · have hfe : f = i := by omega
            subst hfe
            have hlf' : ¬ (f : Int) < (f : Int) := by omega
            simp (disch := first | assumption | omega | (simp only [LN] <;> omega) | (simp (disch := first | assumption | omega | (simp only [LN] <;> omega)) only [row_alloc, row_set]; assumption)) only [W_block, P3, ↓reduceIte, reduceAdd, reduceEqDiff, reduceCtorEq, initFr, reduceLT, clsA, reduceLeDiff, reduceMul, reduceSub, reduceIte, a_idxS, e0, hw]
            refine hn2 _ _ _ ⟨f + 1, f + 1, ts, v, _, _, _, rfl, km, ha, hfr, Nat.le_refl _, by omega, rfl, by omega, .inl ⟨by omega, fun j h1 h2 => absurd h2 (by omega), ?_⟩⟩ (by omega)
            rw [hws]
            unfold wordsB
            rw [hsp, List.filter_cons]
            simp
        · have e1 : (s.getD i 0 == 32) = false := by simpa using he
          rw [e1] at e0
          simp only [Bool.not_false] at e0
          simp (disch := first | assumption | omega | (simp only [LN] <;> omega) | (simp (disch := first | assumption | omega | (simp only [LN] <;> omega)) only [row_alloc, row_set]; assumption)) only [W_block, P3, ↓reduceIte, reduceAdd, reduceEqDiff, reduceCtorEq, initFr, reduceLT, clsA, reduceLeDiff, reduceMul, reduceSub, reduceIte, a_idxS, e0, hw]
          refine hn2 _ _ _ ⟨i + 1, f, ts, v, _, _, _, rfl, km, ha, hfr, by omega, by omega, rfl, by omega, .inl ⟨by omega, fun j h1 h2 => ?_, hws⟩⟩ (by omega)
          rcases Nat.lt_or_ge j i with h | h
          · exact hns j h1 h
          · rw [show j = i by omega]; exact he
      · have hie : i = s.length := by omega
        have h3 : ¬ (i : Int) < ((s.length : Nat) : Int) := by omega
        have hsp : splitB 32 (s.drop f) = [s.drop f] := by
          rw [splitB_ix, ixB_drop_no (fun j h1 h2 => hns j h1 (by omega))]
        by_cases hlf : f < i
        · have hlf' : (f : Int) < (i : Int) := by omega
          have hse : (s.take i).drop f = s.drop f := by rw [List.take_of_length_le (by omega)]
          have hne : (s.drop f).isEmpty = false := by
            rw [List.isEmpty_eq_false_iff, ← List.length_pos_iff, List.length_drop]; omega
          have hfl : fillA [.string ByteArray.empty] [(0, 1, .string ⟨((s.take i).drop f).toArray⟩)] = some [.string ⟨((s.take i).drop f).toArray⟩] := rfl
          have k4 := (Keeps.refl M).alloc (.cells true false 1 [.string ⟨((s.take i).drop f).toArray⟩] 9)
          simp (disch := first | assumption | omega | (simp only [LN] <;> omega) | (simp (disch := first | assumption | omega | (simp only [LN] <;> omega)) only [row_alloc, row_set]; assumption)) only [W_block, P3, ↓reduceIte, reduceAdd, reduceEqDiff, reduceCtorEq, initFr, reduceLT, clsA, reduceLeDiff, reduceMul, reduceSub, reduceIte, a_slsM, hfl]
          refine appG (ha.keeps k4) ⟨_, _, rfl⟩ (elems_new rfl rfl) rfl (by omega) ?_
          intro v' M2 a2 c2 b2
          simp (disch := first | assumption | omega | (simp only [LN] <;> omega) | (simp (disch := first | assumption | omega | (simp only [LN] <;> omega)) only [row_alloc, row_set]; assumption)) only [W_block, P3, ↓reduceIte, reduceAdd, reduceEqDiff, reduceCtorEq, initFr, reduceLT, clsA, reduceLeDiff, reduceMul, reduceSub, reduceIte, hw]
          have hk2 : Keeps K M2 := (km.trans k4).chg_trans c2 (hfr.L)
          refine hn2 _ _ _ ⟨i + 1, i + 1, ts ++ [(s.take i).drop f], v', _, _, _, rfl, hk2, ?_, hfr.app (by have := km.n; simp [AHeap.alloc]; omega) b2, Nat.le_refl _, by omega, rfl, by simp; omega, .inr ⟨by omega, ?_⟩⟩ (by omega)
          · simpa [txs_app] using a2
          · rw [hws, hse]
            unfold wordsB
            rw [hsp, List.filter_cons, hne]
            simp
        · have hfe : f = i := by omega
          subst hfe
          have hlf' : ¬ (f : Int) < (f : Int) := by omega
          simp (disch := first | assumption | omega | (simp only [LN] <;> omega) | (simp (disch := first | assumption | omega | (simp only [LN] <;> omega)) only [row_alloc, row_set]; assumption)) only [W_block, P3, ↓reduceIte, reduceAdd, reduceEqDiff, reduceCtorEq, initFr, reduceLT, clsA, reduceLeDiff, reduceMul, reduceSub, reduceIte, hw]
          refine hn2 _ _ _ ⟨f + 1, f + 1, ts, v, _, _, _, rfl, km, ha, hfr, Nat.le_refl _, by omega, rfl, by omega, .inr ⟨by omega, ?_⟩⟩ (by omega)
          rw [hws]
          unfold wordsB
          rw [hsp, List.filter_cons]
          simp [hie]
    · have hle : ¬ ((s.length + 1 : Nat) : Int) ≤ ((s.length : Nat) : Int) := by omega
      simp (disch := first | assumption | omega | (simp only [LN] <;> omega) | (simp (disch := first | assumption | omega | (simp only [LN] <;> omega)) only [row_alloc, row_set]; assumption)) only [W_block, P3, ↓reduceIte, reduceAdd, reduceEqDiff, reduceCtorEq, initFr, reduceLT, clsA, reduceLeDiff, reduceMul, reduceSub, reduceIte]
      refine hx2 2 _ _ ?_
      simp (disch := first | assumption | omega | (simp only [LN] <;> omega) | (simp (disch := first | assumption | omega | (simp only [LN] <;> omega)) only [row_alloc, row_set]; assumption)) only [W_block, P3, ↓reduceIte, reduceAdd, reduceEqDiff, reduceCtorEq, initFr, reduceLT, clsA, reduceLeDiff, reduceMul, reduceSub, reduceIte]
      exact hq2 _ _ ⟨_, rfl, km, v, rfl, by rw [hws]; exact ha, hfr⟩
end Go.AM.Fd

set_option linter.unusedSimpArgs false
set_option linter.unusedVariables false
namespace Go.AM.Fd
open Nat (reduceAdd reduceEqDiff reduceLT reduceLeDiff reduceMul reduceSub)
open Go.Proofs Go.AM.F
def flW (ts : List (List UInt8)) : List (List UInt8) := ts.filter fun t => !t.isEmpty
theorem flW_app (a : List (List UInt8)) (x : List UInt8) : flW (a ++ [x]) = flW a ++ (if x = [] then [] else [x]) := by
  unfold flW
  rw [List.filter_append]
  cases x <;> simp
structure WJ (K : AHeap) (L : LRec) (pre : List (List UInt8)) (sc : List UInt8) (H : AHeap) (v : Value) : Prop where
  keep : Keeps K H
  row : H.get K.n = some (.cells true false 1 [v] 25)
  txt : H.get (K.n + 1) = some (boxS sc)
  sep : H.get (K.n + 2) = some (boxS [32])
  sav : H.get (K.n + 3) = some (.cells true false 1 [.int .i64 0] 3)
  rec_ : H.get (K.n + 4) = some (.loop true .ready none L)
  ap : AP H 9 1 v (flW pre).length (txs (flW pre))
  fresh : Fresh (K.n + 5) v
theorem WJ.n {K : AHeap} {L : LRec} {pre : List (List UInt8)} {sc : List UInt8} {H : AHeap} {v : Value} (h : WJ K L pre sc H v) : K.n + 5 ≤ H.n := AHeap.get_lt h.rec_
theorem WJ.put {K : AHeap} {L : LRec} {pre : List (List UInt8)} {sc : List UInt8} {H : AHeap} {v : Value} (h : WJ K L pre sc H v) (sc' : List UInt8) : WJ K L pre sc' (H.set (K.n + 1) (boxS sc')) v := by
  have hn := h.n
  have hlt : K.n + 1 < H.n := by omega
  have o : ∀ {b : Nat} {x : AO}, b ≠ K.n + 1 → H.get b = some x → (H.set (K.n + 1) (boxS sc')).get b = some x := fun hb hx => by rw [AHeap.get_set_other H hb hlt]; exact hx
  exact ⟨h.keep.set (by omega) hlt _, o (by omega) h.row, AHeap.get_set_same h.txt _, o (by omega) h.sep, o (by omega) h.sav, o (by omega) h.rec_,
    h.ap.chg (Chg.set H hlt _) (fun x hx => by have := h.fresh x (mem_blkL.1 hx); simp; omega), h.fresh⟩
theorem WJ.round {K : AHeap} {pre : List (List UInt8)} {sc x : List UInt8} {H : AHeap} {v : Value} {x0 x1 x2 x3 x4 x6 x7 x8 x9 x10 x11 x12 x13 : Value}
    (h : WJ K ⟨43, [0, 2, 3, 4, 5, 6, 7, 15, 16, 17, 32, 34, 35, 37], [x0, x1, x2, x3, x4, ptr K.n 0, x6, x7, x8, x9, x10, x11, x12, x13], #[35], rfA Go.Proofs.Tryd.prog 15 0, rfB Go.Proofs.Tryd.prog 15 0⟩ pre sc H v) (hl : pre.length ≤ 10000000) :
    ∃ w H', AYield Go.Proofs.Tryd.prog 3 (K.n + 4) [.string ⟨x.toArray⟩] H w H' ∧ w = .bool true ∧ ∃ v', WJ K ⟨43, [0, 2, 3, 4, 5, 6, 7, 15, 16, 17, 32, 34, 35, 37], [x0, x1, x2, x3, x4, ptr K.n 0, x6, x7, x8, x9, x10, x11, x12, x13], #[35], rfA Go.Proofs.Tryd.prog 15 0, rfB Go.Proofs.Tryd.prog 15 0⟩ (pre ++ [x]) sc H' v' := by
  obtain ⟨L, hL⟩ : ∃ L : LRec, (⟨43, [0, 2, 3, 4, 5, 6, 7, 15, 16, 17, 32, 34, 35, 37], [x0, x1, x2, x3, x4, ptr K.n 0, x6, x7, x8, x9, x10, x11, x12, x13], #[35], rfA Go.Proofs.Tryd.prog 15 0, rfB Go.Proofs.Tryd.prog 15 0⟩ : LRec) = L := ⟨_, rfl⟩
  have hn := h.n
  have hlen : (flW pre).length ≤ pre.length := List.length_filter_le ..
  refine yield_of (R := fun w H' => w = .bool true ∧ ∃ v', WJ K _ (pre ++ [x]) sc H' v') h.rec_ f15r0a_ok f15r0b_ok f15r0_n rfl rfl ?_
  show W Go.Proofs.Tryd.prog 3 f15r0a _ [x0, x1, x2, x3, x4, ptr K.n 0, x6, x7, x8, x9, x10, x11, .string ⟨x.toArray⟩, x13] H
  rw [hL] at h ⊢
  simp (disch := first | assumption | omega | (simp only [LN] <;> omega) | (simp (disch := first | assumption | omega | (simp only [LN] <;> omega)) only [row_alloc, row_set]; assumption)) only [f15r0a, W_block, P3, ↓reduceIte, reduceAdd, reduceEqDiff, reduceCtorEq, initFr, reduceLT, clsA, reduceLeDiff, reduceMul, reduceSub, reduceIte]
  refine ⟨none, L, h.rec_, ?_⟩
  have hlt : K.n + 4 < H.n := by omega
  obtain ⟨H1, hH1⟩ : ∃ H1, H.set (K.n + 4) (.loop true .busy none L) = H1 := ⟨_, rfl⟩
  have o : ∀ {b : Nat} {y : AO}, b ≠ K.n + 4 → H.get b = some y → H1.get b = some y := fun hb hy => by rw [← hH1, AHeap.get_set_other H hb hlt]; exact hy
  have n1 : H1.n = H.n := by rw [← hH1]; rfl
  have r1 := o (by omega) h.row
  have g1 : H1.get (K.n + 4) = some (.loop true .busy none L) := by rw [← hH1]; exact AHeap.get_set_same h.rec_ _
  have k1 : Keeps K H1 := by rw [← hH1]; exact h.keep.set (by omega) hlt _
  have a1 : AP H1 9 1 v (flW pre).length (txs (flW pre)) := by rw [← hH1]; exact h.ap.chg (Chg.set H hlt _) (fun x hx => by have := h.fresh x (mem_blkL.1 hx); simp; omega)
  rw [hH1]
  have fin : ∀ (H2 : AHeap) (fr : List Value), H2.get (K.n + 4) = some (.loop true .busy none L) → (∃ v', WJ K L (pre ++ [x]) sc (H2.set (K.n + 4) (.loop true .ready none L)) v') → roundQ (K.n + 4) (fun w H' => w = .bool true ∧ ∃ v', WJ K L (pre ++ [x]) sc H' v') .normal fr H2 := by
    intro H2 fr hg hw
    unfold roundQ
    rw [hg]
    exact ⟨rfl, hw⟩
  have back : ∀ (H2 : AHeap) (v' : Value), Keeps K H2 → H2.get K.n = some (.cells true false 1 [v'] 25) → H2.get (K.n + 1) = some (boxS sc) → H2.get (K.n + 2) = some (boxS [32]) → H2.get (K.n + 3) = some (.cells true false 1 [.int .i64 0] 3) →
      H2.get (K.n + 4) = some (.loop true .busy none L) → AP H2 9 1 v' (flW (pre ++ [x])).length (txs (flW (pre ++ [x]))) → Fresh (K.n + 5) v' → WJ K L (pre ++ [x]) sc (H2.set (K.n + 4) (.loop true .ready none L)) v' := by
    intro H2 v' c1 c2 c3 c4 c5 c6 c7 c8
    have hl2 := AHeap.get_lt c6
    have o2 : ∀ {b : Nat} {y : AO}, b ≠ K.n + 4 → H2.get b = some y → (H2.set (K.n + 4) (.loop true .ready none L)).get b = some y := fun hb hy => by rw [AHeap.get_set_other H2 hb hl2]; exact hy
    exact ⟨c1.set (by omega) hl2 _, o2 (by omega) c2, o2 (by omega) c3, o2 (by omega) c4, o2 (by omega) c5, AHeap.get_set_same c6 _, c7.chg (Chg.set H2 hl2 _) (fun x hx => by have := c8 x (mem_blkL.1 hx); simp; omega), c8⟩
  by_cases hx : x = []
  · have e : decide (x = []) = true := by simpa using hx
    simp (disch := first | assumption | omega | (simp only [LN] <;> omega) | (simp (disch := first | assumption | omega | (simp only [LN] <;> omega)) only [row_alloc, row_set]; assumption)) only [f15r0b, W_block, P3, ↓reduceIte, reduceAdd, reduceEqDiff, reduceCtorEq, initFr, reduceLT, clsA, reduceLeDiff, reduceMul, reduceSub, reduceIte, str_emp, bytes_eq, e]
    refine fin _ _ g1 ⟨v, back _ _ k1 r1 (o (by omega) h.txt) (o (by omega) h.sep) (o (by omega) h.sav) g1 ?_ h.fresh⟩
    rw [flW_app, if_pos hx, List.append_nil]
    exact a1
  · have e : decide (x = []) = false := by simpa using hx
    have hfl : fillA [.string ⟨([] : List UInt8).toArray⟩] [(0, 1, .string ⟨x.toArray⟩)] = some [.string ⟨x.toArray⟩] := rfl
    have k4 := (Keeps.refl H1).alloc (.cells true false 1 [.string ⟨x.toArray⟩] 9)
    simp (disch := first | assumption | omega | (simp only [LN] <;> omega) | (simp (disch := first | assumption | omega | (simp only [LN] <;> omega)) only [row_alloc, row_set]; assumption)) only [f15r0b, W_block, P3, ↓reduceIte, reduceAdd, reduceEqDiff, reduceCtorEq, initFr, reduceLT, clsA, reduceLeDiff, reduceMul, reduceSub, reduceIte, str_emp, bytes_eq, e, r1, hfl]
    refine appG (a1.keeps k4) ⟨_, _, rfl⟩ (elems_new rfl rfl) rfl (by omega) ?_
    intro v' M2 a2 c2 b2
    have q : ∀ {b : Nat} {y : AO}, b < K.n + 5 → H1.get b = some y → M2.get b = some y := fun hb hy => by
      refine c2.at_ (k4.at_ hy) (fun hm => ?_)
      have := h.fresh _ (mem_blkL.1 hm)
      omega
    have r2 := q (by omega) r1
    have ov' : one1 v' = True := by
      obtain ⟨a, ha⟩ := a2.shape
      rw [ha]; exact o_sl ..
    have ov2 : v'.oneCell' = true := by
      obtain ⟨a, ha⟩ := a2.shape
      rw [ha]; rfl
    have f2 : Fresh (K.n + 5) v' := h.fresh.app (by simp [AHeap.alloc]; omega) b2
    have l2 := AHeap.get_lt r2
    simp (disch := first | assumption | omega | (simp only [LN] <;> omega) | (simp (disch := first | assumption | omega | (simp only [LN] <;> omega)) only [row_alloc, row_set]; assumption)) only [W_block, P3, ↓reduceIte, reduceAdd, reduceEqDiff, reduceCtorEq, initFr, reduceLT, clsA, reduceLeDiff, reduceMul, reduceSub, reduceIte, r2, ov2]
    have o3 : ∀ {b : Nat} {y : AO}, b ≠ K.n → M2.get b = some y → (M2.set K.n (.cells true false 1 [v'] 25)).get b = some y := fun hb hy => by rw [AHeap.get_set_other M2 hb l2]; exact hy
    have k2 : Keeps K M2 := (k1.trans k4).chg_trans c2 (fun y hy => by have := h.fresh y (mem_blkL.1 hy); omega)
    refine fin _ _ (o3 (by omega) (q (by omega) g1)) ⟨v', back _ _ (k2.set (Nat.le_refl _) l2 _) (AHeap.get_set_same r2 _) (o3 (by omega) (q (by omega) (o (by omega) h.txt))) (o3 (by omega) (q (by omega) (o (by omega) h.sep))) (o3 (by omega) (q (by omega) (o (by omega) h.sav))) (o3 (by omega) (q (by omega) g1)) ?_ f2⟩
    rw [flW_app, if_neg hx]
    refine AP.chg ?_ (Chg.set M2 l2 _) (fun y hy => by have := f2 y (mem_blkL.1 hy); simp; omega)
    simpa [txs_app] using a2
end Go.AM.Fd

set_option linter.unusedSimpArgs false
set_option linter.unusedVariables false
namespace Go.AM.Fd
open Nat (reduceAdd reduceEqDiff reduceLT reduceLeDiff reduceMul reduceSub)
open Go.Proofs Go.AM.F
theorem get5 (L : AHeap) (a b c d e : AO) : let S := ((((L.alloc a).alloc b).alloc c).alloc d).alloc e
    S.get L.n = some a ∧ S.get (L.n + 1) = some b ∧ S.get (L.n + 2) = some c ∧ S.get (L.n + 3) = some d ∧ S.get (L.n + 4) = some e := by
  have o : ∀ (X : AHeap) (x : AO) (i : Nat), i < X.n → (X.alloc x).get i = X.get i := fun X x i h => AHeap.get_alloc_old X x h
  refine ⟨?_, ?_, ?_, ?_, ?_⟩
  · rw [o _ _ _ (by simp only [alloc_n]; omega), o _ _ _ (by simp only [alloc_n]; omega), o _ _ _ (by simp only [alloc_n]; omega), o _ _ _ (by simp only [alloc_n]; omega)]; exact AHeap.get_alloc_new _ _
  · rw [o _ _ _ (by simp only [alloc_n]; omega), o _ _ _ (by simp only [alloc_n]; omega), o _ _ _ (by simp only [alloc_n]; omega)]; exact AHeap.get_alloc_new _ _
  · rw [o _ _ _ (by simp only [alloc_n]; omega), o _ _ _ (by simp only [alloc_n]; omega)]; exact AHeap.get_alloc_new _ _
  · rw [o _ _ _ (by simp only [alloc_n]; omega)]; exact AHeap.get_alloc_new _ _
  · exact AHeap.get_alloc_new _ _
theorem cut_ahead (l : List UInt8) : ∃ y z, cutB 35 l = .tuple #[.string ⟨(aheadB l).toArray⟩, y, z] := by
  unfold cutB aheadB
  cases ixB 35 l <;> exact ⟨_, _, rfl⟩
theorem t15 (H : AHeap) (l : List UInt8) (hl : l.length ≤ 1000000) : ∃ w K, ARun Go.Proofs.Tryd.prog 3 15 [.string ⟨l.toArray⟩] H w K ∧ WRes H w K l := by
  refine walk2 f15_ok f15_n ?_
  intro Q hq1 hq2
  have hal := ahead_len l
  simp (disch := first | assumption | omega | (simp only [LN] <;> omega) | (simp (disch := first | assumption | omega | (simp only [LN] <;> omega)) only [row_alloc, row_set]; assumption)) only [ f15, P3, ↓reduceIte, reduceAdd, reduceEqDiff, reduceCtorEq, initFr, reduceLT, clsA, reduceLeDiff, reduceMul, reduceSub, reduceIte]
  refine callK (t22 H l 35 (by omega)) ?_
  rintro _ K ⟨hw, rfl⟩
  obtain ⟨y, z, hcut⟩ := cut_ahead l
  rw [hcut] at hw
  subst hw
  obtain ⟨s, hs⟩ : ∃ s, aheadB l = s := ⟨_, rfl⟩
  unfold WRes at hq1 hq2
  rw [hs] at hal hq1 hq2 ⊢
  simp (disch := first | assumption | omega | (simp only [LN] <;> omega) | (simp (disch := first | assumption | omega | (simp only [LN] <;> omega)) only [row_alloc, row_set]; assumption)) only [ P3, ↓reduceIte, reduceAdd, reduceEqDiff, reduceCtorEq, initFr, reduceLT, clsA, reduceLeDiff, reduceMul, reduceSub, reduceIte, a_rngS]
  rw [W_block]
  refine W_loop2 (fun k fr L => ∃ p x3 x4 x8 x9 x10, fr = [.string ⟨s.toArray⟩, .slice none 0 0, .int .i64 0, x3, x4, undef, undef, ptr K.n 0, x8, x9, x10, undef, undef, undef] ∧ L.get K.n = some (.obj true (.stringIter ⟨s.toArray⟩ p)) ∧ Keeps K L ∧
      okW s = (runF s p).all (okC s) ∧ k = s.length - p) s.length
    ⟨0, _, _, _, _, _, rfl, AHeap.get_alloc_new _ _, (Keeps.refl K).alloc _, rfl, rfl⟩ ?_
  rintro Q' k fr L ⟨p, x3, x4, x8, x9, x10, rfl, hg, hk, hr, rfl⟩ hn hx hret
  by_cases hp : p < s.length
  · have hstep := runF_step hp
    have hpos := decB_pos (l := s) (p := p)
    have hset := hk.set (Nat.le_refl _) (AHeap.get_lt hg) (.obj true (.stringIter ⟨s.toArray⟩ (p + (decB s p).2)))
    have hnext : okC s (p, ((decB s p).1 : Int)) = true → okW s = (runF s (p + (decB s p).2)).all (okC s) := fun h => by rw [hr, hstep]; simp [h]
    have hbad : okC s (p, ((decB s p).1 : Int)) = false → okW s = false := fun h => by rw [hr, hstep]; simp [h]
    have hgs := AHeap.get_set_same hg (.obj true (.stringIter ⟨s.toArray⟩ (p + (decB s p).2)))
    obtain ⟨d, hd⟩ : ∃ d, (decB s p).1 = d := ⟨_, rfl⟩
    rw [hd] at hnext hbad
    have hnx := a_nextY hg hp
    rw [hd] at hnx
    by_cases c1 : (d : Int) < 32
    · simp (disch := first | assumption | omega | (simp only [LN] <;> omega) | (simp (disch := first | assumption | omega | (simp only [LN] <;> omega)) only [row_alloc, row_set]; assumption)) only [W_block, P3, ↓reduceIte, reduceAdd, reduceEqDiff, reduceCtorEq, initFr, reduceLT, clsA, reduceLeDiff, reduceMul, reduceSub, reduceIte, hnx]
      refine hret _ _ (hq2 _ _ ⟨_, rfl, hset, ?_⟩)
      rw [hbad (by simp [okC, c1])]
      rfl
    · by_cases c2 : (d : Int) = 65533
      · have e2 : ((d : Int) == 65533) = true := by simpa using c2
        have hp1 : p ≤ s.length := by omega
        simp (disch := first | assumption | omega | (simp only [LN] <;> omega) | (simp (disch := first | assumption | omega | (simp only [LN] <;> omega)) only [row_alloc, row_set]; assumption)) only [W_block, P3, ↓reduceIte, reduceAdd, reduceEqDiff, reduceCtorEq, initFr, reduceLT, clsA, reduceLeDiff, reduceMul, reduceSub, reduceIte, hnx, e2, a_slsT]
        refine callK (t23 _ (s.drop p) [239, 191, 189]) ?_
        rintro _ K2 ⟨rfl, rfl⟩
        cases c3 : wholeB s p with
        | true =>
          have c3' : ([239, 191, 189] : List UInt8).isPrefixOf (s.drop p) = true := c3
          simp (disch := first | assumption | omega | (simp only [LN] <;> omega) | (simp (disch := first | assumption | omega | (simp only [LN] <;> omega)) only [row_alloc, row_set]; assumption)) only [W_block, P3, ↓reduceIte, reduceAdd, reduceEqDiff, reduceCtorEq, initFr, reduceLT, clsA, reduceLeDiff, reduceMul, reduceSub, reduceIte, c3']
          exact hn _ _ _ ⟨p + (decB s p).2, _, _, _, _, _, rfl, hgs, hset, hnext (by simp [okC, c1, c2, c3]), rfl⟩ (by omega)
        | false =>
          have c3' : ([239, 191, 189] : List UInt8).isPrefixOf (s.drop p) = false := c3
          simp (disch := first | assumption | omega | (simp only [LN] <;> omega) | (simp (disch := first | assumption | omega | (simp only [LN] <;> omega)) only [row_alloc, row_set]; assumption)) only [W_block, P3, ↓reduceIte, reduceAdd, reduceEqDiff, reduceCtorEq, initFr, reduceLT, clsA, reduceLeDiff, reduceMul, reduceSub, reduceIte, c3']
          refine hret _ _ (hq2 _ _ ⟨_, rfl, hset, ?_⟩)
          rw [hbad (by simp [okC, c1, c2, c3])]
          rfl
      · have e2 : ((d : Int) == 65533) = false := by simpa using c2
        simp (disch := first | assumption | omega | (simp only [LN] <;> omega) | (simp (disch := first | assumption | omega | (simp only [LN] <;> omega)) only [row_alloc, row_set]; assumption)) only [W_block, P3, ↓reduceIte, reduceAdd, reduceEqDiff, reduceCtorEq, initFr, reduceLT, clsA, reduceLeDiff, reduceMul, reduceSub, reduceIte, hnx, e2]
        exact hn _ _ _ ⟨p + (decB s p).2, _, _, _, _, _, rfl, hgs, hset, hnext (by simp [okC, c1, c2]), rfl⟩ (by omega)
  · have hend := runF_end hp
    rw [hend] at hr
    simp only [List.all_nil] at hr
    rw [hr] at hq1 hq2
    simp only [if_true] at hq1 hq2
    simp (disch := first | assumption | omega | (simp only [LN] <;> omega) | (simp (disch := first | assumption | omega | (simp only [LN] <;> omega)) only [row_alloc, row_set]; assumption)) only [W_block, P3, ↓reduceIte, reduceAdd, reduceEqDiff, reduceCtorEq, initFr, reduceLT, clsA, reduceLeDiff, reduceMul, reduceSub, reduceIte, a_nextN hg hp]
    refine hx 0 _ _ ?_
    simp (disch := first | assumption | omega | (simp only [LN] <;> omega) | (simp (disch := first | assumption | omega | (simp only [LN] <;> omega)) only [row_alloc, row_set]; assumption)) only [ P3, ↓reduceIte, reduceAdd, reduceEqDiff, reduceCtorEq, initFr, reduceLT, clsA, reduceLeDiff, reduceMul, reduceSub, reduceIte]
    refine callK (t24 _ s 32) ?_
    rintro _ K2 ⟨rfl, rfl⟩
    simp (disch := first | assumption | omega | (simp only [LN] <;> omega) | (simp (disch := first | assumption | omega | (simp only [LN] <;> omega)) only [row_alloc, row_set]; assumption)) only [ P3, ↓reduceIte, reduceAdd, reduceEqDiff, reduceCtorEq, initFr, reduceLT, clsA, reduceLeDiff, reduceMul, reduceSub, reduceIte]
    rw [W_block]
    refine W_rangeF rfl (bodied_of (by kernel_rfl)) ?_
    obtain ⟨R, hR⟩ : ∃ R : LRec, (⟨43, [0, 2, 3, 4, 5, 6, 7, 15, 16, 17, 32, 34, 35, 37], [.string ⟨s.toArray⟩, .slice none 0 0, .int .i64 0, x3, x4, ptr L.n 0, undef, ptr K.n 0, .tuple #[.bool false], .bool false, x10,
      .func (.func 33) #[] #[ptr (L.n + 1 + 1) 0, ptr (L.n + 1) 0, ptr (L.n + 1 + 2) 0], undef, undef], #[35], rfA Go.Proofs.Tryd.prog 15 0, rfB Go.Proofs.Tryd.prog 15 0⟩ : LRec) = R := ⟨_, rfl⟩
    rw [hR]
    obtain ⟨S0, hS0⟩ : ∃ S0 : AHeap, (((((L.alloc (.cells true false 1 [.slice none 0 0] 25)).alloc (boxS s)).alloc (boxS [32])).alloc (.cells true false 1 [.int .i64 0] 3)).alloc (.loop true .ready none R)) = S0 := ⟨_, rfl⟩
    have hJ0 : WJ L R [] s S0 (.slice none 0 0) := by
      rw [← hS0]
      obtain ⟨q1, q2, q3, q4, q5⟩ := get5 L (.cells true false 1 [.slice none 0 0] 25) (boxS s) (boxS [32]) (.cells true false 1 [.int .i64 0] 3) (.loop true .ready none R)
      exact ⟨(((((Keeps.refl L).alloc _).alloc _).alloc _).alloc _).alloc _, q1, q2, q3, q4, q5, .inl ⟨rfl, rfl, rfl⟩, fun b hb => by cases hb⟩
    obtain ⟨w, H1, r, hfin⟩ := t33 (fun pre sc H => ∃ v, WJ L R pre sc H v) (fun _ => False) (c := 32) (b := L.n + 4) (p1 := L.n + 2) (p2 := L.n + 1) (p3 := L.n + 3) (s := s) (by omega)
      (fun pre sc H ⟨v, h⟩ => ⟨h.sep, h.txt, h.sav⟩) (fun pre sc sc' H ⟨v, h⟩ => ⟨v, h.put sc'⟩)
      (fun pre x sc H ⟨v, h⟩ ⟨rest, hsp⟩ => by
        have h1 := splitB_len 32 s
        rw [hsp, List.length_append, List.length_cons] at h1
        rw [← hR] at h
        obtain ⟨w, H', a, e, v', h'⟩ := WJ.round (x := x) h (by omega)
        rw [hR] at h'
        exact ⟨w, H', a, .inl ⟨e, v', h'⟩⟩) ⟨_, hJ0⟩
    refine ⟨w, H1, ?_, ?_⟩
    · rw [hS0]; exact r
    · rcases hfin with ⟨sc, v, hJ⟩ | hf
      · refine afterR_ready hJ.rec_ ?_
        have hn1 := hJ.n
        have hl4 : L.n + 4 < H1.n := by omega
        have hrow : (H1.set (L.n + 4) .dead).get L.n = some (.cells true false 1 [v] 25) := by rw [AHeap.get_set_other H1 (by omega) hl4]; exact hJ.row
        simp (disch := first | assumption | omega | (simp only [LN] <;> omega) | (simp (disch := first | assumption | omega | (simp only [LN] <;> omega)) only [row_alloc, row_set]; assumption)) only [W_block, P3, ↓reduceIte, reduceAdd, reduceEqDiff, reduceCtorEq, initFr, reduceLT, clsA, reduceLeDiff, reduceMul, reduceSub, reduceIte, hrow]
        refine hq2 _ _ ⟨_, rfl, (hk.trans hJ.keep).set (by have := hk.n; omega) hl4 _, v, rfl, ?_, ?_⟩
        · exact hJ.ap.chg (Chg.set H1 hl4 _) (fun y hy => by have := hJ.fresh y (mem_blkL.1 hy); simp; omega)
        · intro b hb
          have := hJ.fresh b hb
          have := hk.n
          omega
      · exact hf.elim
end Go.AM.Fd

set_option linter.unusedSimpArgs false
set_option linter.unusedVariables false
namespace Go.AM.Fd
open Nat (reduceAdd reduceEqDiff reduceLT reduceLeDiff reduceMul reduceSub)
open Go.Proofs Go.AM.F
abbrev Row := Value × List (List UInt8)
def thG (w : Row) : Th := thA 9 1 w.1 w.2.length (txs w.2)
def outC (ws : List Row) : List Value := (ws.map (·.1)).reverse
def GS (N : Nat) (H : AHeap) (v : Value) (ws : List Row) (rs : List Row) : Prop :=
  Sep H (thA 25 1 v ws.length (outC ws) :: rs.map thG) ∧ Fresh N v ∧ ∀ w ∈ rs, Fresh N w.1
def grp (acc : List (List (List UInt8))) (t : List UInt8) : List (List (List UInt8)) := if t = [58] then [] :: acc else match acc with
  | g :: r => (g ++ [t]) :: r
  | [] => [[t]]
def groupsB (ts : List (List UInt8)) : List (List (List UInt8)) := (ts.foldl grp [[]]).reverse
theorem grp_take {ts : List (List UInt8)} {i : Nat} (h : i < ts.length) (a : List (List (List UInt8))) : (ts.take (i + 1)).foldl grp a = grp ((ts.take i).foldl grp a) (ts.getD i []) := by
  rw [List.take_add_one, List.getElem?_eq_getElem h, List.foldl_append]
  simp [List.getD, List.getElem?_eq_getElem h]
theorem GS.keeps {N : Nat} {H K : AHeap} {v : Value} {ws rs : List Row} (h : GS N H v ws rs) (k : Keeps H K) : GS N K v ws rs := ⟨h.1.keeps k, h.2⟩
theorem GS.addNil {N : Nat} {H : AHeap} {v : Value} {ws rs : List Row} (h : GS N H v ws rs) : GS N H v ws ((.slice none 0 0, []) :: rs) := by
  obtain ⟨h1, h2, h3⟩ := h
  refine ⟨⟨?_, ?_⟩, h2, ?_⟩
  · intro t ht
    simp only [List.map_cons, List.mem_cons] at ht
    rcases ht with rfl | rfl | ht
    · exact h1.all _ (by simp)
    · exact .inl ⟨rfl, rfl, rfl⟩
    · exact h1.all t (by simp [ht])
  · have hp := List.pairwise_cons.1 h1.ap
    refine List.pairwise_cons.2 ⟨?_, List.pairwise_cons.2 ⟨fun a ha b hb => by simp [thG, thA, blkL, blk] at hb, hp.2⟩⟩
    intro a ha
    simp only [List.map_cons, List.mem_cons] at ha
    rcases ha with rfl | ha
    · intro b hb hb2; simp [thG, thA, blkL, blk] at hb2
    · exact hp.1 a ha
  · intro w hw
    rcases List.mem_cons.1 hw with rfl | hw
    · intro b hb; cases hb
    · exact h3 w hw
theorem GS.outer {N : Nat} {H K : AHeap} {v v' : Value} {ws ws' rs : List Row} (h : GS N H v ws rs) (hN : N ≤ H.n) (c : Chg (blkL v) H K) (ha : AP K 25 1 v' ws'.length (outC ws')) (hb : blk v' = blk v ∨ (∃ b, blk v' = some b ∧ H.n ≤ b)) : GS N K v' ws' rs := by
  have hf : ∀ y ∈ blkL v', y ∈ blkL v ∨ H.n ≤ y := fun y hy => by
    have hy := mem_blkL.1 hy
    rcases hb with e | ⟨b, e, hb⟩
    · exact .inl (mem_blkL.2 (by rw [← e]; exact hy))
    · rw [e] at hy; cases hy; exact .inr hb
  refine ⟨Sep.upd (l := []) h.1 c ha hf, ?_, h.2.2⟩
  intro y hy
  rcases hf y (mem_blkL.2 hy) with e | e
  · exact h.2.1 y (mem_blkL.1 e)
  · omega
theorem GS.row {N : Nat} {H K : AHeap} {v u' : Value} {g' : List (List UInt8)} {w : Row} {ws rs : List Row} (h : GS N H v ws (w :: rs)) (hN : N ≤ H.n) (c : Chg (blkL w.1) H K) (ha : AP K 9 1 u' g'.length (txs g')) (hb : blk u' = blk w.1 ∨ (∃ b, blk u' = some b ∧ H.n ≤ b)) : GS N K v ws ((u', g') :: rs) := by
  have hf : ∀ y ∈ blkL u', y ∈ blkL w.1 ∨ H.n ≤ y := fun y hy => by
    have hy := mem_blkL.1 hy
    rcases hb with e | ⟨b, e, hb⟩
    · exact .inl (mem_blkL.2 (by rw [← e]; exact hy))
    · rw [e] at hy; cases hy; exact .inr hb
  refine ⟨Sep.upd (l := [_]) (t := thG w) (t' := thG (u', g')) (r := rs.map thG) h.1 c ha hf, h.2.1, ?_⟩
  intro x hx
  rcases List.mem_cons.1 hx with rfl | hx
  · intro y hy
    rcases hf y (mem_blkL.2 hy) with e | e
    · exact h.2.2 w (by simp) y (mem_blkL.1 e)
    · omega
  · exact h.2.2 x (by simp [hx])
theorem GS.out {N : Nat} {H : AHeap} {v : Value} {ws rs : List Row} (h : GS N H v ws rs) : AP H 25 1 v ws.length (outC ws) := h.1.all (thA 25 1 v ws.length (outC ws)) (by simp)
theorem GS.top {N : Nat} {H : AHeap} {v : Value} {w : Row} {ws rs : List Row} (h : GS N H v ws (w :: rs)) : AP H 9 1 w.1 w.2.length (txs w.2) := h.1.all (thG w) (by simp)
theorem GS.apart {N : Nat} {H : AHeap} {v : Value} {w : Row} {ws rs : List Row} (h : GS N H v ws (w :: rs)) {b : Nat} (hb : blk v = some b) : blk w.1 ≠ some b := fun e =>
  (List.pairwise_cons.1 h.1.ap).1 (thG w) (by simp) b (mem_blkL.2 hb) (mem_blkL.2 e)
theorem GS.chg {N : Nat} {H K : AHeap} {v : Value} {ws rs : List Row} (h : GS N H v ws rs) (c : Keeps H K) : GS N K v ws rs := h.keeps c
theorem sl_fresh {v v' : Value} {H : AHeap} {n : Nat} {o : AO} (h : blk v' = blk v ∨ blk v' = some (H.alloc o).n) (hn : n = H.n) : blk v' = blk v ∨ (∃ b, blk v' = some b ∧ n ≤ b) := by
  rcases h with h | h
  · exact .inl h
  · exact .inr ⟨_, h, by simp [AHeap.alloc]; omega⟩
theorem outC_len (ws : List Row) : (outC ws).length = ws.length := by simp [outC]
theorem outC_cons (w : Row) (ws : List Row) : outC (w :: ws) = outC ws ++ [w.1] := by simp [outC]
theorem outC_top (w : Row) (ws : List Row) : (outC (w :: ws))[ws.length]? = some w.1 := by
  rw [outC_cons, List.getElem?_append_right (by rw [outC_len]; omega), outC_len]; simp
theorem outC_set (w : Row) (u : Value) (g : List (List UInt8)) (ws : List Row) : (outC (w :: ws)).set ws.length u = outC ((u, g) :: ws) := by
  rw [outC_cons, outC_cons, List.set_append_right _ _ (by rw [outC_len]; omega), outC_len]; simp
theorem t18 {H : AHeap} {vl : Value} {ts : List (List UInt8)} (ht : TL H vl ts) (hl : ts.length ≤ 1000000) : ∃ w K, ARun Go.Proofs.Tryd.prog 3 18 [vl] H w K ∧ Keeps H K ∧ ∃ ws, GS H.n K w ws ws ∧ (ws.map (·.2)).reverse = groupsB ts := by
  refine walk2 f18_ok f18_n ?_
  intro Q hq1 hq2
  have hfl0 : fillA [.slice none 0 0] [(0, 1, .slice none 0 0)] = some [.slice none 0 0] := rfl
  have ll := ht.len
  have il := Sl.is ht
  simp (disch := first | assumption | omega | (simp only [LN] <;> omega) | (simp (disch := first | assumption | omega | (simp only [LN] <;> omega)) only [row_alloc, row_set]; assumption)) only [ f18, P3, ↓reduceIte, reduceAdd, reduceEqDiff, reduceCtorEq, initFr, reduceLT, clsA, reduceLeDiff, reduceMul, reduceSub, reduceIte, hfl0, ll]
  rw [W_block]
  have hG0 : GS H.n (H.alloc (.cells true false 1 [.slice none 0 0] 25)) (slc H.n 0 1 1) [(.slice none 0 0, [])] [(.slice none 0 0, [])] := by
    refine GS.addNil ⟨⟨fun t ht => ?_, by simp⟩, fun b hb => by cases hb; exact Nat.le_refl _, by simp⟩
    simp only [List.map_nil, List.mem_singleton] at ht
    subst ht
    exact .inr ⟨H.n, false, rfl, rfl, AHeap.get_alloc_new _ _⟩
  refine W_loop2 (fun k fr K => ∃ i v ws x3 x4 x8 x9, fr = [vl, .slice none 0 0, v, x3, x4, vl, .int .i64 ((ts.length : Nat) : Int), .int .i64 ((i : Nat) : Int), x8, x9] ∧ Keeps H K ∧ GS H.n K v ws ws ∧ ws.map (·.2) = (ts.take i).foldl grp [[]] ∧
      1 ≤ ws.length ∧ ws.length ≤ i + 1 ∧ (∀ w ∈ ws, w.2.length ≤ i) ∧ i ≤ ts.length ∧ k = ts.length - i) ts.length
    ⟨0, _, [(.slice none 0 0, [])], _, _, _, _, rfl, (Keeps.refl H).alloc _, hG0, rfl, by simp, by simp, by simp, by omega, rfl⟩ ?_
  rintro Q' k fr K ⟨i, v, ws, x3, x4, x8, x9, rfl, hk, hG, hws, h1, h2, h3, hi, rfl⟩ hn hx hret
  have hkn := hk.n
  by_cases hlt : i < ts.length
  · have ht2 := ht.keeps hk
    obtain ⟨na, ra⟩ := ht2.at_ hlt
    unfold tRow at ra
    have c1 : (i : Int) < ((ts.length : Nat) : Int) := by omega
    have c2 : (i : Int) < ((lenS vl : Nat) : Int) := by omega
    have c0 : (0 : Int) ≤ (i : Int) := by omega
    have hw : IntKind.i64.wrap ((i : Int) + 1) = ((i + 1 : Nat) : Int) := by rw [wrap_i64 (by omega) (by omega)]; simp
    have hgr := grp_take hlt [[]]
    rw [← hws] at hgr
    obtain ⟨t, htt⟩ : ∃ t, ts.getD i [] = t := ⟨_, rfl⟩
    rw [htt] at ra hgr
    by_cases hc : t = [58]
    · have e : decide (t = [58]) = true := by simpa using hc
      have k4 := (Keeps.refl K).alloc (.cells true false 1 [.slice none 0 0] 25)
      simp (disch := first | assumption | omega | (simp only [LN] <;> omega) | (simp (disch := first | assumption | omega | (simp only [LN] <;> omega)) only [row_alloc, row_set]; assumption)) only [W_block, P3, ↓reduceIte, reduceAdd, reduceEqDiff, reduceCtorEq, initFr, reduceLT, clsA, reduceLeDiff, reduceMul, reduceSub, reduceIte, ra, na, a_load1v, bytes_eq, e, hfl0]
      refine appG (hG.out.keeps k4) ⟨_, _, rfl⟩ (elems_new rfl rfl) rfl (by omega) ?_
      intro v' K2 a2 ch b2
      simp (disch := first | assumption | omega | (simp only [LN] <;> omega) | (simp (disch := first | assumption | omega | (simp only [LN] <;> omega)) only [row_alloc, row_set]; assumption)) only [W_block, P3, ↓reduceIte, reduceAdd, reduceEqDiff, reduceCtorEq, initFr, reduceLT, clsA, reduceLeDiff, reduceMul, reduceSub, reduceIte, hw]
      have c24 : Chg (blkL v) K K2 := (k4.chg _).trans ch (fun y hy => .inl hy)
      have hG2 := (hG.outer (ws' := (.slice none 0 0, []) :: ws) hkn c24 (by rw [outC_cons]; simpa using a2) (sl_fresh b2 rfl)).addNil
      refine hn _ _ _ ⟨i + 1, v', (.slice none 0 0, []) :: ws, _, _, _, _, rfl, hk.chg_trans c24 hG.2.1.L, hG2, ?_, by simp, by simp; omega, ?_, by omega, rfl⟩ (by omega)
      · rw [hgr]; simp [grp, hc]
      · intro w hw; rcases List.mem_cons.1 hw with rfl | hw
        · simp
        · have := h3 w hw; omega
    · have e : decide (t = [58]) = false := by simpa using hc
      obtain ⟨w, rs, rfl⟩ : ∃ w rs, ws = w :: rs := by
        cases ws with
        | nil => simp at h1
        | cons w rs => exact ⟨w, rs, rfl⟩
      rcases hG.out with ⟨_, hz, _⟩ | ⟨b, room, rfl, hlen, hget⟩
      · simp at hz
      · have hwl := h3 w (by simp)
        have hrl : rs.length ≤ i := by simpa using h2
        have hs1 : IntKind.i64.wrap (((rs.length + 1 : Nat) : Int) - 1) = ((rs.length : Nat) : Int) := by rw [wrap_i64 (by omega) (by omega)]; simp
        have d0 : (0 : Int) ≤ ((rs.length : Nat) : Int) := by omega
        have d1 : ((rs.length : Nat) : Int) < ((rs.length + 1 : Nat) : Int) := by omega
        have hcell : cellO (K.get b) rs.length = some w.1 := by rw [hget, cellO_c]; exact outC_top w rs
        have hfl : fillA [.string ByteArray.empty] [(0, 1, .string ⟨t.toArray⟩)] = some [.string ⟨t.toArray⟩] := rfl
        have k4 := (Keeps.refl K).alloc (.cells true false 1 [.string ⟨t.toArray⟩] 9)
        simp (disch := first | assumption | omega | (simp only [LN] <;> omega) | (simp (disch := first | assumption | omega | (simp only [LN] <;> omega)) only [row_alloc, row_set]; assumption)) only [W_block, P3, ↓reduceIte, reduceAdd, reduceEqDiff, reduceCtorEq, initFr, reduceLT, clsA, reduceLeDiff, reduceMul, reduceSub, reduceIte, ra, na, a_load1v, bytes_eq, e, hs1, hfl, Int.toNat_natCast, Nat.mul_one, Nat.zero_add, hcell]
        refine appG (hG.top.keeps k4) ⟨_, _, rfl⟩ (elems_new rfl rfl) rfl (by omega) ?_
        intro u' K2 a2 ch b2
        have c24 : Chg (blkL w.1) K K2 := (k4.chg _).trans ch (fun y hy => .inl hy)
        have hget2 : K2.get b = some (.cells true room 1 (outC (w :: rs)) 25) := c24.at_ hget (fun hm => hG.apart rfl (mem_blkL.1 hm))
        have hr := hG.row (g' := w.2 ++ [t]) hkn c24 (by simpa [txs_app] using a2) (sl_fresh b2 rfl)
        have ou : u'.oneCell' = true := by
          obtain ⟨a, ha⟩ := a2.shape
          rw [ha]; rfl
        have hlt2 : rs.length < (outC (w :: rs)).length := by rw [outC_len]; simp
        have hb2 := AHeap.get_lt hget2
        simp (disch := first | assumption | omega | (simp only [LN] <;> omega) | (simp (disch := first | assumption | omega | (simp only [LN] <;> omega)) only [row_alloc, row_set]; assumption)) only [W_block, P3, ↓reduceIte, reduceAdd, reduceEqDiff, reduceCtorEq, initFr, reduceLT, clsA, reduceLeDiff, reduceMul, reduceSub, reduceIte, hget2, ou, hw]
        have hk2 : Keeps H K2 := hk.chg_trans c24 (fun y hy => hG.2.2 w (by simp) y (mem_blkL.1 hy))
        have hbn : H.n ≤ b := hG.2.1 b rfl
        have hr2 := hr.outer (ws' := (u', w.2 ++ [t]) :: rs) (v' := slc b 0 (rs.length + 1) (rs.length + 1)) hk2.n (Chg.set K2 hb2 (.cells true room 1 ((outC (w :: rs)).set rs.length u') 25) |>.mono (by intro y hy; simp at hy; subst hy; exact mem_blkL.2 rfl))
          (.inr ⟨b, room, rfl, by rw [outC_len]; simp, by rw [AHeap.get_set_same hget2]; rw [outC_set w u' (w.2 ++ [t]) rs]⟩) (.inl rfl)
        refine hn _ _ _ ⟨i + 1, _, (u', w.2 ++ [t]) :: rs, _, _, _, _, rfl, hk2.set hbn hb2 _, hr2, ?_, by simp, by simp; omega, ?_, by omega, rfl⟩ (by omega)
        · rw [hgr]; simp [grp, hc]
        · intro x hx; rcases List.mem_cons.1 hx with rfl | hx
          · simp; omega
          · have := h3 x (by simp [hx]); omega
  · have c1 : ¬ (i : Int) < ((ts.length : Nat) : Int) := by omega
    simp (disch := first | assumption | omega | (simp only [LN] <;> omega) | (simp (disch := first | assumption | omega | (simp only [LN] <;> omega)) only [row_alloc, row_set]; assumption)) only [W_block, P3, ↓reduceIte, reduceAdd, reduceEqDiff, reduceCtorEq, initFr, reduceLT, clsA, reduceLeDiff, reduceMul, reduceSub, reduceIte]
    refine hx 0 _ _ ?_
    simp (disch := first | assumption | omega | (simp only [LN] <;> omega) | (simp (disch := first | assumption | omega | (simp only [LN] <;> omega)) only [row_alloc, row_set]; assumption)) only [W_block, P3, ↓reduceIte, reduceAdd, reduceEqDiff, reduceCtorEq, initFr, reduceLT, clsA, reduceLeDiff, reduceMul, reduceSub, reduceIte]
    refine hq2 _ _ ⟨_, rfl, hk, ws, hG, ?_⟩
    rw [hws, List.take_of_length_le (by omega)]
    rfl
end Go.AM.Fd

set_option linter.unusedSimpArgs false
set_option linter.unusedVariables false
namespace Go.AM.Fd
open Nat (reduceAdd reduceEqDiff reduceLT reduceLeDiff reduceMul reduceSub)
open Go.Proofs Go.AM.F
theorem AP.fill {H : AHeap} {e esz : Nat} {v : Value} {n : Nat} {c : List Value} (h : AP H e esz v n c) : fillA [.slice none 0 0] [(0, 1, v)] = some [v] ∧ v.oneCell' = true := by
  obtain ⟨a, rfl⟩ := h.shape
  exact ⟨rfl, rfl⟩
theorem t19 {H : AHeap} {vl : Value} {ts : List (List UInt8)} (ht : TL H vl ts) (hl : ts.length ≤ 1000000) : ∃ w K, ARun Go.Proofs.Tryd.prog 3 19 [vl] H w K ∧ Keeps H K ∧ ∃ ws, GS H.n K w ws ws ∧ (ws.map (·.2)).reverse = groupsB ts := by
  refine walk2 f19_ok f19_n ?_
  intro Q hq1 hq2
  have ll := ht.len
  have il := Sl.is ht
  simp (disch := first | assumption | omega | (simp only [LN] <;> omega) | (simp (disch := first | assumption | omega | (simp only [LN] <;> omega)) only [row_alloc, row_set]; assumption)) only [ f19, P3, ↓reduceIte, reduceAdd, reduceEqDiff, reduceCtorEq, initFr, reduceLT, clsA, reduceLeDiff, reduceMul, reduceSub, reduceIte]
  rw [W_block]
  have hG0 : GS H.n H (.slice none 0 0) [] [(.slice none 0 0, [])] := by
    refine GS.addNil ⟨⟨fun t ht => ?_, by simp⟩, (fun b hb => by cases hb), by simp⟩
    simp only [List.map_nil, List.mem_singleton] at ht
    subst ht
    exact .inl ⟨rfl, rfl, rfl⟩
  refine W_loop2 (fun k fr K => ∃ i v gv g rs x5 x6, fr = [vl, .slice none 0 0, v, gv, .int .i64 ((i : Nat) : Int), x5, x6] ∧ Keeps H K ∧ GS H.n K v rs ((gv, g) :: rs) ∧ g :: rs.map (·.2) = (ts.take i).foldl grp [[]] ∧
      rs.length ≤ i ∧ g.length ≤ i ∧ i ≤ ts.length ∧ k = ts.length - i) ts.length
    ⟨0, _, _, [], [], _, _, rfl, Keeps.refl H, hG0, rfl, by simp, by simp, by omega, rfl⟩ ?_
  rintro Q' k fr K ⟨i, v, gv, g, rs, x5, x6, rfl, hk, hG, hws, h2, h3, hi, rfl⟩ hn hx hret
  have hkn := hk.n
  obtain ⟨hfg, og⟩ := AP.fill hG.top
  by_cases hlt : i < ts.length
  · have ht2 := ht.keeps hk
    obtain ⟨na, ra⟩ := ht2.at_ hlt
    unfold tRow at ra
    have c1 : (i : Int) < ((ts.length : Nat) : Int) := by omega
    have c2 : (i : Int) < ((lenS vl : Nat) : Int) := by omega
    have c0 : (0 : Int) ≤ (i : Int) := by omega
    have hw : IntKind.i64.wrap ((i : Int) + 1) = ((i + 1 : Nat) : Int) := by rw [wrap_i64 (by omega) (by omega)]; simp
    have hgr := grp_take hlt [[]]
    rw [← hws] at hgr
    obtain ⟨t, htt⟩ : ∃ t, ts.getD i [] = t := ⟨_, rfl⟩
    rw [htt] at ra hgr
    by_cases hc : t = [58]
    · have e : decide (t = [58]) = true := by simpa using hc
      have k4 := (Keeps.refl K).alloc (.cells true false 1 [gv] 25)
      simp (disch := first | assumption | omega | (simp only [LN] <;> omega) | (simp (disch := first | assumption | omega | (simp only [LN] <;> omega)) only [row_alloc, row_set]; assumption)) only [W_block, P3, ↓reduceIte, reduceAdd, reduceEqDiff, reduceCtorEq, initFr, reduceLT, clsA, reduceLeDiff, reduceMul, reduceSub, reduceIte, ll, ra, na, a_load1v, bytes_eq, e, hfg, og]
      refine appG (hG.out.keeps k4) ⟨_, _, rfl⟩ (elems_new rfl rfl) rfl (by omega) ?_
      intro v' K2 a2 ch b2
      simp (disch := first | assumption | omega | (simp only [LN] <;> omega) | (simp (disch := first | assumption | omega | (simp only [LN] <;> omega)) only [row_alloc, row_set]; assumption)) only [W_block, P3, ↓reduceIte, reduceAdd, reduceEqDiff, reduceCtorEq, initFr, reduceLT, clsA, reduceLeDiff, reduceMul, reduceSub, reduceIte, hw]
      have c24 : Chg (blkL v) K K2 := (k4.chg _).trans ch (fun y hy => .inl hy)
      have hG2 := (hG.outer (ws' := (gv, g) :: rs) hkn c24 (by rw [outC_cons]; simpa using a2) (sl_fresh b2 rfl)).addNil
      refine hn _ _ _ ⟨i + 1, v', _, [], (gv, g) :: rs, _, _, rfl, hk.chg_trans c24 hG.2.1.L, hG2, ?_, by simp; omega, by simp, by omega, rfl⟩ (by omega)
      rw [hgr]; simp [grp, hc]
    · have e : decide (t = [58]) = false := by simpa using hc
      have hfl : fillA [.string ByteArray.empty] [(0, 1, .string ⟨t.toArray⟩)] = some [.string ⟨t.toArray⟩] := rfl
      have k4 := (Keeps.refl K).alloc (.cells true false 1 [.string ⟨t.toArray⟩] 9)
      simp (disch := first | assumption | omega | (simp only [LN] <;> omega) | (simp (disch := first | assumption | omega | (simp only [LN] <;> omega)) only [row_alloc, row_set]; assumption)) only [W_block, P3, ↓reduceIte, reduceAdd, reduceEqDiff, reduceCtorEq, initFr, reduceLT, clsA, reduceLeDiff, reduceMul, reduceSub, reduceIte, ll, ra, na, a_load1v, bytes_eq, e, hfl]
      refine appG (hG.top.keeps k4) ⟨_, _, rfl⟩ (elems_new rfl rfl) rfl (by dsimp only; omega) ?_
      intro u' K2 a2 ch b2
      have c24 : Chg (blkL gv) K K2 := (k4.chg _).trans ch (fun y hy => .inl hy)
      have hr := hG.row (g' := g ++ [t]) hkn c24 (by simpa [txs_app] using a2) (sl_fresh b2 rfl)
      simp (disch := first | assumption | omega | (simp only [LN] <;> omega) | (simp (disch := first | assumption | omega | (simp only [LN] <;> omega)) only [row_alloc, row_set]; assumption)) only [W_block, P3, ↓reduceIte, reduceAdd, reduceEqDiff, reduceCtorEq, initFr, reduceLT, clsA, reduceLeDiff, reduceMul, reduceSub, reduceIte, hw]
      refine hn _ _ _ ⟨i + 1, v, u', g ++ [t], rs, _, _, rfl, hk.chg_trans c24 (fun y hy => hG.2.2 (gv, g) (by simp) y (mem_blkL.1 hy)), hr, ?_, by omega, by simp; omega, by omega, rfl⟩ (by omega)
      rw [hgr]; simp [grp, hc]
  · have c1 : ¬ (i : Int) < ((ts.length : Nat) : Int) := by omega
    have k4 := (Keeps.refl K).alloc (.cells true false 1 [gv] 25)
    simp (disch := first | assumption | omega | (simp only [LN] <;> omega) | (simp (disch := first | assumption | omega | (simp only [LN] <;> omega)) only [row_alloc, row_set]; assumption)) only [W_block, P3, ↓reduceIte, reduceAdd, reduceEqDiff, reduceCtorEq, initFr, reduceLT, clsA, reduceLeDiff, reduceMul, reduceSub, reduceIte, ll]
    refine hx 0 _ _ ?_
    simp (disch := first | assumption | omega | (simp only [LN] <;> omega) | (simp (disch := first | assumption | omega | (simp only [LN] <;> omega)) only [row_alloc, row_set]; assumption)) only [W_block, P3, ↓reduceIte, reduceAdd, reduceEqDiff, reduceCtorEq, initFr, reduceLT, clsA, reduceLeDiff, reduceMul, reduceSub, reduceIte, hfg, og]
    refine appG (hG.out.keeps k4) ⟨_, _, rfl⟩ (elems_new rfl rfl) rfl (by omega) ?_
    intro v' K2 a2 ch b2
    simp (disch := first | assumption | omega | (simp only [LN] <;> omega) | (simp (disch := first | assumption | omega | (simp only [LN] <;> omega)) only [row_alloc, row_set]; assumption)) only [W_block, P3, ↓reduceIte, reduceAdd, reduceEqDiff, reduceCtorEq, initFr, reduceLT, clsA, reduceLeDiff, reduceMul, reduceSub, reduceIte]
    have c24 : Chg (blkL v) K K2 := (k4.chg _).trans ch (fun y hy => .inl hy)
    have hG2 := hG.outer (ws' := (gv, g) :: rs) hkn c24 (by rw [outC_cons]; simpa using a2) (sl_fresh b2 rfl)
    refine hq2 _ _ ⟨_, rfl, hk.chg_trans c24 hG.2.1.L, (gv, g) :: rs, hG2, ?_⟩
    rw [List.map_cons, hws, List.take_of_length_le (by omega)]
    rfl
end Go.AM.Fd

set_option linter.unusedSimpArgs false
set_option linter.unusedVariables false
set_option maxRecDepth 4000
namespace Go.AM.Fd
open Nat (reduceAdd reduceEqDiff reduceLT reduceLeDiff reduceMul reduceSub)
open Go.Proofs Go.AM.F
def W1 : List UInt8 := [32, 114, 111, 117, 116, 101, 32, 82, 49, 32, 32, 58, 32, 83, 50, 32, 35, 32, 120]
def W2 : List (List UInt8) := [[114, 111, 117, 116, 101], [82, 49], [58], [83, 50]]
def G1 : List (List UInt8) := [[97], [58], [98], [99], [58]]
theorem w1_ok : okW (aheadB W1) = true := by kernel_rfl
theorem w1_w : wordsB (aheadB W1) = W2 := by kernel_rfl
theorem w2_ok : okW (aheadB [255]) = false := by kernel_rfl
theorem g1_g : groupsB G1 = [[[97]], [[98], [99]], []] := by kernel_rfl
theorem r1 : rightB [71, 108, 101, 105, 115, 95, 55] = true := by kernel_rfl
theorem r2 : rightB [97, 32, 98] = false := by kernel_rfl
theorem tl_new {H : AHeap} {room : Bool} {ts : List (List UInt8)} : TL (H.alloc (.cells true room 1 (txs ts) 9)) (slc H.n 0 ts.length ts.length) ts :=
  AP.tl (.inr ⟨H.n, room, rfl, by simp [txs_len], AHeap.get_alloc_new _ _⟩)
theorem t12 (H : AHeap) : ∃ w K, ARun Go.Proofs.Tryd.prog 3 12 [] H w K ∧ w = .bool true ∧ K = H := by
  suffices h : ∃ w K, ARun Go.Proofs.Tryd.prog 3 12 [] H w K ∧ w = .bool true ∧ Keeps H K by
    obtain ⟨_, _, a, rfl, k⟩ := h
    exact ⟨_, _, a.gc0 k (.inr (.bool _)), rfl, rfl⟩
  refine walk2 f12_ok f12_n ?_
  intro Q hq1 hq2
  simp (disch := first | assumption | omega | (simp only [LN] <;> omega) | (simp (disch := first | assumption | omega | (simp only [LN] <;> omega)) only [row_alloc, row_set]; assumption)) only [f12, W_block, P3, ↓reduceIte, reduceAdd, reduceEqDiff, reduceCtorEq, initFr, reduceLT, clsA, reduceLeDiff, reduceMul, reduceSub, reduceIte]
  refine callK (t15 H W1 (by decide)) ?_
  rintro _ K1 ⟨k1, hw⟩
  rw [w1_ok, w1_w] at hw
  simp only [if_true] at hw
  obtain ⟨v, rfl, av, fv⟩ := hw
  simp (disch := first | assumption | omega | (simp only [LN] <;> omega) | (simp (disch := first | assumption | omega | (simp only [LN] <;> omega)) only [row_alloc, row_set]; assumption)) only [W_block, P3, ↓reduceIte, reduceAdd, reduceEqDiff, reduceCtorEq, initFr, reduceLT, clsA, reduceLeDiff, reduceMul, reduceSub, reduceIte]
  refine callK (t15 K1 [255] (by decide)) ?_
  rintro _ K2 ⟨k2, hw⟩
  rw [w2_ok] at hw
  simp only [Bool.false_eq_true, if_false] at hw
  subst hw
  have hf1 : fillA [.string ByteArray.empty, .string ByteArray.empty, .string ByteArray.empty, .string ByteArray.empty, .string ByteArray.empty] [(0, 1, .string ⟨#[97]⟩), (1, 1, .string ⟨#[58]⟩), (2, 1, .string ⟨#[98]⟩), (3, 1, .string ⟨#[99]⟩), (4, 1, .string ⟨#[58]⟩)] = some (txs G1) := rfl
  have ho1 : (txs G1).all Value.oneCell' = true := rfl
  have hl1 : (txs G1).length = 5 := rfl
  simp (disch := first | assumption | omega | (simp only [LN] <;> omega) | (simp (disch := first | assumption | omega | (simp only [LN] <;> omega)) only [row_alloc, row_set]; assumption)) only [W_block, P3, ↓reduceIte, reduceAdd, reduceEqDiff, reduceCtorEq, initFr, reduceLT, clsA, reduceLeDiff, reduceMul, reduceSub, reduceIte, hf1, ho1, hl1]
  refine callK (t18 (ts := G1) tl_new (by decide)) ?_
  rintro gv K3 ⟨k3, ws, hG, hws⟩
  rw [g1_g] at hws
  have hmap : ws.map (·.2) = [[], [[98], [99]], [[97]]] := by rw [← List.reverse_reverse (ws.map (·.2)), hws]; rfl
  obtain ⟨u3, u2, u1, rfl⟩ : ∃ u3 u2 u1, ws = [(u3, []), (u2, [[98], [99]]), (u1, [[97]])] := by
    match ws, hmap with
    | [(a, x), (b, y), (c, z)], h =>
      simp only [List.map_cons, List.map_nil, List.cons.injEq, and_true] at h
      obtain ⟨rfl, rfl, rfl⟩ := h
      exact ⟨a, b, c, rfl⟩
  have au2 : AP K3 9 1 u2 2 (txs [[98], [99]]) := hG.1.all (thG (u2, [[98], [99]])) (by simp)
  have au3 : AP K3 9 1 u3 0 (txs []) := hG.1.all (thG (u3, [])) (by simp)
  obtain ⟨a2, e2⟩ := au2.shape
  obtain ⟨a3, e3⟩ := au3.shape
  rcases hG.out with ⟨_, hz, _⟩ | ⟨b, room, rfl, hlen, hget⟩
  · simp at hz
  have hb3 := AHeap.get_lt hget
  have k4 : Keeps K1 K3 := (k2.trans ((Keeps.refl K2).alloc _)).trans k3
  have tlv : TL K3 v W2 := TL.keeps (AP.tl (av : AP K1 9 1 v W2.length (txs W2))) k4
  have hf2 : fillA [.string ByteArray.empty, .string ByteArray.empty, .string ByteArray.empty, .string ByteArray.empty] [(0, 1, .string ⟨#[114, 111, 117, 116, 101]⟩), (1, 1, .string ⟨#[82, 49]⟩), (2, 1, .string ⟨#[58]⟩), (3, 1, .string ⟨#[83, 50]⟩)] = some (txs W2) := rfl
  have ho2 : (txs W2).all Value.oneCell' = true := rfl
  have hl2 : (txs W2).length = 4 := rfl
  simp (disch := first | assumption | omega | (simp only [LN] <;> omega) | (simp (disch := first | assumption | omega | (simp only [LN] <;> omega)) only [row_alloc, row_set]; assumption)) only [W_block, P3, ↓reduceIte, reduceAdd, reduceEqDiff, reduceCtorEq, initFr, reduceLT, clsA, reduceLeDiff, reduceMul, reduceSub, reduceIte, hf2, ho2, hl2]
  refine callK (t17 (a := W2) (b := W2) (tlv.keeps ((Keeps.refl K3).alloc _)) tl_new (by decide)) ?_
  rintro _ K4 ⟨rfl, rfl⟩
  have hd : decide (W2 = W2) = true := by simp
  simp (disch := first | assumption | omega | (simp only [LN] <;> omega) | (simp (disch := first | assumption | omega | (simp only [LN] <;> omega)) only [row_alloc, row_set]; assumption)) only [W_block, P3, ↓reduceIte, reduceAdd, reduceEqDiff, reduceCtorEq, initFr, reduceLT, clsA, reduceLeDiff, reduceMul, reduceSub, reduceIte, hd]
  refine callK (t13 _ [71, 108, 101, 105, 115, 95, 55] (by decide)) ?_
  rintro _ K5 ⟨rfl, rfl⟩
  simp (disch := first | assumption | omega | (simp only [LN] <;> omega) | (simp (disch := first | assumption | omega | (simp only [LN] <;> omega)) only [row_alloc, row_set]; assumption)) only [W_block, P3, ↓reduceIte, reduceAdd, reduceEqDiff, reduceCtorEq, initFr, reduceLT, clsA, reduceLeDiff, reduceMul, reduceSub, reduceIte, r1]
  refine callK (t13 _ [97, 32, 98] (by decide)) ?_
  rintro _ K5 ⟨rfl, rfl⟩
  have hc1 : cellO (K3.get b) (Int.toNat 1) = some u2 := by rw [hget]; rfl
  have hc2 : cellO (K3.get b) (Int.toNat 2) = some u3 := by rw [hget]; rfl
  have n2 : (((2 : Nat) : Int) == 2) = true := rfl
  have n3 : (((3 : Nat) : Int) == 3) = true := rfl
  have n0 : (((0 : Nat) : Int) == 0) = true := rfl
  simp (disch := first | assumption | omega | (simp only [LN] <;> omega) | (simp (disch := first | assumption | omega | (simp only [LN] <;> omega)) only [row_alloc, row_set]; assumption)) only [W_block, P3, ↓reduceIte, reduceAdd, reduceEqDiff, reduceCtorEq, initFr, reduceLT, clsA, reduceLeDiff, reduceMul, reduceSub, reduceIte, r2, hc1, hc2, e2, e3, n2, n0, n3]
  exact hq2 _ _ ⟨_, rfl, rfl, (k1.trans k4).alloc _⟩
end Go.AM.Fd
