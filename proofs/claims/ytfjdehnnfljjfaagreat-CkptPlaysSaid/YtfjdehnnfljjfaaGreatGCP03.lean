/- Part of the proof. -/
import Derived.Test.YtfjdehnnfljjfaaGreatGCP02
import Derived.Laws.Externs
set_option linter.unusedSimpArgs false
set_option linter.unusedVariables false
set_option linter.unusedSimpArgs false
set_option linter.unusedVariables false
namespace Go.AM
section
variable {P : Program} {ng : Nat} {H H' : AHeap} {Q : AQ} {fr tm : List Value}
def cellO (g : Option AO) (o : Nat) : Option Value := match g with
  | some (.cells _ _ _ c _) => c[o]?
  | _ => none
def rangeO (g : Option AO) (o n : Nat) : Option (List Value) := match g with
  | some (.cells _ _ _ c _) => if o + n ≤ c.length then some ((c.drop o).take n) else none
  | _ => none
theorem cellA_e (H : AHeap) (b o : Nat) : cellA H b o = cellO (H.get b) o := by unfold cellA cellO; rfl
theorem rangeA_e (H : AHeap) (b o n : Nat) : rangeA H b o n = rangeO (H.get b) o n := by unfold rangeA rangeO; rfl
theorem cellO_c (own room : Bool) (esz e : Nat) (c : List Value) (o : Nat) : cellO (some (.cells own room esz c e)) o = c[o]? := _root_.id rfl
theorem rangeO_c (own room : Bool) (esz e : Nat) (c : List Value) (o n : Nat) : rangeO (some (.cells own room esz c e)) o n = if o + n ≤ c.length then some ((c.drop o).take n) else none := _root_.id rfl
def st1O (H : AHeap) (b o : Nat) (x : Value) (g : Option AO) : Option (Value × AHeap) := match g with
  | some (.cells true room esz c e) => if o < c.length ∧ x.oneCell' = true then some (undef, H.set b (.cells true room esz (c.set o x) e)) else none
  | _ => none
def stnO (H : AHeap) (b o n : Nat) (x : List Value) (g : Option AO) : Option (Value × AHeap) := match g with
  | some (.cells true room esz c e) => if o + n ≤ c.length ∧ x.length = n ∧ x.all Value.oneCell' = true then some (undef, H.set b (.cells true room esz (c.take o ++ x ++ c.drop (o + n)) e)) else none
  | _ => none
theorem a_store1e (H : AHeap) (b o : Nat) (x : Value) : asem (.store1 (ptr b o) x) H = st1O H b o x (H.get b) := by
  unfold st1O
  rfl
theorem a_storene (H : AHeap) (b o n : Nat) (x : Value) : asem (.storen n (ptr b o) x) H = stnO H b o n x.cells.toList (H.get b) := by
  unfold stnO
  rfl
theorem st1O_c (b o : Nat) (x : Value) (room : Bool) (esz e : Nat) (c : List Value) : st1O H b o x (some (.cells true room esz c e)) = if o < c.length ∧ x.oneCell' = true then some (undef, H.set b (.cells true room esz (c.set o x) e)) else none := by
  unfold st1O; rfl
theorem stnO_c (b o n : Nat) (x : List Value) (room : Bool) (esz e : Nat) (c : List Value) : stnO H b o n x (some (.cells true room esz c e)) = if o + n ≤ c.length ∧ x.length = n ∧ x.all Value.oneCell' = true then some (undef, H.set b (.cells true room esz (c.take o ++ x ++ c.drop (o + n)) e)) else none := by
  unfold stnO; rfl
theorem rng_full {own room : Bool} {esz e n : Nat} {c : List Value} (h : c.length = n) : rangeO (some (.cells own room esz c e)) 0 n = some c := by
  rw [rangeO_c, if_pos (by omega), List.drop_zero, List.take_of_length_le (by omega)]
theorem rng_part {own room : Bool} {esz e o n : Nat} {c : List Value} (h : c.length ≠ n) : rangeO (some (.cells own room esz c e)) o n = if o + n ≤ c.length then some ((c.drop o).take n) else none := rangeO_c ..
theorem stn_full {b n : Nat} {x : List Value} {room : Bool} {esz e : Nat} {c : List Value} (h : c.length = n) : stnO H b 0 n x (some (.cells true room esz c e)) = if x.length = n ∧ x.all Value.oneCell' = true then some (undef, H.set b (.cells true room esz x e)) else none := by
  rw [stnO_c]
  by_cases hx : x.length = n ∧ x.all Value.oneCell' = true
  · rw [if_pos ⟨by omega, hx⟩, if_pos hx, List.take_zero, List.nil_append, List.drop_of_length_le (by omega), List.append_nil]
  · rw [if_neg (fun h => hx h.2), if_neg hx]
theorem stn_part {b o n : Nat} {x : List Value} {room : Bool} {esz e : Nat} {c : List Value} (h : c.length ≠ n) : stnO H b o n x (some (.cells true room esz c e)) = if o + n ≤ c.length ∧ x.length = n ∧ x.all Value.oneCell' = true then some (undef, H.set b (.cells true room esz (c.take o ++ x ++ c.drop (o + n)) e)) else none := stnO_c ..
theorem cells_agg (l : List Value) : (Value.agg l.toArray).cells.toList = l := by simp [Value.cells]
theorem toList_arr (l : List Value) : l.toArray.toList = l := by simp
theorem size_arr (l : List Value) : l.toArray.size = l.length := by simp
theorem g_new {b : Nat} (o : AO) (h : b = H.n) : (H.alloc o).get b = some o := by subst h; exact AHeap.get_alloc_new H o
theorem g_old {b : Nat} (o : AO) (h : b < H.n) : (H.alloc o).get b = H.get b := AHeap.get_alloc_old H o h
theorem g_set (b : Nat) (o : AO) : (H.set b o).get b = (H.get b).map fun _ => o := by
  by_cases hb : b < H.n
  · by_cases h : H.n - 1 - b < H.l.length
    · simp [AHeap.get, AHeap.set, hb, h]
    · simp only [AHeap.get, AHeap.set, hb, if_true, List.getElem?_eq_none (Nat.le_of_not_lt h), Option.map_none]
      exact List.getElem?_eq_none (by simpa using Nat.le_of_not_lt h)
  · simp [AHeap.get, AHeap.set, hb]
theorem g_sets {b b' : Nat} (o : AO) (h : b' ≠ b) (h2 : b < H.n) : (H.set b o).get b' = H.get b' := AHeap.get_set_other H h h2 o
theorem set_new {b : Nat} (o o' : AO) (h : b = H.n) : (H.alloc o).set b o' = H.alloc o' := by subst h; exact alloc_set H o o'
theorem set_old {b : Nat} (o o' : AO) (h : b < H.n) : (H.alloc o).set b o' = (H.set b o').alloc o := by
  simp only [AHeap.alloc, AHeap.set, show H.n + 1 - 1 - b = (H.n - 1 - b) + 1 by omega, List.set_cons_succ]
theorem set_set (b : Nat) (o o' : AO) : (H.set b o).set b o' = H.set b o' := by simp [AHeap.set]
theorem lt_yes {a b : Nat} (h : a < b) : (a < b) = True := by simp [h]
theorem le_yes {a b : Nat} (h : a ≤ b) : (a ≤ b) = True := by simp [h]
theorem eqn_yes {a b : Nat} (h : a = b) : (a = b) = True := by simp [h]
theorem lti_yes {a b : Int} (h : a < b) : (a < b) = True := by simp [h]
theorem lei_yes {a b : Int} (h : a ≤ b) : (a ≤ b) = True := by simp [h]
theorem lti_no {a b : Int} (h : ¬ a < b) : (a < b) = False := by simp [h]
theorem lei_no {a b : Int} (h : ¬ a ≤ b) : (a ≤ b) = False := by simp [h]
theorem beqi_no {a b : Int} (h : ¬ a = b) : (a == b) = false := by simp [h]
theorem beqi_yes {a b : Int} (h : a = b) : (a == b) = true := by simp [h]
theorem bnei_no {a b : Int} (h : a = b) : (a != b) = false := by simp [h]
theorem bnei_yes {a b : Int} (h : ¬ a = b) : (a != b) = true := by simp [h]
theorem bi_u (b : Bool) : boolIs undef b = false := by cases b <;> rfl
theorem boolIs_t (b : Bool) : boolIs (.bool b) true = b := by cases b <;> rfl
theorem boolIs_f (b : Bool) : boolIs (.bool b) false = !b := by cases b <;> rfl
theorem callK {f : FuncId} {xs : List Value} {R K : Value → AHeap → Prop} (h : ∃ v H', ARun P ng f xs H v H' ∧ R v H') (k : ∀ v H', R v H' → K v H') : ∃ v H', ARun P ng f xs H v H' ∧ K v H' := by
  obtain ⟨v, H', h1, h2⟩ := h; exact ⟨v, H', h1, k v H' h2⟩
def bn (v : Value) : Nat := match blk v with
  | some b => b + 1
  | none => 0
def elP (v : Value) (esz j off : Nat) : Value := match v with
  | .slice (some ⟨b, o, none⟩) _ _ => ptr b (o + j * esz + off)
  | _ => undef
def nnS (v : Value) : Bool := match v with
  | .slice (some ⟨_, _, none⟩) _ _ => true
  | _ => false
def lenS (v : Value) : Nat := match v with
  | .slice _ n _ => n
  | _ => 0
def isS (v : Value) : Bool := match v with
  | .slice _ _ _ => true
  | _ => false
def rowA (H : AHeap) (esz : Nat) (v : Value) (j : Nat) : Option (List Value) := match v with
  | .slice (some ⟨b, o, none⟩) _ _ => rangeA H b (o + j * esz) esz
  | _ => none
theorem nnS_inv {v : Value} (h : nnS v = true) : ∃ b o n k, v = slc b o n k := by
  unfold nnS at h
  split at h
  · exact ⟨_, _, _, _, rfl⟩
  · cases h
theorem isS_inv {v : Value} (h : isS v = true) : ∃ a n k, v = .slice a n k := by
  unfold isS at h
  split at h
  · exact ⟨_, _, _, rfl⟩
  · cases h
theorem a_lenv {v : Value} (h : isS v = true) : asem (.len false v) H = some (.int .i64 (lenS v), H) := by
  obtain ⟨a, n, k, rfl⟩ := isS_inv h; rfl
theorem a_iaddrv {v : Value} {esz : Nat} {kd : IntKind} {i : Int} (h : nnS v = true) (h1 : 0 ≤ i) (h2 : i < (lenS v : Int)) : asem (.iaddr esz v (.int kd i)) H = some (elP v esz i.toNat 0, H) := by
  obtain ⟨b, o, n, k, rfl⟩ := nnS_inv h
  rw [a_iaddr, if_pos ⟨h1, h2⟩]; rfl
theorem a_faddrv {v : Value} {esz j off d : Nat} (h : nnS v = true) : asem (.faddr d (elP v esz j off)) H = some (elP v esz j (off + d), H) := by
  obtain ⟨b, o, n, k, rfl⟩ := nnS_inv h
  show asem (.faddr d (ptr b (o + j * esz + off))) H = _
  rw [a_faddr, Nat.add_assoc]; rfl
theorem rowA_range {v : Value} {esz j : Nat} {r : List Value} (h : rowA H esz v j = some r) : ∃ b o n k, v = slc b o n k ∧ r.length = esz ∧ ∃ own room z c e, H.get b = some (.cells own room z c e) ∧ o + j * esz + esz ≤ c.length ∧ r = (c.drop (o + j * esz)).take esz := by
  unfold rowA at h
  split at h
  · rename_i b o n k
    refine ⟨b, o, n, k, rfl, ?_⟩
    unfold rangeA at h
    split at h
    · rename_i own room z c e hg
      split at h
      · rename_i hl
        simp only [Option.some.injEq] at h; subst h
        exact ⟨by rw [List.length_take, List.length_drop]; omega, own, room, z, c, e, hg, hl, rfl⟩
      · cases h
    · cases h
  · cases h
theorem a_load1v {v : Value} {esz j off : Nat} {r : List Value} (h : rowA H esz v j = some r) (ho : off < esz) : asem (.load1 (elP v esz j off)) H = r[off]?.map fun x => (x, H) := by
  obtain ⟨b, o, n, k, rfl, h1, own, room, z, c, e, h2, h3, h4⟩ := rowA_range h
  show asem (.load1 (ptr b (o + j * esz + off))) H = _
  rw [a_load1, cellA_of h2, h4, List.getElem?_take_of_lt ho, List.getElem?_drop]
theorem a_loadnv {v : Value} {esz j off n : Nat} {r : List Value} (h : rowA H esz v j = some r) (ho : off + n ≤ esz) : asem (.loadn n (elP v esz j off)) H = some (.agg ((r.drop off).take n).toArray, H) := by
  obtain ⟨b, o, n', k, rfl, h1, own, room, z, c, e, h2, h3, h4⟩ := rowA_range h
  show asem (.loadn n (ptr b (o + j * esz + off))) H = _
  rw [a_loadn, rangeA_of h2, if_pos (by omega), h4, List.drop_take, List.take_take, List.drop_drop, Nat.min_eq_left (by omega)]
  rfl
theorem a_loadnvf {v : Value} {n j : Nat} {r : List Value} (h : rowA H n v j = some r) : asem (.loadn n (elP v n j 0)) H = some (.agg r.toArray, H) := by
  obtain ⟨_, _, _, _, _, hl, _⟩ := rowA_range h
  rw [a_loadnv h (by omega), List.drop_zero, List.take_of_length_le (by omega)]
theorem a_loadnvp {v : Value} {esz j off n : Nat} {r : List Value} (hne : n ≠ esz) (h : rowA H esz v j = some r) (ho : off + n ≤ esz) : asem (.loadn n (elP v esz j off)) H = some (.agg ((r.drop off).take n).toArray, H) := a_loadnv h ho
theorem stD_callv {KF : List Value → AHeap → Prop} {tr : List TE} (g : FuncId) (first cap : Array Value) (xs : List Value) (d : D) (un : List Nat) (r : List (AOper × List Nat)) : stD P ng (.callv (.func (.func g) first cap) xs) d un r fr tm H tr KF = callD P ng g (first.toList ++ xs ++ cap.toList) d un r fr tm H tr KF := _root_.id rfl
theorem reads_el {v : Value} {esz j off : Nat} (h : nnS v = true) : readsA (.load1 (elP v esz j off)) = [bn v - 1] := by
  obtain ⟨b, o, n', k, rfl⟩ := nnS_inv h; rfl
theorem readsn_el {v : Value} {esz j off n : Nat} (h : nnS v = true) : readsA (.loadn n (elP v esz j off)) = [bn v - 1] := by
  obtain ⟨b, o, n', k, rfl⟩ := nnS_inv h; rfl
theorem rowA_get {esz : Nat} {v : Value} {j : Nat} (h : ∀ b, blk v = some b → H'.get b = H.get b) : rowA H' esz v j = rowA H esz v j := by
  unfold rowA
  split
  · rename_i b o n k
    rw [rangeA_e, rangeA_e, h b rfl]
  · rfl
theorem bn_lt {v : Value} {n b : Nat} (h : bn v ≤ n) (e : blk v = some b) : b < n := by
  unfold bn at h; rw [e] at h; exact h
theorem row_alloc {esz : Nat} {v : Value} {j : Nat} (o : AO) (h : bn v ≤ H.n) : rowA (H.alloc o) esz v j = rowA H esz v j := rowA_get fun b e => g_old o (bn_lt h e)
theorem row_set {esz : Nat} {v : Value} {j b : Nat} (o : AO) (h : bn v ≠ b + 1) (hb : b < H.n) : rowA (H.set b o) esz v j = rowA H esz v j := rowA_get fun x e => g_sets o (by intro hx; subst hx; apply h; unfold bn; rw [e]) hb
structure Sl (H : AHeap) (esz : Nat) (v : Value) (rows : List (List Value)) : Prop where
  sh : ∃ a k, v = .slice a rows.length k
  row : ∀ r ∈ rows, r.length = esz
  el : elemsA H esz v = some rows.flatten
theorem Sl.len {esz : Nat} {v : Value} {rows : List (List Value)} (h : Sl H esz v rows) : lenS v = rows.length := by
  obtain ⟨a, k, rfl⟩ := h.sh; rfl
theorem Sl.is {esz : Nat} {v : Value} {rows : List (List Value)} (h : Sl H esz v rows) : isS v = true := by
  obtain ⟨a, k, rfl⟩ := h.sh; rfl
theorem Sl.nil (H : AHeap) (esz : Nat) : Sl H esz (.slice none 0 0) [] := ⟨⟨_, _, rfl⟩, by simp, rfl⟩
theorem flat_len {esz : Nat} : ∀ {rows : List (List Value)}, (∀ r ∈ rows, r.length = esz) → rows.flatten.length = rows.length * esz
  | [], _ => by simp
  | r :: rows, h => by
    have h1 := h r (by simp)
    have h2 := flat_len (rows := rows) (fun x hx => h x (by simp [hx]))
    rw [List.flatten_cons, List.length_append, h1, h2, List.length_cons, Nat.add_mul]; omega
theorem flat_at {esz : Nat} : ∀ {rows : List (List Value)}, (∀ r ∈ rows, r.length = esz) → ∀ (i : Nat) (hi : i < rows.length), (rows.flatten.drop (i * esz)).take esz = rows[i]
  | r :: rows, h, 0, _ => by
    have h1 := h r (by simp)
    rw [Nat.zero_mul, List.drop_zero, List.flatten_cons, List.take_append_of_le_length (by omega), List.take_of_length_le (by omega)]; rfl
  | r :: rows, h, i + 1, hi => by
    have h1 := h r (by simp)
    have h2 := flat_at (rows := rows) (fun x hx => h x (by simp [hx])) i (by simpa using hi)
    rw [Nat.add_mul, Nat.one_mul, Nat.add_comm, ← List.drop_drop, List.flatten_cons]
    rw [show (r ++ rows.flatten).drop esz = rows.flatten by rw [← h1, List.drop_left], h2]
    rfl
theorem Sl.at_ {esz : Nat} {v : Value} {rows : List (List Value)} (h : Sl H esz v rows) (hz : 0 < esz) {i : Nat} (hi : i < rows.length) : nnS v = true ∧ rowA H esz v i = some rows[i] := by
  have h2 := h.el
  have hfl := flat_len h.row
  have hpos : 0 < rows.flatten.length := by rw [hfl]; exact Nat.mul_pos (by omega) hz
  obtain ⟨a, k, rfl⟩ := h.sh
  match a, h2 with
  | none, h2 => simp only [elemsA, Option.some.injEq] at h2; rw [← h2] at hpos; simp at hpos
  | some ⟨b, o, some q⟩, h2 =>
    simp only [elemsA] at h2
    rw [if_neg (by omega)] at h2; cases h2
  | some ⟨b, o, none⟩, h2 =>
    refine ⟨rfl, ?_⟩
    simp only [elemsA] at h2
    simp only [rowA, rangeA]
    split at h2
    · rename_i own room z c e hg
      split at h2
      · rename_i hl
        have hm : (i + 1) * esz ≤ rows.length * esz := Nat.mul_le_mul_right esz hi
        rw [Nat.add_mul, Nat.one_mul] at hm
        rw [if_pos (by omega)]
        simp only [Option.some.injEq] at h2
        have := flat_at h.row i hi
        rw [← h2, List.drop_take, List.take_take, List.drop_drop, Nat.min_eq_left (by omega)] at this
        rw [this]
      · cases h2
    · cases h2
theorem Sl.get' {esz : Nat} {v : Value} {rows : List (List Value)} (h : Sl H esz v rows) (k : ∀ b, blk v = some b → b < H.n → H'.get b = H.get b) : Sl H' esz v rows := by
  refine ⟨h.sh, h.row, ?_⟩
  have h2 := h.el
  obtain ⟨a, c, rfl⟩ := h.sh
  match a, h2 with
  | none, h2 => exact h2
  | some ⟨b, o, none⟩, h2 =>
    simp only [elemsA] at h2 ⊢
    cases hg : H.get b with
    | none => rw [hg] at h2; cases h2
    | some ob => rw [k b rfl (AHeap.get_lt hg)]; exact h2
  | some ⟨b, o, some _⟩, h2 => simpa [elemsA] using h2
theorem Sl.keeps {esz : Nat} {v : Value} {rows : List (List Value)} (h : Sl H esz v rows) (k : Keeps H H') : Sl H' esz v rows := h.get' fun b _ hb => k.get b hb
theorem BS.sl {v : Value} {l : List UInt8} (h : BS H v l) : Sl H 1 v (l.map fun b => [.int .u8 b.toNat]) := by
  obtain ⟨a, k, e⟩ := h.sh
  refine ⟨⟨a, k, by rw [List.length_map]; exact e⟩, ?_, ?_⟩
  · intro r hr; simp at hr; obtain ⟨b, _, rfl⟩ := hr; rfl
  · rw [h.el]
    congr 1
    clear h e
    induction l with
    | nil => rfl
    | cons b l ih => simp only [List.map_cons, List.flatten_cons, ← ih]; rfl
theorem AP.sl {e esz : Nat} {v : Value} {n : Nat} {rows : List (List Value)} (h : AP H e esz v n rows.flatten) (hr : ∀ r ∈ rows, r.length = esz) (hn : n = rows.length) : Sl H esz v rows := by
  obtain ⟨a, ha⟩ := h.shape
  exact ⟨⟨a, n, by rw [← hn]; exact ha⟩, hr, h.elems⟩
section
variable {KF : List Value → AHeap → Prop} {tr : List TE} (d : D) (r : List AOper) (un : List Nat) (rd : List (AOper × List Nat))
theorem st_app (e s b : Nat) (x y : Value) : stR P ng (.app e s b x y) d r fr tm H KF = goR P ng (asem (.app e s b x y) H) d r fr tm KF := st_of d r (by simp) (by simp) (by simp)
theorem st_apps (e b : Nat) (x y : Value) : stR P ng (.apps e b x y) d r fr tm H KF = goR P ng (asem (.apps e b x y) H) d r fr tm KF := st_of d r (by simp) (by simp) (by simp)
theorem sd_apps (e b : Nat) (x y : Value) : stD P ng (.apps e b x y) d un rd fr tm H tr KF = goD P ng (.apps e b x y) (asem (.apps e b x y) H) d un rd fr tm H tr KF := stD_of d un rd (by simp) (by simp) (by simp)
theorem st_iaddrp (s n : Nat) (x i : Value) : stR P ng (.iaddrp s n x i) d r fr tm H KF = goR P ng (asem (.iaddrp s n x i) H) d r fr tm KF := st_of d r (by simp) (by simp) (by simp)
theorem sd_iaddrp (s n : Nat) (x i : Value) : stD P ng (.iaddrp s n x i) d un rd fr tm H tr KF = goD P ng (.iaddrp s n x i) (asem (.iaddrp s n x i) H) d un rd fr tm H tr KF := stD_of d un rd (by simp) (by simp) (by simp)
theorem st_idxa (a : Bool) (s n : Nat) (x i : Value) : stR P ng (.idxa a s n x i) d r fr tm H KF = goR P ng (asem (.idxa a s n x i) H) d r fr tm KF := st_of d r (by simp) (by simp) (by simp)
theorem sd_idxa (a : Bool) (s n : Nat) (x i : Value) : stD P ng (.idxa a s n x i) d un rd fr tm H tr KF = goD P ng (.idxa a s n x i) (asem (.idxa a s n x i) H) d un rd fr tm H tr KF := stD_of d un rd (by simp) (by simp) (by simp)
theorem st_slarr (s n : Nat) (x : Value) (lo hi mx : Option Value) : stR P ng (.slarr s n x lo hi mx) d r fr tm H KF = goR P ng (asem (.slarr s n x lo hi mx) H) d r fr tm KF := st_of d r (by simp) (by simp) (by simp)
theorem sd_slarr (s n : Nat) (x : Value) (lo hi mx : Option Value) : stD P ng (.slarr s n x lo hi mx) d un rd fr tm H tr KF = goD P ng (.slarr s n x lo hi mx) (asem (.slarr s n x lo hi mx) H) d un rd fr tm H tr KF := stD_of d un rd (by simp) (by simp) (by simp)
theorem st_eqs (c : List Nat) (n : Bool) (x y : Value) : stR P ng (.eqs c n x y) d r fr tm H KF = goR P ng (asem (.eqs c n x y) H) d r fr tm KF := st_of d r (by simp) (by simp) (by simp)
theorem sd_eqs (c : List Nat) (n : Bool) (x y : Value) : stD P ng (.eqs c n x y) d un rd fr tm H tr KF = goD P ng (.eqs c n x y) (asem (.eqs c n x y) H) d un rd fr tm H tr KF := stD_of d un rd (by simp) (by simp) (by simp)
theorem st_mm (m : Bool) (x y : Value) : stR P ng (.mm m x y) d r fr tm H KF = goR P ng (asem (.mm m x y) H) d r fr tm KF := st_of d r (by simp) (by simp) (by simp)
theorem sd_mm (m : Bool) (x y : Value) : stD P ng (.mm m x y) d un rd fr tm H tr KF = goD P ng (.mm m x y) (asem (.mm m x y) H) d un rd fr tm H tr KF := stD_of d un rd (by simp) (by simp) (by simp)
theorem st_i2str (x : Value) : stR P ng (.i2str x) d r fr tm H KF = goR P ng (asem (.i2str x) H) d r fr tm KF := st_of d r (by simp) (by simp) (by simp)
theorem sd_i2str (x : Value) : stD P ng (.i2str x) d un rd fr tm H tr KF = goD P ng (.i2str x) (asem (.i2str x) H) d un rd fr tm H tr KF := stD_of d un rd (by simp) (by simp) (by simp)
theorem st_rng (x : Value) : stR P ng (.rng x) d r fr tm H KF = goR P ng (asem (.rng x) H) d r fr tm KF := st_of d r (by simp) (by simp) (by simp)
theorem st_next (x : Value) : stR P ng (.next x) d r fr tm H KF = goR P ng (asem (.next x) H) d r fr tm KF := st_of d r (by simp) (by simp) (by simp)
theorem st_copy (e : Nat) (x y : Value) : stR P ng (.copy e x y) d r fr tm H KF = goR P ng (asem (.copy e x y) H) d r fr tm KF := st_of d r (by simp) (by simp) (by simp)
theorem sd_copy (e : Nat) (x y : Value) : stD P ng (.copy e x y) d un rd fr tm H tr KF = goD P ng (.copy e x y) (asem (.copy e x y) H) d un rd fr tm H tr KF := stD_of d un rd (by simp) (by simp) (by simp)
theorem st_clr (e : Nat) (z : List Value) (x : Value) : stR P ng (.clr e z x) d r fr tm H KF = goR P ng (asem (.clr e z x) H) d r fr tm KF := st_of d r (by simp) (by simp) (by simp)
end
theorem a_mm (m : Bool) (k : IntKind) (a b : Int) : asem (.mm m (.int k a) (.int k b)) H = some (.int k (if m then (if b > a then b else a) else (if b < a then b else a)), H) := by
  simp [asem]
theorem a_mmx (k : IntKind) (a b : Int) : asem (.mm true (.int k a) (.int k b)) H = some (.int k (max a b), H) := by
  rw [a_mm]; simp only [if_true]; congr 3; split <;> omega
theorem a_mmn (k : IntKind) (a b : Int) : asem (.mm false (.int k a) (.int k b)) H = some (.int k (min a b), H) := by
  rw [a_mm]; simp only [Bool.false_eq_true, if_false]; congr 3; split <;> omega
theorem a_iaddrp (esz n b o : Nat) (kd : IntKind) (i : Int) : asem (.iaddrp esz n (ptr b o) (.int kd i)) H = if 0 ≤ i ∧ i < (n : Int) then some (ptr b (o + i.toNat * esz), H) else none := _root_.id rfl
theorem a_bslicee (e esz n : Nat) (z : List Value) (ps : List (Nat × Nat × Value)) : asem (.bslice e esz n z ps) H = (fillA z ps).bind fun c => if c.all Value.oneCell' = true ∧ c.length = n * esz then some (slc H.n 0 n n, H.alloc (.cells true false esz c e)) else none := by
  simp only [asem]; cases fillA z ps <;> rfl
theorem fill_cons (c : List Value) (o n : Nat) (v : Value) (r : List (Nat × Nat × Value)) : fillA c ((o, n, v) :: r) = if v.cells.toList.length = n ∧ o + n ≤ c.length then fillA (c.take o ++ v.cells.toList ++ c.drop (o + n)) r else none := by
  simp only [fillA]
theorem cells_int (k : IntKind) (n : Int) : (Value.int k n).cells.toList = [.int k n] := _root_.id rfl
theorem cells_bool (n : Bool) : (Value.bool n).cells.toList = [.bool n] := _root_.id rfl
theorem cells_str (n : ByteArray) : (Value.string n).cells.toList = [.string n] := _root_.id rfl
theorem cells_sl (a : Option Addr) (n k : Nat) : (Value.slice a n k).cells.toList = [.slice a n k] := _root_.id rfl
theorem cells_slc (b o n k : Nat) : (slc b o n k).cells.toList = [slc b o n k] := _root_.id rfl
theorem cells_ptr (b o : Nat) : (ptr b o).cells.toList = [ptr b o] := _root_.id rfl
theorem cells_pn (a : Option Addr) : (Value.pointer a).cells.toList = [.pointer a] := _root_.id rfl
theorem cells_isS {v : Value} (h : isS v = true) : v.cells.toList = [v] := by obtain ⟨a, n, k, rfl⟩ := isS_inv h; rfl
theorem one_isS {v : Value} (h : isS v = true) : v.oneCell' = true := by obtain ⟨a, n, k, rfl⟩ := isS_inv h; rfl
theorem resC (i n : Nat) (fr : List Value) : resO [.cn n i] fr H = (celln n (fr.getD i undef) H) := by
  simp only [resO, resVs, RX.get]
  cases celln n (fr.getD i undef) H <;> rfl
theorem cellnp (n b o : Nat) : celln n (ptr b o) H = (rangeA H b o n).map fun c => .agg c.toArray := _root_.id rfl
theorem cell1p (b o : Nat) : cell1 (ptr b o) H = cellA H b o := _root_.id rfl
theorem touch_load1 (b o : Nat) (H : AHeap) : touchA (.load1 (ptr b o)) H = [b] := _root_.id rfl
theorem touch_loadn (n b o : Nat) (H : AHeap) : touchA (.loadn n (ptr b o)) H = [b] := _root_.id rfl
theorem touch_load1v {v : Value} {esz j off : Nat} (h : nnS v = true) (H : AHeap) : touchA (.load1 (elP v esz j off)) H = [bn v - 1] := by
  show readsA _ = _; exact reads_el h
theorem touch_loadnv {v : Value} {esz j off n : Nat} (h : nnS v = true) (H : AHeap) : touchA (.loadn n (elP v esz j off)) H = [bn v - 1] := by
  show readsA _ = _; exact readsn_el h
theorem keepsB_n (A B : AHeap) : keepsB [] A B = True := _root_.id rfl
theorem keepsB_c (b : Nat) (l : List Nat) (A B : AHeap) : keepsB (b :: l) A B = (B.get b = A.get b ∧ keepsB l A B) := _root_.id rfl
theorem olderB_n (A : AHeap) : olderB [] A = True := _root_.id rfl
theorem olderB_c (b : Nat) (l : List Nat) (A : AHeap) : olderB (b :: l) A = (b < A.n ∧ olderB l A) := _root_.id rfl
def ob1 (k : Nat) (bs : List Nat) (A B : AHeap) (x : Option TE) : Prop := match x with
  | some t => if k = 1 ∧ t.k = 3 then olderB bs t.H ∧ keepsB bs t.H t.H' else if k = 3 ∧ (t.k = 1 ∨ t.k = 2) then keepsB t.bs A B else True
  | none => True
theorem obl_c (k : Nat) (bs : List Nat) (A B : AHeap) (tr : List TE) (i : Nat) (un : List Nat) : oblA k bs A B tr (i :: un) = (ob1 k bs A B tr[i]? ∧ oblA k bs A B tr un) := _root_.id rfl
theorem ob1_0 (bs : List Nat) (A B : AHeap) (x : Option TE) : ob1 0 bs A B x = True := by unfold ob1; split <;> simp
theorem ob1_2 (bs : List Nat) (A B : AHeap) (x : Option TE) : ob1 2 bs A B x = True := by unfold ob1; split <;> simp
theorem ob1_s (k : Nat) (bs : List Nat) (A B : AHeap) (j : Nat) (cs : List Nat) (C D : AHeap) : ob1 k bs A B (some ⟨j, cs, C, D⟩) = if k = 1 ∧ j = 3 then olderB bs C ∧ keepsB bs C D else if k = 3 ∧ (j = 1 ∨ j = 2) then keepsB cs A B else True := _root_.id rfl
end
set_option linter.defProp false in
def A3s := (And.intro (And.intro (And.intro (And.intro (And.intro (And.intro @cellA_e @rangeA_e) (And.intro @cellO_c (And.intro @rng_full @rng_part))) (And.intro (And.intro @a_store1e (And.intro @a_storene @st1O_c)) (And.intro @stn_full (And.intro @stn_part @a_load1v)))) (And.intro (And.intro (And.intro @a_loadnvf (And.intro @a_loadnvp @stD_callv)) (And.intro @cells_agg (And.intro @toList_arr @size_arr))) (And.intro (And.intro @g_new (And.intro @g_old @g_set)) (And.intro @g_sets (And.intro @set_new @set_old))))) (And.intro (And.intro (And.intro (And.intro @set_set @alloc_n) (And.intro @set_n (And.intro @lt_yes @le_yes))) (And.intro (And.intro @eqn_yes (And.intro @lti_yes @lei_yes)) (And.intro @lti_no (And.intro @lei_no @beqi_no)))) (And.intro (And.intro (And.intro @beqi_yes (And.intro @bnei_no @bnei_yes)) (And.intro @boolIs_t (And.intro @boolIs_f @a_lenv))) (And.intro (And.intro @a_iaddrv (And.intro @a_faddrv @row_alloc)) (And.intro @row_set (And.intro @st_app @st_apps)))))) (And.intro (And.intro (And.intro (And.intro (And.intro @sd_apps @sd_app) (And.intro @st_iaddrp (And.intro @sd_iaddrp @st_idxa))) (And.intro (And.intro @sd_idxa (And.intro @st_slarr @sd_slarr)) (And.intro @st_eqs (And.intro @sd_eqs @st_mm)))) (And.intro (And.intro (And.intro @sd_mm (And.intro @st_i2str @sd_i2str)) (And.intro @st_rng (And.intro @st_next @st_copy))) (And.intro (And.intro @sd_copy (And.intro @st_clr @a_mmx)) (And.intro @a_mmn (And.intro @a_iaddrp @a_bslicee))))) (And.intro (And.intro (And.intro (And.intro @cells_int (And.intro @cells_bool @cells_str)) (And.intro @cells_sl (And.intro @cells_slc @cells_ptr))) (And.intro (And.intro @cells_pn (And.intro @touch_load1 @touch_loadn)) (And.intro @touch_load1v (And.intro @touch_loadnv @keepsB_n)))) (And.intro (And.intro (And.intro @keepsB_c (And.intro @olderB_n @olderB_c)) (And.intro @obl_nil (And.intro @obl_c @ob1_0))) (And.intro (And.intro @ob1_2 (And.intro @ob1_s @bi_u)) (And.intro @resC (And.intro @cellnp @cell1p)))))))
set_option linter.defProp false in
def A3c := (And.intro (And.intro (And.intro (And.intro @List.append_nil.{0} @List.nil_append.{0}) (And.intro @List.cons_append.{0} @decide_true)) (And.intro (And.intro @decide_false @List.drop_zero.{0}) (And.intro @Option.bind_some.{0,0} @List.toList_toArray.{0}))) (And.intro (And.intro (And.intro @implies_true.{1} @implies_true.{0}) (And.intro @not_true_eq_false @not_false_eq_true)) (And.intro (And.intro @and_false @Int.toNat_zero) (And.intro @bne_self_eq_false.{0} @Bool.not_not))))
set_option linter.defProp false in
def LN := And.intro @List.length_cons.{0} (And.intro @List.length_nil.{0} (And.intro @alloc_n @set_n))
set_option linter.defProp false in
def P3 := And.intro ANs (And.intro A3s (And.intro ANc (And.intro A3c (And.intro (And.intro (And.intro (And.intro (And.intro @AOp.map.eq_1 (And.intro @AOp.map.eq_2 @AOp.map.eq_3)) (And.intro @AOp.map.eq_4 (And.intro @AOp.map.eq_5 @AOp.map.eq_6))) (And.intro (And.intro @AOp.map.eq_7 (And.intro @AOp.map.eq_8 @AOp.map.eq_9)) (And.intro (And.intro @AOp.map.eq_10 @AOp.map.eq_11) (And.intro @AOp.map.eq_12 @AOp.map.eq_13)))) (And.intro (And.intro (And.intro @AOp.map.eq_14 (And.intro @AOp.map.eq_15 @AOp.map.eq_16)) (And.intro @AOp.map.eq_17 (And.intro @AOp.map.eq_18 @AOp.map.eq_19))) (And.intro (And.intro @AOp.map.eq_20 (And.intro @AOp.map.eq_21 @AOp.map.eq_22)) (And.intro (And.intro @AOp.map.eq_23 @AOp.map.eq_24) (And.intro @AOp.map.eq_25 @AOp.map.eq_26))))) (And.intro (And.intro (And.intro (And.intro @AOp.map.eq_27 (And.intro @AOp.map.eq_28 @AOp.map.eq_29)) (And.intro @AOp.map.eq_30 (And.intro @AOp.map.eq_31 @AOp.map.eq_32))) (And.intro (And.intro @AOp.map.eq_33 (And.intro @AOp.map.eq_34 @AOp.map.eq_35)) (And.intro (And.intro @AOp.map.eq_36 @AOp.map.eq_37) (And.intro @AOp.map.eq_38 @AOp.map.eq_39)))) (And.intro (And.intro (And.intro @AOp.map.eq_40 (And.intro @AOp.map.eq_41 @AOp.map.eq_42)) (And.intro (And.intro @AOp.map.eq_43 @AOp.map.eq_44) (And.intro @AOp.map.eq_45 @AOp.map.eq_46))) (And.intro (And.intro @AOp.map.eq_47 (And.intro (And.intro @AOp.map.eq_48 (And.intro @AOp.map.eq_49 (And.intro @AOp.map.eq_50 (And.intro @AOp.map.eq_51 (And.intro @AOp.map.eq_52 (And.intro @AOp.map.eq_53 @AOp.map.eq_54)))))) (And.intro @List.take_nil.{0} @List.take_zero.{0}))) (And.intro (And.intro @List.take_succ_cons.{0} @List.drop_nil.{0}) (And.intro @List.drop_zero.{0} @List.drop_succ_cons.{0})))))))))
end Go.AM

set_option linter.unusedSimpArgs false
set_option linter.unusedVariables false
namespace Go.AM
structure Th where
  P : AHeap → Prop
  F : List Nat
  lt : ∀ H, P H → ∀ b ∈ F, b < H.n
  st : ∀ H H', P H → H.n ≤ H'.n → (∀ b ∈ F, H'.get b = H.get b) → P H'
def Apart (a b : Th) : Prop := ∀ x ∈ a.F, x ∉ b.F
theorem Apart.symm {a b : Th} (h : Apart a b) : Apart b a := fun x h1 h2 => h x h2 h1
structure Sep (H : AHeap) (ts : List Th) : Prop where
  all : ∀ t ∈ ts, t.P H
  ap : ts.Pairwise Apart
theorem Sep.get {H : AHeap} {ts : List Th} (h : Sep H ts) (i : Nat) {t : Th} (hi : ts[i]? = some t) : t.P H := h.all t (List.mem_of_getElem? hi)
theorem Sep.keeps {H H' : AHeap} {ts : List Th} (h : Sep H ts) (k : Keeps H H') : Sep H' ts :=
  ⟨fun t ht => t.st H H' (h.all t ht) k.n (fun b hb => k.get b (t.lt H (h.all t ht) b hb)), h.ap⟩
theorem Sep.upd {H H' : AHeap} {t t' : Th} {r : List Th} : ∀ {l : List Th}, Sep H (l ++ t :: r) → Chg t.F H H' → t'.P H' → (∀ b ∈ t'.F, b ∈ t.F ∨ H.n ≤ b) → Sep H' (l ++ t' :: r) := by
  intro l h c hp hf
  have key : ∀ x, x.P H → Apart t x → Apart t' x := fun x hx ha b hb hbx => by
    rcases hf b hb with h1 | h1
    · exact ha b h1 hbx
    · have := x.lt H hx b hbx; omega
  have stay : ∀ x, x.P H → Apart t x → x.P H' := fun x hx ha => x.st H H' hx c.n (fun b hb => c.get b (x.lt H hx b hb) (fun hbt => ha b hbt hb))
  have h1 := List.pairwise_append.1 h.ap
  obtain ⟨a1, a2, a3⟩ := h1
  have a4 := List.pairwise_cons.1 a2
  refine ⟨?_, List.pairwise_append.2 ⟨a1, List.pairwise_cons.2 ⟨fun x hx => key x (h.all x (by simp [hx])) (a4.1 x hx), a4.2⟩, ?_⟩⟩
  · intro x hx
    rcases List.mem_append.1 hx with hx | hx
    · exact stay x (h.all x (by simp [hx])) (a3 x hx t (by simp)).symm
    · rcases List.mem_cons.1 hx with rfl | hx
      · exact hp
      · exact stay x (h.all x (by simp [hx])) (a4.1 x hx)
  · intro x hx y hy
    rcases List.mem_cons.1 hy with rfl | hy
    · exact (key x (h.all x (by simp [hx])) (a3 x hx t (by simp)).symm).symm
    · exact a3 x hx y (by simp [hy])
theorem Sep.apart {H : AHeap} {ts : List Th} (h : Sep H ts) (i j : Nat) (hij : i < j) {a b : Th} (hi : ts[i]? = some a) (hj : ts[j]? = some b) : Apart a b := by
  obtain ⟨h1, rfl⟩ := List.getElem?_eq_some_iff.1 hi
  obtain ⟨h2, rfl⟩ := List.getElem?_eq_some_iff.1 hj
  exact List.pairwise_iff_getElem.1 h.ap i j h1 h2 hij
theorem Sep.add {H H' : AHeap} {t : Th} {ts : List Th} (h : Sep H ts) (k : Keeps H H') (hp : t.P H') (hf : ∀ b ∈ t.F, H.n ≤ b) : Sep H' (t :: ts) :=
  ⟨fun x hx => by
    rcases List.mem_cons.1 hx with rfl | hx
    · exact hp
    · exact (h.keeps k).all x hx, List.pairwise_cons.2 ⟨fun x hx b hb hbx => by have := x.lt H (h.all x hx) b hbx; have := hf b hb; omega, h.ap⟩⟩
theorem Sep.perm {H : AHeap} {ts us : List Th} (h : Sep H ts) (p : ts.Perm us) : Sep H us :=
  ⟨fun t ht => h.all t (p.mem_iff.2 ht), p.pairwise_iff (fun {a b} hab => hab.symm) |>.1 h.ap⟩
def thB (b : Nat) (o : AO) : Th where
  P H := H.get b = some o
  F := [b]
  lt H h x hx := by simp at hx; subst hx; exact AHeap.get_lt h
  st H H' h _ k := by rw [k b (by simp)]; exact h
section
variable {P : Program} {ng : Nat} {H : AHeap} {KF : List Value → AHeap → Prop} {fr tm : List Value} {tr : List TE} {Q : AQ}
theorem appG {d : D} {r : List AOper} {e esz bytes : Nat} {s x : Value} {n m : Nat} {c news : List Value} (h : AP H e esz s n c) (hx : ∃ a k, x = .slice a m k) (h1 : elemsA H esz x = some news) (hm : news.length = m * esz)
    (hs : (n + m) * bytes ≤ 140737488355328 ∧ n + m ≤ 140737488355328)
    (hk : ∀ v' H', AP H' e esz v' (n + m) (c ++ news) → Chg (blkL s) H H' → (blk v' = blk s ∨ blk v' = some H.n) → RW P ng r (d.frame v' fr) (d.temps v' tm) H' KF) : goR P ng (asem (.app e esz bytes s x) H) d r fr tm KF := by
  rw [← st_app]; exact appR h hx h1 hm hs hk
theorem appGD {d : D} {r : List (AOper × List Nat)} {e esz bytes : Nat} {s x : Value} {n m : Nat} {c news : List Value} (h : AP H e esz s n c) (hx : ∃ a k, x = .slice a m k) (h1 : elemsA H esz x = some news) (hm : news.length = m * esz)
    (hs : (n + m) * bytes ≤ 140737488355328 ∧ n + m ≤ 140737488355328)
    (hk : ∀ v' H', AP H' e esz v' (n + m) (c ++ news) → Chg (blkL s) H H' → (blk v' = blk s ∨ blk v' = some H.n) → RD P ng r (d.frame v' fr) (d.temps v' tm) H' (tr ++ [⟨3, [], H, H'⟩]) KF) : goD P ng (.app e esz bytes s x) (asem (.app e esz bytes s x) H) d [] r fr tm H tr KF := by
  obtain ⟨v', H', e1, e2, e3, e4⟩ := h.app (bytes := bytes) hm hs
  obtain ⟨a, k, rfl⟩ := hx
  exact ⟨v', H', by simp only [asem, h1]; exact e1, trivial, hk v' H' e2 e3 e4⟩
end
theorem elems_new {H : AHeap} {own room : Bool} {esz e n : Nat} {c : List Value} {b : Nat} (hb : b = H.n) (h : c.length = n * esz) : elemsA (H.alloc (.cells own room esz c e)) esz (slc b 0 n n) = some c := by
  subst hb; exact elems_own (AHeap.get_alloc_new H _) h
theorem b_remn {kd : IntKind} {n m : Nat} (h : 0 < m) : binA .rem (.int kd (n : Int)) (.int kd (m : Int)) = some (.int kd ((n % m : Nat) : Int)) := by
  simp only [binA, if_true, intA]
  rw [if_neg (by omega)]
  rfl
def chunks (esz : Nat) : Nat → List Value → List (List Value)
  | 0, _ => []
  | n + 1, c => c.take esz :: chunks esz n (c.drop esz)
theorem chunks_len (esz : Nat) : ∀ (n : Nat) (c : List Value), (chunks esz n c).length = n
  | 0, _ => rfl
  | n + 1, c => by simp [chunks, chunks_len esz n]
theorem chunks_flat (esz : Nat) : ∀ (n : Nat) (c : List Value), (chunks esz n c).flatten = c.take (n * esz)
  | 0, _ => by simp [chunks]
  | n + 1, c => by
    rw [chunks, List.flatten_cons, chunks_flat esz n, Nat.add_mul, Nat.one_mul, Nat.add_comm (n * esz) esz, List.take_add]
theorem chunks_mem (esz : Nat) : ∀ (n : Nat) (c : List Value) (r : List Value), r ∈ chunks esz n c → ∃ i, i < n ∧ r = (c.drop (i * esz)).take esz
  | n + 1, c, r, h => by
    simp only [chunks, List.mem_cons] at h
    rcases h with rfl | h
    · exact ⟨0, by omega, by simp⟩
    · obtain ⟨i, hi, rfl⟩ := chunks_mem esz n _ r h
      exact ⟨i + 1, by omega, by rw [List.drop_drop, Nat.add_mul, Nat.one_mul, Nat.add_comm]⟩
theorem AR.rows {P : Program} {t e esz : Nat} {H : AHeap} {v : Value} (hu : P.underlying t = some (.slice e)) (hz : P.cellsOf e = esz) (h : AR P H.get t [v]) : ∃ rows, Sl H esz v rows ∧ ∀ r ∈ rows, AR P H.get e r := by
  subst hz
  rcases h.slice_inv hu with h2 | ⟨x, hx, h2⟩ | ⟨b, n, k, c, u, h2, h3, h4, h5, h6, h7, h8⟩
  · cases h2; exact ⟨[], Sl.nil _ _, by simp⟩
  · cases h2
    refine ⟨[], ⟨⟨_, _, rfl⟩, by simp, ?_⟩, by simp⟩
    obtain ⟨b, o, s⟩ := x
    cases s with
    | none => simp at hx
    | some s => simp [elemsA]
  · cases h2
    have hnk : n * P.cellsOf e ≤ c.length := by rw [h7]; exact Nat.mul_le_mul_right _ h4
    refine ⟨chunks (P.cellsOf e) n c, ⟨⟨_, k, by rw [chunks_len]; rfl⟩, ?_, ?_⟩, ?_⟩
    · intro r hr
      obtain ⟨i, hi, rfl⟩ := chunks_mem _ _ _ _ hr
      have : (i + 1) * P.cellsOf e ≤ n * P.cellsOf e := Nat.mul_le_mul_right _ hi
      rw [Nat.add_mul, Nat.one_mul] at this
      rw [List.length_take, List.length_drop]; omega
    · rw [chunks_flat]
      simp only [elemsA, slc, h6]
      rw [if_pos (by omega), List.drop_zero]
    · intro r hr
      obtain ⟨i, hi, rfl⟩ := chunks_mem _ _ _ _ hr
      exact h8 i (by omega)
theorem list_choose {α β : Type} {f : β → α} {Q : β → Prop} : ∀ {l : List α}, (∀ x ∈ l, ∃ y, x = f y ∧ Q y) → ∃ m : List β, l = m.map f ∧ ∀ y ∈ m, Q y
  | [], _ => ⟨[], rfl, by simp⟩
  | x :: l, h => by
    obtain ⟨y, rfl, hy⟩ := h x (by simp)
    obtain ⟨m, rfl, hm⟩ := list_choose (l := l) (fun z hz => h z (by simp [hz]))
    exact ⟨y :: m, rfl, by intro z hz; rcases List.mem_cons.1 hz with rfl | hz; exact hy; exact hm z hz⟩
end Go.AM

set_option linter.unusedSimpArgs false
set_option linter.unusedVariables false
namespace Go.AM.Fd
open Nat (reduceAdd reduceEqDiff reduceLT reduceLeDiff reduceMul reduceSub)
open Go.Proofs Go.AM.F
def be : Nat → Nat → List UInt8
  | 0, _ => []
  | w + 1, n => UInt8.ofNat (n / 256 ^ w) :: be w n
theorem be_length : ∀ w n, (be w n).length = w
  | 0, _ => rfl
  | w + 1, n => by simp [be, be_length w n]
theorem pow8 (i : Nat) : (2 : Nat) ^ (8 * i) = 256 ^ i := by rw [Nat.pow_mul]
theorem byte_cell (n i : Nat) : (((n : Int).fdiv (2 ^ (8 * i))) % 256 : Int) = ((UInt8.ofNat (n / 256 ^ i)).toNat : Int) := by
  have h1 : ((2 : Int) ^ (8 * i)) = ((256 ^ i : Nat) : Int) := by rw [← pow8]; push_cast; rfl
  rw [h1, Int.fdiv_eq_ediv_of_nonneg _ (Int.natCast_nonneg _)]
  simp only [UInt8.toNat_ofNat']
  omega
theorem t93 (n w : Nat) (hw : w ≤ 8) (H : AHeap) : ∃ v H', ARun Go.Proofs.Tryz.prog 0 93 [.int .u64 n, .int .i64 w] H v H' ∧
    AP H' 5 1 v w (cellsOf (be w n)) ∧ Keeps H H' ∧ Fresh H.n v := by
  refine walk f93_ok f93_n ?_
  simp only [f93, initFr, ↓reduceIte, RD_nil, RD_cons, RD_consg, W_dreg, obl_nil, Nat.reduceAdd, Nat.add_zero, Nat.zero_add, Nat.mul_one, Int.toNat_natCast, W_skip, W_reg, W_seq, W_cond, W_block, W_exit, W_ret, getD_nil', RW_nil, RW_cons, RW_consg, AOp.map, AX_fr, AX_tm, AX_c, AX_fn, AX_g, D_no, D_no', D_tm, D_tm', D_fr, D_fr', List.getD_cons_zero, List.getD_cons_succ, List.set_cons_zero, List.set_cons_succ, List.map_cons, List.map_nil, Option.map_some, Option.map_none, wantA, beq_self_eq_true, if_true, Bool.false_eq_true, if_false, Bool.not_true, Bool.not_false, s_mov, s_pick, s_new, s_box, s_build, s_bslice, s_load1, s_loadn, s_nilck, s_bin, s_eqv, s_not, s_neg, s_i2i, s_s2s, s_s2b, s_iface, s_mkfn, s_faddr, s_fld1, s_iaddr, s_idxs, s_assert, s_extract, s_len, s_lens, s_lenc, s_callf, resO0, resO1, resO2, resO3, List.getElem?_cons_zero, List.getElem?_cons_succ, Nat.reduceEqDiff, true_and, and_true, false_and, e_sn, e_ss, e_pn, e_ps, e_bb, fill0, fill1, b_add, b_sub, b_mul, b_eql, b_neq, b_lss, b_leq, b_gtr, b_geq, b_and, b_or, b_xor, b_seql, b_sneq, b_slss, AQ.andThen, AQ.inBlock, Option.some.injEq, exists_eq_left', exists_eq_left, reduceCtorEq, Exit.exit.injEq]
  rw [wrap_i64 (by omega) (by omega)]
  refine W_loop (fun k fr H1 => ∃ (i : Int) (x v : Value) (l : List UInt8), fr = [.int .u64 n, .int .i64 w, .slice none 0 0, v, .int .i64 i, x] ∧ -1 ≤ i ∧ i < w ∧ k = (i + 1).toNat ∧
    l ++ be (i + 1).toNat n = be w n ∧ AP H1 5 1 v l.length (cellsOf l) ∧ Keeps H H1 ∧ Fresh H.n v) (w) ?_ ?_
  · refine ⟨_, undef, _, [], rfl, by omega, by omega, by omega, ?_, .inl ⟨rfl, rfl, rfl⟩, Keeps.refl H, fun b hb => by cases hb⟩
    simp [show ((w : Int) - 1 + 1).toNat = w by omega]
  · rintro k fr H1 ⟨i, x, v, l, rfl, h1, h2, rfl, h3, h4, h5, h6⟩
    simp only [↓reduceIte, RD_nil, RD_cons, RD_consg, W_dreg, obl_nil, Nat.reduceAdd, Nat.add_zero, Nat.zero_add, Nat.mul_one, Int.toNat_natCast, W_skip, W_reg, W_seq, W_cond, W_block, W_exit, W_ret, getD_nil', RW_nil, RW_cons, RW_consg, AOp.map, AX_fr, AX_tm, AX_c, AX_fn, AX_g, D_no, D_no', D_tm, D_tm', D_fr, D_fr', List.getD_cons_zero, List.getD_cons_succ, List.set_cons_zero, List.set_cons_succ, List.map_cons, List.map_nil, Option.map_some, Option.map_none, wantA, beq_self_eq_true, if_true, Bool.false_eq_true, if_false, Bool.not_true, Bool.not_false, s_mov, s_pick, s_new, s_box, s_build, s_bslice, s_load1, s_loadn, s_nilck, s_bin, s_eqv, s_not, s_neg, s_i2i, s_s2s, s_s2b, s_iface, s_mkfn, s_faddr, s_fld1, s_iaddr, s_idxs, s_assert, s_extract, s_len, s_lens, s_lenc, s_callf, resO0, resO1, resO2, resO3, List.getElem?_cons_zero, List.getElem?_cons_succ, Nat.reduceEqDiff, true_and, and_true, false_and, e_sn, e_ss, e_pn, e_ps, e_bb, fill0, fill1, b_add, b_sub, b_mul, b_eql, b_neq, b_lss, b_leq, b_gtr, b_geq, b_and, b_or, b_xor, b_seql, b_sneq, b_slss, AQ.andThen, AQ.inBlock, Option.some.injEq, exists_eq_left', exists_eq_left, reduceCtorEq, Exit.exit.injEq]
    by_cases hi : 0 ≤ i
    · simp only [hi, decide_true, ↓reduceIte, RD_nil, RD_cons, RD_consg, W_dreg, obl_nil, Nat.reduceAdd, Nat.add_zero, Nat.zero_add, Nat.mul_one, Int.toNat_natCast, W_skip, W_reg, W_seq, W_cond, W_block, W_exit, W_ret, getD_nil', RW_nil, RW_cons, RW_consg, AOp.map, AX_fr, AX_tm, AX_c, AX_fn, AX_g, D_no, D_no', D_tm, D_tm', D_fr, D_fr', List.getD_cons_zero, List.getD_cons_succ, List.set_cons_zero, List.set_cons_succ, List.map_cons, List.map_nil, Option.map_some, Option.map_none, wantA, beq_self_eq_true, if_true, Bool.false_eq_true, if_false, Bool.not_true, Bool.not_false, s_mov, s_pick, s_new, s_box, s_build, s_bslice, s_load1, s_loadn, s_nilck, s_bin, s_eqv, s_not, s_neg, s_i2i, s_s2s, s_s2b, s_iface, s_mkfn, s_faddr, s_fld1, s_iaddr, s_idxs, s_assert, s_extract, s_len, s_lens, s_lenc, s_callf, resO0, resO1, resO2, resO3, List.getElem?_cons_zero, List.getElem?_cons_succ, Nat.reduceEqDiff, true_and, and_true, false_and, e_sn, e_ss, e_pn, e_ps, e_bb, fill0, fill1, b_add, b_sub, b_mul, b_eql, b_neq, b_lss, b_leq, b_gtr, b_geq, b_and, b_or, b_xor, b_seql, b_sneq, b_slss, AQ.andThen, AQ.inBlock, Option.some.injEq, exists_eq_left', exists_eq_left, reduceCtorEq, Exit.exit.injEq]
      rw [wrap_i64 (by omega) (by omega)]
      obtain ⟨j, rfl⟩ : ∃ j : Nat, i = j := ⟨i.toNat, by omega⟩
      simp only [b_shr _ _ _ _ (show (0 : Int) ≤ 8 * (j : Int) by omega), fill1, ↓reduceIte, RD_nil, RD_cons, RD_consg, W_dreg, obl_nil, Nat.reduceAdd, Nat.add_zero, Nat.zero_add, Nat.mul_one, Int.toNat_natCast, W_skip, W_reg, W_seq, W_cond, W_block, W_exit, W_ret, getD_nil', RW_nil, RW_cons, RW_consg, AOp.map, AX_fr, AX_tm, AX_c, AX_fn, AX_g, D_no, D_no', D_tm, D_tm', D_fr, D_fr', List.getD_cons_zero, List.getD_cons_succ, List.set_cons_zero, List.set_cons_succ, List.map_cons, List.map_nil, Option.map_some, Option.map_none, wantA, beq_self_eq_true, if_true, Bool.false_eq_true, if_false, Bool.not_true, Bool.not_false, s_mov, s_pick, s_new, s_box, s_build, s_bslice, s_load1, s_loadn, s_nilck, s_bin, s_eqv, s_not, s_neg, s_i2i, s_s2s, s_s2b, s_iface, s_mkfn, s_faddr, s_fld1, s_iaddr, s_idxs, s_assert, s_extract, s_len, s_lens, s_lenc, s_callf, resO0, resO1, resO2, resO3, List.getElem?_cons_zero, List.getElem?_cons_succ, Nat.reduceEqDiff, true_and, and_true, false_and, e_sn, e_ss, e_pn, e_ps, e_bb, fill0, fill1, b_add, b_sub, b_mul, b_eql, b_neq, b_lss, b_leq, b_gtr, b_geq, b_and, b_or, b_xor, b_seql, b_sneq, b_slss, AQ.andThen, AQ.inBlock, Option.some.injEq, exists_eq_left', exists_eq_left, reduceCtorEq, Exit.exit.injEq]
      have hmin : min (8 * (j : Int)).toNat IntKind.u64.bits = 8 * j := by simp only [IntKind.bits]; omega
      rw [hmin, wrap_u8, byte_cell]
      have hj : ((j : Int) + 1).toNat = j + 1 := by omega
      rw [hj] at h3
      have hlen : l.length + (j + 1) = w := by
        have := congrArg List.length h3
        simpa [be_length] using this
      refine ⟨⟨rfl, rfl⟩, s_appAP (h4.keeps ((Keeps.refl H1).alloc _)) ⟨_, _, rfl⟩ (elems_own (AHeap.get_alloc_new H1 _) rfl) rfl (by omega) ?_⟩
      intro v' H' k1 k2 k3
      have hk := (h5.alloc _).chg_trans k2 (Fresh.L h6)
      refine ⟨j, by omega, j - 1, .bool true, v', l ++ [UInt8.ofNat (n / 256 ^ j)], ?_, by omega, by omega, by omega, ?_, ?_, hk, h6.app (by rw [alloc_n]; have := h5.n; omega) k3⟩
      · rw [wrap_i64 (by omega) (by omega)]
      · rw [show ((j : Int) - 1 + 1).toNat = j by omega, ← h3]
        simp [be]
      · rw [cellsOf_append, List.length_append]
        exact k1
    · simp only [hi, decide_false, ↓reduceIte, RD_nil, RD_cons, RD_consg, W_dreg, obl_nil, Nat.reduceAdd, Nat.add_zero, Nat.zero_add, Nat.mul_one, Int.toNat_natCast, W_skip, W_reg, W_seq, W_cond, W_block, W_exit, W_ret, getD_nil', RW_nil, RW_cons, RW_consg, AOp.map, AX_fr, AX_tm, AX_c, AX_fn, AX_g, D_no, D_no', D_tm, D_tm', D_fr, D_fr', List.getD_cons_zero, List.getD_cons_succ, List.set_cons_zero, List.set_cons_succ, List.map_cons, List.map_nil, Option.map_some, Option.map_none, wantA, beq_self_eq_true, if_true, Bool.false_eq_true, if_false, Bool.not_true, Bool.not_false, s_mov, s_pick, s_new, s_box, s_build, s_bslice, s_load1, s_loadn, s_nilck, s_bin, s_eqv, s_not, s_neg, s_i2i, s_s2s, s_s2b, s_iface, s_mkfn, s_faddr, s_fld1, s_iaddr, s_idxs, s_assert, s_extract, s_len, s_lens, s_lenc, s_callf, resO0, resO1, resO2, resO3, List.getElem?_cons_zero, List.getElem?_cons_succ, Nat.reduceEqDiff, true_and, and_true, false_and, e_sn, e_ss, e_pn, e_ps, e_bb, fill0, fill1, b_add, b_sub, b_mul, b_eql, b_neq, b_lss, b_leq, b_gtr, b_geq, b_and, b_or, b_xor, b_seql, b_sneq, b_slss, AQ.andThen, AQ.inBlock, Option.some.injEq, exists_eq_left', exists_eq_left, reduceCtorEq, Exit.exit.injEq]
      have : (i + 1).toNat = 0 := by omega
      rw [this] at h3
      simp only [be, List.append_nil] at h3
      subst h3
      rw [be_length] at h4
      exact ⟨h4, h5, h6⟩
theorem t91 {H : AHeap} {x : Value} {l : List UInt8} (hx : BS H x l) (hl : l.length ≤ 1000000000) : ∃ v H', ARun Go.Proofs.Tryz.prog 0 91 [x] H v H' ∧
    AP H' 5 1 v l.length (cellsOf l) ∧ Keeps H H' ∧ Fresh H.n v := by
  refine walk f91_ok f91_n ?_
  obtain ⟨a, k, rfl⟩ := hx.sh
  cases a with
  | none =>
    have hl0 : l = [] := by
      have := hx.el
      simp only [elemsA, Option.some.injEq] at this
      have := congrArg List.length this
      rw [cellsOf_length] at this
      exact List.length_eq_zero_iff.1 this.symm
    subst hl0
    simp only [f91, initFr, ↓reduceIte, RD_nil, RD_cons, RD_consg, W_dreg, obl_nil, Nat.reduceAdd, Nat.add_zero, Nat.zero_add, Nat.mul_one, Int.toNat_natCast, W_skip, W_reg, W_seq, W_cond, W_block, W_exit, W_ret, getD_nil', RW_nil, RW_cons, RW_consg, AOp.map, AX_fr, AX_tm, AX_c, AX_fn, AX_g, D_no, D_no', D_tm, D_tm', D_fr, D_fr', List.getD_cons_zero, List.getD_cons_succ, List.set_cons_zero, List.set_cons_succ, List.map_cons, List.map_nil, Option.map_some, Option.map_none, wantA, beq_self_eq_true, if_true, Bool.false_eq_true, if_false, Bool.not_true, Bool.not_false, s_mov, s_pick, s_new, s_box, s_build, s_bslice, s_load1, s_loadn, s_nilck, s_bin, s_eqv, s_not, s_neg, s_i2i, s_s2s, s_s2b, s_iface, s_mkfn, s_faddr, s_fld1, s_iaddr, s_idxs, s_assert, s_extract, s_len, s_lens, s_lenc, s_callf, resO0, resO1, resO2, resO3, List.getElem?_cons_zero, List.getElem?_cons_succ, Nat.reduceEqDiff, true_and, and_true, false_and, e_sn, e_ss, e_pn, e_ps, e_bb, fill0, fill1, b_add, b_sub, b_mul, b_eql, b_neq, b_lss, b_leq, b_gtr, b_geq, b_and, b_or, b_xor, b_seql, b_sneq, b_slss, AQ.andThen, AQ.inBlock, Option.some.injEq, exists_eq_left', exists_eq_left, reduceCtorEq, Exit.exit.injEq]
    exact ⟨.inl ⟨rfl, rfl, rfl⟩, Keeps.refl H, fun b hb => by cases hb⟩
  | some a =>
    simp only [f91, initFr, ↓reduceIte, RD_nil, RD_cons, RD_consg, W_dreg, obl_nil, Nat.reduceAdd, Nat.add_zero, Nat.zero_add, Nat.mul_one, Int.toNat_natCast, W_skip, W_reg, W_seq, W_cond, W_block, W_exit, W_ret, getD_nil', RW_nil, RW_cons, RW_consg, AOp.map, AX_fr, AX_tm, AX_c, AX_fn, AX_g, D_no, D_no', D_tm, D_tm', D_fr, D_fr', List.getD_cons_zero, List.getD_cons_succ, List.set_cons_zero, List.set_cons_succ, List.map_cons, List.map_nil, Option.map_some, Option.map_none, wantA, beq_self_eq_true, if_true, Bool.false_eq_true, if_false, Bool.not_true, Bool.not_false, s_mov, s_pick, s_new, s_box, s_build, s_bslice, s_load1, s_loadn, s_nilck, s_bin, s_eqv, s_not, s_neg, s_i2i, s_s2s, s_s2b, s_iface, s_mkfn, s_faddr, s_fld1, s_iaddr, s_idxs, s_assert, s_extract, s_len, s_lens, s_lenc, s_callf, resO0, resO1, resO2, resO3, List.getElem?_cons_zero, List.getElem?_cons_succ, Nat.reduceEqDiff, true_and, and_true, false_and, e_sn, e_ss, e_pn, e_ps, e_bb, fill0, fill1, b_add, b_sub, b_mul, b_eql, b_neq, b_lss, b_leq, b_gtr, b_geq, b_and, b_or, b_xor, b_seql, b_sneq, b_slss, AQ.andThen, AQ.inBlock, Option.some.injEq, exists_eq_left', exists_eq_left, reduceCtorEq, Exit.exit.injEq]
    refine ⟨⟨rfl, rfl⟩, s_appAP (.inr ⟨_, _, rfl, rfl, AHeap.get_alloc_new H _⟩) ⟨_, _, rfl⟩ (hx.keeps ((Keeps.refl H).alloc _)).el (by rw [cellsOf_length]; omega) (by omega) ?_⟩
    intro v' H' k1 k2 k3
    rw [Nat.zero_add, List.nil_append] at k1
    have hf : Fresh H.n (slc H.n 0 0 0) := fun b hb => by cases hb; exact Nat.le_refl _
    exact ⟨k1, ((Keeps.refl H).alloc _).chg_trans k2 hf.L, Fresh.app hf (by rw [alloc_n]; omega) k3⟩
def wd (t : Nat) : Nat := if t = 5 then 1 else if t = 181 then 2 else if t = 87 then 4 else 8
def kd (t : Nat) : IntKind := if t = 5 then .u8 else if t = 181 then .u16 else if t = 87 then .u32 else .u64
theorem t172 (t n : Nat) (ht : t = 5 ∨ t = 181 ∨ t = 87 ∨ t = 85) (hn : n < 256 ^ wd t) (H : AHeap) : ARun Go.Proofs.Tryz.prog 0 172 [.iface t (.int (kd t) n)] H (.tuple #[.int .u64 n, .int .i64 (wd t)]) H := by
  suffices h : ∃ v H', ARun Go.Proofs.Tryz.prog 0 172 [.iface t (.int (kd t) n)] H v H' ∧ v = .tuple #[.int .u64 n, .int .i64 (wd t)] ∧ H' = H by
    obtain ⟨v, H', h1, h2, h3⟩ := h
    rw [h2, h3] at h1; exact h1
  refine walk f172_ok f172_n ?_
  rcases ht with rfl | rfl | rfl | rfl <;> simp only [f172, initFr, kd, wd, ↓reduceIte, RD_nil, RD_cons, RD_consg, W_dreg, obl_nil, Nat.reduceAdd, Nat.add_zero, Nat.zero_add, Nat.mul_one, Int.toNat_natCast, W_skip, W_reg, W_seq, W_cond, W_block, W_exit, W_ret, getD_nil', RW_nil, RW_cons, RW_consg, AOp.map, AX_fr, AX_tm, AX_c, AX_fn, AX_g, D_no, D_no', D_tm, D_tm', D_fr, D_fr', List.getD_cons_zero, List.getD_cons_succ, List.set_cons_zero, List.set_cons_succ, List.map_cons, List.map_nil, Option.map_some, Option.map_none, wantA, beq_self_eq_true, if_true, Bool.false_eq_true, if_false, Bool.not_true, Bool.not_false, s_mov, s_pick, s_new, s_box, s_build, s_bslice, s_load1, s_loadn, s_nilck, s_bin, s_eqv, s_not, s_neg, s_i2i, s_s2s, s_s2b, s_iface, s_mkfn, s_faddr, s_fld1, s_iaddr, s_idxs, s_assert, s_extract, s_len, s_lens, s_lenc, s_callf, resO0, resO1, resO2, resO3, List.getElem?_cons_zero, List.getElem?_cons_succ, Nat.reduceEqDiff, true_and, and_true, false_and, e_sn, e_ss, e_pn, e_ps, e_bb, fill0, fill1, b_add, b_sub, b_mul, b_eql, b_neq, b_lss, b_leq, b_gtr, b_geq, b_and, b_or, b_xor, b_seql, b_sneq, b_slss, AQ.andThen, AQ.inBlock, Option.some.injEq, exists_eq_left', exists_eq_left, reduceCtorEq, Exit.exit.injEq, Nat.reduceEqDiff] at hn ⊢ <;> (try rw [wrap_u64]) <;> (try rw [Int.emod_eq_of_lt (by omega) (by omega)]) <;> trivial
def WS (H : AHeap) (b bv : Nat) (l : List UInt8) : Prop :=
  ∃ v, H.get b = some (.cells true false 1 [v] 210) ∧ AP H 5 1 v l.length (cellsOf l) ∧ (blk v = none ∧ bv = b ∨ blk v = some bv ∧ bv ≠ b)
theorem WS.lt {H : AHeap} {b bv : Nat} {l : List UInt8} (h : WS H b bv l) : b < H.n ∧ bv < H.n := by
  obtain ⟨v, h1, h2, h3⟩ := h
  have := AHeap.get_lt h1
  refine ⟨this, ?_⟩
  rcases h3 with ⟨_, rfl⟩ | ⟨h3, _⟩
  · exact this
  · exact h2.lt h3
theorem WS.chg {H H' : AHeap} {b bv : Nat} {l : List UInt8} {S : List Nat} (h : WS H b bv l) (k : Chg S H H') (h1 : b ∉ S) (h2 : bv ∉ S) : WS H' b bv l := by
  obtain ⟨v, a1, a2, a3⟩ := h
  refine ⟨v, k.at_ a1 h1, a2.chg k ?_, a3⟩
  intro x hx
  rw [mem_blkL] at hx
  rcases a3 with ⟨e, _⟩ | ⟨e, _⟩
  · rw [e] at hx; cases hx
  · rw [e] at hx; cases hx; exact h2
theorem WS.app {H : AHeap} {b bv : Nat} {l m : List UInt8} {x : Value} (h : WS H b bv l) (hx : BS H x m) (hl : l.length + m.length ≤ 1000000000) :
    ∃ v v' H1, H.get b = some (.cells true false 1 [v] 210) ∧ (∀ K : Value → AHeap → Prop, K v' H1 → stepA Go.Proofs.Tryz.prog 0 (.app 5 1 1 v x) H K) ∧ H1.get b = some (.cells true false 1 [v] 210) ∧ v'.oneCell' = true ∧
      ∃ bv', WS (H1.set b (.cells true false 1 [v'] 210)) b bv' (l ++ m) ∧ (bv' = bv ∨ H.n ≤ bv') ∧ Chg [b, bv] H (H1.set b (.cells true false 1 [v'] 210)) := by
  obtain ⟨v, h1, h2, h3⟩ := h
  obtain ⟨a, k, rfl⟩ := hx.sh
  obtain ⟨v', H', k1, k2, k3, k4⟩ := h2.app (bytes := 1) (news := cellsOf m) (m := m.length) (by rw [cellsOf_length]; omega) (by omega)
  have hb : b ∉ blkL v := by
    rw [mem_blkL]
    rcases h3 with ⟨e, _⟩ | ⟨e, hne⟩
    · rw [e]; simp
    · rw [e]; simpa using hne
  have hbn := AHeap.get_lt h1
  have hb1 := k3.at_ h1 hb
  have hS : ∀ x ∈ blkL v, x ∈ [b, bv] ∨ H.n ≤ x := by
    intro x hx
    rw [mem_blkL] at hx
    rcases h3 with ⟨e, _⟩ | ⟨e, hne⟩
    · rw [e] at hx; cases hx
    · rw [e] at hx; cases hx; simp
  have hv'b : blk v' ≠ some b := by
    rcases k4 with k4 | k4
    · exact fun e => hb (mem_blkL.2 (k4 ▸ e))
    · rw [k4]; simp; omega
  refine ⟨v, v', H', h1, fun K hK => by rw [s_app rfl hx.el k1]; exact hK, hb1, ?_, ?_⟩
  · obtain ⟨a', ha⟩ := k2.shape
    rw [ha]; rfl
  have hset := Chg.set H' (AHeap.get_lt hb1) (.cells true false 1 [v'] 210)
  have hW : AP (H'.set b (.cells true false 1 [v'] 210)) 5 1 v' (l ++ m).length (cellsOf (l ++ m)) := by
    rw [List.length_append, cellsOf_append]
    refine k2.chg hset ?_
    intro x hx
    rw [mem_blkL] at hx
    intro e
    simp only [List.mem_singleton] at e
    subst e
    exact hv'b hx
  have hC : Chg [b, bv] H (H'.set b (.cells true false 1 [v'] 210)) := by
    refine Chg.trans (S := [b, bv]) (Chg.mono k3 (fun x hx => ?_)) hset (by simp)
    rcases hS x hx with h | h
    · exact h
    · rw [mem_blkL] at hx
      have := h2.lt hx
      omega
  cases hbv : blk v' with
  | none =>
    have hbl : blk v = none := by
      rcases k4 with k4 | k4
      · rw [← k4]; exact hbv
      · rw [hbv] at k4; cases k4
    refine ⟨bv, ⟨v', AHeap.get_set_same hb1 _, hW, .inl ⟨hbv, ?_⟩⟩, .inl rfl, hC⟩
    rcases h3 with ⟨_, e⟩ | ⟨e, _⟩
    · exact e
    · rw [hbl] at e; cases e
  | some x =>
    refine ⟨x, ⟨v', AHeap.get_set_same hb1 _, hW, .inr ⟨hbv, fun e => hv'b (by rw [hbv, e])⟩⟩, ?_, hC⟩
    rcases k4 with k4 | k4
    · rw [hbv] at k4
      rcases h3 with ⟨e, _⟩ | ⟨e, _⟩
      · rw [e] at k4; cases k4
      · rw [e] at k4; cases k4; exact .inl rfl
    · rw [hbv] at k4; cases k4; exact .inr (Nat.le_refl _)
theorem t165 {H : AHeap} {b bv : Nat} {l : List UInt8} (h : WS H b bv l) (t n : Nat) (ht : t = 5 ∨ t = 181 ∨ t = 87 ∨ t = 85) (hn : n < 256 ^ wd t) (hl : l.length ≤ 100000000) :
    ∃ v H', ARun Go.Proofs.Tryz.prog 0 165 [ptr b 0, .iface t (.int (kd t) n)] H v H' ∧ ∃ bv', WS H' b bv' (l ++ be (wd t) n) ∧ (bv' = bv ∨ H.n ≤ bv') ∧ Chg [b, bv] H H' := by
  refine walk f165_ok f165_n ?_
  have r35 := t172 t n ht hn H
  have hw : 1 ≤ wd t ∧ wd t ≤ 8 := by rcases ht with rfl | rfl | rfl | rfl <;> simp [wd]
  simp only [f165, initFr, ↓reduceIte, RD_nil, RD_cons, RD_consg, W_dreg, obl_nil, Nat.reduceAdd, Nat.add_zero, Nat.zero_add, Nat.mul_one, Int.toNat_natCast, W_skip, W_reg, W_seq, W_cond, W_block, W_exit, W_ret, getD_nil', RW_nil, RW_cons, RW_consg, AOp.map, AX_fr, AX_tm, AX_c, AX_fn, AX_g, D_no, D_no', D_tm, D_tm', D_fr, D_fr', List.getD_cons_zero, List.getD_cons_succ, List.set_cons_zero, List.set_cons_succ, List.map_cons, List.map_nil, Option.map_some, Option.map_none, wantA, beq_self_eq_true, if_true, Bool.false_eq_true, if_false, Bool.not_true, Bool.not_false, s_mov, s_pick, s_new, s_box, s_build, s_bslice, s_load1, s_loadn, s_nilck, s_bin, s_eqv, s_not, s_neg, s_i2i, s_s2s, s_s2b, s_iface, s_mkfn, s_faddr, s_fld1, s_iaddr, s_idxs, s_assert, s_extract, s_len, s_lens, s_lenc, s_callf, resO0, resO1, resO2, resO3, List.getElem?_cons_zero, List.getElem?_cons_succ, Nat.reduceEqDiff, true_and, and_true, false_and, e_sn, e_ss, e_pn, e_ps, e_bb, fill0, fill1, b_add, b_sub, b_mul, b_eql, b_neq, b_lss, b_leq, b_gtr, b_geq, b_and, b_or, b_xor, b_seql, b_sneq, b_slss, AQ.andThen, AQ.inBlock, Option.some.injEq, exists_eq_left', exists_eq_left, reduceCtorEq, Exit.exit.injEq]
  refine ⟨_, _, r35, ?_⟩
  simp only [↓reduceIte, RD_nil, RD_cons, RD_consg, W_dreg, obl_nil, Nat.reduceAdd, Nat.add_zero, Nat.zero_add, Nat.mul_one, Int.toNat_natCast, W_skip, W_reg, W_seq, W_cond, W_block, W_exit, W_ret, getD_nil', RW_nil, RW_cons, RW_consg, AOp.map, AX_fr, AX_tm, AX_c, AX_fn, AX_g, D_no, D_no', D_tm, D_tm', D_fr, D_fr', List.getD_cons_zero, List.getD_cons_succ, List.set_cons_zero, List.set_cons_succ, List.map_cons, List.map_nil, Option.map_some, Option.map_none, wantA, beq_self_eq_true, if_true, Bool.false_eq_true, if_false, Bool.not_true, Bool.not_false, s_mov, s_pick, s_new, s_box, s_build, s_bslice, s_load1, s_loadn, s_nilck, s_bin, s_eqv, s_not, s_neg, s_i2i, s_s2s, s_s2b, s_iface, s_mkfn, s_faddr, s_fld1, s_iaddr, s_idxs, s_assert, s_extract, s_len, s_lens, s_lenc, s_callf, resO0, resO1, resO2, resO3, List.getElem?_cons_zero, List.getElem?_cons_succ, Nat.reduceEqDiff, true_and, and_true, false_and, e_sn, e_ss, e_pn, e_ps, e_bb, fill0, fill1, b_add, b_sub, b_mul, b_eql, b_neq, b_lss, b_leq, b_gtr, b_geq, b_and, b_or, b_xor, b_seql, b_sneq, b_slss, AQ.andThen, AQ.inBlock, Option.some.injEq, exists_eq_left', exists_eq_left, reduceCtorEq, Exit.exit.injEq]
  rw [wrap_i64 (n := (wd t : Int) - 1) (by omega) (by omega), wrap_i64 (by omega) (by omega)]
  refine W_loop (fun k fr H1 => ∃ (j : Int) (x : Value) (m : List UInt8) (bv1 : Nat), fr = [ptr b 0, .iface t (.int (kd t) n), .int .u64 n, .int .i64 (wd t), .int .i64 (8 * j), .bool false, x] ∧ -1 ≤ j ∧ j < wd t ∧ k = (j + 1).toNat ∧
    m ++ be (j + 1).toNat n = be (wd t) n ∧ WS H1 b bv1 (l ++ m) ∧ (bv1 = bv ∨ H.n ≤ bv1) ∧ Chg [b, bv] H H1) (wd t) ?_ ?_
  · refine ⟨(wd t : Int) - 1, undef, [], bv, rfl, by omega, by omega, by omega, ?_, by rw [List.append_nil]; exact h, .inl rfl, Chg.refl _ _⟩
    rw [show ((wd t : Int) - 1 + 1).toNat = wd t by omega, List.nil_append]
  · rintro k fr H1 ⟨j, x, m, bv1, rfl, h1, h2, rfl, h3, h4, h5, h6⟩
    simp only [↓reduceIte, RD_nil, RD_cons, RD_consg, W_dreg, obl_nil, Nat.reduceAdd, Nat.add_zero, Nat.zero_add, Nat.mul_one, Int.toNat_natCast, W_skip, W_reg, W_seq, W_cond, W_block, W_exit, W_ret, getD_nil', RW_nil, RW_cons, RW_consg, AOp.map, AX_fr, AX_tm, AX_c, AX_fn, AX_g, D_no, D_no', D_tm, D_tm', D_fr, D_fr', List.getD_cons_zero, List.getD_cons_succ, List.set_cons_zero, List.set_cons_succ, List.map_cons, List.map_nil, Option.map_some, Option.map_none, wantA, beq_self_eq_true, if_true, Bool.false_eq_true, if_false, Bool.not_true, Bool.not_false, s_mov, s_pick, s_new, s_box, s_build, s_bslice, s_load1, s_loadn, s_nilck, s_bin, s_eqv, s_not, s_neg, s_i2i, s_s2s, s_s2b, s_iface, s_mkfn, s_faddr, s_fld1, s_iaddr, s_idxs, s_assert, s_extract, s_len, s_lens, s_lenc, s_callf, resO0, resO1, resO2, resO3, List.getElem?_cons_zero, List.getElem?_cons_succ, Nat.reduceEqDiff, true_and, and_true, false_and, e_sn, e_ss, e_pn, e_ps, e_bb, fill0, fill1, b_add, b_sub, b_mul, b_eql, b_neq, b_lss, b_leq, b_gtr, b_geq, b_and, b_or, b_xor, b_seql, b_sneq, b_slss, AQ.andThen, AQ.inBlock, Option.some.injEq, exists_eq_left', exists_eq_left, reduceCtorEq, Exit.exit.injEq]
    by_cases hj : 0 ≤ j
    · obtain ⟨i, rfl⟩ : ∃ i : Nat, j = i := ⟨j.toNat, by omega⟩
      simp only [show (0 : Int) ≤ 8 * (i : Int) by omega, decide_true, ↓reduceIte, RD_nil, RD_cons, RD_consg, W_dreg, obl_nil, Nat.reduceAdd, Nat.add_zero, Nat.zero_add, Nat.mul_one, Int.toNat_natCast, W_skip, W_reg, W_seq, W_cond, W_block, W_exit, W_ret, getD_nil', RW_nil, RW_cons, RW_consg, AOp.map, AX_fr, AX_tm, AX_c, AX_fn, AX_g, D_no, D_no', D_tm, D_tm', D_fr, D_fr', List.getD_cons_zero, List.getD_cons_succ, List.set_cons_zero, List.set_cons_succ, List.map_cons, List.map_nil, Option.map_some, Option.map_none, wantA, beq_self_eq_true, if_true, Bool.false_eq_true, if_false, Bool.not_true, Bool.not_false, s_mov, s_pick, s_new, s_box, s_build, s_bslice, s_load1, s_loadn, s_nilck, s_bin, s_eqv, s_not, s_neg, s_i2i, s_s2s, s_s2b, s_iface, s_mkfn, s_faddr, s_fld1, s_iaddr, s_idxs, s_assert, s_extract, s_len, s_lens, s_lenc, s_callf, resO0, resO1, resO2, resO3, List.getElem?_cons_zero, List.getElem?_cons_succ, Nat.reduceEqDiff, true_and, and_true, false_and, e_sn, e_ss, e_pn, e_ps, e_bb, fill0, fill1, b_add, b_sub, b_mul, b_eql, b_neq, b_lss, b_leq, b_gtr, b_geq, b_and, b_or, b_xor, b_seql, b_sneq, b_slss, AQ.andThen, AQ.inBlock, Option.some.injEq, exists_eq_left', exists_eq_left, reduceCtorEq, Exit.exit.injEq]
      have hji : ((i : Int) + 1).toNat = i + 1 := by omega
      rw [hji] at h3
      have hlen : m.length + (i + 1) = wd t := by
        have := congrArg List.length h3
        simpa [be_length] using this
      have h4' := h4.chg (S := []) (((Keeps.refl H1).alloc (.cells true false 1 [.int .u8 (UInt8.ofNat (n / 256 ^ i)).toNat] 5)).chg []) (by simp) (by simp)
      obtain ⟨v, v', H2, e1, e2, e3, e4, bv', e5, e6, e7⟩ := h4'.app (m := [UInt8.ofNat (n / 256 ^ i)]) (x := slc H1.n 0 1 1) ⟨⟨_, _, rfl⟩, elems_own (AHeap.get_alloc_new H1 _) rfl⟩ (by simp; omega)
      have e0 : H1.get b = some (.cells true false 1 [v] 210) := by
        rw [AHeap.get_alloc_old H1 _ h4.lt.1] at e1; exact e1
      simp only [cellA_of e0, b_shr _ _ _ _ (show (0 : Int) ≤ 8 * (i : Int) by omega), ↓reduceIte, RD_nil, RD_cons, RD_consg, W_dreg, obl_nil, Nat.reduceAdd, Nat.add_zero, Nat.zero_add, Nat.mul_one, Int.toNat_natCast, W_skip, W_reg, W_seq, W_cond, W_block, W_exit, W_ret, getD_nil', RW_nil, RW_cons, RW_consg, AOp.map, AX_fr, AX_tm, AX_c, AX_fn, AX_g, D_no, D_no', D_tm, D_tm', D_fr, D_fr', List.getD_cons_zero, List.getD_cons_succ, List.set_cons_zero, List.set_cons_succ, List.map_cons, List.map_nil, Option.map_some, Option.map_none, wantA, beq_self_eq_true, if_true, Bool.false_eq_true, if_false, Bool.not_true, Bool.not_false, s_mov, s_pick, s_new, s_box, s_build, s_bslice, s_load1, s_loadn, s_nilck, s_bin, s_eqv, s_not, s_neg, s_i2i, s_s2s, s_s2b, s_iface, s_mkfn, s_faddr, s_fld1, s_iaddr, s_idxs, s_assert, s_extract, s_len, s_lens, s_lenc, s_callf, resO0, resO1, resO2, resO3, List.getElem?_cons_zero, List.getElem?_cons_succ, Nat.reduceEqDiff, true_and, and_true, false_and, e_sn, e_ss, e_pn, e_ps, e_bb, fill0, fill1, b_add, b_sub, b_mul, b_eql, b_neq, b_lss, b_leq, b_gtr, b_geq, b_and, b_or, b_xor, b_seql, b_sneq, b_slss, AQ.andThen, AQ.inBlock, Option.some.injEq, exists_eq_left', exists_eq_left, reduceCtorEq, Exit.exit.injEq]
      have hmin : min (8 * (i : Int)).toNat IntKind.u64.bits = 8 * i := by simp only [IntKind.bits]; omega
      rw [hmin, wrap_u8, byte_cell]
      refine ⟨⟨rfl, rfl⟩, e2 _ ?_⟩
      simp only [↓reduceIte, RD_nil, RD_cons, RD_consg, W_dreg, obl_nil, Nat.reduceAdd, Nat.add_zero, Nat.zero_add, Nat.mul_one, Int.toNat_natCast, W_skip, W_reg, W_seq, W_cond, W_block, W_exit, W_ret, getD_nil', RW_nil, RW_cons, RW_consg, AOp.map, AX_fr, AX_tm, AX_c, AX_fn, AX_g, D_no, D_no', D_tm, D_tm', D_fr, D_fr', List.getD_cons_zero, List.getD_cons_succ, List.set_cons_zero, List.set_cons_succ, List.map_cons, List.map_nil, Option.map_some, Option.map_none, wantA, beq_self_eq_true, if_true, Bool.false_eq_true, if_false, Bool.not_true, Bool.not_false, s_mov, s_pick, s_new, s_box, s_build, s_bslice, s_load1, s_loadn, s_nilck, s_bin, s_eqv, s_not, s_neg, s_i2i, s_s2s, s_s2b, s_iface, s_mkfn, s_faddr, s_fld1, s_iaddr, s_idxs, s_assert, s_extract, s_len, s_lens, s_lenc, s_callf, resO0, resO1, resO2, resO3, List.getElem?_cons_zero, List.getElem?_cons_succ, Nat.reduceEqDiff, true_and, and_true, false_and, e_sn, e_ss, e_pn, e_ps, e_bb, fill0, fill1, b_add, b_sub, b_mul, b_eql, b_neq, b_lss, b_leq, b_gtr, b_geq, b_and, b_or, b_xor, b_seql, b_sneq, b_slss, AQ.andThen, AQ.inBlock, Option.some.injEq, exists_eq_left', exists_eq_left, reduceCtorEq, Exit.exit.injEq, s_store1 e3]
      refine ⟨⟨by simp, e4⟩, i, by omega, (i : Int) - 1, .bool true, m ++ [UInt8.ofNat (n / 256 ^ i)], bv', ?_, by omega, by omega, by omega, ?_, ?_, ?_, ?_⟩
      · rw [wrap_i64 (by omega) (by omega), show 8 * (i : Int) - 8 = 8 * ((i : Int) - 1) by omega]
      · rw [show ((i : Int) - 1 + 1).toNat = i by omega, ← h3]
        simp [be]
      · rw [← List.append_assoc]; exact e5
      · have := h6.n
        rw [alloc_n] at e6
        omega
      · have := h6.n
        refine (h6.alloc _).trans e7 ?_
        intro x hx
        simp only [List.mem_cons, List.not_mem_nil, or_false] at hx ⊢
        omega
    · simp only [show ¬ (0 : Int) ≤ 8 * j by omega, decide_false, ↓reduceIte, RD_nil, RD_cons, RD_consg, W_dreg, obl_nil, Nat.reduceAdd, Nat.add_zero, Nat.zero_add, Nat.mul_one, Int.toNat_natCast, W_skip, W_reg, W_seq, W_cond, W_block, W_exit, W_ret, getD_nil', RW_nil, RW_cons, RW_consg, AOp.map, AX_fr, AX_tm, AX_c, AX_fn, AX_g, D_no, D_no', D_tm, D_tm', D_fr, D_fr', List.getD_cons_zero, List.getD_cons_succ, List.set_cons_zero, List.set_cons_succ, List.map_cons, List.map_nil, Option.map_some, Option.map_none, wantA, beq_self_eq_true, if_true, Bool.false_eq_true, if_false, Bool.not_true, Bool.not_false, s_mov, s_pick, s_new, s_box, s_build, s_bslice, s_load1, s_loadn, s_nilck, s_bin, s_eqv, s_not, s_neg, s_i2i, s_s2s, s_s2b, s_iface, s_mkfn, s_faddr, s_fld1, s_iaddr, s_idxs, s_assert, s_extract, s_len, s_lens, s_lenc, s_callf, resO0, resO1, resO2, resO3, List.getElem?_cons_zero, List.getElem?_cons_succ, Nat.reduceEqDiff, true_and, and_true, false_and, e_sn, e_ss, e_pn, e_ps, e_bb, fill0, fill1, b_add, b_sub, b_mul, b_eql, b_neq, b_lss, b_leq, b_gtr, b_geq, b_and, b_or, b_xor, b_seql, b_sneq, b_slss, AQ.andThen, AQ.inBlock, Option.some.injEq, exists_eq_left', exists_eq_left, reduceCtorEq, Exit.exit.injEq]
      have : (j + 1).toNat = 0 := by omega
      rw [this] at h3
      simp only [be, List.append_nil] at h3
      subst h3
      exact ⟨bv1, h4, h5, h6⟩
def Put (H H' : AHeap) (b bv : Nat) (l : List UInt8) : Prop := ∃ bv', WS H' b bv' l ∧ (bv' = bv ∨ H.n ≤ bv') ∧ Chg [b, bv] H H'
theorem t149 {H : AHeap} {b bv : Nat} {l : List UInt8} (h : WS H b bv l) (n : Nat) (hn : n < 256) (hl : l.length ≤ 100000000) : ∃ v H', ARun Go.Proofs.Tryz.prog 0 149 [ptr b 0, .int .u8 n] H v H' ∧ Put H H' b bv (l ++ be 1 n) := by
  refine walk f149_ok f149_n ?_
  obtain ⟨v, H', r, p⟩ := t165 h 5 n (by omega) (by simpa [wd] using hn) hl
  simp only [f149, initFr, ↓reduceIte, RD_nil, RD_cons, RD_consg, W_dreg, obl_nil, Nat.reduceAdd, Nat.add_zero, Nat.zero_add, Nat.mul_one, Int.toNat_natCast, W_skip, W_reg, W_seq, W_cond, W_block, W_exit, W_ret, getD_nil', RW_nil, RW_cons, RW_consg, AOp.map, AX_fr, AX_tm, AX_c, AX_fn, AX_g, D_no, D_no', D_tm, D_tm', D_fr, D_fr', List.getD_cons_zero, List.getD_cons_succ, List.set_cons_zero, List.set_cons_succ, List.map_cons, List.map_nil, Option.map_some, Option.map_none, wantA, beq_self_eq_true, if_true, Bool.false_eq_true, if_false, Bool.not_true, Bool.not_false, s_mov, s_pick, s_new, s_box, s_build, s_bslice, s_load1, s_loadn, s_nilck, s_bin, s_eqv, s_not, s_neg, s_i2i, s_s2s, s_s2b, s_iface, s_mkfn, s_faddr, s_fld1, s_iaddr, s_idxs, s_assert, s_extract, s_len, s_lens, s_lenc, s_callf, resO0, resO1, resO2, resO3, List.getElem?_cons_zero, List.getElem?_cons_succ, Nat.reduceEqDiff, true_and, and_true, false_and, e_sn, e_ss, e_pn, e_ps, e_bb, fill0, fill1, b_add, b_sub, b_mul, b_eql, b_neq, b_lss, b_leq, b_gtr, b_geq, b_and, b_or, b_xor, b_seql, b_sneq, b_slss, AQ.andThen, AQ.inBlock, Option.some.injEq, exists_eq_left', exists_eq_left, reduceCtorEq, Exit.exit.injEq]
  exact ⟨v, H', r, p⟩
theorem t151 {H : AHeap} {b bv : Nat} {l : List UInt8} (h : WS H b bv l) (n : Nat) (hn : n < 65536) (hl : l.length ≤ 100000000) : ∃ v H', ARun Go.Proofs.Tryz.prog 0 151 [ptr b 0, .int .u16 n] H v H' ∧ Put H H' b bv (l ++ be 2 n) := by
  refine walk f151_ok f151_n ?_
  obtain ⟨v, H', r, p⟩ := t165 h 181 n (by omega) (by simpa [wd] using hn) hl
  simp only [f151, initFr, ↓reduceIte, RD_nil, RD_cons, RD_consg, W_dreg, obl_nil, Nat.reduceAdd, Nat.add_zero, Nat.zero_add, Nat.mul_one, Int.toNat_natCast, W_skip, W_reg, W_seq, W_cond, W_block, W_exit, W_ret, getD_nil', RW_nil, RW_cons, RW_consg, AOp.map, AX_fr, AX_tm, AX_c, AX_fn, AX_g, D_no, D_no', D_tm, D_tm', D_fr, D_fr', List.getD_cons_zero, List.getD_cons_succ, List.set_cons_zero, List.set_cons_succ, List.map_cons, List.map_nil, Option.map_some, Option.map_none, wantA, beq_self_eq_true, if_true, Bool.false_eq_true, if_false, Bool.not_true, Bool.not_false, s_mov, s_pick, s_new, s_box, s_build, s_bslice, s_load1, s_loadn, s_nilck, s_bin, s_eqv, s_not, s_neg, s_i2i, s_s2s, s_s2b, s_iface, s_mkfn, s_faddr, s_fld1, s_iaddr, s_idxs, s_assert, s_extract, s_len, s_lens, s_lenc, s_callf, resO0, resO1, resO2, resO3, List.getElem?_cons_zero, List.getElem?_cons_succ, Nat.reduceEqDiff, true_and, and_true, false_and, e_sn, e_ss, e_pn, e_ps, e_bb, fill0, fill1, b_add, b_sub, b_mul, b_eql, b_neq, b_lss, b_leq, b_gtr, b_geq, b_and, b_or, b_xor, b_seql, b_sneq, b_slss, AQ.andThen, AQ.inBlock, Option.some.injEq, exists_eq_left', exists_eq_left, reduceCtorEq, Exit.exit.injEq]
  exact ⟨v, H', r, p⟩
theorem t153 {H : AHeap} {b bv : Nat} {l : List UInt8} (h : WS H b bv l) (n : Nat) (hn : n < 4294967296) (hl : l.length ≤ 100000000) : ∃ v H', ARun Go.Proofs.Tryz.prog 0 153 [ptr b 0, .int .u32 n] H v H' ∧ Put H H' b bv (l ++ be 4 n) := by
  refine walk f153_ok f153_n ?_
  obtain ⟨v, H', r, p⟩ := t165 h 87 n (by omega) (by simpa [wd] using hn) hl
  simp only [f153, initFr, ↓reduceIte, RD_nil, RD_cons, RD_consg, W_dreg, obl_nil, Nat.reduceAdd, Nat.add_zero, Nat.zero_add, Nat.mul_one, Int.toNat_natCast, W_skip, W_reg, W_seq, W_cond, W_block, W_exit, W_ret, getD_nil', RW_nil, RW_cons, RW_consg, AOp.map, AX_fr, AX_tm, AX_c, AX_fn, AX_g, D_no, D_no', D_tm, D_tm', D_fr, D_fr', List.getD_cons_zero, List.getD_cons_succ, List.set_cons_zero, List.set_cons_succ, List.map_cons, List.map_nil, Option.map_some, Option.map_none, wantA, beq_self_eq_true, if_true, Bool.false_eq_true, if_false, Bool.not_true, Bool.not_false, s_mov, s_pick, s_new, s_box, s_build, s_bslice, s_load1, s_loadn, s_nilck, s_bin, s_eqv, s_not, s_neg, s_i2i, s_s2s, s_s2b, s_iface, s_mkfn, s_faddr, s_fld1, s_iaddr, s_idxs, s_assert, s_extract, s_len, s_lens, s_lenc, s_callf, resO0, resO1, resO2, resO3, List.getElem?_cons_zero, List.getElem?_cons_succ, Nat.reduceEqDiff, true_and, and_true, false_and, e_sn, e_ss, e_pn, e_ps, e_bb, fill0, fill1, b_add, b_sub, b_mul, b_eql, b_neq, b_lss, b_leq, b_gtr, b_geq, b_and, b_or, b_xor, b_seql, b_sneq, b_slss, AQ.andThen, AQ.inBlock, Option.some.injEq, exists_eq_left', exists_eq_left, reduceCtorEq, Exit.exit.injEq]
  exact ⟨v, H', r, p⟩
theorem t150 {H : AHeap} {b bv : Nat} {l : List UInt8} (h : WS H b bv l) (n : Nat) (hn : n < 18446744073709551616) (hl : l.length ≤ 100000000) : ∃ v H', ARun Go.Proofs.Tryz.prog 0 150 [ptr b 0, .int .u64 n] H v H' ∧ Put H H' b bv (l ++ be 8 n) := by
  refine walk f150_ok f150_n ?_
  obtain ⟨v, H', r, p⟩ := t165 h 85 n (by omega) (by simpa [wd] using hn) hl
  simp only [f150, initFr, ↓reduceIte, RD_nil, RD_cons, RD_consg, W_dreg, obl_nil, Nat.reduceAdd, Nat.add_zero, Nat.zero_add, Nat.mul_one, Int.toNat_natCast, W_skip, W_reg, W_seq, W_cond, W_block, W_exit, W_ret, getD_nil', RW_nil, RW_cons, RW_consg, AOp.map, AX_fr, AX_tm, AX_c, AX_fn, AX_g, D_no, D_no', D_tm, D_tm', D_fr, D_fr', List.getD_cons_zero, List.getD_cons_succ, List.set_cons_zero, List.set_cons_succ, List.map_cons, List.map_nil, Option.map_some, Option.map_none, wantA, beq_self_eq_true, if_true, Bool.false_eq_true, if_false, Bool.not_true, Bool.not_false, s_mov, s_pick, s_new, s_box, s_build, s_bslice, s_load1, s_loadn, s_nilck, s_bin, s_eqv, s_not, s_neg, s_i2i, s_s2s, s_s2b, s_iface, s_mkfn, s_faddr, s_fld1, s_iaddr, s_idxs, s_assert, s_extract, s_len, s_lens, s_lenc, s_callf, resO0, resO1, resO2, resO3, List.getElem?_cons_zero, List.getElem?_cons_succ, Nat.reduceEqDiff, true_and, and_true, false_and, e_sn, e_ss, e_pn, e_ps, e_bb, fill0, fill1, b_add, b_sub, b_mul, b_eql, b_neq, b_lss, b_leq, b_gtr, b_geq, b_and, b_or, b_xor, b_seql, b_sneq, b_slss, AQ.andThen, AQ.inBlock, Option.some.injEq, exists_eq_left', exists_eq_left, reduceCtorEq, Exit.exit.injEq]
  exact ⟨v, H', r, p⟩
theorem t152 {H : AHeap} {b bv : Nat} {l m : List UInt8} {x : Value} (h : WS H b bv l) (hx : BS H x m) (hl : l.length + m.length ≤ 1000000000) : ∃ v H', ARun Go.Proofs.Tryz.prog 0 152 [ptr b 0, x] H v H' ∧ Put H H' b bv (l ++ m) := by
  refine walk f152_ok f152_n ?_
  obtain ⟨v, v', H1, e1, e2, e3, e4, e5⟩ := h.app hx hl
  simp only [f152, initFr, cellA_of e1, ↓reduceIte, RD_nil, RD_cons, RD_consg, W_dreg, obl_nil, Nat.reduceAdd, Nat.add_zero, Nat.zero_add, Nat.mul_one, Int.toNat_natCast, W_skip, W_reg, W_seq, W_cond, W_block, W_exit, W_ret, getD_nil', RW_nil, RW_cons, RW_consg, AOp.map, AX_fr, AX_tm, AX_c, AX_fn, AX_g, D_no, D_no', D_tm, D_tm', D_fr, D_fr', List.getD_cons_zero, List.getD_cons_succ, List.set_cons_zero, List.set_cons_succ, List.map_cons, List.map_nil, Option.map_some, Option.map_none, wantA, beq_self_eq_true, if_true, Bool.false_eq_true, if_false, Bool.not_true, Bool.not_false, s_mov, s_pick, s_new, s_box, s_build, s_bslice, s_load1, s_loadn, s_nilck, s_bin, s_eqv, s_not, s_neg, s_i2i, s_s2s, s_s2b, s_iface, s_mkfn, s_faddr, s_fld1, s_iaddr, s_idxs, s_assert, s_extract, s_len, s_lens, s_lenc, s_callf, resO0, resO1, resO2, resO3, List.getElem?_cons_zero, List.getElem?_cons_succ, Nat.reduceEqDiff, true_and, and_true, false_and, e_sn, e_ss, e_pn, e_ps, e_bb, fill0, fill1, b_add, b_sub, b_mul, b_eql, b_neq, b_lss, b_leq, b_gtr, b_geq, b_and, b_or, b_xor, b_seql, b_sneq, b_slss, AQ.andThen, AQ.inBlock, Option.some.injEq, exists_eq_left', exists_eq_left, reduceCtorEq, Exit.exit.injEq]
  refine e2 _ ?_
  simp only [s_store1 e3, ↓reduceIte, RD_nil, RD_cons, RD_consg, W_dreg, obl_nil, Nat.reduceAdd, Nat.add_zero, Nat.zero_add, Nat.mul_one, Int.toNat_natCast, W_skip, W_reg, W_seq, W_cond, W_block, W_exit, W_ret, getD_nil', RW_nil, RW_cons, RW_consg, AOp.map, AX_fr, AX_tm, AX_c, AX_fn, AX_g, D_no, D_no', D_tm, D_tm', D_fr, D_fr', List.getD_cons_zero, List.getD_cons_succ, List.set_cons_zero, List.set_cons_succ, List.map_cons, List.map_nil, Option.map_some, Option.map_none, wantA, beq_self_eq_true, if_true, Bool.false_eq_true, if_false, Bool.not_true, Bool.not_false, s_mov, s_pick, s_new, s_box, s_build, s_bslice, s_load1, s_loadn, s_nilck, s_bin, s_eqv, s_not, s_neg, s_i2i, s_s2s, s_s2b, s_iface, s_mkfn, s_faddr, s_fld1, s_iaddr, s_idxs, s_assert, s_extract, s_len, s_lens, s_lenc, s_callf, resO0, resO1, resO2, resO3, List.getElem?_cons_zero, List.getElem?_cons_succ, Nat.reduceEqDiff, true_and, and_true, false_and, e_sn, e_ss, e_pn, e_ps, e_bb, fill0, fill1, b_add, b_sub, b_mul, b_eql, b_neq, b_lss, b_leq, b_gtr, b_geq, b_and, b_or, b_xor, b_seql, b_sneq, b_slss, AQ.andThen, AQ.inBlock, Option.some.injEq, exists_eq_left', exists_eq_left, reduceCtorEq, Exit.exit.injEq]
  exact ⟨⟨by simp, e4⟩, e5⟩
theorem t155 {H : AHeap} {b bv : Nat} {l : List UInt8} (h : WS H b bv l) (hl : l.length ≤ 1000000000) : ∃ v H', ARun Go.Proofs.Tryz.prog 0 155 [ptr b 0] H v H' ∧ AP H' 5 1 v l.length (cellsOf l) ∧ Keeps H H' ∧ Fresh H.n v := by
  refine walk f155_ok f155_n ?_
  obtain ⟨v, h1, h2, h3⟩ := h
  obtain ⟨v', H', r, p⟩ := t91 h2.bs hl
  simp only [f155, initFr, cellA_of h1, ↓reduceIte, RD_nil, RD_cons, RD_consg, W_dreg, obl_nil, Nat.reduceAdd, Nat.add_zero, Nat.zero_add, Nat.mul_one, Int.toNat_natCast, W_skip, W_reg, W_seq, W_cond, W_block, W_exit, W_ret, getD_nil', RW_nil, RW_cons, RW_consg, AOp.map, AX_fr, AX_tm, AX_c, AX_fn, AX_g, D_no, D_no', D_tm, D_tm', D_fr, D_fr', List.getD_cons_zero, List.getD_cons_succ, List.set_cons_zero, List.set_cons_succ, List.map_cons, List.map_nil, Option.map_some, Option.map_none, wantA, beq_self_eq_true, if_true, Bool.false_eq_true, if_false, Bool.not_true, Bool.not_false, s_mov, s_pick, s_new, s_box, s_build, s_bslice, s_load1, s_loadn, s_nilck, s_bin, s_eqv, s_not, s_neg, s_i2i, s_s2s, s_s2b, s_iface, s_mkfn, s_faddr, s_fld1, s_iaddr, s_idxs, s_assert, s_extract, s_len, s_lens, s_lenc, s_callf, resO0, resO1, resO2, resO3, List.getElem?_cons_zero, List.getElem?_cons_succ, Nat.reduceEqDiff, true_and, and_true, false_and, e_sn, e_ss, e_pn, e_ps, e_bb, fill0, fill1, b_add, b_sub, b_mul, b_eql, b_neq, b_lss, b_leq, b_gtr, b_geq, b_and, b_or, b_xor, b_seql, b_sneq, b_slss, AQ.andThen, AQ.inBlock, Option.some.injEq, exists_eq_left', exists_eq_left, reduceCtorEq, Exit.exit.injEq]
  exact ⟨v', H', r, p⟩
def num (l : List UInt8) : Nat := l.foldl (fun n b => (n * 256 + b.toNat) % 18446744073709551616) 0
theorem num_append (l : List UInt8) (b : UInt8) : num (l ++ [b]) = (num l * 256 + b.toNat) % 18446744073709551616 := by simp [num]
theorem or_byte (n : Nat) (b : UInt8) : (IntKind.u64.wrap ((BitVec.ofInt IntKind.u64.bits (IntKind.u64.wrap ((n : Int) * 2 ^ (min 8 IntKind.u64.bits))) ||| BitVec.ofInt IntKind.u64.bits (b.toNat : Int)).toNat : Int)) =
    (((n * 256 + b.toNat) % 18446744073709551616 : Nat) : Int) := by
  have hb := b.toNat_lt
  change IntKind.u64.wrap (((BitVec.ofInt 64 (IntKind.u64.wrap ((n : Int) * 2 ^ (min 8 64))) ||| BitVec.ofInt 64 (b.toNat : Int)).toNat : Nat) : Int) = _
  have e1 : (IntKind.u64.wrap ((n : Int) * 2 ^ (min 8 64))) = ((n * 256 % 18446744073709551616 : Nat) : Int) := by
    rw [wrap_u64]
    have : (2 : Int) ^ (min 8 64) = 256 := by decide
    rw [this]
    omega
  rw [e1]
  simp only [BitVec.ofInt_natCast, BitVec.toNat_or, BitVec.toNat_ofNat]
  have h1 : n * 256 % 18446744073709551616 % 2 ^ 64 = (n % 72057594037927936) <<< 8 := by
    rw [Nat.shiftLeft_eq]; omega
  have h2 : b.toNat % 2 ^ 64 = b.toNat := by omega
  rw [h1, h2, ← Nat.shiftLeft_add_eq_or_of_lt (by omega), wrap_u64, Nat.shiftLeft_eq]
  omega
theorem t123 {H : AHeap} {x : Value} {l : List UInt8} (hx : BS H x l) (hl : l.length ≤ 1000000000) : ARun Go.Proofs.Tryz.prog 0 123 [x] H (.int .u64 (num l)) H := by
  suffices h : ∃ v H', ARun Go.Proofs.Tryz.prog 0 123 [x] H v H' ∧ v = .int .u64 (num l) ∧ H' = H by
    obtain ⟨v, H', h1, h2, h3⟩ := h
    rw [h2, h3] at h1; exact h1
  refine walk f123_ok f123_n ?_
  simp only [f123, initFr, ↓reduceIte, RD_nil, RD_cons, RD_consg, W_dreg, obl_nil, Nat.reduceAdd, Nat.add_zero, Nat.zero_add, Nat.mul_one, Int.toNat_natCast, W_skip, W_reg, W_seq, W_cond, W_block, W_exit, W_ret, getD_nil', RW_nil, RW_cons, RW_consg, AOp.map, AX_fr, AX_tm, AX_c, AX_fn, AX_g, D_no, D_no', D_tm, D_tm', D_fr, D_fr', List.getD_cons_zero, List.getD_cons_succ, List.set_cons_zero, List.set_cons_succ, List.map_cons, List.map_nil, Option.map_some, Option.map_none, wantA, beq_self_eq_true, if_true, Bool.false_eq_true, if_false, Bool.not_true, Bool.not_false, s_mov, s_pick, s_new, s_box, s_build, s_bslice, s_load1, s_loadn, s_nilck, s_bin, s_eqv, s_not, s_neg, s_i2i, s_s2s, s_s2b, s_iface, s_mkfn, s_faddr, s_fld1, s_iaddr, s_idxs, s_assert, s_extract, s_len, s_lens, s_lenc, s_callf, resO0, resO1, resO2, resO3, List.getElem?_cons_zero, List.getElem?_cons_succ, Nat.reduceEqDiff, true_and, and_true, false_and, e_sn, e_ss, e_pn, e_ps, e_bb, fill0, fill1, b_add, b_sub, b_mul, b_eql, b_neq, b_lss, b_leq, b_gtr, b_geq, b_and, b_or, b_xor, b_seql, b_sneq, b_slss, AQ.andThen, AQ.inBlock, Option.some.injEq, exists_eq_left', exists_eq_left, reduceCtorEq, Exit.exit.injEq]
  refine W_loop (fun k fr H1 => ∃ (i : Nat) (c : Value), fr = [x, .int .u64 0, .int .u64 (num (l.take i)), .int .i64 i, c] ∧ i ≤ l.length ∧ k = l.length - i ∧ H1 = H) l.length ?_ ?_
  · exact ⟨0, undef, by simp [num], by omega, rfl, rfl⟩
  · rintro k fr H1 ⟨i, c, rfl, h1, rfl, rfl⟩
    obtain ⟨a, kk, hsh⟩ := hx.sh
    by_cases hi : i < l.length
    · obtain ⟨b, o, kc, rfl, hc⟩ := hx.split (fun e => by subst e; simp at hi)
      simp only [↓reduceIte, RD_nil, RD_cons, RD_consg, W_dreg, obl_nil, Nat.reduceAdd, Nat.add_zero, Nat.zero_add, Nat.mul_one, Int.toNat_natCast, W_skip, W_reg, W_seq, W_cond, W_block, W_exit, W_ret, getD_nil', RW_nil, RW_cons, RW_consg, AOp.map, AX_fr, AX_tm, AX_c, AX_fn, AX_g, D_no, D_no', D_tm, D_tm', D_fr, D_fr', List.getD_cons_zero, List.getD_cons_succ, List.set_cons_zero, List.set_cons_succ, List.map_cons, List.map_nil, Option.map_some, Option.map_none, wantA, beq_self_eq_true, if_true, Bool.false_eq_true, if_false, Bool.not_true, Bool.not_false, s_mov, s_pick, s_new, s_box, s_build, s_bslice, s_load1, s_loadn, s_nilck, s_bin, s_eqv, s_not, s_neg, s_i2i, s_s2s, s_s2b, s_iface, s_mkfn, s_faddr, s_fld1, s_iaddr, s_idxs, s_assert, s_extract, s_len, s_lens, s_lenc, s_callf, resO0, resO1, resO2, resO3, List.getElem?_cons_zero, List.getElem?_cons_succ, Nat.reduceEqDiff, true_and, and_true, false_and, e_sn, e_ss, e_pn, e_ps, e_bb, fill0, fill1, b_add, b_sub, b_mul, b_eql, b_neq, b_lss, b_leq, b_gtr, b_geq, b_and, b_or, b_xor, b_seql, b_sneq, b_slss, AQ.andThen, AQ.inBlock, Option.some.injEq, exists_eq_left', exists_eq_left, reduceCtorEq, Exit.exit.injEq, show (i : Int) < (l.length : Int) by omega, decide_true, hc i hi, b_shl _ _ _ _ (show (0 : Int) ≤ 8 by omega), wrap_u64 ((l[i].toNat : Int))]
      have e1 : ((l[i].toNat : Int) % 18446744073709551616) = (l[i].toNat : Int) := by have := l[i].toNat_lt; omega
      rw [show Int.toNat 8 = 8 from rfl, e1, or_byte, ← num_append, wrap_i64 (by omega) (by omega)]
      refine ⟨by omega, l.length - (i + 1), by omega, i + 1, .bool true, ?_, by omega, rfl⟩
      rw [List.take_succ_eq_append_getElem hi]
      rfl
    · subst hsh
      simp only [↓reduceIte, RD_nil, RD_cons, RD_consg, W_dreg, obl_nil, Nat.reduceAdd, Nat.add_zero, Nat.zero_add, Nat.mul_one, Int.toNat_natCast, W_skip, W_reg, W_seq, W_cond, W_block, W_exit, W_ret, getD_nil', RW_nil, RW_cons, RW_consg, AOp.map, AX_fr, AX_tm, AX_c, AX_fn, AX_g, D_no, D_no', D_tm, D_tm', D_fr, D_fr', List.getD_cons_zero, List.getD_cons_succ, List.set_cons_zero, List.set_cons_succ, List.map_cons, List.map_nil, Option.map_some, Option.map_none, wantA, beq_self_eq_true, if_true, Bool.false_eq_true, if_false, Bool.not_true, Bool.not_false, s_mov, s_pick, s_new, s_box, s_build, s_bslice, s_load1, s_loadn, s_nilck, s_bin, s_eqv, s_not, s_neg, s_i2i, s_s2s, s_s2b, s_iface, s_mkfn, s_faddr, s_fld1, s_iaddr, s_idxs, s_assert, s_extract, s_len, s_lens, s_lenc, s_callf, resO0, resO1, resO2, resO3, List.getElem?_cons_zero, List.getElem?_cons_succ, Nat.reduceEqDiff, true_and, and_true, false_and, e_sn, e_ss, e_pn, e_ps, e_bb, fill0, fill1, b_add, b_sub, b_mul, b_eql, b_neq, b_lss, b_leq, b_gtr, b_geq, b_and, b_or, b_xor, b_seql, b_sneq, b_slss, AQ.andThen, AQ.inBlock, Option.some.injEq, exists_eq_left', exists_eq_left, reduceCtorEq, Exit.exit.injEq, show ¬ (i : Int) < (l.length : Int) by omega, decide_false]
      rw [List.take_of_length_le (by omega)]
def RV (H : AHeap) (r bv : Nat) (v : Value) (l : List UInt8) : Prop :=
  (v = .slice none 0 0 ∧ l = [] ∧ bv = r) ∨ ∃ o c rm, v = slc bv o l.length l.length ∧ H.get bv = some (.cells true rm 1 c 5) ∧ bv ≠ r ∧ c.drop o = cellsOf l ∧ o ≤ c.length
def RS (H : AHeap) (r bv : Nat) (l : List UInt8) (bad : Bool) : Prop := ∃ v, H.get r = some (.cells true false 2 [v, .bool bad] 207) ∧ RV H r bv v l
theorem RV.bs {H : AHeap} {r bv : Nat} {v : Value} {l : List UInt8} (h : RV H r bv v l) : BS H v l := by
  rcases h with ⟨rfl, rfl, rfl⟩ | ⟨o, c, rm, rfl, h1, h2, h3, h4⟩
  · exact BS.nil H
  · refine ⟨⟨_, _, rfl⟩, ?_⟩
    have hl := congrArg List.length h3
    rw [List.length_drop, cellsOf_length] at hl
    simp only [elemsA, slc, h1]
    rw [if_pos (by omega), h3, List.take_of_length_le (by rw [cellsOf_length]; omega)]
theorem RV.chg {H H' : AHeap} {r bv : Nat} {v : Value} {l : List UInt8} {S : List Nat} (h : RV H r bv v l) (k : Chg S H H') (hS : bv ∉ S) : RV H' r bv v l := by
  rcases h with ⟨rfl, rfl, rfl⟩ | ⟨o, c, rm, rfl, h1, h2, h3, h4⟩
  · exact .inl ⟨rfl, rfl, rfl⟩
  · exact .inr ⟨o, c, rm, rfl, k.at_ h1 hS, h2, h3, h4⟩
theorem RS.chg {H H' : AHeap} {r bv : Nat} {l : List UInt8} {bad : Bool} {S : List Nat} (h : RS H r bv l bad) (k : Chg S H H') (h1 : r ∉ S) (h2 : bv ∉ S) : RS H' r bv l bad := by
  obtain ⟨v, a1, a2⟩ := h
  exact ⟨v, k.at_ a1 h1, a2.chg k h2⟩
theorem RS.lt {H : AHeap} {r bv : Nat} {l : List UInt8} {bad : Bool} (h : RS H r bv l bad) : r < H.n ∧ bv < H.n := by
  obtain ⟨v, a1, a2⟩ := h
  refine ⟨AHeap.get_lt a1, ?_⟩
  rcases a2 with ⟨_, _, rfl⟩ | ⟨o, c, rm, _, h1, _⟩
  · exact AHeap.get_lt a1
  · exact AHeap.get_lt h1
theorem t114 {H : AHeap} {x : Value} {l : List UInt8} (hx : BS H x l) (hl : l.length ≤ 1000000000) : ∃ v H', ARun Go.Proofs.Tryz.prog 0 114 [x] H v H' ∧ ∃ r bv, v = ptr r 0 ∧ RS H' r bv l false ∧ H.n ≤ r ∧ H.n ≤ bv ∧ Keeps H H' := by
  refine walk f114_ok f114_n ?_
  obtain ⟨v, H1, r31, p1, p2, p3⟩ := t91 hx hl
  simp only [f114, initFr, ↓reduceIte, RD_nil, RD_cons, RD_consg, W_dreg, obl_nil, Nat.reduceAdd, Nat.add_zero, Nat.zero_add, Nat.mul_one, Int.toNat_natCast, W_skip, W_reg, W_seq, W_cond, W_block, W_exit, W_ret, getD_nil', RW_nil, RW_cons, RW_consg, AOp.map, AX_fr, AX_tm, AX_c, AX_fn, AX_g, D_no, D_no', D_tm, D_tm', D_fr, D_fr', List.getD_cons_zero, List.getD_cons_succ, List.set_cons_zero, List.set_cons_succ, List.map_cons, List.map_nil, Option.map_some, Option.map_none, wantA, beq_self_eq_true, if_true, Bool.false_eq_true, if_false, Bool.not_true, Bool.not_false, s_mov, s_pick, s_new, s_box, s_build, s_bslice, s_load1, s_loadn, s_nilck, s_bin, s_eqv, s_not, s_neg, s_i2i, s_s2s, s_s2b, s_iface, s_mkfn, s_faddr, s_fld1, s_iaddr, s_idxs, s_assert, s_extract, s_len, s_lens, s_lenc, s_callf, resO0, resO1, resO2, resO3, List.getElem?_cons_zero, List.getElem?_cons_succ, Nat.reduceEqDiff, true_and, and_true, false_and, e_sn, e_ss, e_pn, e_ps, e_bb, fill0, fill1, b_add, b_sub, b_mul, b_eql, b_neq, b_lss, b_leq, b_gtr, b_geq, b_and, b_or, b_xor, b_seql, b_sneq, b_slss, AQ.andThen, AQ.inBlock, Option.some.injEq, exists_eq_left', exists_eq_left, reduceCtorEq, Exit.exit.injEq]
  refine ⟨_, _, r31, ?_⟩
  obtain ⟨a, ha⟩ := p1.shape
  have hf : fillA [.slice none 0 0, .bool false] [(0, 1, v)] = some [v, .bool false] := by rw [ha]; rfl
  refine ⟨_, hf, ?_⟩
  simp only [↓reduceIte, RD_nil, RD_cons, RD_consg, W_dreg, obl_nil, Nat.reduceAdd, Nat.add_zero, Nat.zero_add, Nat.mul_one, Int.toNat_natCast, W_skip, W_reg, W_seq, W_cond, W_block, W_exit, W_ret, getD_nil', RW_nil, RW_cons, RW_consg, AOp.map, AX_fr, AX_tm, AX_c, AX_fn, AX_g, D_no, D_no', D_tm, D_tm', D_fr, D_fr', List.getD_cons_zero, List.getD_cons_succ, List.set_cons_zero, List.set_cons_succ, List.map_cons, List.map_nil, Option.map_some, Option.map_none, wantA, beq_self_eq_true, if_true, Bool.false_eq_true, if_false, Bool.not_true, Bool.not_false, s_mov, s_pick, s_new, s_box, s_build, s_bslice, s_load1, s_loadn, s_nilck, s_bin, s_eqv, s_not, s_neg, s_i2i, s_s2s, s_s2b, s_iface, s_mkfn, s_faddr, s_fld1, s_iaddr, s_idxs, s_assert, s_extract, s_len, s_lens, s_lenc, s_callf, resO0, resO1, resO2, resO3, List.getElem?_cons_zero, List.getElem?_cons_succ, Nat.reduceEqDiff, true_and, and_true, false_and, e_sn, e_ss, e_pn, e_ps, e_bb, fill0, fill1, b_add, b_sub, b_mul, b_eql, b_neq, b_lss, b_leq, b_gtr, b_geq, b_and, b_or, b_xor, b_seql, b_sneq, b_slss, AQ.andThen, AQ.inBlock, Option.some.injEq, exists_eq_left', exists_eq_left, reduceCtorEq, Exit.exit.injEq, Value.cells]
  refine ⟨by rw [ha]; rfl, H1.n, ?_⟩
  have hK := (Keeps.refl H1).alloc (.cells true false 2 [v, .bool false] 207)
  have hg := AHeap.get_alloc_new H1 (.cells true false 2 [v, .bool false] 207)
  rcases p1 with ⟨rfl, h2, h3⟩ | ⟨b, room, rfl, h1, h2⟩
  · have hl0 : l = [] := List.length_eq_zero_iff.1 h2
    subst hl0
    exact ⟨H1.n, rfl, ⟨_, hg, .inl ⟨rfl, rfl, rfl⟩⟩, p2.n, p2.n, p2.trans hK⟩
  · have hb := AHeap.get_lt h2
    exact ⟨b, rfl, ⟨_, hg, .inr ⟨0, _, room, rfl, hK.at_ h2, by omega, by rw [List.drop_zero], by omega⟩⟩, p2.n, p3 b rfl, p2.trans hK⟩
def TK (H H' : AHeap) (r bv : Nat) (l : List UInt8) (n : Nat) (v : Value) : Prop :=
  Chg [r] H H' ∧ ((v = .slice none 0 0 ∧ l = [] ∧ n = 0 ∧ bv = r ∧ H'.get r = some (.cells true false 2 [.slice none 0 0, .bool false] 207)) ∨
    ∃ o c rm, v = slc bv o n n ∧ H'.get r = some (.cells true false 2 [slc bv (o + n) (l.length - n) (l.length - n), .bool false] 207) ∧ H'.get bv = some (.cells true rm 1 c 5) ∧ bv ≠ r ∧ c.drop o = cellsOf l ∧ o + n ≤ c.length)
theorem TK.rs {H H' : AHeap} {r bv : Nat} {l : List UInt8} {n : Nat} {v : Value} (h : TK H H' r bv l n v) : RS H' r bv (l.drop n) false := by
  obtain ⟨_, ⟨rfl, rfl, rfl, rfl, h1⟩ | ⟨o, c, rm, rfl, h1, h2, h3, h4, h5⟩⟩ := h
  · exact ⟨_, h1, .inl ⟨rfl, rfl, rfl⟩⟩
  · refine ⟨_, h1, .inr ⟨o + n, c, rm, by rw [List.length_drop], h2, h3, ?_, h5⟩⟩
    rw [← List.drop_drop, h4]
    simp [cellsOf, List.map_drop]
theorem TK.bs {H H' : AHeap} {r bv : Nat} {l : List UInt8} {n : Nat} {v : Value} (h : TK H H' r bv l n v) (hn : n ≤ l.length) : BS H' v (l.take n) := by
  obtain ⟨_, ⟨rfl, rfl, rfl, rfl, h1⟩ | ⟨o, c, rm, rfl, h1, h2, h3, h4, h5⟩⟩ := h
  · exact BS.nil H'
  · refine ⟨⟨some ⟨bv, o, none⟩, n, by rw [List.length_take, Nat.min_eq_left hn]; rfl⟩, ?_⟩
    simp only [elemsA, slc, h2, Nat.mul_one]
    rw [if_pos h5, h4]
    simp [cellsOf, List.map_take]
theorem t148 {H : AHeap} {r bv : Nat} {l : List UInt8} {bad : Bool} (h : RS H r bv l bad) (n : Int) (hl : l.length ≤ 1000000000) :
    ∃ v H', ARun Go.Proofs.Tryz.prog 0 148 [ptr r 0, .int .i64 n] H v H' ∧ if bad = true ∨ n < 0 ∨ (l.length : Int) < n then v = .slice none 0 0 ∧ RS H' r r [] true ∧ Chg [r] H H' else TK H H' r bv l n.toNat v := by
  refine walk2 f148_ok f148_n ?_
  intro Q hq1 hq2
  obtain ⟨v, h1, h2⟩ := h
  obtain ⟨a, k, hsh⟩ := h2.bs.sh
  have hrn := AHeap.get_lt h1
  have e1 : ∀ x : Value, (H.set r (.cells true false 2 [x, .bool bad] 207)).get r = some (.cells true false 2 [x, .bool bad] 207) := fun x => AHeap.get_set_same h1 _
  have fail : RS ((H.set r (.cells true false 2 [.slice none 0 0, .bool bad] 207)).set r (.cells true false 2 [.slice none 0 0, .bool true] 207)) r r [] true ∧ Chg [r] H ((H.set r (.cells true false 2 [.slice none 0 0, .bool bad] 207)).set r (.cells true false 2 [.slice none 0 0, .bool true] 207)) :=
    ⟨⟨_, AHeap.get_set_same (e1 _) _, .inl ⟨rfl, rfl, rfl⟩⟩, (Chg.set H hrn _).trans (Chg.set (H.set r _) hrn _) (fun x hx => .inl hx)⟩
  by_cases hbad : bad = true
  · subst hbad
    simp only [f148, W_block, ANs, AOp.map, ↓reduceIte, Nat.reduceAdd, Nat.reduceEqDiff, reduceCtorEq, initFr, Nat.reduceLT, ANc, cellA_of h1, a_st h1, a_st (e1 _)]
    refine hq2 _ _ ⟨_, rfl, ?_⟩
    rw [if_pos (.inl rfl)]
    exact ⟨rfl, fail⟩
  · have hb0 : bad = false := by simpa using hbad
    subst hb0
    by_cases hn : n < 0
    · simp only [f148, W_block, ANs, AOp.map, ↓reduceIte, Nat.reduceAdd, Nat.reduceEqDiff, reduceCtorEq, initFr, Nat.reduceLT, ANc, cellA_of h1, hn, decide_true, a_st h1, a_st (e1 _)]
      refine hq2 _ _ ⟨_, rfl, ?_⟩
      rw [if_pos (.inr (.inl hn))]
      exact ⟨rfl, fail⟩
    · by_cases hn2 : (l.length : Int) < n
      · subst hsh
        simp only [f148, W_block, ANs, AOp.map, ↓reduceIte, Nat.reduceAdd, Nat.reduceEqDiff, reduceCtorEq, initFr, Nat.reduceLT, ANc, cellA_of h1, hn, decide_true, decide_false, hn2, a_st h1, a_st (e1 _)]
        refine hq2 _ _ ⟨_, rfl, ?_⟩
        rw [if_pos (.inr (.inr hn2))]
        exact ⟨rfl, fail⟩
      · obtain ⟨m, rfl⟩ : ∃ m : Nat, n = m := ⟨n.toNat, by omega⟩
        have hm : m ≤ l.length := by omega
        rcases h2 with ⟨rfl, rfl, rfl⟩ | ⟨o, c, rm, rfl, g1, g2, g3, g4⟩
        · have hm0 : m = 0 := by simpa using hm
          have z1 : ∀ k : IntKind, bndA (some (.int k (m : Int))) 0 0 = some 0 := fun k => by rw [hm0]; exact bnd_some k 0 0 0 (Nat.le_refl _)
          have hn3 : ¬ (((0 : Nat) : Int) < (m : Int)) := by omega
          simp only [f148, W_block, ANs, AOp.map, ↓reduceIte, Nat.reduceAdd, Nat.reduceEqDiff, reduceCtorEq, initFr, Nat.reduceLT, ANc, cellA_of h1, hn, decide_true, decide_false, hn3, a_slsl_nil ⟨0, 0, 0, z1 .i64, z1 .i64, bnd_none 0 0⟩, a_slsl_nil ⟨0, 0, 0, bnd_none 0 0, bnd_none 0 0, z1 .i64⟩, a_st h1]
          refine hq2 _ _ ⟨_, rfl, ?_⟩
          rw [if_neg (by simp; omega)]
          exact ⟨Chg.set H hrn _, .inl ⟨rfl, rfl, hm0, rfl, AHeap.get_set_same h1 _⟩⟩
        · simp only [f148, W_block, ANs, AOp.map, ↓reduceIte, Nat.reduceAdd, Nat.reduceEqDiff, reduceCtorEq, initFr, Nat.reduceLT, ANc, cellA_of h1, hn, decide_true, decide_false, hn2, a_slsl g1 (bnd_some .i64 m l.length l.length hm) (bnd_some .i64 m l.length m (Nat.le_refl _)) (bnd_none 0 m),
            a_slsl g1 (bnd_none l.length l.length) (bnd_none l.length l.length) (bnd_some .i64 m 0 l.length hm), a_st h1, Nat.sub_zero, Nat.zero_mul]
          refine hq2 _ _ ⟨_, rfl, ?_⟩
          rw [if_neg (by simp; omega)]
          exact ⟨Chg.set H hrn _, .inr ⟨o, c, rm, rfl, AHeap.get_set_same h1 _, by rw [AHeap.get_set_other H g2 hrn]; exact g1, g2, g3, by
            have hl := congrArg List.length g3
            rw [List.length_drop, cellsOf_length] at hl
            simp only [Int.toNat_natCast]; omega⟩⟩
def failB (l : List UInt8) (bad : Bool) (n : Int) : Prop := bad = true ∨ n < 0 ∨ (l.length : Int) < n
instance (l : List UInt8) (bad : Bool) (n : Int) : Decidable (failB l bad n) := by unfold failB; infer_instance
def gotL (l : List UInt8) (bad : Bool) (n : Int) : List UInt8 := if failB l bad n then [] else l.take n.toNat
def restL (l : List UInt8) (bad : Bool) (n : Int) : List UInt8 := if failB l bad n then [] else l.drop n.toNat
def badB (l : List UInt8) (bad : Bool) (n : Int) : Bool := decide (failB l bad n)
def Aft (H H' : AHeap) (r bv : Nat) (l : List UInt8) (bad : Bool) (n : Int) : Prop := ∃ bv', RS H' r bv' (restL l bad n) (badB l bad n) ∧ (bv' = bv ∨ bv' = r)
theorem t148' {H : AHeap} {r bv : Nat} {l : List UInt8} {bad : Bool} (h : RS H r bv l bad) (n : Int) (hl : l.length ≤ 1000000000) :
    ∃ v H', ARun Go.Proofs.Tryz.prog 0 148 [ptr r 0, .int .i64 n] H v H' ∧ BS H' v (gotL l bad n) ∧ Aft H H' r bv l bad n ∧ Chg [r] H H' ∧ ((v = .slice none 0 0 ∧ gotL l bad n = []) ∨ (¬ failB l bad n ∧ TK H H' r bv l n.toNat v)) := by
  obtain ⟨v, H', q, p⟩ := t148 h n hl
  refine ⟨v, H', q, ?_⟩
  by_cases hf : failB l bad n
  · rw [if_pos (show bad = true ∨ n < 0 ∨ (l.length : Int) < n from hf)] at p
    obtain ⟨rfl, p1, p2⟩ := p
    have hb : badB l bad n = true := by simp [badB, hf]
    refine ⟨by simp only [gotL, hf, if_true]; exact BS.nil H', ⟨r, by rw [hb]; simp only [restL, hf, if_true]; exact p1, .inr rfl⟩, p2, .inl ⟨rfl, by simp [gotL, hf]⟩⟩
  · rw [if_neg (show ¬ (bad = true ∨ n < 0 ∨ (l.length : Int) < n) from hf)] at p
    have hb : badB l bad n = false := by simp [badB, hf]
    have hn : n.toNat ≤ l.length := by unfold failB at hf; omega
    refine ⟨by simp only [gotL, hf, if_false]; exact p.bs hn, ⟨bv, by rw [hb]; simp only [restL, hf, if_false]; exact p.rs, .inl rfl⟩, p.1, .inr ⟨hf, p⟩⟩
def tyR (k : Nat) : Nat := if k = 0 then 5 else if k = 1 then 181 else if k = 2 then 87 else 85
def kdR (k : Nat) : IntKind := if k = 0 then .u8 else if k = 1 then .u16 else if k = 2 then .u32 else .u64
theorem fold_le : ∀ (l : List UInt8) (a : Nat), l.foldl (fun n b => (n * 256 + b.toNat) % 18446744073709551616) a + 1 ≤ a * 256 ^ l.length + 256 ^ l.length
  | [], a => by simp
  | b :: l, a => by
    have h := fold_le l ((a * 256 + b.toNat) % 18446744073709551616)
    have hb := b.toNat_lt
    have h1 : (a * 256 + b.toNat) % 18446744073709551616 ≤ a * 256 + 255 := Nat.le_trans (Nat.mod_le _ _) (by omega)
    have h2 : ((a * 256 + b.toNat) % 18446744073709551616) * 256 ^ l.length ≤ (a * 256 + 255) * 256 ^ l.length := Nat.mul_le_mul_right _ h1
    simp only [List.foldl_cons, List.length_cons, Nat.pow_succ]
    have h3 : (a * 256 + 255) * 256 ^ l.length + 256 ^ l.length = a * (256 ^ l.length * 256) + 256 ^ l.length * 256 := by
      rw [Nat.add_mul, Nat.mul_assoc, Nat.mul_comm 256 (256 ^ l.length)]; omega
    omega
theorem num_lt' (l : List UInt8) : num l < 256 ^ l.length := by
  have := fold_le l 0
  unfold num
  omega
theorem t164 {H : AHeap} {x : Value} {l : List UInt8} (hx : BS H x l) (k : Nat) (hk : k < 4) (hl : l.length ≤ 2 ^ k) : ∃ v H', ARun Go.Proofs.Tryz.prog 0 164 [x, .int .i64 ((2 ^ k : Nat) : Int)] H v H' ∧ v = .iface (tyR k) (.int (kdR k) (num l)) ∧ H' = H := by
  refine walk2 f164_ok f164_n ?_
  intro Q hq1 hq2
  obtain ⟨a, kk, hsh⟩ := hx.sh
  have hp8 : 2 ^ k ≤ 8 := by
    have c0 : k = 0 ∨ k = 1 ∨ k = 2 ∨ k = 3 := by omega
    rcases c0 with rfl | rfl | rfl | rfl <;> decide
  rw [hsh]
  simp only [f164, W_block, ANs, AOp.map, ↓reduceIte, Nat.reduceAdd, Nat.reduceEqDiff, reduceCtorEq, initFr, Nat.reduceLT, ANc]
  refine W_loop2 (fun q fr H1 => ∃ (i : Nat) (z y : Value), fr = [.slice a l.length kk, .int .i64 ((2 ^ k : Nat) : Int), .nilIface, .int .u64 (num (l.take i)), y, .slice a l.length kk, .int .i64 l.length, .int .i64 i, z, undef, undef, undef, undef] ∧ i ≤ l.length ∧ q = l.length - i ∧ H1 = H) l.length ?_ ?_
  · exact ⟨0, undef, undef, by simp [num], by omega, by omega, rfl⟩
  · rintro Q' q fr H1 ⟨i, z, y, rfl, h1, rfl, rfl⟩ hnext hexit hret
    by_cases hi : i < l.length
    · obtain ⟨b, o, kc, hs, hc⟩ := hx.split (fun e => by subst e; simp at hi)
      rw [hsh] at hs
      have e1 : ((l[i].toNat : Int) % 18446744073709551616) = (l[i].toNat : Int) := by have := l[i].toNat_lt; omega
      rw [hs]
      simp only [W_block, ANs, AOp.map, ↓reduceIte, Nat.reduceAdd, Nat.reduceEqDiff, reduceCtorEq, initFr, Nat.reduceLT, ANc, show (i : Int) < (l.length : Int) by omega, decide_true, show (0 : Int) ≤ (i : Int) by omega, hc i hi, b_shl _ _ _ _ (show (0 : Int) ≤ 8 by omega), wrap_u64 ((l[i].toNat : Int)), show Int.toNat 8 = 8 from rfl, e1, or_byte, ← num_append, wrap_succ (n := i) (by omega)]
      refine hnext _ _ _ ⟨i + 1, _, _, by rw [List.take_succ_eq_append_getElem hi, hs], by omega, rfl, rfl⟩ (by omega)
    · simp only [W_block, ANs, AOp.map, ↓reduceIte, Nat.reduceAdd, Nat.reduceEqDiff, reduceCtorEq, initFr, Nat.reduceLT, ANc, show ¬ (i : Int) < (l.length : Int) by omega, decide_false]
      refine hexit _ _ _ ?_
      have hnum := num_lt' l
      rw [List.take_of_length_le (by omega)]
      have hpw : 256 ^ l.length ≤ 256 ^ (2 ^ k) := Nat.pow_le_pow_right (by omega) hl
      have c0 : k = 0 ∨ k = 1 ∨ k = 2 ∨ k = 3 := by omega
      rcases c0 with rfl | rfl | rfl | rfl
      · simp only [W_block, ANs, AOp.map, ↓reduceIte, Nat.reduceAdd, Nat.reduceEqDiff, reduceCtorEq, initFr, Nat.reduceLT, ANc, show ((((2 ^ 0 : Nat) : Int)) == 1) = true by decide]
        refine hq2 _ _ ⟨_, rfl, ?_, rfl⟩
        rw [wrap_u8, Int.emod_eq_of_lt (by omega) (by omega)]
        rfl
      · simp only [W_block, ANs, AOp.map, ↓reduceIte, Nat.reduceAdd, Nat.reduceEqDiff, reduceCtorEq, initFr, Nat.reduceLT, ANc, show ((((2 ^ 1 : Nat) : Int)) == 1) = false by decide, show ((((2 ^ 1 : Nat) : Int)) == 2) = true by decide]
        refine hq2 _ _ ⟨_, rfl, ?_, rfl⟩
        rw [wrap_u16, Int.emod_eq_of_lt (by omega) (by omega)]
        rfl
      · simp only [W_block, ANs, AOp.map, ↓reduceIte, Nat.reduceAdd, Nat.reduceEqDiff, reduceCtorEq, initFr, Nat.reduceLT, ANc, show ((((2 ^ 2 : Nat) : Int)) == 1) = false by decide, show ((((2 ^ 2 : Nat) : Int)) == 2) = false by decide, show ((((2 ^ 2 : Nat) : Int)) == 4) = true by decide]
        refine hq2 _ _ ⟨_, rfl, ?_, rfl⟩
        rw [wrap_u32, Int.emod_eq_of_lt (by omega) (by omega)]
        rfl
      · simp only [W_block, ANs, AOp.map, ↓reduceIte, Nat.reduceAdd, Nat.reduceEqDiff, reduceCtorEq, initFr, Nat.reduceLT, ANc, show ((((2 ^ 3 : Nat) : Int)) == 1) = false by decide, show ((((2 ^ 3 : Nat) : Int)) == 2) = false by decide, show ((((2 ^ 3 : Nat) : Int)) == 4) = false by decide]
        exact hq2 _ _ ⟨_, rfl, rfl, rfl⟩
theorem got_le (l : List UInt8) (bad : Bool) (n : Int) : ((gotL l bad n).length : Int) ≤ max n 0 := by
  unfold gotL
  split
  · simp; omega
  · rw [List.length_take]; omega
theorem t147 {H : AHeap} {r bv : Nat} {l : List UInt8} {bad : Bool} (h : RS H r bv l bad) (k : Nat) (hk : k < 4) (hl : l.length ≤ 1000000000) :
    ∃ v H', ARun Go.Proofs.Tryz.prog 0 147 [ptr r 0, .int .i64 ((2 ^ k : Nat) : Int)] H v H' ∧ v = .iface (tyR k) (.int (kdR k) (num (gotL l bad ((2 ^ k : Nat) : Int)))) ∧ Aft H H' r bv l bad ((2 ^ k : Nat) : Int) ∧ Chg [r] H H' := by
  refine walk2 f147_ok f147_n ?_
  intro Q hq1 hq2
  obtain ⟨v, H1, r1, p1, p2, p3, _⟩ := t148' h ((2 ^ k : Nat) : Int) hl
  simp only [f147, W_block, ANs, AOp.map, ↓reduceIte, Nat.reduceAdd, Nat.reduceEqDiff, reduceCtorEq, initFr, Nat.reduceLT, ANc]
  refine ⟨_, _, r1, ?_⟩
  simp only [W_block, ANs, AOp.map, ↓reduceIte, Nat.reduceAdd, Nat.reduceEqDiff, reduceCtorEq, initFr, Nat.reduceLT, ANc]
  have hle := got_le l bad ((2 ^ k : Nat) : Int)
  rw [Int.max_eq_left (Int.natCast_nonneg _)] at hle
  obtain ⟨v2, H2, r2, rfl, rfl⟩ := t164 p1 k hk (Int.ofNat_le.1 hle)
  refine ⟨_, _, r2, ?_⟩
  simp only [W_block, ANs, AOp.map, ↓reduceIte, Nat.reduceAdd, Nat.reduceEqDiff, reduceCtorEq, initFr, Nat.reduceLT, ANc]
  exact hq2 _ _ ⟨_, rfl, rfl, p2, p3⟩
theorem t115 {H : AHeap} {r bv : Nat} {l : List UInt8} {bad : Bool} (h : RS H r bv l bad) (hl : l.length ≤ 1000000000) :
    ∃ v H', ARun Go.Proofs.Tryz.prog 0 115 [ptr r 0] H v H' ∧ v = .int .u8 (num (gotL l bad 1)) ∧ Aft H H' r bv l bad 1 ∧ Chg [r] H H' := by
  refine walk2 f115_ok f115_n ?_
  intro Q hq1 hq2
  obtain ⟨v, H1, r1, rfl, p2, p3⟩ := t147 h 0 (by omega) hl
  simp only [f115, W_block, ANs, AOp.map, ↓reduceIte, Nat.reduceAdd, Nat.reduceEqDiff, reduceCtorEq, initFr, Nat.reduceLT, ANc]
  refine ⟨_, _, r1, ?_⟩
  simp only [W_block, ANs, AOp.map, ↓reduceIte, Nat.reduceAdd, Nat.reduceEqDiff, reduceCtorEq, initFr, Nat.reduceLT, ANc, tyR, kdR]
  exact hq2 _ _ ⟨_, rfl, rfl, p2, p3⟩
theorem t118 {H : AHeap} {r bv : Nat} {l : List UInt8} {bad : Bool} (h : RS H r bv l bad) (hl : l.length ≤ 1000000000) :
    ∃ v H', ARun Go.Proofs.Tryz.prog 0 118 [ptr r 0] H v H' ∧ v = .int .u16 (num (gotL l bad 2)) ∧ Aft H H' r bv l bad 2 ∧ Chg [r] H H' := by
  refine walk2 f118_ok f118_n ?_
  intro Q hq1 hq2
  obtain ⟨v, H1, r1, rfl, p2, p3⟩ := t147 h 1 (by omega) hl
  simp only [f118, W_block, ANs, AOp.map, ↓reduceIte, Nat.reduceAdd, Nat.reduceEqDiff, reduceCtorEq, initFr, Nat.reduceLT, ANc]
  refine ⟨_, _, r1, ?_⟩
  simp only [W_block, ANs, AOp.map, ↓reduceIte, Nat.reduceAdd, Nat.reduceEqDiff, reduceCtorEq, initFr, Nat.reduceLT, ANc, tyR, kdR]
  exact hq2 _ _ ⟨_, rfl, rfl, p2, p3⟩
theorem t116 {H : AHeap} {r bv : Nat} {l : List UInt8} {bad : Bool} (h : RS H r bv l bad) (hl : l.length ≤ 1000000000) :
    ∃ v H', ARun Go.Proofs.Tryz.prog 0 116 [ptr r 0] H v H' ∧ v = .int .u64 (num (gotL l bad 8)) ∧ Aft H H' r bv l bad 8 ∧ Chg [r] H H' := by
  refine walk2 f116_ok f116_n ?_
  intro Q hq1 hq2
  obtain ⟨v, H1, r1, rfl, p2, p3⟩ := t147 h 3 (by omega) hl
  simp only [f116, W_block, ANs, AOp.map, ↓reduceIte, Nat.reduceAdd, Nat.reduceEqDiff, reduceCtorEq, initFr, Nat.reduceLT, ANc]
  refine ⟨_, _, r1, ?_⟩
  simp only [W_block, ANs, AOp.map, ↓reduceIte, Nat.reduceAdd, Nat.reduceEqDiff, reduceCtorEq, initFr, Nat.reduceLT, ANc, tyR, kdR]
  exact hq2 _ _ ⟨_, rfl, rfl, p2, p3⟩
theorem t119 {H : AHeap} {r bv : Nat} {l : List UInt8} {bad : Bool} (h : RS H r bv l bad) (n : Int) (hl : l.length ≤ 1000000000) :
    ∃ v H', ARun Go.Proofs.Tryz.prog 0 119 [ptr r 0, .int .i64 n] H v H' ∧ BS H' v (gotL l bad n) ∧ Aft H H' r bv l bad n ∧ Chg [r] H H' ∧ ((v = .slice none 0 0 ∧ gotL l bad n = []) ∨ (¬ failB l bad n ∧ TK H H' r bv l n.toNat v)) := by
  refine walk2 f119_ok f119_n ?_
  intro Q hq1 hq2
  obtain ⟨v, H1, r1, p⟩ := t148' h n hl
  simp only [f119, W_block, ANs, AOp.map, ↓reduceIte, Nat.reduceAdd, Nat.reduceEqDiff, reduceCtorEq, initFr, Nat.reduceLT, ANc]
  refine ⟨_, _, r1, ?_⟩
  simp only [W_block, ANs, AOp.map, ↓reduceIte, Nat.reduceAdd, Nat.reduceEqDiff, reduceCtorEq, initFr, Nat.reduceLT, ANc]
  exact hq2 _ _ ⟨_, rfl, p⟩
end Go.AM.Fd

set_option linter.unusedSimpArgs false
set_option linter.unusedVariables false
namespace Go.AM
theorem ofI (n a : Nat) : BitVec.ofInt n (a : Int) = BitVec.ofNat n a := BitVec.ofInt_natCast ..
theorem bv_xor (n a b : Nat) : (BitVec.ofInt n (a : Int) ^^^ BitVec.ofInt n (b : Int)).toNat = (a ^^^ b) % 2 ^ n := by
  rw [ofI, ofI, BitVec.toNat_xor, BitVec.toNat_ofNat, BitVec.toNat_ofNat, Nat.xor_mod_two_pow]
theorem bv_and (n a b : Nat) : (BitVec.ofInt n (a : Int) &&& BitVec.ofInt n (b : Int)).toNat = (a &&& b) % 2 ^ n := by
  rw [ofI, ofI, BitVec.toNat_and, BitVec.toNat_ofNat, BitVec.toNat_ofNat, Nat.and_mod_two_pow]
def uk (k : IntKind) : Bool := !k.signed
theorem wrapU {k : IntKind} (h : uk k = true) (n : Nat) (hn : n < 2 ^ k.bits) : k.wrap (n : Int) = n := by
  cases k <;> simp [uk, IntKind.signed] at h <;> simp [IntKind.wrap, IntKind.bits, IntKind.signed] at hn ⊢ <;> omega
theorem w_xor {k : IntKind} (hk : uk k = true) {a b : Nat} (ha : a < 2 ^ k.bits) (hb : b < 2 ^ k.bits) : k.wrap ((BitVec.ofInt k.bits (a : Int) ^^^ BitVec.ofInt k.bits (b : Int)).toNat : Int) = ((a ^^^ b : Nat) : Int) := by
  rw [bv_xor, Nat.mod_eq_of_lt (Nat.xor_lt_two_pow ha hb), wrapU hk _ (Nat.xor_lt_two_pow ha hb)]
theorem w_and {k : IntKind} (hk : uk k = true) {a b : Nat} (ha : a < 2 ^ k.bits) : k.wrap ((BitVec.ofInt k.bits (a : Int) &&& BitVec.ofInt k.bits (b : Int)).toNat : Int) = ((a &&& b : Nat) : Int) := by
  have : a &&& b < 2 ^ k.bits := Nat.lt_of_le_of_lt Nat.and_le_left ha
  rw [bv_and, Nat.mod_eq_of_lt this, wrapU hk _ this]
theorem w_xor32 {a b : Nat} (ha : a < 4294967296) (hb : b < 4294967296) : IntKind.u32.wrap ((BitVec.ofInt IntKind.u32.bits (a : Int) ^^^ BitVec.ofInt IntKind.u32.bits (b : Int)).toNat : Int) = ((a ^^^ b : Nat) : Int) := w_xor (k := .u32) rfl ha hb
theorem w_xor8 {a b : Nat} (ha : a < 256) (hb : b < 256) : IntKind.u8.wrap ((BitVec.ofInt IntKind.u8.bits (a : Int) ^^^ BitVec.ofInt IntKind.u8.bits (b : Int)).toNat : Int) = ((a ^^^ b : Nat) : Int) := w_xor (k := .u8) rfl ha hb
theorem w_and1 {k : IntKind} (hk : uk k = true) {a : Nat} (ha : a < 2 ^ k.bits) : k.wrap ((BitVec.ofInt k.bits (a : Int) &&& BitVec.ofInt k.bits 1).toNat : Int) = ((a % 2 : Nat) : Int) := by
  have := w_and hk (b := 1) ha
  rw [Nat.and_one_is_mod] at this; exact this
theorem b_shrN {k k' : IntKind} {n s : Nat} (h : s ≤ k.bits) : binA .shr (.int k (n : Int)) (.int k' (s : Int)) = some (.int k ((n / 2 ^ s : Nat) : Int)) := by
  rw [b_shr _ _ _ _ (Int.natCast_nonneg s), Int.toNat_natCast, Nat.min_eq_left h, Int.fdiv_eq_ediv_of_nonneg _ (Int.le_of_lt (Int.pow_pos (by omega)))]
  simp
theorem a_uxor {H : AHeap} {k : IntKind} {n : Int} : asem (.un .xor (.int k n)) H = some (.int k (k.wrap (BitVec.ofInt k.bits (if k.signed then -1 else k.max) ^^^ BitVec.ofInt k.bits n).toNat), H) := _root_.id rfl
def tb : Value → List Nat
  | .slice (some ⟨b, _, none⟩) _ _ => [b]
  | _ => []
theorem el_tbl {H : AHeap} {esz : Nat} {v : Value} {l : List Value} (h : elemsA H esz v = some l) : ∀ b ∈ tb v, b < H.n := by
  intro b hb
  unfold tb at hb
  split at hb
  · rename_i x o n k
    simp only [List.mem_singleton] at hb; subst hb
    simp only [elemsA] at h
    cases hg : H.get b with
    | none => rw [hg] at h; cases h
    | some ob => exact AHeap.get_lt hg
  · cases hb
theorem el_get {H H' : AHeap} {esz : Nat} {v : Value} {l : List Value} (h : elemsA H esz v = some l) (k : ∀ b ∈ tb v, b < H.n → H'.get b = H.get b) : elemsA H' esz v = some l := by
  have ht := el_tbl h
  unfold elemsA at h ⊢
  split
  · exact h
  · rename_i b o n k2
    have hb : b ∈ tb (.slice (some ⟨b, o, none⟩) n k2) := by simp [tb]
    rw [k b hb (ht b hb)]; exact h
  · exact h
  · simp at h
theorem BS.chgT {H H' : AHeap} {v : Value} {l : List UInt8} {S : List Nat} (h : BS H v l) (k : Chg S H H') (hS : ∀ b ∈ tb v, b ∉ S) : BS H' v l :=
  ⟨h.sh, el_get h.el fun b hb hn => k.get b hn (hS b hb)⟩
end Go.AM

set_option linter.unusedSimpArgs false
set_option linter.unusedVariables false
namespace Go.AM.Fd
open Nat (reduceAdd reduceEqDiff reduceLT reduceLeDiff reduceMul reduceSub)
open Go.Proofs Go.AM.F
def DV : Nat := 3988292384
def ah (r : Nat) : Nat := if r % 2 = 1 then r / 2 ^^^ DV else r / 2
def ei : Nat → Nat → Nat
  | 0, r => r
  | n + 1, r => ei n (ah r)
def crcS (r : Nat) (c : UInt8) : Nat := ei 8 (r ^^^ c.toNat)
def crcL (l : List UInt8) : Nat := l.foldl crcS 4294967295
def crc (l : List UInt8) : Nat := 4294967295 ^^^ crcL l
theorem ah_lt {r : Nat} (h : r < 4294967296) : ah r < 4294967296 := by
  unfold ah
  split
  · exact Nat.xor_lt_two_pow (n := 32) (by omega) (by decide)
  · omega
theorem ei_lt : ∀ n {r : Nat}, r < 4294967296 → ei n r < 4294967296
  | 0, _, h => h
  | n + 1, _, h => ei_lt n (ah_lt h)
theorem xc_lt {r : Nat} (h : r < 4294967296) (c : UInt8) : r ^^^ c.toNat < 4294967296 := Nat.xor_lt_two_pow (n := 32) (by omega) (by have := c.toNat_lt; omega)
theorem crcS_lt {r : Nat} (h : r < 4294967296) (c : UInt8) : crcS r c < 4294967296 := ei_lt 8 (xc_lt h c)
theorem fold_lt : ∀ (l : List UInt8) {r : Nat}, r < 4294967296 → l.foldl crcS r < 4294967296
  | [], _, h => h
  | c :: l, _, h => fold_lt l (crcS_lt h c)
theorem crcL_lt (l : List UInt8) : crcL l < 4294967296 := fold_lt l (by decide)
theorem crc_lt (l : List UInt8) : crc l < 4294967296 := Nat.xor_lt_two_pow (n := 32) (by decide) (crcL_lt l)
theorem t167 (r : Nat) (hr : r < 4294967296) (H : AHeap) : ∃ v H', ARun Go.Proofs.Tryz.prog 0 167 [.int .u32 r] H v H' ∧ v = .int .u32 (ah r) ∧ H' = H := by
  refine walk2 f167_ok f167_n ?_
  intro Q hq1 hq2
  have h1 : IntKind.u32.wrap ((BitVec.ofInt IntKind.u32.bits (r : Int) &&& BitVec.ofInt IntKind.u32.bits 1).toNat : Int) = ((r % 2 : Nat) : Int) := w_and1 (k := .u32) rfl hr
  have h2 : binA .shr (.int .u32 (r : Int)) (.int .u64 1) = some (.int .u32 ((r / 2 : Nat) : Int)) := b_shrN (k := .u32) (k' := .u64) (n := r) (s := 1) (by decide)
  have h3 : IntKind.u32.wrap ((BitVec.ofInt IntKind.u32.bits ((r / 2 : Nat) : Int) ^^^ BitVec.ofInt IntKind.u32.bits 3988292384).toNat : Int) = ((r / 2 ^^^ DV : Nat) : Int) := w_xor32 (b := DV) (by omega) (by decide)
  by_cases h : r % 2 = 1
  · have h4 : (0 : Int) < ((r % 2 : Nat) : Int) := by omega
    simp (disch := first | assumption | omega | (simp only [LN] <;> omega) | (simp (disch := first | assumption | omega | (simp only [LN] <;> omega)) only [row_alloc, row_set]; assumption)) only [f167, W_block, P3, ↓reduceIte, reduceAdd, reduceEqDiff, reduceCtorEq, initFr, reduceLT, clsA, reduceLeDiff, reduceMul, reduceSub, reduceIte, h1, h2, h3, h4]
    exact hq2 _ _ ⟨_, rfl, by rw [ah, if_pos h]; rfl, rfl⟩
  · have h4 : ¬ (0 : Int) < ((r % 2 : Nat) : Int) := by omega
    simp (disch := first | assumption | omega | (simp only [LN] <;> omega) | (simp (disch := first | assumption | omega | (simp only [LN] <;> omega)) only [row_alloc, row_set]; assumption)) only [f167, W_block, P3, ↓reduceIte, reduceAdd, reduceEqDiff, reduceCtorEq, initFr, reduceLT, clsA, reduceLeDiff, reduceMul, reduceSub, reduceIte, h1, h2, h3, h4]
    exact hq2 _ _ ⟨_, rfl, by rw [ah, if_neg h]; rfl, rfl⟩
theorem t166 (r : Nat) (hr : r < 4294967296) (H : AHeap) : ∃ v H', ARun Go.Proofs.Tryz.prog 0 166 [.int .u32 r, .func (.func 167) #[] #[]] H v H' ∧ v = .int .u32 (ei 8 r) ∧ H' = H := by
  refine walk2 f166_ok f166_n ?_
  intro Q hq1 hq2
  simp (disch := first | assumption | omega | (simp only [LN] <;> omega) | (simp (disch := first | assumption | omega | (simp only [LN] <;> omega)) only [row_alloc, row_set]; assumption)) only [f166, W_block, P3, ↓reduceIte, reduceAdd, reduceEqDiff, reduceCtorEq, initFr, reduceLT, clsA, reduceLeDiff, reduceMul, reduceSub, reduceIte]
  refine W_loop2 (fun q fr K => K = H ∧ ∃ (i s : Nat) (a : Value), i ≤ 8 ∧ q = 8 - i ∧ s < 4294967296 ∧ ei (8 - i) s = ei 8 r ∧ fr = [.int .u32 s, .func (.func 167) #[] #[], .int .u32 0, .int .i64 i, a]) 8 ⟨rfl, 0, r, undef, by omega, rfl, hr, rfl, rfl⟩ ?_
  rintro Q' q fr K ⟨rfl, i, s, a, hi, rfl, hs, he8, rfl⟩ hn he hrt
  by_cases hc : i < 8
  · simp (disch := first | assumption | omega | (simp only [LN] <;> omega) | (simp (disch := first | assumption | omega | (simp only [LN] <;> omega)) only [row_alloc, row_set]; assumption)) only [W_block, P3, ↓reduceIte, reduceAdd, reduceEqDiff, reduceCtorEq, initFr, reduceLT, clsA, reduceLeDiff, reduceMul, reduceSub, reduceIte]
    refine callK (t167 s hs K) ?_
    rintro _ _ ⟨rfl, rfl⟩
    simp (disch := first | assumption | omega | (simp only [LN] <;> omega) | (simp (disch := first | assumption | omega | (simp only [LN] <;> omega)) only [row_alloc, row_set]; assumption)) only [W_block, P3, ↓reduceIte, reduceAdd, reduceEqDiff, reduceCtorEq, initFr, reduceLT, clsA, reduceLeDiff, reduceMul, reduceSub, reduceIte, wrap_succ (n := i) (by omega)]
    refine hn _ _ _ ⟨rfl, i + 1, ah s, _, by omega, rfl, ah_lt hs, ?_, rfl⟩ (by omega)
    rw [← he8, show 8 - i = (8 - (i + 1)) + 1 by omega]; rfl
  · obtain rfl : i = 8 := by omega
    simp (disch := first | assumption | omega | (simp only [LN] <;> omega) | (simp (disch := first | assumption | omega | (simp only [LN] <;> omega)) only [row_alloc, row_set]; assumption)) only [W_block, P3, ↓reduceIte, reduceAdd, reduceEqDiff, reduceCtorEq, initFr, reduceLT, clsA, reduceLeDiff, reduceMul, reduceSub, reduceIte]
    refine he _ _ _ ?_
    simp (disch := first | assumption | omega | (simp only [LN] <;> omega) | (simp (disch := first | assumption | omega | (simp only [LN] <;> omega)) only [row_alloc, row_set]; assumption)) only [W_block, P3, ↓reduceIte, reduceAdd, reduceEqDiff, reduceCtorEq, initFr, reduceLT, clsA, reduceLeDiff, reduceMul, reduceSub, reduceIte]
    exact hq2 _ _ ⟨_, rfl, by rw [← he8]; rfl, rfl⟩
theorem t154 {H : AHeap} {x : Value} {l : List UInt8} (hx : BS H x l) (hl : l.length ≤ 1000000000) : ∃ v H', ARun Go.Proofs.Tryz.prog 0 154 [x] H v H' ∧ v = .int .u32 (crc l) ∧ H' = H := by
  refine walk2 f154_ok f154_n ?_
  intro Q hq1 hq2
  have hs := hx.sl
  have his := hs.is
  have hlen := hs.len
  rw [List.length_map] at hlen
  simp (disch := first | assumption | omega | (simp only [LN] <;> omega) | (simp (disch := first | assumption | omega | (simp only [LN] <;> omega)) only [row_alloc, row_set]; assumption)) only [f154, W_block, P3, ↓reduceIte, reduceAdd, reduceEqDiff, reduceCtorEq, initFr, reduceLT, clsA, reduceLeDiff, reduceMul, reduceSub, reduceIte, hlen]
  refine W_loop2 (fun q fr K => K = H ∧ ∃ (i : Nat) (y a : Value), i ≤ l.length ∧ q = l.length - i ∧ fr = [x, .int .u32 0, .int .u32 ((l.take i).foldl crcS 4294967295 : Nat), y, x, .int .i64 l.length, .int .i64 i, a]) l.length ⟨rfl, 0, undef, undef, by omega, rfl, rfl⟩ ?_
  rintro Q' q fr K ⟨rfl, i, y, a, hi, rfl, rfl⟩ hn he hrt
  have hr := fold_lt (l.take i) (r := 4294967295) (by decide)
  generalize hR : (l.take i).foldl crcS 4294967295 = R at hr ⊢
  by_cases hc : i < l.length
  · obtain ⟨hnn, hrow⟩ := hs.at_ (by omega) (i := i) (by simpa using hc)
    rw [List.getElem_map] at hrow
    have hw : IntKind.u32.wrap (l[i].toNat : Int) = l[i].toNat := by rw [wrap_u32]; have := l[i].toNat_lt; omega
    have hw2 := w_xor32 (a := R) (b := l[i].toNat) hr (by have := l[i].toNat_lt; omega)
    simp (disch := first | assumption | omega | (simp only [LN] <;> omega) | (simp (disch := first | assumption | omega | (simp only [LN] <;> omega)) only [row_alloc, row_set]; assumption)) only [W_block, P3, ↓reduceIte, reduceAdd, reduceEqDiff, reduceCtorEq, initFr, reduceLT, clsA, reduceLeDiff, reduceMul, reduceSub, reduceIte, hlen, hw, hw2]
    refine callK (t166 _ (xc_lt hr l[i]) K) ?_
    rintro _ _ ⟨rfl, rfl⟩
    simp (disch := first | assumption | omega | (simp only [LN] <;> omega) | (simp (disch := first | assumption | omega | (simp only [LN] <;> omega)) only [row_alloc, row_set]; assumption)) only [W_block, P3, ↓reduceIte, reduceAdd, reduceEqDiff, reduceCtorEq, initFr, reduceLT, clsA, reduceLeDiff, reduceMul, reduceSub, reduceIte, wrap_succ (n := i) (by omega)]
    refine hn _ _ _ ⟨rfl, i + 1, .int .u8 l[i].toNat, .bool true, by omega, rfl, ?_⟩ (by omega)
    rw [List.take_succ_eq_append_getElem hc, List.foldl_append, hR]
    rfl
  · simp (disch := first | assumption | omega | (simp only [LN] <;> omega) | (simp (disch := first | assumption | omega | (simp only [LN] <;> omega)) only [row_alloc, row_set]; assumption)) only [W_block, P3, ↓reduceIte, reduceAdd, reduceEqDiff, reduceCtorEq, initFr, reduceLT, clsA, reduceLeDiff, reduceMul, reduceSub, reduceIte]
    refine he _ _ _ ?_
    have hw2 := w_xor32 (a := 4294967295) (b := R) (by decide) hr
    simp (disch := first | assumption | omega | (simp only [LN] <;> omega) | (simp (disch := first | assumption | omega | (simp only [LN] <;> omega)) only [row_alloc, row_set]; assumption)) only [W_block, P3, ↓reduceIte, reduceAdd, reduceEqDiff, reduceCtorEq, initFr, reduceLT, clsA, reduceLeDiff, reduceMul, reduceSub, reduceIte, a_uxor]
    rw [List.take_of_length_le (by omega)] at hR
    exact hq2 _ _ ⟨_, rfl, by unfold crc crcL; rw [hR, ← hw2]; rfl, rfl⟩
def TB : List Nat := [1996959894, 3993919788, 124634137, 249268274, 498536548, 997073096, 1994146192, 3988292384]
def CTB : List Value := [.int .u32 1996959894, .int .u32 3993919788, .int .u32 124634137, .int .u32 249268274, .int .u32 498536548, .int .u32 997073096, .int .u32 1994146192, .int .u32 3988292384]
def gk (u n : Nat) : Nat → Nat
  | 0 => n
  | k + 1 => if u / 2 ^ k % 2 = 1 then gk u n k ^^^ TB.getD k 0 else gk u n k
theorem CTB_at {k : Nat} (h : k < 8) : CTB[k]? = some (.int .u32 (TB.getD k 0 : Nat)) := by
  obtain rfl | rfl | rfl | rfl | rfl | rfl | rfl | rfl : k = 0 ∨ k = 1 ∨ k = 2 ∨ k = 3 ∨ k = 4 ∨ k = 5 ∨ k = 6 ∨ k = 7 := by omega
  all_goals rfl
theorem TB_lt (k : Nat) : TB.getD k 0 < 4294967296 := by
  by_cases h : k < 8
  · obtain rfl | rfl | rfl | rfl | rfl | rfl | rfl | rfl : k = 0 ∨ k = 1 ∨ k = 2 ∨ k = 3 ∨ k = 4 ∨ k = 5 ∨ k = 6 ∨ k = 7 := by omega
    all_goals decide
  · rw [List.getD_eq_getElem?_getD, List.getElem?_eq_none (by simp [TB]; omega)]; decide
theorem gk_lt {u n : Nat} (h : n < 4294967296) : ∀ k, gk u n k < 4294967296
  | 0 => h
  | k + 1 => by
    rw [gk]
    split
    · exact Nat.xor_lt_two_pow (n := 32) (gk_lt h k) (TB_lt k)
    · exact gk_lt h k
theorem bit_half (x k : Nat) : x / 2 ^ k / 2 = x / 2 ^ (k + 1) := by rw [Nat.div_div_eq_div_mul, Nat.pow_succ]
theorem xor_half (a b : Nat) : (a ^^^ b) / 2 = a / 2 ^^^ b / 2 := Nat.xor_div_two ..
theorem xor_par (a b : Nat) : (a ^^^ b) % 2 = (a % 2) ^^^ (b % 2) := Nat.xor_mod_two_pow (n := 1)
theorem ah_xor (a b : Nat) : ah (a ^^^ b) = ah a ^^^ ah b := by
  unfold ah
  rw [xor_half, xor_par]
  rcases Nat.mod_two_eq_zero_or_one a with h1 | h1 <;> rcases Nat.mod_two_eq_zero_or_one b with h2 | h2 <;> simp only [h1, h2, Nat.reduceXor, if_true, if_false, Nat.reduceEqDiff, Nat.zero_ne_one]
  · rw [Nat.xor_assoc]
  · rw [Nat.xor_assoc, Nat.xor_assoc, Nat.xor_comm DV]
  · rw [show (a / 2 ^^^ DV) ^^^ (b / 2 ^^^ DV) = (a / 2 ^^^ b / 2) ^^^ (DV ^^^ DV) by rw [Nat.xor_assoc, Nat.xor_assoc, ← Nat.xor_assoc DV, ← Nat.xor_assoc (b / 2), Nat.xor_comm DV (b / 2)], Nat.xor_self, Nat.xor_zero]
theorem ei_xor : ∀ n a b, ei n (a ^^^ b) = ei n a ^^^ ei n b
  | 0, _, _ => rfl
  | n + 1, a, b => by rw [ei, ah_xor, ei_xor n]; rfl
def dd (k x : Nat) : Nat := if x / 2 ^ k % 2 = 1 then DV else 0
def tt (x k : Nat) : Nat := if x / 2 ^ k % 2 = 1 then TB.getD k 0 else 0
theorem ah_dd (x : Nat) : ah x = x / 2 ^^^ dd 0 x := by
  unfold ah dd
  rw [Nat.pow_zero, Nat.div_one]
  split
  · rfl
  · rw [Nat.xor_zero]
theorem ei_dd {m k : Nat} (x : Nat) (h : ei m DV = TB.getD k 0) : ei m (dd k x) = tt x k := by
  unfold dd tt
  split
  · exact h
  · have : ∀ n, ei n 0 = 0 := fun n => by induction n with
      | zero => rfl
      | succ n ih => rw [ei, show ah 0 = 0 from rfl, ih]
    exact this m
theorem dd_half (x k : Nat) : dd 0 (x / 2 ^ k) = dd k x := by unfold dd; rw [Nat.pow_zero, Nat.div_one]
theorem ei_step (m k x : Nat) (h : ei m DV = TB.getD k 0) : ei (m + 1) (x / 2 ^ k) = ei m (x / 2 ^ (k + 1)) ^^^ tt x k := by
  rw [ei, ah_dd, dd_half, bit_half, ei_xor, ei_dd x h]
theorem ei8 (x : Nat) : ei 8 x = x / 256 ^^^ tt x 7 ^^^ tt x 6 ^^^ tt x 5 ^^^ tt x 4 ^^^ tt x 3 ^^^ tt x 2 ^^^ tt x 1 ^^^ tt x 0 := by
  have h := ei_step 7 0 x (by decide)
  rw [Nat.pow_zero, Nat.div_one] at h
  rw [h, ei_step 6 1 x (by decide), ei_step 5 2 x (by decide), ei_step 4 3 x (by decide), ei_step 3 4 x (by decide), ei_step 2 5 x (by decide), ei_step 1 6 x (by decide), ei_step 0 7 x (by decide)]
  rfl
theorem gk_tt (u n k : Nat) : gk u n (k + 1) = gk u n k ^^^ tt u k := by
  rw [gk, tt]
  split
  · rfl
  · rw [Nat.xor_zero]
theorem gk8 (u n : Nat) : gk u n 8 = n ^^^ tt u 7 ^^^ tt u 6 ^^^ tt u 5 ^^^ tt u 4 ^^^ tt u 3 ^^^ tt u 2 ^^^ tt u 1 ^^^ tt u 0 := by
  rw [gk_tt, gk_tt, gk_tt, gk_tt, gk_tt, gk_tt, gk_tt, gk_tt, gk]
  ac_rfl
theorem crcS_gk (n : Nat) (c : UInt8) : crcS n c = gk ((n % 256) ^^^ c.toNat) (n / 256) 8 := by
  have hc := c.toNat_lt
  have h1 : (n % 256) ^^^ c.toNat = (n ^^^ c.toNat) % 256 := by
    have := Nat.xor_mod_two_pow (a := n) (b := c.toNat) (n := 8)
    rw [show 2 ^ 8 = 256 from rfl] at this
    rw [this, Nat.mod_eq_of_lt hc]
  have h2 : n / 256 = (n ^^^ c.toNat) / 256 := by
    have := Nat.xor_div_two_pow (a := n) (b := c.toNat) (n := 8)
    rw [show 2 ^ 8 = 256 from rfl] at this
    rw [this, Nat.div_eq_of_lt hc, Nat.xor_zero]
  have h3 : ∀ k, k < 8 → tt ((n ^^^ c.toNat) % 256) k = tt (n ^^^ c.toNat) k := by
    intro k hk
    unfold tt
    have : (n ^^^ c.toNat) % 256 / 2 ^ k % 2 = (n ^^^ c.toNat) / 2 ^ k % 2 := by
      generalize n ^^^ c.toNat = x
      obtain rfl | rfl | rfl | rfl | rfl | rfl | rfl | rfl : k = 0 ∨ k = 1 ∨ k = 2 ∨ k = 3 ∨ k = 4 ∨ k = 5 ∨ k = 6 ∨ k = 7 := by omega
      all_goals (simp only [Nat.reducePow]; omega)
    rw [this]
  unfold crcS
  rw [ei8, gk8, h1, h2, h3 0 (by omega), h3 1 (by omega), h3 2 (by omega), h3 3 (by omega), h3 4 (by omega), h3 5 (by omega), h3 6 (by omega), h3 7 (by omega)]
theorem fillTB : fillA [(.int .u32 0), (.int .u32 0), (.int .u32 0), (.int .u32 0), (.int .u32 0), (.int .u32 0), (.int .u32 0), (.int .u32 0)] [(0, 1, .int .u32 1996959894), (1, 1, .int .u32 3993919788), (2, 1, .int .u32 124634137), (3, 1, .int .u32 249268274), (4, 1, .int .u32 498536548), (5, 1, .int .u32 997073096), (6, 1, .int .u32 1994146192), (7, 1, .int .u32 3988292384)] = some CTB := rfl
theorem CTB_o : (CTB.all Value.oneCell' = true ∧ CTB.length = 8) = True := by simp [CTB, Value.oneCell']
theorem CTB_n : CTB.length = 8 := rfl
theorem t157 {H : AHeap} {x : Value} {l : List UInt8} (hx : BS H x l) (n : Nat) (hn : n < 4294967296) (hl : l.length ≤ 1000000000) : ∃ v H', ARun Go.Proofs.Tryz.prog 0 157 [.int .u32 n, x] H v H' ∧ v = .int .u32 (l.foldl crcS n : Nat) ∧ Keeps H H' := by
  refine walk2 f157_ok f157_n ?_
  intro Q hq1 hq2
  have his := hx.sl.is
  have hlen := hx.sl.len
  rw [List.length_map] at hlen
  simp (disch := first | assumption | omega | (simp only [LN] <;> omega) | (simp (disch := first | assumption | omega | (simp only [LN] <;> omega)) only [row_alloc, row_set]; assumption)) only [f157, W_block, P3, ↓reduceIte, reduceAdd, reduceEqDiff, reduceCtorEq, initFr, reduceLT, clsA, reduceLeDiff, reduceMul, reduceSub, reduceIte, hlen, fillTB, CTB_o]
  obtain ⟨Ha, hHa⟩ : ∃ X, X = H.alloc (.cells true false 1 CTB 87) := ⟨_, rfl⟩
  have ka := (Keeps.refl H).alloc (.cells true false 1 CTB 87)
  have g := AHeap.get_alloc_new H (.cells true false 1 CTB 87)
  rw [← hHa] at ka g ⊢
  have la := AHeap.get_lt g
  have hs := hx.sl.keeps ka
  refine W_loop2 (fun q fr K => K = Ha ∧ ∃ (i : Nat) (u k a b e : Value), i ≤ l.length ∧ q = l.length - i ∧ fr = [.int .u32 ((l.take i).foldl crcS n : Nat), x, .int .u32 0, slc H.n 0 8 8, .int .i64 i, u, k, a, b, e]) l.length ⟨rfl, 0, undef, undef, undef, undef, undef, by omega, rfl, rfl⟩ ?_
  rintro Q' q fr K ⟨rfl, i, u, k, a, b, e, hi, rfl, rfl⟩ hn' he hrt
  have hr := fold_lt (l.take i) hn
  generalize hR : (l.take i).foldl crcS n = R at hr ⊢
  by_cases hc : i < l.length
  · obtain ⟨hnn, hrow⟩ := hs.at_ (by omega) (i := i) (by simpa using hc)
    rw [List.getElem_map] at hrow
    have hw : IntKind.u8.wrap (R : Int) = ((R % 256 : Nat) : Int) := by rw [wrap_u8]; omega
    have hw2 := w_xor8 (a := R % 256) (b := l[i].toNat) (by omega) (by have := l[i].toNat_lt; omega)
    have hw3 : binA .shr (.int .u32 (R : Int)) (.int .u64 8) = some (.int .u32 ((R / 256 : Nat) : Int)) := b_shrN (k := .u32) (k' := .u64) (n := R) (s := 8) (by decide)
    simp (disch := first | assumption | omega | (simp only [LN] <;> omega) | (simp (disch := first | assumption | omega | (simp only [LN] <;> omega)) only [row_alloc, row_set]; assumption)) only [W_block, P3, ↓reduceIte, reduceAdd, reduceEqDiff, reduceCtorEq, initFr, reduceLT, clsA, reduceLeDiff, reduceMul, reduceSub, reduceIte, hlen, hw, hw2, hw3]
    have hU : R % 256 ^^^ l[i].toNat < 256 := Nat.xor_lt_two_pow (n := 8) (by omega) (by have := l[i].toNat_lt; omega)
    have hS : crcS R l[i] = gk (R % 256 ^^^ l[i].toNat) (R / 256) 8 := crcS_gk R l[i]
    generalize R % 256 ^^^ l[i].toNat = U at hU hS ⊢
    refine W_loop2 (fun q fr K' => K' = K ∧ ∃ (k : Nat) (b e : Value), k ≤ 8 ∧ q = 8 - k ∧ fr = [.int .u32 (gk U (R / 256) k : Nat), x, .int .u32 0, slc H.n 0 8 8, .int .i64 i, .int .u8 (U : Nat), .int .i64 k, .bool true, b, e]) 8 ⟨rfl, 0, _, _, by omega, rfl, rfl⟩ ?_
    rintro Q2 q fr K' ⟨rfl, k, b, e, hk, rfl, rfl⟩ hn2 he2 hr2
    have hG := gk_lt (u := U) (n := R / 256) (by omega) k
    by_cases hk8 : k < 8
    · have h1 : binA .shr (.int .u8 (U : Int)) (.int .i64 (k : Int)) = some (.int .u8 ((U / 2 ^ k : Nat) : Int)) := b_shrN (k := .u8) (k' := .i64) (by show k ≤ 8; omega)
      have h2 : IntKind.u8.wrap ((BitVec.ofInt IntKind.u8.bits ((U / 2 ^ k : Nat) : Int) &&& BitVec.ofInt IntKind.u8.bits 1).toNat : Int) = ((U / 2 ^ k % 2 : Nat) : Int) := w_and1 (k := .u8) rfl (Nat.lt_of_le_of_lt (Nat.div_le_self ..) hU)
      have h3 := CTB_at hk8
      have h4 := w_xor32 hG (TB_lt k)
      by_cases hb : U / 2 ^ k % 2 = 1
      · have h5 : ((U / 2 ^ k % 2 : Nat) : Int) = 1 := by omega
        simp (disch := first | assumption | omega | (simp only [LN] <;> omega) | (simp (disch := first | assumption | omega | (simp only [LN] <;> omega)) only [row_alloc, row_set]; assumption)) only [W_block, P3, ↓reduceIte, reduceAdd, reduceEqDiff, reduceCtorEq, initFr, reduceLT, clsA, reduceLeDiff, reduceMul, reduceSub, reduceIte, h1, h2, h3, h4, h5, g, CTB_n, wrap_succ (n := k) (by omega)]
        refine hn2 _ _ _ ⟨rfl, k + 1, .bool true, .bool true, by omega, rfl, ?_⟩ (by omega)
        rw [gk, if_pos hb]
      · have h5 : ((U / 2 ^ k % 2 : Nat) : Int) ≠ 1 := by omega
        simp (disch := first | assumption | omega | (simp only [LN] <;> omega) | (simp (disch := first | assumption | omega | (simp only [LN] <;> omega)) only [row_alloc, row_set]; assumption)) only [W_block, P3, ↓reduceIte, reduceAdd, reduceEqDiff, reduceCtorEq, initFr, reduceLT, clsA, reduceLeDiff, reduceMul, reduceSub, reduceIte, h1, h2, h3, h4, h5, g, CTB_n, wrap_succ (n := k) (by omega)]
        refine hn2 _ _ _ ⟨rfl, k + 1, .bool true, .bool false, by omega, rfl, ?_⟩ (by omega)
        rw [gk, if_neg hb]
    · obtain rfl : k = 8 := by omega
      simp (disch := first | assumption | omega | (simp only [LN] <;> omega) | (simp (disch := first | assumption | omega | (simp only [LN] <;> omega)) only [row_alloc, row_set]; assumption)) only [W_block, P3, ↓reduceIte, reduceAdd, reduceEqDiff, reduceCtorEq, initFr, reduceLT, clsA, reduceLeDiff, reduceMul, reduceSub, reduceIte]
      refine he2 _ _ _ ?_
      simp (disch := first | assumption | omega | (simp only [LN] <;> omega) | (simp (disch := first | assumption | omega | (simp only [LN] <;> omega)) only [row_alloc, row_set]; assumption)) only [W_block, P3, ↓reduceIte, reduceAdd, reduceEqDiff, reduceCtorEq, initFr, reduceLT, clsA, reduceLeDiff, reduceMul, reduceSub, reduceIte, wrap_succ (n := i) (by omega)]
      refine hn' _ _ _ ⟨rfl, i + 1, .int .u8 (U : Nat), .int .i64 8, .bool true, .bool false, e, by omega, rfl, ?_⟩ (by omega)
      rw [List.take_succ_eq_append_getElem hc, List.foldl_append, hR]
      simp only [List.foldl_cons, List.foldl_nil, hS]
      rfl
  · simp (disch := first | assumption | omega | (simp only [LN] <;> omega) | (simp (disch := first | assumption | omega | (simp only [LN] <;> omega)) only [row_alloc, row_set]; assumption)) only [W_block, P3, ↓reduceIte, reduceAdd, reduceEqDiff, reduceCtorEq, initFr, reduceLT, clsA, reduceLeDiff, reduceMul, reduceSub, reduceIte, hlen]
    refine he _ _ _ ?_
    simp (disch := first | assumption | omega | (simp only [LN] <;> omega) | (simp (disch := first | assumption | omega | (simp only [LN] <;> omega)) only [row_alloc, row_set]; assumption)) only [W_block, P3, ↓reduceIte, reduceAdd, reduceEqDiff, reduceCtorEq, initFr, reduceLT, clsA, reduceLeDiff, reduceMul, reduceSub, reduceIte]
    rw [List.take_of_length_le (by omega)] at hR
    exact hq2 _ _ ⟨_, rfl, by rw [hR]; rfl, ka⟩
theorem t125 {H : AHeap} {x : Value} {l : List UInt8} (hx : BS H x l) (hl : l.length ≤ 1000000000) : ∃ v H', ARun Go.Proofs.Tryz.prog 0 125 [x] H v H' ∧ v = .int .u32 (crc l) ∧ Keeps H H' := by
  refine walk2 f125_ok f125_n ?_
  intro Q hq1 hq2
  simp (disch := first | assumption | omega | (simp only [LN] <;> omega) | (simp (disch := first | assumption | omega | (simp only [LN] <;> omega)) only [row_alloc, row_set]; assumption)) only [f125, W_block, P3, ↓reduceIte, reduceAdd, reduceEqDiff, reduceCtorEq, initFr, reduceLT, clsA, reduceLeDiff, reduceMul, reduceSub, reduceIte]
  refine callK (t157 hx 4294967295 (by decide) hl) ?_
  rintro _ K ⟨rfl, k⟩
  have hw2 := w_xor32 (a := 4294967295) (b := l.foldl crcS 4294967295) (by decide) (fold_lt l (by decide))
  simp (disch := first | assumption | omega | (simp only [LN] <;> omega) | (simp (disch := first | assumption | omega | (simp only [LN] <;> omega)) only [row_alloc, row_set]; assumption)) only [W_block, P3, ↓reduceIte, reduceAdd, reduceEqDiff, reduceCtorEq, initFr, reduceLT, clsA, reduceLeDiff, reduceMul, reduceSub, reduceIte, a_uxor]
  exact hq2 _ _ ⟨_, rfl, by unfold crc crcL; rw [← hw2]; rfl, k⟩
end Go.AM.Fd

set_option linter.unusedSimpArgs false
set_option linter.unusedVariables false
namespace Go.AM
def via (ρ : Nat → Option Nat) (σ : Sg) : Sg := fun b => (ρ b).bind σ
theorem via_of {ρ : Nat → Option Nat} {σ : Sg} {b c : Nat} {i : BI} (h : ρ b = some c) (k : σ c = some i) : via ρ σ b = some i := by
  unfold via; rw [h]; exact k
theorem via_inv {ρ : Nat → Option Nat} {σ : Sg} {b : Nat} {i : BI} (h : via ρ σ b = some i) : ∃ c, ρ b = some c ∧ σ c = some i := by
  unfold via at h
  cases hb : ρ b with
  | none => rw [hb] at h; cases h
  | some c => rw [hb] at h; exact ⟨c, rfl, h⟩
inductive NV (ρ : Nat → Option Nat) : Value → Value → Prop
  | bool (b : Bool) : NV ρ (.bool b) (.bool b)
  | int (k : IntKind) (n : Int) : NV ρ (.int k n) (.int k n)
  | string (s : ByteArray) : NV ρ (.string s) (.string s)
  | nilPtr : NV ρ (.pointer none) (.pointer none)
  | ptr {b c o : Nat} (h : ρ b = some c) : NV ρ (.pointer (some ⟨b, o, none⟩)) (.pointer (some ⟨c, o, none⟩))
  | nilSl : NV ρ (.slice none 0 0) (.slice none 0 0)
  | sl {b c o n k : Nat} (h : ρ b = some c) : NV ρ (.slice (some ⟨b, o, none⟩) n k) (.slice (some ⟨c, o, none⟩) n k)
  | slz {x : Addr} (hx : x.spot.isSome = true) : NV ρ (.slice (some x) 0 0) (.slice (some x) 0 0)
  | nilMap : NV ρ (.map none) (.map none)
  | map {b c : Nat} (h : ρ b = some c) : NV ρ (.map (some b)) (.map (some c))
  | func (fn : Fn) (xs xs' ys ys' : Array Value) (h1 : xs.size = xs'.size) (h2 : ∀ i (a : i < xs.size) (b : i < xs'.size), NV ρ xs[i] xs'[i])
      (h3 : ys.size = ys'.size) (h4 : ∀ i (a : i < ys.size) (b : i < ys'.size), NV ρ ys[i] ys'[i]) : NV ρ (.func fn xs ys) (.func fn xs' ys')
  | nilFunc : NV ρ .nilFunc .nilFunc
  | iface (t : TypeId) {v v' : Value} (h : NV ρ v v') : NV ρ (.iface t v) (.iface t v')
  | nilIface : NV ρ .nilIface .nilIface
  | agg (xs xs' : Array Value) (h1 : xs.size = xs'.size) (h2 : ∀ i (a : i < xs.size) (b : i < xs'.size), NV ρ xs[i] xs'[i]) : NV ρ (.agg xs) (.agg xs')
  | tuple (xs xs' : Array Value) (h1 : xs.size = xs'.size) (h2 : ∀ i (a : i < xs.size) (b : i < xs'.size), NV ρ xs[i] xs'[i]) : NV ρ (.tuple xs) (.tuple xs')
inductive NL (ρ : Nat → Option Nat) : List Value → List Value → Prop
  | nil : NL ρ [] []
  | cons {v v' : Value} {l l' : List Value} (h : NV ρ v v') (t : NL ρ l l') : NL ρ (v :: l) (v' :: l')
theorem NV.via {ρ : Nat → Option Nat} {σ : Sg} {a b : Value} (h : NV ρ a b) : ∀ {c : Value}, VR σ b c → VR (AM.via ρ σ) a c := by
  induction h with
  | bool b => intro c k; cases k; exact .bool _
  | int k n => intro c k; cases k; exact .int _ _
  | string s => intro c k; cases k; exact .string _
  | nilPtr => intro c k; cases k; exact .nilPtr
  | ptr e => intro c k; cases k with | ptr e2 => exact .ptr (via_of e e2)
  | nilSl => intro c k; cases k; exact .nilSl
  | sl e =>
    intro c k
    cases k with
    | sl e2 hn2 hk2 => exact .sl (via_of e e2) hn2 hk2
    | sl0 e2 => exact .sl0 (via_of e e2)
    | slz hx => simp at hx
  | slz hx =>
    intro c k
    cases k with
    | sl e2 hn2 hk2 => simp at hx
    | sl0 e2 => exact .slz hx
    | slz _ => exact .slz hx
  | nilMap => intro c k; cases k; exact .nilMap
  | map e => intro c k; cases k with | map e2 => exact .map (via_of e e2)
  | func fn xs xs' ys ys' h1 _ h3 _ i2 i4 =>
    intro c k
    cases k with
    | func _ _ zs _ us g1 g2 g3 g4 => exact .func fn xs zs ys us (by omega) (fun i a b => i2 i a (by omega) (g2 i (by omega) b)) (by omega) (fun i a b => i4 i a (by omega) (g4 i (by omega) b))
  | nilFunc => intro c k; cases k; exact .nilFunc
  | iface t _ ih => intro c k; cases k with | iface _ k => exact .iface t (ih k)
  | nilIface => intro c k; cases k; exact .nilIface
  | agg xs xs' h1 _ ih =>
    intro c k
    cases k with
    | agg _ zs g1 g2 => exact .agg xs zs (by omega) (fun i a b => ih i a (by omega) (g2 i (by omega) b))
  | tuple xs xs' h1 _ ih =>
    intro c k
    cases k with
    | tuple _ zs g1 g2 => exact .tuple xs zs (by omega) (fun i a b => ih i a (by omega) (g2 i (by omega) b))
theorem NL.via {ρ : Nat → Option Nat} {σ : Sg} {a b : List Value} (h : NL ρ a b) : ∀ {c : List Value}, VL σ b c → VL (AM.via ρ σ) a c := by
  induction h with
  | nil => intro c k; cases k; exact .nil
  | cons h _ ih => intro c k; cases k with | cons k1 k2 => exact .cons (h.via k1) (ih k2)
theorem NL.length {ρ : Nat → Option Nat} {a b : List Value} (h : NL ρ a b) : a.length = b.length := by
  induction h with
  | nil => rfl
  | cons _ _ ih => simp [ih]
theorem NL.one {ρ : Nat → Option Nat} {a b : List Value} (h : NL ρ a b) (hb : ∀ v ∈ b, v.oneCell' = true) : ∀ v ∈ a, v.oneCell' = true := by
  induction h with
  | nil => simp
  | cons h _ ih =>
    intro v hv
    rcases List.mem_cons.1 hv with rfl | hv
    · have := hb _ (List.mem_cons_self ..)
      cases h <;> first | exact this | rfl
    · exact ih (fun v hv => hb v (List.mem_cons_of_mem _ hv)) v hv
inductive NE (ρ : Nat → Option Nat) : List MapEntry → List MapEntry → Prop
  | nil : NE ρ [] []
  | cons {e e' : MapEntry} {l l' : List MapEntry} (hk : e'.key = e.key) (hb : e'.born = e.born) (h : NV ρ e.val e'.val) (t : NE ρ l l') : NE ρ (e :: l) (e' :: l')
theorem NE.via {ρ : Nat → Option Nat} {σ : Sg} {a b : List MapEntry} (h : NE ρ a b) : ∀ {c : List MapEntry}, ML σ b c → ML (AM.via ρ σ) a c := by
  induction h with
  | nil => intro c k; cases k; exact .nil
  | cons hk hb h _ ih => intro c k; cases k with | cons k1 k2 k3 k4 => exact .cons (k1.trans hk) (k2.trans hb) (h.via k3) (ih k4)
def NO (ρ : Nat → Option Nat) (o o2 : Obj) : Prop := match o with
  | .map es k => ∃ es2, o2 = .map es2 k ∧ NE ρ es.toList es2.toList
  | o => o2 = o
theorem NO.via {ρ : Nat → Option Nat} {σ : Sg} {o o2 o' : Obj} (h : NO ρ o o2) (k : JR σ o2 o') : JR (AM.via ρ σ) o o' := by
  cases o with
  | map es c =>
    obtain ⟨es2, rfl, h2⟩ := h
    obtain ⟨es', rfl, k2⟩ := k
    exact ⟨es', rfl, h2.via k2⟩
  | _ => cases h; exact k
def AOr (ρ : Nat → Option Nat) (a b : AO) : Prop := match a with
  | .dead => True
  | .cells own room esz c e => ∃ own' c', b = .cells own' room esz c' e ∧ (own = true → own' = true) ∧ NL ρ c c'
  | .obj own o => ∃ own' o2, b = .obj own' o2 ∧ (own = true → own' = true) ∧ NO ρ o o2
  | .loop .. => False
theorem AOr.own {ρ : Nat → Option Nat} {a b : AO} (h : AOr ρ a b) (ha : a.own = true) : b.own = true := by
  cases a with
  | dead => cases ha
  | cells own room esz c e => obtain ⟨own', c', rfl, h1, _⟩ := h; exact h1 ha
  | obj own o => obtain ⟨own', o2, rfl, h1, _⟩ := h; exact h1 ha
  | loop own st pe L => exact h.elim
theorem AOr.live {ρ : Nat → Option Nat} {a b : AO} (h : AOr ρ a b) (ha : a.live = true) : b.live = true := by
  cases a with
  | dead => cases ha
  | cells own room esz c e => obtain ⟨own', c', rfl, h1, _⟩ := h; rfl
  | obj own o => obtain ⟨own', o2, rfl, h1, _⟩ := h; rfl
  | loop own st pe L => exact h.elim
theorem AOr.or {ρ : Nat → Option Nat} {a b : AO} (h : AOr ρ a b) {σ : Sg} {w : World} {i : BI} (k : OR σ w i b) : OR (AM.via ρ σ) w i a := by
  cases a with
  | dead => trivial
  | cells own room esz c e =>
    obtain ⟨own', c', rfl, h1, h2⟩ := h
    obtain ⟨a1, a2, a3, a4, a9, d, fr, a5, a6, a7, a8⟩ := k
    have hl := h2.length
    exact ⟨by rw [hl]; exact a1, a2, a3, by rw [hl]; exact a4, h2.one a9, d, fr, a5, a6, by rw [hl]; exact h2.via a7, fun ho => by rw [hl]; exact a8 (h1 ho)⟩
  | obj own o =>
    obtain ⟨own', o2, rfl, h1, h2⟩ := h
    obtain ⟨o', k1, k2, k3⟩ := k
    exact ⟨o', k1, h2.via k2, k3⟩
  | loop own st pe L => exact h.elim
variable {P : Program} {ng : Nat} {f : FuncId} {args : List Value} {H H' H'' : AHeap} {v v'' : Value}
def Stood (ng : Nat) (args : List Value) (H : AHeap) (v : Value) : Prop := ∀ (σ : Sg) (w : World) (args' : List Value), HR ng σ H.get w → VL σ args args' → ∃ x, VR σ v x
theorem ARun.gc (h : ARun P ng f args H v H') (ρ : Nat → Option Nat) (hn : H.n ≤ H''.n)
    (r0 : ∀ b, b < H.n → ρ b = some b) (r1 : ∀ b c, ρ b = some c → b < H''.n ∧ (H.n ≤ b → H.n ≤ c)) (ri : ∀ b1 b2 c, ρ b1 = some c → ρ b2 = some c → b1 = b2)
    (ro : ∀ b c o', ρ b = some c → H'.get c = some o' → (b = c ∧ b < H.n ∧ H.get b = some o' ∧ H''.get b = some o') ∨ ∃ o'', H''.get b = some o'' ∧ AOr ρ o'' o')
    (rv : (v'' = v ∧ Stood ng args H v) ∨ NV ρ v'' v) : ARun P ng f args H v'' H'' := by
  obtain ⟨h0, h1, h2⟩ := h
  refine ⟨h0, hn, fun σ w args' hr ha => ?_⟩
  refine (h2 σ w args' hr ha).mono ?_
  rintro e w' ⟨v', σ', rfl, k1, k2, k3⟩
  have old : ∀ b i, σ b = some i → b < H.n := fun b i hb => by
    obtain ⟨o, g, _⟩ := hr.obj b i hb
    exact AHeap.get_lt g
  have sub : σ.le (AM.via ρ σ') := fun b i hb => via_of (r0 b (old b i hb)) (k2.sub b i hb)
  have back : ∀ b i, b < H.n → σ' b = some i → σ b = some i := fun b i hb hs => by
    cases hsb : σ b with
    | none => have := (k2.new b i hsb hs).1.1; omega
    | some j => have := k2.sub b j hsb; rw [hs] at this; exact this.symm
  have meet_le : (meet σ' σ).le (AM.via ρ σ') := fun b i hb => by
    unfold meet at hb
    split at hb
    · rename_i hs
      obtain ⟨j, hj⟩ := Option.isSome_iff_exists.1 hs
      exact via_of (r0 b (old b j hj)) hb
    · cases hb
  have obj : ∀ b i, AM.via ρ σ' b = some i → ∃ c o'' o', ρ b = some c ∧ σ' c = some i ∧ H''.get b = some o'' ∧ H'.get c = some o' ∧ OR (AM.via ρ σ') w' i o'' ∧ (o''.own = true → o'.own = true) ∧ (o''.live = true → o'.live = true) := by
    intro b i hb
    obtain ⟨c, hc, hs⟩ := via_inv hb
    obtain ⟨o', g1, g2⟩ := k1.obj c i hs
    rcases ro b c o' hc g1 with ⟨rfl, hlt, e1, e2⟩ | ⟨o'', e1, e2⟩
    · refine ⟨b, o', o', hc, hs, e2, g1, ?_, fun x => x, fun x => x⟩
      have hsb := back b i hlt hs
      obtain ⟨o2, f1, f2⟩ := hr.obj b i hsb
      rw [e1] at f1; cases f1
      exact (g2.meet f2).mono meet_le
    · exact ⟨c, o'', o', hc, hs, e1, g1, e2.or g2, e2.own, e2.live⟩
  refine ⟨v', AM.via ρ σ', rfl, ⟨?_, ?_, ?_, ?_⟩, ⟨sub, ?_, ?_, ?_, k2.keep, k2.size, hn, k2.os, k2.tape, k2.output⟩, ?_⟩
  · intro b i hb
    obtain ⟨c, o'', o', _, _, e1, _, e2, _⟩ := obj b i hb
    exact ⟨o'', e1, e2⟩
  · intro b1 b2 i1 i2 o1 o2 hne hb1 hb2 ho1 ho2 hw hl
    obtain ⟨c1, p1, q1, a1, a2, a3, a4, _, a5, _⟩ := obj b1 i1 hb1
    obtain ⟨c2, p2, q2, d1, d2, d3, d4, _, _, d6⟩ := obj b2 i2 hb2
    rw [ho1] at a3; cases a3
    rw [ho2] at d3; cases d3
    exact k1.inj c1 c2 i1 i2 q1 q2 (fun hc => by subst hc; exact hne (ri b1 b2 c1 a1 d1)) a2 d2 a4 d4 (a5 hw) (d6 hl)
  · intro b i hb
    obtain ⟨c, _, hs⟩ := via_inv hb
    exact k1.lt c i hs
  · intro g hg
    obtain ⟨i, g1, g2, g3⟩ := hr.glob g hg
    exact ⟨i, sub g i g1, g2, g3⟩
  · intro b i hb hs
    obtain ⟨c, hc, hs'⟩ := via_inv hs
    by_cases hlt : b < H.n
    · have := r0 b hlt
      rw [hc] at this; cases this
      rw [back b i hlt hs'] at hb; cases hb
    · have hcn := (r1 b c hc).2 (by omega)
      have hsc : σ c = none := by
        cases hsc : σ c with
        | none => rfl
        | some j => have := old c j hsc; omega
      exact ⟨⟨by omega, (r1 b c hc).1⟩, (k2.new c i hsc hs').2⟩
  · intro b i o'' hb ho hw
    obtain ⟨c, p1, q1, a1, a2, a3, a4, _, a5, _⟩ := obj b i (sub b i hb)
    rw [r0 b (old b i hb)] at a1; cases a1
    rw [ho] at a3; cases a3
    exact k2.own b i q1 hb a4 (a5 hw)
  · intro b i o'' hb ho hw
    obtain ⟨c, p1, q1, a1, a2, a3, a4, _, _, a6⟩ := obj b i (sub b i hb)
    rw [r0 b (old b i hb)] at a1; cases a1
    rw [ho] at a3; cases a3
    exact k2.live b i q1 hb a4 (a6 hw)
  · rcases rv with ⟨rfl, hst⟩ | hrv
    · obtain ⟨x, hx⟩ := hst σ w args' hr ha
      exact (k3.meet hx).mono meet_le
    · exact hrv.via k3
theorem NL.get {ρ : Nat → Option Nat} {l l' : List Value} (h : NL ρ l l') : ∀ (i : Nat) (a : i < l.length) (b : i < l'.length), NV ρ l[i] l'[i] := by
  induction h with
  | nil => intro i a; simp at a
  | cons h _ ih =>
    intro i a b
    cases i with
    | zero => exact h
    | succ i => exact ih i (by simpa using a) (by simpa using b)
theorem NV.tuple_of {ρ : Nat → Option Nat} {l l' : List Value} (h : NL ρ l l') : NV ρ (.tuple l.toArray) (.tuple l'.toArray) :=
  .tuple _ _ (by simpa using h.length) (fun i a b => by simpa using h.get i (by simpa using a) (by simpa using b))
def rho (n : Nat) (bs : List Nat) : Nat → Option Nat := fun b => if b < n then some b else bs[b - n]?
theorem rho_old {n : Nat} {bs : List Nat} {b : Nat} (h : b < n) : rho n bs b = some b := by unfold rho; rw [if_pos h]
theorem ARun.gc0 (h : ARun P ng f args H v H') (k : Keeps H H') (hv : Stood ng args H v ∨ NV (rho H.n []) v v) : ARun P ng f args H v H := by
  refine h.gc (rho H.n []) (Nat.le_refl _) (fun b hb => rho_old hb) ?_ ?_ ?_ ?_
  · intro b c hb
    unfold rho at hb
    split at hb
    · cases hb; exact ⟨by assumption, by omega⟩
    · simp at hb
  · intro b1 b2 c h1 h2
    unfold rho at h1 h2
    split at h1 <;> split at h2 <;> simp_all
  · intro b c o' hb ho
    unfold rho at hb
    split at hb
    · rename_i hlt
      cases hb
      have := k.get b hlt
      rw [ho] at this
      exact .inl ⟨rfl, hlt, this.symm, this.symm⟩
    · simp at hb
  · rcases hv with hv | hv
    · exact .inl ⟨rfl, hv⟩
    · exact .inr hv
structure OB (e : Nat) (H K : AHeap) (v : Value) (l : List UInt8) : Prop where
  ap : AP K e 1 v l.length (cellsOf l)
  k : Keeps H K
  f : Fresh H.n v
theorem OB.bs {e : Nat} {H K : AHeap} {v : Value} {l : List UInt8} (h : OB e H K v l) : BS K v l := h.ap.bs
theorem OB.keeps {e : Nat} {H K K' : AHeap} {v : Value} {l : List UInt8} (h : OB e H K v l) (k : Keeps K K') : OB e H K' v l := ⟨h.ap.keeps k, h.k.trans k, h.f⟩
theorem OB.nil (e : Nat) (H : AHeap) : OB e H H (.slice none 0 0) [] := ⟨.inl ⟨rfl, rfl, rfl⟩, Keeps.refl _, fun b hb => by cases hb⟩
theorem OB.lit {e : Nat} {H K : AHeap} (k : Keeps H K) {l : List UInt8} {c : List Value} {n b : Nat} (hc : c = cellsOf l) (hn : n = l.length) (hb : b = K.n) (room : Bool) : OB e H (K.alloc (.cells true room 1 c e)) (slc b 0 n n) l := by
  subst hc; subst hn; subst hb
  exact ⟨.inr ⟨K.n, room, rfl, by rw [cellsOf_length, Nat.mul_one], AHeap.get_alloc_new K _⟩, k.trans ((Keeps.refl K).alloc _), fun b hb => by cases hb; exact k.n⟩
theorem OB.is {e : Nat} {H K : AHeap} {v : Value} {l : List UInt8} (h : OB e H K v l) : isS v = true := by obtain ⟨a, rfl⟩ := h.ap.shape; rfl
theorem OB.len {e : Nat} {H K : AHeap} {v : Value} {l : List UInt8} (h : OB e H K v l) : lenS v = l.length := by obtain ⟨a, rfl⟩ := h.ap.shape; rfl
theorem OB.grow {e : Nat} {H K K' : AHeap} {v v' : Value} {l m : List UInt8} (h : OB e H K v l) (a : AP K' e 1 v' (l.length + m.length) (cellsOf l ++ cellsOf m)) (c : Chg (blkL v) K K') (hb : blk v' = blk v ∨ blk v' = some K.n) : OB e H K' v' (l ++ m) := by
  refine ⟨by rw [List.length_append, cellsOf_append]; exact a, h.k.chg_trans c (fun x hx => h.f x (mem_blkL.1 hx)), fun b hb' => ?_⟩
  rcases hb with e1 | e1
  · exact h.f b (by rw [← e1]; exact hb')
  · rw [e1] at hb'; cases hb'; exact h.k.n
section
variable {KF : List Value → AHeap → Prop} {fr tm : List Value} {tr : List TE} {K : AHeap}
theorem OB.appR {d : D} {r : List AOper} {e : Nat} {s x : Value} {l m : List UInt8} (h : OB e H K s l) (hx : BS K x m) (hs : l.length + m.length ≤ 1000000000)
    (hk : ∀ v' K', OB e H K' v' (l ++ m) → RW P ng r (d.frame v' fr) (d.temps v' tm) K' KF) : goR P ng (asem (.app e 1 1 s x) K) d r fr tm KF :=
  appG h.ap hx.sh hx.el (by rw [cellsOf_length, Nat.mul_one]) (by omega) (fun v' K' a c hb => hk v' K' (h.grow a c hb))
theorem OB.appsR {d : D} {r : List AOper} {e : Nat} {s : Value} {l m : List UInt8} (h : OB e H K s l) (hs : l.length + m.length ≤ 1000000000)
    (hk : ∀ v' K', OB e H K' v' (l ++ m) → RW P ng r (d.frame v' fr) (d.temps v' tm) K' KF) : goR P ng (asem (.apps e 1 s (.string ⟨m.toArray⟩)) K) d r fr tm KF := by
  obtain ⟨v', K', e1, e2, e3, e4⟩ := h.ap.app (m := m.length) (news := cellsOf m) (bytes := 1) (by rw [cellsOf_length, Nat.mul_one]) (by omega)
  exact ⟨v', K', e1, hk v' K' (h.grow e2 e3 e4)⟩
end
end Go.AM

set_option linter.unusedSimpArgs false
set_option linter.unusedVariables false
namespace Go.AM
def WR (H : AHeap) (e esz : Nat) (v : Value) (n : Nat) (c : List Value) : Prop :=
  (v = .slice none 0 0 ∧ n = 0 ∧ c = []) ∨ ∃ b k room d, v = slc b 0 n k ∧ n ≤ k ∧ d.length = k * esz ∧ d.take (n * esz) = c ∧ H.get b = some (.cells true room esz d e)
section
variable {H H' : AHeap} {e esz : Nat} {v : Value} {n : Nat} {c : List Value}
theorem AP.wr (h : AP H e esz v n c) : WR H e esz v n c := by
  rcases h with h | ⟨b, room, rfl, h1, h2⟩
  · exact .inl h
  · exact .inr ⟨b, n, room, c, rfl, Nat.le_refl _, h1, by rw [← h1, List.take_length], h2⟩
theorem WR.elems (h : WR H e esz v n c) : elemsA H esz v = some c := by
  rcases h with ⟨rfl, rfl, rfl⟩ | ⟨b, k, room, d, rfl, h1, h2, rfl, h4⟩
  · rfl
  · have := Nat.mul_le_mul_right esz h1
    simp only [elemsA, slc, h4]
    rw [if_pos (by omega), List.drop_zero]
theorem WR.shape (h : WR H e esz v n c) : ∃ a k, v = .slice a n k := by
  rcases h with ⟨rfl, rfl, rfl⟩ | ⟨b, k, room, d, rfl, h1, h2, h3, h4⟩
  · exact ⟨_, _, rfl⟩
  · exact ⟨_, _, rfl⟩
theorem WR.is (h : WR H e esz v n c) : isS v = true := by obtain ⟨a, k, rfl⟩ := h.shape; rfl
theorem WR.sl {rows : List (List Value)} (h : WR H e esz v n rows.flatten) (hr : ∀ r ∈ rows, r.length = esz) (hn : n = rows.length) : Sl H esz v rows := by
  obtain ⟨a, k, rfl⟩ := h.shape
  exact ⟨⟨a, k, by rw [hn]⟩, hr, h.elems⟩
theorem WR.app {bytes m : Nat} {news : List Value} (h : WR H e esz v n c) (hm : news.length = m * esz) (hs : (n + m) * bytes ≤ 140737488355328 ∧ n + m ≤ 140737488355328) :
    ∃ v' H', appA H e esz bytes v m news = some (v', H') ∧ WR H' e esz v' (n + m) (c ++ news) ∧ Chg (blkL v) H H' ∧ (blk v' = blk v ∨ blk v' = some H.n) := by
  rcases h with ⟨rfl, rfl, rfl⟩ | ⟨b, k, room, d, rfl, h1, h2, h3, h4⟩
  · obtain ⟨v', H', a, b, d⟩ := AP.app (H := H) (e := e) (esz := esz) (v := .slice none 0 0) (n := 0) (c := []) (.inl ⟨rfl, rfl, rfl⟩) hm hs
    exact ⟨v', H', a, b.wr, d⟩
  · simp only [appA, slc]
    by_cases hm0 : m = 0
    · subst hm0
      have : news = [] := by rw [← List.length_eq_zero_iff]; omega
      subst this
      rw [if_pos rfl]
      exact ⟨_, _, rfl, .inr ⟨b, k, room, d, rfl, h1, h2, by simpa using h3, h4⟩, Chg.refl _ _, .inl rfl⟩
    · have hle := Nat.mul_le_mul_right esz h1
      have hc : c.length = n * esz := by rw [← h3, List.length_take, h2]; omega
      have hnm : (n + m) * esz = n * esz + m * esz := Nat.add_mul _ _ _
      rw [if_neg hm0, if_pos hs]
      simp only [h4, true_and]
      rw [if_pos (show 0 + k * esz ≤ d.length by omega)]
      by_cases hk : n + m ≤ k
      · have hle2 := Nat.mul_le_mul_right esz hk
        rw [if_pos hk]
        simp only [if_true]
        refine ⟨_, _, rfl, .inr ⟨b, k, room, _, rfl, hk, ?_, ?_, AHeap.get_set_same h4 _⟩, Chg.set H (AHeap.get_lt h4) _, .inl rfl⟩
        · rw [List.length_append, List.length_append, List.length_take, List.length_drop, hm]; omega
        · rw [Nat.zero_add, h3, List.take_append_of_le_length (by rw [List.length_append, hc, hm]; omega), List.take_of_length_le (by rw [List.length_append, hc, hm]; omega)]
      · rw [if_neg hk, List.drop_zero, h3]
        have hlen : (c ++ news).length = (n + m) * esz := by rw [List.length_append, hc, hm, Nat.add_mul]
        split
        · exact ⟨_, _, rfl, .inr ⟨H.n, n + m, true, _, rfl, Nat.le_refl _, hlen, by rw [← hlen, List.take_length], AHeap.get_alloc_new H _⟩, (Chg.refl _ _).alloc _, .inr rfl⟩
        · exact ⟨_, _, rfl, .inr ⟨H.n, n + m, true, _, rfl, Nat.le_refl _, hlen, by rw [← hlen, List.take_length], AHeap.get_alloc_new (H.set b .dead) _⟩, (Chg.set H (AHeap.get_lt h4) _).alloc _, .inr rfl⟩
end
section
variable {P : Program} {ng : Nat} {H : AHeap} {KF : List Value → AHeap → Prop} {fr tm : List Value} {tr : List TE} {e esz : Nat} {v : Value} {n : Nat} {c : List Value}
theorem WR.appR {d : D} {r : List AOper} {bytes : Nat} {x : Value} {m : Nat} {news : List Value} (h : WR H e esz v n c) (hx : ∃ a k, x = .slice a m k) (h1 : elemsA H esz x = some news) (hm : news.length = m * esz)
    (hs : (n + m) * bytes ≤ 140737488355328 ∧ n + m ≤ 140737488355328)
    (hk : ∀ v' H', WR H' e esz v' (n + m) (c ++ news) → Chg (blkL v) H H' → (blk v' = blk v ∨ blk v' = some H.n) → RW P ng r (d.frame v' fr) (d.temps v' tm) H' KF) : goR P ng (asem (.app e esz bytes v x) H) d r fr tm KF := by
  obtain ⟨v', H', e1, e2, e3, e4⟩ := h.app (bytes := bytes) hm hs
  obtain ⟨a, k, rfl⟩ := hx
  refine ⟨v', H', ?_, hk v' H' e2 e3 e4⟩
  simp only [asem, h1]; exact e1
end
end Go.AM

set_option linter.unusedSimpArgs false
set_option linter.unusedVariables false
namespace Go.AM
section
variable {H K K' : AHeap} {t t' a b c d : Th} {r ts : List Th}
end
def thA (e esz : Nat) (v : Value) (n : Nat) (c : List Value) : Th where
  P K := AP K e esz v n c
  F := blkL v
  lt K h y hy := h.lt (mem_blkL.1 hy)
  st K K' h hn k := by
    rcases h with ⟨rfl, rfl, rfl⟩ | ⟨b, room, rfl, h1, h2⟩
    · exact .inl ⟨rfl, rfl, rfl⟩
    · exact .inr ⟨b, room, rfl, h1, by rw [k b (mem_blkL.2 rfl)]; exact h2⟩
end Go.AM

set_option linter.unusedSimpArgs false
set_option linter.unusedVariables false
namespace Go.AM
def cpre : Nat → ACode → ACode
  | 0, _ => .skip
  | 1, .seq a _ => a
  | n + 2, .seq a b => .seq a (cpre (n + 1) b)
  | _ + 1, c => c
def cpost : Nat → ACode → ACode
  | 0, c => c
  | n + 1, .seq _ b => cpost n b
  | _ + 1, _ => .skip
def cok : Nat → ACode → Bool
  | 0, _ => false
  | 1, .seq _ _ => true
  | n + 2, .seq _ b => cok (n + 1) b
  | _ + 1, _ => false
variable {P : Program} {ng : Nat} {H : AHeap} {Q : AQ} {fr : List Value}
theorem andThen2 (Q : AQ) (K K' : List Value → AHeap → Prop) : (Q.andThen K).andThen K' = Q.andThen K' := by
  funext e fr H
  cases e <;> rfl
theorem W_pp : ∀ (n : Nat) (c : ACode) (Q : AQ) (fr : List Value) (H : AHeap), cok n c = true → W P ng c Q fr H = W P ng (cpre n c) (Q.andThen (W P ng (cpost n c) Q)) fr H
  | 0, c, Q, fr, H, h => by simp [cok] at h
  | 1, c, Q, fr, H, h => by
    cases c <;> simp [cok] at h
    rfl
  | n + 2, c, Q, fr, H, h => by
    cases c <;> simp [cok] at h
    rename_i a b
    simp only [cpre, cpost, W_seq]
    rw [andThen2]
    congr 1
    funext e fr H
    cases e
    · exact W_pp (n + 1) b Q fr H h
    all_goals rfl
theorem W_part {c : ACode} (n : Nat) (M : List Value → AHeap → Prop) (hok : cok n c = true)
    (h1 : ∀ Q' : AQ, (∀ fr H, M fr H → Q' .normal fr H) → (∀ i fr H, Q (.exit i) fr H → Q' (.exit i) fr H) → (∀ fr H, Q .ret fr H → Q' .ret fr H) → W P ng (cpre n c) Q' fr H)
    (h2 : ∀ fr H, M fr H → W P ng (cpost n c) Q fr H) : W P ng c Q fr H := by
  rw [W_pp n c Q fr H hok]
  exact h1 _ (fun fr H h => h2 fr H h) (fun _ _ _ h => h) (fun _ _ h => h)
end Go.AM

set_option linter.unusedSimpArgs false
set_option linter.unusedVariables false
namespace Go.AM
section
variable {P : Program} {ng : Nat} {H : AHeap} {Q : AQ} {fr tm : List Value}
theorem str_ext (l : List UInt8) (a b : Nat) : (⟨l.toArray⟩ : ByteArray).extract a b = ⟨((l.take b).drop a).toArray⟩ := by
  apply ByteArray.ext
  rw [ByteArray.data_extract, List.drop_take]
  simp [List.extract_eq_take_drop]
theorem str_size (l : List UInt8) : (⟨l.toArray⟩ : ByteArray).size = l.length := by simp [ByteArray.size]
theorem a_slsT {l : List UInt8} {n : Nat} {kd : IntKind} (h : n ≤ l.length) : asem (.slstr (.string ⟨l.toArray⟩) (some (.int kd (n : Int))) none) H = some (.string ⟨(l.drop n).toArray⟩, H) := by
  simp only [asem, bndA, str_size]
  rw [if_pos (by omega)]
  simp [str_ext]
theorem a_slsP {l : List UInt8} {n : Nat} {kd : IntKind} (h : n ≤ l.length) : asem (.slstr (.string ⟨l.toArray⟩) none (some (.int kd (n : Int)))) H = some (.string ⟨(l.take n).toArray⟩, H) := by
  simp only [asem, bndA, str_size]
  rw [if_pos (by omega)]
  simp [str_ext]
theorem a_slsM {l : List UInt8} {n m : Nat} {kd kd' : IntKind} (h : n ≤ m) (h2 : m ≤ l.length) : asem (.slstr (.string ⟨l.toArray⟩) (some (.int kd (n : Int))) (some (.int kd' (m : Int)))) H = some (.string ⟨((l.take m).drop n).toArray⟩, H) := by
  simp only [asem, bndA, str_size]
  rw [if_pos (by omega)]
  simp only
  rw [if_pos (by omega)]
  simp [str_ext]
theorem a_idxS {l : List UInt8} {n : Nat} {kd : IntKind} (h : n < l.length) : asem (.idxs (.string ⟨l.toArray⟩) (.int kd (n : Int))) H = some (.int .u8 ((l.getD n 0).toNat : Nat), H) := by
  simp only [asem, str_size]
  rw [if_pos (by omega)]
  simp [List.getD, List.getElem?_eq_getElem h]
theorem b_eqS (a b : List UInt8) : binA .eql (.string ⟨a.toArray⟩) (.string ⟨b.toArray⟩) = some (.bool (decide (a = b))) := by rw [b_seql, bytes_eq]
theorem b_neS (a b : List UInt8) : binA .neq (.string ⟨a.toArray⟩) (.string ⟨b.toArray⟩) = some (.bool (!decide (a = b))) := by rw [b_sneq, bytes_eq]
theorem b_addS {a b : List UInt8} (h : a.length + b.length ≤ 140737488355328) : binA .add (.string ⟨a.toArray⟩) (.string ⟨b.toArray⟩) = some (.string ⟨(a ++ b).toArray⟩) := by
  rw [b_sadd (by simpa [str_size] using h), bytes_append]
theorem yieldK {b : Nat} {xs : List Value} {R K : Value → AHeap → Prop} (h : ∃ v H', AYield P ng b xs H v H' ∧ R v H') (k : ∀ v H', R v H' → K v H') : ∃ v H', AYield P ng b xs H v H' ∧ K v H' := by
  obtain ⟨v, H', h1, h2⟩ := h; exact ⟨v, H', h1, k v H' h2⟩
end
theorem blen (ba : ByteArray) : ba.data.toList.length = ba.size := Array.length_toList
theorem bloop {β : Type} (f : β → UInt8 → β) (ba : ByteArray) : ∀ (i j : Nat) (b : β), j + i = ba.size →
    ByteArray.foldlM.loop (m := _root_.Id) (fun b x => pure (f b x)) ba ba.size (Nat.le_refl _) i j b = (ba.data.toList.drop j).foldl f b := by
  intro i
  induction i with
  | zero =>
    intro j b h
    unfold ByteArray.foldlM.loop
    rw [dif_neg (by omega), List.drop_of_length_le (by rw [blen]; omega)]
    rfl
  | succ i ih =>
    intro j b h
    unfold ByteArray.foldlM.loop
    have hj : j < ba.size := by omega
    rw [dif_pos hj]
    have hl : j < ba.data.toList.length := by rw [blen]; exact hj
    rw [List.drop_eq_getElem_cons hl, List.foldl_cons]
    exact ih (j + 1) _ (by omega)
theorem bfold {β : Type} (f : β → UInt8 → β) (ba : ByteArray) (b : β) : ba.foldl f b = ba.data.toList.foldl f b := by
  unfold ByteArray.foldl ByteArray.foldlM
  rw [dif_pos (Nat.le_refl _)]
  exact bloop f ba ba.size 0 b (by omega)
def cB (c : UInt8) : List UInt8 → Nat
  | [] => 0
  | x :: l => if x = c then cB c l + 1 else cB c l
theorem cB_fold (c : UInt8) : ∀ (l : List UInt8) (n : Int), l.foldl (fun (n : Int) x => if x == c then n + 1 else n) n = n + (cB c l : Int)
  | [], n => by simp [cB]
  | x :: l, n => by
    rw [List.foldl_cons, cB_fold]
    by_cases h : x = c
    · have e : cB c (x :: l) = cB c l + 1 := by simp [cB, h]
      rw [e, if_pos (by simpa using h)]; push_cast; omega
    · have e : cB c (x :: l) = cB c l := by simp [cB, h]
      rw [e, if_neg (by simpa using h)]
end Go.AM

set_option linter.unusedSimpArgs false
set_option linter.unusedVariables false
namespace Go.AM
section
variable {P : Program} {ng : Nat} {H : AHeap} {Q : AQ} {fr tm : List Value} {KF : List Value → AHeap → Prop} {tr : List TE}
variable (d : D) (r : List AOper) (un : List Nat) (rd : List (AOper × List Nat))
theorem st_appz (e esz b : Nat) (z : List Value) (s x : Value) : stR P ng (.appz e esz b z s x) d r fr tm H KF = goR P ng (asem (.appz e esz b z s x) H) d r fr tm KF := st_of d r (by simp) (by simp) (by simp)
theorem st_cap (x : Value) : stR P ng (.cap x) d r fr tm H KF = goR P ng (asem (.cap x) H) d r fr tm KF := st_of d r (by simp) (by simp) (by simp)
end
section
variable {H : AHeap}
theorem a_cap0 : asem (.cap (.slice none 0 0)) H = some (.int .i64 0, H) := _root_.id rfl
end
section
variable {κ : Type} [DecidableEq κ] {enc : κ → Value} {d : TypeDesc} {H : AHeap}
omit [DecidableEq κ] in
omit [DecidableEq κ] in
omit [DecidableEq κ] in
end
end Go.AM

set_option linter.unusedSimpArgs false
set_option linter.unusedVariables false
namespace Go.AM
def WO (H : AHeap) (e esz : Nat) (v : Value) (n : Nat) (c : List Value) : Prop :=
  (v = .slice none 0 0 ∧ n = 0 ∧ c = []) ∨ ∃ b o k room d, v = slc b o n k ∧ n ≤ k ∧ d.length = o + k * esz ∧ (d.drop o).take (n * esz) = c ∧ H.get b = some (.cells true room esz d e)
section
variable {H H' : AHeap} {e esz : Nat} {v : Value} {n : Nat} {c : List Value}
theorem AP.wo (h : AP H e esz v n c) : WO H e esz v n c := by
  rcases h with h | ⟨b, room, rfl, h1, h2⟩
  · exact .inl h
  · exact .inr ⟨b, 0, n, room, c, rfl, Nat.le_refl _, by omega, by rw [List.drop_zero, ← h1, List.take_length], h2⟩
theorem WO.nil (H : AHeap) (e esz : Nat) : WO H e esz (.slice none 0 0) 0 [] := .inl ⟨rfl, rfl, rfl⟩
theorem WO.len (h : WO H e esz v n c) : c.length = n * esz := by
  rcases h with ⟨rfl, rfl, rfl⟩ | ⟨b, o, k, room, d, rfl, h1, h2, rfl, h4⟩
  · simp
  · have := Nat.mul_le_mul_right esz h1
    rw [List.length_take, List.length_drop, h2]; omega
theorem WO.elems (h : WO H e esz v n c) : elemsA H esz v = some c := by
  rcases h with ⟨rfl, rfl, rfl⟩ | ⟨b, o, k, room, d, rfl, h1, h2, rfl, h4⟩
  · rfl
  · have := Nat.mul_le_mul_right esz h1
    simp only [elemsA, slc, h4]
    rw [if_pos (by omega)]
theorem WO.shape (h : WO H e esz v n c) : ∃ a k, v = .slice a n k := by
  rcases h with ⟨rfl, rfl, rfl⟩ | ⟨b, o, k, room, d, rfl, h1, h2, h3, h4⟩
  · exact ⟨_, _, rfl⟩
  · exact ⟨_, _, rfl⟩
theorem WO.is (h : WO H e esz v n c) : isS v = true := by obtain ⟨a, k, rfl⟩ := h.shape; rfl
theorem WO.lenS (h : WO H e esz v n c) : Go.AM.lenS v = n := by obtain ⟨a, k, rfl⟩ := h.shape; rfl
theorem WO.one (h : WO H e esz v n c) : v.oneCell' = true := by obtain ⟨a, k, rfl⟩ := h.shape; rfl
theorem WO.lt (h : WO H e esz v n c) {b : Nat} (hb : blk v = some b) : b < H.n := by
  rcases h with ⟨rfl, rfl, rfl⟩ | ⟨b', o, k, room, d, rfl, h1, h2, h3, h4⟩
  · cases hb
  · cases hb; exact AHeap.get_lt h4
theorem WO.chg {S : List Nat} (h : WO H e esz v n c) (k : Chg S H H') (hS : ∀ x ∈ blkL v, x ∉ S) : WO H' e esz v n c := by
  rcases h with h | ⟨b, o, m, room, d, rfl, h1, h2, h3, h4⟩
  · exact .inl h
  · exact .inr ⟨b, o, m, room, d, rfl, h1, h2, h3, k.at_ h4 (hS b (mem_blkL.2 rfl))⟩
theorem WO.keeps (h : WO H e esz v n c) (k : Keeps H H') : WO H' e esz v n c := h.chg (k.chg []) (by simp)
theorem WO.sl {rows : List (List Value)} (h : WO H e esz v n rows.flatten) (hr : ∀ r ∈ rows, r.length = esz) (hn : n = rows.length) : Sl H esz v rows := by
  obtain ⟨a, k, rfl⟩ := h.shape
  exact ⟨⟨a, k, by rw [hn]⟩, hr, h.elems⟩
theorem WO.get' (h : WO H e esz v n c) (k : ∀ b, blk v = some b → H'.get b = H.get b) : WO H' e esz v n c := by
  rcases h with h | ⟨b, o, m, room, d, rfl, h1, h2, h3, h4⟩
  · exact .inl h
  · exact .inr ⟨b, o, m, room, d, rfl, h1, h2, h3, by rw [k b rfl]; exact h4⟩
theorem WO.app {bytes m : Nat} {news : List Value} (h : WO H e esz v n c) (hm : news.length = m * esz) (hs : (n + m) * bytes ≤ 140737488355328 ∧ n + m ≤ 140737488355328) :
    ∃ v' H', appA H e esz bytes v m news = some (v', H') ∧ WO H' e esz v' (n + m) (c ++ news) ∧ Chg (blkL v) H H' ∧ (blk v' = blk v ∨ blk v' = some H.n) := by
  rcases h with ⟨rfl, rfl, rfl⟩ | ⟨b, o, k, room, d, rfl, h1, h2, h3, h4⟩
  · obtain ⟨v', H', a, b, d⟩ := AP.app (H := H) (e := e) (esz := esz) (v := .slice none 0 0) (n := 0) (c := []) (.inl ⟨rfl, rfl, rfl⟩) hm hs
    exact ⟨v', H', a, b.wo, d⟩
  · simp only [appA, slc]
    by_cases hm0 : m = 0
    · subst hm0
      have : news = [] := by rw [← List.length_eq_zero_iff]; omega
      subst this
      rw [if_pos rfl]
      exact ⟨_, _, rfl, .inr ⟨b, o, k, room, d, rfl, h1, h2, by simpa using h3, h4⟩, Chg.refl _ _, .inl rfl⟩
    · have hle := Nat.mul_le_mul_right esz h1
      have hc : c.length = n * esz := by rw [← h3, List.length_take, List.length_drop, h2]; omega
      have hnm : (n + m) * esz = n * esz + m * esz := Nat.add_mul _ _ _
      rw [if_neg hm0, if_pos hs]
      simp only [h4, true_and]
      rw [if_pos (show o + k * esz ≤ d.length by omega)]
      by_cases hk : n + m ≤ k
      · have hle2 := Nat.mul_le_mul_right esz hk
        rw [if_pos hk]
        simp only [if_true]
        refine ⟨_, _, rfl, .inr ⟨b, o, k, room, _, rfl, hk, ?_, ?_, AHeap.get_set_same h4 _⟩, Chg.set H (AHeap.get_lt h4) _, .inl rfl⟩
        · rw [List.length_append, List.length_append, List.length_take, List.length_drop, hm]; omega
        · have e1 : d.take (o + n * esz) = d.take o ++ c := by rw [← h3, List.take_add]
          have e2 : (d.take o).length = o := by rw [List.length_take]; omega
          rw [e1, List.append_assoc, List.append_assoc, List.drop_append, e2, Nat.sub_self, List.drop_zero, List.drop_of_length_le (by omega), List.nil_append, ← List.append_assoc, List.take_append_of_le_length (by rw [List.length_append, hc, hm]; omega), List.take_of_length_le (by rw [List.length_append, hc, hm]; omega)]
      · rw [if_neg hk, h3]
        have hlen : (c ++ news).length = (n + m) * esz := by rw [List.length_append, hc, hm, Nat.add_mul]
        split
        · exact ⟨_, _, rfl, .inr ⟨H.n, 0, n + m, true, _, rfl, Nat.le_refl _, by omega, by rw [List.drop_zero, ← hlen, List.take_length], AHeap.get_alloc_new H _⟩, (Chg.refl _ _).alloc _, .inr rfl⟩
        · exact ⟨_, _, rfl, .inr ⟨H.n, 0, n + m, true, _, rfl, Nat.le_refl _, by omega, by rw [List.drop_zero, ← hlen, List.take_length], AHeap.get_alloc_new (H.set b .dead) _⟩, (Chg.set H (AHeap.get_lt h4) _).alloc _, .inr rfl⟩
theorem WO.cut {kd : IntKind} {i : Nat} (h : WO H e esz v n c) (hi : i ≤ n) : ∃ w, asem (.slsl esz v (some (.int kd (i : Nat))) none none) H = some (w, H) ∧ WO H e esz w (n - i) (c.drop (i * esz)) ∧ (blk w = blk v ∨ blk w = none) := by
  rcases h with ⟨rfl, rfl, rfl⟩ | ⟨b, o, k, room, d, rfl, h1, h2, rfl, h4⟩
  · obtain rfl : i = 0 := by omega
    exact ⟨.slice none 0 0, rfl, by simpa using WO.nil H e esz, .inl rfl⟩
  · have e1 : bndA (some (.int kd (i : Nat))) 0 n = some i := by
      simp only [bndA]; simp; omega
    have e2 : bndA none k k = some k := rfl
    have e3 : bndA none n k = some n := rfl
    refine ⟨slc b (o + i * esz) (n - i) (k - i), ?_, .inr ⟨b, o + i * esz, k - i, room, d, rfl, by omega, ?_, ?_, h4⟩, .inl rfl⟩
    · simp only [asem, slc, e2, e3, e1, h4, true_or, ↓reduceIte]
    · have := Nat.sub_mul k i esz
      have := Nat.mul_le_mul_right esz (show i ≤ k by omega)
      omega
    · rw [List.drop_take, List.drop_drop, Nat.sub_mul]
end
section
variable {P : Program} {ng : Nat} {H : AHeap} {KF : List Value → AHeap → Prop} {fr tm : List Value} {tr : List TE} {e esz : Nat} {v : Value} {n : Nat} {c : List Value}
theorem WO.appD {d : D} {r : List (AOper × List Nat)} {bytes : Nat} {x : Value} {m : Nat} {news : List Value} (h : WO H e esz v n c) (hx : ∃ a k, x = .slice a m k) (h1 : elemsA H esz x = some news) (hm : news.length = m * esz)
    (hs : (n + m) * bytes ≤ 140737488355328 ∧ n + m ≤ 140737488355328)
    (hk : ∀ v' H', WO H' e esz v' (n + m) (c ++ news) → Chg (blkL v) H H' → (blk v' = blk v ∨ blk v' = some H.n) → RD P ng r (d.frame v' fr) (d.temps v' tm) H' (tr ++ [⟨3, [], H, H'⟩]) KF) : goD P ng (.app e esz bytes v x) (asem (.app e esz bytes v x) H) d [] r fr tm H tr KF := by
  obtain ⟨v', H', e1, e2, e3, e4⟩ := h.app (bytes := bytes) hm hs
  obtain ⟨a, k, rfl⟩ := hx
  exact ⟨v', H', by simp only [asem, h1]; exact e1, trivial, hk v' H' e2 e3 e4⟩
end
def thO (e esz : Nat) (v : Value) (n : Nat) (c : List Value) : Th where
  P K := WO K e esz v n c
  F := blkL v
  lt K h y hy := h.lt (mem_blkL.1 hy)
  st K K' h hn k := h.get' fun b hb => k b (mem_blkL.2 hb)
end Go.AM

set_option linter.unusedSimpArgs false
set_option linter.unusedVariables false
namespace Go.AM
def fp (A : List Th) : List Nat := A.flatMap Th.F
theorem fp_app (A B : List Th) : fp (A ++ B) = fp A ++ fp B := by simp [fp]
theorem mem_fp {A : List Th} {y : Nat} : y ∈ fp A ↔ ∃ t ∈ A, y ∈ t.F := by simp [fp]
structure Upd (A A' : List Th) (K K' : AHeap) : Prop where
  sep : Sep K' A'
  chg : Chg (fp A) K K'
  fr : ∀ y ∈ fp A', y ∈ fp A ∨ K.n ≤ y
section
variable {H K K' K2 : AHeap} {A A' A2 B B' : List Th}
theorem Sep.left (h : Sep K (A ++ B)) : Sep K A := ⟨fun t ht => h.all t (List.mem_append_left _ ht), (List.pairwise_append.1 h.ap).1⟩
theorem Sep.right (h : Sep K (A ++ B)) : Sep K B := ⟨fun t ht => h.all t (List.mem_append_right _ ht), (List.pairwise_append.1 h.ap).2.1⟩
theorem Sep.lt (h : Sep K A) {y : Nat} (hy : y ∈ fp A) : y < K.n := by
  obtain ⟨t, ht, h1⟩ := mem_fp.1 hy
  exact t.lt K (h.all t ht) y h1
theorem Sep.cross (h : Sep K (A ++ B)) {y : Nat} (hy : y ∈ fp A) : y ∉ fp B := by
  intro hb
  obtain ⟨t, ht, h1⟩ := mem_fp.1 hy
  obtain ⟨u, hu, h2⟩ := mem_fp.1 hb
  exact (List.pairwise_append.1 h.ap).2.2 t ht u hu y h1 h2
theorem Sep.join (h : Sep K A) (k : Sep K B) (x : ∀ y ∈ fp A, y ∉ fp B) : Sep K (A ++ B) := by
  refine ⟨fun t ht => ?_, List.pairwise_append.2 ⟨h.ap, k.ap, fun t ht u hu y h1 h2 => x y (mem_fp.2 ⟨t, ht, h1⟩) (mem_fp.2 ⟨u, hu, h2⟩)⟩⟩
  rcases List.mem_append.1 ht with ht | ht
  · exact h.all t ht
  · exact k.all t ht
theorem Sep.chg (h : Sep K A) {S : List Nat} (c : Chg S K K') (x : ∀ y ∈ fp A, y ∉ S) : Sep K' A :=
  ⟨fun t ht => t.st K K' (h.all t ht) c.n fun b hb => c.get b (t.lt K (h.all t ht) b hb) (x b (mem_fp.2 ⟨t, ht, hb⟩)), h.ap⟩
theorem Upd.refl (h : Sep K A) : Upd A A K K := ⟨h, Chg.refl _ _, fun y hy => .inl hy⟩
theorem Upd.keeps (h : Sep K A) (k : Keeps K K') : Upd A A K K' := ⟨h.keeps k, k.chg _, fun y hy => .inl hy⟩
theorem Upd.trans (u : Upd A A' K K') (v : Upd A' A2 K' K2) : Upd A A2 K K2 :=
  ⟨v.sep, u.chg.trans v.chg fun x hx => u.fr x hx, fun y hy => by
    rcases v.fr y hy with h | h
    · exact u.fr y h
    · exact .inr (Nat.le_trans u.chg.n h)⟩
theorem Upd.keeps' (u : Upd A A' K K') (k : Keeps K' K2) : Upd A A' K K2 := u.trans (.keeps u.sep k)
theorem Upd.ext (u : Upd A A' K K') (h : Sep K (A ++ B)) : Upd (A ++ B) (A' ++ B) K K' := by
  have hx : ∀ y ∈ fp A', y ∉ fp B := fun y hy hb => by
    rcases u.fr y hy with h1 | h1
    · exact h.cross h1 hb
    · have := h.right.lt hb; omega
  refine ⟨u.sep.join (h.right.chg u.chg fun y hy hb => h.cross hb hy) hx, u.chg.mono fun x hx => by rw [fp_app]; exact List.mem_append_left _ hx, fun y hy => ?_⟩
  rw [fp_app] at hy ⊢
  rcases List.mem_append.1 hy with hy | hy
  · rcases u.fr y hy with h1 | h1
    · exact .inl (List.mem_append_left _ h1)
    · exact .inr h1
  · exact .inl (List.mem_append_right _ hy)
theorem Upd.permL (u : Upd A A' K K') (p : A2.Perm A) : Upd A2 A' K K' :=
  ⟨u.sep, u.chg.mono fun x hx => by
      obtain ⟨t, ht, h1⟩ := mem_fp.1 hx
      exact mem_fp.2 ⟨t, p.mem_iff.2 ht, h1⟩, fun y hy => by
      rcases u.fr y hy with h1 | h1
      · obtain ⟨t, ht, h2⟩ := mem_fp.1 h1
        exact .inl (mem_fp.2 ⟨t, p.mem_iff.2 ht, h2⟩)
      · exact .inr h1⟩
theorem Upd.permR (u : Upd A A' K K') (p : A'.Perm A2) : Upd A A2 K K' :=
  ⟨u.sep.perm p, u.chg, fun y hy => by
      obtain ⟨t, ht, h1⟩ := mem_fp.1 hy
      exact u.fr y (mem_fp.2 ⟨t, p.mem_iff.2 ht, h1⟩)⟩
theorem Upd.extR (u : Upd B B' K K') (h : Sep K (A ++ B)) : Upd (A ++ B) (A ++ B') K K' :=
  ((u.ext (B := A) (h.perm List.perm_append_comm)).permL List.perm_append_comm).permR List.perm_append_comm
theorem Upd.at_ {l r : List Th} {t t' : Th} (h : Sep K (l ++ t :: r)) (c : Chg t.F K K') (hp : t'.P K') (hf : ∀ y ∈ t'.F, y ∈ t.F ∨ K.n ≤ y) : Upd (l ++ t :: r) (l ++ t' :: r) K K' :=
  ⟨h.upd c hp hf, c.mono fun x hx => mem_fp.2 ⟨t, by simp, hx⟩, fun y hy => by
    obtain ⟨u, hu, h1⟩ := mem_fp.1 hy
    rcases List.mem_append.1 hu with hu | hu
    · exact .inl (mem_fp.2 ⟨u, by simp [hu], h1⟩)
    · rcases List.mem_cons.1 hu with rfl | hu
      · rcases hf y h1 with h2 | h2
        · exact .inl (mem_fp.2 ⟨t, by simp, h2⟩)
        · exact .inr h2
      · exact .inl (mem_fp.2 ⟨u, by simp [hu], h1⟩)⟩
theorem Upd.next {l r : List Th} {t t' : Th} (u : Upd A (l ++ t :: r) K K') (c : Chg t.F K' K2) (hp : t'.P K2) (hf : ∀ y ∈ t'.F, y ∈ t.F ∨ K'.n ≤ y ∨ K.n ≤ y ∧ ∀ x ∈ l ++ r, y ∉ x.F) : Upd A (l ++ t' :: r) K K2 := by
  have ha := u.sep.ap
  have hl := u.sep.all
  rw [List.pairwise_append, List.pairwise_cons] at ha
  have keep : ∀ x ∈ l ++ r, ∀ y ∈ x.F, y ∉ t.F := fun x hx y hy ht => by
    rcases List.mem_append.1 hx with hx | hx
    · exact ha.2.2 x hx t (by simp) y hy ht
    · exact ha.2.1.1 x hx y ht hy
  have av : ∀ x ∈ l ++ r, ∀ y ∈ x.F, y ∉ t'.F := fun x hx y hy ht => by
    have hx2 : x ∈ l ++ t :: r := by
      rcases List.mem_append.1 hx with hx | hx
      · exact List.mem_append_left _ hx
      · exact List.mem_append_right _ (List.mem_cons_of_mem _ hx)
    rcases hf y ht with h1 | h1 | h1
    · exact keep x hx y hy h1
    · have := x.lt K' (hl x hx2) y hy; omega
    · exact h1.2 x hx hy
  refine ⟨⟨fun x hx => ?_, ?_⟩, u.chg.trans c fun x hx => u.fr x (mem_fp.2 ⟨t, by simp, hx⟩), fun y hy => ?_⟩
  · have hx3 : x = t' ∨ x ∈ l ++ r := by
      rcases List.mem_append.1 hx with hx | hx
      · exact .inr (List.mem_append_left _ hx)
      · rcases List.mem_cons.1 hx with hx | hx
        · exact .inl hx
        · exact .inr (List.mem_append_right _ hx)
    rcases hx3 with rfl | hx
    · exact hp
    · have hx2 : x ∈ l ++ t :: r := by
        rcases List.mem_append.1 hx with hx | hx
        · exact List.mem_append_left _ hx
        · exact List.mem_append_right _ (List.mem_cons_of_mem _ hx)
      exact x.st K' K2 (hl x hx2) c.n fun y hy => c.get y (x.lt K' (hl x hx2) y hy) (keep x hx y hy)
  · rw [List.pairwise_append, List.pairwise_cons]
    refine ⟨ha.1, ⟨fun x hx y hy h2 => av x (List.mem_append_right _ hx) y h2 hy, ha.2.1.2⟩, fun x hx z hz y hy h2 => ?_⟩
    rcases List.mem_cons.1 hz with rfl | hz
    · exact av x (List.mem_append_left _ hx) y hy h2
    · exact ha.2.2 x hx z (List.mem_cons_of_mem _ hz) y hy h2
  · obtain ⟨x, hx, h1⟩ := mem_fp.1 hy
    rcases List.mem_append.1 hx with hx | hx
    · exact u.fr y (mem_fp.2 ⟨x, by simp [hx], h1⟩)
    · rcases List.mem_cons.1 hx with rfl | hx
      · rcases hf y h1 with h2 | h2 | h2
        · exact u.fr y (mem_fp.2 ⟨t, by simp, h2⟩)
        · exact .inr (Nat.le_trans u.chg.n h2)
        · exact .inr h2.1
      · exact u.fr y (mem_fp.2 ⟨x, by simp [hx], h1⟩)
end
theorem set_same {H : AHeap} {b : Nat} {o : AO} (h : H.get b = some o) : H.set b o = H := by
  have hl := AHeap.get_lt h
  unfold AHeap.get at h
  rw [if_pos hl] at h
  unfold AHeap.set
  congr 1
  obtain ⟨hi, he⟩ := List.getElem?_eq_some_iff.1 h
  rw [← he]; exact List.set_getElem_self ..
theorem a_copyB {H : AHeap} {b o n k : Nat} {room : Bool} {esz e : Nat} {c : List Value} {x : Value} {l : List UInt8} (hx : BS H x l) (hg : H.get b = some (.cells true room esz c e)) (hl : l.length ≤ n) (hc : o + n ≤ c.length) :
    asem (.copy 1 (slc b o n k) x) H = some (.int .i64 (l.length : Nat), H.set b (.cells true room esz (c.take o ++ cellsOf l ++ c.drop (o + l.length)) e)) := by
  obtain ⟨a, q, rfl⟩ := hx.sh
  have he := hx.el
  have hm : min l.length n = l.length := by omega
  simp only [asem, slc, he, hg, hm, Nat.mul_one]
  by_cases h0 : l.length = 0
  · have : l = [] := List.length_eq_zero_iff.1 h0
    subst this
    have e1 : c.take o ++ cellsOf [] ++ c.drop (o + ([] : List UInt8).length) = c := by simp [cellsOf]
    rw [if_pos h0, e1, set_same hg]; rfl
  · rw [if_neg h0, if_pos ⟨trivial, by omega⟩, List.take_of_length_le (l := cellsOf l) (by rw [cellsOf_length]; omega)]
theorem a_slarrF (H : AHeap) (esz n b o : Nat) : asem (.slarr esz n (ptr b o) none none none) H = some (slc b o n n, H) := by
  simp [asem, ptr, bndA]
theorem a_slarrK (H : AHeap) (esz n b o : Nat) {kd : IntKind} {k : Int} (h0 : 0 ≤ k) (h1 : k ≤ n) : asem (.slarr esz n (ptr b o) none (some (.int kd k)) none) H = some (slc b o k.toNat n, H) := by
  simp only [asem, ptr, bndA]
  rw [if_pos (by omega)]
  simp
theorem a_copyN {H : AHeap} {b o n k : Nat} {room : Bool} {esz e : Nat} {c : List Value} {x : Value} {l : List UInt8} (hx : BS H x l) (hg : H.get b = some (.cells true room esz c e)) (hl : n ≤ l.length) (hc : o + n ≤ c.length) :
    asem (.copy 1 (slc b o n k) x) H = some (.int .i64 (n : Nat), H.set b (.cells true room esz (c.take o ++ cellsOf (l.take n) ++ c.drop (o + n)) e)) := by
  obtain ⟨a, q, rfl⟩ := hx.sh
  have he := hx.el
  have hm : min l.length n = n := by omega
  simp only [asem, slc, he, hg, hm, Nat.mul_one]
  by_cases h0 : n = 0
  · subst h0
    have e1 : c.take o ++ cellsOf (l.take 0) ++ c.drop (o + 0) = c := by simp [cellsOf]
    rw [if_pos rfl, e1, set_same hg]; rfl
  · rw [if_neg h0, if_pos ⟨trivial, by omega⟩]
    simp only [cellsOf, List.map_take]
theorem cond_mid {P : Program} {ng : Nat} {Q : AQ} {fr : List Value} {H : AHeap} {v : Value} {t e : ACode} {K : List Value → AHeap → Prop} (M : List Value → AHeap → Prop)
    (h1 : ∀ Q' : AQ, (∀ fr H, M fr H → Q' .normal fr H) → (∀ i fr H, Q (.exit i) fr H → Q' (.exit i) fr H) → (∀ fr H, Q .ret fr H → Q' .ret fr H) → condW P ng v t e Q' fr H)
    (h2 : ∀ fr H, M fr H → K fr H) : condW P ng v t e (Q.andThen K) fr H :=
  h1 _ (fun fr H h => h2 fr H h) (fun _ _ _ h => h) (fun _ _ h => h)
theorem BS.lenS {H : AHeap} {v : Value} {l : List UInt8} (h : BS H v l) : Go.AM.lenS v = l.length := by have := Sl.len h.sl; simpa using this
theorem BS.isS {H : AHeap} {v : Value} {l : List UInt8} (h : BS H v l) : Go.AM.isS v = true := Sl.is h.sl
end Go.AM
namespace Go.AM.Fd
open Go.Proofs Go.AM.F
structure Dk where
  bl : List (List UInt8)
  op : List (Nat × List UInt8)
  st : Nat
  ar : Option Nat
  off : Bool
structure Dk.ok (D : Dk) : Prop where
  b : ∀ x ∈ D.bl, x.length = 256
  o : ∀ w ∈ D.op, w.1 < D.bl.length ∧ w.2.length = 256
  n : D.bl.length ≤ 4096
  m : D.op.length ≤ 1000000
  s : D.st ≤ 1000000
  r : ∀ n, D.ar = some n → n ≤ 9223372036854775807
def padB (b : List UInt8) : List UInt8 := b ++ List.replicate (256 - b.length) 0
theorem padB_len {b : List UInt8} (h : b.length ≤ 256) : (padB b).length = 256 := by simp [padB]; omega
def zB : List UInt8 := List.replicate 256 0
theorem zB_len : zB.length = 256 := by rw [zB, List.length_replicate]
def newD (n : Int) : Dk := ⟨List.replicate (min n 4096).toNat zB, [], 0, none, false⟩
def askD (D : Dk) (i : Int) : Int := if D.off = true then 140 else if i < 0 ∨ (D.bl.length : Int) ≤ i then 2 else 0
def stepD (D : Dk) : Dk × Bool := match D.ar with
  | none => (⟨D.bl, D.op, D.st + 1, none, D.off⟩, false)
  | some 0 => (⟨D.bl, D.op, D.st + 1, none, true⟩, true)
  | some (n + 1) => (⟨D.bl, D.op, D.st + 1, some n, D.off⟩, false)
def wrD (D : Dk) (i : Int) (b : List UInt8) : Dk × Int := if askD D i ≠ 0 then (D, askD D i) else if 256 < b.length then (D, 3) else
  ((stepD ⟨D.bl, D.op ++ [(i.toNat, padB b)], D.st, D.ar, D.off⟩).1, if (stepD D).2 = true then 140 else 0)
def setl (bl : List (List UInt8)) (op : List (Nat × List UInt8)) : List (List UInt8) := op.foldl (fun l w => l.set w.1 w.2) bl
def settD (D : Dk) : Dk := ⟨setl D.bl D.op, [], D.st, D.ar, D.off⟩
def syD (D : Dk) : Dk × Int := if D.off = true then (D, 140) else if (stepD D).2 = true then ((stepD D).1, 140) else (settD (stepD D).1, 0)
def lastW (op : List (Nat × List UInt8)) (i : Nat) : Option (List UInt8) := (op.reverse.find? fun w => w.1 == i).map (·.2)
def rdB (D : Dk) (i : Nat) : List UInt8 := (lastW D.op i).getD (D.bl.getD i [])
def failD (D : Dk) (n : Int) : Dk := ⟨D.bl, D.op, D.st, if 0 ≤ n then some n.toNat else none, D.off⟩
def crashD (D : Dk) : Dk := ⟨D.bl, D.op, D.st, none, true⟩
def fateN (fs : List UInt8) (i : Nat) : Nat := if (fs.getD i 0).toNat = 255 then 256 else (fs.getD i 0).toNat
def onB (bl : List (List UInt8)) (fs : List UInt8) : List (Nat × List UInt8) → Nat → List (List UInt8)
  | [], _ => bl
  | w :: op, i => onB (bl.set w.1 (w.2.take (fateN fs i) ++ (bl.getD w.1 []).drop (fateN fs i))) fs op (i + 1)
def onD (D : Dk) (fs : List UInt8) : Dk := if D.off = true then ⟨onB D.bl fs D.op 0, [], D.st, none, false⟩ else ⟨D.bl, D.op, D.st, none, false⟩
theorem setl_len : ∀ (op : List (Nat × List UInt8)) (bl : List (List UInt8)), (setl bl op).length = bl.length
  | [], bl => rfl
  | w :: op, bl => by
    show (setl (bl.set w.1 w.2) op).length = _
    rw [setl_len op, List.length_set]
theorem mem_set {l : List (List UInt8)} {i : Nat} {a x : List UInt8} (h : x ∈ l.set i a) : x ∈ l ∨ x = a := List.mem_or_eq_of_mem_set h
theorem setl_all : ∀ (op : List (Nat × List UInt8)) (bl : List (List UInt8)), (∀ x ∈ bl, x.length = 256) → (∀ w ∈ op, w.2.length = 256) → ∀ x ∈ setl bl op, x.length = 256
  | [], bl, h, _ => h
  | w :: op, bl, h, k => setl_all op (bl.set w.1 w.2) (fun x hx => by
      rcases mem_set hx with hx | rfl
      · exact h x hx
      · exact k w (by simp)) fun w' hw => k w' (by simp [hw])
theorem onB_len (fs : List UInt8) : ∀ (op : List (Nat × List UInt8)) (bl : List (List UInt8)) (i : Nat), (onB bl fs op i).length = bl.length
  | [], bl, i => rfl
  | w :: op, bl, i => by rw [onB, onB_len fs op, List.length_set]
theorem fateN_le (fs : List UInt8) (i : Nat) : fateN fs i ≤ 256 := by
  unfold fateN
  have := (fs.getD i 0).toNat_lt
  split <;> omega
theorem getD_len {bl : List (List UInt8)} (h : ∀ x ∈ bl, x.length = 256) {i : Nat} (hi : i < bl.length) : (bl.getD i []).length = 256 := by
  simp only [List.getD, List.getElem?_eq_getElem hi, Option.getD_some]
  exact h _ (List.getElem_mem _)
theorem onB_all (fs : List UInt8) : ∀ (op : List (Nat × List UInt8)) (bl : List (List UInt8)) (i : Nat), (∀ x ∈ bl, x.length = 256) → (∀ w ∈ op, w.1 < bl.length ∧ w.2.length = 256) → ∀ x ∈ onB bl fs op i, x.length = 256
  | [], bl, i, h, _ => h
  | w :: op, bl, i, h, k => onB_all fs op _ (i + 1) (fun x hx => by
      rcases mem_set hx with hx | rfl
      · exact h x hx
      · have h1 := k w (by simp)
        have h2 := getD_len h h1.1
        have h3 := fateN_le fs i
        rw [List.length_append, List.length_take, List.length_drop, h2, h1.2]; omega) fun w' hw => by
      rw [List.length_set]; exact k w' (by simp [hw])
theorem stepD_bl (D : Dk) : (stepD D).1.bl = D.bl ∧ (stepD D).1.op = D.op ∧ (stepD D).1.st = D.st + 1 := by
  unfold stepD; split <;> exact ⟨rfl, rfl, rfl⟩
theorem stepD_op (D : Dk) (op : List (Nat × List UInt8)) : (stepD ⟨D.bl, op, D.st, D.ar, D.off⟩).2 = (stepD D).2 := by
  unfold stepD; simp only; split <;> rfl
theorem Dk.ok.step {D : Dk} (h : D.ok) (hs : D.st < 1000000) : (stepD D).1.ok := by
  obtain ⟨a, b, c⟩ := stepD_bl D
  refine ⟨by rw [a]; exact h.b, by rw [a, b]; exact h.o, by rw [a]; exact h.n, by rw [b]; exact h.m, by rw [c]; omega, fun n hn => ?_⟩
  unfold stepD at hn
  split at hn
  · cases hn
  · cases hn
  · rename_i m hm
    cases hn
    have := h.r _ hm
    omega
theorem askD_ok {D : Dk} {i : Int} (h : askD D i = 0) : 0 ≤ i ∧ i.toNat < D.bl.length ∧ D.off = false := by
  unfold askD at h
  split at h
  · cases h
  · split at h
    · cases h
    · rename_i h1 h2
      exact ⟨by omega, by omega, by simpa using h1⟩
theorem Dk.ok.wr {D : Dk} {i : Int} {b : List UInt8} (h : D.ok) (hs : D.st < 1000000) (hm : D.op.length < 1000000) : (wrD D i b).1.ok := by
  unfold wrD
  split
  · exact h
  · rename_i ha
    split
    · exact h
    · rename_i hb
      have ha := askD_ok (Classical.not_not.1 ha)
      refine Dk.ok.step ⟨h.b, fun w hw => ?_, h.n, by simp; omega, h.s, h.r⟩ hs
      rcases List.mem_append.1 hw with hw | hw
      · exact h.o w hw
      · simp only [List.mem_singleton] at hw
        subst hw
        exact ⟨ha.2.1, padB_len (by omega)⟩
theorem Dk.ok.sett {D : Dk} (h : D.ok) : (settD D).ok := ⟨setl_all _ _ h.b fun w hw => (h.o w hw).2, by simp [settD], by simp only [settD, setl_len]; exact h.n, by simp [settD], h.s, h.r⟩
theorem Dk.ok.sy {D : Dk} (h : D.ok) (hs : D.st < 1000000) : (syD D).1.ok := by
  unfold syD
  split
  · exact h
  · split
    · exact h.step hs
    · exact (h.step hs).sett
theorem Dk.ok.fail {D : Dk} (h : D.ok) {n : Int} (hn : n ≤ 9223372036854775807) : (failD D n).ok := ⟨h.b, h.o, h.n, h.m, h.s, fun m hm => by
  simp only [failD] at hm
  split at hm
  · cases hm; omega
  · cases hm⟩
theorem Dk.ok.crash {D : Dk} (h : D.ok) : (crashD D).ok := ⟨h.b, h.o, h.n, h.m, h.s, fun m hm => by cases hm⟩
theorem Dk.ok.on {D : Dk} (h : D.ok) (fs : List UInt8) : (onD D fs).ok := by
  unfold onD
  split
  · exact ⟨onB_all fs _ _ 0 h.b h.o, by simp, by simp only [onB_len]; exact h.n, by simp, h.s, fun m hm => by cases hm⟩
  · exact ⟨h.b, h.o, h.n, h.m, h.s, fun m hm => by cases hm⟩
theorem lastW_mem {op : List (Nat × List UInt8)} {i : Nat} {b : List UInt8} (h : lastW op i = some b) : ∃ w ∈ op, w.1 = i ∧ w.2 = b := by
  unfold lastW at h
  obtain ⟨w, h1, rfl⟩ := Option.map_eq_some_iff.1 h
  have h2 := List.mem_of_find?_eq_some h1
  have h3 := List.find?_some h1
  exact ⟨w, by simpa using h2, by simpa using h3, rfl⟩
theorem lastW_hit {op : List (Nat × List UInt8)} {i k : Nat} (hk : k < op.length) (hn : lastW (op.drop (k + 1)) i = none) (hi : op[k].1 = i) : lastW op i = some op[k].2 := by
  unfold lastW at *
  have e : op = op.take k ++ op[k] :: op.drop (k + 1) := by rw [← List.drop_eq_getElem_cons hk, List.take_append_drop]
  have hn2 : ((op.drop (k + 1)).reverse.find? fun w => w.1 == i) = none := by simpa using hn
  rw [show op.reverse = (op.drop (k + 1)).reverse ++ (op[k] :: (op.take k).reverse) by
    conv => lhs; rw [e]
    simp [List.reverse_append]]
  rw [List.find?_append, hn2, Option.none_or, List.find?_cons_of_pos (by simpa using hi)]
  rfl
theorem lastW_miss {op : List (Nat × List UInt8)} {i k : Nat} (hk : k < op.length) (hn : lastW (op.drop (k + 1)) i = none) (hi : op[k].1 ≠ i) : lastW (op.drop k) i = none := by
  unfold lastW at *
  rw [List.drop_eq_getElem_cons hk, List.reverse_cons, List.find?_append]
  have hn2 : ((op.drop (k + 1)).reverse.find? fun w => w.1 == i) = none := by simpa using hn
  rw [hn2, Option.none_or, List.find?_cons_of_neg (by simpa using hi)]
  rfl
theorem Dk.ok.rd {D : Dk} (h : D.ok) {i : Nat} (hi : i < D.bl.length) : (rdB D i).length = 256 := by
  unfold rdB
  cases e : lastW D.op i with
  | none => exact getD_len h.b hi
  | some b =>
    obtain ⟨w, h1, _, rfl⟩ := lastW_mem e
    exact (h.o w h1).2
theorem flat_set {z : Nat} : ∀ {rows : List (List Value)} (_ : ∀ r ∈ rows, r.length = z) (i : Nat) (_ : i < rows.length) (r : List Value), rows.flatten.take (i * z) ++ r ++ rows.flatten.drop (i * z + z) = (rows.set i r).flatten
  | a :: rows, h, 0, _, r => by
    have h1 := h a (by simp)
    rw [Nat.zero_mul, List.take_zero, List.nil_append, Nat.zero_add, List.flatten_cons, List.set_cons_zero, List.flatten_cons]
    rw [show (a ++ rows.flatten).drop z = rows.flatten by rw [← h1, List.drop_left]]
  | a :: rows, h, i + 1, hi, r => by
    have h1 := h a (by simp)
    have h2 := flat_set (rows := rows) (fun x hx => h x (by simp [hx])) i (by simpa using hi) r
    rw [List.flatten_cons, List.set_cons_succ, List.flatten_cons, ← h2, Nat.add_mul, Nat.one_mul, Nat.add_comm (i * z) z, Nat.add_assoc, ← h1, List.take_length_add_append, List.drop_length_add_append]
    simp only [List.append_assoc, Nat.add_comm a.length (i * a.length)]
theorem flat_drop {z : Nat} : ∀ {rows : List (List Value)} (_ : ∀ r ∈ rows, r.length = z) (i : Nat) (hi : i < rows.length) (k : Nat) (_ : k ≤ z), rows.flatten.drop (i * z + k) = rows[i].drop k ++ rows.flatten.drop (i * z + z)
  | a :: rows, h, 0, _, k, hk => by
    have h1 := h a (by simp)
    rw [Nat.zero_mul, Nat.zero_add, Nat.zero_add, List.flatten_cons, List.drop_append_of_le_length (by omega), ← h1, List.drop_left]
    rfl
  | a :: rows, h, i + 1, hi, k, hk => by
    have h1 := h a (by simp)
    have h2 := flat_drop (rows := rows) (fun x hx => h x (by simp [hx])) i (by simpa using hi) k hk
    rw [List.flatten_cons, Nat.add_mul, Nat.one_mul, Nat.add_comm (i * z) z, Nat.add_assoc, Nat.add_assoc, ← h1, List.drop_length_add_append, List.drop_length_add_append, h1, h2]
    rfl
theorem cellsOf_all (l : List UInt8) : (cellsOf l).all Value.oneCell' = true := List.all_eq_true.2 (Go.AM.cellsOf_one l)
def blR (bl : List (List UInt8)) : List (List Value) := bl.map cellsOf
def opR (w : Nat × List UInt8) : List Value := .int .i64 (w.1 : Nat) :: cellsOf w.2
theorem blR_len {bl : List (List UInt8)} (h : ∀ x ∈ bl, x.length = 256) : ∀ r ∈ blR bl, r.length = 256 := by
  intro r hr
  obtain ⟨x, hx, rfl⟩ := List.mem_map.1 hr
  rw [cellsOf_length, h x hx]
theorem opR_len {D : Dk} (h : D.ok) : ∀ r ∈ D.op.map opR, r.length = 257 := by
  intro r hr
  obtain ⟨x, hx, rfl⟩ := List.mem_map.1 hr
  simp only [opR, List.length_cons, cellsOf_length, (h.o x hx).2]
theorem blR_set (bl : List (List UInt8)) (i : Nat) (b : List UInt8) : (blR bl).set i (cellsOf b) = blR (bl.set i b) := by simp [blR, List.map_set]
theorem pad_cells (i : Value) {l : List UInt8} (h : l.length ≤ 256) : (i :: cellsOf (List.replicate 256 0)).take 1 ++ cellsOf l ++ (i :: cellsOf (List.replicate 256 0)).drop (1 + l.length) = i :: cellsOf (padB l) := by
  rw [Nat.add_comm 1, List.take_succ_cons, List.take_zero, List.drop_succ_cons, padB, cellsOf_append]
  simp only [List.cons_append, List.nil_append, cellsOf, List.map_replicate, List.drop_replicate]
def ptrO : Option Nat → Value
  | none => .pointer none
  | some b => ptr b 0
def thP (ab ar : Option Nat) : Th where
  P K := match ab, ar with
    | none, none => True
    | some b, some n => K.get b = some (.cells true false 1 [.int .i64 (n : Nat)] 3)
    | _, _ => False
  F := ab.toList
  lt K h y hy := by
    cases ab <;> cases ar <;> simp at hy h
    subst hy; exact AHeap.get_lt h
  st K K' h hn k := by
    cases ab <;> cases ar <;> simp at h k ⊢
    rw [k]; exact h
def dkC (sb : Nat) (v : Value) (ab : Option Nat) (D : Dk) : List Value := [slc sb 0 D.bl.length D.bl.length, v, .int .i64 (D.st : Nat), ptrO ab, .bool D.off]
def dkT (b sb : Nat) (v : Value) (ab : Option Nat) (D : Dk) : List Th :=
  [thB b (.cells true false 5 (dkC sb v ab D) 107), thB sb (.cells true false 256 (blR D.bl).flatten 139), thA 141 257 v D.op.length (D.op.map opR).flatten, thP ab D.ar]
structure DkR (K : AHeap) (b sb : Nat) (v : Value) (ab : Option Nat) (D : Dk) : Prop where
  s : Sep K (dkT b sb v ab D)
  ok : D.ok
section
variable {K : AHeap} {b sb : Nat} {v : Value} {ab : Option Nat} {D : Dk}
theorem DkR.g (h : DkR K b sb v ab D) : K.get b = some (.cells true false 5 [slc sb 0 D.bl.length D.bl.length, v, .int .i64 (D.st : Nat), ptrO ab, .bool D.off] 107) := h.s.get 0 rfl
theorem DkR.gs (h : DkR K b sb v ab D) : K.get sb = some (.cells true false 256 (blR D.bl).flatten 139) := h.s.get 1 rfl
theorem DkR.a (h : DkR K b sb v ab D) : AP K 141 257 v D.op.length (D.op.map opR).flatten := h.s.get 2 rfl
theorem DkR.p (h : DkR K b sb v ab D) : (thP ab D.ar).P K := h.s.get 3 rfl
theorem DkR.lt (h : DkR K b sb v ab D) : b < K.n := AHeap.get_lt h.g
theorem DkR.ss (h : DkR K b sb v ab D) : Sl K 256 (slc sb 0 D.bl.length D.bl.length) (blR D.bl) := by
  have e : (blR D.bl).length = D.bl.length := by simp [blR]
  refine ⟨⟨_, _, by rw [e]; rfl⟩, blR_len h.ok.b, elems_own h.gs ?_⟩
  rw [flat_len (blR_len h.ok.b), e]
theorem DkR.so (h : DkR K b sb v ab D) : Sl K 257 v (D.op.map opR) := AP.sl (by simpa using h.a) (opR_len h.ok) (by simp)
theorem DkR.ap (h : DkR K b sb v ab D) {y : Nat} (hy : y ∈ ab.toList) : y ≠ b := fun e => h.s.apart 0 3 (by omega) rfl rfl b (by simp [thB]) (by rw [← e]; exact hy)
theorem DkR.v_ne (h : DkR K b sb v ab D) : b ∉ blkL v := fun e => h.s.apart 0 2 (by omega) rfl rfl b (by simp [thB]) e
theorem DkR.cell {K1 : AHeap} {ab' : Option Nat} {D' : Dk} (h : DkR K b sb v ab D) (k : Keeps K K1) (hb : D'.bl = D.bl) (ho : D'.op = D.op) (hp : (thP ab' D'.ar).P (K1.set b (.cells true false 5 (dkC sb v ab' D') 107)))
    (hf : ∀ y ∈ ab'.toList, y ∈ ab.toList ∨ K.n ≤ y) : Upd (dkT b sb v ab D) (dkT b sb v ab' D') K (K1.set b (.cells true false 5 (dkC sb v ab' D') 107)) := by
  have hl : b < K1.n := Nat.lt_of_lt_of_le h.lt k.n
  have u1 := Upd.at_ (l := []) (t' := thB b (.cells true false 5 (dkC sb v ab' D') 107)) (h.s.keeps k) (Chg.set K1 hl (.cells true false 5 (dkC sb v ab' D') 107)) (AHeap.get_set_same (k.at_ h.g) _) (by simp [thB])
  simp only [dkT, hb, ho]
  refine Upd.next (l := [_, _, _]) ((Upd.keeps h.s k).trans u1) (Chg.refl _ _) hp fun y hy => ?_
  rcases hf y hy with h1 | h1
  · exact .inl h1
  · refine .inr (.inr ⟨h1, fun x hx hxy => ?_⟩)
    have key : y ∈ fp (dkT b sb v ab D) := by
      simp only [List.nil_append, List.append_nil, List.mem_cons, List.not_mem_nil, or_false] at hx
      rcases hx with rfl | rfl | rfl
      · exact mem_fp.2 ⟨thB b (.cells true false 5 (dkC sb v ab D) 107), by simp [dkT], hxy⟩
      · exact mem_fp.2 ⟨thB sb (.cells true false 256 (blR D.bl).flatten 139), by simp [dkT], hxy⟩
      · exact mem_fp.2 ⟨thA 141 257 v D.op.length (D.op.map opR).flatten, by simp [dkT], hxy⟩
    have := h.s.lt key
    omega
theorem DkR.blk {K1 : AHeap} {i : Nat} {x : List UInt8} (h : DkR K b sb v ab D) (k : Keeps K K1) (hi : i < D.bl.length) :
    (blR D.bl).flatten.take (i * 256) ++ cellsOf x ++ (blR D.bl).flatten.drop (i * 256 + 256) = (blR (D.bl.set i x)).flatten ∧
    Upd (dkT b sb v ab D) (dkT b sb v ab ⟨D.bl.set i x, D.op, D.st, D.ar, D.off⟩) K (K1.set sb (.cells true false 256 (blR (D.bl.set i x)).flatten 139)) := by
  have hl : sb < K1.n := Nat.lt_of_lt_of_le (AHeap.get_lt h.gs) k.n
  refine ⟨by rw [flat_set (blR_len h.ok.b) i (by simpa [blR] using hi), blR_set], ?_⟩
  have e : dkC sb v ab ⟨D.bl.set i x, D.op, D.st, D.ar, D.off⟩ = dkC sb v ab D := by simp [dkC]
  simp only [dkT, e]
  exact Upd.next (l := [_]) (t' := thB sb (.cells true false 256 (blR (D.bl.set i x)).flatten 139)) (Upd.keeps h.s k) (Chg.set K1 hl _) (AHeap.get_set_same (k.at_ h.gs) _) (by simp [thB])
theorem DkR.opn {K1 : AHeap} {v' : Value} {D' : Dk} (h : DkR K b sb v ab D) (c : Chg (blkL v) K K1) (hb : D'.bl = D.bl) (hr : D'.ar = D.ar) (hp : AP K1 141 257 v' D'.op.length (D'.op.map opR).flatten) (hf : ∀ y ∈ blkL v', y ∈ blkL v ∨ K.n ≤ y) :
    Upd (dkT b sb v ab D) (dkT b sb v' ab D') K (K1.set b (.cells true false 5 (dkC sb v' ab D') 107)) := by
  have hl : b < K1.n := Nat.lt_of_lt_of_le h.lt c.n
  have u1 := Upd.next (l := [_, _]) (t' := thA 141 257 v' D'.op.length (D'.op.map opR).flatten) (Upd.refl h.s) c hp (fun y hy => by
    rcases hf y hy with h1 | h1
    · exact .inl h1
    · exact .inr (.inl h1))
  have gb : K1.get b = some (.cells true false 5 (dkC sb v ab D) 107) := u1.sep.get 0 rfl
  have u2 := Upd.next (l := []) (t' := thB b (.cells true false 5 (dkC sb v' ab D') 107)) u1 (Chg.set K1 hl _) (AHeap.get_set_same gb _) (by simp [thB])
  simp only [dkT, hb, hr]
  exact u2
end
end Go.AM.Fd

set_option maxRecDepth 100000
set_option maxHeartbeats 0
namespace Go.AM.F
def Z256G : List Value := List.replicate 256 (.int .u8 0)
def Z257G : List Value := [(.int .i64 0)] ++ List.replicate 256 (.int .u8 0)
def zclG : TypeId → List Value
 | 139 => Z256G
 | 107 => [(.slice none 0 0), (.slice none 0 0), (.int .i64 0), (.pointer none), (.bool false)]
 | 111 => [(.slice none 0 0), (.slice none 0 0), (.int .i64 0), (.bool false), (.int .i64 0), (.bool false)]
 | 29 => [(.pointer none)]
 | 30 => [(.int .i64 0)]
 | 116 => [(.pointer none), (.int .i64 0), (.int .i64 0), (.slice none 0 0), (.int .i64 0)]
 | 114 => [(.int .i64 0), (.int .i64 0)]
 | 124 => [(.int .i64 0), (.slice none 0 0)]
 | 133 => [(.pointer none), (.int .i64 0), (.int .i64 0), (.slice none 0 0), (.int .i64 0)]
 | 141 => Z257G
 | 143 => [(.int .i64 0), (.string ByteArray.empty)]
 | _ => []
def zvlG : TypeId → Value
 | 114 => (.agg #[(.int .i64 0), (.int .i64 0)])
 | _ => undef
def zklG : TypeId → List Nat
 | _ => []
def zrlG : Nat → TypeId → List Value
 | 1, 9 => [(.string ByteArray.empty)]
 | 1, 5 => [(.int .u8 0)]
 | 1, 38 => [(.slice none 0 0)]
 | _, _ => []
noncomputable def f11 : AFunc := by
 refine (fun (_ : Cz zclG zvlG zklG zrlG Go.Proofs.Tryz.prog 0 [0, 2] 11 ?a) => ?a) ?h
 case h =>
 intro zc zv zk zr hc hv hk hr
 conv => lhs; cbv; try simp only [hc, hv, hk, hr, zclG, zvlG, zklG, zrlG]
theorem f11_ok : compF Go.Proofs.Tryz.prog 0 [0, 2] 11 = some f11 := by kernel_rfl
theorem f11_n : argsOK Go.Proofs.Tryz.prog 11 1 = true := by kernel_rfl
noncomputable def f12 : AFunc := by
 refine (fun (_ : Cz zclG zvlG zklG zrlG Go.Proofs.Tryz.prog 0 [0, 2, 3, 4, 13] 12 ?a) => ?a) ?h
 case h =>
 intro zc zv zk zr hc hv hk hr
 conv => lhs; cbv; try simp only [hc, hv, hk, hr, zclG, zvlG, zklG, zrlG]
theorem f12_ok : compF Go.Proofs.Tryz.prog 0 [0, 2, 3, 4, 13] 12 = some f12 := by kernel_rfl
theorem f12_n : argsOK Go.Proofs.Tryz.prog 12 1 = true := by kernel_rfl
noncomputable def f13 : AFunc := by
 refine (fun (_ : Cz zclG zvlG zklG zrlG Go.Proofs.Tryz.prog 0 [0, 2, 3, 4, 5, 6, 7, 9, 10, 11, 12, 13, 14, 15, 18, 22, 28, 29, 62, 80, 82, 89, 93, 94, 95, 111, 125, 126, 131] 13 ?a) => ?a) ?h
 case h =>
 intro zc zv zk zr hc hv hk hr
 have e0A := (rfl : rfA Go.Proofs.Tryz.prog 13 0 = rfA Go.Proofs.Tryz.prog 13 0); conv at e0A => rhs; cbv
 have e0B := (rfl : rfB Go.Proofs.Tryz.prog 13 0 = rfB Go.Proofs.Tryz.prog 13 0); conv at e0B => rhs; cbv
 conv => lhs; cbv; try simp only [hc, hv, hk, hr, zclG, zvlG, zklG, zrlG]; simp only [← e0A, ← e0B]
theorem f13_ok : compF Go.Proofs.Tryz.prog 0 [0, 2, 3, 4, 5, 6, 7, 9, 10, 11, 12, 13, 14, 15, 18, 22, 28, 29, 62, 80, 82, 89, 93, 94, 95, 111, 125, 126, 131] 13 = some f13 := by kernel_rfl
theorem f13_n : argsOK Go.Proofs.Tryz.prog 13 1 = true := by kernel_rfl
noncomputable def f13r0a : ACode := by
 refine (fun (_ : CzC zclG zvlG zklG zrlG Go.Proofs.Tryz.prog 0 133 [0, 2, 3, 4, 5, 6, 7, 9, 10, 11, 12, 13, 14, 15, 18, 22, 28, 29, 62, 80, 82, 89, 93, 94, 95, 111, 125, 126, 131] (rfA Go.Proofs.Tryz.prog 13 0) ?a) => ?a) ?h
 case h => intro zc zv zk zr hc hv hk hr; conv => lhs; cbv; try simp only [hc, hv, hk, hr, zclG, zvlG, zklG, zrlG]
theorem f13r0a_ok : compC Go.Proofs.Tryz.prog 0 133 [0, 2, 3, 4, 5, 6, 7, 9, 10, 11, 12, 13, 14, 15, 18, 22, 28, 29, 62, 80, 82, 89, 93, 94, 95, 111, 125, 126, 131] (rfA Go.Proofs.Tryz.prog 13 0) = some f13r0a := by kernel_rfl
noncomputable def f13r0b : ACode := by
 refine (fun (_ : CzC zclG zvlG zklG zrlG Go.Proofs.Tryz.prog 0 133 [0, 2, 3, 4, 5, 6, 7, 9, 10, 11, 12, 13, 14, 15, 18, 22, 28, 29, 62, 80, 82, 89, 93, 94, 95, 111, 125, 126, 131] (rfB Go.Proofs.Tryz.prog 13 0) ?a) => ?a) ?h
 case h => intro zc zv zk zr hc hv hk hr; conv => lhs; cbv; try simp only [hc, hv, hk, hr, zclG, zvlG, zklG, zrlG]
theorem f13r0b_ok : compC Go.Proofs.Tryz.prog 0 133 [0, 2, 3, 4, 5, 6, 7, 9, 10, 11, 12, 13, 14, 15, 18, 22, 28, 29, 62, 80, 82, 89, 93, 94, 95, 111, 125, 126, 131] (rfB Go.Proofs.Tryz.prog 13 0) = some f13r0b := by kernel_rfl
theorem f13r0_n : (noRF (rfA Go.Proofs.Tryz.prog 13 0) && noRF (rfB Go.Proofs.Tryz.prog 13 0)) = true := by kernel_rfl
noncomputable def f14 : AFunc := by
 refine (fun (_ : Cz zclG zvlG zklG zrlG Go.Proofs.Tryz.prog 0 [0, 2, 3, 4, 6, 8, 9, 10, 11, 12, 13, 14, 16, 17, 18, 19, 21, 28, 32, 60, 73, 81, 86, 90, 105, 123, 140, 157] 14 ?a) => ?a) ?h
 case h =>
 intro zc zv zk zr hc hv hk hr
 conv => lhs; cbv; try simp only [hc, hv, hk, hr, zclG, zvlG, zklG, zrlG]
theorem f14_ok : compF Go.Proofs.Tryz.prog 0 [0, 2, 3, 4, 6, 8, 9, 10, 11, 12, 13, 14, 16, 17, 18, 19, 21, 28, 32, 60, 73, 81, 86, 90, 105, 123, 140, 157] 14 = some f14 := by kernel_rfl
theorem f14_n : argsOK Go.Proofs.Tryz.prog 14 1 = true := by kernel_rfl
noncomputable def f17 : AFunc := by
 refine (fun (_ : Cz zclG zvlG zklG zrlG Go.Proofs.Tryz.prog 0 [0, 1, 3, 5, 10] 17 ?a) => ?a) ?h
 case h =>
 intro zc zv zk zr hc hv hk hr
 conv => lhs; cbv; try simp only [hc, hv, hk, hr, zclG, zvlG, zklG, zrlG]
theorem f17_ok : compF Go.Proofs.Tryz.prog 0 [0, 1, 3, 5, 10] 17 = some f17 := by kernel_rfl
theorem f17_n : argsOK Go.Proofs.Tryz.prog 17 2 = true := by kernel_rfl
noncomputable def f18 : AFunc := by
 refine (fun (_ : Cz zclG zvlG zklG zrlG Go.Proofs.Tryz.prog 0 [0, 1] 18 ?a) => ?a) ?h
 case h =>
 intro zc zv zk zr hc hv hk hr
 conv => lhs; cbv; try simp only [hc, hv, hk, hr, zclG, zvlG, zklG, zrlG]
theorem f18_ok : compF Go.Proofs.Tryz.prog 0 [0, 1] 18 = some f18 := by kernel_rfl
theorem f18_n : argsOK Go.Proofs.Tryz.prog 18 2 = true := by kernel_rfl
noncomputable def f19 : AFunc := by
 refine (fun (_ : Cz zclG zvlG zklG zrlG Go.Proofs.Tryz.prog 0 [0, 3] 19 ?a) => ?a) ?h
 case h =>
 intro zc zv zk zr hc hv hk hr
 conv => lhs; cbv; try simp only [hc, hv, hk, hr, zclG, zvlG, zklG, zrlG]
theorem f19_ok : compF Go.Proofs.Tryz.prog 0 [0, 3] 19 = some f19 := by kernel_rfl
theorem f19_n : argsOK Go.Proofs.Tryz.prog 19 1 = true := by kernel_rfl
noncomputable def f20 : AFunc := by
 refine (fun (_ : Cz zclG zvlG zklG zrlG Go.Proofs.Tryz.prog 0 [0] 20 ?a) => ?a) ?h
 case h =>
 intro zc zv zk zr hc hv hk hr
 conv => lhs; cbv; try simp only [hc, hv, hk, hr, zclG, zvlG, zklG, zrlG]
theorem f20_ok : compF Go.Proofs.Tryz.prog 0 [0] 20 = some f20 := by kernel_rfl
theorem f20_n : argsOK Go.Proofs.Tryz.prog 20 1 = true := by kernel_rfl
noncomputable def f21 : AFunc := by
 refine (fun (_ : Cz zclG zvlG zklG zrlG Go.Proofs.Tryz.prog 0 [0, 1, 4, 5, 6, 8, 16, 23, 24, 25, 26, 33, 40] 21 ?a) => ?a) ?h
 case h =>
 intro zc zv zk zr hc hv hk hr
 conv => lhs; cbv; try simp only [hc, hv, hk, hr, zclG, zvlG, zklG, zrlG]
theorem f21_ok : compF Go.Proofs.Tryz.prog 0 [0, 1, 4, 5, 6, 8, 16, 23, 24, 25, 26, 33, 40] 21 = some f21 := by kernel_rfl
theorem f21_n : argsOK Go.Proofs.Tryz.prog 21 2 = true := by kernel_rfl
noncomputable def f22 : AFunc := by
 refine (fun (_ : Cz zclG zvlG zklG zrlG Go.Proofs.Tryz.prog 0 [0, 1, 4, 5, 6, 14, 24, 37, 44] 22 ?a) => ?a) ?h
 case h =>
 intro zc zv zk zr hc hv hk hr
 conv => lhs; cbv; try simp only [hc, hv, hk, hr, zclG, zvlG, zklG, zrlG]
theorem f22_ok : compF Go.Proofs.Tryz.prog 0 [0, 1, 4, 5, 6, 14, 24, 37, 44] 22 = some f22 := by kernel_rfl
theorem f22_n : argsOK Go.Proofs.Tryz.prog 22 2 = true := by kernel_rfl
end Go.AM.F
