/- Part of the proof. -/
import Derived.Test.YtmjhhgknjhegiaaGreatGPN06
set_option linter.unusedSimpArgs false
set_option linter.unusedVariables false
set_option maxRecDepth 100000
set_option linter.unusedSimpArgs false
set_option linter.unusedVariables false
namespace Go.AM.TPn
open Go.Proofs Go.AM.F Go.AM.Ev
theorem vl_ints {σ σ2 : Sg} : ∀ {l l' : List Value}, (∀ v ∈ l, ∃ k n, v = .int k n) → VL σ l l' → VL σ2 l l'
 | [], _, _, h => by cases h; exact .nil
 | v :: l, _, hl, h => by
  cases h with
  | cons h t =>
   obtain ⟨k, n, rfl⟩ := hl v (by simp)
   rw [h.int_inv]
   exact .cons (.int k n) (vl_ints (fun x hx => hl x (by simp [hx])) t)
theorem vr_agg {σ σ2 : Sg} {l l2 : List Value} {v' : Value} (h : VR σ (.agg l.toArray) v') (hv : ∀ l', VL σ l l' → VL σ2 l2 l') : VR σ2 (.agg l2.toArray) v' := by
 cases h with
 | agg _ xs' h1 h2 =>
  have := VR.agg_of (hv _ (VL.of_arr h1 h2))
  simpa using this
theorem ck26 : ckT Tryz.prog 10 26 = some [.int .u64, .int .u32, .int .u32, .sl 24] := by kernel_rfl
theorem ck29 : ckT Tryz.prog 10 29 = some ([.int .u64, .int .u64, .int .u64] ++ List.replicate 64 (.int .u8) ++ [.int .u32]) := by kernel_rfl
theorem ag26 : isAggT Tryz.prog 26 = some true := by kernel_rfl
theorem ag29 : isAggT Tryz.prog 29 = some true := by kernel_rfl
theorem fits_ints {G : Gf} : ∀ {ks : List IntKind} {cs : List Value}, fitsL Tryz.prog G (ks.map CKd.int) cs → ∃ f : Nat → Int, cs = (ks.zipIdx).map fun p => .int p.1 (f p.2)
 | ks, cs, h => by
  suffices H : ∀ (ks : List IntKind) (cs : List Value) (m : Nat), fitsL Tryz.prog G (ks.map CKd.int) cs → ∃ f : Nat → Int, cs = (ks.zipIdx m).map fun p => .int p.1 (f p.2) from H ks cs 0 h
  intro ks
  induction ks with
  | nil => intro cs m h; exact ⟨fun _ => 0, h.end_⟩
  | cons k ks ih =>
   intro cs m h
   obtain ⟨v, vs, rfl, ⟨x, rfl, _⟩, h3⟩ := fitsL.inv h
   obtain ⟨f, rfl⟩ := ih vs (m + 1) h3
   refine ⟨fun i => if i = m then x else f i, ?_⟩
   simp only [List.zipIdx_cons, List.map_cons, if_true]
   congr 1
   refine List.map_congr_left fun p hp => ?_
   have : m + 1 ≤ p.2 := by
    have := List.le_snd_of_mem_zipIdx hp
    omega
   rw [if_neg (by omega)]
theorem sC_of {G : Gf} {cs : List Value} (h : AR Tryz.prog G 29 cs) : ∃ f, cs = sC f := by
 have h1 := h.flat ck29
 have e : ([.int .u64, .int .u64, .int .u64] ++ List.replicate 64 (.int .u8) ++ [.int .u32] : List CKd) = ([.u64, .u64, .u64] ++ List.replicate 64 .u8 ++ [.u32] : List IntKind).map CKd.int := rfl
 rw [e] at h1
 obtain ⟨f, rfl⟩ := fits_ints h1
 exact ⟨f, rfl⟩
theorem sC_ints (f : Nat → Int) : ∀ v ∈ sC f, ∃ k n, v = .int k n := by
 intro v hv
 simp only [sC, List.mem_cons, List.not_mem_nil, or_false] at hv
 repeat' (first | (rcases hv with rfl | hv; exact ⟨_, _, rfl⟩) | (subst hv; exact ⟨_, _, rfl⟩))
theorem run0 (f : Nat → Int) (a b c : Int) (o : Option Addr) (n k : Nat) : ∃ H0', ARun Tryz.prog 0 3 [.agg [.int .u64 a, .int .u32 b, .int .u32 c, .slice o n k].toArray, .agg (sC f).toArray] ([AO.dead].foldl AHeap.alloc ⟨0, []⟩) (.bool true) H0' :=
 part_run (ng := 0) tab2_ok RT_ok (none_ev f a b c o n k) (by decide)
theorem dead0 : ∀ b, b < ([AO.dead].foldl AHeap.alloc ⟨0, []⟩).n → ([AO.dead].foldl AHeap.alloc ⟨0, []⟩).get b = some .dead := by
 intro b hb
 have e : ([AO.dead].foldl AHeap.alloc ⟨0, []⟩).n = 1 := rfl
 rw [e] at hb
 obtain rfl : b = 0 := by omega
 rfl
theorem pairNone_any {H : AHeap} (f : Nat → Int) (a b c : Int) (sv sv0 : Value) (o : Option Addr) (n k : Nat) (ρ : Nat → Nat) (e0 : sv0 = .slice o n k) (hs : ∀ σ v', VR σ sv v' → VR (ren 1 ρ σ) sv0 v') :
  ARun Tryz.prog 0 3 [.agg [.int .u64 a, .int .u32 b, .int .u32 c, sv].toArray, .agg (sC f).toArray] H (.bool true) H := by
 obtain ⟨H0', h⟩ := run0 f a b c o n k
 refine closed_ren ρ h dead0 fun σ args' hv => ?_
 have e : ([AO.dead].foldl AHeap.alloc ⟨0, []⟩).n = 1 := rfl
 rw [e]
 cases hv with
 | cons h1 hv =>
  cases hv with
  | cons h2 hv =>
   cases hv
   refine .cons (vr_agg h1 ?_) (.cons (vr_agg h2 ?_) .nil)
   · intro l' hl
     cases hl with
     | cons p1 hl =>
      cases hl with
      | cons p2 hl =>
       cases hl with
       | cons p3 hl =>
        cases hl with
        | cons p4 hl =>
         cases hl
         rw [p1.int_inv, p2.int_inv, p3.int_inv, ← e0]
         exact .cons (.int _ _) (.cons (.int _ _) (.cons (.int _ _) (.cons (hs σ _ p4) .nil)))
   · exact fun l' hl => vl_ints (sC_ints f) hl
theorem lawPairNone : ∀ (H : AHeap) (args : List Value), NoOwn H → AVs Tryz.prog H.get [26, 29] args → ∃ H', ARun Tryz.prog 0 3 args H (.bool true) H' := by
 intro H args _ ha
 match args, ha with
 | [x, y], ⟨h1, h2, _⟩ =>
  obtain ⟨ca, rfl⟩ := h1.2.1 ag26
  obtain ⟨cb, rfl⟩ := h2.2.1 ag29
  have r1 : AR Tryz.prog H.get 26 ca.toList := h1.1
  have r2 : AR Tryz.prog H.get 29 cb.toList := h2.1
  obtain ⟨f, hf⟩ := sC_of r2
  obtain ⟨v0, l0, q0, ⟨a, rfl, _⟩, f0⟩ := (r1.flat ck26).inv
  obtain ⟨v1, l1, rfl, ⟨b, rfl, _⟩, f1⟩ := f0.inv
  obtain ⟨v2, l2, rfl, ⟨c, rfl, _⟩, f2⟩ := f1.inv
  obtain ⟨sv, l3, rfl, f3, f4⟩ := f2.inv
  obtain rfl := f4.end_
  have ea : ca = [.int .u64 a, .int .u32 b, .int .u32 c, sv].toArray := by rw [← q0]
  have eb : cb = (sC f).toArray := by rw [← hf]
  subst ea eb
  have f3' : AR Tryz.prog H.get 24 [sv] := f3
  refine ⟨H, ?_⟩
  have no : ∀ {u}, Tryz.prog.underlying 24 = some u → ∃ e, u = .slice e := by
   intro u hu
   have : Tryz.prog.underlying 24 = some (.slice ((match Tryz.prog.underlying 24 with | some (.slice e) => e | _ => 0))) := by kernel_rfl
   rw [this] at hu; cases hu; exact ⟨_, rfl⟩
  generalize hl : [sv] = l at f3'
  cases f3' with
  | bool h => obtain ⟨_, h⟩ := no h; cases h
  | int h _ => obtain ⟨_, h⟩ := no h; cases h
  | str h _ => obtain ⟨_, h⟩ := no h; cases h
  | struct h _ _ => obtain ⟨_, h⟩ := no h; cases h
  | array h _ _ => obtain ⟨_, h⟩ := no h; cases h
  | nil _ =>
   cases hl
   exact pairNone_any f a b c _ (.slice none 0 0) none 0 0 (fun _ => 0) rfl (fun σ v' h => by cases h; exact .nilSl)
  | @zero _ _ x _ hx =>
   cases hl
   refine pairNone_any f a b c _ (.slice (some x) 0 0) (some x) 0 0 (fun _ => 0) rfl (fun σ v' h => ?_)
   cases h with
   | sl => simp at hx
   | sl0 => simp at hx
   | slz hx => exact .slz hx
  | @sl _ _ bb n k _ _ _ hk hn _ _ _ _ =>
   cases hl
   refine pairNone_any f a b c _ (slc 0 0 n k) (some ⟨0, 0, none⟩) n k (fun _ => bb) rfl (fun σ v' h => ?_)
   unfold slc at h ⊢
   cases h with
   | sl h1 h2 h3 => exact .sl (by unfold ren; rw [if_pos (by decide)]; exact h1) h2 h3
   | sl0 h1 => omega
   | slz hx => simp at hx
end Go.AM.TPn
