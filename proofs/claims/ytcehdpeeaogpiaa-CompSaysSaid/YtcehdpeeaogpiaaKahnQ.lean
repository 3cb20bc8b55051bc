/-
  What a heap of places without edges to them hands out: the order. No program here.
-/
import Derived.Test.YtcehdpeeaogpiaaOrdB
import Derived.Test.YtcehdpeeaogpiaaDijkO
namespace Go.Proofs.Ytcehdpeeaogpiaa
set_option linter.unusedSimpArgs false
set_option linter.unusedVariables false
/-- what is left: rising, in bounds; to all else no edge leads from what is left -/
structure KInv (E : List NE) (n : Nat) (rem : List Nat) : Prop where
  sorted : rem.Pairwise (· < ·)
  lt : ∀ v ∈ rem, v < n
  out0 : ∀ v, v < n → v ∉ rem → cnt E rem v = 0
theorem KInv.nodup {E : List NE} {n : Nat} {rem : List Nat} (h : KInv E n rem) : rem.Nodup := h.sorted.imp (fun h => Nat.ne_of_lt h)
theorem cnt_le {E : List NE} {rem rem' : List Nat} (hs : ∀ x ∈ rem', x ∈ rem) (v : Nat) (h : cnt E rem v = 0) : cnt E rem' v = 0 := by
  unfold cnt at h ⊢
  rw [List.length_eq_zero_iff, List.filter_eq_nil_iff] at h ⊢
  intro e he hc
  simp only [Bool.and_eq_true, decide_eq_true_eq] at hc
  exact h e he (by simp only [Bool.and_eq_true, decide_eq_true_eq]; exact ⟨hc.1, hs _ hc.2⟩)
theorem cnt_pos {E : List NE} {rem : List Nat} {v : Nat} {e : NE} (he : e ∈ E) (hv : e.v = v) (hu : e.u ∈ rem) : 0 < cnt E rem v := by
  unfold cnt
  exact List.length_pos_of_mem (List.mem_filter.2 ⟨he, by simp [hv, hu]⟩)
theorem cnt_bd (E : List NE) (rem : List Nat) (v : Nat) : cnt E rem v ≤ E.length := List.length_filter_le _ _
theorem k_start (E : List NE) (n : Nat) : KInv E n (List.range n) := by
  refine ⟨List.pairwise_lt_range, fun v hv => List.mem_range.1 hv, fun v hv hn => absurd (List.mem_range.2 hv) hn⟩
theorem k_pop {E : List NE} {n : Nat} {rem : List Nat} (h : KInv E n rem) (hE : ∀ e ∈ E, e.v < n) {m : Nat} (hm : m ∈ rem) (h0 : cnt E rem m = 0) : KInv E n (rem.erase m) ∧ ∀ e ∈ E, e.u = m → e.v ∈ rem.erase m := by
  have hsub : ∀ x ∈ rem.erase m, x ∈ rem := fun x hx => List.mem_of_mem_erase hx
  refine ⟨⟨h.sorted.sublist List.erase_sublist, fun v hv => h.lt v (hsub v hv), fun v hv hn => ?_⟩, fun e he hu => ?_⟩
  · by_cases hvm : v = m
    · subst hvm; exact cnt_le hsub v h0
    · exact cnt_le hsub v (h.out0 v hv (fun hc => hn ((h.nodup.mem_erase_iff).2 ⟨hvm, hc⟩)))
  · have hp := cnt_pos he rfl (hu ▸ hm : e.u ∈ rem)
    refine (h.nodup.mem_erase_iff).2 ⟨?_, ?_⟩
    · intro hc
      rw [hc, h0] at hp
      omega
    · exact Classical.byContradiction fun hc => by
        rw [h.out0 e.v (hE e he) hc] at hp
        omega
def freeL (A : Nat → Int) (rem : List Nat) : List Nat := rem.filter fun v => decide (A v = 0)
theorem freeL_mem {A : Nat → Int} {rem : List Nat} {v : Nat} : v ∈ freeL A rem ↔ v ∈ rem ∧ A v = 0 := by simp [freeL]
theorem k_find {E : List NE} {n f : Nat} {rem : List Nat} {A : Nat → Int} (h : KInv E n rem) (hA : ∀ v, v < n → A v = (cnt E rem v : Int)) {m : Nat} (hm : m ∈ freeL A rem) (hl : ∀ x ∈ freeL A rem, m ≤ x) :
    kahnG (ldE E) (f + 1) rem = m :: kahnG (ldE E) f (rem.erase m) ∧ cnt E rem m = 0 := by
  obtain ⟨h1, h2⟩ := freeL_mem.1 hm
  have h3 : cnt E rem m = 0 := by have := hA m (h.lt m h1); omega
  have hfree : ∀ v, freeG (ldE E) rem v = true ↔ cnt E rem v = 0 := fun v => freeV_cnt E rem v
  have hf : rem.find? (freeG (ldE E) rem) = some m := find_least h.sorted h1 ((hfree m).2 h3) (fun x hx hxf => hl x (freeL_mem.2 ⟨hx, by rw [hA x (h.lt x hx), (hfree x).1 hxf]; rfl⟩))
  refine ⟨?_, h3⟩
  show (match rem.find? (freeG (ldE E) rem) with | none => [] | some v => v :: kahnG (ldE E) f (rem.erase v)) = _
  rw [hf]
theorem k_none {E : List NE} {n f : Nat} {rem : List Nat} {A : Nat → Int} (h : KInv E n rem) (hA : ∀ v, v < n → A v = (cnt E rem v : Int)) (h0 : freeL A rem = []) : kahnG (ldE E) f rem = [] := by
  refine kahnG_no (fun j hj => ?_)
  have hfree : ∀ v, freeG (ldE E) rem v = true ↔ cnt E rem v = 0 := fun v => freeV_cnt E rem v
  cases hh : freeG (ldE E) rem rem[j] with
  | false => rfl
  | true =>
    have h1 := (hfree _).1 hh
    have hm := List.getElem_mem hj
    have : rem[j] ∈ freeL A rem := freeL_mem.2 ⟨hm, by rw [hA _ (h.lt _ hm), h1]; rfl⟩
    rw [h0] at this
    cases this
theorem ln_mem {l : List Nat} {x : Int} : x ∈ LN l ↔ ∃ v, v ∈ l ∧ x = (v : Int) := by
  simp only [LN, List.mem_map]
  exact ⟨fun ⟨v, h1, h2⟩ => ⟨v, h1, h2.symm⟩, fun ⟨v, h1, h2⟩ => ⟨v, h1, h2.symm⟩⟩
theorem freeL_erase {A : Nat → Int} {rem : List Nat} (hn : rem.Nodup) (m : Nat) (hm : A m = 0) : freeL A (rem.erase m) = (freeL A rem).erase m := by
  unfold freeL
  rw [List.Nodup.erase_eq_filter hn, List.Nodup.erase_eq_filter (hn.sublist List.filter_sublist), List.filter_filter, List.filter_filter]
  congr 1
  funext v
  exact Bool.and_comm _ _
theorem h_pop {A : Nat → Int} {rem : List Nat} {X : List Int} (hn : rem.Nodup) {m : Nat} (hm : m ∈ freeL A rem) (h : ((m : Int) :: X).Perm (LN (freeL A rem))) : X.Perm (LN (freeL A (rem.erase m))) := by
  rw [freeL_erase hn m (freeL_mem.1 hm).2]
  have h1 : (LN (freeL A rem)).Perm ((m : Int) :: LN ((freeL A rem).erase m)) := (List.perm_cons_erase hm).map _
  exact (h.trans h1).cons_inv
theorem h_keep {A : Nat → Int} {rem : List Nat} {u : Nat} {x : Int} (h1 : A u ≠ 0) (h2 : x ≠ 0) : freeL (upz A u x) rem = freeL A rem := by
  unfold freeL
  refine List.filter_congr fun v _ => ?_
  by_cases hv : v = u
  · subst hv; rw [upz_same]; simp [h1, h2]
  · rw [upz_other _ _ hv]
theorem h_push {A : Nat → Int} {rem : List Nat} (hn : rem.Nodup) {u : Nat} (hu : u ∈ rem) (h1 : A u ≠ 0) {X : List Int} (h : X.Perm (LN (freeL A rem))) : (X ++ [(u : Int)]).Perm (LN (freeL (upz A u 0) rem)) := by
  have h2 : (freeL (upz A u 0) rem).Perm (u :: freeL A rem) := by
    have hmem : u ∈ freeL (upz A u 0) rem := freeL_mem.2 ⟨hu, upz_same _ _ _⟩
    refine (List.perm_cons_erase hmem).trans (List.Perm.cons u ?_)
    have hnf : (freeL (upz A u 0) rem).Nodup := hn.sublist List.filter_sublist
    rw [List.Nodup.erase_eq_filter hnf]
    unfold freeL
    rw [List.filter_filter]
    refine List.Perm.of_eq (List.filter_congr fun v _ => ?_)
    by_cases hv : v = u
    · subst hv; simp [h1]
    · rw [upz_other _ _ hv]; simp [hv]
  have h3 : (X ++ [(u : Int)]).Perm ((u : Int) :: X) := List.perm_append_singleton _ _
  refine h3.trans ((h.cons _).trans ?_)
  have h4 := (h2.map (fun (v : Nat) => (v : Int))).symm
  exact h4
/-- edges from m to v, by number -/
theorem todo_count {K : Int} {n : Nat} {es : List Ed} (hR : RightK K n es) (m v : Nat) : (todoOf es m 0).countP (fun e => decide (e.v = v)) = ((nes es).filter fun e => decide (e.v = v) && decide (e.u = m)).length := by
  have key : ∀ k, k ≤ es.length → ((outIdx es m k).map (edAt es)).countP (fun e => decide (e.v = v)) = ((nes (es.take k)).filter fun e => decide (e.v = v) && decide (e.u = m)).length := by
    intro k
    induction k with
    | zero => intro _; simp [outIdx, nes]
    | succ k ih =>
      intro hk
      obtain ⟨a, b, h1, h2, h3, h4, h5⟩ := right_edgeK hR k (by omega)
      rw [outIdx_succ, List.map_append, List.countP_append, ih (by omega), h5.2.2, List.filter_append, List.length_append]
      congr 1
      have e : (es.map (·.u)).getD k (-1) = (a : Int) := by simp [List.getD, List.getElem?_eq_getElem (show k < es.length by omega), h1]
      rw [e]
      by_cases h : a = m
      · subst h
        rw [if_pos rfl]
        simp only [List.map_cons, List.map_nil]
        rw [edAt_is (show k < es.length by omega) h1 h2]
        by_cases hv : b = v <;> simp [hv]
      · rw [if_neg (by omega)]
        simp [h]
  have := key es.length (Nat.le_refl _)
  rw [List.take_length] at this
  unfold todoOf
  rw [List.drop_zero]
  exact this
end Go.Proofs.Ytcehdpeeaogpiaa
