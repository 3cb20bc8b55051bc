/-
  The reference's list of waiting places against what waits (Focal). No program here.
-/
import Derived.Test.YtcehdpeeaogpiaaFocX
import Derived.Test.YtcehdpeeaogpiaaStarW
namespace Go.Proofs.Ytcehdpeeaogpiaa
set_option linter.unusedSimpArgs false
set_option linter.unusedVariables false
/-- costs, ways, order, as a search by key keeps them -/
def toSR (s : FR) : SR := ⟨s.cost, s.pred, s.ord⟩
structure WF (n : Nat) (s : FR) (ws : List Nat) : Prop where
  nodup : ws.Nodup
  iff : ∀ u, u ∈ ws ↔ u < n ∧ s.wt u = true
theorem wf_len {n : Nat} {s : FR} {ws : List Nat} (h : WF n s ws) : ws.length ≤ n := nodup_shortS n ws h.nodup (fun x hx => ((h.iff x).1 hx).1)
theorem wf_look {n : Nat} {s : FR} {ws : List Nat} (h : WF n s ws) (u : Nat) : WF n (flook s u) (ws.filter fun x => decide (x ≠ u)) := by
  refine ⟨h.nodup.sublist List.filter_sublist, fun x => ?_⟩
  simp only [List.mem_filter, decide_eq_true_eq, flook, h.iff x]
  by_cases hx : x = u
  · subst hx; simp [upz_same]
  · rw [upz_other _ _ hx]; simp [hx]
theorem wf_in {n : Nat} {s : FR} {ws : List Nat} {h : Nat → Int} {u : Nat} {e : NE} (hw : WF n s ws) (hv : e.v < n) (hin : e.v ∈ ws) : WF n (fedge h u s e) ws := by
  refine ⟨hw.nodup, fun x => ?_⟩
  rw [hw.iff x]
  unfold fedge
  split
  · by_cases hx : x = e.v
    · subst hx
      have := ((hw.iff e.v).1 hin).2
      simp [upz_same, this]
    · simp only [upz_other _ _ hx]
  · rfl
theorem wf_add {n : Nat} {s : FR} {ws : List Nat} {h : Nat → Int} {u : Nat} {e : NE} (hw : WF n s ws) (hv : e.v < n) (hin : e.v ∉ ws) (hc : e.u = u ∧ h e.v ≠ FAR ∧ s.cost u + e.c < s.cost e.v) : WF n (fedge h u s e) (ws ++ [e.v]) := by
  refine ⟨List.nodup_append.2 ⟨hw.nodup, by simp, fun a ha b hb => by simp at hb; subst hb; exact fun he => hin (he ▸ ha)⟩, fun x => ?_⟩
  unfold fedge
  rw [if_pos hc]
  simp only [List.mem_append, List.mem_singleton, hw.iff x]
  by_cases hx : x = e.v
  · subst hx; simp [upz_same, hv]
  · rw [upz_other _ _ hx]; simp [hx]
theorem wf_not {n : Nat} {s : FR} {ws : List Nat} {h : Nat → Int} {u : Nat} {e : NE} (hw : WF n s ws) (hc : ¬ (e.u = u ∧ h e.v ≠ FAR ∧ s.cost u + e.c < s.cost e.v)) : WF n (fedge h u s e) ws := by
  unfold fedge
  rw [if_neg hc]
  exact hw
end Go.Proofs.Ytcehdpeeaogpiaa
