/-
  How often walks step from a place to another, and how many edges lead there. No program here.
-/
import Derived.Test.YtcehdpeeaogpiaaPMap
import Derived.Test.YtcehdpeeaogpiaaWCost
namespace Go.Proofs.Ytcehdpeeaogpiaa
set_option linter.unusedSimpArgs false
set_option linter.unusedVariables false
/-- steps among the first k -/
def stC (p : List Int) (k : Nat) (u v : Int) : Int := ((List.range k).countP fun i => decide (p.getD i 0 = u) && decide (p.getD (i + 1) 0 = v) : Nat)
def edC (es : List Ed) (k : Nat) (u v : Int) : Int := ((es.take k).countP fun e => decide (e.u = u) && decide (e.v = v) : Nat)
theorem stC_zero (p : List Int) : stC p 0 = fun _ _ => 0 := by funext u v; simp [stC]
theorem edC_zero (es : List Ed) : edC es 0 = fun _ _ => 0 := by funext u v; simp [edC]
theorem stC_step (p : List Int) (k : Nat) (u v : Int) : stC p (k + 1) u v = stC p k u v + (if u = p.getD k 0 ∧ v = p.getD (k + 1) 0 then 1 else 0) := by
  unfold stC
  rw [List.range_succ, List.countP_append]
  by_cases h : u = p.getD k 0 ∧ v = p.getD (k + 1) 0
  · obtain ⟨rfl, rfl⟩ := h
    rw [if_pos ⟨rfl, rfl⟩, List.countP_cons]
    simp only [decide_true, Bool.and_self, if_true, List.countP_nil]
    omega
  · rw [if_neg h, List.countP_cons, if_neg]
    · simp
    · simp only [Bool.and_eq_true, decide_eq_true_eq]
      rintro ⟨rfl, rfl⟩
      exact h ⟨rfl, rfl⟩
theorem edC_step {es : List Ed} {k : Nat} (hk : k < es.length) (u v : Int) : edC es (k + 1) u v = edC es k u v + (if u = es[k].u ∧ v = es[k].v then 1 else 0) := by
  unfold edC
  rw [List.take_succ_eq_append_getElem hk, List.countP_append]
  by_cases h : u = es[k].u ∧ v = es[k].v
  · obtain ⟨rfl, rfl⟩ := h
    rw [if_pos ⟨rfl, rfl⟩, List.countP_cons]
    simp only [decide_true, Bool.and_self, if_true, List.countP_nil]
    omega
  · rw [if_neg h, List.countP_cons, if_neg]
    · simp
    · simp only [Bool.and_eq_true, decide_eq_true_eq]
      rintro ⟨h1, h2⟩
      exact h ⟨h1.symm, h2.symm⟩
theorem stC_bd (p : List Int) (k : Nat) (u v : Int) : 0 ≤ stC p k u v ∧ stC p k u v ≤ k := by
  have := List.countP_le_length (p := fun i => decide (p.getD i 0 = u) && decide (p.getD (i + 1) 0 = v)) (l := List.range k)
  rw [List.length_range] at this
  unfold stC
  omega
theorem edC_bd (es : List Ed) (k : Nat) (u v : Int) : 0 ≤ edC es k u v ∧ edC es k u v ≤ k := by
  have := List.countP_le_length (p := fun e : Ed => decide (e.u = u) && decide (e.v = v)) (l := es.take k)
  have h2 : (es.take k).length ≤ k := by simp; omega
  unfold edC
  omega
/-- all steps of a walk -/
def stA (p : List Int) (u v : Int) : Int := stC p (p.length - 1) u v
/-- one more step in a sum -/
theorem sum_step (g : Int → Int → Int) (p : List Int) (k : Nat) : upP (fun u v => g u v + stC p k u v) (p.getD k 0) (p.getD (k + 1) 0) = fun u v => g u v + stC p (k + 1) u v := by
  funext u v
  unfold upP
  rw [stC_step]
  by_cases h : u = p.getD k 0 ∧ v = p.getD (k + 1) 0
  · obtain ⟨rfl, rfl⟩ := h
    rw [if_pos ⟨rfl, rfl⟩, if_pos ⟨rfl, rfl⟩]
    show g _ _ + stC p k _ _ + 1 = g _ _ + (stC p k _ _ + 1)
    omega
  · rw [if_neg h, if_neg h]
    show g _ _ + stC p k _ _ = g _ _ + (stC p k _ _ + 0)
    omega
theorem ed_up {es : List Ed} {k : Nat} (hk : k < es.length) : upP (edC es k) es[k].u es[k].v = edC es (k + 1) := by
  funext u v
  unfold upP
  rw [edC_step hk]
  by_cases h : u = es[k].u ∧ v = es[k].v
  · obtain ⟨rfl, rfl⟩ := h
    rw [if_pos ⟨rfl, rfl⟩, if_pos ⟨rfl, rfl⟩]
  · rw [if_neg h, if_neg h]
    omega
/-- a walk that is right -/
def Walked (n : Nat) (p : List Int) : Prop := 0 < p.length ∧ p.length ≤ 100 ∧ ∀ x ∈ p, 0 ≤ x ∧ x < n
theorem wcost_walked {n : Nat} {es : List Ed} {p : List Int} (h : (wcost (n : Int) es p).2 = 0) : netErr (n : Int) es = 0 ∧ Walked n p := by
  unfold wcost at h
  split at h
  · exact absurd h (by assumption)
  · rename_i h0
    split at h
    · cases h
    · rename_i h1
      split at h
      · cases h
      · rename_i h2
        split at h
        · cases h
        · rename_i h3
          refine ⟨Classical.byContradiction h0, by omega, by omega, fun x hx => ?_⟩
          simp only [Bool.not_eq_true, List.any_eq_false, badAt, decide_eq_true_eq] at h3
          have := h3 x hx
          omega
theorem walked_at {n : Nat} {p : List Int} (h : Walked n p) {k : Nat} (hk : k < p.length) : 0 ≤ p.getD k 0 ∧ p.getD k 0 < n := by
  rw [List.getD_eq_getElem?_getD, List.getElem?_eq_getElem hk, Option.getD_some]
  exact h.2.2 _ (List.getElem_mem hk)
theorem stA_out {n : Nat} {p : List Int} (h : Walked n p) {u v : Int} (hu : ¬ (0 ≤ u ∧ u < n ∧ 0 ≤ v ∧ v < n)) : stA p u v = 0 := by
  unfold stA stC
  rw [Int.natCast_eq_zero, List.countP_eq_zero]
  intro i hi
  have hi' := List.mem_range.1 hi
  have h1 := walked_at h (k := i) (by omega)
  have h2 := walked_at h (k := i + 1) (by omega)
  simp only [Bool.and_eq_true, decide_eq_true_eq]
  rintro ⟨rfl, rfl⟩
  exact hu ⟨h1.1, h1.2, h2.1, h2.2⟩
/-- do two walks share no edge? -/
def ApartA (n : Nat) (es : List Ed) (a b : List Int) : Prop := ∀ u v : Nat, u < n → v < n → stA a u v + stA b u v ≤ edC es es.length u v
end Go.Proofs.Ytcehdpeeaogpiaa
