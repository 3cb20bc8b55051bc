/-
  Square tables that a call makes itself, row by row: one place stored, one row made. Conditions: places in bounds.
-/
import Derived.Test.YtdpbkhempgghaaaMk
import Derived.Test.YtdpbkhempgghaaaWarsh
namespace Go.Proofs.Ytdpbkhempgghaaa
open Go.RowKit

theorem Own.blockI' {α : Type} {enc : α → List Value} {sz : Nat} {e : TypeId} {w : World} {base : Nat} {a : Option Addr} {n c : Nat} {xs : List α} (h : Own enc sz e w base (.slice a n c) xs) (hn : 0 < n) : ∃ g, a = some ⟨g, 0, none⟩ ∧ base ≤ g ∧ g < w.heap.size := by
  rcases h.form with ⟨h1, h2⟩ | ⟨g, cap, h1, h2, h3, _⟩
  · simp only [Value.slice.injEq] at h1; omega
  · simp only [Value.slice.injEq] at h1; exact ⟨g, h1.1, h2, h3⟩
section
variable {α : Type}
def RW (n : Nat) (f : Nat → α) : List α := (List.range n).map f
theorem rw_len (n : Nat) (f : Nat → α) : (RW n f).length = n := by simp [RW]
theorem rw_get (n : Nat) (f : Nat → α) (i : Nat) (h : i < (RW n f).length) : (RW n f)[i] = f i := by simp [RW]
theorem rw_set (n : Nat) (f : Nat → α) (i : Nat) (x : α) : (RW n f).set i x = RW n (upz f i x) := by
  apply List.ext_getElem
  · simp [RW]
  · intro j h1 h2
    rw [rw_get, List.getElem_set]
    by_cases e : i = j
    · subst e; simp [upz]
    · rw [if_neg e, rw_get, upz_other _ _ (fun h => e h.symm)]
theorem rw_rep (n : Nat) (x : α) : List.replicate n x = RW n (fun _ => x) := by
  apply List.ext_getElem
  · simp [RW]
  · intro i h1 h2; simp [RW]
theorem rw_congr {n : Nat} {f g : Nat → α} (h : ∀ v, v < n → f v = g v) : RW n f = RW n g := by
  unfold RW
  apply List.map_congr_left
  intro v hv
  exact h v (List.mem_range.1 hv)
theorem rw_inj {n : Nat} {f g : Nat → α} (h : RW n f = RW n g) (v : Nat) (hv : v < n) : f v = g v := by
  have e : (RW n f)[v]'(by rw [rw_len]; exact hv) = (RW n g)[v]'(by rw [rw_len]; exact hv) := by simp [h]
  rw [rw_get, rw_get] at e
  exact e
/-- the first k rows of a table, the others empty -/
def MXp (n k : Nat) (m : Nat → Nat → α) : List (List α) := (List.range n).map fun i => if i < k then RW n (m i) else []
def rowup (m : Nat → Nat → α) (k : Nat) (f : Nat → α) : Nat → Nat → α := fun i j => if i = k then f j else m i j
theorem mxp_len (n k : Nat) (m : Nat → Nat → α) : (MXp n k m).length = n := by simp [MXp]
theorem mxp_get (n k : Nat) (m : Nat → Nat → α) (i : Nat) (hi : i < k) (h : i < (MXp n k m).length) : (MXp n k m)[i] = RW n (m i) := by simp [MXp, hi]
theorem mxp_congr {n k : Nat} {m m' : Nat → Nat → α} (h : ∀ i j, i < k → j < n → m i j = m' i j) : MXp n k m = MXp n k m' := by
  unfold MXp
  apply List.map_congr_left
  intro i hi
  split
  · rename_i hik
    exact rw_congr (fun v hv => h i v hik hv)
  · rfl
theorem mxp_zero (n : Nat) (m : Nat → Nat → α) : MXp n 0 m = List.replicate n [] := by
  apply List.ext_getElem
  · simp [MXp]
  · intro i h1 h2; simp [MXp]
theorem mxp_row (n k : Nat) (m : Nat → Nat → α) (f : Nat → α) : (MXp n k m).set k (RW n f) = MXp n (k + 1) (rowup m k f) := by
  apply List.ext_getElem
  · simp [MXp]
  · intro i h1 h2
    rw [List.getElem_set]
    by_cases e : k = i
    · subst e
      rw [if_pos rfl, mxp_get _ _ _ _ (by omega)]
      exact rw_congr (fun v _ => by simp [rowup])
    · rw [if_neg e]
      simp only [MXp, List.getElem_map, List.getElem_range]
      by_cases hi : i < k
      · rw [if_pos hi, if_pos (by omega)]
        exact rw_congr (fun v _ => by simp [rowup, show ¬ i = k by omega])
      · rw [if_neg hi, if_neg (by omega)]
theorem mxp_put (n k : Nat) (m : Nat → Nat → α) (i j : Nat) (hi : i < k) (x : α) (h : i < (MXp n k m).length) : (MXp n k m).set i (((MXp n k m)[i]).set j x) = MXp n k (upm m i j x) := by
  rw [mxp_get _ _ _ _ hi, rw_set]
  apply List.ext_getElem
  · simp [MXp]
  · intro a h1 h2
    rw [List.getElem_set]
    have ha : a < n := by simpa [mxp_len] using h2
    by_cases e : i = a
    · subst e
      rw [if_pos rfl, mxp_get _ _ _ _ hi]
      exact rw_congr (fun v _ => by by_cases hv : v = j <;> simp [upm, upz, hv])
    · rw [if_neg e]
      simp only [MXp, List.getElem_map, List.getElem_range]
      split
      · exact rw_congr (fun v _ => by simp [upm, show ¬ a = i from fun h => e h.symm])
      · rfl
theorem rowup_self (m : Nat → Nat → α) (k : Nat) : rowup m k (m k) = m := by
  funext i j
  unfold rowup
  split
  · rename_i h; rw [h]
  · rfl
theorem rowup_up (m : Nat → Nat → α) (k : Nat) (f : Nat → α) (j : Nat) (x : α) : upm (rowup m k f) k j x = rowup m k (upz f j x) := by
  funext a b
  simp only [upm, rowup, upz]
  by_cases h1 : a = k <;> by_cases h2 : b = j <;> simp [h1, h2]
end

/-- one element of a row stored -/
theorem Own2.setAt {α : Type} {enc : α → List Value} {eo ei : TypeId} {w : World} {base g n c : Nat} {rows : List (List α)} (h : Own2 enc 1 eo ei w base (.slice (some ⟨g, 0, none⟩) n c) rows) (hne : eo ≠ ei) (hlen : ∀ x, (enc x).length = 1) (i : Nat) (hi : i < rows.length) (j : Nat) (hj : j < rows[i].length)
    {gi ni ci : Nat} (hc : w.cell? ⟨g, i, none⟩ = some (.slice (some ⟨gi, 0, none⟩) ni ci)) (x : α) (u : Value) (hx : enc x = [u]) : Own2 enc 1 eo ei (w.setCell ⟨gi, j, none⟩ u) base (.slice (some ⟨g, 0, none⟩) n c) (rows.set i (rows[i].set j x)) := by
  have hap := h.apart hne i hi hc
  obtain ⟨vs, h1, h2, h3, h4⟩ := h
  have hi' : i < vs.length := by omega
  have hv0 : vs[i] = .slice (some ⟨gi, 0, none⟩) ni ci := by
    have := h2.get lenV i hi' 0 vs[i] (by simp [encV])
    simp at this
    rw [this] at hc
    exact Option.some.inj hc
  have hgi : gi ≠ g := by intro e; exact hap (by simp [Value.ownBlock, e])
  refine ⟨vs, by simp [h1], h2.elsewhere (by simp [Value.ownBlock]; omega) _, ?_, h4⟩
  intro a ha ha'
  rw [List.length_set] at ha
  by_cases e : i = a
  · subst e
    rw [List.getElem_set_self]
    have ho := h3 i ha ha'
    rw [hv0] at ho
    have hl := ho.len
    subst hl
    rw [hv0]
    have hj1 : (enc (rows[i][j])).set 0 u = [u] := by
      have h5 := hlen (rows[i][j])
      match hr : enc (rows[i][j]), h5 with
      | [y], _ => rfl
    have := ho.put hlen j hj 0 (by omega) u x (by rw [hx, hj1])
    simpa using this
  · rw [List.getElem_set_ne e]
    refine (h3 a ha ha').elsewhere ?_ _
    intro e2
    exact h4 i a hi' ha' gi e (by rw [hv0]; simp [Value.ownBlock]) e2
/-- a table's row: where it stands, what it holds -/
theorem Own2.rowAt {α : Type} {enc : α → List Value} {eo ei : TypeId} {w : World} {base g n c k : Nat} {m : Nat → Nat → α} (h : Own2 enc 1 eo ei w base (.slice (some ⟨g, 0, none⟩) n c) (MXp n k m)) (hne : eo ≠ ei) (hlen : ∀ x, (enc x).length = 1) (i : Nat) (hi : i < k) (hin : i < n) :
    ∃ gi ci, w.cell? ⟨g, i, none⟩ = some (.slice (some ⟨gi, 0, none⟩) n ci) ∧ (∀ j, w.frozen? ⟨gi, j, none⟩ = false) ∧ base ≤ gi ∧ gi < w.heap.size ∧ gi ≠ g ∧ ∀ j, j < n → ∀ u, enc (m i j) = [u] → w.cell? ⟨gi, j, none⟩ = some u := by
  have hi' : i < (MXp n k m).length := by rw [mxp_len]; exact hin
  obtain ⟨av, cv, h1, h2, _⟩ := h.at i hi'
  rw [mxp_get _ _ _ _ hi] at h1 h2
  rw [rw_len] at h1 h2
  obtain ⟨gi, rfl, h3, h4⟩ := h2.blockI' (by omega)
  have hap := h.apart hne i hi' h1
  refine ⟨gi, cv, h1, h2.free, h3, h4, fun e => hap (by simp [Value.ownBlock, e]), fun j hj u hu => ?_⟩
  have := h2.get hlen j (by rw [rw_len]; exact hj) 0 u (by rw [rw_get, hu]; rfl)
  simpa using this
end Go.Proofs.Ytdpbkhempgghaaa
