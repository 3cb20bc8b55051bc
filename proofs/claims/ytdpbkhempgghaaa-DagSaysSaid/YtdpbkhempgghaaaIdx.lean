/-
  The first of a list that meets a condition. No program here.
-/
import Derived.Test.YtdpbkhempgghaaaLib
namespace Go.Proofs.Ytdpbkhempgghaaa
def firstB : List Bool → Nat → Int
  | [], _ => -1
  | b :: r, k => if b = true then (k : Int) else firstB r (k + 1)
theorem firstB_hit {bs : List Bool} {k : Nat} (h : k < bs.length) (hb : bs[k] = true) : firstB (bs.drop k) k = k := by
  rw [List.drop_eq_getElem_cons h]
  simp [firstB, hb]
theorem firstB_miss {bs : List Bool} {k : Nat} (h : k < bs.length) (hb : bs[k] = false) : firstB (bs.drop k) k = firstB (bs.drop (k + 1)) (k + 1) := by
  rw [List.drop_eq_getElem_cons h]
  simp [firstB, hb]
theorem firstB_end {bs : List Bool} {k : Nat} (h : bs.length ≤ k) : firstB (bs.drop k) k = -1 := by
  rw [List.drop_of_length_le h]; rfl
theorem firstB_any : ∀ (bs : List Bool) (k : Nat), decide (0 ≤ firstB bs k) = bs.any id
  | [], k => rfl
  | b :: r, k => by
    unfold firstB
    cases b with
    | true => simp
    | false => simpa using firstB_any r (k + 1)
theorem firstB_range : ∀ (bs : List Bool) (k : Nat), -1 ≤ firstB bs k ∧ firstB bs k ≤ k + bs.length
  | [], k => by simp [firstB]
  | b :: r, k => by
    have := firstB_range r (k + 1)
    unfold firstB
    simp only [List.length_cons]
    split <;> omega
theorem firstB_get : ∀ (bs : List Bool) (k : Nat), 0 ≤ firstB bs k → ∃ i, ∃ h : i < bs.length, firstB bs k = ((k + i : Nat) : Int) ∧ bs[i] = true ∧ ∀ j (hj : j < i), bs[j]'(by omega) = false
  | [], k, h => by simp [firstB] at h
  | b :: r, k, h => by
    unfold firstB at h ⊢
    cases b with
    | true => exact ⟨0, by simp, by simp, by simp, fun j hj => by omega⟩
    | false =>
      rw [if_neg (by simp)] at h ⊢
      obtain ⟨i, hi, h1, h2, h3⟩ := firstB_get r (k + 1) h
      refine ⟨i + 1, by simp; omega, by rw [h1]; congr 1; omega, by simpa using h2, fun j hj => ?_⟩
      cases j with
      | zero => rfl
      | succ j => simpa using h3 j (by omega)
theorem firstB_none : ∀ (bs : List Bool) (k : Nat), firstB bs k < 0 → ∀ j (h : j < bs.length), bs[j] = false
  | [], k, _, j, hj => by simp at hj
  | b :: r, k, h, j, hj => by
    unfold firstB at h
    cases b with
    | true => simp at h; omega
    | false =>
      rw [if_neg (by simp)] at h
      cases j with
      | zero => rfl
      | succ j => simpa using firstB_none r (k + 1) h j (by simpa using hj)
end Go.Proofs.Ytdpbkhempgghaaa
