/-
  The moves of right ground stay on it. No program here.
-/
import Derived.Test.YtgkiipmeigfjnaaMovesAny
namespace Go.Proofs.Ytgkiipmeigfjnaa
set_option linter.unusedVariables false
theorem movesTo_mem {W H : Int} {cs : List Int} {p x y : Int} {e : Ed} : ∀ (k : Nat), e ∈ movesTo W H cs p x y k → ∃ j, moveAt W H cs p x y j = some e
  | 0, h => by simp [movesTo] at h
  | k + 1, h => by
    cases hm : moveAt W H cs p x y k with
    | none =>
      rw [movesTo_none hm] at h
      exact movesTo_mem k h
    | some e' =>
      rw [movesTo_some hm] at h
      rcases List.mem_append.1 h with h | h
      · exact movesTo_mem k h
      · obtain rfl := List.mem_singleton.1 h
        exact ⟨k, hm⟩
theorem ground_in {W H : Int} {cs : List Int} {x y : Int} (hcs : ∀ c ∈ cs, 0 ≤ c ∧ c ≤ 9) : 0 ≤ groundV W H cs x y ∧ groundV W H cs x y ≤ 9 ∧ (groundV W H cs x y ≠ 0 → 0 ≤ x ∧ x < W ∧ 0 ≤ y ∧ y < H) := by
  unfold groundV
  by_cases h : x < 0 ∨ x ≥ W ∨ y < 0 ∨ y ≥ H
  · rw [if_pos h]; simp
  · rw [if_neg h]
    refine ⟨?_, ?_, fun _ => by omega⟩
    all_goals
      unfold List.getD
      rcases Nat.lt_or_ge (y * W + x).toNat cs.length with h2 | h2
      · rw [List.getElem?_eq_getElem h2, Option.getD_some]
        have := hcs _ (List.getElem_mem h2)
        omega
      · rw [List.getElem?_eq_none h2]; simp
theorem moveAt_in {W H : Int} {cs : List Int} {p x y : Int} {j : Nat} {e : Ed} (hcs : ∀ c ∈ cs, 0 ≤ c ∧ c ≤ 9) (h0 : groundV W H cs x y ≠ 0) (h : moveAt W H cs p x y j = some e) : e.u = p ∧ 0 ≤ e.v ∧ e.v < W * H ∧ 1 ≤ e.c ∧ e.c ≤ 126 := by
  have a := ground_in (W := W) (H := H) (x := x) (y := y) hcs
  have b := ground_in (W := W) (H := H) (x := x + dirX j) (y := y + dirY j) hcs
  have key : groundV W H cs (x + dirX j) (y + dirY j) ≠ 0 → 0 ≤ (y + dirY j) * W + x + dirX j ∧ (y + dirY j) * W + x + dirX j < W * H := fun hn => by
    obtain ⟨c1, c2, c3, c4⟩ := b.2.2 hn
    have d1 : 0 ≤ (y + dirY j) * W := Int.mul_nonneg c3 (by omega)
    have d2 : (y + dirY j) * W ≤ (H - 1) * W := Int.mul_le_mul_of_nonneg_right (by omega) (by omega)
    have d3 : (H - 1) * W = W * H - W := by rw [Int.sub_mul, Int.one_mul, Int.mul_comm]
    omega
  unfold moveAt at h
  by_cases h1 : groundV W H cs (x + dirX j) (y + dirY j) = 0
  · rw [if_pos h1] at h; cases h
  · rw [if_neg h1] at h
    have hk := key h1
    by_cases h2 : dirX j ≠ 0 ∧ dirY j ≠ 0
    · rw [if_pos h2] at h
      by_cases h3 : groundV W H cs (x + dirX j) y = 0
      · rw [if_pos h3] at h; cases h
      · rw [if_neg h3] at h
        by_cases h4 : groundV W H cs x (y + dirY j) = 0
        · rw [if_pos h4] at h; cases h
        · rw [if_neg h4] at h
          cases h
          refine ⟨rfl, ?_, ?_, ?_, ?_⟩ <;> dsimp only <;> omega
    · rw [if_neg h2] at h
      cases h
      refine ⟨rfl, ?_, ?_, ?_, ?_⟩ <;> dsimp only <;> omega
theorem gridNet_in {W H : Int} {cs : List Int} (h0 : gridErr W H cs = 0) : ∀ e ∈ gridNet W H cs cs.length, 0 ≤ e.u ∧ e.u < (cs.length : Int) ∧ 0 ≤ e.v ∧ e.v < (cs.length : Int) ∧ 1 ≤ e.c ∧ e.c ≤ 126 := by
  intro e he
  have hb := gridErr_ok h0
  have hcl := hb.2.2.2.2.1
  unfold gridNet at he
  obtain ⟨i, hi, he⟩ := List.mem_flatMap.1 he
  have hi := List.mem_range.1 hi
  unfold gridMoves mlist at he
  by_cases q : groundV W H cs ((i : Int) % W) ((i : Int) / W) = 0
  · rw [if_pos q] at he; cases he
  · rw [if_neg q] at he
    obtain ⟨j, hj⟩ := movesTo_mem 8 he
    have := moveAt_in hb.2.2.2.2.2 q hj
    omega
end Go.Proofs.Ytgkiipmeigfjnaa
