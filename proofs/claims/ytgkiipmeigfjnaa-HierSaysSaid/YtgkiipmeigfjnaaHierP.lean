/-
  Squares of cells: their numbers, what is refused. No program here.
-/
import Derived.Test.YtgkiipmeigfjnaaGridChk
import Derived.Test.YtgkiipmeigfjnaaLook
namespace Go.Proofs.Ytgkiipmeigfjnaa
set_option linter.unusedVariables false
def hlErr (W H : Int) (cs : List Int) (k : Int) : Int := if gridErr W H cs ≠ 0 then gridErr W H cs else if k < 1 ∨ 8 < k then 1 else 0
theorem hl_ok {W H : Int} {cs : List Int} {k : Int} (h : hlErr W H cs k = 0) : gridErr W H cs = 0 ∧ 1 ≤ k ∧ k ≤ 8 := by
  unfold hlErr at h
  by_cases h0 : gridErr W H cs = 0
  · rw [if_neg (by simp [h0])] at h
    by_cases h1 : k < 1 ∨ 8 < k
    · rw [if_pos h1] at h; omega
    · exact ⟨h0, by omega, by omega⟩
  · rw [if_pos h0] at h; exact absurd h h0
/-- the square of a cell, squares of k a side, W cells across -/
def sqN (W k p : Int) : Int := p / W / k * ((W + k - 1) / k) + p % W / k
theorem across_is {W k a : Int} (hW : 1 ≤ W) (hk : 1 ≤ k) (h1 : ¬ a * k < W) (h2 : a = 0 ∨ (a - 1) * k < W) (h0 : 0 ≤ a) : a = (W + k - 1) / k := by
  have hp : (0 : Int) < k := by omega
  have e : (a - 1) * k = a * k - k := by rw [Int.sub_mul, Int.one_mul]
  have ha : 1 ≤ a := by
    rcases Int.lt_or_le 0 a with h | h
    · omega
    · have : a = 0 := by omega
      subst this
      rw [Int.zero_mul] at h1; omega
  symm
  rw [Int.ediv_eq_iff_of_pos hp]
  constructor
  · rcases h2 with h2 | h2 <;> omega
  · omega
theorem sq_bounds {W k p : Int} (hW : 1 ≤ W) (hW8 : W ≤ 8) (hk : 1 ≤ k) (hk8 : k ≤ 8) (hp0 : 0 ≤ p) (hp : p < 64) :
    0 ≤ p / W ∧ p / W ≤ 64 ∧ 0 ≤ p / W / k ∧ p / W / k ≤ 64 ∧ 0 ≤ (W + k - 1) / k ∧ (W + k - 1) / k ≤ 8 ∧ 0 ≤ p % W ∧ p % W < 8 ∧ 0 ≤ p % W / k ∧ p % W / k ≤ 8 := by
  have a1 : p / W ≤ p := Int.ediv_le_self _ hp0
  have a0 : 0 ≤ p / W := Int.ediv_nonneg hp0 (by omega)
  have b1 : p / W / k ≤ p / W := Int.ediv_le_self _ a0
  have b0 : 0 ≤ p / W / k := Int.ediv_nonneg a0 (by omega)
  have c0 : 0 ≤ (W + k - 1) / k := Int.ediv_nonneg (by omega) (by omega)
  have c1 : (W + k - 1) / k ≤ 8 := by
    have : (W + k - 1) / k ≤ W := by
      refine Int.ediv_le_of_le_mul (by omega) ?_
      have h1 : W * k = (W - 1) * k + k := by rw [Int.sub_mul, Int.one_mul]; omega
      have h2 : (W - 1) * 1 ≤ (W - 1) * k := Int.mul_le_mul_of_nonneg_left hk (by omega)
      omega
    omega
  have d0 : 0 ≤ p % W := Int.emod_nonneg _ (by omega)
  have d1 : p % W < W := Int.emod_lt_of_pos _ (by omega)
  have e0 : 0 ≤ p % W / k := Int.ediv_nonneg d0 (by omega)
  have e1 : p % W / k ≤ p % W := Int.ediv_le_self _ d0
  omega
end Go.Proofs.Ytgkiipmeigfjnaa
