/-
  The check of a fraction and the reference's check are one. No condition.
-/
import Derived.Test.YtcehdpeeaogpiaaRefRatio
namespace Go.Proofs.Ytcehdpeeaogpiaa
theorem chk_rchk (r : P2) : chk r = rchk r := by
  by_cases h : r.b < 1 ∨ ratWithin r.a = false ∨ ratWithin r.b = false
  · have e1 : mkErr r.a r.b = 1 := by simp [mkErr, h]
    have e2 : chk r = 3 := by simp [chk, e1]
    rw [e2]
    simp only [rchk]
    rw [if_pos]
    rcases h with h | h | h <;> simp [h]
  · have e1 : mkErr r.a r.b = 0 := by simp only [mkErr]; rw [if_neg h]
    have e2 : mkVal r.a r.b = lst r.a r.b := by simp only [mkVal]; rw [if_neg h]
    simp only [not_or, Bool.not_eq_false] at h
    have hg := gcdI_pos r.a r.b (by omega)
    simp only [chk, rchk, e1, e2, lst, h.2.1, h.2.2]
    by_cases g1 : gcdI r.a r.b = 1
    · simp [g1]; omega
    · have hd : (gcdI r.a r.b) ∣ r.b := by unfold gcdI; exact Int.gcd_dvd_right ..
      have : r.b / gcdI r.a r.b ≠ r.b := by
        intro hh
        have h2 := Int.ediv_mul_cancel hd
        rw [hh] at h2
        have h3 : r.b * gcdI r.a r.b = r.b * 1 := by omega
        have := Int.eq_of_mul_eq_mul_left (by omega) h3
        exact g1 this
      simp [this, g1]

end Go.Proofs.Ytcehdpeeaogpiaa
