/-
  What the reference's functions on fractions return. Conditions: bounds on the numbers, as each theorem says.
-/
import Derived.Test.YtcehdpeeaogpiaaRatio
import Derived.BigQuiet
import Derived.Deep.QuietTactic
import Derived.Deep.RegionHeld3
import Derived.WalkSpells
import Derived.WalkLawsBesides
namespace Go.Proofs.Ytcehdpeeaogpiaa
open Go.RowKit
set_option linter.unusedSimpArgs false
set_option linter.unusedVariables false


theorem part_any (n : Int) (w : World) : Calls Try.prog 189 #[.int .i64 n] w fun e w' => e = .returned (.bool (ratWithin n)) ∧ w' = w := by
  go_enter Try.func189, Try.ntmps189
  go_wp2
  all_goals
    go_ret
    refine ⟨?_, rfl⟩
    simp [ratWithin]
    try omega

def absI (n : Int) : Int := if n < 0 then -n else n
theorem gcd_abs (n d : Int) : gcdI (absI n) d = gcdI n d := by
  unfold gcdI absI Int.gcd; split <;> simp
theorem size_any (n : Int) (hn : -9223372036854775807 ≤ n ∧ n ≤ 9223372036854775807) (w : World) : Calls Try.prog 191 #[.int .i64 n] w fun e w' => e = .returned (.int .i64 (absI n)) ∧ w' = w := by
  go_enter Try.func191, Try.ntmps191
  go_wp2
  all_goals
    go_ret
    refine ⟨ret_int ?_, rfl⟩
    simp only [absI]
    split <;> omega

theorem common_any (k : Nat) : ∀ (a b : Int) (w : World), 0 ≤ a → a ≤ 4611686018427387904 → 0 ≤ b → b ≤ 4611686018427387904 → b.toNat ≤ k →
    Calls Try.prog 190 #[.int .i64 a, .int .i64 b] w fun e w' => e = .returned (.int .i64 (gcdI a b)) ∧ w' = w := by
  induction k with
  | zero =>
    intro a b w ha ha2 hb hb2 hk
    obtain rfl : b = 0 := by omega
    have hg : Hid (gcdI a 0 = a) := by rw [Hid, gcd_zero]; omega
    go_enter Try.func190, Try.ntmps190
    go_wp2_with fail
    go_ret
    exact ⟨ret_int hg.out.symm, rfl⟩
  | succ k ih =>
    intro a b w ha ha2 hb hb2 hk
    by_cases h0 : b = 0
    · subst h0
      have hg : Hid (gcdI a 0 = a) := by rw [Hid, gcd_zero]; omega
      clear ih
      go_enter Try.func190, Try.ntmps190
      go_wp2_with fail
      go_ret
      exact ⟨ret_int hg.out.symm, rfl⟩
    · have q0 : (b == 0) = false := by simpa using h0
      have hm := tmod_abs a b h0
      have hm2 := Int.tmod_nonneg b ha
      have hi := hide (ih b (a.tmod b) w hb hb2 hm2 (by omega) (by omega))
      have hg := hide (gcd_step a b)
      have e : a % b = a.tmod b := (Int.tmod_eq_emod_of_nonneg ha).symm
      have he := hide e
      clear ih h0 e
      go_enter Try.func190, Try.ntmps190
      go_wp2_with fail
      rw [he.out]
      refine hi.out.mono ?_
      rintro e w1 ⟨rfl, rfl⟩
      go_wp2_with fail
      go_ret
      exact ⟨ret_int hg.out, rfl⟩

def rchk (r : P2) : Int := if r.b < 1 ∨ ratWithin r.b = false ∨ ratWithin r.a = false ∨ gcdI r.a r.b ≠ 1 then 3 else 0
theorem rchk_any (r : P2) (w : World) :
    Calls Try.prog 130 #[.agg #[.int .i64 r.a, .int .i64 r.b]] w fun e w' => e = .returned (.int .i64 (rchk r)) ∧ Below w.heap.size w w' := by
  by_cases h1 : r.b < 1
  · have hr := hide (show rchk r = 3 by simp [rchk, h1])
    go_enter Try.func130, Try.ntmps130
    go_wp2_with fail
    go_quiet (fail)
    go_wp2
    go_ret
    exact ⟨ret_int hr.out.symm, (by repeat (first | with_reducible exact Below.refl _ _ | with_reducible assumption | with_reducible refine up_drewN ?_ | with_reducible refine up_drew ?_ | (with_reducible refine up_alloc ?_ ?_; rotate_left; (first | omega | (simp <;> omega) | simp)) | (with_reducible refine up_set ?_ ?_; rotate_left; (first | omega | (simp <;> omega) | simp)) | (with_reducible refine Below.trans ?_ (Below.mono (by with_reducible assumption) ?_); rotate_left; (first | omega | (simp <;> omega) | simp))))⟩
  have d1 : decide (r.b < 1) = false := by simpa using h1
  by_cases h2 : ratWithin r.b = false
  · have hr := hide (show rchk r = 3 by simp [rchk, h2])
    go_enter Try.func130, Try.ntmps130
    go_wp2_with fail
    go_quiet ((go_at_call 189; exact Calls.quiet_of_same (part_any _ _)))
    go_wp2
    go_ret
    exact ⟨ret_int hr.out.symm, (by repeat (first | with_reducible exact Below.refl _ _ | with_reducible assumption | with_reducible refine up_drewN ?_ | with_reducible refine up_drew ?_ | (with_reducible refine up_alloc ?_ ?_; rotate_left; (first | omega | (simp <;> omega) | simp)) | (with_reducible refine up_set ?_ ?_; rotate_left; (first | omega | (simp <;> omega) | simp)) | (with_reducible refine Below.trans ?_ (Below.mono (by with_reducible assumption) ?_); rotate_left; (first | omega | (simp <;> omega) | simp))))⟩
  rw [Bool.not_eq_false] at h2
  by_cases h3 : ratWithin r.a = false
  · have hr := hide (show rchk r = 3 by simp [rchk, h3])
    go_enter Try.func130, Try.ntmps130
    go_wp2_with fail
    go_quiet ((go_at_call 189; exact Calls.quiet_of_same (part_any _ _)))
    go_wp2
    go_ret
    exact ⟨ret_int hr.out.symm, (by repeat (first | with_reducible exact Below.refl _ _ | with_reducible assumption | with_reducible refine up_drewN ?_ | with_reducible refine up_drew ?_ | (with_reducible refine up_alloc ?_ ?_; rotate_left; (first | omega | (simp <;> omega) | simp)) | (with_reducible refine up_set ?_ ?_; rotate_left; (first | omega | (simp <;> omega) | simp)) | (with_reducible refine Below.trans ?_ (Below.mono (by with_reducible assumption) ?_); rotate_left; (first | omega | (simp <;> omega) | simp))))⟩
  rw [Bool.not_eq_false] at h3
  have b2 := (ratWithin_iff _).1 h2
  have b3 := (ratWithin_iff _).1 h3
  have ha : 0 ≤ absI r.a ∧ absI r.a ≤ 4611686018427387904 := by unfold absI; split <;> omega
  have hc := fun (w : World) => common_any r.b.toNat (absI r.a) r.b w (by omega) (by omega) (by omega) (by omega) (by omega)
  rw [gcd_abs] at hc
  have hC := hide hc
  clear hc
  by_cases h4 : gcdI r.a r.b = 1
  · have hr := hide (show rchk r = 0 by simp only [rchk]; rw [if_neg]; simp [h2, h3, h4]; omega)
    have h5 : (gcdI r.a r.b != 1) = false := by simp [h4]
    clear h4
    go_enter Try.func130, Try.ntmps130
    go_wp2_with fail
    go_quiet (first | (go_at_call 189; exact Calls.quiet_of_same (part_any _ _)) | (go_at_call 191; exact Calls.quiet_of_same (size_any _ (by omega) _)) | (go_at_call 190; exact Calls.quiet_of_same (hC.out _)))
    go_wp2
    go_ret
    exact ⟨ret_int hr.out.symm, (by repeat (first | with_reducible exact Below.refl _ _ | with_reducible assumption | with_reducible refine up_drewN ?_ | with_reducible refine up_drew ?_ | (with_reducible refine up_alloc ?_ ?_; rotate_left; (first | omega | (simp <;> omega) | simp)) | (with_reducible refine up_set ?_ ?_; rotate_left; (first | omega | (simp <;> omega) | simp)) | (with_reducible refine Below.trans ?_ (Below.mono (by with_reducible assumption) ?_); rotate_left; (first | omega | (simp <;> omega) | simp))))⟩
  · have hr := hide (show rchk r = 3 by simp [rchk, h4])
    have h5 : (gcdI r.a r.b != 1) = true := by simp [h4]
    clear h4
    go_enter Try.func130, Try.ntmps130
    go_wp2_with fail
    go_quiet (first | (go_at_call 189; exact Calls.quiet_of_same (part_any _ _)) | (go_at_call 191; exact Calls.quiet_of_same (size_any _ (by omega) _)) | (go_at_call 190; exact Calls.quiet_of_same (hC.out _)))
    go_wp2
    go_ret
    exact ⟨ret_int hr.out.symm, (by repeat (first | with_reducible exact Below.refl _ _ | with_reducible assumption | with_reducible refine up_drewN ?_ | with_reducible refine up_drew ?_ | (with_reducible refine up_alloc ?_ ?_; rotate_left; (first | omega | (simp <;> omega) | simp)) | (with_reducible refine up_set ?_ ?_; rotate_left; (first | omega | (simp <;> omega) | simp)) | (with_reducible refine Below.trans ?_ (Below.mono (by with_reducible assumption) ?_); rotate_left; (first | omega | (simp <;> omega) | simp))))⟩

end Go.Proofs.Ytcehdpeeaogpiaa
