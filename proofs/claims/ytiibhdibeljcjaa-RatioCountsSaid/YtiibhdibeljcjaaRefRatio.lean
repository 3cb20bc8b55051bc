/-
  What the reference's functions on fractions return. Conditions: bounds on the numbers, as each theorem says.
-/
import Derived.Test.YtiibhdibeljcjaaRatio
import Derived.BigQuiet
import Derived.Deep.QuietTactic
import Derived.Deep.RegionHeld3
import Derived.WalkSpells
import Derived.WalkLawsBesides
namespace Go.Proofs.Ytiibhdibeljcjaa
open Go.RowKit
set_option linter.unusedSimpArgs false


theorem part_any (n : Int) (w : World) : Calls Try.prog 59 #[.int .i64 n] w fun e w' => e = .returned (.bool (ratWithin n)) ∧ w' = w := by
  go_enter Try.func59, Try.ntmps59
  go_wp2
  all_goals
    go_ret
    refine ⟨?_, rfl⟩
    simp [ratWithin]
    try omega

def absI (n : Int) : Int := if n < 0 then -n else n
theorem size_any (n : Int) (hn : -9223372036854775807 ≤ n ∧ n ≤ 9223372036854775807) (w : World) : Calls Try.prog 61 #[.int .i64 n] w fun e w' => e = .returned (.int .i64 (absI n)) ∧ w' = w := by
  go_enter Try.func61, Try.ntmps61
  go_wp2
  all_goals
    go_ret
    refine ⟨ret_int ?_, rfl⟩
    simp only [absI]
    split <;> omega

theorem common_any (k : Nat) : ∀ (a b : Int) (w : World), 0 ≤ a → a ≤ 4611686018427387904 → 0 ≤ b → b ≤ 4611686018427387904 → b.toNat ≤ k →
    Calls Try.prog 60 #[.int .i64 a, .int .i64 b] w fun e w' => e = .returned (.int .i64 (gcdI a b)) ∧ w' = w := by
  induction k with
  | zero =>
    intro a b w ha ha2 hb hb2 hk
    obtain rfl : b = 0 := by omega
    have hg : Hid (gcdI a 0 = a) := by rw [Hid, gcd_zero]; omega
    go_enter Try.func60, Try.ntmps60
    go_wp2_with fail
    go_ret
    exact ⟨ret_int hg.out.symm, rfl⟩
  | succ k ih =>
    intro a b w ha ha2 hb hb2 hk
    by_cases h0 : b = 0
    · subst h0
      have hg : Hid (gcdI a 0 = a) := by rw [Hid, gcd_zero]; omega
      clear ih
      go_enter Try.func60, Try.ntmps60
      go_wp2_with fail
      go_ret
      exact ⟨ret_int hg.out.symm, rfl⟩
    · have q0 : (b == 0) = false := by simpa using h0
      have hm := tmod_abs a b h0
      have hm2 := Int.tmod_nonneg b ha
      have hi := hide (ih b (a.tmod b) w hb hb2 hm2 (by omega) (by omega))
      have hg := hide (gcd_step a b)
      have e : a % b = a.tmod b := (Int.tmod_eq_emod_of_nonneg ha).symm
      have he := hide e
      clear ih h0 e
      go_enter Try.func60, Try.ntmps60
      go_wp2_with fail
      rw [he.out]
      refine hi.out.mono ?_
      rintro e w1 ⟨rfl, rfl⟩
      go_wp2_with fail
      go_ret
      exact ⟨ret_int hg.out, rfl⟩

theorem gcd_abs (n d : Int) : gcdI (absI n) d = gcdI n d := by
  unfold gcdI absI Int.gcd; split <;> simp
theorem rleast_any (n d : Int) (hn : -4611686018427387904 ≤ n ∧ n ≤ 4611686018427387904) (hd : 1 ≤ d ∧ d ≤ 4611686018427387904) (w : World) :
    Calls Try.prog 41 #[.int .i64 n, .int .i64 d] w fun e w' => e = .returned (.agg #[.int .i64 (lst n d).a, .int .i64 (lst n d).b]) ∧ Below w.heap.size w w' := by
  have hg := gcdI_pos n d hd.1
  have ha : 0 ≤ absI n ∧ absI n ≤ 4611686018427387904 := by unfold absI; split <;> omega
  have hq := hide (gcd_abs n d)
  go_enter Try.func41, Try.ntmps41
  go_wp2_with (first | (go_at_call 61; refine (size_any _ (by omega) _).mono ?_; rintro e w' ⟨rfl, rfl⟩) | (go_at_call 60; refine (common_any d.toNat _ _ _ (by omega) (by omega) (by omega) (by omega) (by omega)).mono ?_; rintro e w' ⟨rfl, rfl⟩; rw [hq.out]))
  go_region
  all_goals
    go_wp2
    exact bodyPost_ret (v := .agg #[.int .i64 (lst n d).a, .int .i64 (lst n d).b]) (by simp [results, Try.results41, go_sem, lst]) rfl ⟨rfl, (by repeat (first | exact Below.refl _ _ | assumption | (refine Below.trans ?_ (Below.mono (by assumption) ?_); rotate_left; (first | omega | (simp <;> omega) | simp)) | refine below_drewN ?_ _ | refine Below.drew ?_ | refine Below.alloc ?_ (by first | omega | (simp <;> omega) | simp) _ | refine Below.setCell ?_ (by first | omega | (simp <;> omega) | simp) _))⟩

theorem made_any (n d : Int) (w : World) :
    Calls Try.prog 16 #[.int .i64 n, .int .i64 d] w fun e w' => e = .returned (.tuple #[.agg #[.int .i64 (mkVal n d).a, .int .i64 (mkVal n d).b], .int .i64 (mkErr n d)]) ∧ Below w.heap.size w w' := by
  by_cases h : d < 1 ∨ ratWithin n = false ∨ ratWithin d = false
  · have he : mkErr n d = 1 := by simp [mkErr, h]
    have hv : mkVal n d = ⟨0, 0⟩ := by simp [mkVal, h]
    rw [he, hv]
    clear he hv
    by_cases h1 : d < 1
    · go_enter Try.func16, Try.ntmps16
      go_wp2
      exact bodyPost_ret (v := .tuple #[.agg #[.int .i64 0, .int .i64 0], .int .i64 1]) (by simp [results, Try.results16, go_sem]) rfl ⟨rfl, (by repeat (first | exact Below.refl _ _ | assumption | (refine Below.trans ?_ (Below.mono (by assumption) ?_); rotate_left; (first | omega | (simp <;> omega) | simp)) | refine below_drewN ?_ _ | refine Below.drew ?_ | refine Below.alloc ?_ (by first | omega | (simp <;> omega) | simp) _ | refine Below.setCell ?_ (by first | omega | (simp <;> omega) | simp) _))⟩
    · by_cases h2 : ratWithin n = false
      · clear h
        go_enter Try.func16, Try.ntmps16
        go_wp2_with (go_at_call 59; refine (part_any _ _).mono ?_; rintro e w' ⟨rfl, rfl⟩)
        exact bodyPost_ret (v := .tuple #[.agg #[.int .i64 0, .int .i64 0], .int .i64 1]) (by simp [results, Try.results16, go_sem]) rfl ⟨rfl, (by repeat (first | exact Below.refl _ _ | assumption | (refine Below.trans ?_ (Below.mono (by assumption) ?_); rotate_left; (first | omega | (simp <;> omega) | simp)) | refine below_drewN ?_ _ | refine Below.drew ?_ | refine Below.alloc ?_ (by first | omega | (simp <;> omega) | simp) _ | refine Below.setCell ?_ (by first | omega | (simp <;> omega) | simp) _))⟩
      · have h3 : ratWithin d = false := by simp [h1, h2] at h; exact h
        have h2' : ratWithin n = true := by simpa using h2
        clear h h2
        go_enter Try.func16, Try.ntmps16
        go_wp2_with (go_at_call 59; refine (part_any _ _).mono ?_; rintro e w' ⟨rfl, rfl⟩)
        exact bodyPost_ret (v := .tuple #[.agg #[.int .i64 0, .int .i64 0], .int .i64 1]) (by simp [results, Try.results16, go_sem]) rfl ⟨rfl, (by repeat (first | exact Below.refl _ _ | assumption | (refine Below.trans ?_ (Below.mono (by assumption) ?_); rotate_left; (first | omega | (simp <;> omega) | simp)) | refine below_drewN ?_ _ | refine Below.drew ?_ | refine Below.alloc ?_ (by first | omega | (simp <;> omega) | simp) _ | refine Below.setCell ?_ (by first | omega | (simp <;> omega) | simp) _))⟩
  · have he : mkErr n d = 0 := by simp only [mkErr]; rw [if_neg h]
    have hv : mkVal n d = lst n d := by simp only [mkVal]; rw [if_neg h]
    rw [he, hv]
    clear he hv
    simp only [not_or, Bool.not_eq_false] at h
    obtain ⟨h1, h2, h3⟩ := h
    have b2 := (ratWithin_iff n).1 h2
    have b3 := (ratWithin_iff d).1 h3
    go_enter Try.func16, Try.ntmps16
    go_wp2_with (first | (go_at_call 59; refine (part_any _ _).mono ?_; rintro e w' ⟨rfl, rfl⟩) | (go_at_call 41; refine (rleast_any _ _ (by omega) (by omega) _).mono ?_; rintro e w1 ⟨rfl, hb⟩; obtain ⟨hc, hf⟩ := bcell hb; have hz := hb.size; simp at hz; have hz2 : w.heap.size < w1.heap.size := by omega))
    exact bodyPost_ret (v := .tuple #[.agg #[.int .i64 (lst n d).a, .int .i64 (lst n d).b], .int .i64 0]) (by simp [results, Try.results16, go_sem, hc, hz2]) rfl ⟨rfl, (by repeat (first | exact Below.refl _ _ | assumption | (refine Below.trans ?_ (Below.mono (by assumption) ?_); rotate_left; (first | omega | (simp <;> omega) | simp)) | refine below_drewN ?_ _ | refine Below.drew ?_ | refine Below.alloc ?_ (by first | omega | (simp <;> omega) | simp) _ | refine Below.setCell ?_ (by first | omega | (simp <;> omega) | simp) _))⟩


def rchk (r : P2) : Int := if r.b < 1 ∨ ratWithin r.b = false ∨ ratWithin r.a = false ∨ gcdI r.a r.b ≠ 1 then 3 else 0
theorem rchk_any (r : P2) (w : World) :
    Calls Try.prog 18 #[.agg #[.int .i64 r.a, .int .i64 r.b]] w fun e w' => e = .returned (.int .i64 (rchk r)) ∧ Below w.heap.size w w' := by
  by_cases h1 : r.b < 1
  · have hr := hide (show rchk r = 3 by simp [rchk, h1])
    go_enter Try.func18, Try.ntmps18
    go_wp2_with fail
    go_quiet (fail)
    go_wp2
    go_ret
    exact ⟨ret_int hr.out.symm, (by repeat (first | exact Below.refl _ _ | assumption | (refine Below.trans ?_ (Below.mono (by assumption) ?_); rotate_left; (first | omega | (simp <;> omega) | simp)) | refine below_drewN ?_ _ | refine Below.drew ?_ | refine Below.alloc ?_ (by first | omega | (simp <;> omega) | simp) _ | refine Below.setCell ?_ (by first | omega | (simp <;> omega) | simp) _))⟩
  have d1 : decide (r.b < 1) = false := by simpa using h1
  by_cases h2 : ratWithin r.b = false
  · have hr := hide (show rchk r = 3 by simp [rchk, h2])
    go_enter Try.func18, Try.ntmps18
    go_wp2_with fail
    go_quiet ((go_at_call 59; exact Calls.quiet_of_same (part_any _ _)))
    go_wp2
    go_ret
    exact ⟨ret_int hr.out.symm, (by repeat (first | exact Below.refl _ _ | assumption | (refine Below.trans ?_ (Below.mono (by assumption) ?_); rotate_left; (first | omega | (simp <;> omega) | simp)) | refine below_drewN ?_ _ | refine Below.drew ?_ | refine Below.alloc ?_ (by first | omega | (simp <;> omega) | simp) _ | refine Below.setCell ?_ (by first | omega | (simp <;> omega) | simp) _))⟩
  rw [Bool.not_eq_false] at h2
  by_cases h3 : ratWithin r.a = false
  · have hr := hide (show rchk r = 3 by simp [rchk, h3])
    go_enter Try.func18, Try.ntmps18
    go_wp2_with fail
    go_quiet ((go_at_call 59; exact Calls.quiet_of_same (part_any _ _)))
    go_wp2
    go_ret
    exact ⟨ret_int hr.out.symm, (by repeat (first | exact Below.refl _ _ | assumption | (refine Below.trans ?_ (Below.mono (by assumption) ?_); rotate_left; (first | omega | (simp <;> omega) | simp)) | refine below_drewN ?_ _ | refine Below.drew ?_ | refine Below.alloc ?_ (by first | omega | (simp <;> omega) | simp) _ | refine Below.setCell ?_ (by first | omega | (simp <;> omega) | simp) _))⟩
  rw [Bool.not_eq_false] at h3
  have b2 := (ratWithin_iff _).1 h2
  have b3 := (ratWithin_iff _).1 h3
  have ha : 0 ≤ absI r.a ∧ absI r.a ≤ 4611686018427387904 := by unfold absI; split <;> omega
  have hc := fun (w : World) => common_any r.b.toNat (absI r.a) r.b w (by omega) (by omega) (by omega) (by omega) (by omega)
  rw [gcd_abs] at hc
  have hC := hide hc
  clear hc
  by_cases h4 : gcdI r.a r.b = 1
  · have hr := hide (show rchk r = 0 by simp only [rchk]; rw [if_neg]; simp [h2, h3, h4]; omega)
    have h5 : (gcdI r.a r.b != 1) = false := by simp [h4]
    clear h4
    go_enter Try.func18, Try.ntmps18
    go_wp2_with fail
    go_quiet (first | (go_at_call 59; exact Calls.quiet_of_same (part_any _ _)) | (go_at_call 61; exact Calls.quiet_of_same (size_any _ (by omega) _)) | (go_at_call 60; exact Calls.quiet_of_same (hC.out _)))
    go_wp2
    go_ret
    exact ⟨ret_int hr.out.symm, (by repeat (first | exact Below.refl _ _ | assumption | (refine Below.trans ?_ (Below.mono (by assumption) ?_); rotate_left; (first | omega | (simp <;> omega) | simp)) | refine below_drewN ?_ _ | refine Below.drew ?_ | refine Below.alloc ?_ (by first | omega | (simp <;> omega) | simp) _ | refine Below.setCell ?_ (by first | omega | (simp <;> omega) | simp) _))⟩
  · have hr := hide (show rchk r = 3 by simp [rchk, h4])
    have h5 : (gcdI r.a r.b != 1) = true := by simp [h4]
    clear h4
    go_enter Try.func18, Try.ntmps18
    go_wp2_with fail
    go_quiet (first | (go_at_call 59; exact Calls.quiet_of_same (part_any _ _)) | (go_at_call 61; exact Calls.quiet_of_same (size_any _ (by omega) _)) | (go_at_call 60; exact Calls.quiet_of_same (hC.out _)))
    go_wp2
    go_ret
    exact ⟨ret_int hr.out.symm, (by repeat (first | exact Below.refl _ _ | assumption | (refine Below.trans ?_ (Below.mono (by assumption) ?_); rotate_left; (first | omega | (simp <;> omega) | simp)) | refine below_drewN ?_ _ | refine Below.drew ?_ | refine Below.alloc ?_ (by first | omega | (simp <;> omega) | simp) _ | refine Below.setCell ?_ (by first | omega | (simp <;> omega) | simp) _))⟩

end Go.Proofs.Ytiibhdibeljcjaa
