/-
  The walk of felllaw.BellDists: it returns true. Conditions: the arguments read as data.
-/
import Derived.Test.YtmhgemolgcnpoaaBDist
import Derived.Test.YtmhgemolgcnpoaaRBad
import Derived.Test.YtmhgemolgcnpoaaOpen
namespace Go.Proofs.Ytmhgemolgcnpoaa
open Go.RowKit
set_option linter.unusedSimpArgs false
set_option linter.unusedVariables false

set_option maxRecDepth 100000 in
set_option maxHeartbeats 2000000 in
theorem walk_BellDists (x0 : Int) (a0 : Option Addr) (cap0 : Nat) (es0 : List Ed) (x1 : Int) (w : World) (b0 : Bd x0) (l0 : es0.length ≤ cap0) (m0 : cap0 ≤ maxLen) (r0 : Row encE 3 w w.heap.size a0 es0) (be0 : ∀ x ∈ es0, BdE x) (b1 : Bd x1) :
    Calls Try.prog 6 #[.agg #[.int .i64 x0, .slice a0 es0.length cap0], .int .i64 x1] w fun e w' => e = .returned (.bool true) ∧ Below w.heap.size w w' := by
  have hl : es0.length ≤ 9223372036854775807 := by unfold maxLen at m0; omega
  replace r0 := hide r0
  by_cases h0 : netErr x0 es0 = 0
  · obtain ⟨n1, n2, n3, _⟩ := netErr_ok h0
    obtain ⟨n, rfl⟩ := Int.eq_ofNat_of_zero_le (show 0 ≤ x0 by omega)
    have hes := hide (right_is h0)
    have hC := hide (show ∀ w B, _ from fun w B hB hE => by have := rnet_any (n : Int) a0 cap0 es0 w B hB hE hl; rwa [h0] at this)
    have hO := hide (fun x w B hB hE hx => bdist_out n a0 cap0 es0 x w B hB hE hl h0 hx)
    have hJ := hide (fun v w B hB hE hv t ht => bdist_ok n a0 cap0 es0 v w B hB hE hl h0 hv t ht)
    clear h0 be0
    by_cases hx : x1 < 0 ∨ (n : Int) ≤ x1
    · have hx2 : x1 < 0 ∨ (0 ≤ x1 ∧ (n : Int) ≤ x1) := by omega
      replace hx := hide hx
      clear hJ
      rcases hx2 with hxx | ⟨hx0, hxx⟩
      all_goals
        go_enter Try.func6, Try.ntmps6
        go_wp2_with fail
        refine (hO.out x1 _ w.heap.size (by simp) (r0.out.below ((by repeat (first | with_reducible exact Below.refl _ _ | with_reducible assumption | with_reducible refine up_drewN ?_ | with_reducible refine up_drew ?_ | (with_reducible refine up_alloc ?_ ?_; rotate_left; (first | omega | (simp <;> omega) | simp)) | (with_reducible refine up_set ?_ ?_; rotate_left; (first | omega | (simp <;> omega) | simp)) | (with_reducible refine Below.trans ?_ (Below.mono (by with_reducible assumption) ?_); rotate_left; (first | omega | (simp <;> omega) | simp)))) : Below w.heap.size w _) (Nat.le_refl _)) hx.out).mono ?_
        rintro e w1 ⟨av, cv, rfl, hr1, hb1⟩
        obtain ⟨hc1, hf1⟩ := bcell hb1
        have hz1 : w.heap.size < w1.heap.size := by have := hb1.size; simp at this; omega
        clear hr1
        go_wp2_with fail
        refine (hC.out _ w.heap.size (by omega) (r0.out.below ((by repeat (first | with_reducible exact Below.refl _ _ | with_reducible assumption | with_reducible refine up_drewN ?_ | with_reducible refine up_drew ?_ | (with_reducible refine up_alloc ?_ ?_; rotate_left; (first | omega | (simp <;> omega) | simp)) | (with_reducible refine up_set ?_ ?_; rotate_left; (first | omega | (simp <;> omega) | simp)) | (with_reducible refine Below.trans ?_ (Below.mono (by with_reducible assumption) ?_); rotate_left; (first | omega | (simp <;> omega) | simp)))) : Below w.heap.size w _) (Nat.le_refl _))).mono ?_
        rintro e w2 ⟨rfl, hb2⟩
        obtain ⟨hc2, hf2⟩ := bcell hb2
        have hz2 : w.heap.size < w2.heap.size := by have := hb2.size; (try simp at this); omega
        go_wp2
        go_ret
        exact ⟨rfl, (by repeat (first | with_reducible exact Below.refl _ _ | with_reducible assumption | with_reducible refine up_drewN ?_ | with_reducible refine up_drew ?_ | (with_reducible refine up_alloc ?_ ?_; rotate_left; (first | omega | (simp <;> omega) | simp)) | (with_reducible refine up_set ?_ ?_; rotate_left; (first | omega | (simp <;> omega) | simp)) | (with_reducible refine Below.trans ?_ (Below.mono (by with_reducible assumption) ?_); rotate_left; (first | omega | (simp <;> omega) | simp))))⟩
    · obtain ⟨v, rfl⟩ := Int.eq_ofNat_of_zero_le (show 0 ≤ x1 by omega)
      have hv : v < n := by omega
      have i1 : (0 : Int) ≤ (v : Int) ∧ (v : Int) < (n : Int) := by omega
      clear hx hO
      by_cases hbad : LI n (distF n es0 v) = LI n (distF1 n es0 v)
      · have hA := hide (fun w B hB hE => rbad_any n a0 cap0 es0 v w B hB hE (by omega) (by omega) n3 hes.out hv true (by simp [hbad]))
        have hJ2 := hide (show ∀ w B, _ from fun w B hB hE => hJ.out v w B hB hE hv true (by simp [hbad]))
        clear hJ hbad
        go_enter Try.func6, Try.ntmps6
        go_wp2_with fail
        refine (hJ2.out _ w.heap.size (by simp) (r0.out.below ((by repeat (first | with_reducible exact Below.refl _ _ | with_reducible assumption | with_reducible refine up_drewN ?_ | with_reducible refine up_drew ?_ | (with_reducible refine up_alloc ?_ ?_; rotate_left; (first | omega | (simp <;> omega) | simp)) | (with_reducible refine up_set ?_ ?_; rotate_left; (first | omega | (simp <;> omega) | simp)) | (with_reducible refine Below.trans ?_ (Below.mono (by with_reducible assumption) ?_); rotate_left; (first | omega | (simp <;> omega) | simp)))) : Below w.heap.size w _) (Nat.le_refl _))).mono ?_
        rintro e w1 ⟨av, cv, rfl, hr1, hb1⟩
        simp only [if_true] at hr1 ⊢
        obtain ⟨hc1, hf1⟩ := bcell hb1
        have hz1 : w.heap.size < w1.heap.size := by have := hb1.size; simp at this; omega
        replace hr1 := hide hr1
        go_wp2_with fail
        refine (hC.out _ w.heap.size (by omega) (r0.out.below ((by repeat (first | with_reducible exact Below.refl _ _ | with_reducible assumption | with_reducible refine up_drewN ?_ | with_reducible refine up_drew ?_ | (with_reducible refine up_alloc ?_ ?_; rotate_left; (first | omega | (simp <;> omega) | simp)) | (with_reducible refine up_set ?_ ?_; rotate_left; (first | omega | (simp <;> omega) | simp)) | (with_reducible refine Below.trans ?_ (Below.mono (by with_reducible assumption) ?_); rotate_left; (first | omega | (simp <;> omega) | simp)))) : Below w.heap.size w _) (Nat.le_refl _))).mono ?_
        rintro e w2 ⟨rfl, hb2⟩
        obtain ⟨hc2, hf2⟩ := bcell hb2
        have hz2 : w1.heap.size ≤ w2.heap.size := hb2.size
        have hz22 : w.heap.size < w2.heap.size := by omega
        go_wp2_with fail
        refine (hA.out _ w.heap.size (by omega) (r0.out.below ((by repeat (first | with_reducible exact Below.refl _ _ | with_reducible assumption | with_reducible refine up_drewN ?_ | with_reducible refine up_drew ?_ | (with_reducible refine up_alloc ?_ ?_; rotate_left; (first | omega | (simp <;> omega) | simp)) | (with_reducible refine up_set ?_ ?_; rotate_left; (first | omega | (simp <;> omega) | simp)) | (with_reducible refine Below.trans ?_ (Below.mono (by with_reducible assumption) ?_); rotate_left; (first | omega | (simp <;> omega) | simp)))) : Below w.heap.size w _) (Nat.le_refl _))).mono ?_
        rintro e w3 ⟨rfl, hb3⟩
        obtain ⟨hc3, hf3⟩ := bcell hb3
        have hz3 : w2.heap.size ≤ w3.heap.size := hb3.size
        have hz33 : w.heap.size < w3.heap.size := by omega
        go_wp2_with fail
        refine (rdist_any n a0 cap0 es0 v _ w.heap.size (by omega) (r0.out.below ((by repeat (first | with_reducible exact Below.refl _ _ | with_reducible assumption | with_reducible refine up_drewN ?_ | with_reducible refine up_drew ?_ | (with_reducible refine up_alloc ?_ ?_; rotate_left; (first | omega | (simp <;> omega) | simp)) | (with_reducible refine up_set ?_ ?_; rotate_left; (first | omega | (simp <;> omega) | simp)) | (with_reducible refine Below.trans ?_ (Below.mono (by with_reducible assumption) ?_); rotate_left; (first | omega | (simp <;> omega) | simp)))) : Below w.heap.size w _) (Nat.le_refl _)) (by omega) (by omega) n3 hes.out hv).mono ?_
        rintro e w4 ⟨av4, cv4, rfl, hr4, hb4⟩
        replace hr4 := hide hr4
        have hz4 : w3.heap.size ≤ w4.heap.size := hb4.size
        have hr1' := hide (((hr1.out.below hb2 (Nat.le_refl _)).below hb3 (by omega)).below hb4 (by omega))
        go_wp2_with fail
        refine (eqI av av4 cv cv4 n n _ _ w4 w1.heap.size w4.heap.size (li_len _ _) (li_len _ _) hr1'.out hr4.out (by omega) (by omega) true (by simp)).mono ?_
        rintro e w6 ⟨rfl, m2, rfl⟩
        go_wp2
        go_ret
        exact ⟨rfl, (by repeat (first | with_reducible exact Below.refl _ _ | with_reducible assumption | with_reducible refine up_drewN ?_ | with_reducible refine up_drew ?_ | (with_reducible refine up_alloc ?_ ?_; rotate_left; (first | omega | (simp <;> omega) | simp)) | (with_reducible refine up_set ?_ ?_; rotate_left; (first | omega | (simp <;> omega) | simp)) | (with_reducible refine Below.trans ?_ (Below.mono (by with_reducible assumption) ?_); rotate_left; (first | omega | (simp <;> omega) | simp))))⟩
      · have hA := hide (fun w B hB hE => rbad_any n a0 cap0 es0 v w B hB hE (by omega) (by omega) n3 hes.out hv false (by simp [hbad]))
        have hJ2 := hide (show ∀ w B, _ from fun w B hB hE => hJ.out v w B hB hE hv false (by simp [hbad]))
        clear hJ hbad
        go_enter Try.func6, Try.ntmps6
        go_wp2_with fail
        refine (hJ2.out _ w.heap.size (by simp) (r0.out.below ((by repeat (first | with_reducible exact Below.refl _ _ | with_reducible assumption | with_reducible refine up_drewN ?_ | with_reducible refine up_drew ?_ | (with_reducible refine up_alloc ?_ ?_; rotate_left; (first | omega | (simp <;> omega) | simp)) | (with_reducible refine up_set ?_ ?_; rotate_left; (first | omega | (simp <;> omega) | simp)) | (with_reducible refine Below.trans ?_ (Below.mono (by with_reducible assumption) ?_); rotate_left; (first | omega | (simp <;> omega) | simp)))) : Below w.heap.size w _) (Nat.le_refl _))).mono ?_
        rintro e w1 ⟨av, cv, rfl, hr1, hb1⟩
        simp only [if_false, Bool.false_eq_true] at hr1 ⊢
        obtain ⟨hc1, hf1⟩ := bcell hb1
        have hz1 : w.heap.size < w1.heap.size := by have := hb1.size; simp at this; omega
        replace hr1 := hide hr1
        go_wp2_with fail
        refine (hC.out _ w.heap.size (by omega) (r0.out.below ((by repeat (first | with_reducible exact Below.refl _ _ | with_reducible assumption | with_reducible refine up_drewN ?_ | with_reducible refine up_drew ?_ | (with_reducible refine up_alloc ?_ ?_; rotate_left; (first | omega | (simp <;> omega) | simp)) | (with_reducible refine up_set ?_ ?_; rotate_left; (first | omega | (simp <;> omega) | simp)) | (with_reducible refine Below.trans ?_ (Below.mono (by with_reducible assumption) ?_); rotate_left; (first | omega | (simp <;> omega) | simp)))) : Below w.heap.size w _) (Nat.le_refl _))).mono ?_
        rintro e w2 ⟨rfl, hb2⟩
        obtain ⟨hc2, hf2⟩ := bcell hb2
        have hz2 : w1.heap.size ≤ w2.heap.size := hb2.size
        have hz22 : w.heap.size < w2.heap.size := by omega
        go_wp2_with fail
        refine (hA.out _ w.heap.size (by omega) (r0.out.below ((by repeat (first | with_reducible exact Below.refl _ _ | with_reducible assumption | with_reducible refine up_drewN ?_ | with_reducible refine up_drew ?_ | (with_reducible refine up_alloc ?_ ?_; rotate_left; (first | omega | (simp <;> omega) | simp)) | (with_reducible refine up_set ?_ ?_; rotate_left; (first | omega | (simp <;> omega) | simp)) | (with_reducible refine Below.trans ?_ (Below.mono (by with_reducible assumption) ?_); rotate_left; (first | omega | (simp <;> omega) | simp)))) : Below w.heap.size w _) (Nat.le_refl _))).mono ?_
        rintro e w3 ⟨rfl, hb3⟩
        go_wp2
        go_ret
        exact ⟨rfl, (by repeat (first | with_reducible exact Below.refl _ _ | with_reducible assumption | with_reducible refine up_drewN ?_ | with_reducible refine up_drew ?_ | (with_reducible refine up_alloc ?_ ?_; rotate_left; (first | omega | (simp <;> omega) | simp)) | (with_reducible refine up_set ?_ ?_; rotate_left; (first | omega | (simp <;> omega) | simp)) | (with_reducible refine Below.trans ?_ (Below.mono (by with_reducible assumption) ?_); rotate_left; (first | omega | (simp <;> omega) | simp))))⟩
  · have q0 : (netErr x0 es0 != 0) = true := by simp [h0]
    have q1 : (netErr x0 es0 == 0) = false := by simpa using h0
    have hC := hide (fun w B hB hE => rnet_any x0 a0 cap0 es0 w B hB hE hl)
    have hJ := hide (fun w B hB hE => bdist_bad x0 a0 cap0 es0 x1 w B hB hE hl h0)
    clear h0 be0
    go_enter Try.func6, Try.ntmps6
    go_wp2_with fail
    refine (hJ.out _ w.heap.size (by simp) (r0.out.below ((by repeat (first | with_reducible exact Below.refl _ _ | with_reducible assumption | with_reducible refine up_drewN ?_ | with_reducible refine up_drew ?_ | (with_reducible refine up_alloc ?_ ?_; rotate_left; (first | omega | (simp <;> omega) | simp)) | (with_reducible refine up_set ?_ ?_; rotate_left; (first | omega | (simp <;> omega) | simp)) | (with_reducible refine Below.trans ?_ (Below.mono (by with_reducible assumption) ?_); rotate_left; (first | omega | (simp <;> omega) | simp)))) : Below w.heap.size w _) (Nat.le_refl _))).mono ?_
    rintro e w1 ⟨av, cv, rfl, hr1, hb1⟩
    obtain ⟨hc1, hf1⟩ := bcell hb1
    have hz1 : w.heap.size < w1.heap.size := by have := hb1.size; simp at this; omega
    clear hr1
    go_wp2_with fail
    refine (hC.out _ w.heap.size (by omega) (r0.out.below ((by repeat (first | with_reducible exact Below.refl _ _ | with_reducible assumption | with_reducible refine up_drewN ?_ | with_reducible refine up_drew ?_ | (with_reducible refine up_alloc ?_ ?_; rotate_left; (first | omega | (simp <;> omega) | simp)) | (with_reducible refine up_set ?_ ?_; rotate_left; (first | omega | (simp <;> omega) | simp)) | (with_reducible refine Below.trans ?_ (Below.mono (by with_reducible assumption) ?_); rotate_left; (first | omega | (simp <;> omega) | simp)))) : Below w.heap.size w _) (Nat.le_refl _))).mono ?_
    rintro e w2 ⟨rfl, hb2⟩
    go_wp2
    go_ret
    exact ⟨rfl, (by repeat (first | with_reducible exact Below.refl _ _ | with_reducible assumption | with_reducible refine up_drewN ?_ | with_reducible refine up_drew ?_ | (with_reducible refine up_alloc ?_ ?_; rotate_left; (first | omega | (simp <;> omega) | simp)) | (with_reducible refine up_set ?_ ?_; rotate_left; (first | omega | (simp <;> omega) | simp)) | (with_reducible refine Below.trans ?_ (Below.mono (by with_reducible assumption) ?_); rotate_left; (first | omega | (simp <;> omega) | simp))))⟩
end Go.Proofs.Ytmhgemolgcnpoaa
