/-
  The walk of felllaw.JohnLifts: it returns true. Conditions: the argument reads as data.
-/
import Derived.Test.YtiibhdibeljcjaaJLift
import Derived.Test.YtiibhdibeljcjaaOpen
namespace Go.Proofs.Ytiibhdibeljcjaa
open Go.RowKit
set_option linter.unusedSimpArgs false
set_option linter.unusedVariables false

set_option maxRecDepth 100000 in
set_option maxHeartbeats 1000000 in
theorem walk_JohnLifts (x0 : Int) (a0 : Option Addr) (cap0 : Nat) (es0 : List Ed) (w : World) (b0 : Bd x0) (l0 : es0.length ≤ cap0) (m0 : cap0 ≤ maxLen) (r0 : Row encE 3 w w.heap.size a0 es0) (be0 : ∀ x ∈ es0, BdE x) :
    Calls Try.prog 14 #[.agg #[.int .i64 x0, .slice a0 es0.length cap0]] w fun e w' => e = .returned (.bool true) ∧ Below w.heap.size w w' := by
  have hl : es0.length ≤ 9223372036854775807 := by unfold maxLen at m0; omega
  replace r0 := hide r0
  by_cases h0 : netErr x0 es0 = 0
  · obtain ⟨n1, n2, n3, _⟩ := netErr_ok h0
    obtain ⟨n, rfl⟩ := Int.eq_ofNat_of_zero_le (show 0 ≤ x0 by omega)
    have hes := hide (right_of h0)
    have hC := hide (show ∀ w B, _ from fun w B hB hE => by have := rnet_any (n : Int) a0 cap0 es0 w B hB hE hl; rwa [h0] at this)
    have hJ := hide (fun w B hB hE t ht => jlift_ok n a0 cap0 es0 w B hB hE hl h0 t ht)
    clear h0
    by_cases hbad : LI n (lift n es0) = LI n (lift1 n es0)
    · have hA := hide (fun w B hB hE => anybad_any n a0 cap0 es0 w B hB hE (by omega) (by omega) n3 hes.out true (by simp [hbad]))
      have hJ2 := hide (show ∀ w B, _ from fun w B hB hE => hJ.out w B hB hE true (by simp [hbad]))
      clear hJ hbad be0
      go_enter Try.func14, Try.ntmps14
      go_wp2_with fail
      refine (hJ2.out _ w.heap.size (by simp) (r0.out.below ((by repeat (first | with_reducible exact Below.refl _ _ | with_reducible assumption | with_reducible refine up_drewN ?_ | with_reducible refine up_drew ?_ | (with_reducible refine up_alloc ?_ ?_; rotate_left; (first | omega | (simp <;> omega) | simp)) | (with_reducible refine up_set ?_ ?_; rotate_left; (first | omega | (simp <;> omega) | simp)) | (with_reducible refine Below.trans ?_ (Below.mono (by with_reducible assumption) ?_); rotate_left; (first | omega | (simp <;> omega) | simp)))) : Below w.heap.size w _) (Nat.le_refl _))).mono ?_
      rintro e w1 ⟨av, cv, rfl, hr1, hb1⟩
      simp only [if_true] at hr1 ⊢
      obtain ⟨hc1, hf1⟩ := bcell hb1
      have hz1 : w.heap.size < w1.heap.size := by have := hb1.size; simp at this; omega
      replace hr1 := hide hr1
      go_wp2_with fail
      refine (hC.out _ w.heap.size (by omega) (r0.out.below ((by repeat (first | with_reducible exact Below.refl _ _ | with_reducible assumption | with_reducible refine up_drewN ?_ | with_reducible refine up_drew ?_ | (with_reducible refine up_alloc ?_ ?_; rotate_left; (first | omega | (simp <;> omega) | simp)) | (with_reducible refine up_set ?_ ?_; rotate_left; (first | omega | (simp <;> omega) | simp)) | (with_reducible refine Below.trans ?_ (Below.mono (by with_reducible assumption) ?_); rotate_left; (first | omega | (simp <;> omega) | simp)))) : Below w.heap.size w _) (Nat.le_refl _))).mono ?_
      rintro e w2 ⟨rfl, hb2⟩
      obtain ⟨hc2, hf2⟩ := bcell hb2
      have hz2 : w1.heap.size ≤ w2.heap.size := hb2.size
      have hz22 : w.heap.size < w2.heap.size := by omega
      go_wp2_with fail
      refine (hA.out _ w.heap.size (by omega) (r0.out.below ((by repeat (first | with_reducible exact Below.refl _ _ | with_reducible assumption | with_reducible refine up_drewN ?_ | with_reducible refine up_drew ?_ | (with_reducible refine up_alloc ?_ ?_; rotate_left; (first | omega | (simp <;> omega) | simp)) | (with_reducible refine up_set ?_ ?_; rotate_left; (first | omega | (simp <;> omega) | simp)) | (with_reducible refine Below.trans ?_ (Below.mono (by with_reducible assumption) ?_); rotate_left; (first | omega | (simp <;> omega) | simp)))) : Below w.heap.size w _) (Nat.le_refl _))).mono ?_
      rintro e w3 ⟨rfl, hb3⟩
      obtain ⟨hc3, hf3⟩ := bcell hb3
      have hz3 : w2.heap.size ≤ w3.heap.size := hb3.size
      have hz33 : w.heap.size < w3.heap.size := by omega
      go_wp2_with fail
      refine (rlift_any n a0 cap0 es0 _ w.heap.size (by omega) (r0.out.below ((by repeat (first | with_reducible exact Below.refl _ _ | with_reducible assumption | with_reducible refine up_drewN ?_ | with_reducible refine up_drew ?_ | (with_reducible refine up_alloc ?_ ?_; rotate_left; (first | omega | (simp <;> omega) | simp)) | (with_reducible refine up_set ?_ ?_; rotate_left; (first | omega | (simp <;> omega) | simp)) | (with_reducible refine Below.trans ?_ (Below.mono (by with_reducible assumption) ?_); rotate_left; (first | omega | (simp <;> omega) | simp)))) : Below w.heap.size w _) (Nat.le_refl _)) (by omega) (by omega) n3 hes.out).mono ?_
      rintro e w4 ⟨av4, cv4, rfl, hr4, hb4⟩
      replace hr4 := hide hr4
      have hz4 : w3.heap.size ≤ w4.heap.size := hb4.size
      have hr1' := hide (((hr1.out.below hb2 (Nat.le_refl _)).below hb3 (by omega)).below hb4 (by omega))
      go_wp2_with fail
      refine (eqI av av4 cv cv4 n n _ _ w4 w1.heap.size w4.heap.size (li_len _ _) (li_len _ _) hr1'.out hr4.out (by omega) (by omega) true (by simp)).mono ?_
      rintro e w6 ⟨rfl, m2, rfl⟩
      go_wp2
      go_ret
      exact ⟨rfl, (by repeat (first | with_reducible exact Below.refl _ _ | with_reducible assumption | with_reducible refine up_drewN ?_ | with_reducible refine up_drew ?_ | (with_reducible refine up_alloc ?_ ?_; rotate_left; (first | omega | (simp <;> omega) | simp)) | (with_reducible refine up_set ?_ ?_; rotate_left; (first | omega | (simp <;> omega) | simp)) | (with_reducible refine Below.trans ?_ (Below.mono (by with_reducible assumption) ?_); rotate_left; (first | omega | (simp <;> omega) | simp))))⟩
    · have hA := hide (fun w B hB hE => anybad_any n a0 cap0 es0 w B hB hE (by omega) (by omega) n3 hes.out false (by simp [hbad]))
      have hJ2 := hide (show ∀ w B, _ from fun w B hB hE => hJ.out w B hB hE false (by simp [hbad]))
      clear hJ hbad be0
      go_enter Try.func14, Try.ntmps14
      go_wp2_with fail
      refine (hJ2.out _ w.heap.size (by simp) (r0.out.below ((by repeat (first | with_reducible exact Below.refl _ _ | with_reducible assumption | with_reducible refine up_drewN ?_ | with_reducible refine up_drew ?_ | (with_reducible refine up_alloc ?_ ?_; rotate_left; (first | omega | (simp <;> omega) | simp)) | (with_reducible refine up_set ?_ ?_; rotate_left; (first | omega | (simp <;> omega) | simp)) | (with_reducible refine Below.trans ?_ (Below.mono (by with_reducible assumption) ?_); rotate_left; (first | omega | (simp <;> omega) | simp)))) : Below w.heap.size w _) (Nat.le_refl _))).mono ?_
      rintro e w1 ⟨av, cv, rfl, hr1, hb1⟩
      simp only [if_false, Bool.false_eq_true] at hr1 ⊢
      obtain ⟨hc1, hf1⟩ := bcell hb1
      have hz1 : w.heap.size < w1.heap.size := by have := hb1.size; simp at this; omega
      replace hr1 := hide hr1
      go_wp2_with fail
      refine (hC.out _ w.heap.size (by omega) (r0.out.below ((by repeat (first | with_reducible exact Below.refl _ _ | with_reducible assumption | with_reducible refine up_drewN ?_ | with_reducible refine up_drew ?_ | (with_reducible refine up_alloc ?_ ?_; rotate_left; (first | omega | (simp <;> omega) | simp)) | (with_reducible refine up_set ?_ ?_; rotate_left; (first | omega | (simp <;> omega) | simp)) | (with_reducible refine Below.trans ?_ (Below.mono (by with_reducible assumption) ?_); rotate_left; (first | omega | (simp <;> omega) | simp)))) : Below w.heap.size w _) (Nat.le_refl _))).mono ?_
      rintro e w2 ⟨rfl, hb2⟩
      obtain ⟨hc2, hf2⟩ := bcell hb2
      have hz2 : w1.heap.size ≤ w2.heap.size := hb2.size
      have hz22 : w.heap.size < w2.heap.size := by omega
      go_wp2_with fail
      refine (hA.out _ w.heap.size (by omega) (r0.out.below ((by repeat (first | with_reducible exact Below.refl _ _ | with_reducible assumption | with_reducible refine up_drewN ?_ | with_reducible refine up_drew ?_ | (with_reducible refine up_alloc ?_ ?_; rotate_left; (first | omega | (simp <;> omega) | simp)) | (with_reducible refine up_set ?_ ?_; rotate_left; (first | omega | (simp <;> omega) | simp)) | (with_reducible refine Below.trans ?_ (Below.mono (by with_reducible assumption) ?_); rotate_left; (first | omega | (simp <;> omega) | simp)))) : Below w.heap.size w _) (Nat.le_refl _))).mono ?_
      rintro e w3 ⟨rfl, hb3⟩
      go_wp2
      go_ret
      exact ⟨rfl, (by repeat (first | with_reducible exact Below.refl _ _ | with_reducible assumption | with_reducible refine up_drewN ?_ | with_reducible refine up_drew ?_ | (with_reducible refine up_alloc ?_ ?_; rotate_left; (first | omega | (simp <;> omega) | simp)) | (with_reducible refine up_set ?_ ?_; rotate_left; (first | omega | (simp <;> omega) | simp)) | (with_reducible refine Below.trans ?_ (Below.mono (by with_reducible assumption) ?_); rotate_left; (first | omega | (simp <;> omega) | simp))))⟩
  · have q0 : (netErr x0 es0 != 0) = true := by simp [h0]
    have q1 : (netErr x0 es0 == 0) = false := by simpa using h0
    have hC := hide (fun w B hB hE => rnet_any x0 a0 cap0 es0 w B hB hE hl)
    have hJ := hide (fun w B hB hE => jlift_bad x0 a0 cap0 es0 w B hB hE hl h0)
    clear h0 be0
    go_enter Try.func14, Try.ntmps14
    go_wp2_with fail
    refine (hJ.out _ w.heap.size (by simp) (r0.out.below ((by repeat (first | with_reducible exact Below.refl _ _ | with_reducible assumption | with_reducible refine up_drewN ?_ | with_reducible refine up_drew ?_ | (with_reducible refine up_alloc ?_ ?_; rotate_left; (first | omega | (simp <;> omega) | simp)) | (with_reducible refine up_set ?_ ?_; rotate_left; (first | omega | (simp <;> omega) | simp)) | (with_reducible refine Below.trans ?_ (Below.mono (by with_reducible assumption) ?_); rotate_left; (first | omega | (simp <;> omega) | simp)))) : Below w.heap.size w _) (Nat.le_refl _))).mono ?_
    rintro e w1 ⟨av, cv, rfl, hr1, hb1⟩
    obtain ⟨hc1, hf1⟩ := bcell hb1
    have hz1 : w.heap.size < w1.heap.size := by have := hb1.size; simp at this; omega
    clear hr1
    go_wp2_with fail
    refine (hC.out _ w.heap.size (by omega) (r0.out.below ((by repeat (first | with_reducible exact Below.refl _ _ | with_reducible assumption | with_reducible refine up_drewN ?_ | with_reducible refine up_drew ?_ | (with_reducible refine up_alloc ?_ ?_; rotate_left; (first | omega | (simp <;> omega) | simp)) | (with_reducible refine up_set ?_ ?_; rotate_left; (first | omega | (simp <;> omega) | simp)) | (with_reducible refine Below.trans ?_ (Below.mono (by with_reducible assumption) ?_); rotate_left; (first | omega | (simp <;> omega) | simp)))) : Below w.heap.size w _) (Nat.le_refl _))).mono ?_
    rintro e w2 ⟨rfl, hb2⟩
    go_wp2
    go_ret
    exact ⟨rfl, (by repeat (first | with_reducible exact Below.refl _ _ | with_reducible assumption | with_reducible refine up_drewN ?_ | with_reducible refine up_drew ?_ | (with_reducible refine up_alloc ?_ ?_; rotate_left; (first | omega | (simp <;> omega) | simp)) | (with_reducible refine up_set ?_ ?_; rotate_left; (first | omega | (simp <;> omega) | simp)) | (with_reducible refine Below.trans ?_ (Below.mono (by with_reducible assumption) ?_); rotate_left; (first | omega | (simp <;> omega) | simp))))⟩
end Go.Proofs.Ytiibhdibeljcjaa
