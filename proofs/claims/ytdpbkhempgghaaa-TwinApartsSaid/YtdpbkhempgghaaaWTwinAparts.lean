/-
  The walk of felllaw.TwinAparts: it returns true. Conditions: the arguments read as data.
-/
import Derived.Test.YtdpbkhempgghaaaRApart
import Derived.Test.YtdpbkhempgghaaaOpen
namespace Go.Proofs.Ytdpbkhempgghaaa
open Go.RowKit
set_option linter.unusedSimpArgs false
set_option linter.unusedVariables false
set_option maxRecDepth 100000 in
set_option maxHeartbeats 2000000 in
theorem walk_TwinAparts (x0 : Int) (a0 : Option Addr) (cap0 : Nat) (es0 : List Ed) (a1 : Option Addr) (cap1 : Nat) (x1 : List Int) (a2 : Option Addr) (cap2 : Nat) (x2 : List Int) (w : World) (b0 : Bd x0) (l0 : es0.length ≤ cap0) (m0 : cap0 ≤ maxLen) (r0 : Row encE 3 w w.heap.size a0 es0) (be0 : ∀ x ∈ es0, BdE x) (l1 : x1.length ≤ cap1) (m1 : cap1 ≤ maxLen) (r1 : Row encI 1 w w.heap.size a1 x1) (b1 : ∀ x ∈ x1, Bd x) (l2 : x2.length ≤ cap2) (m2 : cap2 ≤ maxLen) (r2 : Row encI 1 w w.heap.size a2 x2) (b2 : ∀ x ∈ x2, Bd x) :
    Calls Try.prog 5 #[.agg #[.int .i64 x0, .slice a0 es0.length cap0], .slice a1 x1.length cap1, .slice a2 x2.length cap2] w fun e w' => e = .returned (.bool true) ∧ Below w.heap.size w w' := by
  have hl : es0.length ≤ 9223372036854775807 := by unfold maxLen at m0; omega
  have hl1 : x1.length ≤ 9223372036854775807 := by unfold maxLen at m1; omega
  have hl2 : x2.length ≤ 9223372036854775807 := by unfold maxLen at m2; omega
  have hRa := hide (fun w B hB hE hP => rwcost_any x0 a0 cap0 es0 a1 cap1 x1 w B hB hE hP hl hl1)
  have hRb := hide (fun w B hB hE hP => rwcost_any x0 a0 cap0 es0 a2 cap2 x2 w B hB hE hP hl hl2)
  replace r0 := hide r0
  replace r1 := hide r1
  replace r2 := hide r2
  clear be0 b1 b2
  by_cases h1 : (wcost x0 es0 x1).2 = 0
  · by_cases h2 : (wcost x0 es0 x2).2 = 0
    · have hne : netErr x0 es0 = 0 := by
        have h3 := h1
        unfold wcost at h3
        split at h3
        · rename_i hc; exact absurd h3 hc
        · rename_i hc; exact Classical.byContradiction hc
      obtain ⟨n1, n2, n3, n4⟩ := netErr_ok hne
      obtain ⟨n, rfl⟩ := Int.eq_ofNat_of_zero_le (show 0 ≤ x0 by omega)
      have hWp := (wcost_walked h1).2
      have hWq := (wcost_walked h2).2
      have hT := hide (fun w B hB hE hP hQ => apart_ok n a0 cap0 es0 a1 a2 cap1 cap2 x1 x2 w B hB hE hP hQ hl hl1 hl2 h1 h2)
      have hA := hide (fun w B hB hE hP hQ => rapart_any n a0 cap0 es0 a1 a2 cap1 cap2 x1 x2 w B hB hE hP hQ (by omega) n3 hWp hWq)
      obtain ⟨v, hv⟩ : ∃ v, v = wcost (n : Int) es0 x1 := ⟨_, rfl⟩
      obtain ⟨v1, v2⟩ := v
      obtain ⟨u, hu⟩ : ∃ v, v = wcost (n : Int) es0 x2 := ⟨_, rfl⟩
      obtain ⟨u1, u2⟩ := u
      rw [← hv] at hRa h1
      rw [← hu] at hRb h2
      simp only at h1 h2
      subst h1 h2
      replace hv := hide hv
      replace hu := hide hu
      clear hne n4 hWp hWq
      go_enter Try.func5, Try.ntmps5
      go_wp2_with fail
      refine (hT.out _ w.heap.size (by simp) (r0.out.below ((by repeat (first | with_reducible exact Below.refl _ _ | with_reducible assumption | with_reducible refine up_drewN ?_ | with_reducible refine up_drew ?_ | (with_reducible refine up_alloc ?_ ?_; rotate_left; (first | omega | (simp <;> omega) | simp)) | (with_reducible refine up_set ?_ ?_; rotate_left; (first | omega | (simp <;> omega) | simp)) | (with_reducible refine Below.trans ?_ (Below.mono (by with_reducible assumption) ?_); rotate_left; (first | omega | (simp <;> omega) | simp)))) : Below w.heap.size w _) (Nat.le_refl _)) (r1.out.below ((by repeat (first | with_reducible exact Below.refl _ _ | with_reducible assumption | with_reducible refine up_drewN ?_ | with_reducible refine up_drew ?_ | (with_reducible refine up_alloc ?_ ?_; rotate_left; (first | omega | (simp <;> omega) | simp)) | (with_reducible refine up_set ?_ ?_; rotate_left; (first | omega | (simp <;> omega) | simp)) | (with_reducible refine Below.trans ?_ (Below.mono (by with_reducible assumption) ?_); rotate_left; (first | omega | (simp <;> omega) | simp)))) : Below w.heap.size w _) (Nat.le_refl _)) (r2.out.below ((by repeat (first | with_reducible exact Below.refl _ _ | with_reducible assumption | with_reducible refine up_drewN ?_ | with_reducible refine up_drew ?_ | (with_reducible refine up_alloc ?_ ?_; rotate_left; (first | omega | (simp <;> omega) | simp)) | (with_reducible refine up_set ?_ ?_; rotate_left; (first | omega | (simp <;> omega) | simp)) | (with_reducible refine Below.trans ?_ (Below.mono (by with_reducible assumption) ?_); rotate_left; (first | omega | (simp <;> omega) | simp)))) : Below w.heap.size w _) (Nat.le_refl _))).mono ?_
      rintro e w1 ⟨t, rfl, ht, hb1⟩
      have k0 : w1.cell? ⟨w.heap.size, 0, none⟩ = some (.int .i64 (n : Int)) := cu_below hb1 (by simp [go_sem]) (by simp <;> omega)
      have k1 : w1.cell? ⟨w.heap.size, 1, none⟩ = some (.slice a0 es0.length cap0) := cu_below hb1 (by simp [go_sem]) (by simp <;> omega)
      have hz1 : w.heap.size < w1.heap.size := cell_lt k0
      have hbw1 := hide (show Below w.heap.size w w1 from (by repeat (first | with_reducible exact Below.refl _ _ | with_reducible assumption | with_reducible refine up_drewN ?_ | with_reducible refine up_drew ?_ | (with_reducible refine up_alloc ?_ ?_; rotate_left; (first | omega | (simp <;> omega) | simp)) | (with_reducible refine up_set ?_ ?_; rotate_left; (first | omega | (simp <;> omega) | simp)) | (with_reducible refine Below.trans ?_ (Below.mono (by with_reducible assumption) ?_); rotate_left; (first | omega | (simp <;> omega) | simp)))))
      replace ht := hide ht
      clear hb1 hT
      go_wp2_with fail
      refine (hRa.out _ w.heap.size (by omega) (r0.out.below hbw1.out (Nat.le_refl _)) (r1.out.below hbw1.out (Nat.le_refl _))).mono ?_
      rintro e w2 ⟨rfl, hb2⟩
      have k2 := cu_below hb2 k0 (by simp; omega)
      have k3 := cu_below hb2 k1 (by simp; omega)
      have hz2 : w.heap.size < w2.heap.size := cell_lt k2
      have hbw2 := hide (hbw1.out.trans (hb2.mono (by omega)))
      clear hb2 hRa hbw1 k0 k1
      go_wp2_with fail
      refine (hRb.out _ w.heap.size (by omega) (r0.out.below hbw2.out (Nat.le_refl _)) (r2.out.below hbw2.out (Nat.le_refl _))).mono ?_
      rintro e w3 ⟨rfl, hb3⟩
      have k4 := cu_below hb3 k2 (by simp; omega)
      have k5 := cu_below hb3 k3 (by simp; omega)
      have hz3 : w.heap.size < w3.heap.size := cell_lt k4
      have hbw3 := hide (hbw2.out.trans (hb3.mono (by omega)))
      clear hb3 hRb hbw2 k2 k3
      go_wp2_with fail
      refine (hA.out _ w.heap.size (by omega) (r0.out.below hbw3.out (Nat.le_refl _)) (r1.out.below hbw3.out (Nat.le_refl _)) (r2.out.below hbw3.out (Nat.le_refl _))).mono ?_
      rintro e w4 ⟨t', rfl, ht', hb4⟩
      obtain rfl : t' = t := Bool.eq_iff_iff.2 (ht'.trans ht.out.symm)
      have hbw4 := hide (hbw3.out.trans (hb4.mono (by omega)))
      have q1 : (t' == t') = true := by simp
      clear hb4 hA hbw3 k4 k5 ht ht'
      go_wp2
      all_goals
        go_ret
        exact ⟨by first | rfl | simp, by first | exact hbw4.out | exact hbw4.out.drew | exact up_drewN hbw4.out⟩
    · have hT := hide (fun w B hB hE hP hQ => apart_bad2 x0 a0 cap0 es0 a1 a2 cap1 cap2 x1 x2 w B hB hE hP hQ hl hl1 hl2 h1 h2)
      obtain ⟨v, hv⟩ : ∃ v, v = wcost x0 es0 x1 := ⟨_, rfl⟩
      obtain ⟨v1, v2⟩ := v
      obtain ⟨u, hu⟩ : ∃ v, v = wcost x0 es0 x2 := ⟨_, rfl⟩
      obtain ⟨u1, u2⟩ := u
      rw [← hv] at hRa h1
      rw [← hu] at hRb h2 hT
      simp only at h1 h2
      subst h1
      have q0 : (u2 != 0) = true := by simpa using h2
      replace hv := hide hv
      replace hu := hide hu
      clear h2
      go_enter Try.func5, Try.ntmps5
      go_wp2_with fail
      refine (hT.out _ w.heap.size (by simp) (r0.out.below ((by repeat (first | with_reducible exact Below.refl _ _ | with_reducible assumption | with_reducible refine up_drewN ?_ | with_reducible refine up_drew ?_ | (with_reducible refine up_alloc ?_ ?_; rotate_left; (first | omega | (simp <;> omega) | simp)) | (with_reducible refine up_set ?_ ?_; rotate_left; (first | omega | (simp <;> omega) | simp)) | (with_reducible refine Below.trans ?_ (Below.mono (by with_reducible assumption) ?_); rotate_left; (first | omega | (simp <;> omega) | simp)))) : Below w.heap.size w _) (Nat.le_refl _)) (r1.out.below ((by repeat (first | with_reducible exact Below.refl _ _ | with_reducible assumption | with_reducible refine up_drewN ?_ | with_reducible refine up_drew ?_ | (with_reducible refine up_alloc ?_ ?_; rotate_left; (first | omega | (simp <;> omega) | simp)) | (with_reducible refine up_set ?_ ?_; rotate_left; (first | omega | (simp <;> omega) | simp)) | (with_reducible refine Below.trans ?_ (Below.mono (by with_reducible assumption) ?_); rotate_left; (first | omega | (simp <;> omega) | simp)))) : Below w.heap.size w _) (Nat.le_refl _)) (r2.out.below ((by repeat (first | with_reducible exact Below.refl _ _ | with_reducible assumption | with_reducible refine up_drewN ?_ | with_reducible refine up_drew ?_ | (with_reducible refine up_alloc ?_ ?_; rotate_left; (first | omega | (simp <;> omega) | simp)) | (with_reducible refine up_set ?_ ?_; rotate_left; (first | omega | (simp <;> omega) | simp)) | (with_reducible refine Below.trans ?_ (Below.mono (by with_reducible assumption) ?_); rotate_left; (first | omega | (simp <;> omega) | simp)))) : Below w.heap.size w _) (Nat.le_refl _))).mono ?_
      rintro e w1 ⟨rfl, hb1⟩
      have k0 : w1.cell? ⟨w.heap.size, 0, none⟩ = some (.int .i64 x0) := cu_below hb1 (by simp [go_sem]) (by simp <;> omega)
      have k1 : w1.cell? ⟨w.heap.size, 1, none⟩ = some (.slice a0 es0.length cap0) := cu_below hb1 (by simp [go_sem]) (by simp <;> omega)
      have hz1 : w.heap.size < w1.heap.size := cell_lt k0
      have hbw1 := hide (show Below w.heap.size w w1 from (by repeat (first | with_reducible exact Below.refl _ _ | with_reducible assumption | with_reducible refine up_drewN ?_ | with_reducible refine up_drew ?_ | (with_reducible refine up_alloc ?_ ?_; rotate_left; (first | omega | (simp <;> omega) | simp)) | (with_reducible refine up_set ?_ ?_; rotate_left; (first | omega | (simp <;> omega) | simp)) | (with_reducible refine Below.trans ?_ (Below.mono (by with_reducible assumption) ?_); rotate_left; (first | omega | (simp <;> omega) | simp)))))
      clear hb1 hT
      go_wp2_with fail
      refine (hRa.out _ w.heap.size (by omega) (r0.out.below hbw1.out (Nat.le_refl _)) (r1.out.below hbw1.out (Nat.le_refl _))).mono ?_
      rintro e w2 ⟨rfl, hb2⟩
      have k2 := cu_below hb2 k0 (by simp; omega)
      have k3 := cu_below hb2 k1 (by simp; omega)
      have hz2 : w.heap.size < w2.heap.size := cell_lt k2
      have hbw2 := hide (hbw1.out.trans (hb2.mono (by omega)))
      clear hb2 hRa hbw1 k0 k1
      go_wp2_with fail
      refine (hRb.out _ w.heap.size (by omega) (r0.out.below hbw2.out (Nat.le_refl _)) (r2.out.below hbw2.out (Nat.le_refl _))).mono ?_
      rintro e w3 ⟨rfl, hb3⟩
      have hbw3 := hide (hbw2.out.trans (hb3.mono (by omega)))
      clear hb3 hRb hbw2 k2 k3
      go_wp2
      all_goals
        go_ret
        exact ⟨by first | rfl | simp, by first | exact hbw3.out | exact hbw3.out.drew | exact up_drewN hbw3.out⟩
  · have hT := hide (fun w B hB hE hP => apart_bad1 x0 a0 cap0 es0 a1 a2 cap1 cap2 x1 x2 w B hB hE hP hl hl1 h1)
    obtain ⟨v, hv⟩ : ∃ v, v = wcost x0 es0 x1 := ⟨_, rfl⟩
    obtain ⟨v1, v2⟩ := v
    rw [← hv] at hRa h1 hT
    simp only at h1
    have q0 : (v2 != 0) = true := by simpa using h1
    have q1 : (v2 == 0) = false := by simpa using h1
    replace hv := hide hv
    clear h1 hRb
    go_enter Try.func5, Try.ntmps5
    go_wp2_with fail
    refine (hT.out _ w.heap.size (by simp) (r0.out.below ((by repeat (first | with_reducible exact Below.refl _ _ | with_reducible assumption | with_reducible refine up_drewN ?_ | with_reducible refine up_drew ?_ | (with_reducible refine up_alloc ?_ ?_; rotate_left; (first | omega | (simp <;> omega) | simp)) | (with_reducible refine up_set ?_ ?_; rotate_left; (first | omega | (simp <;> omega) | simp)) | (with_reducible refine Below.trans ?_ (Below.mono (by with_reducible assumption) ?_); rotate_left; (first | omega | (simp <;> omega) | simp)))) : Below w.heap.size w _) (Nat.le_refl _)) (r1.out.below ((by repeat (first | with_reducible exact Below.refl _ _ | with_reducible assumption | with_reducible refine up_drewN ?_ | with_reducible refine up_drew ?_ | (with_reducible refine up_alloc ?_ ?_; rotate_left; (first | omega | (simp <;> omega) | simp)) | (with_reducible refine up_set ?_ ?_; rotate_left; (first | omega | (simp <;> omega) | simp)) | (with_reducible refine Below.trans ?_ (Below.mono (by with_reducible assumption) ?_); rotate_left; (first | omega | (simp <;> omega) | simp)))) : Below w.heap.size w _) (Nat.le_refl _))).mono ?_
    rintro e w1 ⟨rfl, hb1⟩
    have k0 : w1.cell? ⟨w.heap.size, 0, none⟩ = some (.int .i64 x0) := cu_below hb1 (by simp [go_sem]) (by simp <;> omega)
    have k1 : w1.cell? ⟨w.heap.size, 1, none⟩ = some (.slice a0 es0.length cap0) := cu_below hb1 (by simp [go_sem]) (by simp <;> omega)
    have hz1 : w.heap.size < w1.heap.size := cell_lt k0
    have hbw1 := hide (show Below w.heap.size w w1 from (by repeat (first | with_reducible exact Below.refl _ _ | with_reducible assumption | with_reducible refine up_drewN ?_ | with_reducible refine up_drew ?_ | (with_reducible refine up_alloc ?_ ?_; rotate_left; (first | omega | (simp <;> omega) | simp)) | (with_reducible refine up_set ?_ ?_; rotate_left; (first | omega | (simp <;> omega) | simp)) | (with_reducible refine Below.trans ?_ (Below.mono (by with_reducible assumption) ?_); rotate_left; (first | omega | (simp <;> omega) | simp)))))
    clear hb1 hT
    go_wp2_with fail
    refine (hRa.out _ w.heap.size (by omega) (r0.out.below hbw1.out (Nat.le_refl _)) (r1.out.below hbw1.out (Nat.le_refl _))).mono ?_
    rintro e w2 ⟨rfl, hb2⟩
    have hbw2 := hide (hbw1.out.trans (hb2.mono (by omega)))
    clear hb2 hRa hbw1 k0 k1
    go_wp2
    all_goals
      go_ret
      exact ⟨by first | rfl | simp, by first | exact hbw2.out | exact hbw2.out.drew | exact up_drewN hbw2.out⟩
end Go.Proofs.Ytdpbkhempgghaaa
