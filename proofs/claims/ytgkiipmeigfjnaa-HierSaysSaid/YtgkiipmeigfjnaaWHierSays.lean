/-
  The walk of felllaw.HierSays: it returns true. Conditions: the arguments read as data.
-/
import Derived.Test.YtgkiipmeigfjnaaHierR2
import Derived.Test.YtgkiipmeigfjnaaGridIn
import Derived.Test.YtgkiipmeigfjnaaEqL
import Derived.Test.YtgkiipmeigfjnaaOpen
namespace Go.Proofs.Ytgkiipmeigfjnaa
open Go.RowKit
set_option linter.unusedSimpArgs false
set_option linter.unusedVariables false
set_option maxRecDepth 100000 in
set_option maxHeartbeats 4000000 in
theorem walk_HierSays (x0 y0 : Int) (a0 : Option Addr) (cap0 : Nat) (cs0 : List Int) (x1 : Int) (x2 : Int) (w : World) (b0 : Bd x0) (c0 : Bd y0) (l0 : cs0.length ≤ cap0) (m0 : cap0 ≤ maxLen) (r0 : Row encI 1 w w.heap.size a0 cs0) (be0 : ∀ x ∈ cs0, Bd x) (b1 : Bd x1) (b2 : Bd x2) :
    Calls Try.prog 7 #[.agg #[.int .i64 x0, .int .i64 y0, .slice a0 cs0.length cap0], .int .i64 x1, .int .i64 x2] w fun e w' => e = .returned (.bool true) ∧ Below w.heap.size w w' := by
  have hl : cs0.length ≤ 9223372036854775807 := by unfold maxLen at m0; omega
  replace r0 := hide r0
  have hS := hide (fun w B hB hE => hsquare_any x0 y0 x1 x2 a0 cap0 cs0 w B hB hE hl)
  have hL1 := hide (fun (b : Nat) w B hB hE hP => hrlook_any x0 y0 a0 cap0 cs0 x1 (some ⟨b, 0, none⟩) 1 1 [x2] rfl w B hB hE hP hl (by omega))
  have hL0 := hide (fun w B hB hE => hrlook_any x0 y0 a0 cap0 cs0 x1 none 0 0 [] rfl w B hB hE (Row.nil _ _ _ _ _) hl (by omega))
  have e0 : hcErr x0 y0 cs0 x1 [] = hlErr x0 y0 cs0 x1 := by
    unfold hcErr
    by_cases h : hlErr x0 y0 cs0 x1 = 0
    · rw [if_neg (by simp [h]), h]; rfl
    · rw [if_pos h]
  rw [e0] at hL0
  clear e0 be0
  by_cases h0 : hlErr x0 y0 cs0 x1 = 0
  · obtain ⟨g0, k1, k8⟩ := hl_ok h0
    have h64 := grid_64 g0
    have hbds := gridErr_ok g0
    have bb1 := hbds.1
    have bb2 := hbds.2.1
    clear hbds
    have hin := gridNet_in g0
    have hD := hide (fun w B hB hE => hdoors_ok x0 y0 x1 a0 cap0 cs0 w B hB hE hl h0 _ rfl (fun e he => by have := hin e he; omega))
    have hR := hide (fun w B hB hE => rdoors_ok x0 y0 x1 a0 cap0 cs0 w B hB hE h0 _ rfl (fun e he => by have := hin e he; omega))
    have hdl := doorL_len (dr (betE x0 x1 (gridNet x0 y0 cs0 cs0.length))) cs0.length
    generalize doorL (dr (betE x0 x1 (gridNet x0 y0 cs0 cs0.length))) cs0.length = ds at *
    rw [h0] at hL0
    clear hin
    obtain ⟨m, hm⟩ : ∃ m, m = ds.length := ⟨_, rfl⟩
    rw [← hm] at hdl
    unfold DoorBack at hD
    unfold DoorBack1 at hR
    rw [← hm] at hD hR
    replace hm := hide hm
    by_cases h1 : hcErr x0 y0 cs0 x1 [x2] = 0
    · obtain ⟨_, hp⟩ := hc_ok h1
      obtain ⟨p0, p1⟩ := hp x2 (by simp)
      rw [h1] at hS hL1
      simp only [if_true] at hS
      have hSq := hide (fun w => rsq_any x0 y0 x1 x2 (.slice a0 cs0.length cap0) w bb1 bb2 k1 k8 p0 (by omega) ⟨_, _, _, rfl⟩)
      clear h0 h1 hp g0
      go_enter Try.func7, Try.ntmps7
      go_wp2_with fail
      refine (hS.out _ w.heap.size (by simp) (r0.out.below ((by repeat (first | with_reducible exact Below.refl _ _ | with_reducible assumption | with_reducible refine up_drewN ?_ | with_reducible refine up_drew ?_ | (with_reducible refine up_alloc ?_ ?_; rotate_left; (first | omega | (simp <;> omega) | simp)) | (with_reducible refine up_set ?_ ?_; rotate_left; (first | omega | (simp <;> omega) | simp)) | (with_reducible refine Below.trans ?_ (Below.mono (by with_reducible assumption) ?_); rotate_left; (first | omega | (simp <;> omega) | simp)))) : Below w.heap.size w _) (Nat.le_refl _))).mono ?_
      rintro e w1 ⟨rfl, hb1⟩
      obtain ⟨hc1, hf1⟩ := bcell hb1; have hz1 : w.heap.size < w1.heap.size := (by have := hb1.size; (try simp at this); omega)
      have hb1' := hide (show Below w.heap.size w w1 from (by repeat (first | with_reducible exact Below.refl _ _ | with_reducible assumption | with_reducible refine up_drewN ?_ | with_reducible refine up_drew ?_ | (with_reducible refine up_alloc ?_ ?_; rotate_left; (first | omega | (simp <;> omega) | simp)) | (with_reducible refine up_set ?_ ?_; rotate_left; (first | omega | (simp <;> omega) | simp)) | (with_reducible refine Below.trans ?_ (Below.mono (by with_reducible assumption) ?_); rotate_left; (first | omega | (simp <;> omega) | simp)))))
      go_wp2_with fail
      refine (hL1.out _ _ (w1.heap.size + 1) (by simp) ((r0.out.below (up_alloc hb1'.out (by omega)) (Nat.le_refl _)).mono (by omega)) ((row1 (by simp [go_sem])).mono (by simp))).mono ?_
      rintro e w2 ⟨rfl, hb2⟩
      have hb2w := hide (unalloc (hb2.mono (by simp)) (Nat.le_refl _) : Below w1.heap.size w1 w2)
      have j0 : w2.cell? ⟨w.heap.size, 0, none⟩ = some (.int .i64 x0) := cu_below hb2w.out (by rw [hc1 _ _ (by simp)]; simp [go_sem]) hz1
      have j1 : w2.cell? ⟨w.heap.size, 1, none⟩ = some (.int .i64 y0) := cu_below hb2w.out (by rw [hc1 _ _ (by simp)]; simp [go_sem]) hz1
      have j2 : w2.cell? ⟨w.heap.size, 2, none⟩ = some (.slice a0 cs0.length cap0) := cu_below hb2w.out (by rw [hc1 _ _ (by simp)]; simp [go_sem]) hz1
      have hz2 : w.heap.size < w2.heap.size := cell_lt j0
      have hbw2 := hide (hb1'.out.trans (hb2w.out.mono (by omega)))
      clear hb1 hb2 hc1 hf1
      go_wp2_with fail
      refine (hSq.out _).mono ?_
      rintro e w3 ⟨rfl, hb3⟩
      have k0 := cu_below hb3 j0 hz2
      have k1' := cu_below hb3 j1 hz2
      have k2 := cu_below hb3 j2 hz2
      have hz3 : w.heap.size < w3.heap.size := cell_lt k0
      have hbw3 := hide (hbw2.out.trans (hb3.mono (by omega)))
      clear hb3 j0 j1 j2
      go_wp2_with fail
      refine (hD.out _ w.heap.size (by omega) (r0.out.below hbw3.out (Nat.le_refl _))).mono ?_
      rintro e w4 ⟨ad, cd, rfl, hr4, hb4⟩
      replace hr4 := hide hr4
      have j0 := cu_below hb4 k0 hz3
      have j1 := cu_below hb4 k1' hz3
      have j2 := cu_below hb4 k2 hz3
      have hz4 : w.heap.size < w4.heap.size := cell_lt j0
      have hbw4 := hide (hbw3.out.trans (hb4.mono (by omega)))
      clear hb4 k0 k1' k2
      go_wp2_with fail
      refine (hL0.out _ w.heap.size (by omega) (r0.out.below hbw4.out (Nat.le_refl _))).mono ?_
      rintro e w5 ⟨rfl, hb5⟩
      have k0 := cu_below hb5 j0 hz4
      have k1' := cu_below hb5 j1 hz4
      have k2 := cu_below hb5 j2 hz4
      have hz5 : w.heap.size < w5.heap.size := cell_lt k0
      have hr5 := hide (hr4.out.below hb5 (Nat.le_refl _))
      have hz45 := hb5.size
      have hbw5 := hide (hbw4.out.trans (hb5.mono (by omega)))
      clear hb5 j0 j1 j2
      go_wp2_with fail
      refine (hR.out _ w.heap.size (by omega) (r0.out.below hbw5.out (Nat.le_refl _))).mono ?_
      rintro e w6 ⟨ar, cr, rfl, hr6, hb6⟩
      replace hr6 := hide hr6
      have hr7 := hide (hr5.out.below hb6 hz45)
      have hbw6 := hide (hbw5.out.trans (hb6.mono (by omega)))
      clear hb6
      go_wp2_with fail
      refine (eqI ad ar cd cr m m ds ds w6 w4.heap.size w6.heap.size hm.out.symm hm.out.symm hr7.out hr6.out (by omega) (by omega) true (by simp)).mono ?_
      rintro e w11 ⟨rfl, m2, rfl⟩
      go_wp2
      go_ret
      exact ⟨rfl, up_drewN hbw6.out⟩
    · have q0 : (hcErr x0 y0 cs0 x1 [x2] != 0) = true := by simp [h1]
      have q1 : (hcErr x0 y0 cs0 x1 [x2] != hcErr x0 y0 cs0 x1 [x2]) = false := by simp
      simp only [if_neg h1] at hS
      clear h0 h1 g0
      go_enter Try.func7, Try.ntmps7
      go_wp2_with fail
      refine (hS.out _ w.heap.size (by simp) (r0.out.below ((by repeat (first | with_reducible exact Below.refl _ _ | with_reducible assumption | with_reducible refine up_drewN ?_ | with_reducible refine up_drew ?_ | (with_reducible refine up_alloc ?_ ?_; rotate_left; (first | omega | (simp <;> omega) | simp)) | (with_reducible refine up_set ?_ ?_; rotate_left; (first | omega | (simp <;> omega) | simp)) | (with_reducible refine Below.trans ?_ (Below.mono (by with_reducible assumption) ?_); rotate_left; (first | omega | (simp <;> omega) | simp)))) : Below w.heap.size w _) (Nat.le_refl _))).mono ?_
      rintro e w1 ⟨rfl, hb1⟩
      obtain ⟨hc1, hf1⟩ := bcell hb1; have hz1 : w.heap.size < w1.heap.size := (by have := hb1.size; (try simp at this); omega)
      have hb1' := hide (show Below w.heap.size w w1 from (by repeat (first | with_reducible exact Below.refl _ _ | with_reducible assumption | with_reducible refine up_drewN ?_ | with_reducible refine up_drew ?_ | (with_reducible refine up_alloc ?_ ?_; rotate_left; (first | omega | (simp <;> omega) | simp)) | (with_reducible refine up_set ?_ ?_; rotate_left; (first | omega | (simp <;> omega) | simp)) | (with_reducible refine Below.trans ?_ (Below.mono (by with_reducible assumption) ?_); rotate_left; (first | omega | (simp <;> omega) | simp)))))
      go_wp2_with fail
      refine (hL1.out _ _ (w1.heap.size + 1) (by simp) ((r0.out.below (up_alloc hb1'.out (by omega)) (Nat.le_refl _)).mono (by omega)) ((row1 (by simp [go_sem])).mono (by simp))).mono ?_
      rintro e w2 ⟨rfl, hb2⟩
      have hb2w := hide (unalloc (hb2.mono (by simp)) (Nat.le_refl _) : Below w1.heap.size w1 w2)
      have k0 : w2.cell? ⟨w.heap.size, 0, none⟩ = some (.int .i64 x0) := cu_below hb2w.out (by rw [hc1 _ _ (by simp)]; simp [go_sem]) hz1
      have k1' : w2.cell? ⟨w.heap.size, 1, none⟩ = some (.int .i64 y0) := cu_below hb2w.out (by rw [hc1 _ _ (by simp)]; simp [go_sem]) hz1
      have k2 : w2.cell? ⟨w.heap.size, 2, none⟩ = some (.slice a0 cs0.length cap0) := cu_below hb2w.out (by rw [hc1 _ _ (by simp)]; simp [go_sem]) hz1
      have hz3 : w.heap.size < w2.heap.size := cell_lt k0
      have hbw3 := hide (hb1'.out.trans (hb2w.out.mono (by omega)))
      clear hb1 hb2 hc1 hf1
      go_wp2_with fail
      refine (hD.out _ w.heap.size (by omega) (r0.out.below hbw3.out (Nat.le_refl _))).mono ?_
      rintro e w4 ⟨ad, cd, rfl, hr4, hb4⟩
      replace hr4 := hide hr4
      have j0 := cu_below hb4 k0 hz3
      have j1 := cu_below hb4 k1' hz3
      have j2 := cu_below hb4 k2 hz3
      have hz4 : w.heap.size < w4.heap.size := cell_lt j0
      have hbw4 := hide (hbw3.out.trans (hb4.mono (by omega)))
      clear hb4 k0 k1' k2
      go_wp2_with fail
      refine (hL0.out _ w.heap.size (by omega) (r0.out.below hbw4.out (Nat.le_refl _))).mono ?_
      rintro e w5 ⟨rfl, hb5⟩
      have k0 := cu_below hb5 j0 hz4
      have k1' := cu_below hb5 j1 hz4
      have k2 := cu_below hb5 j2 hz4
      have hz5 : w.heap.size < w5.heap.size := cell_lt k0
      have hr5 := hide (hr4.out.below hb5 (Nat.le_refl _))
      have hz45 := hb5.size
      have hbw5 := hide (hbw4.out.trans (hb5.mono (by omega)))
      clear hb5 j0 j1 j2
      go_wp2_with fail
      refine (hR.out _ w.heap.size (by omega) (r0.out.below hbw5.out (Nat.le_refl _))).mono ?_
      rintro e w6 ⟨ar, cr, rfl, hr6, hb6⟩
      replace hr6 := hide hr6
      have hr7 := hide (hr5.out.below hb6 hz45)
      have hbw6 := hide (hbw5.out.trans (hb6.mono (by omega)))
      clear hb6
      go_wp2_with fail
      refine (eqI ad ar cd cr m m ds ds w6 w4.heap.size w6.heap.size hm.out.symm hm.out.symm hr7.out hr6.out (by omega) (by omega) true (by simp)).mono ?_
      rintro e w11 ⟨rfl, m2, rfl⟩
      go_wp2
      go_ret
      exact ⟨rfl, up_drewN hbw6.out⟩
  · have h1 : hcErr x0 y0 cs0 x1 [x2] = hlErr x0 y0 cs0 x1 := by unfold hcErr; rw [if_pos h0]
    rw [h1] at hS hL1
    simp only [if_neg h0] at hS
    have q0 : (hlErr x0 y0 cs0 x1 != 0) = true := by simp [h0]
    have q1 : (hlErr x0 y0 cs0 x1 != hlErr x0 y0 cs0 x1) = false := by simp
    have hD := hide (fun w B hB hE => hdoors_bad x0 y0 x1 a0 cap0 cs0 w B hB hE hl h0)
    clear h0 h1
    go_enter Try.func7, Try.ntmps7
    go_wp2_with fail
    refine (hS.out _ w.heap.size (by simp) (r0.out.below ((by repeat (first | with_reducible exact Below.refl _ _ | with_reducible assumption | with_reducible refine up_drewN ?_ | with_reducible refine up_drew ?_ | (with_reducible refine up_alloc ?_ ?_; rotate_left; (first | omega | (simp <;> omega) | simp)) | (with_reducible refine up_set ?_ ?_; rotate_left; (first | omega | (simp <;> omega) | simp)) | (with_reducible refine Below.trans ?_ (Below.mono (by with_reducible assumption) ?_); rotate_left; (first | omega | (simp <;> omega) | simp)))) : Below w.heap.size w _) (Nat.le_refl _))).mono ?_
    rintro e w1 ⟨rfl, hb1⟩
    obtain ⟨hc1, hf1⟩ := bcell hb1; have hz1 : w.heap.size < w1.heap.size := (by have := hb1.size; (try simp at this); omega)
    have hb1' := hide (show Below w.heap.size w w1 from (by repeat (first | with_reducible exact Below.refl _ _ | with_reducible assumption | with_reducible refine up_drewN ?_ | with_reducible refine up_drew ?_ | (with_reducible refine up_alloc ?_ ?_; rotate_left; (first | omega | (simp <;> omega) | simp)) | (with_reducible refine up_set ?_ ?_; rotate_left; (first | omega | (simp <;> omega) | simp)) | (with_reducible refine Below.trans ?_ (Below.mono (by with_reducible assumption) ?_); rotate_left; (first | omega | (simp <;> omega) | simp)))))
    go_wp2_with fail
    refine (hL1.out _ _ (w1.heap.size + 1) (by simp) ((r0.out.below (up_alloc hb1'.out (by omega)) (Nat.le_refl _)).mono (by omega)) ((row1 (by simp [go_sem])).mono (by simp))).mono ?_
    rintro e w2 ⟨rfl, hb2⟩
    have hb2w := hide (unalloc (hb2.mono (by simp)) (Nat.le_refl _) : Below w1.heap.size w1 w2)
    have k0 : w2.cell? ⟨w.heap.size, 0, none⟩ = some (.int .i64 x0) := cu_below hb2w.out (by rw [hc1 _ _ (by simp)]; simp [go_sem]) hz1
    have k1' : w2.cell? ⟨w.heap.size, 1, none⟩ = some (.int .i64 y0) := cu_below hb2w.out (by rw [hc1 _ _ (by simp)]; simp [go_sem]) hz1
    have k2 : w2.cell? ⟨w.heap.size, 2, none⟩ = some (.slice a0 cs0.length cap0) := cu_below hb2w.out (by rw [hc1 _ _ (by simp)]; simp [go_sem]) hz1
    have hz3 : w.heap.size < w2.heap.size := cell_lt k0
    have hbw3 := hide (hb1'.out.trans (hb2w.out.mono (by omega)))
    clear hb1 hb2 hc1 hf1
    go_wp2_with fail
    refine (hD.out _ w.heap.size (by omega) (r0.out.below hbw3.out (Nat.le_refl _))).mono ?_
    rintro e w4 ⟨ad, cd, rfl, _, hb4⟩
    have j0 := cu_below hb4 k0 hz3
    have j1 := cu_below hb4 k1' hz3
    have j2 := cu_below hb4 k2 hz3
    have hz4 : w.heap.size < w4.heap.size := cell_lt j0
    have hbw4 := hide (hbw3.out.trans (hb4.mono (by omega)))
    clear hb4 k0 k1' k2
    go_wp2_with fail
    refine (hL0.out _ w.heap.size (by omega) (r0.out.below hbw4.out (Nat.le_refl _))).mono ?_
    rintro e w5 ⟨rfl, hb5⟩
    have hbw5 := hide (hbw4.out.trans (hb5.mono (by omega)))
    go_wp2
    go_ret
    exact ⟨rfl, hbw5.out⟩
end Go.Proofs.Ytgkiipmeigfjnaa
