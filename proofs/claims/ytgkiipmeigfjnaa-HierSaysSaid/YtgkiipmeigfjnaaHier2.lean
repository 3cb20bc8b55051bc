/-
  What hier.Square, the reference's HierLook and Square return. Conditions: that the slices read.
-/
import Derived.Test.YtgkiipmeigfjnaaHier1
namespace Go.Proofs.Ytgkiipmeigfjnaa
open Go.RowKit
set_option linter.unusedSimpArgs false
set_option linter.unusedVariables false
def hcErr (W H : Int) (cs : List Int) (k : Int) (ps : List Int) : Int := if hlErr W H cs k ≠ 0 then hlErr W H cs k else plErr (cs.length : Int) ps
theorem hc_ok {W H : Int} {cs : List Int} {k : Int} {ps : List Int} (h : hcErr W H cs k ps = 0) : hlErr W H cs k = 0 ∧ ∀ x ∈ ps, 0 ≤ x ∧ x < (cs.length : Int) := by
  unfold hcErr at h
  by_cases h0 : hlErr W H cs k = 0
  · rw [if_neg (by simp [h0])] at h
    exact ⟨h0, pl_all h⟩
  · rw [if_pos h0] at h; exact absurd h h0
theorem grid_64 {W H : Int} {cs : List Int} (h : gridErr W H cs = 0) : cs.length ≤ 64 := by
  obtain ⟨b1, b2, b3, b4, b5, _⟩ := gridErr_ok h
  have : W * H ≤ 8 * 8 := Int.mul_le_mul b2 b4 (by omega) (by omega)
  omega
set_option maxHeartbeats 1000000 in
theorem rsq_any (W H k p : Int) (v : Value) (w : World) (hW : 1 ≤ W) (hW8 : W ≤ 8) (hk : 1 ≤ k) (hk8 : k ≤ 8) (hp0 : 0 ≤ p) (hp : p < 64) (hv : ∃ a n c, v = .slice a n c) :
    Calls Try.prog 29 #[.agg #[.int .i64 W, .int .i64 H, v], .int .i64 k, .int .i64 p] w fun e w' => e = .returned (.int .i64 (sqN W k p)) ∧ Below w.heap.size w w' := by
  obtain ⟨a, n, c, rfl⟩ := hv
  obtain ⟨b1, b2, b3, b4, b5, b6, b7, b8, b9, b10⟩ := sq_bounds hW hW8 hk hk8 hp0 hp
  have e1 : p.tdiv W = p / W := Int.tdiv_eq_ediv_of_nonneg hp0
  have e2 : (p / W).tdiv k = p / W / k := Int.tdiv_eq_ediv_of_nonneg b1
  have e4 : p.tmod W = p % W := Int.tmod_eq_emod_of_nonneg hp0
  have e5 : (p % W).tdiv k = p % W / k := Int.tdiv_eq_ediv_of_nonneg b7
  have hr := hide (show ∀ ac, ac = (W + k - 1) / k → sqN W k p = p / W / k * ac + p % W / k from by rintro ac rfl; rfl)
  generalize p / W = y at *
  generalize y / k = yk at *
  generalize p % W = x at *
  generalize x / k = xk at *
  replace e1 := hide e1
  replace e2 := hide e2
  replace e4 := hide e4
  replace e5 := hide e5
  go_enter Try.func29, Try.ntmps29
  go_wp2
  go_loopw [7] (fun s7 wr => ∃ (m : Nat), m ≤ 8 ∧ s7 = .int .i64 m ∧ Hid ((m : Int) = 0 ∨ ((m : Int) - 1) * k < W) ∧ wr.cell? ⟨w.heap.size, 0, none⟩ = some (.int .i64 W) ∧ w.heap.size < wr.heap.size ∧ Hid (Below w.heap.size w wr)) (fun s7 _ => 8 - (intOf s7).toNat)
  case atStart => exact ⟨0, by omega, rfl, hide (.inl rfl), by simp [go_sem], by simp, hide (by repeat (first | with_reducible exact Below.refl _ _ | with_reducible assumption | with_reducible refine up_drewN ?_ | with_reducible refine up_drew ?_ | (with_reducible refine up_alloc ?_ ?_; rotate_left; (first | omega | (simp <;> omega) | simp)) | (with_reducible refine up_set ?_ ?_; rotate_left; (first | omega | (simp <;> omega) | simp)) | (with_reducible refine Below.trans ?_ (Below.mono (by with_reducible assumption) ?_); rotate_left; (first | omega | (simp <;> omega) | simp))))⟩
  case round =>
    obtain ⟨m, hm, rfl, hmk, c0, hz, hb⟩ := hrel
    have hm0 : (0 : Int) ≤ (m : Int) * k := Int.mul_nonneg (by omega) (by omega)
    have hm8 : (m : Int) * k ≤ 8 * 8 := Int.mul_le_mul (by omega) hk8 (by omega) (by omega)
    have hm1 : (m : Int) * 1 ≤ (m : Int) * k := Int.mul_le_mul_of_nonneg_left hk (by omega)
    obtain ⟨q, hq⟩ : ∃ q, q = (m : Int) * k := ⟨_, rfl⟩
    rw [← hq] at hm0 hm8 hm1
    have hq2 := hide hq
    have hq3 : (m : Int) * k = q := hq.symm
    clear hq
    by_cases hlt : q < W
    · have hlt2 : m < 8 := by omega
      go_wp2
      go_roundw
      case rel => exact ⟨m + 1, by omega, by go_num, hide (.inr (by rw [show (((m + 1 : Nat) : Int)) - 1 = (m : Int) by omega, ← hq2.out]; exact hlt)), c0, hz, hb⟩
      case measure => simp [intOf]; omega
    · have hac := hide (across_is (a := (m : Int)) hW hk (by rw [← hq2.out]; exact hlt) hmk.out (by omega))
      have hr2 := hide (hr.out _ hac.out)
      have b13 : yk * (m : Int) ≤ 64 * 8 := Int.mul_le_mul b4 (by omega) (by omega) (by omega)
      have b14 : 0 ≤ yk * (m : Int) := Int.mul_nonneg b3 (by omega)
      have e1 := e1.out
      have e2 := e2.out
      have e4 := e4.out
      have e5 := e5.out
      have hb' := hb
      go_wp2
      go_quiet (fail)
      go_wp2
      go_ret
      exact ⟨ret_int hr2.out.symm, up_drewN hb.out⟩
set_option maxHeartbeats 1000000 in
theorem hsquare_any (W H k p : Int) (a : Option Addr) (cap : Nat) (cs : List Int) (w : World) (B : Nat) (hB : B ≤ w.heap.size) (hE : Row encI 1 w B a cs) (hl : cs.length ≤ 9223372036854775807) :
    Calls Try.prog 27 #[.agg #[.int .i64 W, .int .i64 H, .slice a cs.length cap], .int .i64 k, .int .i64 p] w fun e w' => e = .returned (.tuple #[.int .i64 (if hcErr W H cs k [p] = 0 then sqN W k p else 0), .int .i64 (hcErr W H cs k [p])]) ∧ Below w.heap.size w w' := by
  have hC := hide (fun w B hB hE => hlook_any W H a cap cs k w B hB hE hl)
  replace hE := hide hE
  by_cases h0 : hlErr W H cs k = 0
  · rw [h0] at hC
    obtain ⟨g0, k1, k8⟩ := hl_ok h0
    have h64 := grid_64 g0
    obtain ⟨b1, b2, b3, b4, _, _⟩ := gridErr_ok g0
    by_cases h1 : p < 0 ∨ (cs.length : Int) ≤ p
    · have hr := hide (show hcErr W H cs k [p] = 1 by unfold hcErr; rw [if_neg (by simp [h0]), plErr, if_pos h1])
      have hd : p < 0 ∨ (0 ≤ p ∧ (cs.length : Int) ≤ p) := by omega
      rw [hr.out]
      simp only [show ¬ ((1 : Int) = 0) by omega, if_false]
      clear h0 h1 g0
      rcases hd with h1 | ⟨h1, h2⟩
      all_goals
        go_enter Try.func27, Try.ntmps27
        go_wp2_with fail
        refine (hC.out _ B (by simp; omega) (hE.out.below ((by repeat (first | with_reducible exact Below.refl _ _ | with_reducible assumption | with_reducible refine up_drewN ?_ | with_reducible refine up_drew ?_ | (with_reducible refine up_alloc ?_ ?_; rotate_left; (first | omega | (simp <;> omega) | simp)) | (with_reducible refine up_set ?_ ?_; rotate_left; (first | omega | (simp <;> omega) | simp)) | (with_reducible refine Below.trans ?_ (Below.mono (by with_reducible assumption) ?_); rotate_left; (first | omega | (simp <;> omega) | simp)))) : Below w.heap.size w _) hB)).mono ?_
        rintro e w1 ⟨rfl, hb1⟩
        obtain ⟨hc1, hf1⟩ := bcell hb1; have hz1 : w.heap.size < w1.heap.size := (by have := hb1.size; (try simp at this); omega)
        go_wp2
        go_ret2
        exact ⟨rfl, (by repeat (first | with_reducible exact Below.refl _ _ | with_reducible assumption | with_reducible refine up_drewN ?_ | with_reducible refine up_drew ?_ | (with_reducible refine up_alloc ?_ ?_; rotate_left; (first | omega | (simp <;> omega) | simp)) | (with_reducible refine up_set ?_ ?_; rotate_left; (first | omega | (simp <;> omega) | simp)) | (with_reducible refine Below.trans ?_ (Below.mono (by with_reducible assumption) ?_); rotate_left; (first | omega | (simp <;> omega) | simp))))⟩
    · have hr := hide (show hcErr W H cs k [p] = 0 by unfold hcErr; rw [if_neg (by simp [h0]), plErr, if_neg h1, plErr])
      have h2 : 0 ≤ p := by omega
      have h3 : p < (cs.length : Int) := by omega
      have hS := hide (fun w => hsq_any W H k p (.slice a cs.length cap) w b1 b2 k1 k8 h2 (by omega) ⟨_, _, _, rfl⟩)
      rw [hr.out]
      simp only [if_true]
      clear h0 h1 g0
      go_enter Try.func27, Try.ntmps27
      go_wp2_with fail
      refine (hC.out _ B (by simp; omega) (hE.out.below ((by repeat (first | with_reducible exact Below.refl _ _ | with_reducible assumption | with_reducible refine up_drewN ?_ | with_reducible refine up_drew ?_ | (with_reducible refine up_alloc ?_ ?_; rotate_left; (first | omega | (simp <;> omega) | simp)) | (with_reducible refine up_set ?_ ?_; rotate_left; (first | omega | (simp <;> omega) | simp)) | (with_reducible refine Below.trans ?_ (Below.mono (by with_reducible assumption) ?_); rotate_left; (first | omega | (simp <;> omega) | simp)))) : Below w.heap.size w _) hB)).mono ?_
      rintro e w1 ⟨rfl, hb1⟩
      obtain ⟨hc1, hf1⟩ := bcell hb1; have hz1 : w.heap.size < w1.heap.size := (by have := hb1.size; (try simp at this); omega)
      go_wp2_with fail
      refine (hS.out _).mono ?_
      rintro e w2 ⟨rfl, hb2⟩
      go_wp2
      go_ret2
      exact ⟨rfl, (by repeat (first | with_reducible exact Below.refl _ _ | with_reducible assumption | with_reducible refine up_drewN ?_ | with_reducible refine up_drew ?_ | (with_reducible refine up_alloc ?_ ?_; rotate_left; (first | omega | (simp <;> omega) | simp)) | (with_reducible refine up_set ?_ ?_; rotate_left; (first | omega | (simp <;> omega) | simp)) | (with_reducible refine Below.trans ?_ (Below.mono (by with_reducible assumption) ?_); rotate_left; (first | omega | (simp <;> omega) | simp))))⟩
  · have hr := hide (show hcErr W H cs k [p] = hlErr W H cs k by unfold hcErr; rw [if_pos h0])
    have q0 : (hlErr W H cs k != 0) = true := by simp [h0]
    rw [hr.out, if_neg h0]
    clear h0
    go_enter Try.func27, Try.ntmps27
    go_wp2_with fail
    refine (hC.out _ B (by simp; omega) (hE.out.below ((by repeat (first | with_reducible exact Below.refl _ _ | with_reducible assumption | with_reducible refine up_drewN ?_ | with_reducible refine up_drew ?_ | (with_reducible refine up_alloc ?_ ?_; rotate_left; (first | omega | (simp <;> omega) | simp)) | (with_reducible refine up_set ?_ ?_; rotate_left; (first | omega | (simp <;> omega) | simp)) | (with_reducible refine Below.trans ?_ (Below.mono (by with_reducible assumption) ?_); rotate_left; (first | omega | (simp <;> omega) | simp)))) : Below w.heap.size w _) hB)).mono ?_
    rintro e w1 ⟨rfl, hb1⟩
    go_wp2
    go_ret2
    exact ⟨rfl, (by repeat (first | with_reducible exact Below.refl _ _ | with_reducible assumption | with_reducible refine up_drewN ?_ | with_reducible refine up_drew ?_ | (with_reducible refine up_alloc ?_ ?_; rotate_left; (first | omega | (simp <;> omega) | simp)) | (with_reducible refine up_set ?_ ?_; rotate_left; (first | omega | (simp <;> omega) | simp)) | (with_reducible refine Below.trans ?_ (Below.mono (by with_reducible assumption) ?_); rotate_left; (first | omega | (simp <;> omega) | simp))))⟩
set_option maxHeartbeats 2000000 in
theorem hrlook_any (W H : Int) (a : Option Addr) (cap : Nat) (cs : List Int) (k : Int) (a1 : Option Addr) (c1 k1 : Nat) (ps : List Int) (hps : ps.length = k1) (w : World) (B : Nat) (hB : B ≤ w.heap.size) (hE : Row encI 1 w B a cs) (hP : Row encI 1 w B a1 ps) (hl : cs.length ≤ 9223372036854775807) (hl2 : k1 ≤ 9223372036854775807) :
    Calls Try.prog 28 #[.agg #[.int .i64 W, .int .i64 H, .slice a cs.length cap], .int .i64 k, .slice a1 k1 c1] w fun e w' => e = .returned (.int .i64 (hcErr W H cs k ps)) ∧ Below w.heap.size w w' := by
  subst hps
  have hC := hide (fun w B hB hE => rgrid_any W H a cap cs w B hB hE hl)
  replace hE := hide hE
  replace hP := hide hP
  by_cases h0 : gridErr W H cs = 0
  · rw [h0] at hC
    by_cases h1 : k < 1 ∨ 8 < k
    · have hr := hide (show hcErr W H cs k ps = 1 by unfold hcErr; rw [show hlErr W H cs k = 1 by unfold hlErr; rw [if_neg (by simp [h0]), if_pos h1]]; simp)
      have hd : k < 1 ∨ (1 ≤ k ∧ 8 < k) := by omega
      clear h0 h1
      rcases hd with h1 | ⟨h1, h2⟩
      all_goals
        go_enter Try.func28, Try.ntmps28
        go_wp2_with fail
        refine (hC.out _ B (by simp; omega) (hE.out.below ((by repeat (first | with_reducible exact Below.refl _ _ | with_reducible assumption | with_reducible refine up_drewN ?_ | with_reducible refine up_drew ?_ | (with_reducible refine up_alloc ?_ ?_; rotate_left; (first | omega | (simp <;> omega) | simp)) | (with_reducible refine up_set ?_ ?_; rotate_left; (first | omega | (simp <;> omega) | simp)) | (with_reducible refine Below.trans ?_ (Below.mono (by with_reducible assumption) ?_); rotate_left; (first | omega | (simp <;> omega) | simp)))) : Below w.heap.size w _) hB)).mono ?_
        rintro e w1 ⟨rfl, hb1⟩
        go_wp2
        go_ret
        exact ⟨ret_int hr.out.symm, (by repeat (first | with_reducible exact Below.refl _ _ | with_reducible assumption | with_reducible refine up_drewN ?_ | with_reducible refine up_drew ?_ | (with_reducible refine up_alloc ?_ ?_; rotate_left; (first | omega | (simp <;> omega) | simp)) | (with_reducible refine up_set ?_ ?_; rotate_left; (first | omega | (simp <;> omega) | simp)) | (with_reducible refine Below.trans ?_ (Below.mono (by with_reducible assumption) ?_); rotate_left; (first | omega | (simp <;> omega) | simp))))⟩
    · have hr := hide (show hcErr W H cs k ps = plErr (cs.length : Int) ps by unfold hcErr; rw [show hlErr W H cs k = 0 by unfold hlErr; rw [if_neg (by simp [h0]), if_neg h1]]; simp)
      have h2 : 1 ≤ k := by omega
      have h3 : k ≤ 8 := by omega
      clear h0 h1
      go_enter Try.func28, Try.ntmps28
      go_wp2_with fail
      refine (hC.out _ B (by simp; omega) (hE.out.below ((by repeat (first | with_reducible exact Below.refl _ _ | with_reducible assumption | with_reducible refine up_drewN ?_ | with_reducible refine up_drew ?_ | (with_reducible refine up_alloc ?_ ?_; rotate_left; (first | omega | (simp <;> omega) | simp)) | (with_reducible refine up_set ?_ ?_; rotate_left; (first | omega | (simp <;> omega) | simp)) | (with_reducible refine Below.trans ?_ (Below.mono (by with_reducible assumption) ?_); rotate_left; (first | omega | (simp <;> omega) | simp)))) : Below w.heap.size w _) hB)).mono ?_
      rintro e w1 ⟨rfl, hb1⟩
      have k2 : w1.cell? ⟨w.heap.size, 2, none⟩ = some (.slice a cs.length cap) := cu_below hb1 (by simp [go_sem]) (by simp)
      have hbw := hide (show Below w.heap.size w w1 from (by repeat (first | with_reducible exact Below.refl _ _ | with_reducible assumption | with_reducible refine up_drewN ?_ | with_reducible refine up_drew ?_ | (with_reducible refine up_alloc ?_ ?_; rotate_left; (first | omega | (simp <;> omega) | simp)) | (with_reducible refine up_set ?_ ?_; rotate_left; (first | omega | (simp <;> omega) | simp)) | (with_reducible refine Below.trans ?_ (Below.mono (by with_reducible assumption) ?_); rotate_left; (first | omega | (simp <;> omega) | simp)))))
      clear hb1 hC
      go_wp2
      go_loopw [9, 23] (fun _ i wr => ∃ j : Nat, j ≤ ps.length ∧ i = .int .i64 j ∧ Hid (plErr (cs.length : Int) ps = plErr (cs.length : Int) (ps.drop j)) ∧ Hid (Below w1.heap.size w1 wr)) (fun _ i _ => ps.length - (intOf i).toNat)
      case atStart => exact ⟨0, Nat.zero_le _, rfl, rfl, Below.refl _ _⟩
      case round =>
        obtain ⟨j, hj, rfl, hrest, hb⟩ := hrel
        have k0 := (hb.out.cell (cell_lt k2)).trans k2
        have hzr := hb.out.size
        have hzk : w.heap.size < w1.heap.size := cell_lt k2
        have hzw : w.heap.size < wr.heap.size := by omega
        have hbr := hide (hbw.out.trans (hb.out.mono hbw.out.size))
        clear k2
        by_cases hlt : j < ps.length
        · obtain ⟨b, o, rfl, hbB, e0⟩ := hP.out.int j hlt
          have e1 := cu_below hbr.out e0 (by simp; omega)
          have hbl := cell_lt e1
          clear e0
          obtain ⟨x, hx⟩ : ∃ x, x = ps[j] := ⟨_, rfl⟩
          rw [← hx] at e1
          replace hx := hide hx
          by_cases q : x < 0 ∨ (cs.length : Int) ≤ x
          · have hq := hide (pl_hit hlt (by rw [← hx.out]; exact q))
            have q2 : x < 0 ∨ (0 ≤ x ∧ (cs.length : Int) ≤ x) := by omega
            clear q
            rcases q2 with q | ⟨q0, q⟩
            all_goals
              go_wp2
              go_ret
              exact ⟨ret_int (by rw [hr.out, hrest.out, hq.out]), hbr.out⟩
          · have hq := hide (pl_miss hlt (by rw [← hx.out]; exact q))
            have q1 : 0 ≤ x := by omega
            have q2 : x < (cs.length : Int) := by omega
            clear q
            go_wp2
            go_roundw
            case rel => exact ⟨j + 1, by omega, by go_num, hide (by rw [hrest.out, hq.out]), hb⟩
            case measure => simp [intOf]; omega
        · go_wp2
          go_ret
          refine ⟨ret_int ?_, hbr.out⟩
          rw [hr.out, hrest.out, List.drop_eq_nil_of_le (by omega)]
          rfl
  · have hr := hide (show hcErr W H cs k ps = gridErr W H cs by unfold hcErr; rw [show hlErr W H cs k = gridErr W H cs by unfold hlErr; rw [if_pos h0]]; rw [if_pos h0])
    have q0 : (gridErr W H cs != 0) = true := by simp [h0]
    clear h0
    go_enter Try.func28, Try.ntmps28
    go_wp2_with fail
    refine (hC.out _ B (by simp; omega) (hE.out.below ((by repeat (first | with_reducible exact Below.refl _ _ | with_reducible assumption | with_reducible refine up_drewN ?_ | with_reducible refine up_drew ?_ | (with_reducible refine up_alloc ?_ ?_; rotate_left; (first | omega | (simp <;> omega) | simp)) | (with_reducible refine up_set ?_ ?_; rotate_left; (first | omega | (simp <;> omega) | simp)) | (with_reducible refine Below.trans ?_ (Below.mono (by with_reducible assumption) ?_); rotate_left; (first | omega | (simp <;> omega) | simp)))) : Below w.heap.size w _) hB)).mono ?_
    rintro e w1 ⟨rfl, hb1⟩
    go_wp2
    go_ret
    exact ⟨ret_int hr.out.symm, (by repeat (first | with_reducible exact Below.refl _ _ | with_reducible assumption | with_reducible refine up_drewN ?_ | with_reducible refine up_drew ?_ | (with_reducible refine up_alloc ?_ ?_; rotate_left; (first | omega | (simp <;> omega) | simp)) | (with_reducible refine up_set ?_ ?_; rotate_left; (first | omega | (simp <;> omega) | simp)) | (with_reducible refine Below.trans ?_ (Below.mono (by with_reducible assumption) ?_); rotate_left; (first | omega | (simp <;> omega) | simp))))⟩
end Go.Proofs.Ytgkiipmeigfjnaa
