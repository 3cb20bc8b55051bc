/-
  What hier.look, hier.square and hier.Square return, and the reference's HierLook and Square. Conditions: that the slices read.
-/
import Derived.Test.YtgkiipmeigfjnaaHierP
import Derived.Test.YtgkiipmeigfjnaaDDist
import Derived.BigQuiet
import Derived.Deep.QuietTactic
import Derived.WalkSpells
import Derived.WalkLawsBesides
namespace Go.Proofs.Ytgkiipmeigfjnaa
open Go.RowKit
set_option linter.unusedSimpArgs false
set_option linter.unusedVariables false
set_option maxHeartbeats 1000000 in
theorem hlook_any (W H : Int) (a : Option Addr) (cap : Nat) (cs : List Int) (k : Int) (w : World) (B : Nat) (hB : B ≤ w.heap.size) (hE : Row encI 1 w B a cs) (hl : cs.length ≤ 9223372036854775807) :
    Calls Try.prog 80 #[.agg #[.int .i64 W, .int .i64 H, .slice a cs.length cap], .int .i64 k] w fun e w' => e = .returned (.int .i64 (hlErr W H cs k)) ∧ Below w.heap.size w w' := by
  have hC := hide (fun w B hB hE => gcheck_any W H a cap cs w B hB hE hl)
  replace hE := hide hE
  by_cases h0 : gridErr W H cs = 0
  · rw [h0] at hC
    by_cases h1 : k < 1 ∨ 8 < k
    · have hr := hide (show hlErr W H cs k = 1 by unfold hlErr; rw [if_neg (by simp [h0]), if_pos h1])
      have hd : k < 1 ∨ (1 ≤ k ∧ 8 < k) := by omega
      clear h0 h1
      rcases hd with h1 | ⟨h1, h2⟩
      all_goals
        go_enter Try.func80, Try.ntmps80
        go_wp2_with fail
        refine (hC.out _ B (by simp; omega) (hE.out.below ((by repeat (first | with_reducible exact Below.refl _ _ | with_reducible assumption | with_reducible refine up_drewN ?_ | with_reducible refine up_drew ?_ | (with_reducible refine up_alloc ?_ ?_; rotate_left; (first | omega | (simp <;> omega) | simp)) | (with_reducible refine up_set ?_ ?_; rotate_left; (first | omega | (simp <;> omega) | simp)) | (with_reducible refine Below.trans ?_ (Below.mono (by with_reducible assumption) ?_); rotate_left; (first | omega | (simp <;> omega) | simp)))) : Below w.heap.size w _) hB)).mono ?_
        rintro e w1 ⟨rfl, hb1⟩
        go_wp2
        go_ret
        exact ⟨ret_int hr.out.symm, (by repeat (first | with_reducible exact Below.refl _ _ | with_reducible assumption | with_reducible refine up_drewN ?_ | with_reducible refine up_drew ?_ | (with_reducible refine up_alloc ?_ ?_; rotate_left; (first | omega | (simp <;> omega) | simp)) | (with_reducible refine up_set ?_ ?_; rotate_left; (first | omega | (simp <;> omega) | simp)) | (with_reducible refine Below.trans ?_ (Below.mono (by with_reducible assumption) ?_); rotate_left; (first | omega | (simp <;> omega) | simp))))⟩
    · have hr := hide (show hlErr W H cs k = 0 by unfold hlErr; rw [if_neg (by simp [h0]), if_neg h1])
      have h2 : 1 ≤ k := by omega
      have h3 : k ≤ 8 := by omega
      clear h0 h1
      go_enter Try.func80, Try.ntmps80
      go_wp2_with fail
      refine (hC.out _ B (by simp; omega) (hE.out.below ((by repeat (first | with_reducible exact Below.refl _ _ | with_reducible assumption | with_reducible refine up_drewN ?_ | with_reducible refine up_drew ?_ | (with_reducible refine up_alloc ?_ ?_; rotate_left; (first | omega | (simp <;> omega) | simp)) | (with_reducible refine up_set ?_ ?_; rotate_left; (first | omega | (simp <;> omega) | simp)) | (with_reducible refine Below.trans ?_ (Below.mono (by with_reducible assumption) ?_); rotate_left; (first | omega | (simp <;> omega) | simp)))) : Below w.heap.size w _) hB)).mono ?_
      rintro e w1 ⟨rfl, hb1⟩
      go_wp2
      go_ret
      exact ⟨ret_int hr.out.symm, (by repeat (first | with_reducible exact Below.refl _ _ | with_reducible assumption | with_reducible refine up_drewN ?_ | with_reducible refine up_drew ?_ | (with_reducible refine up_alloc ?_ ?_; rotate_left; (first | omega | (simp <;> omega) | simp)) | (with_reducible refine up_set ?_ ?_; rotate_left; (first | omega | (simp <;> omega) | simp)) | (with_reducible refine Below.trans ?_ (Below.mono (by with_reducible assumption) ?_); rotate_left; (first | omega | (simp <;> omega) | simp))))⟩
  · have hr := hide (show hlErr W H cs k = gridErr W H cs by unfold hlErr; rw [if_pos h0])
    have q0 : (gridErr W H cs != 0) = true := by simp [h0]
    clear h0
    go_enter Try.func80, Try.ntmps80
    go_wp2_with fail
    refine (hC.out _ B (by simp; omega) (hE.out.below ((by repeat (first | with_reducible exact Below.refl _ _ | with_reducible assumption | with_reducible refine up_drewN ?_ | with_reducible refine up_drew ?_ | (with_reducible refine up_alloc ?_ ?_; rotate_left; (first | omega | (simp <;> omega) | simp)) | (with_reducible refine up_set ?_ ?_; rotate_left; (first | omega | (simp <;> omega) | simp)) | (with_reducible refine Below.trans ?_ (Below.mono (by with_reducible assumption) ?_); rotate_left; (first | omega | (simp <;> omega) | simp)))) : Below w.heap.size w _) hB)).mono ?_
    rintro e w1 ⟨rfl, hb1⟩
    go_wp2
    go_ret
    exact ⟨ret_int hr.out.symm, (by repeat (first | with_reducible exact Below.refl _ _ | with_reducible assumption | with_reducible refine up_drewN ?_ | with_reducible refine up_drew ?_ | (with_reducible refine up_alloc ?_ ?_; rotate_left; (first | omega | (simp <;> omega) | simp)) | (with_reducible refine up_set ?_ ?_; rotate_left; (first | omega | (simp <;> omega) | simp)) | (with_reducible refine Below.trans ?_ (Below.mono (by with_reducible assumption) ?_); rotate_left; (first | omega | (simp <;> omega) | simp))))⟩
theorem hsq_any (W H k p : Int) (v : Value) (w : World) (hW : 1 ≤ W) (hW8 : W ≤ 8) (hk : 1 ≤ k) (hk8 : k ≤ 8) (hp0 : 0 ≤ p) (hp : p < 64) (hv : ∃ a n c, v = .slice a n c) :
    Calls Try.prog 81 #[.agg #[.int .i64 W, .int .i64 H, v], .int .i64 k, .int .i64 p] w fun e w' => e = .returned (.int .i64 (sqN W k p)) ∧ Below w.heap.size w w' := by
  obtain ⟨a, n, c, rfl⟩ := hv
  obtain ⟨b1, b2, b3, b4, b5, b6, b7, b8, b9, b10⟩ := sq_bounds hW hW8 hk hk8 hp0 hp
  have e1 : p.tdiv W = p / W := Int.tdiv_eq_ediv_of_nonneg hp0
  have e2 : (p / W).tdiv k = p / W / k := Int.tdiv_eq_ediv_of_nonneg b1
  have e3 : (W + k - 1).tdiv k = (W + k - 1) / k := Int.tdiv_eq_ediv_of_nonneg (by omega)
  have e4 : p.tmod W = p % W := Int.tmod_eq_emod_of_nonneg hp0
  have e5 : (p % W).tdiv k = p % W / k := Int.tdiv_eq_ediv_of_nonneg b7
  have hr : sqN W k p = p / W / k * ((W + k - 1) / k) + p % W / k := rfl
  have b11 : p / W / k * ((W + k - 1) / k) ≤ 64 * 8 := Int.mul_le_mul b4 b6 b5 (by omega)
  have b12 : 0 ≤ p / W / k * ((W + k - 1) / k) := Int.mul_nonneg b3 b5
  rw [hr]
  generalize p / W = y at *
  generalize y / k = yk at *
  generalize (W + k - 1) / k = ac at *
  generalize p % W = x at *
  generalize x / k = xk at *
  clear hr
  go_enter Try.func81, Try.ntmps81
  go_wp2
  go_quiet (fail)
  go_wp2
  go_ret
  exact ⟨rfl, (by repeat (first | with_reducible exact Below.refl _ _ | with_reducible assumption | with_reducible refine up_drewN ?_ | with_reducible refine up_drew ?_ | (with_reducible refine up_alloc ?_ ?_; rotate_left; (first | omega | (simp <;> omega) | simp)) | (with_reducible refine up_set ?_ ?_; rotate_left; (first | omega | (simp <;> omega) | simp)) | (with_reducible refine Below.trans ?_ (Below.mono (by with_reducible assumption) ?_); rotate_left; (first | omega | (simp <;> omega) | simp))))⟩
end Go.Proofs.Ytgkiipmeigfjnaa
