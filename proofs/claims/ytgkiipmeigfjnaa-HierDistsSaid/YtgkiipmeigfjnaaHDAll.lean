/-
  Several texts in one:
  Squares of cells: their numbers, what is refused. No program here.
  What hier.look, hier.square and hier.Square return, and the reference's HierLook and Square. Conditions: that the slices read.
  What hier.Square, the reference's HierLook and Square return. Conditions: that the slices read.
  What hier.within returns: the moves within squares, and those between. Conditions: right ground, squares of 1 to 8 a side.
  Which cells have a move to another square: what hier.doors and hier.Doors return. Conditions: as each theorem says.
  Which cells have a move to another square, as the reference tells it. Conditions: right ground, squares of 1 to 8 a side.
  The reference's Doors. Conditions: right ground, squares of 1 to 8 a side.
  slices.DeleteFunc over edges, with the reference's step: moves between squares go. Conditions: right ground, squares of 1 to 8 a side.
  What the reference's Inside returns: the moves within squares. Conditions: right ground, squares of 1 to 8 a side.
  Doors alone: with what each costs from the other within its square, and the moves between squares, it costs the same as on all moves. No program here.
  The doors' net as a list of edges, and that it measures what the grid's net measures. Plain theory.
  What hier.abstract returns: the doors' net. Conditions: right ground, squares of 1 to 8 a side, two more places on the ground.
  What hier.Between and hier.Dist return. Conditions: the rows read.
  The walk of felllaw.HierDists: it returns true. Conditions: the arguments read as data.
-/
import Derived.Test.YtgkiipmeigfjnaaGridChk
import Derived.Test.YtgkiipmeigfjnaaLook
import Derived.Test.YtgkiipmeigfjnaaDDist
import Derived.BigQuiet
import Derived.Deep.QuietTactic
import Derived.WalkSpells
import Derived.WalkLawsBesides
import Derived.Test.YtgkiipmeigfjnaaNetOf2
import Derived.Test.YtgkiipmeigfjnaaROut
import Derived.Deep.RegionHeld3
import Derived.BigRegion
import Derived.Test.YtgkiipmeigfjnaaMat2
import Derived.Test.YtgkiipmeigfjnaaMk
import Derived.Test.YtgkiipmeigfjnaaLI
import Derived.Test.YtgkiipmeigfjnaaHeldEnd
import Derived.Laws.IdiomCopy
import Derived.Test.YtgkiipmeigfjnaaRevP
import Derived.Test.YtgkiipmeigfjnaaGridIn
import Derived.Test.YtgkiipmeigfjnaaStart
import Derived.Test.YtgkiipmeigfjnaaDijkW
import Derived.Test.YtgkiipmeigfjnaaPushAll
import Derived.Test.YtgkiipmeigfjnaaHeapN
import Derived.Test.YtgkiipmeigfjnaaOpen
/-! Squares of cells: their numbers, what is refused. No program here. -/
namespace Go.Proofs.Ytgkiipmeigfjnaa
set_option linter.unusedVariables false
def hlErr (W H : Int) (cs : List Int) (k : Int) : Int := if gridErr W H cs ≠ 0 then gridErr W H cs else if k < 1 ∨ 8 < k then 1 else 0
theorem hl_ok {W H : Int} {cs : List Int} {k : Int} (h : hlErr W H cs k = 0) : gridErr W H cs = 0 ∧ 1 ≤ k ∧ k ≤ 8 := by
  unfold hlErr at h
  by_cases h0 : gridErr W H cs = 0
  · rw [if_neg (by simp [h0])] at h
    by_cases h1 : k < 1 ∨ 8 < k
    · rw [if_pos h1] at h; omega
    · exact ⟨h0, by omega, by omega⟩
  · rw [if_pos h0] at h; exact absurd h h0
/-- the square of a cell, squares of k a side, W cells across -/
def sqN (W k p : Int) : Int := p / W / k * ((W + k - 1) / k) + p % W / k
theorem across_is {W k a : Int} (hW : 1 ≤ W) (hk : 1 ≤ k) (h1 : ¬ a * k < W) (h2 : a = 0 ∨ (a - 1) * k < W) (h0 : 0 ≤ a) : a = (W + k - 1) / k := by
  have hp : (0 : Int) < k := by omega
  have e : (a - 1) * k = a * k - k := by rw [Int.sub_mul, Int.one_mul]
  have ha : 1 ≤ a := by
    rcases Int.lt_or_le 0 a with h | h
    · omega
    · have : a = 0 := by omega
      subst this
      rw [Int.zero_mul] at h1; omega
  symm
  rw [Int.ediv_eq_iff_of_pos hp]
  constructor
  · rcases h2 with h2 | h2 <;> omega
  · omega
theorem sq_bounds {W k p : Int} (hW : 1 ≤ W) (hW8 : W ≤ 8) (hk : 1 ≤ k) (hk8 : k ≤ 8) (hp0 : 0 ≤ p) (hp : p < 64) :
    0 ≤ p / W ∧ p / W ≤ 64 ∧ 0 ≤ p / W / k ∧ p / W / k ≤ 64 ∧ 0 ≤ (W + k - 1) / k ∧ (W + k - 1) / k ≤ 8 ∧ 0 ≤ p % W ∧ p % W < 8 ∧ 0 ≤ p % W / k ∧ p % W / k ≤ 8 := by
  have a1 : p / W ≤ p := Int.ediv_le_self _ hp0
  have a0 : 0 ≤ p / W := Int.ediv_nonneg hp0 (by omega)
  have b1 : p / W / k ≤ p / W := Int.ediv_le_self _ a0
  have b0 : 0 ≤ p / W / k := Int.ediv_nonneg a0 (by omega)
  have c0 : 0 ≤ (W + k - 1) / k := Int.ediv_nonneg (by omega) (by omega)
  have c1 : (W + k - 1) / k ≤ 8 := by
    have : (W + k - 1) / k ≤ W := by
      refine Int.ediv_le_of_le_mul (by omega) ?_
      have h1 : W * k = (W - 1) * k + k := by rw [Int.sub_mul, Int.one_mul]; omega
      have h2 : (W - 1) * 1 ≤ (W - 1) * k := Int.mul_le_mul_of_nonneg_left hk (by omega)
      omega
    omega
  have d0 : 0 ≤ p % W := Int.emod_nonneg _ (by omega)
  have d1 : p % W < W := Int.emod_lt_of_pos _ (by omega)
  have e0 : 0 ≤ p % W / k := Int.ediv_nonneg d0 (by omega)
  have e1 : p % W / k ≤ p % W := Int.ediv_le_self _ d0
  omega
end Go.Proofs.Ytgkiipmeigfjnaa

/-! What hier.look, hier.square and hier.Square return, and the reference's HierLook and Square. Conditions: that the slices read. -/
namespace Go.Proofs.Ytgkiipmeigfjnaa
open Go.RowKit
set_option linter.unusedSimpArgs false
set_option linter.unusedVariables false
set_option maxHeartbeats 1000000 in
theorem hlook_any (W H : Int) (a : Option Addr) (cap : Nat) (cs : List Int) (k : Int) (w : World) (B : Nat) (hB : B ≤ w.heap.size) (hE : Row encI 1 w B a cs) (hl : cs.length ≤ 9223372036854775807) :
    Calls Try.prog 80 #[.agg #[.int .i64 W, .int .i64 H, .slice a cs.length cap], .int .i64 k] w fun e w' => e = .returned (.int .i64 (hlErr W H cs k)) ∧ Below w.heap.size w w' := by
  have hC := hide (fun w B hB hE => gcheck_any W H a cap cs w B hB hE hl)
  replace hE := hide hE
  by_cases h0 : gridErr W H cs = 0
  · rw [h0] at hC
    by_cases h1 : k < 1 ∨ 8 < k
    · have hr := hide (show hlErr W H cs k = 1 by unfold hlErr; rw [if_neg (by simp [h0]), if_pos h1])
      have hd : k < 1 ∨ (1 ≤ k ∧ 8 < k) := by omega
      clear h0 h1
      rcases hd with h1 | ⟨h1, h2⟩
      all_goals
        go_enter Try.func80, Try.ntmps80
        go_wp2_with fail
        refine (hC.out _ B (by simp; omega) (hE.out.below ((by repeat (first | with_reducible exact Below.refl _ _ | with_reducible assumption | with_reducible refine up_drewN ?_ | with_reducible refine up_drew ?_ | (with_reducible refine up_alloc ?_ ?_; rotate_left; (first | omega | (simp <;> omega) | simp)) | (with_reducible refine up_set ?_ ?_; rotate_left; (first | omega | (simp <;> omega) | simp)) | (with_reducible refine Below.trans ?_ (Below.mono (by with_reducible assumption) ?_); rotate_left; (first | omega | (simp <;> omega) | simp)))) : Below w.heap.size w _) hB)).mono ?_
        rintro e w1 ⟨rfl, hb1⟩
        go_wp2
        go_ret
        exact ⟨ret_int hr.out.symm, (by repeat (first | with_reducible exact Below.refl _ _ | with_reducible assumption | with_reducible refine up_drewN ?_ | with_reducible refine up_drew ?_ | (with_reducible refine up_alloc ?_ ?_; rotate_left; (first | omega | (simp <;> omega) | simp)) | (with_reducible refine up_set ?_ ?_; rotate_left; (first | omega | (simp <;> omega) | simp)) | (with_reducible refine Below.trans ?_ (Below.mono (by with_reducible assumption) ?_); rotate_left; (first | omega | (simp <;> omega) | simp))))⟩
    · have hr := hide (show hlErr W H cs k = 0 by unfold hlErr; rw [if_neg (by simp [h0]), if_neg h1])
      have h2 : 1 ≤ k := by omega
      have h3 : k ≤ 8 := by omega
      clear h0 h1
      go_enter Try.func80, Try.ntmps80
      go_wp2_with fail
      refine (hC.out _ B (by simp; omega) (hE.out.below ((by repeat (first | with_reducible exact Below.refl _ _ | with_reducible assumption | with_reducible refine up_drewN ?_ | with_reducible refine up_drew ?_ | (with_reducible refine up_alloc ?_ ?_; rotate_left; (first | omega | (simp <;> omega) | simp)) | (with_reducible refine up_set ?_ ?_; rotate_left; (first | omega | (simp <;> omega) | simp)) | (with_reducible refine Below.trans ?_ (Below.mono (by with_reducible assumption) ?_); rotate_left; (first | omega | (simp <;> omega) | simp)))) : Below w.heap.size w _) hB)).mono ?_
      rintro e w1 ⟨rfl, hb1⟩
      go_wp2
      go_ret
      exact ⟨ret_int hr.out.symm, (by repeat (first | with_reducible exact Below.refl _ _ | with_reducible assumption | with_reducible refine up_drewN ?_ | with_reducible refine up_drew ?_ | (with_reducible refine up_alloc ?_ ?_; rotate_left; (first | omega | (simp <;> omega) | simp)) | (with_reducible refine up_set ?_ ?_; rotate_left; (first | omega | (simp <;> omega) | simp)) | (with_reducible refine Below.trans ?_ (Below.mono (by with_reducible assumption) ?_); rotate_left; (first | omega | (simp <;> omega) | simp))))⟩
  · have hr := hide (show hlErr W H cs k = gridErr W H cs by unfold hlErr; rw [if_pos h0])
    have q0 : (gridErr W H cs != 0) = true := by simp [h0]
    clear h0
    go_enter Try.func80, Try.ntmps80
    go_wp2_with fail
    refine (hC.out _ B (by simp; omega) (hE.out.below ((by repeat (first | with_reducible exact Below.refl _ _ | with_reducible assumption | with_reducible refine up_drewN ?_ | with_reducible refine up_drew ?_ | (with_reducible refine up_alloc ?_ ?_; rotate_left; (first | omega | (simp <;> omega) | simp)) | (with_reducible refine up_set ?_ ?_; rotate_left; (first | omega | (simp <;> omega) | simp)) | (with_reducible refine Below.trans ?_ (Below.mono (by with_reducible assumption) ?_); rotate_left; (first | omega | (simp <;> omega) | simp)))) : Below w.heap.size w _) hB)).mono ?_
    rintro e w1 ⟨rfl, hb1⟩
    go_wp2
    go_ret
    exact ⟨ret_int hr.out.symm, (by repeat (first | with_reducible exact Below.refl _ _ | with_reducible assumption | with_reducible refine up_drewN ?_ | with_reducible refine up_drew ?_ | (with_reducible refine up_alloc ?_ ?_; rotate_left; (first | omega | (simp <;> omega) | simp)) | (with_reducible refine up_set ?_ ?_; rotate_left; (first | omega | (simp <;> omega) | simp)) | (with_reducible refine Below.trans ?_ (Below.mono (by with_reducible assumption) ?_); rotate_left; (first | omega | (simp <;> omega) | simp))))⟩
theorem hsq_any (W H k p : Int) (v : Value) (w : World) (hW : 1 ≤ W) (hW8 : W ≤ 8) (hk : 1 ≤ k) (hk8 : k ≤ 8) (hp0 : 0 ≤ p) (hp : p < 64) (hv : ∃ a n c, v = .slice a n c) :
    Calls Try.prog 81 #[.agg #[.int .i64 W, .int .i64 H, v], .int .i64 k, .int .i64 p] w fun e w' => e = .returned (.int .i64 (sqN W k p)) ∧ Below w.heap.size w w' := by
  obtain ⟨a, n, c, rfl⟩ := hv
  obtain ⟨b1, b2, b3, b4, b5, b6, b7, b8, b9, b10⟩ := sq_bounds hW hW8 hk hk8 hp0 hp
  have e1 : p.tdiv W = p / W := Int.tdiv_eq_ediv_of_nonneg hp0
  have e2 : (p / W).tdiv k = p / W / k := Int.tdiv_eq_ediv_of_nonneg b1
  have e3 : (W + k - 1).tdiv k = (W + k - 1) / k := Int.tdiv_eq_ediv_of_nonneg (by omega)
  have e4 : p.tmod W = p % W := Int.tmod_eq_emod_of_nonneg hp0
  have e5 : (p % W).tdiv k = p % W / k := Int.tdiv_eq_ediv_of_nonneg b7
  have hr : sqN W k p = p / W / k * ((W + k - 1) / k) + p % W / k := rfl
  have b11 : p / W / k * ((W + k - 1) / k) ≤ 64 * 8 := Int.mul_le_mul b4 b6 b5 (by omega)
  have b12 : 0 ≤ p / W / k * ((W + k - 1) / k) := Int.mul_nonneg b3 b5
  rw [hr]
  generalize p / W = y at *
  generalize y / k = yk at *
  generalize (W + k - 1) / k = ac at *
  generalize p % W = x at *
  generalize x / k = xk at *
  clear hr
  go_enter Try.func81, Try.ntmps81
  go_wp2
  go_quiet (fail)
  go_wp2
  go_ret
  exact ⟨rfl, (by repeat (first | with_reducible exact Below.refl _ _ | with_reducible assumption | with_reducible refine up_drewN ?_ | with_reducible refine up_drew ?_ | (with_reducible refine up_alloc ?_ ?_; rotate_left; (first | omega | (simp <;> omega) | simp)) | (with_reducible refine up_set ?_ ?_; rotate_left; (first | omega | (simp <;> omega) | simp)) | (with_reducible refine Below.trans ?_ (Below.mono (by with_reducible assumption) ?_); rotate_left; (first | omega | (simp <;> omega) | simp))))⟩
end Go.Proofs.Ytgkiipmeigfjnaa

/-! What hier.Square, the reference's HierLook and Square return. Conditions: that the slices read. -/
namespace Go.Proofs.Ytgkiipmeigfjnaa
open Go.RowKit
set_option linter.unusedSimpArgs false
set_option linter.unusedVariables false
def hcErr (W H : Int) (cs : List Int) (k : Int) (ps : List Int) : Int := if hlErr W H cs k ≠ 0 then hlErr W H cs k else plErr (cs.length : Int) ps
theorem hc_ok {W H : Int} {cs : List Int} {k : Int} {ps : List Int} (h : hcErr W H cs k ps = 0) : hlErr W H cs k = 0 ∧ ∀ x ∈ ps, 0 ≤ x ∧ x < (cs.length : Int) := by
  unfold hcErr at h
  by_cases h0 : hlErr W H cs k = 0
  · rw [if_neg (by simp [h0])] at h
    exact ⟨h0, pl_all h⟩
  · rw [if_pos h0] at h; exact absurd h h0
theorem grid_64 {W H : Int} {cs : List Int} (h : gridErr W H cs = 0) : cs.length ≤ 64 := by
  obtain ⟨b1, b2, b3, b4, b5, _⟩ := gridErr_ok h
  have : W * H ≤ 8 * 8 := Int.mul_le_mul b2 b4 (by omega) (by omega)
  omega
set_option maxHeartbeats 1000000 in
theorem rsq_any (W H k p : Int) (v : Value) (w : World) (hW : 1 ≤ W) (hW8 : W ≤ 8) (hk : 1 ≤ k) (hk8 : k ≤ 8) (hp0 : 0 ≤ p) (hp : p < 64) (hv : ∃ a n c, v = .slice a n c) :
    Calls Try.prog 29 #[.agg #[.int .i64 W, .int .i64 H, v], .int .i64 k, .int .i64 p] w fun e w' => e = .returned (.int .i64 (sqN W k p)) ∧ Below w.heap.size w w' := by
  obtain ⟨a, n, c, rfl⟩ := hv
  obtain ⟨b1, b2, b3, b4, b5, b6, b7, b8, b9, b10⟩ := sq_bounds hW hW8 hk hk8 hp0 hp
  have e1 : p.tdiv W = p / W := Int.tdiv_eq_ediv_of_nonneg hp0
  have e2 : (p / W).tdiv k = p / W / k := Int.tdiv_eq_ediv_of_nonneg b1
  have e4 : p.tmod W = p % W := Int.tmod_eq_emod_of_nonneg hp0
  have e5 : (p % W).tdiv k = p % W / k := Int.tdiv_eq_ediv_of_nonneg b7
  have hr := hide (show ∀ ac, ac = (W + k - 1) / k → sqN W k p = p / W / k * ac + p % W / k from by rintro ac rfl; rfl)
  generalize p / W = y at *
  generalize y / k = yk at *
  generalize p % W = x at *
  generalize x / k = xk at *
  replace e1 := hide e1
  replace e2 := hide e2
  replace e4 := hide e4
  replace e5 := hide e5
  go_enter Try.func29, Try.ntmps29
  go_wp2
  go_loopw [7] (fun s7 wr => ∃ (m : Nat), m ≤ 8 ∧ s7 = .int .i64 m ∧ Hid ((m : Int) = 0 ∨ ((m : Int) - 1) * k < W) ∧ wr.cell? ⟨w.heap.size, 0, none⟩ = some (.int .i64 W) ∧ w.heap.size < wr.heap.size ∧ Hid (Below w.heap.size w wr)) (fun s7 _ => 8 - (intOf s7).toNat)
  case atStart => exact ⟨0, by omega, rfl, hide (.inl rfl), by simp [go_sem], by simp, hide (by repeat (first | with_reducible exact Below.refl _ _ | with_reducible assumption | with_reducible refine up_drewN ?_ | with_reducible refine up_drew ?_ | (with_reducible refine up_alloc ?_ ?_; rotate_left; (first | omega | (simp <;> omega) | simp)) | (with_reducible refine up_set ?_ ?_; rotate_left; (first | omega | (simp <;> omega) | simp)) | (with_reducible refine Below.trans ?_ (Below.mono (by with_reducible assumption) ?_); rotate_left; (first | omega | (simp <;> omega) | simp))))⟩
  case round =>
    obtain ⟨m, hm, rfl, hmk, c0, hz, hb⟩ := hrel
    have hm0 : (0 : Int) ≤ (m : Int) * k := Int.mul_nonneg (by omega) (by omega)
    have hm8 : (m : Int) * k ≤ 8 * 8 := Int.mul_le_mul (by omega) hk8 (by omega) (by omega)
    have hm1 : (m : Int) * 1 ≤ (m : Int) * k := Int.mul_le_mul_of_nonneg_left hk (by omega)
    obtain ⟨q, hq⟩ : ∃ q, q = (m : Int) * k := ⟨_, rfl⟩
    rw [← hq] at hm0 hm8 hm1
    have hq2 := hide hq
    have hq3 : (m : Int) * k = q := hq.symm
    clear hq
    by_cases hlt : q < W
    · have hlt2 : m < 8 := by omega
      go_wp2
      go_roundw
      case rel => exact ⟨m + 1, by omega, by go_num, hide (.inr (by rw [show (((m + 1 : Nat) : Int)) - 1 = (m : Int) by omega, ← hq2.out]; exact hlt)), c0, hz, hb⟩
      case measure => simp [intOf]; omega
    · have hac := hide (across_is (a := (m : Int)) hW hk (by rw [← hq2.out]; exact hlt) hmk.out (by omega))
      have hr2 := hide (hr.out _ hac.out)
      have b13 : yk * (m : Int) ≤ 64 * 8 := Int.mul_le_mul b4 (by omega) (by omega) (by omega)
      have b14 : 0 ≤ yk * (m : Int) := Int.mul_nonneg b3 (by omega)
      have e1 := e1.out
      have e2 := e2.out
      have e4 := e4.out
      have e5 := e5.out
      have hb' := hb
      go_wp2
      go_quiet (fail)
      go_wp2
      go_ret
      exact ⟨ret_int hr2.out.symm, up_drewN hb.out⟩
set_option maxHeartbeats 1000000 in
theorem hsquare_any (W H k p : Int) (a : Option Addr) (cap : Nat) (cs : List Int) (w : World) (B : Nat) (hB : B ≤ w.heap.size) (hE : Row encI 1 w B a cs) (hl : cs.length ≤ 9223372036854775807) :
    Calls Try.prog 27 #[.agg #[.int .i64 W, .int .i64 H, .slice a cs.length cap], .int .i64 k, .int .i64 p] w fun e w' => e = .returned (.tuple #[.int .i64 (if hcErr W H cs k [p] = 0 then sqN W k p else 0), .int .i64 (hcErr W H cs k [p])]) ∧ Below w.heap.size w w' := by
  have hC := hide (fun w B hB hE => hlook_any W H a cap cs k w B hB hE hl)
  replace hE := hide hE
  by_cases h0 : hlErr W H cs k = 0
  · rw [h0] at hC
    obtain ⟨g0, k1, k8⟩ := hl_ok h0
    have h64 := grid_64 g0
    obtain ⟨b1, b2, b3, b4, _, _⟩ := gridErr_ok g0
    by_cases h1 : p < 0 ∨ (cs.length : Int) ≤ p
    · have hr := hide (show hcErr W H cs k [p] = 1 by unfold hcErr; rw [if_neg (by simp [h0]), plErr, if_pos h1])
      have hd : p < 0 ∨ (0 ≤ p ∧ (cs.length : Int) ≤ p) := by omega
      rw [hr.out]
      simp only [show ¬ ((1 : Int) = 0) by omega, if_false]
      clear h0 h1 g0
      rcases hd with h1 | ⟨h1, h2⟩
      all_goals
        go_enter Try.func27, Try.ntmps27
        go_wp2_with fail
        refine (hC.out _ B (by simp; omega) (hE.out.below ((by repeat (first | with_reducible exact Below.refl _ _ | with_reducible assumption | with_reducible refine up_drewN ?_ | with_reducible refine up_drew ?_ | (with_reducible refine up_alloc ?_ ?_; rotate_left; (first | omega | (simp <;> omega) | simp)) | (with_reducible refine up_set ?_ ?_; rotate_left; (first | omega | (simp <;> omega) | simp)) | (with_reducible refine Below.trans ?_ (Below.mono (by with_reducible assumption) ?_); rotate_left; (first | omega | (simp <;> omega) | simp)))) : Below w.heap.size w _) hB)).mono ?_
        rintro e w1 ⟨rfl, hb1⟩
        obtain ⟨hc1, hf1⟩ := bcell hb1; have hz1 : w.heap.size < w1.heap.size := (by have := hb1.size; (try simp at this); omega)
        go_wp2
        go_ret2
        exact ⟨rfl, (by repeat (first | with_reducible exact Below.refl _ _ | with_reducible assumption | with_reducible refine up_drewN ?_ | with_reducible refine up_drew ?_ | (with_reducible refine up_alloc ?_ ?_; rotate_left; (first | omega | (simp <;> omega) | simp)) | (with_reducible refine up_set ?_ ?_; rotate_left; (first | omega | (simp <;> omega) | simp)) | (with_reducible refine Below.trans ?_ (Below.mono (by with_reducible assumption) ?_); rotate_left; (first | omega | (simp <;> omega) | simp))))⟩
    · have hr := hide (show hcErr W H cs k [p] = 0 by unfold hcErr; rw [if_neg (by simp [h0]), plErr, if_neg h1, plErr])
      have h2 : 0 ≤ p := by omega
      have h3 : p < (cs.length : Int) := by omega
      have hS := hide (fun w => hsq_any W H k p (.slice a cs.length cap) w b1 b2 k1 k8 h2 (by omega) ⟨_, _, _, rfl⟩)
      rw [hr.out]
      simp only [if_true]
      clear h0 h1 g0
      go_enter Try.func27, Try.ntmps27
      go_wp2_with fail
      refine (hC.out _ B (by simp; omega) (hE.out.below ((by repeat (first | with_reducible exact Below.refl _ _ | with_reducible assumption | with_reducible refine up_drewN ?_ | with_reducible refine up_drew ?_ | (with_reducible refine up_alloc ?_ ?_; rotate_left; (first | omega | (simp <;> omega) | simp)) | (with_reducible refine up_set ?_ ?_; rotate_left; (first | omega | (simp <;> omega) | simp)) | (with_reducible refine Below.trans ?_ (Below.mono (by with_reducible assumption) ?_); rotate_left; (first | omega | (simp <;> omega) | simp)))) : Below w.heap.size w _) hB)).mono ?_
      rintro e w1 ⟨rfl, hb1⟩
      obtain ⟨hc1, hf1⟩ := bcell hb1; have hz1 : w.heap.size < w1.heap.size := (by have := hb1.size; (try simp at this); omega)
      go_wp2_with fail
      refine (hS.out _).mono ?_
      rintro e w2 ⟨rfl, hb2⟩
      go_wp2
      go_ret2
      exact ⟨rfl, (by repeat (first | with_reducible exact Below.refl _ _ | with_reducible assumption | with_reducible refine up_drewN ?_ | with_reducible refine up_drew ?_ | (with_reducible refine up_alloc ?_ ?_; rotate_left; (first | omega | (simp <;> omega) | simp)) | (with_reducible refine up_set ?_ ?_; rotate_left; (first | omega | (simp <;> omega) | simp)) | (with_reducible refine Below.trans ?_ (Below.mono (by with_reducible assumption) ?_); rotate_left; (first | omega | (simp <;> omega) | simp))))⟩
  · have hr := hide (show hcErr W H cs k [p] = hlErr W H cs k by unfold hcErr; rw [if_pos h0])
    have q0 : (hlErr W H cs k != 0) = true := by simp [h0]
    rw [hr.out, if_neg h0]
    clear h0
    go_enter Try.func27, Try.ntmps27
    go_wp2_with fail
    refine (hC.out _ B (by simp; omega) (hE.out.below ((by repeat (first | with_reducible exact Below.refl _ _ | with_reducible assumption | with_reducible refine up_drewN ?_ | with_reducible refine up_drew ?_ | (with_reducible refine up_alloc ?_ ?_; rotate_left; (first | omega | (simp <;> omega) | simp)) | (with_reducible refine up_set ?_ ?_; rotate_left; (first | omega | (simp <;> omega) | simp)) | (with_reducible refine Below.trans ?_ (Below.mono (by with_reducible assumption) ?_); rotate_left; (first | omega | (simp <;> omega) | simp)))) : Below w.heap.size w _) hB)).mono ?_
    rintro e w1 ⟨rfl, hb1⟩
    go_wp2
    go_ret2
    exact ⟨rfl, (by repeat (first | with_reducible exact Below.refl _ _ | with_reducible assumption | with_reducible refine up_drewN ?_ | with_reducible refine up_drew ?_ | (with_reducible refine up_alloc ?_ ?_; rotate_left; (first | omega | (simp <;> omega) | simp)) | (with_reducible refine up_set ?_ ?_; rotate_left; (first | omega | (simp <;> omega) | simp)) | (with_reducible refine Below.trans ?_ (Below.mono (by with_reducible assumption) ?_); rotate_left; (first | omega | (simp <;> omega) | simp))))⟩
set_option maxHeartbeats 2000000 in
theorem hrlook_any (W H : Int) (a : Option Addr) (cap : Nat) (cs : List Int) (k : Int) (a1 : Option Addr) (c1 k1 : Nat) (ps : List Int) (hps : ps.length = k1) (w : World) (B : Nat) (hB : B ≤ w.heap.size) (hE : Row encI 1 w B a cs) (hP : Row encI 1 w B a1 ps) (hl : cs.length ≤ 9223372036854775807) (hl2 : k1 ≤ 9223372036854775807) :
    Calls Try.prog 28 #[.agg #[.int .i64 W, .int .i64 H, .slice a cs.length cap], .int .i64 k, .slice a1 k1 c1] w fun e w' => e = .returned (.int .i64 (hcErr W H cs k ps)) ∧ Below w.heap.size w w' := by
  subst hps
  have hC := hide (fun w B hB hE => rgrid_any W H a cap cs w B hB hE hl)
  replace hE := hide hE
  replace hP := hide hP
  by_cases h0 : gridErr W H cs = 0
  · rw [h0] at hC
    by_cases h1 : k < 1 ∨ 8 < k
    · have hr := hide (show hcErr W H cs k ps = 1 by unfold hcErr; rw [show hlErr W H cs k = 1 by unfold hlErr; rw [if_neg (by simp [h0]), if_pos h1]]; simp)
      have hd : k < 1 ∨ (1 ≤ k ∧ 8 < k) := by omega
      clear h0 h1
      rcases hd with h1 | ⟨h1, h2⟩
      all_goals
        go_enter Try.func28, Try.ntmps28
        go_wp2_with fail
        refine (hC.out _ B (by simp; omega) (hE.out.below ((by repeat (first | with_reducible exact Below.refl _ _ | with_reducible assumption | with_reducible refine up_drewN ?_ | with_reducible refine up_drew ?_ | (with_reducible refine up_alloc ?_ ?_; rotate_left; (first | omega | (simp <;> omega) | simp)) | (with_reducible refine up_set ?_ ?_; rotate_left; (first | omega | (simp <;> omega) | simp)) | (with_reducible refine Below.trans ?_ (Below.mono (by with_reducible assumption) ?_); rotate_left; (first | omega | (simp <;> omega) | simp)))) : Below w.heap.size w _) hB)).mono ?_
        rintro e w1 ⟨rfl, hb1⟩
        go_wp2
        go_ret
        exact ⟨ret_int hr.out.symm, (by repeat (first | with_reducible exact Below.refl _ _ | with_reducible assumption | with_reducible refine up_drewN ?_ | with_reducible refine up_drew ?_ | (with_reducible refine up_alloc ?_ ?_; rotate_left; (first | omega | (simp <;> omega) | simp)) | (with_reducible refine up_set ?_ ?_; rotate_left; (first | omega | (simp <;> omega) | simp)) | (with_reducible refine Below.trans ?_ (Below.mono (by with_reducible assumption) ?_); rotate_left; (first | omega | (simp <;> omega) | simp))))⟩
    · have hr := hide (show hcErr W H cs k ps = plErr (cs.length : Int) ps by unfold hcErr; rw [show hlErr W H cs k = 0 by unfold hlErr; rw [if_neg (by simp [h0]), if_neg h1]]; simp)
      have h2 : 1 ≤ k := by omega
      have h3 : k ≤ 8 := by omega
      clear h0 h1
      go_enter Try.func28, Try.ntmps28
      go_wp2_with fail
      refine (hC.out _ B (by simp; omega) (hE.out.below ((by repeat (first | with_reducible exact Below.refl _ _ | with_reducible assumption | with_reducible refine up_drewN ?_ | with_reducible refine up_drew ?_ | (with_reducible refine up_alloc ?_ ?_; rotate_left; (first | omega | (simp <;> omega) | simp)) | (with_reducible refine up_set ?_ ?_; rotate_left; (first | omega | (simp <;> omega) | simp)) | (with_reducible refine Below.trans ?_ (Below.mono (by with_reducible assumption) ?_); rotate_left; (first | omega | (simp <;> omega) | simp)))) : Below w.heap.size w _) hB)).mono ?_
      rintro e w1 ⟨rfl, hb1⟩
      have k2 : w1.cell? ⟨w.heap.size, 2, none⟩ = some (.slice a cs.length cap) := cu_below hb1 (by simp [go_sem]) (by simp)
      have hbw := hide (show Below w.heap.size w w1 from (by repeat (first | with_reducible exact Below.refl _ _ | with_reducible assumption | with_reducible refine up_drewN ?_ | with_reducible refine up_drew ?_ | (with_reducible refine up_alloc ?_ ?_; rotate_left; (first | omega | (simp <;> omega) | simp)) | (with_reducible refine up_set ?_ ?_; rotate_left; (first | omega | (simp <;> omega) | simp)) | (with_reducible refine Below.trans ?_ (Below.mono (by with_reducible assumption) ?_); rotate_left; (first | omega | (simp <;> omega) | simp)))))
      clear hb1 hC
      go_wp2
      go_loopw [9, 23] (fun _ i wr => ∃ j : Nat, j ≤ ps.length ∧ i = .int .i64 j ∧ Hid (plErr (cs.length : Int) ps = plErr (cs.length : Int) (ps.drop j)) ∧ Hid (Below w1.heap.size w1 wr)) (fun _ i _ => ps.length - (intOf i).toNat)
      case atStart => exact ⟨0, Nat.zero_le _, rfl, rfl, Below.refl _ _⟩
      case round =>
        obtain ⟨j, hj, rfl, hrest, hb⟩ := hrel
        have k0 := (hb.out.cell (cell_lt k2)).trans k2
        have hzr := hb.out.size
        have hzk : w.heap.size < w1.heap.size := cell_lt k2
        have hzw : w.heap.size < wr.heap.size := by omega
        have hbr := hide (hbw.out.trans (hb.out.mono hbw.out.size))
        clear k2
        by_cases hlt : j < ps.length
        · obtain ⟨b, o, rfl, hbB, e0⟩ := hP.out.int j hlt
          have e1 := cu_below hbr.out e0 (by simp; omega)
          have hbl := cell_lt e1
          clear e0
          obtain ⟨x, hx⟩ : ∃ x, x = ps[j] := ⟨_, rfl⟩
          rw [← hx] at e1
          replace hx := hide hx
          by_cases q : x < 0 ∨ (cs.length : Int) ≤ x
          · have hq := hide (pl_hit hlt (by rw [← hx.out]; exact q))
            have q2 : x < 0 ∨ (0 ≤ x ∧ (cs.length : Int) ≤ x) := by omega
            clear q
            rcases q2 with q | ⟨q0, q⟩
            all_goals
              go_wp2
              go_ret
              exact ⟨ret_int (by rw [hr.out, hrest.out, hq.out]), hbr.out⟩
          · have hq := hide (pl_miss hlt (by rw [← hx.out]; exact q))
            have q1 : 0 ≤ x := by omega
            have q2 : x < (cs.length : Int) := by omega
            clear q
            go_wp2
            go_roundw
            case rel => exact ⟨j + 1, by omega, by go_num, hide (by rw [hrest.out, hq.out]), hb⟩
            case measure => simp [intOf]; omega
        · go_wp2
          go_ret
          refine ⟨ret_int ?_, hbr.out⟩
          rw [hr.out, hrest.out, List.drop_eq_nil_of_le (by omega)]
          rfl
  · have hr := hide (show hcErr W H cs k ps = gridErr W H cs by unfold hcErr; rw [show hlErr W H cs k = gridErr W H cs by unfold hlErr; rw [if_pos h0]]; rw [if_pos h0])
    have q0 : (gridErr W H cs != 0) = true := by simp [h0]
    clear h0
    go_enter Try.func28, Try.ntmps28
    go_wp2_with fail
    refine (hC.out _ B (by simp; omega) (hE.out.below ((by repeat (first | with_reducible exact Below.refl _ _ | with_reducible assumption | with_reducible refine up_drewN ?_ | with_reducible refine up_drew ?_ | (with_reducible refine up_alloc ?_ ?_; rotate_left; (first | omega | (simp <;> omega) | simp)) | (with_reducible refine up_set ?_ ?_; rotate_left; (first | omega | (simp <;> omega) | simp)) | (with_reducible refine Below.trans ?_ (Below.mono (by with_reducible assumption) ?_); rotate_left; (first | omega | (simp <;> omega) | simp)))) : Below w.heap.size w _) hB)).mono ?_
    rintro e w1 ⟨rfl, hb1⟩
    go_wp2
    go_ret
    exact ⟨ret_int hr.out.symm, (by repeat (first | with_reducible exact Below.refl _ _ | with_reducible assumption | with_reducible refine up_drewN ?_ | with_reducible refine up_drew ?_ | (with_reducible refine up_alloc ?_ ?_; rotate_left; (first | omega | (simp <;> omega) | simp)) | (with_reducible refine up_set ?_ ?_; rotate_left; (first | omega | (simp <;> omega) | simp)) | (with_reducible refine Below.trans ?_ (Below.mono (by with_reducible assumption) ?_); rotate_left; (first | omega | (simp <;> omega) | simp))))⟩
end Go.Proofs.Ytgkiipmeigfjnaa

/-! What hier.within returns: the moves within squares, and those between. Conditions: right ground, squares of 1 to 8 a side. -/
namespace Go.Proofs.Ytgkiipmeigfjnaa
open Go.RowKit
set_option linter.unusedSimpArgs false
set_option linter.unusedVariables false
def sameSq (W k : Int) (e : Ed) : Bool := decide (sqN W k e.u = sqN W k e.v)
def insE (W k : Int) (es : List Ed) : List Ed := es.filter (sameSq W k)
def betE (W k : Int) (es : List Ed) : List Ed := es.filter fun e => !sameSq W k e
theorem ins_take {W k : Int} {es : List Ed} {j : Nat} (h : j < es.length) : insE W k (es.take (j + 1)) = if sameSq W k es[j] = true then insE W k (es.take j) ++ [es[j]] else insE W k (es.take j) := by
  unfold insE
  rw [List.take_succ_eq_append_getElem h, List.filter_append]
  by_cases q : sameSq W k es[j] = true
  · rw [if_pos q, List.filter_cons, if_pos q]; rfl
  · rw [if_neg q, List.filter_cons, if_neg q]; simp
theorem bet_take {W k : Int} {es : List Ed} {j : Nat} (h : j < es.length) : betE W k (es.take (j + 1)) = if sameSq W k es[j] = true then betE W k (es.take j) else betE W k (es.take j) ++ [es[j]] := by
  unfold betE
  rw [List.take_succ_eq_append_getElem h, List.filter_append]
  by_cases q : sameSq W k es[j] = true
  · rw [if_pos q, List.filter_cons, if_neg (by simp [q])]; simp
  · rw [if_neg q, List.filter_cons, if_pos (by simp [q])]; rfl
theorem ins_len (W k : Int) (es : List Ed) : (insE W k es).length ≤ es.length := List.length_filter_le ..
theorem bet_len (W k : Int) (es : List Ed) : (betE W k es).length ≤ es.length := List.length_filter_le ..
/-- two nets that grow: their blocks p and q, w2 the world at the start -/
structure Wi (eo : TypeId) (p q : Nat) (n : Int) (w2 : World) (v1 v2 : Value) (xs1 xs2 : List Ed) (wr : World) : Prop where
  c0 : wr.cell? ⟨p, 0, none⟩ = some (.int .i64 n)
  c1 : wr.cell? ⟨p, 1, none⟩ = some v1
  d0 : wr.cell? ⟨q, 0, none⟩ = some (.int .i64 n)
  d1 : wr.cell? ⟨q, 1, none⟩ = some v2
  f0 : ∀ o, wr.frozen? ⟨p, o, none⟩ = false
  f1 : ∀ o, wr.frozen? ⟨q, o, none⟩ = false
  o1 : Own encE 3 eo wr w2.heap.size v1 xs1
  o2 : Own encE 3 eo wr w2.heap.size v2 xs2
  sep : ∀ k, v1.ownBlock = some k → v2.ownBlock ≠ some k
  kp : Keep (fun j => j = p ∨ j = q) w2 wr
  lp : p < w2.heap.size
  lq : q < w2.heap.size
  ne : p ≠ q
section
variable {eo : TypeId} {p q : Nat} {n : Int} {w2 wr w' : World} {v1 v2 v' : Value} {xs1 xs2 : List Ed} {y : Ed}
theorem Wi.size (h : Wi eo p q n w2 v1 v2 xs1 xs2 wr) : w2.heap.size ≤ wr.heap.size := h.kp.size
theorem Wi.stays (h : Wi eo p q n w2 v1 v2 xs1 xs2 wr) (b : Below wr.heap.size wr w') : Wi eo p q n w2 v1 v2 xs1 xs2 w' :=
  have a1 := cell_lt h.c0
  have a2 := cell_lt h.d0
  ⟨cu_below b h.c0 a1, cu_below b h.c1 a1, cu_below b h.d0 a2, cu_below b h.d1 a2, fun o => fu_below b (h.f0 o) a1, fun o => fu_below b (h.f1 o) a2, h.o1.stays b, h.o2.stays b, h.sep, h.kp.trans (Keep.new b), h.lp, h.lq, h.ne⟩
theorem Wi.push1 (h : Wi eo p q n w2 v1 v2 xs1 xs2 wr) {o : Obj} (own : Own encE 3 eo w' w2.heap.size v' (xs1 ++ [y])) (hg : (wr.alloc o).grownBy w' v1.ownBlock) (hat : ∀ k, v'.ownBlock = some k → v1.ownBlock = some k ∨ wr.heap.size ≤ k) :
    Wi eo p q n w2 v' v2 (xs1 ++ [y]) xs2 (w'.setCell ⟨p, 1, none⟩ v') := by
  have hk : Keep (fun j => v1.ownBlock = some j) wr w' := ((Keep.refl _ wr).alloc o).grown hg (fun k hk => .inl hk)
  have b1 := h.o1.block_lt
  have b2 := h.o2.block_lt
  have a1 := h.lp
  have a2 := h.lq
  have a3 := h.ne
  have n1 : v1.ownBlock ≠ some p := fun e => by have := (b1 p e).1; omega
  have n2 : v1.ownBlock ≠ some q := fun e => by have := (b1 q e).1; omega
  have z1 : p < wr.heap.size := cell_lt h.c0
  have z2 : q < wr.heap.size := cell_lt h.d0
  have c1' := hk.cu h.c1 n1
  refine ⟨cu_set_off (hk.cu h.c0 n1) (by omega), World.cell?_setCell_same _ _ _ c1', cu_set (hk.cu h.d0 n2) (by simp; omega), cu_set (hk.cu h.d1 n2) (by simp; omega), fun o => fu_set ((hk.frozen z1 n1).trans (h.f0 o)), fun o => fu_set ((hk.frozen z2 n2).trans (h.f1 o)), own.elsewhere (fun e => by have := (own.block_lt _ e).1; simp at this; omega) _, (hk.own h.o2 (fun k e e2 => h.sep k e2 e)).elsewhere (fun e => by have := (b2 _ e).1; simp at this; omega) _, ?_, ?_, a1, a2, a3⟩
  · intro k e1 e2
    rcases hat k e1 with e3 | e3
    · exact h.sep k e3 e2
    · have := (b2 k e2).2; omega
  · have := (h.kp.alloc o).grown (S := fun j => j = p ∨ j = q) hg (fun k hk => .inr (b1 k hk).1)
    exact this.setCell (.inl (.inl rfl)) _
theorem Wi.push2 (h : Wi eo p q n w2 v1 v2 xs1 xs2 wr) {o : Obj} (own : Own encE 3 eo w' w2.heap.size v' (xs2 ++ [y])) (hg : (wr.alloc o).grownBy w' v2.ownBlock) (hat : ∀ k, v'.ownBlock = some k → v2.ownBlock = some k ∨ wr.heap.size ≤ k) :
    Wi eo p q n w2 v1 v' xs1 (xs2 ++ [y]) (w'.setCell ⟨q, 1, none⟩ v') := by
  have hk : Keep (fun j => v2.ownBlock = some j) wr w' := ((Keep.refl _ wr).alloc o).grown hg (fun k hk => .inl hk)
  have b1 := h.o1.block_lt
  have b2 := h.o2.block_lt
  have a1 := h.lp
  have a2 := h.lq
  have a3 := h.ne
  have n1 : v2.ownBlock ≠ some p := fun e => by have := (b2 p e).1; omega
  have n2 : v2.ownBlock ≠ some q := fun e => by have := (b2 q e).1; omega
  have z1 : p < wr.heap.size := cell_lt h.c0
  have z2 : q < wr.heap.size := cell_lt h.d0
  have d1' := hk.cu h.d1 n2
  refine ⟨cu_set (hk.cu h.c0 n1) (by simp; omega), cu_set (hk.cu h.c1 n1) (by simp; omega), cu_set_off (hk.cu h.d0 n2) (by omega), World.cell?_setCell_same _ _ _ d1', fun o => fu_set ((hk.frozen z1 n1).trans (h.f0 o)), fun o => fu_set ((hk.frozen z2 n2).trans (h.f1 o)), (hk.own h.o1 (fun k e e2 => h.sep k e e2)).elsewhere (fun e => by have := (b1 _ e).1; simp at this; omega) _, own.elsewhere (fun e => by have := (own.block_lt _ e).1; simp at this; omega) _, ?_, ?_, a1, a2, a3⟩
  · intro k e1 e2
    rcases hat k e2 with e3 | e3
    · exact h.sep k e1 e3
    · have := (b1 k e1).2; omega
  · have := (h.kp.alloc o).grown (S := fun j => j = p ∨ j = q) hg (fun k hk => .inr (b2 k hk).1)
    exact this.setCell (.inl (.inr rfl)) _
end
/-- two nets handed back -/
def TwoNets (n : Int) (xs1 xs2 : List Ed) (w : World) (e : Ending) (w' : World) : Prop := ∃ a1 c1 a2 c2, e = .returned (.tuple #[.agg #[.int .i64 n, .slice a1 xs1.length c1], .agg #[.int .i64 n, .slice a2 xs2.length c2]]) ∧ Row encE 3 w' w'.heap.size a1 xs1 ∧ Row encE 3 w' w'.heap.size a2 xs2 ∧ Below w.heap.size w w'
theorem Own.rowE {w : World} {base n c : Nat} {e : TypeId} {a : Option Addr} {xs : List Ed} (h : Own encE 3 e w base (.slice a n c) xs) : Row encE 3 w w.heap.size a xs := by
  obtain ⟨a', c', hv, hr, _⟩ := h.row lenE
  injection hv with g1 g2 g3
  subst g1
  exact hr
set_option maxRecDepth 100000 in
set_option maxHeartbeats 4000000 in
theorem within_any (W H k : Int) (a : Option Addr) (cap : Nat) (cs : List Int) (w : World) (B : Nat) (hB : B ≤ w.heap.size) (hE : Row encI 1 w B a cs) (h0 : gridErr W H cs = 0) (hk : 1 ≤ k) (hk8 : k ≤ 8) (es : List Ed) (hes : gridNet W H cs cs.length = es) (hin : ∀ e ∈ es, 0 ≤ e.u ∧ e.u < 64 ∧ 0 ≤ e.v ∧ e.v < 64) (hel : es.length ≤ 512) :
    Calls Try.prog 83 #[.agg #[.int .i64 W, .int .i64 H, .slice a cs.length cap], .int .i64 k] w (TwoNets (cs.length : Int) (insE W k es) (betE W k es) w) := by
  have hbds := gridErr_ok h0
  have b1 := hbds.1
  have b2 := hbds.2.1
  clear hbds
  have hO := hide (fun w B hB hE => by have := netof_ok W H a cap cs w B hB hE h0; rw [hes] at this; exact this)
  have hS := hide (fun (p : Int) (h : 0 ≤ p ∧ p < 64) w => hsq_any W H k p (.slice a cs.length cap) w b1 b2 hk hk8 h.1 h.2 ⟨_, _, _, rfl⟩)
  replace hE := hide hE
  replace hin := hide hin
  clear h0 hes
  go_enter Try.func83, Try.ntmps83
  go_wp2_with fail
  refine (hO.out _ B (by simp; omega) (hE.out.below ((by repeat (first | with_reducible exact Below.refl _ _ | with_reducible assumption | with_reducible refine up_drewN ?_ | with_reducible refine up_drew ?_ | (with_reducible refine up_alloc ?_ ?_; rotate_left; (first | omega | (simp <;> omega) | simp)) | (with_reducible refine up_set ?_ ?_; rotate_left; (first | omega | (simp <;> omega) | simp)) | (with_reducible refine Below.trans ?_ (Below.mono (by with_reducible assumption) ?_); rotate_left; (first | omega | (simp <;> omega) | simp)))) : Below w.heap.size w _) hB)).mono ?_
  rintro e w1 ⟨v, rfl, own, hb1⟩
  obtain ⟨av, cv, rfl⟩ := own.shape (n := es.length) rfl
  have hrow := hide own.rowE
  have hlow := hide (show ∀ b, (Value.slice av es.length cv).ownBlock = some b → w.heap.size + 1 + 1 < b from fun b hb => by have := (own.block_lt b hb).1; simp at this; omega)
  have hz1 := hb1.size
  simp at hz1
  have g0 : w1.cell? ⟨w.heap.size, 0, none⟩ = some (.int .i64 W) := cu_below hb1 (by simp [go_sem]) (by simp <;> omega)
  have g1 : w1.cell? ⟨w.heap.size, 1, none⟩ = some (.int .i64 H) := cu_below hb1 (by simp [go_sem]) (by simp <;> omega)
  have g2 : w1.cell? ⟨w.heap.size, 2, none⟩ = some (.slice a cs.length cap) := cu_below hb1 (by simp [go_sem]) (by simp <;> omega)
  have i0 : w1.cell? ⟨w.heap.size + 1, 0, none⟩ = some (.int .i64 0) := cu_below hb1 (by simp [go_sem]) (by simp <;> omega)
  have i1 : w1.cell? ⟨w.heap.size + 1, 1, none⟩ = some (.slice none 0 0) := cu_below hb1 (by simp [go_sem]) (by simp <;> omega)
  have j0 : w1.cell? ⟨w.heap.size + 1 + 1, 0, none⟩ = some (.int .i64 0) := cu_below hb1 (by simp [go_sem]) (by simp <;> omega)
  have j1 : w1.cell? ⟨w.heap.size + 1 + 1, 1, none⟩ = some (.slice none 0 0) := cu_below hb1 (by simp [go_sem]) (by simp <;> omega)
  have fi : ∀ o, w1.frozen? ⟨w.heap.size + 1, o, none⟩ = false := fun o => fu_below hb1 (by simp [go_sem]) (by simp <;> omega)
  have fj : ∀ o, w1.frozen? ⟨w.heap.size + 1 + 1, o, none⟩ = false := fun o => fu_below hb1 (by simp [go_sem]) (by simp <;> omega)
  have fi0 := fi 0
  have fj0 := fj 0
  have hl1 : w.heap.size < w1.heap.size := by omega
  have hl2 : w.heap.size + 1 < w1.heap.size := by omega
  have hl3 : w.heap.size + 1 + 1 < w1.heap.size := by omega
  have hbw := hide (show Below w.heap.size w w1 from (by repeat (first | with_reducible exact Below.refl _ _ | with_reducible assumption | with_reducible refine up_drewN ?_ | with_reducible refine up_drew ?_ | (with_reducible refine up_alloc ?_ ?_; rotate_left; (first | omega | (simp <;> omega) | simp)) | (with_reducible refine up_set ?_ ?_; rotate_left; (first | omega | (simp <;> omega) | simp)) | (with_reducible refine Below.trans ?_ (Below.mono (by with_reducible assumption) ?_); rotate_left; (first | omega | (simp <;> omega) | simp)))))
  replace own := hide own
  clear hb1 hO
  go_wp2
  go_region
  obtain ⟨w2, hw2⟩ : ∃ w2, w2 = (((w1.setCell ⟨w.heap.size + 1, 0, none⟩ (.int .i64 (cs.length : Int))).setCell ⟨w.heap.size + 1 + 1, 0, none⟩ (.int .i64 (cs.length : Int))).alloc (.cells #[.int .i64 (cs.length : Int), .slice av es.length cv] 24)).drew := ⟨_, rfl⟩
  have hs2 : w2.heap.size = w1.heap.size + 1 := by rw [hw2]; simp
  have hB12 : Below w.heap.size w1 w2 := by rw [hw2]; exact (by repeat (first | with_reducible exact Below.refl _ _ | with_reducible assumption | with_reducible refine up_drewN ?_ | with_reducible refine up_drew ?_ | (with_reducible refine up_alloc ?_ ?_; rotate_left; (first | omega | (simp <;> omega) | simp)) | (with_reducible refine up_set ?_ ?_; rotate_left; (first | omega | (simp <;> omega) | simp)) | (with_reducible refine Below.trans ?_ (Below.mono (by with_reducible assumption) ?_); rotate_left; (first | omega | (simp <;> omega) | simp))))
  have hK12 : Keep (fun j => j = w.heap.size + 1 ∨ j = w.heap.size + 1 + 1) w1 w2 := by
    rw [hw2]
    exact (((((Keep.refl (fun j => j = w.heap.size + 1 ∨ j = w.heap.size + 1 + 1) w1).setCell (.inl (.inl rfl)) _).setCell (.inl (.inr rfl)) _).alloc _).drew)
  have G0 := hK12.cu g0 (by simp; omega)
  have G1 := hK12.cu g1 (by simp; omega)
  have G2 := hK12.cu g2 (by simp; omega)
  have A1 : w2.cell? ⟨w1.heap.size, 1, none⟩ = some (.slice av es.length cv) := by rw [hw2]; simp [go_sem]
  have hWi0 : Wi 26 (w.heap.size + 1) (w.heap.size + 1 + 1) (cs.length : Int) w2 (.slice none 0 0) (.slice none 0 0) [] [] w2 := by
    refine ⟨?_, ?_, ?_, ?_, ?_, ?_, Own.nil _ _, Own.nil _ _, (fun k h => by simp [Value.ownBlock] at h), Keep.refl _ _, by omega, by omega, by omega⟩
    · rw [hw2]; exact cu_drew (cu_alloc (cu_set (World.cell?_setCell_same _ _ _ i0) (by simp)))
    · rw [hw2]; exact cu_drew (cu_alloc (cu_set (cu_set_off i1 (by omega)) (by simp)))
    · rw [hw2]; exact cu_drew (cu_alloc (World.cell?_setCell_same _ _ _ (cu_set j0 (by simp))))
    · rw [hw2]; exact cu_drew (cu_alloc (cu_set_off (cu_set j1 (by simp)) (by omega)))
    · intro o; rw [hw2]; exact fu_drew (fu_alloc (fu_set (fu_set (fi o))))
    · intro o; rw [hw2]; exact fu_drew (fu_alloc (fu_set (fu_set (fj o))))
  have hrow2 : Row encE 3 w2 w2.heap.size av es := by
    have h := hK12.own own.out (fun k hk e => by
      have := (own.out.block_lt k hk).1
      simp at this
      rcases e with e | e <;> omega)
    exact h.rowE
  have hbw2 := hide (hbw.out.trans hB12)
  simp only [← hw2]
  replace hw2 := hide hw2
  replace hWi0 := hide hWi0
  replace hrow2 := hide hrow2
  clear g0 g1 g2 i0 i1 j0 j1 fi fj fi0 fj0 hB12 hK12 own hrow hbw
  go_wp2
  go_loopw [9, 24] (fun _ i wr => ∃ (j p1 p2 : Nat) (x1 x2 : Option Addr) (d1 d2 : Nat), j ≤ es.length ∧ p1 ≤ j ∧ p2 ≤ j ∧ i = .int .i64 j ∧ Hid ((insE W k (es.take j)).length = p1) ∧ Hid ((betE W k (es.take j)).length = p2) ∧ Hid (Wi 26 (w.heap.size + 1) (w.heap.size + 1 + 1) (cs.length : Int) w2 (.slice x1 p1 d1) (.slice x2 p2 d2) (insE W k (es.take j)) (betE W k (es.take j)) wr)) (fun _ i _ => es.length - (intOf i).toNat)
  case atStart => exact ⟨0, 0, 0, none, none, 0, 0, Nat.zero_le _, Nat.le_refl _, Nat.le_refl _, rfl, hide rfl, hide rfl, hWi0⟩
  case round =>
    clear hWi0
    obtain ⟨j, p1, p2, x1, x2, d1, d2, hj, hp1, hp2, rfl, hl1', hl2', hWi⟩ := hrel
    have hzr := hWi.out.size
    have k0 := hWi.out.kp.cu G0 (by simp; omega)
    have k1 := hWi.out.kp.cu G1 (by simp; omega)
    have k2 := hWi.out.kp.cu G2 (by simp; omega)
    have hzs : w.heap.size < wr.heap.size := by omega
    have hzp : w.heap.size + 1 < wr.heap.size := by omega
    have hzq : w.heap.size + 1 + 1 < wr.heap.size := by omega
    by_cases hlt : j < es.length
    · obtain ⟨eb, eo, rfl, heb, q0, q1, q2⟩ := hrow2.out.ed j hlt
      obtain ⟨hu0, hu1, hv0, hv1⟩ := hin.out es[j] (List.getElem_mem hlt)
      have t1 := hide (ins_take (W := W) (k := k) hlt)
      have t2 := hide (bet_take (W := W) (k := k) hlt)
      have hlo := hlow.out eb rfl
      have q0 := hWi.out.kp.cu q0 (by simp; omega)
      have q1 := hWi.out.kp.cu q1 (by simp; omega)
      have q2 := hWi.out.kp.cu q2 (by simp; omega)
      have hebx : eb < wr.heap.size := by omega
      obtain ⟨ed, hed⟩ : ∃ ed, ed = es[j] := ⟨_, rfl⟩
      rw [← hed] at q0 q1 q2 t1 t2 hu0 hu1 hv0 hv1
      have hu : 0 ≤ ed.u ∧ ed.u < 64 := ⟨hu0, hu1⟩
      have hv : 0 ≤ ed.v ∧ ed.v < 64 := ⟨hv0, hv1⟩
      replace hed := hide hed
      have hsb : (sqN W k ed.u == sqN W k ed.v) = sameSq W k ed := by unfold sameSq; rfl
      obtain ⟨sb, hsb2⟩ : ∃ sb, sb = sameSq W k ed := ⟨_, rfl⟩
      rw [← hsb2] at hsb t1 t2
      replace hsb2 := hide hsb2
      have ij : (0 : Int) ≤ (j : Int) ∧ (j : Int) < (es.length : Int) := by omega
      have key := hide (show ∀ w', Below (wr.heap.size + 1) (wr.alloc (.cells #[.int .i64 ed.u, .int .i64 ed.v, .int .i64 ed.c] 26)) w' → (Below (wr.heap.size + 1) (wr.alloc (.cells #[.int .i64 ed.u, .int .i64 ed.v, .int .i64 ed.c] 26)) w' ∧ w'.cell? ⟨w.heap.size, 0, none⟩ = some (.int .i64 W) ∧ w'.cell? ⟨w.heap.size, 1, none⟩ = some (.int .i64 H) ∧ w'.cell? ⟨w.heap.size, 2, none⟩ = some (.slice a cs.length cap) ∧ w'.cell? ⟨wr.heap.size, 0, none⟩ = some (.int .i64 ed.u) ∧ w'.cell? ⟨wr.heap.size, 1, none⟩ = some (.int .i64 ed.v)) from fun w' h =>
        ⟨h, cu_below h (cu_alloc k0) (by simp; omega), cu_below h (cu_alloc k1) (by simp; omega), cu_below h (cu_alloc k2) (by simp; omega), cu_below h (by simp [go_sem]) (by simp), cu_below h (by simp [go_sem]) (by simp)⟩)
      clear hu0 hu1 hv0 hv1
      cases sb with
      | true =>
        simp only [if_true] at t1 t2
        go_wp2
        go_region_held3 (fun w' => Below (wr.heap.size + 1) (wr.alloc (.cells #[.int .i64 ed.u, .int .i64 ed.v, .int .i64 ed.c] 26)) w' ∧ w'.cell? ⟨w.heap.size, 0, none⟩ = some (.int .i64 W) ∧ w'.cell? ⟨w.heap.size, 1, none⟩ = some (.int .i64 H) ∧ w'.cell? ⟨w.heap.size, 2, none⟩ = some (.slice a cs.length cap) ∧ w'.cell? ⟨wr.heap.size, 0, none⟩ = some (.int .i64 ed.u) ∧ w'.cell? ⟨wr.heap.size, 1, none⟩ = some (.int .i64 ed.v))
          (first | exact key.out _ (up_drew (Below.refl _ _)) | exact key.out _ (by assumption))
          (first | (go_at_call 81; have hb4 := (‹Below (wr.heap.size + 1) _ _ ∧ _› : _ ∧ _).1; refine (hS.out _ (by assumption) _).mono ?_; rintro e w5 ⟨rfl, hb5⟩; have hb6 := hb4.trans (hb5.mono (Nat.le_trans (by simp) hb4.size))))
        all_goals
          have hb7 := (‹Below (wr.heap.size + 1) _ w5 ∧ _› : _ ∧ _)
          have hW5 := hide (hWi.out.stays (unalloc (hb7.1.mono (by omega)) (Nat.le_refl _)))
          have y0 := cu_below hb7.1 (show (wr.alloc (.cells #[.int .i64 ed.u, .int .i64 ed.v, .int .i64 ed.c] 26)).cell? ⟨wr.heap.size, 0, none⟩ = some (.int .i64 ed.u) by simp [go_sem]) (by simp)
          have y1 := cu_below hb7.1 (show (wr.alloc (.cells #[.int .i64 ed.u, .int .i64 ed.v, .int .i64 ed.c] 26)).cell? ⟨wr.heap.size, 1, none⟩ = some (.int .i64 ed.v) by simp [go_sem]) (by simp)
          have y2 := cu_below hb7.1 (show (wr.alloc (.cells #[.int .i64 ed.u, .int .i64 ed.v, .int .i64 ed.c] 26)).cell? ⟨wr.heap.size, 2, none⟩ = some (.int .i64 ed.c) by simp [go_sem]) (by simp)
          have hz5 : wr.heap.size < w5.heap.size := cell_lt y0
          have z1 := hW5.out.c1
          have z2 := hW5.out.f0 1
          have hap := hide (show (Value.slice x1 p1 d1).ownBlock ≠ some (w.heap.size + 1) from fun e => by have := (hWi.out.o1.block_lt _ e).1; omega)
          have hzp5 : w.heap.size + 1 < w5.heap.size := by omega
          clear hb7 q0 q1 q2 k0 k1 k2
          go_wp2_with (at_builtin; (refine wpList_pushL (e := 26) (enc := encE) (xs := insE W k (es.take j)) (v := .slice x1 (p1) d1) (base := w2.heap.size) rfl (.tmp 40) (.tmp 42) 22 rfl _ 24 Try.underlying22 info_ed rfl ?d11 lenE oneE (p1) ?d21 ?d31 ?d41 ⟨w5.heap.size, 0, none⟩ 1 ed ?d51 ?d61 ?d71 ?d81 ?d91 ?_); (case d11 => omega); (case d21 => exact hl1'.out); (case d31 => rfl); (case d41 => exact (hW5.out.o1.alloc _)); (case d51 => rfl); (case d61 => exact newE _ _ _ _ rfl); (case d71 => omega); (case d81 => unfold maxLen; omega); (case d91 => first | omega | (simp; done) | (simp; omega)); intro g1 c1 w1 own1 hb1 hgr1 hat1 hgl1; have hk9 := hgr1.cell (a := ⟨w.heap.size + 1, 1, none⟩) (v := .slice x1 p1 d1) (cu_alloc z1) (fun e => hap.out e.symm); have hf9 := (hgr1.frozen_far ⟨w.heap.size + 1, 1, none⟩ (by simp; omega) (fun e => hap.out e.symm)).trans (fu_alloc z2); replace own1 := hide own1; replace hb1 := hide hb1; replace hgr1 := hide hgr1; replace hat1 := hide hat1)
          have hW9 := hide (hW5.out.push1 own1.out hgr1.out (fun b hb => by simp only [Value.ownBlock, Option.some.injEq] at hb; subst hb; rcases hat1.out with h | h; exact .inl h; right; rw [h]; simp))
          go_roundw
          case rel => exact ⟨j + 1, p1 + 1, p2, _, x2, _, d2, by omega, by omega, by omega, by go_num, hide (by rw [t1.out, List.length_append, hl1'.out]; rfl), hide (by rw [t2.out]; exact hl2'.out), hide (by rw [t1.out, t2.out]; exact hW9.out)⟩
          case measure => simp [intOf]; omega
      | false =>
        simp only [Bool.false_eq_true, if_false] at t1 t2
        go_wp2
        go_region_held3 (fun w' => Below (wr.heap.size + 1) (wr.alloc (.cells #[.int .i64 ed.u, .int .i64 ed.v, .int .i64 ed.c] 26)) w' ∧ w'.cell? ⟨w.heap.size, 0, none⟩ = some (.int .i64 W) ∧ w'.cell? ⟨w.heap.size, 1, none⟩ = some (.int .i64 H) ∧ w'.cell? ⟨w.heap.size, 2, none⟩ = some (.slice a cs.length cap) ∧ w'.cell? ⟨wr.heap.size, 0, none⟩ = some (.int .i64 ed.u) ∧ w'.cell? ⟨wr.heap.size, 1, none⟩ = some (.int .i64 ed.v))
          (first | exact key.out _ (up_drew (Below.refl _ _)) | exact key.out _ (by assumption))
          (first | (go_at_call 81; have hb4 := (‹Below (wr.heap.size + 1) _ _ ∧ _› : _ ∧ _).1; refine (hS.out _ (by assumption) _).mono ?_; rintro e w5 ⟨rfl, hb5⟩; have hb6 := hb4.trans (hb5.mono (Nat.le_trans (by simp) hb4.size))))
        all_goals
          have hb7 := (‹Below (wr.heap.size + 1) _ w5 ∧ _› : _ ∧ _)
          have hW5 := hide (hWi.out.stays (unalloc (hb7.1.mono (by omega)) (Nat.le_refl _)))
          have y0 := cu_below hb7.1 (show (wr.alloc (.cells #[.int .i64 ed.u, .int .i64 ed.v, .int .i64 ed.c] 26)).cell? ⟨wr.heap.size, 0, none⟩ = some (.int .i64 ed.u) by simp [go_sem]) (by simp)
          have y1 := cu_below hb7.1 (show (wr.alloc (.cells #[.int .i64 ed.u, .int .i64 ed.v, .int .i64 ed.c] 26)).cell? ⟨wr.heap.size, 1, none⟩ = some (.int .i64 ed.v) by simp [go_sem]) (by simp)
          have y2 := cu_below hb7.1 (show (wr.alloc (.cells #[.int .i64 ed.u, .int .i64 ed.v, .int .i64 ed.c] 26)).cell? ⟨wr.heap.size, 2, none⟩ = some (.int .i64 ed.c) by simp [go_sem]) (by simp)
          have hz5 : wr.heap.size < w5.heap.size := cell_lt y0
          have z1 := hW5.out.d1
          have z2 := hW5.out.f1 1
          have hap := hide (show (Value.slice x2 p2 d2).ownBlock ≠ some (w.heap.size + 1 + 1) from fun e => by have := (hWi.out.o2.block_lt _ e).1; omega)
          have hzp5 : w.heap.size + 1 + 1 < w5.heap.size := by omega
          clear hb7 q0 q1 q2 k0 k1 k2
          go_wp2_with (at_builtin; (refine wpList_pushL (e := 26) (enc := encE) (xs := betE W k (es.take j)) (v := .slice x2 (p2) d2) (base := w2.heap.size) rfl (.tmp 46) (.tmp 48) 22 rfl _ 24 Try.underlying22 info_ed rfl ?d11 lenE oneE (p2) ?d21 ?d31 ?d41 ⟨w5.heap.size, 0, none⟩ 1 ed ?d51 ?d61 ?d71 ?d81 ?d91 ?_); (case d11 => omega); (case d21 => exact hl2'.out); (case d31 => rfl); (case d41 => exact (hW5.out.o2.alloc _)); (case d51 => rfl); (case d61 => exact newE _ _ _ _ rfl); (case d71 => omega); (case d81 => unfold maxLen; omega); (case d91 => first | omega | (simp; done) | (simp; omega)); intro g1 c1 w1 own1 hb1 hgr1 hat1 hgl1; have hk9 := hgr1.cell (a := ⟨w.heap.size + 1 + 1, 1, none⟩) (v := .slice x2 p2 d2) (cu_alloc z1) (fun e => hap.out e.symm); have hf9 := (hgr1.frozen_far ⟨w.heap.size + 1 + 1, 1, none⟩ (by simp; omega) (fun e => hap.out e.symm)).trans (fu_alloc z2); replace own1 := hide own1; replace hb1 := hide hb1; replace hgr1 := hide hgr1; replace hat1 := hide hat1)
          have hW9 := hide (hW5.out.push2 own1.out hgr1.out (fun b hb => by simp only [Value.ownBlock, Option.some.injEq] at hb; subst hb; rcases hat1.out with h | h; exact .inl h; right; rw [h]; simp))
          go_roundw
          case rel => exact ⟨j + 1, p1, p2 + 1, x1, _, d1, _, by omega, by omega, by omega, by go_num, hide (by rw [t1.out]; exact hl1'.out), hide (by rw [t2.out, List.length_append, hl2'.out]; rfl), hide (by rw [t1.out, t2.out]; exact hW9.out)⟩
          case measure => simp [intOf]; omega
    · obtain rfl : j = es.length := by omega
      obtain ⟨c0, c1, d0, d1', f0, f1, o1, o2, _, kp, _, _, _⟩ := hWi.out
      have f00 := f0 0
      have f01 := f0 1
      have f10 := f1 0
      have f11 := f1 1
      rw [List.take_length] at hl1' hl2' o1 o2
      have hfin := hide (show ∀ w', Keep (fun j => j = w.heap.size + 1 ∨ j = w.heap.size + 1 + 1) wr w' → Row encE 3 w' w'.heap.size x1 (insE W k es) ∧ Row encE 3 w' w'.heap.size x2 (betE W k es) ∧ Below w.heap.size w w' from fun w' hk =>
        ⟨(hk.own o1 (fun k hk e => by have := (o1.block_lt k hk).1; omega)).rowE, (hk.own o2 (fun k hk e => by have := (o2.block_lt k hk).1; omega)).rowE, hbw2.out.trans ((kp.trans hk).toBelow (fun k e => by omega) (by omega))⟩)
      replace o1 := hide o1
      replace o2 := hide o2
      replace kp := hide kp
      go_wp2
      go_region
      go_wp2
      refine bodyPost_ret (v := .tuple #[.agg #[.int .i64 (cs.length : Int), .slice x1 p1 d1], .agg #[.int .i64 (cs.length : Int), .slice x2 p2 d2]]) (by simp [results, Try.results83, go_sem, c0, c1, d0, d1']) rfl ?_
      have hh := hfin.out _ ((((((Keep.refl (fun j => j = w.heap.size + 1 ∨ j = w.heap.size + 1 + 1) wr).setCell (p := ⟨w.heap.size + 1, 0, none⟩) (.inl (.inl rfl)) (.int .i64 (cs.length : Int))).setCell (p := ⟨w.heap.size + 1, 1, none⟩) (.inl (.inl rfl)) (.slice x1 p1 d1)).setCell (p := ⟨w.heap.size + 1 + 1, 0, none⟩) (.inl (.inr rfl)) (.int .i64 (cs.length : Int))).setCell (p := ⟨w.heap.size + 1 + 1, 1, none⟩) (.inl (.inr rfl)) (.slice x2 p2 d2)).drew)
      exact ⟨x1, d1, x2, d2, by rw [hl1'.out, hl2'.out], hh.1, hh.2.1, hh.2.2⟩
end Go.Proofs.Ytgkiipmeigfjnaa

/-! Which cells have a move to another square: what hier.doors and hier.Doors return. Conditions: as each theorem says. -/
namespace Go.Proofs.Ytgkiipmeigfjnaa
open Go.RowKit
set_option linter.unusedSimpArgs false
set_option linter.unusedVariables false
/-- is it an end of one of the edges? -/
def isEnd (v : Nat) (e : Ed) : Bool := decide (e.u = (v : Int)) || decide (e.v = (v : Int))
def dr (es : List Ed) (v : Nat) : Bool := es.any (isEnd v)
theorem dr_take {es : List Ed} {j u v : Nat} (h : j < es.length) (hu : es[j].u = (u : Int)) (hv : es[j].v = (v : Int)) : dr (es.take (j + 1)) = upz (upz (dr (es.take j)) u true) v true := by
  funext x
  unfold dr
  rw [List.take_succ_eq_append_getElem h, List.any_append]
  have h1 : isEnd x es[j] = (decide (u = x) || decide (v = x)) := by
    unfold isEnd
    rw [hu, hv]
    congr 1 <;> (apply decide_eq_decide.2; omega)
  simp only [List.any_cons, List.any_nil, Bool.or_false, h1]
  by_cases hx : x = v
  · subst hx; rw [upz_same]; simp
  · rw [upz_other _ _ hx]
    by_cases hx2 : x = u
    · subst hx2; rw [upz_same]; simp
    · rw [upz_other _ _ hx2]
      have a1 : ¬ u = x := fun e => hx2 e.symm
      have a2 : ¬ v = x := fun e => hx e.symm
      simp [a1, a2]
theorem dr_nil : dr [] = fun _ => false := by funext v; rfl
theorem Own.atB {e : TypeId} {w : World} {base g n c : Nat} {f : Nat → Bool} (h : Own encB 1 e w base (.slice (some ⟨g, 0, none⟩) n c) (RW n f)) (i : Nat) (hi : i < n) : w.cell? ⟨g, i, none⟩ = some (.bool (f i)) := by
  have := h.getB i (by rw [rw_len]; exact hi)
  rwa [rw_get] at this
theorem Own.setB {e : TypeId} {w : World} {base g n c : Nat} {f : Nat → Bool} (h : Own encB 1 e w base (.slice (some ⟨g, 0, none⟩) n c) (RW n f)) (i : Nat) (hi : i < n) (x : Bool) : Own encB 1 e (w.setCell ⟨g, i, none⟩ (.bool x)) base (.slice (some ⟨g, 0, none⟩) n c) (RW n (upz f i x)) := by
  have := h.putB i (by rw [rw_len]; exact hi) x
  rwa [rw_set] at this
set_option maxRecDepth 100000 in
set_option maxHeartbeats 2000000 in
theorem doors_any (n : Nat) (a : Option Addr) (cap m : Nat) (es : List Ed) (hm : es.length = m) (w : World) (B : Nat) (hB : B ≤ w.heap.size) (hE : Row encE 3 w B a es) (hn1 : 1 ≤ n) (hn : n ≤ 64) (hin : ∀ e ∈ es, 0 ≤ e.u ∧ e.u < (n : Int) ∧ 0 ≤ e.v ∧ e.v < (n : Int)) (hel : m ≤ 512) :
    Calls Try.prog 84 #[.agg #[.int .i64 (n : Int), .slice a m cap]] w fun e w' => ∃ g, e = .returned (.slice (some ⟨g, 0, none⟩) n n) ∧ Own encB 1 4 w' w.heap.size (.slice (some ⟨g, 0, none⟩) n n) (RW n (dr es)) ∧ Below w.heap.size w w' := by
  subst hm
  replace hE := hide hE
  replace hin := hide hin
  go_enter Try.func84, Try.ntmps84
  go_wp2_with (at_make; (refine wpList_mk (e := 4) (enc := encB) rfl (.tmp 7) 109 rfl (.bool false) 1 false Try.underlying109 info_bool rfl rfl (n) ?e11 ?e21 ?e31 (w.heap.size) ?e41 ?_); (case e11 => rfl); (case e21 => omega); (case e31 => unfold maxLen; omega); (case e41 => first | omega | (simp; done) | (simp; omega)); intro w1 own1 hb1 hsz1; have k1 := cu_below hb1 (show (w.alloc (.cells #[.int .i64 (n : Int), .slice a es.length cap] 24)).cell? ⟨w.heap.size, 1, none⟩ = some (.slice a es.length cap) by simp [go_sem]) (by simp); have hz1 : w.heap.size < w1.heap.size := (cell_lt k1); replace own1 := hide own1; replace hb1 := hide hb1)
  have own2 : Hid (Own encB 1 4 w1 w.heap.size (.slice (some ⟨w.heap.size + 1, 0, none⟩) n n) (RW n (dr (es.take 0)))) := by
    have h := own1.out
    simp only [World.size_alloc] at h
    rw [List.take_zero, dr_nil, ← rw_rep]
    exact hide h
  have hbw1 : Below (w.heap.size + 1) (w.alloc (.cells #[.int .i64 (n : Int), .slice a es.length cap] 24)) w1 := by
    have h := hb1.out
    simp only [World.size_alloc] at h
    exact h
  have hB1 := hide (unalloc (hbw1.mono (by omega)) (Nat.le_refl _) : Below w.heap.size w w1)
  clear own1 hb1 hbw1 hsz1
  go_loopw [5, 12] (fun _ i wr => ∃ j : Nat, j ≤ es.length ∧ i = .int .i64 j ∧ Hid (Own encB 1 4 wr w.heap.size (.slice (some ⟨w.heap.size + 1, 0, none⟩) n n) (RW n (dr (es.take j)))) ∧ Hid (Below w.heap.size w wr)) (fun _ i _ => es.length - (intOf i).toNat)
  case atStart => exact ⟨0, Nat.zero_le _, rfl, own2, hB1⟩
  case round =>
    clear own2 hB1 k1 hz1
    obtain ⟨j, hj, rfl, own, hb⟩ := hrel
    have hgs := own.out.at_base.2
    by_cases hlt : j < es.length
    · obtain ⟨eb, eo, rfl, heb, q0, q1, q2⟩ := hE.out.ed j hlt
      have q0 := cu_below hb.out q0 (by simp; omega)
      have q1 := cu_below hb.out q1 (by simp; omega)
      have q2 := cu_below hb.out q2 (by simp; omega)
      have hzr := hb.out.size
      have hebx : eb < wr.heap.size := by omega
      obtain ⟨h1, h2, h3, h4⟩ := hin.out es[j] (List.getElem_mem hlt)
      obtain ⟨u, hu⟩ := Int.eq_ofNat_of_zero_le h1
      obtain ⟨v, hv⟩ := Int.eq_ofNat_of_zero_le h3
      have hun : u < n := by omega
      have hvn : v < n := by omega
      have htk := hide (dr_take hlt hu hv)
      rw [hu] at q0
      rw [hv] at q1
      obtain ⟨ec, hec⟩ : ∃ ec, ec = es[j].c := ⟨_, rfl⟩
      rw [← hec] at q2
      replace hec := hide hec
      replace hu := hide hu
      replace hv := hide hv
      have d1 := own.out.atB u hun
      have d2 := own.out.atB v hvn
      have fr := own.out.free
      have iu : (0 : Int) ≤ (u : Int) ∧ (u : Int) < (n : Int) := by omega
      have iv : (0 : Int) ≤ (v : Int) ∧ (v : Int) < (n : Int) := by omega
      have ij : (0 : Int) ≤ (j : Int) ∧ (j : Int) < (es.length : Int) := by omega
      clear h1 h2 h3 h4
      have hdone := hide (show ∀ w', w' = ((((wr.setCell ⟨w.heap.size + 1, u, none⟩ (.bool true)).setCell ⟨w.heap.size + 1, v, none⟩ (.bool true)).alloc (.cells #[.int .i64 (u : Int), .int .i64 (v : Int), .int .i64 ec] 26)).drew) → Own encB 1 4 w' w.heap.size (.slice (some ⟨w.heap.size + 1, 0, none⟩) n n) (RW n (dr (es.take (j + 1)))) ∧ Below w.heap.size w w' from by
        rintro w' rfl
        rw [htk.out]
        exact ⟨(((own.out.setB u hun true).setB v hvn true).alloc _).drew, up_drew (up_alloc ((hb.out.setCell (by simp) _).setCell (by simp) _) (by simp; omega))⟩)
      by_cases huv : u = v
      · subst huv
        go_wp2
        go_region
        all_goals
          go_wp2
          go_roundw
          case rel => exact ⟨j + 1, by omega, by go_num, hide (hdone.out _ rfl).1, hide (hdone.out _ rfl).2⟩
          case measure => simp [intOf]; omega
      · go_wp2
        go_region
        all_goals
          go_wp2
          go_roundw
          case rel => exact ⟨j + 1, by omega, by go_num, hide (hdone.out _ rfl).1, hide (hdone.out _ rfl).2⟩
          case measure => simp [intOf]; omega
    · obtain rfl : j = es.length := by omega
      have o2 := own.out
      rw [List.take_length] at o2
      replace o2 := hide o2
      go_wp2
      go_ret
      exact ⟨_, rfl, o2.out, hb.out⟩
/-- does an edge lead from or to v, between squares? -/
def dq (W k : Int) (v : Nat) (e : Ed) : Bool := isEnd v e && !sameSq W k e
theorem dr_bet (W k : Int) (es : List Ed) (v : Nat) : dr (betE W k es) v = es.any (dq W k v) := by
  unfold dr betE
  rw [List.any_filter]
  congr 1
  funext e
  unfold dq
  rw [Bool.and_comm]
/-- the doors, in order -/
def doorL (f : Nat → Bool) (k : Nat) : List Int := ((List.range k).filter f).map fun (v : Nat) => (v : Int)
theorem doorL_succ (f : Nat → Bool) (k : Nat) : doorL f (k + 1) = if f k = true then doorL f k ++ [(k : Int)] else doorL f k := by
  unfold doorL
  rw [List.range_succ, List.filter_append, List.map_append]
  by_cases h : f k = true
  · rw [if_pos h, List.filter_cons, if_pos h]; rfl
  · rw [if_neg h, List.filter_cons, if_neg h]; simp
theorem doorL_len (f : Nat → Bool) (k : Nat) : (doorL f k).length ≤ k := by
  unfold doorL
  rw [List.length_map]
  have := List.length_filter_le f (List.range k)
  simpa using this
theorem doorL_congr {f g : Nat → Bool} (h : ∀ v, f v = g v) (k : Nat) : doorL f k = doorL g k := by rw [show f = g from funext h]
/-- a list of places handed back, with an error -/
def DoorBack (xs : List Int) (err : Int) (w : World) (e : Ending) (w' : World) : Prop := ∃ a c, e = .returned (.tuple #[.slice a xs.length c, .int .i64 err]) ∧ Row encI 1 w' w'.heap.size a xs ∧ Below w.heap.size w w'
set_option maxRecDepth 100000 in
set_option maxHeartbeats 1000000 in
theorem hdoors_bad (W H k : Int) (a : Option Addr) (cap : Nat) (cs : List Int) (w : World) (B : Nat) (hB : B ≤ w.heap.size) (hE : Row encI 1 w B a cs) (hl : cs.length ≤ 9223372036854775807) (h0 : hlErr W H cs k ≠ 0) :
    Calls Try.prog 30 #[.agg #[.int .i64 W, .int .i64 H, .slice a cs.length cap], .int .i64 k] w (DoorBack [] (hlErr W H cs k) w) := by
  have q0 : (hlErr W H cs k != 0) = true := by simp [h0]
  have hC := hide (fun w B hB hE => hlook_any W H a cap cs k w B hB hE hl)
  replace hE := hide hE
  clear h0
  go_enter Try.func30, Try.ntmps30
  go_wp2_with fail
  refine (hC.out _ B (by simp; omega) (hE.out.below ((by repeat (first | with_reducible exact Below.refl _ _ | with_reducible assumption | with_reducible refine up_drewN ?_ | with_reducible refine up_drew ?_ | (with_reducible refine up_alloc ?_ ?_; rotate_left; (first | omega | (simp <;> omega) | simp)) | (with_reducible refine up_set ?_ ?_; rotate_left; (first | omega | (simp <;> omega) | simp)) | (with_reducible refine Below.trans ?_ (Below.mono (by with_reducible assumption) ?_); rotate_left; (first | omega | (simp <;> omega) | simp)))) : Below w.heap.size w _) hB)).mono ?_
  rintro e w1 ⟨rfl, hb1⟩
  go_wp2
  go_ret2
  exact ⟨none, 0, rfl, Row.nil _ _ _ _ _, (by repeat (first | with_reducible exact Below.refl _ _ | with_reducible assumption | with_reducible refine up_drewN ?_ | with_reducible refine up_drew ?_ | (with_reducible refine up_alloc ?_ ?_; rotate_left; (first | omega | (simp <;> omega) | simp)) | (with_reducible refine up_set ?_ ?_; rotate_left; (first | omega | (simp <;> omega) | simp)) | (with_reducible refine Below.trans ?_ (Below.mono (by with_reducible assumption) ?_); rotate_left; (first | omega | (simp <;> omega) | simp))))⟩
set_option maxRecDepth 100000 in
set_option maxHeartbeats 4000000 in
theorem hdoors_ok (W H k : Int) (a : Option Addr) (cap : Nat) (cs : List Int) (w : World) (B : Nat) (hB : B ≤ w.heap.size) (hE : Row encI 1 w B a cs) (hl : cs.length ≤ 9223372036854775807) (h0 : hlErr W H cs k = 0) (es : List Ed) (hes : gridNet W H cs cs.length = es) (hin : ∀ e ∈ es, 0 ≤ e.u ∧ e.u < (cs.length : Int) ∧ 0 ≤ e.v ∧ e.v < (cs.length : Int)) :
    Calls Try.prog 30 #[.agg #[.int .i64 W, .int .i64 H, .slice a cs.length cap], .int .i64 k] w (DoorBack (doorL (dr (betE W k es)) cs.length) 0 w) := by
  obtain ⟨g0, k1, k8⟩ := hl_ok h0
  have h64 := grid_64 g0
  have hn1 : 1 ≤ cs.length := by
    have hbds := gridErr_ok g0
    have : 1 * 1 ≤ W * H := Int.mul_le_mul hbds.1 hbds.2.2.1 (by omega) (by have := hbds.1; omega)
    have := hbds.2.2.2.2.1
    omega
  have hel : es.length ≤ 512 := by have := gridNet_len W H cs cs.length; rw [hes] at this; omega
  have hC := hide (fun w B hB hE => by have := hlook_any W H a cap cs k w B hB hE hl; rw [h0] at this; exact this)
  have hWi := hide (fun w B hB hE => within_any W H k a cap cs w B hB hE g0 k1 k8 es hes (fun e he => by have := hin e he; omega) hel)
  have hD := hide (fun a2 c2 m hm w B hB hE => doors_any cs.length a2 c2 m (betE W k es) hm w B hB hE (by omega) (by omega) (fun e he => by have := hin e (List.mem_filter.1 he).1; omega) (by have := bet_len W k es; omega))
  replace hE := hide hE
  clear h0 g0 hes hin
  obtain ⟨m1, hm1⟩ : ∃ m, m = (insE W k es).length := ⟨_, rfl⟩
  obtain ⟨m2, hm2⟩ : ∃ m, m = (betE W k es).length := ⟨_, rfl⟩
  unfold TwoNets at hWi
  rw [← hm1, ← hm2] at hWi
  generalize insE W k es = xs1 at *
  generalize betE W k es = xs2 at *
  replace hm1 := hide hm1
  replace hm2 := hide hm2
  go_enter Try.func30, Try.ntmps30
  go_wp2_with fail
  refine (hC.out _ B (by simp; omega) (hE.out.below ((by repeat (first | with_reducible exact Below.refl _ _ | with_reducible assumption | with_reducible refine up_drewN ?_ | with_reducible refine up_drew ?_ | (with_reducible refine up_alloc ?_ ?_; rotate_left; (first | omega | (simp <;> omega) | simp)) | (with_reducible refine up_set ?_ ?_; rotate_left; (first | omega | (simp <;> omega) | simp)) | (with_reducible refine Below.trans ?_ (Below.mono (by with_reducible assumption) ?_); rotate_left; (first | omega | (simp <;> omega) | simp)))) : Below w.heap.size w _) hB)).mono ?_
  rintro e w1 ⟨rfl, hb1⟩
  obtain ⟨hc1, hf1⟩ := bcell hb1; have hz1 : w.heap.size < w1.heap.size := (by have := hb1.size; (try simp at this); omega)
  go_wp2_with fail
  refine (hWi.out _ B (by omega) (hE.out.below ((by repeat (first | with_reducible exact Below.refl _ _ | with_reducible assumption | with_reducible refine up_drewN ?_ | with_reducible refine up_drew ?_ | (with_reducible refine up_alloc ?_ ?_; rotate_left; (first | omega | (simp <;> omega) | simp)) | (with_reducible refine up_set ?_ ?_; rotate_left; (first | omega | (simp <;> omega) | simp)) | (with_reducible refine Below.trans ?_ (Below.mono (by with_reducible assumption) ?_); rotate_left; (first | omega | (simp <;> omega) | simp)))) : Below w.heap.size w _) hB)).mono ?_
  rintro e w2 ⟨a1, c1, a2, c2, rfl, _, hr2, hb2⟩
  have hz2 := hb2.size
  have hbw2 := hide (show Below w.heap.size w w2 from (by repeat (first | with_reducible exact Below.refl _ _ | with_reducible assumption | with_reducible refine up_drewN ?_ | with_reducible refine up_drew ?_ | (with_reducible refine up_alloc ?_ ?_; rotate_left; (first | omega | (simp <;> omega) | simp)) | (with_reducible refine up_set ?_ ?_; rotate_left; (first | omega | (simp <;> omega) | simp)) | (with_reducible refine Below.trans ?_ (Below.mono (by with_reducible assumption) ?_); rotate_left; (first | omega | (simp <;> omega) | simp)))))
  replace hr2 := hide hr2
  clear hb1 hb2 hc1 hf1 hC hWi
  go_wp2_with fail
  refine (hD.out a2 c2 m2 hm2.out.symm _ w2.heap.size (by simp; omega) (hr2.out.below (up_alloc (up_alloc (Below.refl _ _) (Nat.le_refl _)) (by simp)) (Nat.le_refl _))).mono ?_
  rintro e w3 ⟨g, rfl, ownB, hb3⟩
  have hb23 := hide (unalloc (unalloc (hb3.mono (by simp; omega)) (by simp)) (Nat.le_refl _) : Below w2.heap.size w2 w3)
  have hz3 := hb23.out.size
  have hbw3 := hide (hbw2.out.trans (hb23.out.mono (by omega)))
  generalize dr xs2 = f at *
  have hg := ownB.at_base.2
  replace ownB := hide ownB
  clear hb3 hr2 hD
  go_wp2
  go_loopw [9, 10, 11, 27] (fun s9 _ _ i wr => ∃ (j p : Nat) (av : Option Addr) (cv : Nat), j ≤ cs.length ∧ p ≤ j ∧ i = .int .i64 j ∧ s9 = .slice av p cv ∧ Hid ((doorL f j).length = p) ∧ Hid (Own encI 1 3 wr w3.heap.size (.slice av p cv) (doorL f j)) ∧ Hid (Below w3.heap.size w3 wr)) (fun _ _ _ i _ => cs.length - (intOf i).toNat)
  case atStart => exact ⟨0, 0, none, 0, Nat.zero_le _, Nat.le_refl _, rfl, rfl, hide rfl, hide (Own.nil _ _), hide (Below.refl _ _)⟩
  case round =>
    obtain ⟨j, p, av, cv, hj, hp, rfl, rfl, hlp, own, hb⟩ := hrel
    have hzr := hb.out.size
    by_cases hlt : j < cs.length
    · have d0 := cu_below hb.out (ownB.out.atB j hlt) (by simp; omega)
      have hgr : g < wr.heap.size := by omega
      have hds := hide (doorL_succ f j)
      have ij : (0 : Int) ≤ (j : Int) ∧ (j : Int) < (cs.length : Int) := by omega
      obtain ⟨fj, hfj⟩ : ∃ fj, fj = f j := ⟨_, rfl⟩
      rw [← hfj] at d0 hds
      replace hfj := hide hfj
      cases fj with
      | true =>
        simp only [if_true] at hds
        go_wp2_with (at_builtin; (refine wpList_push (e := 3) (enc := encI) (xs := doorL f j) (v := .slice av (p) cv) (base := w3.heap.size) rfl (.tmp 33) (.tmp 35) 34 rfl _ 8 Try.underlying34 info_int rfl ?d11 lenI oneI (p) ?d21 ?d31 ?d41 ⟨wr.heap.size, 0, none⟩ 1 (j : Int) ?d51 ?d61 ?d71 ?d81 ?d91 ?_); (case d11 => omega); (case d21 => exact hlp.out); (case d31 => rfl); (case d41 => exact (own.out.alloc _)); (case d51 => rfl); (case d61 => exact newI _ _ _ _ rfl); (case d71 => omega); (case d81 => unfold maxLen; omega); (case d91 => first | omega | (simp; done) | (simp; omega)); intro g1 c1 w1 own1 hb1 hgr1 hg1 hgl1; have hB1 := hide (unalloc hb1 (by omega)); replace own1 := hide own1; replace hb1 := hide hb1; replace hgr1 := hide hgr1)
        go_roundw
        case rel => exact ⟨j + 1, p + 1, _, _, by omega, by omega, by go_num, rfl, hide (by rw [hds.out, List.length_append, hlp.out]; rfl), hide (by rw [hds.out]; exact own1.out), hide (hb.out.trans hB1.out)⟩
        case measure => simp [intOf]; omega
      | false =>
        simp only [Bool.false_eq_true, if_false] at hds
        go_wp2
        go_roundw
        case rel => exact ⟨j + 1, p, av, cv, by omega, by omega, by go_num, rfl, hide (by rw [hds.out]; exact hlp.out), hide (by rw [hds.out]; exact own.out), hb⟩
        case measure => simp [intOf]; omega
    · obtain rfl : j = cs.length := by omega
      obtain ⟨a', c', hv', hrp, _⟩ := own.out.row lenI
      injection hv' with g1 g2 g3
      subst g1 g3
      clear g2
      replace hrp := hide hrp
      go_wp2
      go_ret2
      exact ⟨av, cv, by rw [hlp.out]; rfl, hrp.out, hbw3.out.trans (hb.out.mono (by have := hbw3.out.size; omega))⟩
end Go.Proofs.Ytgkiipmeigfjnaa

/-! Which cells have a move to another square, as the reference tells it. Conditions: right ground, squares of 1 to 8 a side. -/
namespace Go.Proofs.Ytgkiipmeigfjnaa
open Go.RowKit
set_option linter.unusedSimpArgs false
set_option linter.unusedVariables false
/-- three cells that a step reads -/
structure C3 (w : World) (W H : Int) (a : Option Addr) (l cap : Nat) (k v : Int) (bv bg bk : Nat) : Prop where
  v : w.cell? ⟨bv, 0, none⟩ = some (.int .i64 v)
  g0 : w.cell? ⟨bg, 0, none⟩ = some (.int .i64 W)
  g1 : w.cell? ⟨bg, 1, none⟩ = some (.int .i64 H)
  g2 : w.cell? ⟨bg, 2, none⟩ = some (.slice a l cap)
  k : w.cell? ⟨bk, 0, none⟩ = some (.int .i64 k)
theorem C3.below {w w' : World} {W H : Int} {a : Option Addr} {l cap : Nat} {k v : Int} {bv bg bk : Nat} (h : C3 w W H a l cap k v bv bg bk) (b : Below w.heap.size w w') : C3 w' W H a l cap k v bv bg bk :=
  ⟨cu_below b h.v (cell_lt h.v), cu_below b h.g0 (cell_lt h.g0), cu_below b h.g1 (cell_lt h.g1), cu_below b h.g2 (cell_lt h.g2), cu_below b h.k (cell_lt h.k)⟩
set_option maxRecDepth 100000 in
set_option maxHeartbeats 2000000 in
theorem rd1_any (W H k : Int) (a : Option Addr) (l cap : Nat) (v : Nat) (bv bg bk : Nat) (ed : Ed) (w : World) (hC : C3 w W H a l cap k (v : Int) bv bg bk) (hW : 1 ≤ W) (hW8 : W ≤ 8) (hk : 1 ≤ k) (hk8 : k ≤ 8) (hu : 0 ≤ ed.u ∧ ed.u < 64) (hv : 0 ≤ ed.v ∧ ed.v < 64) :
    Calls Try.prog 86 #[.agg #[.int .i64 ed.u, .int .i64 ed.v, .int .i64 ed.c], .pointer (some ⟨bv, 0, none⟩), .pointer (some ⟨bg, 0, none⟩), .pointer (some ⟨bk, 0, none⟩)] w fun e w' => e = .returned (.bool (dq W k v ed)) ∧ Below w.heap.size w w' := by
  obtain ⟨cv, g0, g1, g2, ck⟩ := hC
  have lv := cell_lt cv
  have lg := cell_lt g0
  have lk := cell_lt ck
  simp only at lv lg lk
  have hS := hide (fun (p : Int) (h : 0 ≤ p ∧ p < 64) w => rsq_any W H k p (.slice a l cap) w hW hW8 hk hk8 h.1 h.2 ⟨_, _, _, rfl⟩)
  have hqe := hide (show dq W k v ed = (isEnd v ed && !(sqN W k ed.u == sqN W k ed.v)) from rfl)
  obtain ⟨w0, h0⟩ : ∃ w0, w0 = w.alloc (.cells #[.int .i64 ed.u, .int .i64 ed.v, .int .i64 ed.c] 26) := ⟨_, rfl⟩
  have hB0 := hide (show Below w.heap.size w w0 by rw [h0]; exact (Below.refl _ _).alloc (Nat.le_refl _) _)
  have x0 : w0.cell? ⟨w.heap.size, 0, none⟩ = some (.int .i64 ed.u) := by rw [h0]; simp [go_sem]
  have x1 : w0.cell? ⟨w.heap.size, 1, none⟩ = some (.int .i64 ed.v) := by rw [h0]; simp [go_sem]
  have y1 := cu_below hB0.out cv lv
  have y2 := cu_below hB0.out g0 lg
  have y3 := cu_below hB0.out g1 lg
  have y4 := cu_below hB0.out g2 lg
  have y5 := cu_below hB0.out ck lk
  have hz0 : w.heap.size < w0.heap.size := cell_lt x0
  have key := hide (show ∀ w', Below w0.heap.size w0 w' → (Below w0.heap.size w0 w' ∧ w'.cell? ⟨w.heap.size, 0, none⟩ = some (.int .i64 ed.u) ∧ w'.cell? ⟨w.heap.size, 1, none⟩ = some (.int .i64 ed.v) ∧ w'.cell? ⟨bv, 0, none⟩ = some (.int .i64 (v : Int)) ∧ w'.cell? ⟨bg, 0, none⟩ = some (.int .i64 W) ∧ w'.cell? ⟨bg, 1, none⟩ = some (.int .i64 H) ∧ w'.cell? ⟨bg, 2, none⟩ = some (.slice a l cap) ∧ w'.cell? ⟨bk, 0, none⟩ = some (.int .i64 k)) from fun w' h =>
    ⟨h, cu_below h x0 (cell_lt x0), cu_below h x1 (cell_lt x1), cu_below h y1 (cell_lt y1), cu_below h y2 (cell_lt y2), cu_below h y3 (cell_lt y3), cu_below h y4 (cell_lt y4), cu_below h y5 (cell_lt y5)⟩)
  replace h0 := hide h0
  by_cases hA : ed.u = (v : Int)
  · have q1 : (ed.u == (v : Int)) = true := by simp [hA]
    have hr := hide (show dq W k v ed = !(sqN W k ed.u == sqN W k ed.v) by rw [hqe.out]; simp [isEnd, hA])
    clear hA hqe
    go_enter Try.func86, Try.ntmps86
    go_wp2
    simp only [← h0.out]
    refine wp_region_end (S := (fun w' => Below w0.heap.size w0 w' ∧ w'.cell? ⟨w.heap.size, 0, none⟩ = some (.int .i64 ed.u) ∧ w'.cell? ⟨w.heap.size, 1, none⟩ = some (.int .i64 ed.v) ∧ w'.cell? ⟨bv, 0, none⟩ = some (.int .i64 (v : Int)) ∧ w'.cell? ⟨bg, 0, none⟩ = some (.int .i64 W) ∧ w'.cell? ⟨bg, 1, none⟩ = some (.int .i64 H) ∧ w'.cell? ⟨bg, 2, none⟩ = some (.slice a l cap) ∧ w'.cell? ⟨bk, 0, none⟩ = some (.int .i64 k))) (t := 23) (by kernel_rfl) ?_ (fun hHeld hInv => ?_)
    · exact key.out _ (below_drew _)
    replace hInv := hide hInv
    refine wpAnyE_take (i := 0) (v := ?_) (List.getElem?_toArray.trans rfl) (by kernel_rfl) (by kernel_rfl) (by kernel_rfl) (by kernel_rfl) (fun _ _ _ h => h) (Or.inl ⟨by rfl, ?_⟩) hInv.out (by assumption) (fun hInv' => ?_)
    rotate_left
    · intro w hSw; (try dsimp only at hSw); go_simp; (try with_reducible rfl)
    replace hInv := hide hInv'; clear hInv'; try simp only [Act.put, List.setIfInBounds_toArray, List.set_cons_zero, List.set_cons_succ]
    refine wpAnyE_take (i := 1) (v := ?_) (List.getElem?_toArray.trans rfl) (by kernel_rfl) (by kernel_rfl) (by kernel_rfl) (by kernel_rfl) (fun _ _ _ h => h) (Or.inl ⟨by rfl, ?_⟩) hInv.out (by assumption) (fun hInv' => ?_)
    rotate_left
    · intro w hSw; (try dsimp only at hSw); go_simp; (try with_reducible rfl)
    replace hInv := hide hInv'; clear hInv'; try simp only [Act.put, List.setIfInBounds_toArray, List.set_cons_zero, List.set_cons_succ]
    refine wpAnyE_take (i := 2) (v := ?_) (List.getElem?_toArray.trans rfl) (by kernel_rfl) (by kernel_rfl) (by kernel_rfl) (by kernel_rfl) (fun _ _ _ h => h) (Or.inl ⟨by rfl, ?_⟩) hInv.out (by assumption) (fun hInv' => ?_)
    rotate_left
    · intro w hSw; (try dsimp only at hSw); go_simp; (try with_reducible rfl)
    replace hInv := hide hInv'; clear hInv'; try simp only [Act.put, List.setIfInBounds_toArray, List.set_cons_zero, List.set_cons_succ]
    refine wpAnyE_take (i := 3) (v := ?_) (List.getElem?_toArray.trans rfl) (by kernel_rfl) (by kernel_rfl) (by kernel_rfl) (by kernel_rfl) (fun _ _ _ h => h) (Or.inl ⟨by rfl, ?_⟩) hInv.out (by assumption) (fun hInv' => ?_)
    rotate_left
    · intro w hSw; (try dsimp only at hSw); go_simp; (try with_reducible rfl)
    replace hInv := hide hInv'; clear hInv'; try simp only [Act.put, List.setIfInBounds_toArray, List.set_cons_zero, List.set_cons_succ]
    refine wpAnyE_take (i := 4) (v := ?_) (List.getElem?_toArray.trans rfl) (by kernel_rfl) (by kernel_rfl) (by kernel_rfl) (by kernel_rfl) (fun _ _ _ h => h) (Or.inl ⟨by rfl, ?_⟩) hInv.out (by assumption) (fun hInv' => ?_)
    rotate_left
    · intro w hSw; (try dsimp only at hSw); go_simp; (try with_reducible rfl)
    replace hInv := hide hInv'; clear hInv'; try simp only [Act.put, List.setIfInBounds_toArray, List.set_cons_zero, List.set_cons_succ]
    refine wpAnyE_take (i := 5) (v := undef) (List.getElem?_toArray.trans rfl) (by kernel_rfl) (by kernel_rfl) (by kernel_rfl) (by kernel_rfl) (fun _ _ _ h => h) (Or.inr ⟨by rfl, rfl⟩) hInv.out (by assumption) (fun hInv' => ?_)
    replace hInv := hide hInv'; clear hInv'; try simp only [Act.put, List.setIfInBounds_toArray, List.set_cons_zero, List.set_cons_succ]
    refine wpAnyE_take (i := 6) (v := undef) (List.getElem?_toArray.trans rfl) (by kernel_rfl) (by kernel_rfl) (by kernel_rfl) (by kernel_rfl) (fun _ _ _ h => h) (Or.inr ⟨by rfl, rfl⟩) hInv.out (by assumption) (fun hInv' => ?_)
    replace hInv := hide hInv'; clear hInv'; try simp only [Act.put, List.setIfInBounds_toArray, List.set_cons_zero, List.set_cons_succ]
    refine wpAnyE_take (i := 7) (v := undef) (List.getElem?_toArray.trans rfl) (by kernel_rfl) (by kernel_rfl) (by kernel_rfl) (by kernel_rfl) (fun _ _ _ h => h) (Or.inr ⟨by rfl, rfl⟩) hInv.out (by assumption) (fun hInv' => ?_)
    replace hInv := hide hInv'; clear hInv'; try simp only [Act.put, List.setIfInBounds_toArray, List.set_cons_zero, List.set_cons_succ]
    refine wpAnyE_take (i := 8) (v := undef) (List.getElem?_toArray.trans rfl) (by kernel_rfl) (by kernel_rfl) (by kernel_rfl) (by kernel_rfl) (fun _ _ _ h => h) (Or.inr ⟨by rfl, rfl⟩) hInv.out (by assumption) (fun hInv' => ?_)
    replace hInv := hide hInv'; clear hInv'; try simp only [Act.put, List.setIfInBounds_toArray, List.set_cons_zero, List.set_cons_succ]
    refine wpAnyE_take (i := 9) (v := ?_) (List.getElem?_toArray.trans rfl) (by kernel_rfl) (by kernel_rfl) (by kernel_rfl) (by kernel_rfl) (fun _ _ _ h => h) (Or.inl ⟨by rfl, ?_⟩) hInv.out (by assumption) (fun hInv' => ?_)
    rotate_left
    · intro w hSw; (try dsimp only at hSw); go_simp; (try with_reducible rfl)
    replace hInv := hide hInv'; clear hInv'; try simp only [Act.put, List.setIfInBounds_toArray, List.set_cons_zero, List.set_cons_succ]
    refine wpAnyE_take (i := 10) (v := ?_) (List.getElem?_toArray.trans rfl) (by kernel_rfl) (by kernel_rfl) (by kernel_rfl) (by kernel_rfl) (fun _ _ _ h => h) (Or.inl ⟨by rfl, ?_⟩) hInv.out (by assumption) (fun hInv' => ?_)
    rotate_left
    · intro w hSw; (try dsimp only at hSw); go_simp; (try with_reducible rfl)
    replace hInv := hide hInv'; clear hInv'; try simp only [Act.put, List.setIfInBounds_toArray, List.set_cons_zero, List.set_cons_succ]
    refine wpAnyE_take (i := 11) (v := ?_) (List.getElem?_toArray.trans rfl) (by kernel_rfl) (by kernel_rfl) (by kernel_rfl) (by kernel_rfl) (fun _ _ _ h => h) (Or.inl ⟨by rfl, ?_⟩) hInv.out (by assumption) (fun hInv' => ?_)
    rotate_left
    · intro w hSw; (try dsimp only at hSw); go_simp; (try with_reducible rfl)
    replace hInv := hide hInv'; clear hInv'; try simp only [Act.put, List.setIfInBounds_toArray, List.set_cons_zero, List.set_cons_succ]
    refine wpAnyE_take (i := 12) (v := ?_) (List.getElem?_toArray.trans rfl) (by kernel_rfl) (by kernel_rfl) (by kernel_rfl) (by kernel_rfl) (fun _ _ _ h => h) (Or.inl ⟨by rfl, ?_⟩) hInv.out (by assumption) (fun hInv' => ?_)
    rotate_left
    · intro w hSw; (try dsimp only at hSw); go_simp; (try with_reducible rfl)
    replace hInv := hide hInv'; clear hInv'; try simp only [Act.put, List.setIfInBounds_toArray, List.set_cons_zero, List.set_cons_succ]
    refine wpAnyE_take (i := 13) (v := ?_) (List.getElem?_toArray.trans rfl) (by kernel_rfl) (by kernel_rfl) (by kernel_rfl) (by kernel_rfl) (fun _ _ _ h => h) (Or.inl ⟨by rfl, ?_⟩) hInv.out (by assumption) (fun hInv' => ?_)
    rotate_left
    · intro w hSw; (try dsimp only at hSw); go_simp; (try with_reducible rfl)
    replace hInv := hide hInv'; clear hInv'; try simp only [Act.put, List.setIfInBounds_toArray, List.set_cons_zero, List.set_cons_succ]
    refine wpAnyE_take (i := 14) (v := ?_) (List.getElem?_toArray.trans rfl) (by kernel_rfl) (by kernel_rfl) (by kernel_rfl) (by kernel_rfl) (fun _ _ _ h => h) (Or.inl ⟨by rfl, ?_⟩) hInv.out (by assumption) (fun hInv' => ?_)
    rotate_left
    · intro w hSw; (try dsimp only at hSw); go_simp; (try with_reducible rfl)
    replace hInv := hide hInv'; clear hInv'; try simp only [Act.put, List.setIfInBounds_toArray, List.set_cons_zero, List.set_cons_succ]
    refine wpAnyE_take (i := 16) (v := ?_) (List.getElem?_toArray.trans rfl) (by kernel_rfl) (by kernel_rfl) (by kernel_rfl) (by kernel_rfl) (fun _ _ _ h => h) (Or.inl ⟨by rfl, ?_⟩) hInv.out (by assumption) (fun hInv' => ?_)
    rotate_left
    · intro w hSw; (try dsimp only at hSw); go_simp; (try with_reducible rfl)
    replace hInv := hide hInv'; clear hInv'; try simp only [Act.put, List.setIfInBounds_toArray, List.set_cons_zero, List.set_cons_succ]
    refine wpAnyE_take (i := 17) (v := ?_) (List.getElem?_toArray.trans rfl) (by kernel_rfl) (by kernel_rfl) (by kernel_rfl) (by kernel_rfl) (fun _ _ _ h => h) (Or.inl ⟨by rfl, ?_⟩) hInv.out (by assumption) (fun hInv' => ?_)
    rotate_left
    · intro w hSw; (try dsimp only at hSw); go_simp; (try with_reducible rfl)
    replace hInv := hide hInv'; clear hInv'; try simp only [Act.put, List.setIfInBounds_toArray, List.set_cons_zero, List.set_cons_succ]
    refine wpAnyE_take (i := 18) (v := ?_) (List.getElem?_toArray.trans rfl) (by kernel_rfl) (by kernel_rfl) (by kernel_rfl) (by kernel_rfl) (fun _ _ _ h => h) (Or.inl ⟨by rfl, ?_⟩) hInv.out (by assumption) (fun hInv' => ?_)
    rotate_left
    · intro w hSw; (try dsimp only at hSw); go_simp; (try with_reducible rfl)
    replace hInv := hide hInv'; clear hInv'; try simp only [Act.put, List.setIfInBounds_toArray, List.set_cons_zero, List.set_cons_succ]
    refine wpAnyE_take (i := 19) (v := ?_) (List.getElem?_toArray.trans rfl) (by kernel_rfl) (by kernel_rfl) (by kernel_rfl) (by kernel_rfl) (fun _ _ _ h => h) (Or.inl ⟨by rfl, ?_⟩) hInv.out (by assumption) (fun hInv' => ?_)
    rotate_left
    · intro w hSw; (try dsimp only at hSw); go_simp; (try with_reducible rfl)
    replace hInv := hide hInv'; clear hInv'; try simp only [Act.put, List.setIfInBounds_toArray, List.set_cons_zero, List.set_cons_succ]
    refine wpAnyE_one (i := 15) (List.getElem?_toArray.trans rfl) (by kernel_rfl) (fun K hK => ?_) hInv.out
    (go_simp; go_at_call 29; refine Calls.mono (hS.out ed.u hu _) ?_; rintro e w4 ⟨rfl, hb5⟩; have hb6 := below_step (below_drew _) hb5)
    have hHeld := key.out _ hb6
    refine hK.out _ _ (fun _ => hHeld) (fun hInv' => ?_)
    clear hK K; replace hInv := hide (hInv' (by decide)); clear hInv'; try simp only [Act.put, List.setIfInBounds_toArray, List.set_cons_zero, List.set_cons_succ]
    refine wpAnyE_one (i := 20) (List.getElem?_toArray.trans rfl) (by kernel_rfl) (fun K hK => ?_) hInv.out
    (go_simp; go_at_call 29; refine Calls.mono (hS.out ed.v hv _) ?_; rintro e w6 ⟨rfl, hb7⟩; have hb8 := below_step hb6 hb7)
    have hHeld := key.out _ hb8
    refine hK.out _ _ (fun _ => hHeld) (fun hInv' => ?_)
    clear hK K; replace hInv := hide (hInv' (by decide)); clear hInv'; try simp only [Act.put, List.setIfInBounds_toArray, List.set_cons_zero, List.set_cons_succ]
    refine wpAnyE_take (i := 21) (v := ?_) (List.getElem?_toArray.trans rfl) (by kernel_rfl) (by kernel_rfl) (by kernel_rfl) (by kernel_rfl) (fun _ _ _ h => h) (Or.inl ⟨by rfl, ?_⟩) hInv.out (by assumption) (fun hInv' => ?_)
    rotate_left
    · intro w hSw; (try dsimp only at hSw); go_simp; (try with_reducible rfl)
    replace hInv := hide hInv'; clear hInv'; try simp only [Act.put, List.setIfInBounds_toArray, List.set_cons_zero, List.set_cons_succ]
    refine wpAnyE_take (i := 22) (v := ?_) (List.getElem?_toArray.trans rfl) (by kernel_rfl) (by kernel_rfl) (by kernel_rfl) (by kernel_rfl) (fun _ _ _ h => h) (Or.inl ⟨by rfl, ?_⟩) hInv.out (by assumption) (fun hInv' => ?_)
    rotate_left
    · intro w hSw; (try dsimp only at hSw); go_simp; (try with_reducible rfl)
    replace hInv := hide hInv'; clear hInv'; try simp only [Act.put, List.setIfInBounds_toArray, List.set_cons_zero, List.set_cons_succ]
    refine wpAnyE_one (i := 23) (List.getElem?_toArray.trans rfl) (by kernel_rfl) (fun K hK => ?_) hInv.out
    (try dsimp only at hHeld); go_simp
    refine hK.out _ _ (fun h => absurd rfl h) (fun _ => ?_)
    clear hK K hInv; try simp only [Act.put, List.setIfInBounds_toArray, List.set_cons_zero, List.set_cons_succ]
    refine wpAnyE_done (by kernel_rfl) ?_ _
    have hbf := hide (hB0.out.trans (hb8.mono (by omega)))
    go_wp2
    go_ret
    exact ⟨ret_bool (by rw [hr.out]; rfl), hbf.out⟩
  · have q1 : (ed.u == (v : Int)) = false := by simp [hA]
    by_cases hA2 : ed.v = (v : Int)
    · have q2 : (ed.v == (v : Int)) = true := by simp [hA2]
      have hr := hide (show dq W k v ed = !(sqN W k ed.u == sqN W k ed.v) by rw [hqe.out]; simp [isEnd, hA2])
      clear hA hA2 hqe
      go_enter Try.func86, Try.ntmps86
      go_wp2
      simp only [← h0.out]
      refine wp_region_end (S := (fun w' => Below w0.heap.size w0 w' ∧ w'.cell? ⟨w.heap.size, 0, none⟩ = some (.int .i64 ed.u) ∧ w'.cell? ⟨w.heap.size, 1, none⟩ = some (.int .i64 ed.v) ∧ w'.cell? ⟨bv, 0, none⟩ = some (.int .i64 (v : Int)) ∧ w'.cell? ⟨bg, 0, none⟩ = some (.int .i64 W) ∧ w'.cell? ⟨bg, 1, none⟩ = some (.int .i64 H) ∧ w'.cell? ⟨bg, 2, none⟩ = some (.slice a l cap) ∧ w'.cell? ⟨bk, 0, none⟩ = some (.int .i64 k))) (t := 23) (by kernel_rfl) ?_ (fun hHeld hInv => ?_)
      · exact key.out _ (below_drew _)
      replace hInv := hide hInv
      refine wpAnyE_take (i := 0) (v := ?_) (List.getElem?_toArray.trans rfl) (by kernel_rfl) (by kernel_rfl) (by kernel_rfl) (by kernel_rfl) (fun _ _ _ h => h) (Or.inl ⟨by rfl, ?_⟩) hInv.out (by assumption) (fun hInv' => ?_)
      rotate_left
      · intro w hSw; (try dsimp only at hSw); go_simp; (try with_reducible rfl)
      replace hInv := hide hInv'; clear hInv'; try simp only [Act.put, List.setIfInBounds_toArray, List.set_cons_zero, List.set_cons_succ]
      refine wpAnyE_take (i := 1) (v := ?_) (List.getElem?_toArray.trans rfl) (by kernel_rfl) (by kernel_rfl) (by kernel_rfl) (by kernel_rfl) (fun _ _ _ h => h) (Or.inl ⟨by rfl, ?_⟩) hInv.out (by assumption) (fun hInv' => ?_)
      rotate_left
      · intro w hSw; (try dsimp only at hSw); go_simp; (try with_reducible rfl)
      replace hInv := hide hInv'; clear hInv'; try simp only [Act.put, List.setIfInBounds_toArray, List.set_cons_zero, List.set_cons_succ]
      refine wpAnyE_take (i := 2) (v := ?_) (List.getElem?_toArray.trans rfl) (by kernel_rfl) (by kernel_rfl) (by kernel_rfl) (by kernel_rfl) (fun _ _ _ h => h) (Or.inl ⟨by rfl, ?_⟩) hInv.out (by assumption) (fun hInv' => ?_)
      rotate_left
      · intro w hSw; (try dsimp only at hSw); go_simp; (try with_reducible rfl)
      replace hInv := hide hInv'; clear hInv'; try simp only [Act.put, List.setIfInBounds_toArray, List.set_cons_zero, List.set_cons_succ]
      refine wpAnyE_take (i := 3) (v := ?_) (List.getElem?_toArray.trans rfl) (by kernel_rfl) (by kernel_rfl) (by kernel_rfl) (by kernel_rfl) (fun _ _ _ h => h) (Or.inl ⟨by rfl, ?_⟩) hInv.out (by assumption) (fun hInv' => ?_)
      rotate_left
      · intro w hSw; (try dsimp only at hSw); go_simp; (try with_reducible rfl)
      replace hInv := hide hInv'; clear hInv'; try simp only [Act.put, List.setIfInBounds_toArray, List.set_cons_zero, List.set_cons_succ]
      refine wpAnyE_take (i := 4) (v := ?_) (List.getElem?_toArray.trans rfl) (by kernel_rfl) (by kernel_rfl) (by kernel_rfl) (by kernel_rfl) (fun _ _ _ h => h) (Or.inl ⟨by rfl, ?_⟩) hInv.out (by assumption) (fun hInv' => ?_)
      rotate_left
      · intro w hSw; (try dsimp only at hSw); go_simp; (try with_reducible rfl)
      replace hInv := hide hInv'; clear hInv'; try simp only [Act.put, List.setIfInBounds_toArray, List.set_cons_zero, List.set_cons_succ]
      refine wpAnyE_take (i := 5) (v := ?_) (List.getElem?_toArray.trans rfl) (by kernel_rfl) (by kernel_rfl) (by kernel_rfl) (by kernel_rfl) (fun _ _ _ h => h) (Or.inl ⟨by rfl, ?_⟩) hInv.out (by assumption) (fun hInv' => ?_)
      rotate_left
      · intro w hSw; (try dsimp only at hSw); go_simp; (try with_reducible rfl)
      replace hInv := hide hInv'; clear hInv'; try simp only [Act.put, List.setIfInBounds_toArray, List.set_cons_zero, List.set_cons_succ]
      refine wpAnyE_take (i := 6) (v := ?_) (List.getElem?_toArray.trans rfl) (by kernel_rfl) (by kernel_rfl) (by kernel_rfl) (by kernel_rfl) (fun _ _ _ h => h) (Or.inl ⟨by rfl, ?_⟩) hInv.out (by assumption) (fun hInv' => ?_)
      rotate_left
      · intro w hSw; (try dsimp only at hSw); go_simp; (try with_reducible rfl)
      replace hInv := hide hInv'; clear hInv'; try simp only [Act.put, List.setIfInBounds_toArray, List.set_cons_zero, List.set_cons_succ]
      refine wpAnyE_take (i := 7) (v := ?_) (List.getElem?_toArray.trans rfl) (by kernel_rfl) (by kernel_rfl) (by kernel_rfl) (by kernel_rfl) (fun _ _ _ h => h) (Or.inl ⟨by rfl, ?_⟩) hInv.out (by assumption) (fun hInv' => ?_)
      rotate_left
      · intro w hSw; (try dsimp only at hSw); go_simp; (try with_reducible rfl)
      replace hInv := hide hInv'; clear hInv'; try simp only [Act.put, List.setIfInBounds_toArray, List.set_cons_zero, List.set_cons_succ]
      refine wpAnyE_take (i := 8) (v := ?_) (List.getElem?_toArray.trans rfl) (by kernel_rfl) (by kernel_rfl) (by kernel_rfl) (by kernel_rfl) (fun _ _ _ h => h) (Or.inl ⟨by rfl, ?_⟩) hInv.out (by assumption) (fun hInv' => ?_)
      rotate_left
      · intro w hSw; (try dsimp only at hSw); go_simp; (try with_reducible rfl)
      replace hInv := hide hInv'; clear hInv'; try simp only [Act.put, List.setIfInBounds_toArray, List.set_cons_zero, List.set_cons_succ]
      refine wpAnyE_take (i := 9) (v := ?_) (List.getElem?_toArray.trans rfl) (by kernel_rfl) (by kernel_rfl) (by kernel_rfl) (by kernel_rfl) (fun _ _ _ h => h) (Or.inl ⟨by rfl, ?_⟩) hInv.out (by assumption) (fun hInv' => ?_)
      rotate_left
      · intro w hSw; (try dsimp only at hSw); go_simp; (try with_reducible rfl)
      replace hInv := hide hInv'; clear hInv'; try simp only [Act.put, List.setIfInBounds_toArray, List.set_cons_zero, List.set_cons_succ]
      refine wpAnyE_take (i := 10) (v := ?_) (List.getElem?_toArray.trans rfl) (by kernel_rfl) (by kernel_rfl) (by kernel_rfl) (by kernel_rfl) (fun _ _ _ h => h) (Or.inl ⟨by rfl, ?_⟩) hInv.out (by assumption) (fun hInv' => ?_)
      rotate_left
      · intro w hSw; (try dsimp only at hSw); go_simp; (try with_reducible rfl)
      replace hInv := hide hInv'; clear hInv'; try simp only [Act.put, List.setIfInBounds_toArray, List.set_cons_zero, List.set_cons_succ]
      refine wpAnyE_take (i := 11) (v := ?_) (List.getElem?_toArray.trans rfl) (by kernel_rfl) (by kernel_rfl) (by kernel_rfl) (by kernel_rfl) (fun _ _ _ h => h) (Or.inl ⟨by rfl, ?_⟩) hInv.out (by assumption) (fun hInv' => ?_)
      rotate_left
      · intro w hSw; (try dsimp only at hSw); go_simp; (try with_reducible rfl)
      replace hInv := hide hInv'; clear hInv'; try simp only [Act.put, List.setIfInBounds_toArray, List.set_cons_zero, List.set_cons_succ]
      refine wpAnyE_take (i := 12) (v := ?_) (List.getElem?_toArray.trans rfl) (by kernel_rfl) (by kernel_rfl) (by kernel_rfl) (by kernel_rfl) (fun _ _ _ h => h) (Or.inl ⟨by rfl, ?_⟩) hInv.out (by assumption) (fun hInv' => ?_)
      rotate_left
      · intro w hSw; (try dsimp only at hSw); go_simp; (try with_reducible rfl)
      replace hInv := hide hInv'; clear hInv'; try simp only [Act.put, List.setIfInBounds_toArray, List.set_cons_zero, List.set_cons_succ]
      refine wpAnyE_take (i := 13) (v := ?_) (List.getElem?_toArray.trans rfl) (by kernel_rfl) (by kernel_rfl) (by kernel_rfl) (by kernel_rfl) (fun _ _ _ h => h) (Or.inl ⟨by rfl, ?_⟩) hInv.out (by assumption) (fun hInv' => ?_)
      rotate_left
      · intro w hSw; (try dsimp only at hSw); go_simp; (try with_reducible rfl)
      replace hInv := hide hInv'; clear hInv'; try simp only [Act.put, List.setIfInBounds_toArray, List.set_cons_zero, List.set_cons_succ]
      refine wpAnyE_take (i := 14) (v := ?_) (List.getElem?_toArray.trans rfl) (by kernel_rfl) (by kernel_rfl) (by kernel_rfl) (by kernel_rfl) (fun _ _ _ h => h) (Or.inl ⟨by rfl, ?_⟩) hInv.out (by assumption) (fun hInv' => ?_)
      rotate_left
      · intro w hSw; (try dsimp only at hSw); go_simp; (try with_reducible rfl)
      replace hInv := hide hInv'; clear hInv'; try simp only [Act.put, List.setIfInBounds_toArray, List.set_cons_zero, List.set_cons_succ]
      refine wpAnyE_take (i := 16) (v := ?_) (List.getElem?_toArray.trans rfl) (by kernel_rfl) (by kernel_rfl) (by kernel_rfl) (by kernel_rfl) (fun _ _ _ h => h) (Or.inl ⟨by rfl, ?_⟩) hInv.out (by assumption) (fun hInv' => ?_)
      rotate_left
      · intro w hSw; (try dsimp only at hSw); go_simp; (try with_reducible rfl)
      replace hInv := hide hInv'; clear hInv'; try simp only [Act.put, List.setIfInBounds_toArray, List.set_cons_zero, List.set_cons_succ]
      refine wpAnyE_take (i := 17) (v := ?_) (List.getElem?_toArray.trans rfl) (by kernel_rfl) (by kernel_rfl) (by kernel_rfl) (by kernel_rfl) (fun _ _ _ h => h) (Or.inl ⟨by rfl, ?_⟩) hInv.out (by assumption) (fun hInv' => ?_)
      rotate_left
      · intro w hSw; (try dsimp only at hSw); go_simp; (try with_reducible rfl)
      replace hInv := hide hInv'; clear hInv'; try simp only [Act.put, List.setIfInBounds_toArray, List.set_cons_zero, List.set_cons_succ]
      refine wpAnyE_take (i := 18) (v := ?_) (List.getElem?_toArray.trans rfl) (by kernel_rfl) (by kernel_rfl) (by kernel_rfl) (by kernel_rfl) (fun _ _ _ h => h) (Or.inl ⟨by rfl, ?_⟩) hInv.out (by assumption) (fun hInv' => ?_)
      rotate_left
      · intro w hSw; (try dsimp only at hSw); go_simp; (try with_reducible rfl)
      replace hInv := hide hInv'; clear hInv'; try simp only [Act.put, List.setIfInBounds_toArray, List.set_cons_zero, List.set_cons_succ]
      refine wpAnyE_take (i := 19) (v := ?_) (List.getElem?_toArray.trans rfl) (by kernel_rfl) (by kernel_rfl) (by kernel_rfl) (by kernel_rfl) (fun _ _ _ h => h) (Or.inl ⟨by rfl, ?_⟩) hInv.out (by assumption) (fun hInv' => ?_)
      rotate_left
      · intro w hSw; (try dsimp only at hSw); go_simp; (try with_reducible rfl)
      replace hInv := hide hInv'; clear hInv'; try simp only [Act.put, List.setIfInBounds_toArray, List.set_cons_zero, List.set_cons_succ]
      refine wpAnyE_one (i := 15) (List.getElem?_toArray.trans rfl) (by kernel_rfl) (fun K hK => ?_) hInv.out
      (go_simp; go_at_call 29; refine Calls.mono (hS.out ed.u hu _) ?_; rintro e w4 ⟨rfl, hb5⟩; have hb6 := below_step (below_drew _) hb5)
      have hHeld := key.out _ hb6
      refine hK.out _ _ (fun _ => hHeld) (fun hInv' => ?_)
      clear hK K; replace hInv := hide (hInv' (by decide)); clear hInv'; try simp only [Act.put, List.setIfInBounds_toArray, List.set_cons_zero, List.set_cons_succ]
      refine wpAnyE_one (i := 20) (List.getElem?_toArray.trans rfl) (by kernel_rfl) (fun K hK => ?_) hInv.out
      (go_simp; go_at_call 29; refine Calls.mono (hS.out ed.v hv _) ?_; rintro e w6 ⟨rfl, hb7⟩; have hb8 := below_step hb6 hb7)
      have hHeld := key.out _ hb8
      refine hK.out _ _ (fun _ => hHeld) (fun hInv' => ?_)
      clear hK K; replace hInv := hide (hInv' (by decide)); clear hInv'; try simp only [Act.put, List.setIfInBounds_toArray, List.set_cons_zero, List.set_cons_succ]
      refine wpAnyE_take (i := 21) (v := ?_) (List.getElem?_toArray.trans rfl) (by kernel_rfl) (by kernel_rfl) (by kernel_rfl) (by kernel_rfl) (fun _ _ _ h => h) (Or.inl ⟨by rfl, ?_⟩) hInv.out (by assumption) (fun hInv' => ?_)
      rotate_left
      · intro w hSw; (try dsimp only at hSw); go_simp; (try with_reducible rfl)
      replace hInv := hide hInv'; clear hInv'; try simp only [Act.put, List.setIfInBounds_toArray, List.set_cons_zero, List.set_cons_succ]
      refine wpAnyE_take (i := 22) (v := ?_) (List.getElem?_toArray.trans rfl) (by kernel_rfl) (by kernel_rfl) (by kernel_rfl) (by kernel_rfl) (fun _ _ _ h => h) (Or.inl ⟨by rfl, ?_⟩) hInv.out (by assumption) (fun hInv' => ?_)
      rotate_left
      · intro w hSw; (try dsimp only at hSw); go_simp; (try with_reducible rfl)
      replace hInv := hide hInv'; clear hInv'; try simp only [Act.put, List.setIfInBounds_toArray, List.set_cons_zero, List.set_cons_succ]
      refine wpAnyE_one (i := 23) (List.getElem?_toArray.trans rfl) (by kernel_rfl) (fun K hK => ?_) hInv.out
      (try dsimp only at hHeld); go_simp
      refine hK.out _ _ (fun h => absurd rfl h) (fun _ => ?_)
      clear hK K hInv; try simp only [Act.put, List.setIfInBounds_toArray, List.set_cons_zero, List.set_cons_succ]
      refine wpAnyE_done (by kernel_rfl) ?_ _
      have hbf := hide (hB0.out.trans (hb8.mono (by omega)))
      go_wp2
      go_ret
      exact ⟨ret_bool (by rw [hr.out]; rfl), hbf.out⟩
    · have q2 : (ed.v == (v : Int)) = false := by simp [hA2]
      have hr := hide (show dq W k v ed = false by rw [hqe.out]; simp [isEnd, hA, hA2])
      clear hA hA2 hqe
      go_enter Try.func86, Try.ntmps86
      go_wp2
      simp only [← h0.out]
      go_quiet (fail)
      go_wp2
      go_ret
      exact ⟨ret_bool hr.out.symm, up_drewN hB0.out⟩
end Go.Proofs.Ytgkiipmeigfjnaa

/-! The reference's Doors. Conditions: right ground, squares of 1 to 8 a side. -/
namespace Go.Proofs.Ytgkiipmeigfjnaa
open Go.RowKit
set_option linter.unusedSimpArgs false
set_option linter.unusedVariables false
def qIdx (q : Ed → Bool) : List Ed → Nat → Int | [], _ => -1 | e :: r, k => if q e = true then (k : Int) else qIdx q r (k + 1)
theorem qIdx_hit {q : Ed → Bool} {es : List Ed} {k : Nat} (h : k < es.length) (hq : q es[k] = true) : qIdx q (es.drop k) k = (k : Int) := by
  rw [List.drop_eq_getElem_cons h, qIdx, if_pos hq]
theorem qIdx_miss {q : Ed → Bool} {es : List Ed} {k : Nat} (h : k < es.length) (hq : q es[k] = false) : qIdx q (es.drop k) k = qIdx q (es.drop (k + 1)) (k + 1) := by
  rw [List.drop_eq_getElem_cons h, qIdx, if_neg (by simp [hq])]
theorem qIdx_any {q : Ed → Bool} : ∀ (es : List Ed) (k : Nat), decide (0 ≤ qIdx q es k) = es.any q
  | [], k => by simp [qIdx]
  | e :: r, k => by
    rw [qIdx, List.any_cons]
    by_cases h : q e = true
    · rw [if_pos h, h]; simp
    · rw [if_neg h, qIdx_any r (k + 1)]
      have : q e = false := by simpa using h
      rw [this]; simp
set_option maxRecDepth 100000 in
set_option maxHeartbeats 2000000 in
theorem ixd_any (W H k : Int) (a : Option Addr) (l cap : Nat) (v : Nat) (bv bg bk : Nat) (an : Option Addr) (cn m : Nat) (es : List Ed) (hm : es.length = m) (w : World) (B : Nat) (hB : B ≤ w.heap.size) (hE : Row encE 3 w B an es) (hC : C3 w W H a l cap k (v : Int) bv bg bk) (hW : 1 ≤ W) (hW8 : W ≤ 8) (hk : 1 ≤ k) (hk8 : k ≤ 8) (hin : ∀ e ∈ es, 0 ≤ e.u ∧ e.u < 64 ∧ 0 ≤ e.v ∧ e.v < 64) (hel : m ≤ 512) :
    Calls Try.prog 135 #[.slice an m cn, .func (.func 86) #[] #[.pointer (some ⟨bv, 0, none⟩), .pointer (some ⟨bg, 0, none⟩), .pointer (some ⟨bk, 0, none⟩)]] w fun e w' => e = .returned (.int .i64 (qIdx (dq W k v) es 0)) ∧ Below w.heap.size w w' := by
  subst hm
  have hD := hide (fun (ed : Ed) w hC hu hv => rd1_any W H k a l cap v bv bg bk ed w hC hW hW8 hk hk8 hu hv)
  replace hE := hide hE
  replace hin := hide hin
  replace hC := hide hC
  go_enter Try.func135, Try.ntmps135
  go_wp2
  go_loopw [8] (fun i wr => ∃ j : Nat, j ≤ es.length ∧ i = .int .i64 j ∧ Hid (qIdx (dq W k v) es 0 = qIdx (dq W k v) (es.drop j) j) ∧ Hid (Below w.heap.size w wr)) (fun i _ => es.length - (intOf i).toNat)
  case atStart => exact ⟨0, Nat.zero_le _, rfl, rfl, Below.refl _ _⟩
  case round =>
    obtain ⟨j, hj, rfl, hrest, hb⟩ := hrel
    by_cases hlt : j < es.length
    · obtain ⟨h1, h2, h3, h4⟩ := hin.out es[j] (List.getElem_mem hlt)
      obtain ⟨b, o, rfl, hbB, c0, c1, c2⟩ := hE.out.ed j hlt
      have c0 := cu_below hb.out c0 (by simp; omega)
      have c1 := cu_below hb.out c1 (by simp; omega)
      have c2 := cu_below hb.out c2 (by simp; omega)
      have hz := hb.out.size
      have hbl : b < wr.heap.size := by omega
      obtain ⟨ed, hed⟩ : ∃ ed, ed = es[j] := ⟨_, rfl⟩
      have hG := hide (hD.out ed wr (hC.out.below hb.out) (by rw [hed]; exact ⟨h1, h2⟩) (by rw [hed]; exact ⟨h3, h4⟩))
      have hhit := hide (fun (h : dq W k v ed = true) => qIdx_hit (q := dq W k v) hlt (by rw [← hed]; exact h))
      have hmiss := hide (fun (h : dq W k v ed = false) => qIdx_miss (q := dq W k v) hlt (by rw [← hed]; exact h))
      rw [← hed] at c0 c1 c2
      replace hed := hide hed
      obtain ⟨t, ht⟩ : ∃ t, t = dq W k v ed := ⟨_, rfl⟩
      rw [← ht] at hG hhit hmiss
      replace ht := hide ht
      have ij : (0 : Int) ≤ (j : Int) ∧ (j : Int) < (es.length : Int) := by omega
      clear h1 h2 h3 h4
      cases t with
      | true =>
        have hq := hide (hhit.out rfl)
        clear hhit hmiss
        go_wp2_with fail
        refine hG.out.mono ?_
        rintro e w1 ⟨rfl, hb1⟩
        go_wp2
        go_ret
        exact ⟨ret_int (by rw [hrest.out, hq.out]), hb.out.trans (hb1.mono hz)⟩
      | false =>
        have hq := hide (hmiss.out rfl)
        clear hhit hmiss
        go_wp2_with fail
        refine hG.out.mono ?_
        rintro e w1 ⟨rfl, hb1⟩
        go_wp2
        go_roundw
        case rel => exact ⟨j + 1, by omega, by go_num, hide (by rw [hrest.out]; exact hq.out), hide (hb.out.trans (hb1.mono hz))⟩
        case measure => simp [intOf]; omega
    · go_wp2
      go_ret
      refine ⟨ret_int ?_, hb.out⟩
      rw [hrest.out, List.drop_eq_nil_of_le (by omega)]
      rfl
theorem ctd_any (W H k : Int) (a : Option Addr) (l cap : Nat) (v : Nat) (bv bg bk : Nat) (an : Option Addr) (cn m : Nat) (es : List Ed) (hm : es.length = m) (w : World) (B : Nat) (hB : B ≤ w.heap.size) (hE : Row encE 3 w B an es) (hC : C3 w W H a l cap k (v : Int) bv bg bk) (hW : 1 ≤ W) (hW8 : W ≤ 8) (hk : 1 ≤ k) (hk8 : k ≤ 8) (hin : ∀ e ∈ es, 0 ≤ e.u ∧ e.u < 64 ∧ 0 ≤ e.v ∧ e.v < 64) (hel : m ≤ 512) :
    Calls Try.prog 85 #[.slice an m cn, .func (.func 86) #[] #[.pointer (some ⟨bv, 0, none⟩), .pointer (some ⟨bg, 0, none⟩), .pointer (some ⟨bk, 0, none⟩)]] w fun e w' => e = .returned (.bool (es.any (dq W k v))) ∧ Below w.heap.size w w' := by
  have hG := hide (ixd_any W H k a l cap v bv bg bk an cn m es hm w B hB hE hC hW hW8 hk hk8 hin hel)
  have hl2 := hide (qIdx_any (q := dq W k v) es 0)
  clear hE hC hin
  go_enter Try.func85, Try.ntmps85
  go_wp2_with fail
  refine hG.out.mono ?_
  rintro e w1 ⟨rfl, hb1⟩
  go_wp2
  go_ret
  exact ⟨ret_bool hl2.out, hb1⟩
/-- a list of places handed back -/
def DoorBack1 (xs : List Int) (w : World) (e : Ending) (w' : World) : Prop := ∃ a c, e = .returned (.slice a xs.length c) ∧ Row encI 1 w' w'.heap.size a xs ∧ Below w.heap.size w w'
set_option maxRecDepth 100000 in
set_option maxHeartbeats 4000000 in
theorem rdoors_ok (W H k : Int) (a : Option Addr) (cap : Nat) (cs : List Int) (w : World) (B : Nat) (hB : B ≤ w.heap.size) (hE : Row encI 1 w B a cs) (h0 : hlErr W H cs k = 0) (es : List Ed) (hes : gridNet W H cs cs.length = es) (hin : ∀ e ∈ es, 0 ≤ e.u ∧ e.u < (cs.length : Int) ∧ 0 ≤ e.v ∧ e.v < (cs.length : Int)) :
    Calls Try.prog 32 #[.agg #[.int .i64 W, .int .i64 H, .slice a cs.length cap], .int .i64 k] w (DoorBack1 (doorL (dr (betE W k es)) cs.length) w) := by
  obtain ⟨g0, k1, k8⟩ := hl_ok h0
  have h64 := grid_64 g0
  have hbds := gridErr_ok g0
  have b1 := hbds.1
  have b2 := hbds.2.1
  have hcl := hide hbds.2.2.2.2.1
  have hel : es.length ≤ 512 := by have := gridNet_len W H cs cs.length; rw [hes] at this; omega
  have hO := hide (fun w B hB hE => by have := ofgrid_ok W H a cap cs w B hB hE g0; rw [hes, ← hcl.out] at this; exact this)
  obtain ⟨m, hm⟩ : ∃ m, m = es.length := ⟨_, rfl⟩
  have hCt := hide (fun (v : Nat) bv bg bk an cn w B hB hE hC => ctd_any W H k a cs.length cap v bv bg bk an cn m es hm.symm w B hB hE hC b1 b2 k1 k8 (fun e he => by have := hin e he; omega) (by omega))
  have hf := hide (show ∀ v, dr (betE W k es) v = es.any (dq W k v) from fun v => dr_bet W k es v)
  generalize dr (betE W k es) = f at *
  replace hE := hide hE
  replace hm := hide hm
  clear hbds h0 g0 hes hin
  go_enter Try.func32, Try.ntmps32
  go_wp2_with fail
  refine (hO.out _ B (by simp; omega) (hE.out.below ((by repeat (first | with_reducible exact Below.refl _ _ | with_reducible assumption | with_reducible refine up_drewN ?_ | with_reducible refine up_drew ?_ | (with_reducible refine up_alloc ?_ ?_; rotate_left; (first | omega | (simp <;> omega) | simp)) | (with_reducible refine up_set ?_ ?_; rotate_left; (first | omega | (simp <;> omega) | simp)) | (with_reducible refine Below.trans ?_ (Below.mono (by with_reducible assumption) ?_); rotate_left; (first | omega | (simp <;> omega) | simp)))) : Below w.heap.size w _) hB)).mono ?_
  rintro e w1 ⟨v, rfl, own, hb1⟩
  obtain ⟨an, cn, rfl⟩ := own.shape (n := m) hm.out.symm
  have hrow := hide own.rowE
  have hz1 := hb1.size
  simp at hz1
  have j0 : w1.cell? ⟨w.heap.size, 0, none⟩ = some (.int .i64 W) := cu_below hb1 (by simp [go_sem]) (by simp <;> omega)
  have j1 : w1.cell? ⟨w.heap.size, 1, none⟩ = some (.int .i64 H) := cu_below hb1 (by simp [go_sem]) (by simp <;> omega)
  have j2 : w1.cell? ⟨w.heap.size, 2, none⟩ = some (.slice a cs.length cap) := cu_below hb1 (by simp [go_sem]) (by simp <;> omega)
  have j3 : w1.cell? ⟨w.heap.size + 1, 0, none⟩ = some (.int .i64 k) := cu_below hb1 (by simp [go_sem]) (by simp <;> omega)
  have hbw := hide (show Below w.heap.size w w1 from (by repeat (first | with_reducible exact Below.refl _ _ | with_reducible assumption | with_reducible refine up_drewN ?_ | with_reducible refine up_drew ?_ | (with_reducible refine up_alloc ?_ ?_; rotate_left; (first | omega | (simp <;> omega) | simp)) | (with_reducible refine up_set ?_ ?_; rotate_left; (first | omega | (simp <;> omega) | simp)) | (with_reducible refine Below.trans ?_ (Below.mono (by with_reducible assumption) ?_); rotate_left; (first | omega | (simp <;> omega) | simp)))))
  clear hb1 own hO
  obtain ⟨w2, hw2⟩ : ∃ w2, w2 = w1.alloc (.cells #[.int .i64 (cs.length : Int), .slice an m cn] 24) := ⟨_, rfl⟩
  have hb12 : Below w1.heap.size w1 w2 := by rw [hw2]; exact (Below.refl _ _).alloc (Nat.le_refl _) _
  have n0 : w2.cell? ⟨w1.heap.size, 0, none⟩ = some (.int .i64 (cs.length : Int)) := by rw [hw2]; simp [go_sem]
  have n1 : w2.cell? ⟨w1.heap.size, 1, none⟩ = some (.slice an m cn) := by rw [hw2]; simp [go_sem]
  have hz2 : w1.heap.size < w2.heap.size := by have := cell_lt n0; simpa using this
  have i0 := cu_below hb12 j0 (by simp; omega)
  have i1 := cu_below hb12 j1 (by simp; omega)
  have i2 := cu_below hb12 j2 (by simp; omega)
  have i3 := cu_below hb12 j3 (by simp; omega)
  have hrow2 := hide (hrow.out.below hb12 (Nat.le_refl _))
  have hbw2 := hide (hbw.out.trans (hb12.mono (by omega)))
  replace hw2 := hide hw2
  clear hb12 hrow hbw
  go_wp2
  simp only [← hw2.out]
  clear j0 j1 j2 j3
  go_loopw [5, 7, 12] (fun s5 _ i wr => ∃ (j p : Nat) (av : Option Addr) (cv : Nat), j ≤ cs.length ∧ p ≤ j ∧ i = .int .i64 j ∧ s5 = .slice av p cv ∧ Hid ((doorL f j).length = p) ∧ Hid (Own encI 1 3 wr w2.heap.size (.slice av p cv) (doorL f j)) ∧ Hid (Below w2.heap.size w2 wr)) (fun _ _ i _ => cs.length - (intOf i).toNat)
  case atStart => exact ⟨0, 0, none, 0, Nat.zero_le _, Nat.le_refl _, rfl, rfl, hide rfl, hide (Own.nil _ _), hide (Below.refl _ _)⟩
  case round =>
    obtain ⟨j, p, av, cv, hj, hp, rfl, rfl, hlp, own, hb⟩ := hrel
    have hzr := hb.out.size
    by_cases hlt : j < cs.length
    · have hds := hide (doorL_succ f j)
      have y0 := cu_below hb.out i0 (by simp; omega)
      have y1 := cu_below hb.out i1 (by simp; omega)
      have y2 := cu_below hb.out i2 (by simp; omega)
      have y3 := cu_below hb.out i3 (by simp; omega)
      have y4 := cu_below hb.out n0 (by simp; omega)
      have y5 := cu_below hb.out n1 (by simp; omega)
      have hzx : w1.heap.size < wr.heap.size := by omega
      have hzw : w.heap.size < wr.heap.size := by omega
      have hzw1 : w.heap.size + 1 < wr.heap.size := by omega
      have ij : (0 : Int) ≤ (j : Int) ∧ (j : Int) < (cs.length : Int) := by omega
      have hR := hide (hrow2.out.below hb.out (by omega))
      have hCj := hide (hCt.out j wr.heap.size w.heap.size (w.heap.size + 1) an cn (wr.alloc (.cells #[.int .i64 (j : Int)] 3)) w1.heap.size (by simp; omega) (hR.out.below ((Below.refl _ _).alloc (Nat.le_refl _) _) (by omega)) ⟨by simp [go_sem], cu_alloc y0, cu_alloc y1, cu_alloc y2, cu_alloc y3⟩)
      rw [← hf.out] at hCj
      obtain ⟨fj, hfj⟩ : ∃ fj, fj = f j := ⟨_, rfl⟩
      rw [← hfj] at hCj hds
      replace hfj := hide hfj
      clear i0 i1 i2 i3 n0 n1
      go_wp2_with fail
      refine hCj.out.mono ?_
      rintro e w5 ⟨rfl, hb5⟩
      have z0 := cu_below hb5 (show (wr.alloc (.cells #[.int .i64 (j : Int)] 3)).cell? ⟨wr.heap.size, 0, none⟩ = some (.int .i64 (j : Int)) by simp [go_sem]) (by simp)
      have hz5 : wr.heap.size < w5.heap.size := by have := cell_lt z0; simpa using this
      have hb5' := hide (unalloc (hb5.mono (by simp)) (Nat.le_refl _) : Below wr.heap.size wr w5)
      have own5 := hide (own.out.stays hb5'.out)
      have hbw5 := hide (hb.out.trans (hb5'.out.mono hzr))
      clear hb5 y0 y1 y2 y3 y4 y5 hCj
      cases fj with
      | true =>
        simp only [if_true] at hds
        go_wp2_with (at_builtin; (refine wpList_push (e := 3) (enc := encI) (xs := doorL f j) (v := .slice av (p) cv) (base := w2.heap.size) rfl (.tmp 19) (.tmp 21) 34 rfl _ 8 Try.underlying34 info_int rfl ?d11 lenI oneI (p) ?d21 ?d31 ?d41 ⟨w5.heap.size, 0, none⟩ 1 (j : Int) ?d51 ?d61 ?d71 ?d81 ?d91 ?_); (case d11 => omega); (case d21 => exact hlp.out); (case d31 => rfl); (case d41 => exact (own5.out.alloc _)); (case d51 => rfl); (case d61 => exact newI _ _ _ _ rfl); (case d71 => omega); (case d81 => unfold maxLen; omega); (case d91 => first | omega | (simp; done) | (simp; omega)); intro g1 c1 w1 own1 hb1 hgr1 hg1 hgl1; have hB1 := hide (unalloc hb1 (by omega)); replace own1 := hide own1; replace hb1 := hide hb1; replace hgr1 := hide hgr1)
        go_roundw
        case rel => exact ⟨j + 1, p + 1, _, _, by omega, by omega, by go_num, rfl, hide (by rw [hds.out, List.length_append, hlp.out]; rfl), hide (by rw [hds.out]; exact own1.out), hide (hbw5.out.trans hB1.out)⟩
        case measure => simp [intOf]; omega
      | false =>
        simp only [Bool.false_eq_true, if_false] at hds
        go_wp2
        go_roundw
        case rel => exact ⟨j + 1, p, av, cv, by omega, by omega, by go_num, rfl, hide (by rw [hds.out]; exact hlp.out), hide (by rw [hds.out]; exact own5.out), hbw5⟩
        case measure => simp [intOf]; omega
    · obtain rfl : j = cs.length := by omega
      obtain ⟨a', c', hv', hrp, _⟩ := own.out.row lenI
      injection hv' with g1 g2 g3
      subst g1 g3
      clear g2
      replace hrp := hide hrp
      go_wp2
      go_ret
      exact ⟨av, cv, by rw [hlp.out]; rfl, hrp.out, hbw2.out.trans (hb.out.mono (by have := hbw2.out.size; omega))⟩
end Go.Proofs.Ytgkiipmeigfjnaa

/-! slices.DeleteFunc over edges, with the reference's step: moves between squares go. Conditions: right ground, squares of 1 to 8 a side. -/
namespace Go.Proofs.Ytgkiipmeigfjnaa
open Go.RowKit
set_option linter.unusedSimpArgs false
set_option linter.unusedVariables false
def outSq (W k : Int) (e : Ed) : Bool := !sameSq W k e
theorem qIdx_say {q : Ed → Bool} : ∀ (es : List Ed) (k : Nat), (qIdx q es k = -1 ∧ ∀ e ∈ es, q e = false) ∨ ∃ i, ∃ h : i < es.length, qIdx q es k = ((k + i : Nat) : Int) ∧ q es[i] = true ∧ ∀ t (ht : t < i), q (es[t]'(by omega)) = false
  | [], k => .inl ⟨rfl, fun e he => by cases he⟩
  | x :: r, k => by
    rw [qIdx]
    by_cases h : q x = true
    · rw [if_pos h]
      exact .inr ⟨0, by simp, by simp, by simpa using h, fun t ht => by omega⟩
    · rw [if_neg h]
      rcases qIdx_say r (k + 1) with ⟨h1, h2⟩ | ⟨i, hi, h1, h2, h3⟩
      · refine .inl ⟨h1, fun e he => ?_⟩
        rcases List.mem_cons.1 he with rfl | he
        · simpa using h
        · exact h2 e he
      · refine .inr ⟨i + 1, by simpa using hi, by rw [h1]; congr 1; omega, by simpa using h2, fun t ht => ?_⟩
        cases t with
        | zero => simpa using h
        | succ t => simpa using h3 t (by omega)
theorem ins_first {W k : Int} {es : List Ed} {i : Nat} (hi : i < es.length) (h1 : outSq W k es[i] = true) (h2 : ∀ t (ht : t < i), outSq W k (es[t]'(by omega)) = false) : insE W k (es.take (i + 1)) = es.take i := by
  rw [ins_take hi, if_neg (by simpa [outSq] using h1)]
  unfold insE
  rw [List.filter_eq_self]
  intro e he
  obtain ⟨t, ht, rfl⟩ := List.getElem_of_mem he
  rw [List.length_take] at ht
  rw [List.getElem_take]
  have := h2 t (by omega)
  simpa [outSq] using this
theorem ins_all {W k : Int} {es : List Ed} (h : ∀ e ∈ es, outSq W k e = false) : insE W k es = es := by
  unfold insE
  rw [List.filter_eq_self]
  intro e he
  have := h e he
  simpa [outSq] using this
theorem Own.putE {e : TypeId} {w : World} {base g n c : Nat} {xs : List Ed} (h : Own encE 3 e w base (.slice (some ⟨g, 0, none⟩) n c) xs) (i : Nat) (hi : i < xs.length) (x : Ed) :
    Own encE 3 e (((w.setCell ⟨g, i * 3, none⟩ (.int .i64 x.u)).setCell ⟨g, i * 3 + 1, none⟩ (.int .i64 x.v)).setCell ⟨g, i * 3 + 2, none⟩ (.int .i64 x.c)) base (.slice (some ⟨g, 0, none⟩) n c) (xs.set i x) := by
  have h1 := h.put lenE i hi 0 (by omega) (.int .i64 x.u) ⟨x.u, xs[i].v, xs[i].c⟩ rfl
  have h2 := h1.put lenE i (by simpa using hi) 1 (by omega) (.int .i64 x.v) ⟨x.u, x.v, xs[i].c⟩ (by simp [encE])
  have h3 := h2.put lenE i (by simpa using hi) 2 (by omega) (.int .i64 x.c) x (by simp [encE])
  simpa using h3
theorem Keep.setCells {S : Nat → Prop} {w : World} {b : Nat} (hb : S b) : ∀ (vs : List Value) (o : Nat) (w' : World), Keep S w w' → Keep S w (w'.setCells b o vs)
  | [], o, w', h => h
  | v :: r, o, w', h => Keep.setCells hb r (o + 1) _ (h.setCell (.inl hb) v)
theorem Row.takeE {w : World} {B : Nat} {a : Option Addr} {xs : List Ed} (h : Row encE 3 w B a xs) (k : Nat) : Row encE 3 w B a (xs.take k) := by
  intro i hi
  have hi' : i < xs.length := by rw [List.length_take] at hi; omega
  obtain ⟨b, o, h1, h2, h3⟩ := h i hi'
  refine ⟨b, o, h1, h2, fun j u hu => h3 j u ?_⟩
  rwa [List.getElem_take] at hu
theorem zeroE (w : World) : (zeroValue 26).run Try.prog w = .ok (.agg #[.int .i64 0, .int .i64 0, .int .i64 0]) w := by kernel_rfl
def zer (n : Nat) : List Value := (Builtin.zeroCells (Value.agg #[.int .i64 0, .int .i64 0, .int .i64 0]).cells n).toList
theorem zer_len (n : Nat) : (zer n).length = n * 3 := by simp [zer, Builtin.zeroCells, Value.cells]
theorem zer_one (n : Nat) : ∀ v ∈ zer n, v.oneCell' = true := by
  intro v hv
  simp only [zer, Builtin.zeroCells, Array.toList_map, List.mem_map] at hv
  obtain ⟨i, _, rfl⟩ := hv
  have : i % 3 = 0 ∨ i % 3 = 1 ∨ i % 3 = 2 := by omega
  have hs : (Value.agg #[.int .i64 0, .int .i64 0, .int .i64 0]).cells = #[.int .i64 0, .int .i64 0, .int .i64 0] := by rfl
  rw [hs]
  show (#[Value.int .i64 0, .int .i64 0, .int .i64 0][i % 3]!).oneCell' = true
  rcases this with h | h | h <;> rw [h] <;> rfl
theorem run_clearE (w : World) (ty : TypeId) (b o n c : Nat) (hn : 0 < n) (hc : ∀ j, j < n * 3 → (w.cell? ⟨b, o + j, none⟩).isSome = true) (hf : ∀ j, j < n * 3 → w.frozen? ⟨b, o + j, none⟩ = false) :
    (Builtin.clear_ #[22] ty #[.slice (some ⟨b, o, none⟩) n c]).run Try.prog w = .ok (.tuple #[]) (w.setCells b o (zer n)) := by
  have hst := run_storeCells_cells (P := Try.prog) b o (zer n) 0 w (by rw [zer_len]; simpa using hc) (by rw [zer_len]; simpa using hf) (zer_one n)
  simp only [Nat.add_zero] at hst
  obtain ⟨m, rfl⟩ : ∃ m, n = m + 1 := ⟨n - 1, by omega⟩
  simp [Builtin.clear_, run_underlying Try.underlying22, zeroE]
  have : (Builtin.zeroCells (Value.agg #[.int .i64 0, .int .i64 0, .int .i64 0]).cells (m + 1)).toList = zer (m + 1) := rfl
  simp only [this, hst]
  rfl
set_option maxRecDepth 100000 in
set_option maxHeartbeats 2000000 in
theorem ri1_any (W H k : Int) (a : Option Addr) (l cap : Nat) (bg bk : Nat) (ed : Ed) (w : World) (hC : C3 w W H a l cap k k bk bg bk) (hW : 1 ≤ W) (hW8 : W ≤ 8) (hk : 1 ≤ k) (hk8 : k ≤ 8) (hu : 0 ≤ ed.u ∧ ed.u < 64) (hv : 0 ≤ ed.v ∧ ed.v < 64) :
    Calls Try.prog 126 #[.agg #[.int .i64 ed.u, .int .i64 ed.v, .int .i64 ed.c], .pointer (some ⟨bg, 0, none⟩), .pointer (some ⟨bk, 0, none⟩)] w fun e w' => e = .returned (.bool (outSq W k ed)) ∧ Below w.heap.size w w' := by
  obtain ⟨_, g0, g1, g2, ck⟩ := hC
  have lg := cell_lt g0
  have lk := cell_lt ck
  simp only at lg lk
  have hS := hide (fun (p : Int) (h : 0 ≤ p ∧ p < 64) w => rsq_any W H k p (.slice a l cap) w hW hW8 hk hk8 h.1 h.2 ⟨_, _, _, rfl⟩)
  have hqe := hide (show (sqN W k ed.u != sqN W k ed.v) = outSq W k ed from rfl)
  obtain ⟨w0, h0⟩ : ∃ w0, w0 = w.alloc (.cells #[.int .i64 ed.u, .int .i64 ed.v, .int .i64 ed.c] 26) := ⟨_, rfl⟩
  have hB0 := hide (show Below w.heap.size w w0 by rw [h0]; exact (Below.refl _ _).alloc (Nat.le_refl _) _)
  have x0 : w0.cell? ⟨w.heap.size, 0, none⟩ = some (.int .i64 ed.u) := by rw [h0]; simp [go_sem]
  have x1 : w0.cell? ⟨w.heap.size, 1, none⟩ = some (.int .i64 ed.v) := by rw [h0]; simp [go_sem]
  have y2 := cu_below hB0.out g0 lg
  have y3 := cu_below hB0.out g1 lg
  have y4 := cu_below hB0.out g2 lg
  have y5 := cu_below hB0.out ck lk
  have hz0 : w.heap.size < w0.heap.size := cell_lt x0
  have key := hide (show ∀ w', Below w0.heap.size w0 w' → (Below w0.heap.size w0 w' ∧ w'.cell? ⟨w.heap.size, 0, none⟩ = some (.int .i64 ed.u) ∧ w'.cell? ⟨w.heap.size, 1, none⟩ = some (.int .i64 ed.v) ∧ w'.cell? ⟨bg, 0, none⟩ = some (.int .i64 W) ∧ w'.cell? ⟨bg, 1, none⟩ = some (.int .i64 H) ∧ w'.cell? ⟨bg, 2, none⟩ = some (.slice a l cap) ∧ w'.cell? ⟨bk, 0, none⟩ = some (.int .i64 k)) from fun w' h =>
    ⟨h, cu_below h x0 (cell_lt x0), cu_below h x1 (cell_lt x1), cu_below h y2 (cell_lt y2), cu_below h y3 (cell_lt y3), cu_below h y4 (cell_lt y4), cu_below h y5 (cell_lt y5)⟩)
  replace h0 := hide h0
  go_enter Try.func126, Try.ntmps126
  go_wp2
  simp only [← h0.out]
  clear x0 x1 y2 y3 y4 y5 g0 g1 g2 ck
  go_region_held3 (fun w' => Below w0.heap.size w0 w' ∧ w'.cell? ⟨w.heap.size, 0, none⟩ = some (.int .i64 ed.u) ∧ w'.cell? ⟨w.heap.size, 1, none⟩ = some (.int .i64 ed.v) ∧ w'.cell? ⟨bg, 0, none⟩ = some (.int .i64 W) ∧ w'.cell? ⟨bg, 1, none⟩ = some (.int .i64 H) ∧ w'.cell? ⟨bg, 2, none⟩ = some (.slice a l cap) ∧ w'.cell? ⟨bk, 0, none⟩ = some (.int .i64 k))
    (first | exact key.out _ (below_drew _) | exact key.out _ (by assumption))
    (first | (go_at_call 29; have hb4 := (‹Below w0.heap.size w0 _ ∧ _› : _ ∧ _).1; refine (hS.out _ (by assumption) _).mono ?_; rintro e w5 ⟨rfl, hb5⟩; have hb6 := below_step hb4 hb5))
  all_goals
    have hb7 := hide (‹Below w0.heap.size w0 w5 ∧ _› : _ ∧ _).1
    go_wp2
    go_ret
    exact ⟨ret_bool hqe.out, hB0.out.trans (hb7.out.mono (by omega))⟩
set_option maxRecDepth 100000 in
set_option maxHeartbeats 2000000 in
theorem ixi_any (W H k : Int) (a : Option Addr) (l cap : Nat) (bg bk : Nat) (an : Option Addr) (cn m : Nat) (es : List Ed) (hm : es.length = m) (w : World) (B : Nat) (hB : B ≤ w.heap.size) (hE : Row encE 3 w B an es) (hC : C3 w W H a l cap k k bk bg bk) (hW : 1 ≤ W) (hW8 : W ≤ 8) (hk : 1 ≤ k) (hk8 : k ≤ 8) (hin : ∀ e ∈ es, 0 ≤ e.u ∧ e.u < 64 ∧ 0 ≤ e.v ∧ e.v < 64) (hel : m ≤ 512) :
    Calls Try.prog 135 #[.slice an m cn, .func (.func 126) #[] #[.pointer (some ⟨bg, 0, none⟩), .pointer (some ⟨bk, 0, none⟩)]] w fun e w' => e = .returned (.int .i64 (qIdx (outSq W k) es 0)) ∧ Below w.heap.size w w' := by
  subst hm
  have hD := hide (fun (ed : Ed) w hC hu hv => ri1_any W H k a l cap bg bk ed w hC hW hW8 hk hk8 hu hv)
  replace hE := hide hE
  replace hin := hide hin
  replace hC := hide hC
  go_enter Try.func135, Try.ntmps135
  go_wp2
  go_loopw [8] (fun i wr => ∃ j : Nat, j ≤ es.length ∧ i = .int .i64 j ∧ Hid (qIdx (outSq W k) es 0 = qIdx (outSq W k) (es.drop j) j) ∧ Hid (Below w.heap.size w wr)) (fun i _ => es.length - (intOf i).toNat)
  case atStart => exact ⟨0, Nat.zero_le _, rfl, rfl, Below.refl _ _⟩
  case round =>
    obtain ⟨j, hj, rfl, hrest, hb⟩ := hrel
    by_cases hlt : j < es.length
    · obtain ⟨h1, h2, h3, h4⟩ := hin.out es[j] (List.getElem_mem hlt)
      obtain ⟨b, o, rfl, hbB, c0, c1, c2⟩ := hE.out.ed j hlt
      have c0 := cu_below hb.out c0 (by simp; omega)
      have c1 := cu_below hb.out c1 (by simp; omega)
      have c2 := cu_below hb.out c2 (by simp; omega)
      have hz := hb.out.size
      have hbl : b < wr.heap.size := by omega
      obtain ⟨ed, hed⟩ : ∃ ed, ed = es[j] := ⟨_, rfl⟩
      have hG := hide (hD.out ed wr (hC.out.below hb.out) (by rw [hed]; exact ⟨h1, h2⟩) (by rw [hed]; exact ⟨h3, h4⟩))
      have hhit := hide (fun (h : outSq W k ed = true) => qIdx_hit (q := outSq W k) hlt (by rw [← hed]; exact h))
      have hmiss := hide (fun (h : outSq W k ed = false) => qIdx_miss (q := outSq W k) hlt (by rw [← hed]; exact h))
      rw [← hed] at c0 c1 c2
      replace hed := hide hed
      obtain ⟨t, ht⟩ : ∃ t, t = outSq W k ed := ⟨_, rfl⟩
      rw [← ht] at hG hhit hmiss
      replace ht := hide ht
      have ij : (0 : Int) ≤ (j : Int) ∧ (j : Int) < (es.length : Int) := by omega
      clear h1 h2 h3 h4
      cases t with
      | true =>
        have hq := hide (hhit.out rfl)
        clear hhit hmiss
        go_wp2_with fail
        refine hG.out.mono ?_
        rintro e w1 ⟨rfl, hb1⟩
        go_wp2
        go_ret
        exact ⟨ret_int (by rw [hrest.out, hq.out]), hb.out.trans (hb1.mono hz)⟩
      | false =>
        have hq := hide (hmiss.out rfl)
        clear hhit hmiss
        go_wp2_with fail
        refine hG.out.mono ?_
        rintro e w1 ⟨rfl, hb1⟩
        go_wp2
        go_roundw
        case rel => exact ⟨j + 1, by omega, by go_num, hide (by rw [hrest.out]; exact hq.out), hide (hb.out.trans (hb1.mono hz))⟩
        case measure => simp [intOf]; omega
    · go_wp2
      go_ret
      refine ⟨ret_int ?_, hb.out⟩
      rw [hrest.out, List.drop_eq_nil_of_le (by omega)]
      rfl
def DelBack (xs : List Ed) (v : Value) (w : World) (e : Ending) (w' : World) : Prop := ∃ a c, e = .returned (.slice a xs.length c) ∧ Row encE 3 w' w'.heap.size a xs ∧ Keep (fun j => v.ownBlock = some j) w w' ∧ ∀ b, (Value.slice a xs.length c).ownBlock = some b → v.ownBlock = some b
set_option maxRecDepth 100000 in
set_option maxHeartbeats 4000000 in
theorem delf_any (W H k : Int) (a : Option Addr) (l cap : Nat) (bg bk : Nat) (an : Option Addr) (cn m base : Nat) (es : List Ed) (hm : es.length = m) (w : World) (own0 : Own encE 3 26 w base (.slice an m cn) es) (hC : C3 w W H a l cap k k bk bg bk) (hg : bg < base) (hbk : bk < base) (hW : 1 ≤ W) (hW8 : W ≤ 8) (hk : 1 ≤ k) (hk8 : k ≤ 8) (hin : ∀ e ∈ es, 0 ≤ e.u ∧ e.u < 64 ∧ 0 ≤ e.v ∧ e.v < 64) (hel : m ≤ 512) :
    Calls Try.prog 125 #[.slice an m cn, .func (.func 126) #[] #[.pointer (some ⟨bg, 0, none⟩), .pointer (some ⟨bk, 0, none⟩)]] w (DelBack (insE W k es) (.slice an m cn) w) := by
  have hI := hide (ixi_any W H k a l cap bg bk an cn m es hm w w.heap.size (Nat.le_refl _) own0.rowE hC hW hW8 hk hk8 hin hel)
  have hD := hide (show ∀ (ed : Ed) w, _ → _ → _ → Calls _ _ _ _ (fun e w' => e = .returned (.bool (!sameSq W k ed)) ∧ Below w.heap.size w w') from fun (ed : Ed) w hC hu hv => ri1_any W H k a l cap bg bk ed w hC hW hW8 hk hk8 hu hv)
  rcases qIdx_say (q := outSq W k) es 0 with ⟨h1, h2⟩ | ⟨i0, hi0, h1, h2, h3⟩
  · rw [h1] at hI
    have hall := hide (ins_all h2)
    replace own0 := hide own0
    replace hm := hide hm
    clear hC hin h1 h2
    go_enter Try.func125, Try.ntmps125
    go_wp2_with fail
    refine hI.out.mono ?_
    rintro e w1 ⟨rfl, hb1⟩
    have hr1 := hide ((own0.out.stays hb1).rowE)
    have hk1 := hide (show Keep (fun j => (Value.slice an m cn).ownBlock = some j) w w1 from Keep.new hb1)
    go_wp2
    go_ret
    exact ⟨an, cn, by rw [hall.out, hm.out]; rfl, by rw [hall.out]; exact hr1.out, hk1.out, fun b hb => by cases an with | none => (simp [Value.ownBlock] at hb) | some a => exact hb⟩
  · rw [h1, Nat.zero_add] at hI
    have hfst := hide (ins_first hi0 h2 h3)
    obtain ⟨g, rfl, hg1, hg2⟩ := own0.blockI (by omega)
    have hmc : m ≤ cn := by
      obtain ⟨_, _, hv', _, hle, _⟩ := own0.row lenE
      injection hv' with g1 g2 g3
      omega
    have him : i0 < m := by omega
    have hneg : ((i0 : Int) == -1) = false := by first | (simp; done) | (simp; omega)
    replace own0 := hide own0
    replace hm := hide hm
    replace hC := hide hC
    replace hin := hide hin
    clear h1 h2 h3 hi0
    go_enter Try.func125, Try.ntmps125
    go_wp2_with fail
    refine hI.out.mono ?_
    rintro e w1 ⟨rfl, hb1⟩
    have own1 := hide (own0.out.stays hb1)
    have hk1 := hide (show Keep (fun j => j = g) w w1 from Keep.new hb1)
    clear hb1 hI
    go_wp2
    clear hneg
    go_loopw [5, 6, 7] (fun s5 s6 _ wr => ∃ (j i : Nat) (ys : List Ed), i < j ∧ j ≤ m ∧ s5 = .int .i64 i ∧ s6 = .int .i64 j ∧ Hid (ys.length = m) ∧ Hid (insE W k (es.take j) = ys.take i) ∧ Hid (∀ t, j ≤ t → ys[t]? = es[t]?) ∧ Hid (Own encE 3 26 wr base (.slice (some ⟨g, 0, none⟩) m cn) ys) ∧ Hid (Keep (fun j => j = g) w wr)) (fun _ s6 _ _ => m - (intOf s6).toNat)
    case atStart => exact ⟨i0 + 1, i0, es, by omega, by omega, rfl, by first | rfl | go_num, hm, hfst, hide (fun t _ => rfl), own1, hk1⟩
    case round =>
      clear own1 hk1
      obtain ⟨j, i, ys, hij, hj, rfl, rfl, hyl, hins, htl, own, hK⟩ := hrel
      have hgl := own.out.at_base.2
      have fr := own.out.free
      by_cases hlt : j < m
      · have hje : j < es.length := by rw [hm.out]; exact hlt
        have hjy : j < ys.length := by rw [hyl.out]; exact hlt
        have hiy : i < ys.length := by omega
        have hye : ys[j] = es[j] := by
          have := htl.out j (Nat.le_refl _)
          rw [List.getElem?_eq_getElem hjy, List.getElem?_eq_getElem hje] at this
          exact Option.some.inj this
        obtain ⟨q0, q1, q2⟩ := own.out.getE j hjy
        obtain ⟨p0, p1, p2⟩ := own.out.getE i hiy
        obtain ⟨h1, h2, h3, h4⟩ := hin.out es[j] (List.getElem_mem hje)
        have htk := hide (ins_take (W := W) (k := k) hje)
        rw [hye] at q0 q1 q2
        obtain ⟨ed, hed⟩ : ∃ ed, ed = es[j] := ⟨_, rfl⟩
        rw [← hed] at q0 q1 q2 h1 h2 h3 h4 htk hye
        have hu : 0 ≤ ed.u ∧ ed.u < 64 := ⟨h1, h2⟩
        have hv : 0 ≤ ed.v ∧ ed.v < 64 := ⟨h3, h4⟩
        have hG := hide (fun w' (hb : Below wr.heap.size wr w') => hD.out ed w' (by
          have hk := hK.out
          have hc := hC.out
          refine C3.below (w := wr) ⟨hk.cu hc.v (by simp; omega), hk.cu hc.g0 (by simp; omega), hk.cu hc.g1 (by simp; omega), hk.cu hc.g2 (by simp; omega), hk.cu hc.k (by simp; omega)⟩ hb) hu hv)
        obtain ⟨sb, hsb⟩ : ∃ sb, sb = sameSq W k ed := ⟨_, rfl⟩
        rw [← hsb] at htk hG
        replace hed := hide hed
        replace hsb := hide hsb
        replace hye := hide hye
        have ij : (0 : Int) ≤ (j : Int) ∧ (j : Int) < (m : Int) := by omega
        have ii : (0 : Int) ≤ (i : Int) ∧ (i : Int) < (m : Int) := by omega
        clear h1 h2 h3 h4
        cases sb with
        | true =>
          simp only [if_true] at htk
          go_wp2_with fail
          refine (hG.out _ ((Below.refl _ _).alloc (Nat.le_refl _) _)).mono ?_
          rintro e w5 ⟨rfl, hb5⟩
          have y0 := cu_below hb5 (show (wr.alloc (.cells #[.int .i64 ed.u, .int .i64 ed.v, .int .i64 ed.c] 26)).cell? ⟨wr.heap.size, 0, none⟩ = some (.int .i64 ed.u) by simp [go_sem]) (by simp)
          have y1 := cu_below hb5 (show (wr.alloc (.cells #[.int .i64 ed.u, .int .i64 ed.v, .int .i64 ed.c] 26)).cell? ⟨wr.heap.size, 1, none⟩ = some (.int .i64 ed.v) by simp [go_sem]) (by simp)
          have y2 := cu_below hb5 (show (wr.alloc (.cells #[.int .i64 ed.u, .int .i64 ed.v, .int .i64 ed.c] 26)).cell? ⟨wr.heap.size, 2, none⟩ = some (.int .i64 ed.c) by simp [go_sem]) (by simp)
          have hz5 : wr.heap.size < w5.heap.size := by have := cell_lt y0; simpa using this
          have hb5' := unalloc (hb5.mono (by simp)) (Nat.le_refl _)
          have own5 := hide (own.out.stays hb5')
          have hK5 := hide (hK.out.trans (Keep.new hb5' : Keep (fun j => j = g) wr w5))
          have p0 := cu_below hb5' p0 (by simpa using hgl)
          have p1 := cu_below hb5' p1 (by simpa using hgl)
          have p2 := cu_below hb5' p2 (by simpa using hgl)
          have fr5 := own5.out.free
          have hgl5 : g < w5.heap.size := by omega
          have own6 := hide (own5.out.putE i hiy ed)
          have hK6 := hide (((hK5.out.setCell (p := ⟨g, i * 3, none⟩) (.inl rfl) (.int .i64 ed.u)).setCell (p := ⟨g, i * 3 + 1, none⟩) (.inl rfl) (.int .i64 ed.v)).setCell (p := ⟨g, i * 3 + 2, none⟩) (.inl rfl) (.int .i64 ed.c))
          have htk2 := hide (show (ys.set i ed).take (i + 1) = ys.take i ++ [ed] by
            rw [List.take_succ_eq_append_getElem (by simpa using hiy), List.getElem_set_self]
            congr 1
            apply List.ext_getElem
            · simp
            · intro t h1 h2
              rw [List.length_take] at h2
              simp only [List.getElem_take]
              rw [List.getElem_set_ne (by omega)])
          replace hb5' := hide hb5'
          clear hb5 q0 q1 q2
          go_wp2
          go_roundw
          case rel => exact ⟨j + 1, i + 1, ys.set i ed, by omega, by omega, by go_num, by go_num, hide (by rw [List.length_set]; exact hyl.out), hide (by rw [htk.out, htk2.out, hins.out]), hide (fun t ht => by rw [List.getElem?_set_ne (by omega)]; exact htl.out t (by omega)), own6, hK6⟩
          case measure => simp [intOf]; omega
        | false =>
          simp only [Bool.false_eq_true, if_false] at htk
          go_wp2_with fail
          refine (hG.out _ ((Below.refl _ _).alloc (Nat.le_refl _) _)).mono ?_
          rintro e w5 ⟨rfl, hb5⟩
          have own5 := hide (own.out.stays (unalloc (hb5.mono (by simp)) (Nat.le_refl _)))
          have hK5 := hide (hK.out.trans (Keep.new (unalloc (hb5.mono (by simp)) (Nat.le_refl _) : Below wr.heap.size wr w5)))
          go_wp2
          go_roundw
          case rel => exact ⟨j + 1, i, ys, by omega, by omega, by go_num, by go_num, hyl, hide (by rw [htk.out]; exact hins.out), hide (fun t ht => htl.out t (by omega)), own5, hK5⟩
          case measure => simp [intOf]; omega
      · obtain rfl : j = m := by omega
        have hcl := fun ty => run_clearE wr ty g (i * 3) (j - i) (cn - i) (by omega) (fun t ht => by
          have hq : (i * 3 + t) / 3 < ys.length := by rw [hyl.out]; omega
          obtain ⟨q0, q1, q2⟩ := own.out.getE _ hq
          have : (i * 3 + t) % 3 = 0 ∨ (i * 3 + t) % 3 = 1 ∨ (i * 3 + t) % 3 = 2 := by omega
          rcases this with h | h | h
          · rw [show i * 3 + t = (i * 3 + t) / 3 * 3 by omega, q0]; rfl
          · rw [show i * 3 + t = (i * 3 + t) / 3 * 3 + 1 by omega, q1]; rfl
          · rw [show i * 3 + t = (i * 3 + t) / 3 * 3 + 2 by omega, q2]; rfl) (fun t _ => fr _)
        have hins2 := hins.out
        rw [List.take_of_length_le (by have := hm.out; omega)] at hins2
        have hpl := hide (show (insE W k es).length = i by rw [hins2, List.length_take]; have := hyl.out; omega)
        have hfin := hide (show Row encE 3 (wr.setCells g (i * 3) (zer (j - i))) (wr.setCells g (i * 3) (zer (j - i))).heap.size (some ⟨g, 0, none⟩) (insE W k es) ∧ Keep (fun j => j = g) w (wr.setCells g (i * 3) (zer (j - i))) from by
          have hk2 : Keep (fun j => j = g) w (wr.setCells g (i * 3) (zer (j - i))) := Keep.setCells (S := fun j => j = g) (b := g) rfl _ _ _ hK.out
          have hk3 : Keep (fun j => j = g) wr (wr.setCells g (i * 3) (zer (j - i))) := Keep.setCells (S := fun j => j = g) (b := g) rfl _ _ _ (Keep.refl _ _)
          refine ⟨?_, hk2⟩
          rw [hins2]
          intro t ht
          rw [List.length_take] at ht
          have hty : t < ys.length := by omega
          refine ⟨g, 0, rfl, Nat.lt_of_lt_of_le hgl hk3.size, fun x u hu => ?_⟩
          rw [List.getElem_take] at hu
          have hx : x < 3 := by have := (List.getElem?_eq_some_iff.1 hu).1; rw [lenE] at this; exact this
          rw [World.cell?_setCells_out g _ _ _ _ (fun _ _ => .inl (by simp; omega)), Nat.zero_add]
          exact own.out.get lenE t hty x u hu)
        have hij2 : i ≤ j := by omega
        have hic : i ≤ cn := by omega
        replace hfst := hide hfst
        go_wp2_with (simp only [hcl])
        go_ret
        exact ⟨some ⟨g, 0, none⟩, cn, by rw [hpl.out]; rfl, hfin.out.1, hfin.out.2.mono (fun t _ h => by subst h; rfl), fun b hb => by simpa [Value.ownBlock] using hb⟩
end Go.Proofs.Ytgkiipmeigfjnaa

/-! What the reference's Inside returns: the moves within squares. Conditions: right ground, squares of 1 to 8 a side. -/
namespace Go.Proofs.Ytgkiipmeigfjnaa
open Go.RowKit
set_option linter.unusedSimpArgs false
set_option linter.unusedVariables false
/-- a net handed back that reads -/
def NetRow (n : Int) (xs : List Ed) (w : World) (e : Ending) (w' : World) : Prop := ∃ a c, e = .returned (.agg #[.int .i64 n, .slice a xs.length c]) ∧ Row encE 3 w' w'.heap.size a xs ∧ Below w.heap.size w w'
theorem Row.keepS {S : Nat → Prop} {w w' : World} {a : Option Addr} {n c : Nat} {xs : List Ed} (hk : Keep S w w') (h : Row encE 3 w w.heap.size a xs) (hs : ∀ b, (Value.slice a n c).ownBlock = some b → ¬ S b) : Row encE 3 w' w'.heap.size a xs := by
  intro i hi
  obtain ⟨b, o, rfl, h2, h3⟩ := h i hi
  exact ⟨b, o, rfl, Nat.lt_of_lt_of_le h2 hk.size, fun j u hu => (hk.cell (by simpa using h2) (by simpa using hs b rfl)).trans (h3 j u hu)⟩
set_option maxRecDepth 100000 in
set_option maxHeartbeats 2000000 in
theorem inside_any (W H k : Int) (a : Option Addr) (cap : Nat) (cs : List Int) (w : World) (B : Nat) (hB : B ≤ w.heap.size) (hE : Row encI 1 w B a cs) (h0 : gridErr W H cs = 0) (hk : 1 ≤ k) (hk8 : k ≤ 8) (es : List Ed) (hes : gridNet W H cs cs.length = es) (hin : ∀ e ∈ es, 0 ≤ e.u ∧ e.u < 64 ∧ 0 ≤ e.v ∧ e.v < 64) (hel : es.length ≤ 512) :
    Calls Try.prog 59 #[.agg #[.int .i64 W, .int .i64 H, .slice a cs.length cap], .int .i64 k] w (NetRow (cs.length : Int) (insE W k es) w) := by
  have hbds := gridErr_ok h0
  have b1 := hbds.1
  have b2 := hbds.2.1
  have hcl := hbds.2.2.2.2.1
  have hO := hide (fun w B hB hE => by have := ofgrid_ok W H a cap cs w B hB hE h0; rw [hes, ← hcl] at this; exact this)
  have hDel := hide (fun bg bk an cn base w own hC hg hb => delf_any W H k a cs.length cap bg bk an cn es.length base es rfl w own hC hg hb b1 b2 hk hk8 hin hel)
  replace hE := hide hE
  obtain ⟨p, hp⟩ : ∃ p, p = (insE W k es).length := ⟨_, rfl⟩
  unfold DelBack at hDel
  unfold NetRow
  rw [← hp] at hDel ⊢
  replace hp := hide hp
  clear hbds hcl h0 hes hin
  go_enter Try.func59, Try.ntmps59
  go_wp2_with fail
  refine (hO.out _ B (by simp; omega) (hE.out.below ((by repeat (first | with_reducible exact Below.refl _ _ | with_reducible assumption | with_reducible refine up_drewN ?_ | with_reducible refine up_drew ?_ | (with_reducible refine up_alloc ?_ ?_; rotate_left; (first | omega | (simp <;> omega) | simp)) | (with_reducible refine up_set ?_ ?_; rotate_left; (first | omega | (simp <;> omega) | simp)) | (with_reducible refine Below.trans ?_ (Below.mono (by with_reducible assumption) ?_); rotate_left; (first | omega | (simp <;> omega) | simp)))) : Below w.heap.size w _) hB)).mono ?_
  rintro e w1 ⟨v, rfl, own, hb1⟩
  obtain ⟨an, cn, rfl⟩ := own.shape (n := es.length) rfl
  have hbl := hide (show ∀ b, (Value.slice an es.length cn).ownBlock = some b → w.heap.size + 1 + 1 < b ∧ b < w1.heap.size from fun b hb => by have := own.block_lt b hb; simp at this; omega)
  have hz1 := hb1.size
  simp at hz1
  have j0 : w1.cell? ⟨w.heap.size, 0, none⟩ = some (.int .i64 W) := cu_below hb1 (by simp [go_sem]) (by simp <;> omega)
  have j1 : w1.cell? ⟨w.heap.size, 1, none⟩ = some (.int .i64 H) := cu_below hb1 (by simp [go_sem]) (by simp <;> omega)
  have j2 : w1.cell? ⟨w.heap.size, 2, none⟩ = some (.slice a cs.length cap) := cu_below hb1 (by simp [go_sem]) (by simp <;> omega)
  have j3 : w1.cell? ⟨w.heap.size + 1, 0, none⟩ = some (.int .i64 k) := cu_below hb1 (by simp [go_sem]) (by simp <;> omega)
  have r0 : w1.cell? ⟨w.heap.size + 1 + 1, 0, none⟩ = some (.int .i64 0) := cu_below hb1 (by simp [go_sem]) (by simp <;> omega)
  have r1 : w1.cell? ⟨w.heap.size + 1 + 1, 1, none⟩ = some (.slice none 0 0) := cu_below hb1 (by simp [go_sem]) (by simp <;> omega)
  have rf0 : w1.frozen? ⟨w.heap.size + 1 + 1, 0, none⟩ = false := fu_below hb1 (by simp [go_sem]) (by simp <;> omega)
  have rf1 : w1.frozen? ⟨w.heap.size + 1 + 1, 1, none⟩ = false := fu_below hb1 (by simp [go_sem]) (by simp <;> omega)
  have hbw := hide (show Below w.heap.size w w1 from (by repeat (first | with_reducible exact Below.refl _ _ | with_reducible assumption | with_reducible refine up_drewN ?_ | with_reducible refine up_drew ?_ | (with_reducible refine up_alloc ?_ ?_; rotate_left; (first | omega | (simp <;> omega) | simp)) | (with_reducible refine up_set ?_ ?_; rotate_left; (first | omega | (simp <;> omega) | simp)) | (with_reducible refine Below.trans ?_ (Below.mono (by with_reducible assumption) ?_); rotate_left; (first | omega | (simp <;> omega) | simp)))))
  have hown2 := own.alloc (.cells #[.int .i64 (cs.length : Int), .slice an es.length cn] 24)
  simp only [World.size_alloc] at hown2
  have hDl := hide (hDel.out w.heap.size (w.heap.size + 1) an cn (w.heap.size + 1 + 1 + 1) _ hown2 ⟨cu_alloc j3, cu_alloc j0, cu_alloc j1, cu_alloc j2, cu_alloc j3⟩ (by omega) (by omega))
  replace own := hide own
  clear hb1 hO hDel hown2
  have z1 : w.heap.size < w1.heap.size := by omega
  have z2 : w.heap.size + 1 < w1.heap.size := by omega
  have z3 : w.heap.size + 1 + 1 < w1.heap.size := by omega
  go_wp2_with fail
  refine hDl.out.mono ?_
  rintro e w3 ⟨a3, c3, rfl, hr3, hk3, hb3⟩
  have D0 := hk3.cu (show (w1.alloc (.cells #[.int .i64 (cs.length : Int), .slice an es.length cn] 24)).cell? ⟨w1.heap.size, 0, none⟩ = some (.int .i64 (cs.length : Int)) by simp [go_sem]) (fun e => by have := (hbl.out _ e).2; simp at this)
  have D1 := hk3.cu (show (w1.alloc (.cells #[.int .i64 (cs.length : Int), .slice an es.length cn] 24)).cell? ⟨w1.heap.size, 1, none⟩ = some (.slice an es.length cn) by simp [go_sem]) (fun e => by have := (hbl.out _ e).2; simp at this)
  have Df : w3.frozen? ⟨w1.heap.size, 1, none⟩ = false := (hk3.frozen (p := ⟨w1.heap.size, 1, none⟩) (by simp) (fun e => by have := (hbl.out _ e).2; simp at this)).trans (show (w1.alloc (.cells #[.int .i64 (cs.length : Int), .slice an es.length cn] 24)).frozen? ⟨w1.heap.size, 1, none⟩ = false by simp [go_sem])
  have R0 := hk3.cu (cu_alloc (o := .cells #[.int .i64 (cs.length : Int), .slice an es.length cn] 24) r0) (fun e => by have := (hbl.out _ e).1; simp at this)
  have R1 := hk3.cu (cu_alloc (o := .cells #[.int .i64 (cs.length : Int), .slice an es.length cn] 24) r1) (fun e => by have := (hbl.out _ e).1; simp at this)
  have F0 := (hk3.frozen (p := ⟨w.heap.size + 1 + 1, 0, none⟩) (by simp; omega) (fun e => by have := (hbl.out _ e).1; simp at this)).trans (fu_alloc rf0)
  have F1 := (hk3.frozen (p := ⟨w.heap.size + 1 + 1, 1, none⟩) (by simp; omega) (fun e => by have := (hbl.out _ e).1; simp at this)).trans (fu_alloc rf1)
  have hz3 : w1.heap.size < w3.heap.size := by have := cell_lt D0; simpa using this
  have z4 : w.heap.size + 1 + 1 < w3.heap.size := by omega
  have hfin := hide (show ∀ w', Keep (fun j => j = w1.heap.size ∨ j = w.heap.size + 1 + 1) w3 w' → Row encE 3 w' w'.heap.size a3 (insE W k es) ∧ Below w.heap.size w w' from fun w' hkw => by
    refine ⟨hr3.keepS (n := p) (c := c3) hkw (fun b hb e => by have := hbl.out b (hb3 b hb); omega), ?_⟩
    have h1 : Below w.heap.size w (w1.alloc (.cells #[.int .i64 (cs.length : Int), .slice an es.length cn] 24)) := up_alloc hbw.out (by omega)
    have h2 := hk3.toBelow (B := w.heap.size) (fun j e => by have := (hbl.out _ e).1; omega) (by simp; omega)
    have h3 := hkw.toBelow (B := w.heap.size) (fun j e => by omega) (by omega)
    exact h1.trans (h2.trans h3))
  replace hr3 := hide hr3
  replace hk3 := hide hk3
  replace hb3 := hide hb3
  clear j0 j1 j2 j3 r0 r1 rf0 rf1
  go_wp2
  have hh := hfin.out (((w3.setCell ⟨w1.heap.size, 1, none⟩ (.slice a3 p c3)).setCell ⟨w.heap.size + 1 + 1, 0, none⟩ (.int .i64 (cs.length : Int))).setCell ⟨w.heap.size + 1 + 1, 1, none⟩ (.slice a3 p c3)) ((((Keep.refl (fun j => j = w1.heap.size ∨ j = w.heap.size + 1 + 1) w3).setCell (.inl (.inl rfl)) _).setCell (.inl (.inr rfl)) _).setCell (.inl (.inr rfl)) _)
  refine bodyPost_ret (v := .agg #[.int .i64 (cs.length : Int), .slice a3 p c3]) (by simp [results, Try.results59, go_sem, R0, R1]) rfl ⟨a3, c3, rfl, hh.1, hh.2⟩
end Go.Proofs.Ytgkiipmeigfjnaa

/-! Doors alone: with what each costs from the other within its square, and the moves between squares, it costs the same as on all moves. No program here. -/
namespace Go.Proofs.Ytgkiipmeigfjnaa
set_option linter.unusedVariables false

/-- a walk of some of the edges undercuts no bound that all edges keep -/
theorem at_more {E E' : List NE} {g : Nat → Int} {a : Nat} (hs : ∀ e ∈ E', e ∈ E) (hp : ∀ e ∈ E, 0 ≤ e.c) (hg : Feas E g) (hF : ∀ v, g v ≤ FAR) (ha : g a < FAR) {v : Nat} {x : Int} (h : At E' (stF a) v x) : 0 ≤ x ∧ g v ≤ g a + x := by
  induction h with
  | base v hv =>
    obtain rfl := stF_zero hv
    rw [stF_self]
    omega
  | step e x he h hx hy ih =>
    have hc := hp e (hs e he)
    have h1 := hF e.v
    refine ⟨by omega, ?_⟩
    rcases Int.lt_or_le (g e.u) FAR with h2 | h2
    · have := hg e (hs e he) h2
      omega
    · have := hF e.u
      omega
/-- the doors' net: from door to door within squares, and between squares -/
def absE (n : Nat) (D : Nat → Bool) (dI : Nat → Nat → Int) (bt : List NE) : List NE := ((List.range n).flatMap fun a => if D a = true then ((List.range n).filter fun b => decide (b ≠ a) && D b && decide (dI a b < FAR)).map (fun b => (⟨a, b, dI a b⟩ : NE)) else []) ++ bt
theorem absE_mem {n : Nat} {D : Nat → Bool} {dI : Nat → Nat → Int} {bt : List NE} {e : NE} : e ∈ absE n D dI bt ↔ (e.u < n ∧ e.v < n ∧ D e.u = true ∧ D e.v = true ∧ e.v ≠ e.u ∧ dI e.u e.v < FAR ∧ e.c = dI e.u e.v) ∨ e ∈ bt := by
  unfold absE
  rw [List.mem_append, List.mem_flatMap]
  refine or_congr ?_ Iff.rfl
  constructor
  · rintro ⟨a, ha, he⟩
    by_cases hD : D a = true
    · rw [if_pos hD] at he
      obtain ⟨b, hb, rfl⟩ := List.mem_map.1 he
      simp only [List.mem_filter, List.mem_range, Bool.and_eq_true, decide_eq_true_eq] at hb
      exact ⟨List.mem_range.1 ha, hb.1, hD, hb.2.1.2, hb.2.1.1, hb.2.2, rfl⟩
    · rw [if_neg hD] at he; cases he
  · rintro ⟨h1, h2, h3, h4, h5, h6, h7⟩
    refine ⟨e.u, List.mem_range.2 h1, ?_⟩
    rw [if_pos h3]
    refine List.mem_map.2 ⟨e.v, ?_, ?_⟩
    · simp only [List.mem_filter, List.mem_range, Bool.and_eq_true, decide_eq_true_eq]
      exact ⟨h2, ⟨h5, h4⟩, h6⟩
    · rw [← h7]
/-- what costs from one place are: bounded, undercut by no edge, each that is less than Far a walk's -/
structure Least (E : List NE) (a : Nat) (f : Nat → Int) : Prop where
  feas : Feas E f
  att : Att E (stF a) f
theorem Least.far {E : List NE} {a : Nat} {f : Nat → Int} (h : Least E a f) (v : Nat) : f v ≤ FAR := Int.le_trans (h.att v).1 (stF_far a v)
theorem Least.self {E : List NE} {a : Nat} {f : Nat → Int} (h : Least E a f) : f a ≤ 0 := by have := (h.att a).1; rwa [stF_self] at this
theorem least_is {n : Nat} {E : List NE} {a : Nat} (hE : ∀ e ∈ E, e.u < n ∧ e.v < n ∧ 1 ≤ e.c) (ha : a < n) : Least E a (spread E (stF a) (n - 1)) := ⟨fun e he hl => (spread_feas hE ha).1 e he hl, spread_att E (stF a) (stF_far a) (n - 1)⟩
theorem doors_same {n : Nat} {E EI bt : List NE} {D : Nat → Bool} {dI : Nat → Nat → Int} {a t : Nat} {fA fE : Nat → Int} (hE : ∀ e ∈ E, e.u < n ∧ e.v < n ∧ 1 ≤ e.c) (hI : ∀ e ∈ EI, e ∈ E) (hB : ∀ e ∈ bt, e ∈ E) (hS : ∀ e ∈ E, e ∈ EI ∨ e ∈ bt)
    (hD : ∀ e ∈ bt, D e.u = true ∧ D e.v = true) (hL : ∀ d, d < n → Least EI d (dI d)) (hpos : ∀ d v, d < n → 0 ≤ dI d v) (hA : Least (absE n D dI bt) a fA) (hF : Least E a fE) (han : a < n) (htn : t < n) (hDa : D a = true) (hDt : D t = true) : fA t = fE t := by
  have hp : ∀ e ∈ E, 0 ≤ e.c := fun e he => by have := hE e he; omega
  have le1 : fE t ≤ fA t := by
    have hfe : Feas (absE n D dI bt) fE := fun e he hl => by
      rcases absE_mem.1 he with ⟨h1, h2, h3, h4, h5, h6, h7⟩ | hb
      · have := (at_more hI hp hF.feas hF.far hl (((hL e.u h1).att e.v).2 h6)).2
        omega
      · exact hF.feas e (hB e hb) hl
    rcases Int.lt_or_le (fA t) FAR with h | h
    · exact at_ge hfe (fun v => (hF.att v).1) ((hA.att t).2 h)
    · have := hF.far t
      omega
  -- from a door on to another
  have hop : ∀ d v, d < n → v < n → D d = true → D v = true → fA d < FAR → dI d v < FAR → fA v ≤ fA d + dI d v := fun d v hd hv hDd hDv h1 h2 => by
    by_cases e : v = d
    · subst e; have := hpos v v hd; omega
    · exact hA.feas ⟨d, v, dI d v⟩ (absE_mem.2 (.inl ⟨hd, hv, hDd, hDv, e, h2, rfl⟩)) h1
  have key : ∀ {v : Nat} {x : Int}, At E (stF a) v x → ∃ d, d < n ∧ D d = true ∧ fA d < FAR ∧ dI d v < FAR ∧ fA d + dI d v ≤ x := by
    intro v x h
    induction h with
    | base v hv =>
      obtain rfl := stF_zero hv
      rw [stF_self]
      have h1 := hA.self
      have h2 := (hL v han).self
      exact ⟨v, han, hDa, by unfold FAR; omega, by unfold FAR; omega, by omega⟩
    | step e x he h hx hy ih =>
      obtain ⟨d, hd, hDd, h1, h2, h3⟩ := ih
      obtain ⟨b1, b2, b3⟩ := hE e he
      have hpd := hpos d e.u hd
      have hp0 : ∀ v, v < n → 0 ≤ dI v v := fun v hv => hpos v v hv
      rcases hS e he with hin | hbt
      · have := (hL d hd).feas e hin h2
        refine ⟨d, hd, hDd, h1, ?_, by omega⟩
        have h4 : fE d ≤ fE d := Int.le_refl _
        have hA0 : 0 ≤ fA d := by
          have hf0 : Feas (absE n D dI bt) (fun _ => 0) := fun e he _ => by
            rcases absE_mem.1 he with ⟨g1, _, _, _, _, _, g7⟩ | hb
            · have := hpos e.u e.v g1; simp only; omega
            · have := hp e (hB e hb); simp only; omega
          exact at_ge (f := fun _ => 0) hf0 (fun v => by unfold stF; split <;> simp [FAR]) ((hA.att d).2 h1)
        omega
      · obtain ⟨hDu, hDv⟩ := hD e hbt
        have h4 := hop d e.u hd b1 hDd hDu h1 h2
        have h5 := hA.feas e (absE_mem.2 (.inr hbt)) (by omega)
        have h6 := (hL e.v b2).self
        exact ⟨e.v, b2, hDv, by omega, by unfold FAR; omega, by omega⟩
  rcases Int.lt_or_le (fE t) FAR with h | h
  · obtain ⟨d, hd, hDd, h1, h2, h3⟩ := key ((hF.att t).2 h)
    have := hop d t hd htn hDd hDt h1 h2
    omega
  · have := hA.far t
    omega
end Go.Proofs.Ytgkiipmeigfjnaa

/-! The doors' net as a list of edges, and that it measures what the grid's net measures. Plain theory. -/
namespace Go.Proofs.Ytgkiipmeigfjnaa
open Go.RowKit
set_option linter.unusedSimpArgs false
set_option linter.unusedVariables false
/-- edges from a to the other doors of the first b -/
def abRow (D : Nat → Bool) (f : Nat → Int) (a b : Nat) : List Ed := ((List.range b).filter fun v => decide (v ≠ a) && D v && decide (f v < FAR)).map fun (v : Nat) => (⟨(a : Int), (v : Int), f v⟩ : Ed)
theorem abRow_succ (D : Nat → Bool) (f : Nat → Int) (a b : Nat) : abRow D f a (b + 1) = if (decide (b ≠ a) && D b && decide (f b < FAR)) = true then abRow D f a b ++ [⟨(a : Int), (b : Int), f b⟩] else abRow D f a b := by
  unfold abRow
  rw [List.range_succ, List.filter_append, List.map_append, List.filter_cons]
  by_cases h : (decide (b ≠ a) && D b && decide (f b < FAR)) = true
  · rw [if_pos h, if_pos h]; rfl
  · rw [if_neg h, if_neg h]; simp
theorem abRow_len (D : Nat → Bool) (f : Nat → Int) (a b : Nat) : (abRow D f a b).length ≤ b := by
  unfold abRow
  rw [List.length_map]
  exact Nat.le_trans (List.length_filter_le _ _) (by simp)
def abAll (D : Nat → Bool) (dI : Nat → Nat → Int) (n m : Nat) : List Ed := (List.range m).flatMap fun a => if D a = true then abRow D (dI a) a n else []
theorem abAll_succ (D : Nat → Bool) (dI : Nat → Nat → Int) (n m : Nat) : abAll D dI n (m + 1) = if D m = true then abAll D dI n m ++ abRow D (dI m) m n else abAll D dI n m := by
  unfold abAll
  rw [List.range_succ, List.flatMap_append]
  by_cases h : D m = true
  · rw [if_pos h]; simp [h]
  · rw [if_neg h]; simp [h]
theorem abAll_len (D : Nat → Bool) (dI : Nat → Nat → Int) {n : Nat} (hn : n ≤ 64) : ∀ m, (abAll D dI n m).length ≤ 64 * m
  | 0 => by simp [abAll]
  | m + 1 => by
    rw [abAll_succ]
    have ih := abAll_len D dI hn m
    have := abRow_len D (dI m) m n
    split
    · rw [List.length_append]; omega
    · omega
theorem nes_app (a b : List Ed) : nes (a ++ b) = nes a ++ nes b := by unfold nes; rw [List.map_append]
theorem nes_abRow (D : Nat → Bool) (f : Nat → Int) (a b : Nat) : nes (abRow D f a b) = ((List.range b).filter fun v => decide (v ≠ a) && D v && decide (f v < FAR)).map fun v => (⟨a, v, f v⟩ : NE) := by
  unfold nes abRow
  rw [List.map_map]
  apply List.map_congr_left
  intro v _
  simp
/-- the whole net of doors -/
def absL (n : Nat) (D : Nat → Bool) (dI : Nat → Nat → Int) (bt : List Ed) : List Ed := abAll D dI n n ++ bt
theorem nes_absL (n : Nat) (D : Nat → Bool) (dI : Nat → Nat → Int) (bt : List Ed) : nes (absL n D dI bt) = absE n D dI (nes bt) := by
  unfold absL absE
  rw [nes_app]
  congr 1
  have : ∀ m, nes (abAll D dI n m) = (List.range m).flatMap fun a => if D a = true then ((List.range n).filter fun b => decide (b ≠ a) && D b && decide (dI a b < FAR)).map (fun b => (⟨a, b, dI a b⟩ : NE)) else [] := by
    intro m
    induction m with
    | zero => rfl
    | succ m ih =>
      rw [abAll_succ, List.range_succ, List.flatMap_append, ← ih]
      by_cases h : D m = true
      · rw [if_pos h, nes_app, nes_abRow]; simp [h]
      · rw [if_neg h]; simp [h]
  exact this n
theorem foldE_top (K T : Int) (hK : 0 ≤ K) (d : Nat → Int) (hd : ∀ v, d v < FAR → d v ≤ T) : ∀ (es : List NE) (nx : Nat → Int), (∀ e ∈ es, e.c ≤ K) → (∀ v, nx v < FAR → nx v ≤ T + K) → ∀ v, es.foldl (spreadE d) nx v < FAR → es.foldl (spreadE d) nx v ≤ T + K
  | [], _, _, hn, v, h => hn v h
  | e :: r, nx, hE, hn, v, h => by
    refine foldE_top K T hK d hd r _ (fun e he => hE e (List.mem_cons_of_mem _ he)) (fun u hu => ?_) v h
    have hc := hE e (List.mem_cons_self ..)
    unfold spreadE at hu ⊢
    by_cases q : d e.u < FAR
    · rw [if_pos q] at hu ⊢
      by_cases hv : u = e.v
      · subst hv
        rw [upz_same]
        have := hd e.u q
        have := Int.min_le_right (nx e.v) (d e.u + e.c)
        omega
      · rw [upz_other _ _ hv] at hu ⊢; exact hn u hu
    · rw [if_neg q] at hu ⊢; exact hn u hu
theorem spread_top {E : List NE} {a : Nat} (hE : ∀ e ∈ E, e.c ≤ 126) : ∀ (t : Nat) (v : Nat), spread E (stF a) t v < FAR → spread E (stF a) t v ≤ 126 * (t : Int)
  | 0, v, h => by
    change stF a v < FAR at h
    change stF a v ≤ _
    unfold stF at h ⊢
    split
    · omega
    · rename_i q; rw [if_neg q] at h; exact absurd h (by omega)
  | t + 1, v, h => by
    have ih := spread_top (a := a) hE t
    have := foldE_top 126 (126 * (t : Int)) (by omega) (spread E (stF a) t) ih E (spread E (stF a) t) hE (fun u hu => by have := ih u hu; omega) v h
    have e : spread E (stF a) (t + 1) v = E.foldl (spreadE (spread E (stF a) t)) (spread E (stF a) t) v := rfl
    rw [e]
    push_cast
    omega
theorem at_up {E : List NE} {d : Nat} (hE : ∀ e ∈ E, 1 ≤ e.c) {v : Nat} {x : Int} (h : At E (stF d) v x) : 0 ≤ x ∧ (v ≠ d → 1 ≤ x) := by
  induction h with
  | base v hv =>
    obtain rfl := stF_zero hv
    rw [stF_self]
    exact ⟨by omega, fun h => absurd rfl h⟩
  | step e x he h hx hy ih =>
    have := hE e he
    exact ⟨by omega, fun _ => by omega⟩
theorem spread_ge1 {E : List NE} {d : Nat} (hE : ∀ e ∈ E, 1 ≤ e.c) (t v : Nat) : 0 ≤ spread E (stF d) t v ∧ (v ≠ d → 1 ≤ spread E (stF d) t v) := by
  rcases Int.lt_or_le (spread E (stF d) t v) FAR with h | h
  · exact at_up hE ((spread_att E (stF d) (stF_far d) t v).2 h)
  · unfold FAR at h; omega
/-- edges as those of a grid's net -/
def GrE (n : Nat) (es : List Ed) : Prop := ∀ e ∈ es, 0 ≤ e.u ∧ e.u < (n : Int) ∧ 0 ≤ e.v ∧ e.v < (n : Int) ∧ 1 ≤ e.c ∧ e.c ≤ 126
theorem GrE.ins {n : Nat} {es : List Ed} (h : GrE n es) (W k : Int) : GrE n (insE W k es) := fun e he => h e (List.mem_filter.1 he).1
theorem GrE.bet {n : Nat} {es : List Ed} (h : GrE n es) (W k : Int) : GrE n (betE W k es) := fun e he => h e (List.mem_filter.1 he).1
theorem GrE.toNes {n : Nat} {es : List Ed} (h : GrE n es) : ∀ e ∈ nes es, e.u < n ∧ e.v < n ∧ 1 ≤ e.c := by
  intro e he
  obtain ⟨x, hx, rfl⟩ := nes_mem he
  have := h x hx
  simp only
  omega
theorem GrE.dist {n : Nat} {es : List Ed} (h : GrE n es) (hn : n ≤ 64) {d v : Nat} (hd : d < n) (hv : v < n) : 0 ≤ distF n es d v ∧ (distF n es d v < FAR → distF n es d v ≤ 8000) := by
  refine ⟨(spread_feas h.toNes hd).2 v hv, fun hl => ?_⟩
  have := spread_top (a := d) (E := nes es) (fun e he => by obtain ⟨x, hx, rfl⟩ := nes_mem he; exact (h x hx).2.2.2.2.2) (n - 1) v hl
  unfold distF
  omega
theorem absL_ok {n : Nat} {D : Nat → Bool} {es bt : List Ed} (hI : GrE n es) (hb : GrE n bt) (hn : n ≤ 64) : ∀ e ∈ absL n D (distF n es) bt, 0 ≤ e.u ∧ e.u < (n : Int) ∧ 0 ≤ e.v ∧ e.v < (n : Int) ∧ 0 ≤ e.c ∧ e.c ≤ 8000 := by
  intro e he
  rcases List.mem_append.1 he with h | h
  · unfold abAll at h
    obtain ⟨a, ha, h⟩ := List.mem_flatMap.1 h
    have ha := List.mem_range.1 ha
    by_cases q : D a = true
    · rw [if_pos q] at h
      obtain ⟨v, hv, rfl⟩ := List.mem_map.1 h
      simp only [List.mem_filter, List.mem_range, Bool.and_eq_true, decide_eq_true_eq] at hv
      have := hI.dist hn ha hv.1
      have := this.2 hv.2.2
      simp only
      omega
    · rw [if_neg q] at h; cases h
  · have := hb e h; omega
theorem absL_right {n : Nat} {D : Nat → Bool} {es bt : List Ed} (hI : GrE n es) (hb : GrE n bt) (hn : n ≤ 64) : RightK 9000000 n (absL n D (distF n es) bt) := fun e he => by have := absL_ok hI hb hn e he; omega
theorem GrE.right {n : Nat} {es : List Ed} (h : GrE n es) : Right n es := fun e he => by have := h e he; omega
theorem dr_mem {bt : List Ed} {n : Nat} (hb : GrE n bt) : ∀ e ∈ nes bt, dr bt e.u = true ∧ dr bt e.v = true := by
  intro e he
  obtain ⟨x, hx, rfl⟩ := nes_mem he
  have h := hb x hx
  unfold dr
  refine ⟨List.any_eq_true.2 ⟨x, hx, ?_⟩, List.any_eq_true.2 ⟨x, hx, ?_⟩⟩
  · unfold isEnd; simp; left; omega
  · unfold isEnd; simp; right; omega
/-- what is asked: over the doors' net the costs are those of the whole net -/
theorem doors_dist {n : Nat} {es : List Ed} (hE : GrE n es) (hn : n ≤ 64) (W k : Int) {x y : Nat} (hx : x < n) (hy : y < n) :
    distF n (absL n (upz (upz (dr (betE W k es)) x true) y true) (distF n (insE W k es)) (betE W k es)) x y = distF n es x y := by
  have hup : ∀ v, dr (betE W k es) v = true → upz (upz (dr (betE W k es)) x true) y true v = true := fun v h => by
    unfold upz
    split
    · rfl
    · split
      · rfl
      · exact h
  have hmem : ∀ {p : Ed → Bool} (e : NE), e ∈ nes (es.filter p) → e ∈ nes es := fun e he => by
    obtain ⟨z, hz, rfl⟩ := nes_mem he
    exact List.mem_map.2 ⟨z, (List.mem_filter.1 hz).1, rfl⟩
  have hA : Least (absE n (upz (upz (dr (betE W k es)) x true) y true) (distF n (insE W k es)) (nes (betE W k es))) x (distF n (absL n (upz (upz (dr (betE W k es)) x true) y true) (distF n (insE W k es)) (betE W k es)) x) := by
    unfold distF
    rw [nes_absL]
    refine least_is (fun e he => ?_) hx
    rcases absE_mem.1 he with ⟨g1, g2, _, _, g5, g6, g7⟩ | hb
    · refine ⟨g1, g2, ?_⟩
      rw [g7]
      exact (spread_ge1 (fun e he => ((hE.ins W k).toNes e he).2.2) (n - 1) e.v).2 g5
    · exact (hE.bet W k).toNes e hb
  refine doors_same (E := nes es) (EI := nes (insE W k es)) (bt := nes (betE W k es)) (D := upz (upz (dr (betE W k es)) x true) y true) (dI := distF n (insE W k es)) hE.toNes (fun e he => hmem e he) (fun e he => hmem e he) (fun e he => ?_) (fun e he => ?_) (fun d hd => ?_) (fun d v hd => ?_) hA ?_ hx hy ?_ ?_
  · obtain ⟨z, hz, rfl⟩ := nes_mem he
    by_cases q : sameSq W k z = true
    · exact .inl (List.mem_map.2 ⟨z, List.mem_filter.2 ⟨hz, q⟩, rfl⟩)
    · exact .inr (List.mem_map.2 ⟨z, List.mem_filter.2 ⟨hz, by simpa using q⟩, rfl⟩)
  · have := dr_mem (hE.bet W k) e he
    exact ⟨hup _ this.1, hup _ this.2⟩
  · exact least_is (hE.ins W k).toNes hd
  · exact (spread_ge1 (fun e he => ((hE.ins W k).toNes e he).2.2) (n - 1) v).1
  · exact least_is hE.toNes hx
  · unfold upz; split
    · rfl
    · simp
  · unfold upz; simp
end Go.Proofs.Ytgkiipmeigfjnaa

/-! What hier.abstract returns: the doors' net. Conditions: right ground, squares of 1 to 8 a side, two more places on the ground. -/
namespace Go.Proofs.Ytgkiipmeigfjnaa
open Go.RowKit
set_option linter.unusedSimpArgs false
set_option linter.unusedVariables false
/-- a net that grows in block p: w2 the world at the start; v5, w5 its slice and the world at the start of the row at hand -/
structure Ab (eo : TypeId) (p : Nat) (n : Int) (w2 : World) (v5 : Value) (w5 : World) (v : Value) (xs : List Ed) (wr : World) : Prop where
  c0 : wr.cell? ⟨p, 0, none⟩ = some (.int .i64 n)
  c1 : wr.cell? ⟨p, 1, none⟩ = some v
  f0 : ∀ o, wr.frozen? ⟨p, o, none⟩ = false
  o1 : Own encE 3 eo wr w2.heap.size v xs
  kp : Keep (fun j => j = p) w2 wr
  lp : p < w2.heap.size
  at' : ∀ k, v.ownBlock = some k → v5.ownBlock = some k ∨ w5.heap.size ≤ k
  kq : Keep (fun j => j = p ∨ v5.ownBlock = some j) w5 wr
section
variable {eo : TypeId} {p : Nat} {n : Int} {w2 w5 wr w' : World} {v v5 v' : Value} {xs : List Ed} {y : Ed}
theorem Ab.stays (h : Ab eo p n w2 v5 w5 v xs wr) (b : Below wr.heap.size wr w') : Ab eo p n w2 v5 w5 v xs w' :=
  have a1 := cell_lt h.c0
  ⟨cu_below b h.c0 a1, cu_below b h.c1 a1, fun o => fu_below b (h.f0 o) a1, h.o1.stays b, h.kp.trans (Keep.new b), h.lp, h.at', h.kq.trans (Keep.new b)⟩
theorem Ab.start (h : Ab eo p n w2 v5 w5 v xs wr) : Ab eo p n w2 v wr v xs wr :=
  ⟨h.c0, h.c1, h.f0, h.o1, h.kp, h.lp, fun _ h => .inl h, Keep.refl _ _⟩
theorem Ab.grew (h : Ab eo p n w2 v5 w5 v xs wr) {ys : List Ed} {wo : World} (hwo : Keep (fun j => v.ownBlock = some j) wr wo) (own : Own encE 3 eo w' w2.heap.size v' ys) (hg : wo.grownBy w' v.ownBlock) (hat : ∀ k, v'.ownBlock = some k → v.ownBlock = some k ∨ wr.heap.size ≤ k) :
    Ab eo p n w2 v5 w5 v' ys (w'.setCell ⟨p, 1, none⟩ v') := by
  have hk : Keep (fun j => v.ownBlock = some j) wr w' := hwo.grown hg (fun k hk => .inl hk)
  have b1 := h.o1.block_lt
  have a1 := h.lp
  have n1 : v.ownBlock ≠ some p := fun e => by have := (b1 p e).1; omega
  have z1 : p < wr.heap.size := cell_lt h.c0
  have c1' := hk.cu h.c1 n1
  refine ⟨cu_set_off (hk.cu h.c0 n1) (by omega), World.cell?_setCell_same _ _ _ c1', fun o => fu_set ((hk.frozen z1 n1).trans (h.f0 o)), own.elsewhere (fun e => by have := (own.block_lt _ e).1; simp at this; omega) _, ?_, a1, ?_, ?_⟩
  · have h2 : Keep (fun j => j = p) w2 w' := by
      refine h.kp.trans2 hk ?_
      exact fun j e => by have := (b1 j e).1; omega
    exact h2.setCell (.inl rfl) _
  · intro k e
    rcases hat k e with e3 | e3
    · exact h.at' k e3
    · have := h.kq.size; omega
  · have h2 : Keep (fun j => j = p ∨ v5.ownBlock = some j) w5 w' := by
      refine h.kq.trans2 hk ?_
      intro j e
      rcases h.at' j e with e3 | e3
      · exact .inl (.inr e3)
      · exact .inr e3
    exact h2.setCell (.inl (.inl rfl)) _
end
/-- the marks, when j of the two places are marked -/
def mk2 (f : Nat → Bool) (x y : Nat) : Nat → Nat → Bool
  | 0 => f
  | 1 => upz f x true
  | _ => upz (upz f x true) y true
set_option maxRecDepth 100000 in
set_option maxHeartbeats 8000000 in
theorem abstract_gen (W H k : Int) (a : Option Addr) (cap n x y : Nat) (tb ct : Nat) (ins bt : List Ed) (w : World) (B : Nat) (hB : B ≤ w.heap.size) (nc : Nat) (cs : List Int) (hE : Row encI 1 w B a cs) (T0 : w.cell? ⟨tb, 0, none⟩ = some (.int .i64 (x : Int))) (T1 : w.cell? ⟨tb, 1, none⟩ = some (.int .i64 (y : Int))) (hx : x < n) (hy : y < n)
    (hn1 : 1 ≤ n) (hn : n ≤ 64) (hgi : GrE n ins) (hgb : GrE n bt) (hli : ins.length ≤ 512) (hlb : bt.length ≤ 512)
    (hW : ∀ w B, B ≤ w.heap.size → Row encI 1 w B a cs → Calls Try.prog 83 #[.agg #[.int .i64 W, .int .i64 H, .slice a nc cap], .int .i64 k] w (TwoNets (n : Int) ins bt w)) :
    Calls Try.prog 123 #[.agg #[.int .i64 W, .int .i64 H, .slice a nc cap], .int .i64 k, (.slice (some ⟨tb, 0, none⟩) 2 ct)] w (NetRow (n : Int) (absL n (upz (upz (dr bt) x true) y true) (distF n ins) bt) w) := by
  have hRun := fun (v : Nat) (hv : v < n) (a1 : Option Addr) (c1 : Nat) (w : World) (B : Nat) hB hE => run_gen n a1 c1 ins v w B hB hE hn1 hn (by omega) (fun e he => by have := hgi e he; omega) (fun e he => by have := hgi e he; omega) hv
  have hDo := fun (a2 : Option Addr) (c2 : Nat) (w : World) (B : Nat) hB hE => doors_any n a2 c2 bt.length bt rfl w B hB hE hn1 hn (fun e he => by have := hgb e he; omega) hlb
  unfold TwoNets at hW
  obtain ⟨mi, hmi⟩ : ∃ mi, mi = ins.length := ⟨_, rfl⟩
  obtain ⟨mb, hmb⟩ : ∃ mb, mb = bt.length := ⟨_, rfl⟩
  simp only [← hmi, ← hmb] at hRun hDo hW hli hlb
  obtain ⟨D, hD⟩ : ∃ D, D = upz (upz (dr bt) x true) y true := ⟨_, rfl⟩
  rw [← hD]
  obtain ⟨L, hL⟩ : ∃ L, L = absL n D (distF n ins) bt := ⟨_, rfl⟩
  rw [← hL]
  have hdist := hide (fun (d v : Nat) (hd : d < n) (hv : v < n) => hgi.dist hn hd hv)
  have hgb' := hide hgb
  replace hRun := hide hRun
  replace hDo := hide hDo
  replace hW := hide hW
  replace hmi := hide hmi
  replace hmb := hide hmb
  replace hD := hide hD
  replace hL := hide hL
  replace hE := hide hE
  clear hgi hgb
  go_enter Try.func123, Try.ntmps123
  go_wp2_with fail
  refine (hW.out _ B (by simp; omega) (hE.out.below ((by repeat (first | with_reducible exact Below.refl _ _ | with_reducible assumption | with_reducible refine up_drewN ?_ | with_reducible refine up_drew ?_ | (with_reducible refine up_alloc ?_ ?_; rotate_left; (first | omega | (simp <;> omega) | simp)) | (with_reducible refine up_set ?_ ?_; rotate_left; (first | omega | (simp <;> omega) | simp)) | (with_reducible refine Below.trans ?_ (Below.mono (by with_reducible assumption) ?_); rotate_left; (first | omega | (simp <;> omega) | simp)))) : Below w.heap.size w _) hB)).mono ?_
  rintro e w1 ⟨a1, c1, a2, c2, rfl, hr1, hr2, hb1⟩
  have hz1 := hb1.size
  simp at hz1
  have r0 : w1.cell? ⟨w.heap.size + 1, 0, none⟩ = some (.int .i64 0) := cu_below hb1 (by simp [go_sem]) (by simp <;> omega)
  have r1 : w1.cell? ⟨w.heap.size + 1, 1, none⟩ = some (.slice none 0 0) := cu_below hb1 (by simp [go_sem]) (by simp <;> omega)
  have rf0 : w1.frozen? ⟨w.heap.size + 1, 0, none⟩ = false := fu_below hb1 (by simp [go_sem]) (by simp <;> omega)
  have rf1 : w1.frozen? ⟨w.heap.size + 1, 1, none⟩ = false := fu_below hb1 (by simp [go_sem]) (by simp <;> omega)
  have hbw1 := hide (show Below w.heap.size w w1 from (by repeat (first | with_reducible exact Below.refl _ _ | with_reducible assumption | with_reducible refine up_drewN ?_ | with_reducible refine up_drew ?_ | (with_reducible refine up_alloc ?_ ?_; rotate_left; (first | omega | (simp <;> omega) | simp)) | (with_reducible refine up_set ?_ ?_; rotate_left; (first | omega | (simp <;> omega) | simp)) | (with_reducible refine Below.trans ?_ (Below.mono (by with_reducible assumption) ?_); rotate_left; (first | omega | (simp <;> omega) | simp)))))
  have hzp : w.heap.size + 1 < w1.heap.size := by omega
  replace hr1 := hide hr1
  replace hr2 := hide hr2
  clear hb1
  go_wp2_with fail
  refine (hDo.out a2 c2 _ w1.heap.size (by simp; omega) (hr2.out.below (up_alloc (up_alloc (Below.refl _ _) (Nat.le_refl _)) (by simp) : Below w1.heap.size w1 _) (Nat.le_refl _))).mono ?_
  rintro e w3 ⟨g, rfl, own3, hb3⟩
  have hz3 := hb3.size
  simp at hz3
  have hg0 := own3.at_base.1
  simp at hg0
  have hgl := own3.at_base.2
  have I0 : w3.cell? ⟨w1.heap.size, 0, none⟩ = some (.int .i64 (n : Int)) := cu_below hb3 (by simp [go_sem]) (by simp <;> omega)
  have I1 : w3.cell? ⟨w1.heap.size, 1, none⟩ = some (.slice a1 mi c1) := cu_below hb3 (by simp [go_sem]) (by simp <;> omega)
  have J1 : w3.cell? ⟨w1.heap.size + 1, 1, none⟩ = some (.slice a2 mb c2) := cu_below hb3 (by simp [go_sem]) (by simp <;> omega)
  have hbu : Below w1.heap.size w1 w3 := (up_alloc (up_alloc (Below.refl _ _) (Nat.le_refl _)) (by simp) : Below w1.heap.size w1 _).trans (hb3.mono (by simp; omega))
  have R0 := cu_below hbu r0 hzp
  have R1 := cu_below hbu r1 hzp
  have RF0 := fu_below hbu rf0 hzp
  have RF1 := fu_below hbu rf1 hzp
  have hbw3 := hide (hbw1.out.trans (hbu.mono (by omega)))
  have X0 := cu_below hbw3.out T0 (cell_lt T0)
  have X1 := cu_below hbw3.out T1 (cell_lt T1)
  have hr13 := hide (hr1.out.below hbu (Nat.le_refl _))
  have hr23 := hide (hr2.out.below hbu (Nat.le_refl _))
  simp only [World.size_alloc] at own3
  have htb : tb < w.heap.size := cell_lt T0
  replace own3 := hide own3
  have hzI : w1.heap.size + 1 < w3.heap.size := by omega
  have hzJ : w1.heap.size < w3.heap.size := by omega
  have hzq : w.heap.size + 1 < w3.heap.size := by omega
  have hztb : tb < w3.heap.size := by omega
  clear hb3 hbu r0 r1 rf0 rf1 hr1 hr2 hbw1 T0 T1
  go_wp2
  go_loopw [11, 27] (fun _ i wr => ∃ j : Nat, j ≤ 2 ∧ i = .int .i64 j ∧ Hid (Own encB 1 4 wr (w1.heap.size + 1 + 1) (.slice (some ⟨g, 0, none⟩) n n) (RW n (mk2 (dr bt) x y j))) ∧ Hid (Keep (fun j => j = g) w3 wr)) (fun _ i _ => 2 - (intOf i).toNat)
  case atStart => exact ⟨0, by omega, rfl, own3, hide (Keep.refl _ _)⟩
  case round =>
    clear own3
    obtain ⟨j, hj, rfl, own, hk⟩ := hrel
    have hzr := hk.out.size
    have hgr : g < wr.heap.size := by omega
    have htr : tb < wr.heap.size := by omega
    have Y0 := hk.out.cu X0 (by simp; omega)
    have Y1 := hk.out.cu X1 (by simp; omega)
    have fr := own.out.free
    match j, hj with
    | 0, _ =>
      have d1 := own.out.atB x hx
      have ix : (0 : Int) ≤ (x : Int) ∧ (x : Int) < (n : Int) := by omega
      have o2 := hide (own.out.setB x hx true)
      have k2 := hide (hk.out.setCell (p := ⟨g, x, none⟩) (.inl rfl) (.bool true))
      go_wp2
      go_roundw
      case rel => exact ⟨1, by omega, rfl, o2, k2⟩
      case measure => simp [intOf]
    | 1, _ =>
      have d1 := own.out.atB y hy
      have ix : (0 : Int) ≤ (y : Int) ∧ (y : Int) < (n : Int) := by omega
      have o2 := hide (own.out.setB y hy true)
      have k2 := hide (hk.out.setCell (p := ⟨g, y, none⟩) (.inl rfl) (.bool true))
      go_wp2
      go_roundw
      case rel => exact ⟨2, by omega, rfl, o2, k2⟩
      case measure => simp [intOf]
    | 2, _ =>
      have F0 := hk.out.cu I0 (by simp; omega)
      have F1 := hk.out.cu I1 (by simp; omega)
      have E1 := hk.out.cu J1 (by simp; omega)
      have S0 := hk.out.cu R0 (by simp; omega)
      have S1 := hk.out.cu R1 (by simp; omega)
      have SF0 := (hk.out.frozen (p := ⟨w.heap.size + 1, 0, none⟩) (by simp; omega) (by simp; omega)).trans RF0
      have SF1 := (hk.out.frozen (p := ⟨w.heap.size + 1, 1, none⟩) (by simp; omega) (by simp; omega)).trans RF1
      have hr1r := hide (hk.out.row hr13.out (by omega) (fun k hk => by omega))
      have hr2r := hide (hk.out.row hr23.out (by omega) (fun k hk => by omega))
      have hzI2 : w1.heap.size < wr.heap.size := by omega
      have hzJ2 : w1.heap.size + 1 < wr.heap.size := by omega
      have hzq2 : w.heap.size + 1 < wr.heap.size := by omega
      have hbwr := hide (hbw3.out.trans (hk.out.toBelow (B := w.heap.size) (fun k e => by omega) (by omega)))
      have hDm : mk2 (dr bt) x y 2 = D := hD.out.symm
      rw [hDm] at own
      clear X0 X1 Y0 Y1 I0 I1 J1 R0 R1 RF0 RF1 hr13 hr23 hk hbw3 fr hDm
      go_wp2
      obtain ⟨w2, hw2⟩ : ∃ w2, w2 = wr.alloc (.cells #[.int .i64 (n : Int), .slice none 0 0] 24) := ⟨_, rfl⟩
      have hb2 : Below wr.heap.size wr w2 := by rw [hw2]; exact up_alloc (Below.refl _ _) (Nat.le_refl _)
      have hs2 : w2.heap.size = wr.heap.size + 1 := by rw [hw2]; simp
      have hA0 : Hid (Ab 26 wr.heap.size (n : Int) w2 (.slice none 0 0) w2 (.slice none 0 0) (abAll D (distF n ins) n 0) w2) := hide (by
        refine ⟨by rw [hw2]; simp [go_sem], by rw [hw2]; simp [go_sem], fun o => by rw [hw2]; simp [go_sem], Own.nil _ _, Keep.refl _ _, by omega, fun _ h => .inl h, Keep.refl _ _⟩)
      have F0 := cu_below hb2 F0 hzI2
      have F1 := cu_below hb2 F1 hzI2
      have E1 := cu_below hb2 E1 hzJ2
      have S0 := cu_below hb2 S0 hzq2
      have S1 := cu_below hb2 S1 hzq2
      have SF0 := fu_below hb2 SF0 hzq2
      have SF1 := fu_below hb2 SF1 hzq2
      have own := hide (own.out.stays hb2)
      have hr1r := hide (hr1r.out.below hb2 (by omega))
      have hr2r := hide (hr2r.out.below hb2 (by omega))
      have hbw2 := hide (hbwr.out.trans (hb2.mono (by omega)))
      simp only [← hw2]
      replace hw2 := hide hw2
      clear hb2 hbwr
      generalize hpz : wr.heap.size = p at *
      clear hpz hw2
      go_wp2
      go_loopw [13, 14, 15, 16, 40] (fun _ _ _ _ i wa => ∃ (q p1 : Nat) (x1 : Option Addr) (d1 : Nat), q ≤ n ∧ p1 ≤ 64 * q ∧ i = .int .i64 q ∧ Hid ((abAll D (distF n ins) n q).length = p1) ∧ Hid (Ab 26 p (n : Int) w2 (.slice x1 p1 d1) wa (.slice x1 p1 d1) (abAll D (distF n ins) n q) wa)) (fun _ _ _ _ i _ => n - (intOf i).toNat)
      case atStart => exact ⟨0, 0, none, 0, Nat.zero_le _, Nat.zero_le _, rfl, hide rfl, hA0⟩
      case round =>
        clear hA0
        obtain ⟨q, p1, x1, d1, hq, hp1, rfl, hl1, hA⟩ := hrel
        have hza := hA.out.kp.size
        have hkp := hide hA.out.kp
        have G0 := hkp.out.cu F0 (by simp; omega)
        have G1 := hkp.out.cu F1 (by simp; omega)
        have hgA : g < wr.heap.size := by omega
        have hzIa : w1.heap.size < wr.heap.size := by omega
        have hpa : p < wr.heap.size := by omega
        by_cases hlt : q < n
        · have ia : (0 : Int) ≤ (q : Int) ∧ (q : Int) < (n : Int) := by omega
          have dq := hkp.out.cu (own.out.atB q hlt) (by simp; omega)
          have hsu := hide (abAll_succ D (distF n ins) n q)
          cases hDq : D q with
          | false =>
            rw [hDq] at dq hsu
            simp only [Bool.false_eq_true, if_false] at hsu
            go_wp2
            go_roundw
            case rel => exact ⟨q + 1, p1, x1, d1, by omega, by omega, by go_num, hide (by rw [hsu.out]; exact hl1.out), hide (by rw [hsu.out]; exact hA.out)⟩
            case measure => simp [intOf]; omega
          | true =>
            rw [hDq] at dq hsu
            simp only [if_true] at hsu
            replace hDq := hide hDq
            have hR := hide (hRun.out q hlt a1 c1 wr w1.heap.size (by omega) (hkp.out.row hr1r.out (by omega) (fun k hk => by omega)))
            go_wp2_with fail
            refine hR.out.mono ?_
            rintro e w5 ⟨ad, cd, rfl, own5, hb5⟩
            obtain ⟨gd, rfl, hgd1, hgd2⟩ := own5.blockI (by omega)
            have hA5 := hide ((hA.out.stays hb5).start)
            have hbl := hide (fun k (e : (Value.slice x1 p1 d1).ownBlock = some k) => (hA.out.o1.block_lt k e).2)
            have hz5 := hb5.size
            replace own5 := hide own5
            have hA50 : Hid (Ab 26 p (n : Int) w2 (.slice x1 p1 d1) w5 (.slice x1 p1 d1) (abAll D (distF n ins) n q ++ abRow D (distF n ins q) q 0) w5) := by
              have : abRow D (distF n ins q) q 0 = [] := rfl
              rw [this, List.append_nil]
              exact hA5
            have hl10 : Hid ((abAll D (distF n ins) n q ++ abRow D (distF n ins q) q 0).length = p1) := by
              have : abRow D (distF n ins q) q 0 = [] := rfl
              rw [this, List.append_nil]
              exact hl1
            clear hb5 G0 G1 hR dq hkp hA5
            go_wp2
            go_loopw [15, 16, 53] (fun _ _ i wb => ∃ (t p2 : Nat) (x2 : Option Addr) (d2 : Nat), t ≤ n ∧ p2 ≤ p1 + t ∧ i = .int .i64 t ∧ Hid ((abAll D (distF n ins) n q ++ abRow D (distF n ins q) q t).length = p2) ∧ Hid (Ab 26 p (n : Int) w2 (.slice x1 p1 d1) w5 (.slice x2 p2 d2) (abAll D (distF n ins) n q ++ abRow D (distF n ins q) q t) wb)) (fun _ _ i _ => n - (intOf i).toNat)
            case atStart => exact ⟨0, p1, x1, d1, Nat.zero_le _, by omega, rfl, hl10, hA50⟩
            case round =>
              clear hA50 hl10
              obtain ⟨t, p2, x2, d2, ht, hp2, rfl, hl2, hB⟩ := hrel
              have hzb := hB.out.kq.size
              have hzw := hB.out.kp.size
              have hgB : g < wr.heap.size := by omega
              have hgdB : gd < wr.heap.size := by omega
              have hpB : p < wr.heap.size := by omega
              have hqB : w1.heap.size < wr.heap.size := by omega
              by_cases htn : t < n
              · have it : (0 : Int) ≤ (t : Int) ∧ (t : Int) < (n : Int) := by omega
                have dt := hB.out.kp.cu (own.out.atB t htn) (by simp; omega)
                have ct' := hB.out.kq.cu (own5.out.atI t htn) (by
                  rintro (e | e)
                  · simp at e; omega
                  · have := hbl.out _ e; simp at this; omega)
                have hrs := hide (abRow_succ D (distF n ins q) q t)
                obtain ⟨cv, hcv⟩ : ∃ cv, cv = distF n ins q t := ⟨_, rfl⟩
                have hcb := hdist.out q t hlt htn
                rw [← hcv] at ct' hrs hcb
                replace hcv := hide hcv
                obtain ⟨bq, hbq⟩ : ∃ bq, bq = decide (t ≠ q) := ⟨_, rfl⟩
                have tq : ((t : Int) != (q : Int)) = bq := by
                  rw [hbq]
                  by_cases h : t = q
                  · simp [h]
                  · simp [h]; omega
                obtain ⟨bf, hbf⟩ : ∃ bf, bf = decide (cv < FAR) := ⟨_, rfl⟩
                have tf : decide (cv < 1099511627776) = bf := by rw [hbf]; rfl
                obtain ⟨bD, hbD⟩ : ∃ bD, bD = D t := ⟨_, rfl⟩
                rw [← hbq, ← hbf, ← hbD] at hrs
                rw [← hbD] at dt
                replace hbq := hide hbq
                replace hbf := hide hbf
                replace hbD := hide hbD
                cases bq with
                | false =>
                  simp only [Bool.false_and, Bool.false_eq_true, if_false] at hrs
                  go_wp2
                  go_roundw
                  case rel => exact ⟨t + 1, p2, x2, d2, by omega, by omega, by go_num, hide (by rw [hrs.out]; exact hl2.out), hide (by rw [hrs.out]; exact hB.out)⟩
                  case measure => simp [intOf]; omega
                | true =>
                  cases bD with
                  | false =>
                    simp only [Bool.true_and, Bool.false_and, Bool.false_eq_true, if_false] at hrs
                    go_wp2
                    go_roundw
                    case rel => exact ⟨t + 1, p2, x2, d2, by omega, by omega, by go_num, hide (by rw [hrs.out]; exact hl2.out), hide (by rw [hrs.out]; exact hB.out)⟩
                    case measure => simp [intOf]; omega
                  | true =>
                    cases bf with
                    | false =>
                      simp only [Bool.true_and, Bool.false_eq_true, if_false] at hrs
                      go_wp2
                      go_roundw
                      case rel => exact ⟨t + 1, p2, x2, d2, by omega, by omega, by go_num, hide (by rw [hrs.out]; exact hl2.out), hide (by rw [hrs.out]; exact hB.out)⟩
                      case measure => simp [intOf]; omega
                    | true =>
                      simp only [Bool.true_and, if_true] at hrs
                      have z1 := hB.out.c1
                      have z2 := hB.out.f0 1
                      have hap := hide (show (Value.slice x2 p2 d2).ownBlock ≠ some p from fun e => by have := (hB.out.o1.block_lt _ e).1; omega)
                      go_wp2_with (at_builtin; (refine wpList_pushL (e := 26) (enc := encE) (xs := (abAll D (distF n ins) n q ++ abRow D (distF n ins q) q t)) (v := .slice x2 (p2) d2) (base := w2.heap.size) rfl (.tmp 72) (.tmp 77) 22 rfl _ 24 Try.underlying22 info_ed rfl ?d11 lenE oneE (p2) ?d21 ?d31 ?d41 ⟨wr.heap.size, 0, none⟩ 1 (⟨(q : Int), (t : Int), cv⟩ : Ed) ?d51 ?d61 ?d71 ?d81 ?d91 ?_); (case d11 => omega); (case d21 => exact hl2.out); (case d31 => rfl); (case d41 => exact (hB.out.o1.alloc _)); (case d51 => rfl); (case d61 => exact newE _ _ _ _ rfl); (case d71 => omega); (case d81 => unfold maxLen; omega); (case d91 => first | omega | (simp; done) | (simp; omega)); intro g1 c1 w1 own1 hb1 hgr1 hat1 hgl1; have hk9 := hgr1.cell (a := ⟨p, 1, none⟩) (v := .slice x2 p2 d2) (cu_alloc z1) (fun e => hap.out e.symm); have hf9 := (hgr1.frozen_far ⟨p, 1, none⟩ (by simp; omega) (fun e => hap.out e.symm)).trans (fu_alloc z2); have hgs1 := hgr1.size; replace own1 := hide own1; replace hb1 := hide hb1; replace hgr1 := hide hgr1; replace hat1 := hide hat1)
                      have hB9 := hide (hB.out.grew ((Keep.refl _ _).alloc _) own1.out hgr1.out (fun b hb => by simp only [Value.ownBlock, Option.some.injEq] at hb; subst hb; rcases hat1.out with h | h; exact .inl h; right; rw [h]; simp))
                      go_roundw
                      case rel => exact ⟨t + 1, p2 + 1, _, _, by omega, by omega, by go_num, hide (by rw [hrs.out, ← List.append_assoc, List.length_append, hl2.out]; rfl), hide (by rw [hrs.out, ← List.append_assoc]; exact hB9.out)⟩
                      case measure => simp [intOf]; omega
              · obtain rfl : n = t := by omega
                go_wp2
                refine ⟨?_, ?measure⟩
                repeat apply Exists.intro
                refine ⟨?rel, rfl⟩
                case rel => exact ⟨q + 1, p2, x2, d2, by omega, by omega, by go_num, hide (by rw [hsu.out]; exact hl2.out), hide (by rw [hsu.out]; exact hB.out.start)⟩
                case measure => simp [intOf]; omega
        · obtain rfl : n = q := by omega
          have z1 := hA.out.c1
          have z0 := hA.out.c0
          have z2 := hA.out.f0 1
          have e1 := hkp.out.cu E1 (by simp; omega)
          have s0 := hkp.out.cu S0 (by simp; omega)
          have s1 := hkp.out.cu S1 (by simp; omega)
          have sf0 := (hkp.out.frozen (p := ⟨w.heap.size + 1, 0, none⟩) (by simp; omega) (by simp; omega)).trans SF0
          have sf1 := (hkp.out.frozen (p := ⟨w.heap.size + 1, 1, none⟩) (by simp; omega) (by simp; omega)).trans SF1
          have hrb := hide (hkp.out.row hr2r.out (by omega) (fun k hk => by omega))
          have hqa : w.heap.size + 1 < wr.heap.size := by omega
          have hJa : w1.heap.size + 1 < wr.heap.size := by omega
          have hbz := hide (hbw2.out.trans (hkp.out.toBelow (B := w.heap.size) (fun k e => by omega) (by omega)))
          have hbl := hide (fun k (e : (Value.slice x1 p1 d1).ownBlock = some k) => (hA.out.o1.block_lt k e))
          have n1 : (Value.slice x1 p1 d1).ownBlock ≠ some p := fun e => by have := (hbl.out _ e).1; omega
          have n2 : (Value.slice x1 p1 d1).ownBlock ≠ some (w.heap.size + 1) := fun e => by have := (hbl.out _ e).1; omega
          replace n1 := hide n1
          replace n2 := hide n2
          clear F0 F1 E1 S0 S1 SF0 SF1 G0 G1 hkp hr1r hr2r
          go_wp2_with (at_builtin; (refine wpList_all rfl (.tmp 83) (.tmp 85) 22 rfl _ 24 Try.underlying22 info_ed rfl ?d1 lenE oneE p1 ?d2 rfl hA.out.o1 w1.heap.size a2 mb c2 bt ?d3 rfl hrb.out ?d4 ?d5 ?d6 ?_); (case d1 => omega); (case d2 => exact hl1.out); (case d3 => exact hmb.out.symm); (case d4 => omega); (case d5 => unfold maxLen; omega); (case d6 => omega); intro a4 c4 w4 own4 hb4 hg4; have z14 := hg4.cell z1 (fun e => n1.out e.symm); have z04 := hg4.cell z0 (fun e => n1.out e.symm); have z24 := (hg4.frozen_far ⟨p, 1, none⟩ (by simp; omega) (fun e => n1.out e.symm)).trans z2; have s04 := hg4.cell s0 (fun e => n2.out e.symm); have s14 := hg4.cell s1 (fun e => n2.out e.symm); have sf04 := (hg4.frozen_far ⟨w.heap.size + 1, 0, none⟩ (by simp; omega) (fun e => n2.out e.symm)).trans sf0; have sf14 := (hg4.frozen_far ⟨w.heap.size + 1, 1, none⟩ (by simp; omega) (fun e => n2.out e.symm)).trans sf1; have hgs4 := hg4.size; replace own4 := hide own4; replace hg4 := hide hg4; replace hb4 := hide hb4)
          have hLe : L = abAll D (distF n ins) n n ++ bt := hL.out
          have hlen : L.length = p1 + mb := by rw [hLe, List.length_append, hl1.out, hmb.out]
          have hgl4 := fun k e => (own4.out.block_lt k e).1
          have hb5 := hide (hbz.out.trans (hb4.out.mono (by omega)))
          refine bodyPost_ret (v := .agg #[.int .i64 (n : Int), .slice a4 (p1 + mb) c4]) (by simp [results, Try.results123, go_sem, s04, s14]) rfl ⟨a4, c4, by rw [hlen], ?_, ((hb5.out.setCell (by simp; omega) _).setCell (by simp) _).setCell (by simp) _⟩
          rw [hLe]
          exact (((own4.out.elsewhere (fun e => by have := hgl4 _ e; simp at this; omega) _).elsewhere (fun e => by have := hgl4 _ e; simp at this; omega) _).elsewhere (fun e => by have := hgl4 _ e; simp at this; omega) _).rowE
end Go.Proofs.Ytgkiipmeigfjnaa

/-! What hier.Between and hier.Dist return. Conditions: the rows read. -/
namespace Go.Proofs.Ytgkiipmeigfjnaa
open Go.RowKit
set_option linter.unusedSimpArgs false
set_option linter.unusedVariables false
set_option maxRecDepth 100000 in
set_option maxHeartbeats 2000000 in
theorem hbet_bad (W H k p q : Int) (a : Option Addr) (cap : Nat) (cs : List Int) (w : World) (B : Nat) (hB : B ≤ w.heap.size) (hE : Row encI 1 w B a cs) (hl : cs.length ≤ 9223372036854775807) (hbad : hcErr W H cs k [p, q] ≠ 0) :
    Calls Try.prog 55 #[.agg #[.int .i64 W, .int .i64 H, .slice a cs.length cap], .int .i64 k, .int .i64 p, .int .i64 q] w fun e w' => e = .returned (.tuple #[.int .i64 0, .int .i64 (hcErr W H cs k [p, q])]) ∧ Below w.heap.size w w' := by
  have hC := hide (fun w B hB hE => hlook_any W H a cap cs k w B hB hE hl)
  replace hE := hide hE
  by_cases h0 : hlErr W H cs k = 0
  · have h2 : ¬ (0 ≤ p ∧ p < (cs.length : Int) ∧ 0 ≤ q ∧ q < (cs.length : Int)) := fun h => hbad (by unfold hcErr; rw [if_neg (by simp [h0]), plErr, if_neg (by omega), plErr, if_neg (by omega), plErr])
    have h1 : hcErr W H cs k [p, q] = 1 := by
      unfold hcErr
      rw [if_neg (by simp [h0]), plErr]
      by_cases hp : p < 0 ∨ (cs.length : Int) ≤ p
      · rw [if_pos hp]
      · rw [if_neg hp, plErr, if_pos (by omega)]
    rw [h0] at hC
    rw [h1]
    clear h0 h1 hbad
    have hd : p < 0 ∨ (0 ≤ p ∧ (cs.length : Int) ≤ p) ∨ (0 ≤ p ∧ p < (cs.length : Int) ∧ q < 0) ∨ (0 ≤ p ∧ p < (cs.length : Int) ∧ 0 ≤ q ∧ (cs.length : Int) ≤ q) := by omega
    clear h2
    rcases hd with h1 | ⟨h1, h2⟩ | ⟨h1, h2, h3⟩ | ⟨h1, h2, h3, h4⟩
    all_goals
      go_enter Try.func55, Try.ntmps55
      go_wp2_with fail
      refine (hC.out _ B (by simp; omega) (hE.out.below ((by repeat (first | with_reducible exact Below.refl _ _ | with_reducible assumption | with_reducible refine up_drewN ?_ | with_reducible refine up_drew ?_ | (with_reducible refine up_alloc ?_ ?_; rotate_left; (first | omega | (simp <;> omega) | simp)) | (with_reducible refine up_set ?_ ?_; rotate_left; (first | omega | (simp <;> omega) | simp)) | (with_reducible refine Below.trans ?_ (Below.mono (by with_reducible assumption) ?_); rotate_left; (first | omega | (simp <;> omega) | simp)))) : Below w.heap.size w _) hB)).mono ?_
      rintro e w1 ⟨rfl, hb1⟩
      obtain ⟨hc1, hf1⟩ := bcell hb1; have hz1 : w.heap.size < w1.heap.size := (by have := hb1.size; (try simp at this); omega)
      go_wp2
      go_ret2
      exact ⟨rfl, (by repeat (first | with_reducible exact Below.refl _ _ | with_reducible assumption | with_reducible refine up_drewN ?_ | with_reducible refine up_drew ?_ | (with_reducible refine up_alloc ?_ ?_; rotate_left; (first | omega | (simp <;> omega) | simp)) | (with_reducible refine up_set ?_ ?_; rotate_left; (first | omega | (simp <;> omega) | simp)) | (with_reducible refine Below.trans ?_ (Below.mono (by with_reducible assumption) ?_); rotate_left; (first | omega | (simp <;> omega) | simp))))⟩
  · have h1 : hcErr W H cs k [p, q] = hlErr W H cs k := by unfold hcErr; rw [if_pos h0]
    have q0 : (hlErr W H cs k != 0) = true := by simp [h0]
    rw [h1]
    clear h0 h1 hbad
    go_enter Try.func55, Try.ntmps55
    go_wp2_with fail
    refine (hC.out _ B (by simp; omega) (hE.out.below ((by repeat (first | with_reducible exact Below.refl _ _ | with_reducible assumption | with_reducible refine up_drewN ?_ | with_reducible refine up_drew ?_ | (with_reducible refine up_alloc ?_ ?_; rotate_left; (first | omega | (simp <;> omega) | simp)) | (with_reducible refine up_set ?_ ?_; rotate_left; (first | omega | (simp <;> omega) | simp)) | (with_reducible refine Below.trans ?_ (Below.mono (by with_reducible assumption) ?_); rotate_left; (first | omega | (simp <;> omega) | simp)))) : Below w.heap.size w _) hB)).mono ?_
    rintro e w1 ⟨rfl, hb1⟩
    go_wp2
    go_ret2
    exact ⟨rfl, (by repeat (first | with_reducible exact Below.refl _ _ | with_reducible assumption | with_reducible refine up_drewN ?_ | with_reducible refine up_drew ?_ | (with_reducible refine up_alloc ?_ ?_; rotate_left; (first | omega | (simp <;> omega) | simp)) | (with_reducible refine up_set ?_ ?_; rotate_left; (first | omega | (simp <;> omega) | simp)) | (with_reducible refine Below.trans ?_ (Below.mono (by with_reducible assumption) ?_); rotate_left; (first | omega | (simp <;> omega) | simp))))⟩
set_option maxRecDepth 100000 in
set_option maxHeartbeats 2000000 in
theorem hbet_ok (W H k : Int) (x y : Nat) (a : Option Addr) (cap n : Nat) (cs : List Int) (hn : cs.length = n) (w : World) (B : Nat) (hB : B ≤ w.heap.size) (hE : Row encI 1 w B a cs) (h0 : hlErr W H cs k = 0) (hx : x < n) (hy : y < n) (es : List Ed) (hes : gridNet W H cs cs.length = es) (c : Int) (hc : c = distF n (insE W k es) x y) :
    Calls Try.prog 55 #[.agg #[.int .i64 W, .int .i64 H, .slice a n cap], .int .i64 k, .int .i64 (x : Int), .int .i64 (y : Int)] w fun e w' => e = .returned (.tuple #[.int .i64 (if c = FAR then 0 else c), .int .i64 (if c = FAR then 5 else 0)]) ∧ Below w.heap.size w w' := by
  have hl : cs.length ≤ 64 := by obtain ⟨g0, _, _⟩ := hl_ok h0; exact grid_64 g0
  have hC := hide (fun w B hB hE => hlook_any W H a cap cs k w B hB hE (by omega))
  obtain ⟨g0, k1, k8⟩ := hl_ok h0
  have hgr : GrE n es := by have := gridNet_in g0; rw [hes, hn] at this; exact this
  have hel : es.length ≤ 512 := by have := gridNet_len W H cs cs.length; rw [hes] at this; omega
  have hW := fun w B hB hE => within_any W H k a cap cs w B hB hE g0 k1 k8 es hes (fun e he => by have := hgr e he; omega) hel
  have hn64 : n ≤ 64 := by omega
  have hn1 : 1 ≤ n := by omega
  have hil := Nat.le_trans (ins_len W k es) hel
  have hbl := Nat.le_trans (bet_len W k es) hel
  have hgi := hgr.ins W k
  have hgb := hgr.bet W k
  rw [h0] at hC
  rw [hn] at hC hW
  generalize insE W k es = ins at *
  generalize betE W k es = bt at *
  have hR := hide (fun (a1 : Option Addr) (c1 : Nat) (w : World) (B : Nat) hB hE => run_gen n a1 c1 ins x w B hB hE hn1 hn64 (by omega) (fun e he => by have := hgi e he; omega) (fun e he => by have := hgi e he; omega) hx)
  replace hW := hide hW
  replace hE := hide hE
  replace hc := hide hc
  clear hgr hel h0 g0 hes hgi hgb
  have hxy : (0 : Int) ≤ (x : Int) ∧ (x : Int) < (n : Int) ∧ (0 : Int) ≤ (y : Int) ∧ (y : Int) < (n : Int) := by omega
  obtain ⟨m, hm⟩ : ∃ m, m = decide (c = FAR) := ⟨_, rfl⟩
  have tf : (c == 1099511627776) = m := by
    rw [hm]
    by_cases h : c = FAR
    · rw [h]; simp [FAR]
    · rw [decide_eq_false h]; simpa [FAR] using h
  have hv : (if c = FAR then (0 : Int) else c) = (if m = true then 0 else c) := by rw [hm]; simp
  have hv5 : (if c = FAR then (5 : Int) else 0) = (if m = true then 5 else 0) := by rw [hm]; simp
  rw [hv, hv5]
  clear hv hv5
  replace hm := hide hm
  go_enter Try.func55, Try.ntmps55
  go_wp2_with fail
  refine (hC.out _ B (by simp; omega) (hE.out.below ((by repeat (first | with_reducible exact Below.refl _ _ | with_reducible assumption | with_reducible refine up_drewN ?_ | with_reducible refine up_drew ?_ | (with_reducible refine up_alloc ?_ ?_; rotate_left; (first | omega | (simp <;> omega) | simp)) | (with_reducible refine up_set ?_ ?_; rotate_left; (first | omega | (simp <;> omega) | simp)) | (with_reducible refine Below.trans ?_ (Below.mono (by with_reducible assumption) ?_); rotate_left; (first | omega | (simp <;> omega) | simp)))) : Below w.heap.size w _) hB)).mono ?_
  rintro e w1 ⟨rfl, hb1⟩
  obtain ⟨hc1, hf1⟩ := bcell hb1; have hz1 : w.heap.size < w1.heap.size := (by have := hb1.size; (try simp at this); omega)
  have hbw1 := hide (show Below w.heap.size w w1 from (by repeat (first | with_reducible exact Below.refl _ _ | with_reducible assumption | with_reducible refine up_drewN ?_ | with_reducible refine up_drew ?_ | (with_reducible refine up_alloc ?_ ?_; rotate_left; (first | omega | (simp <;> omega) | simp)) | (with_reducible refine up_set ?_ ?_; rotate_left; (first | omega | (simp <;> omega) | simp)) | (with_reducible refine Below.trans ?_ (Below.mono (by with_reducible assumption) ?_); rotate_left; (first | omega | (simp <;> omega) | simp)))))
  have j0 := (hc1 w.heap.size 0 (by simp)).trans (show _ = some (Value.int .i64 W) by simp [go_sem])
  have j1 := (hc1 w.heap.size 1 (by simp)).trans (show _ = some (Value.int .i64 H) by simp [go_sem])
  have j2 := (hc1 w.heap.size 2 (by simp)).trans (show _ = some (Value.slice a n cap) by simp [go_sem])
  clear hb1 hc1 hf1
  go_wp2_with fail
  refine (hW.out _ B (by omega) (hE.out.below hbw1.out hB)).mono ?_
  rintro e w2 ⟨a1, c1, a2, c2, rfl, hr1, hr2, hb2⟩
  have hz2 := hb2.size
  have hbw2 := hide (hbw1.out.trans (hb2.mono (by omega)))
  clear hb2 j0 j1 j2
  go_wp2_with fail
  refine (hR.out a1 c1 _ w2.heap.size (by simp; omega) (hr1.below (up_alloc (up_alloc (Below.refl _ _) (Nat.le_refl _)) (by simp) : Below w2.heap.size w2 _) (Nat.le_refl _))).mono ?_
  rintro e w3 ⟨ad, cd, rfl, own3, hb3⟩
  obtain ⟨gd, rfl, hgd1, hgd2⟩ := own3.blockI (by omega)
  have dy := own3.atI y hy
  rw [← hc.out] at dy
  have hbw3 := hide (hbw2.out.trans ((up_alloc (up_alloc (Below.refl _ _) (Nat.le_refl _)) (by simp) : Below w2.heap.size w2 _).trans (hb3.mono (by simp; omega)) |>.mono (by omega)))
  replace own3 := hide own3
  clear hb3 hr1 hr2
  cases m with
  | true =>
    go_wp2
    go_ret2
    exact ⟨rfl, hbw3.out⟩
  | false =>
    go_wp2
    go_ret2
    exact ⟨rfl, hbw3.out⟩
set_option maxRecDepth 100000 in
set_option maxHeartbeats 2000000 in
theorem hdst_bad (W H k p q : Int) (a : Option Addr) (cap : Nat) (cs : List Int) (w : World) (B : Nat) (hB : B ≤ w.heap.size) (hE : Row encI 1 w B a cs) (hl : cs.length ≤ 9223372036854775807) (hbad : hcErr W H cs k [p, q] ≠ 0) :
    Calls Try.prog 56 #[.agg #[.int .i64 W, .int .i64 H, .slice a cs.length cap], .int .i64 k, .int .i64 p, .int .i64 q] w fun e w' => e = .returned (.tuple #[.int .i64 0, .int .i64 (hcErr W H cs k [p, q])]) ∧ Below w.heap.size w w' := by
  have hC := hide (fun w B hB hE => hlook_any W H a cap cs k w B hB hE hl)
  replace hE := hide hE
  by_cases h0 : hlErr W H cs k = 0
  · have h2 : ¬ (0 ≤ p ∧ p < (cs.length : Int) ∧ 0 ≤ q ∧ q < (cs.length : Int)) := fun h => hbad (by unfold hcErr; rw [if_neg (by simp [h0]), plErr, if_neg (by omega), plErr, if_neg (by omega), plErr])
    have h1 : hcErr W H cs k [p, q] = 1 := by
      unfold hcErr
      rw [if_neg (by simp [h0]), plErr]
      by_cases hp : p < 0 ∨ (cs.length : Int) ≤ p
      · rw [if_pos hp]
      · rw [if_neg hp, plErr, if_pos (by omega)]
    rw [h0] at hC
    rw [h1]
    clear h0 h1 hbad
    have hd : p < 0 ∨ (0 ≤ p ∧ (cs.length : Int) ≤ p) ∨ (0 ≤ p ∧ p < (cs.length : Int) ∧ q < 0) ∨ (0 ≤ p ∧ p < (cs.length : Int) ∧ 0 ≤ q ∧ (cs.length : Int) ≤ q) := by omega
    clear h2
    rcases hd with h1 | ⟨h1, h2⟩ | ⟨h1, h2, h3⟩ | ⟨h1, h2, h3, h4⟩
    all_goals
      go_enter Try.func56, Try.ntmps56
      go_wp2_with fail
      refine (hC.out _ B (by simp; omega) (hE.out.below ((by repeat (first | with_reducible exact Below.refl _ _ | with_reducible assumption | with_reducible refine up_drewN ?_ | with_reducible refine up_drew ?_ | (with_reducible refine up_alloc ?_ ?_; rotate_left; (first | omega | (simp <;> omega) | simp)) | (with_reducible refine up_set ?_ ?_; rotate_left; (first | omega | (simp <;> omega) | simp)) | (with_reducible refine Below.trans ?_ (Below.mono (by with_reducible assumption) ?_); rotate_left; (first | omega | (simp <;> omega) | simp)))) : Below w.heap.size w _) hB)).mono ?_
      rintro e w1 ⟨rfl, hb1⟩
      obtain ⟨hc1, hf1⟩ := bcell hb1; have hz1 : w.heap.size < w1.heap.size := (by have := hb1.size; (try simp at this); omega)
      go_wp2
      go_ret2
      exact ⟨rfl, (by repeat (first | with_reducible exact Below.refl _ _ | with_reducible assumption | with_reducible refine up_drewN ?_ | with_reducible refine up_drew ?_ | (with_reducible refine up_alloc ?_ ?_; rotate_left; (first | omega | (simp <;> omega) | simp)) | (with_reducible refine up_set ?_ ?_; rotate_left; (first | omega | (simp <;> omega) | simp)) | (with_reducible refine Below.trans ?_ (Below.mono (by with_reducible assumption) ?_); rotate_left; (first | omega | (simp <;> omega) | simp))))⟩
  · have h1 : hcErr W H cs k [p, q] = hlErr W H cs k := by unfold hcErr; rw [if_pos h0]
    have q0 : (hlErr W H cs k != 0) = true := by simp [h0]
    rw [h1]
    clear h0 h1 hbad
    go_enter Try.func56, Try.ntmps56
    go_wp2_with fail
    refine (hC.out _ B (by simp; omega) (hE.out.below ((by repeat (first | with_reducible exact Below.refl _ _ | with_reducible assumption | with_reducible refine up_drewN ?_ | with_reducible refine up_drew ?_ | (with_reducible refine up_alloc ?_ ?_; rotate_left; (first | omega | (simp <;> omega) | simp)) | (with_reducible refine up_set ?_ ?_; rotate_left; (first | omega | (simp <;> omega) | simp)) | (with_reducible refine Below.trans ?_ (Below.mono (by with_reducible assumption) ?_); rotate_left; (first | omega | (simp <;> omega) | simp)))) : Below w.heap.size w _) hB)).mono ?_
    rintro e w1 ⟨rfl, hb1⟩
    go_wp2
    go_ret2
    exact ⟨rfl, (by repeat (first | with_reducible exact Below.refl _ _ | with_reducible assumption | with_reducible refine up_drewN ?_ | with_reducible refine up_drew ?_ | (with_reducible refine up_alloc ?_ ?_; rotate_left; (first | omega | (simp <;> omega) | simp)) | (with_reducible refine up_set ?_ ?_; rotate_left; (first | omega | (simp <;> omega) | simp)) | (with_reducible refine Below.trans ?_ (Below.mono (by with_reducible assumption) ?_); rotate_left; (first | omega | (simp <;> omega) | simp))))⟩
set_option maxRecDepth 100000 in
set_option maxHeartbeats 2000000 in
theorem hdst_ok (W H k : Int) (x y : Nat) (a : Option Addr) (cap n : Nat) (cs : List Int) (hn : cs.length = n) (w : World) (B : Nat) (hB : B ≤ w.heap.size) (hE : Row encI 1 w B a cs) (h0 : hlErr W H cs k = 0) (hx : x < n) (hy : y < n) (es : List Ed) (hes : gridNet W H cs cs.length = es) (c : Int) (hc : c = distF n es x y) :
    Calls Try.prog 56 #[.agg #[.int .i64 W, .int .i64 H, .slice a n cap], .int .i64 k, .int .i64 (x : Int), .int .i64 (y : Int)] w fun e w' => e = .returned (.tuple #[.int .i64 (if c = FAR then 0 else c), .int .i64 (if c = FAR then 5 else 0)]) ∧ Below w.heap.size w w' := by
  have hl : cs.length ≤ 64 := by obtain ⟨g0, _, _⟩ := hl_ok h0; exact grid_64 g0
  have hC := hide (fun w B hB hE => hlook_any W H a cap cs k w B hB hE (by omega))
  obtain ⟨g0, k1, k8⟩ := hl_ok h0
  have hgr : GrE n es := by have := gridNet_in g0; rw [hes, hn] at this; exact this
  have hel : es.length ≤ 512 := by have := gridNet_len W H cs cs.length; rw [hes] at this; omega
  have hW := fun w B hB hE => within_any W H k a cap cs w B hB hE g0 k1 k8 es hes (fun e he => by have := hgr e he; omega) hel
  have hn64 : n ≤ 64 := by omega
  have hn1 : 1 ≤ n := by omega
  have hil := Nat.le_trans (ins_len W k es) hel
  have hbl := Nat.le_trans (bet_len W k es) hel
  have hgi := hgr.ins W k
  have hgb := hgr.bet W k
  have hdd := doors_dist hgr hn64 W k hx hy
  rw [h0] at hC
  rw [hn] at hC hW
  generalize insE W k es = ins at *
  generalize betE W k es = bt at *
  have hA := hide (fun (tb ct : Nat) (w : World) (B : Nat) hB hE T0 T1 => abstract_gen W H k a cap n x y tb ct ins bt w B hB n cs hE T0 T1 hx hy hn1 hn64 hgi hgb hil hbl hW)
  obtain ⟨L, hL⟩ : ∃ L, L = absL n (upz (upz (dr bt) x true) y true) (distF n ins) bt := ⟨_, rfl⟩
  have hLr := absL_right (D := upz (upz (dr bt) x true) y true) hgi hgb hn64
  have hLp := absL_ok (D := upz (upz (dr bt) x true) y true) hgi hgb hn64
  have hLl : (absL n (upz (upz (dr bt) x true) y true) (distF n ins) bt).length ≤ 9000 := by
    unfold absL
    rw [List.length_append]
    have := abAll_len (upz (upz (dr bt) x true) y true) (distF n ins) hn64 n
    omega
  rw [← hL] at hLr hLp hLl hA hdd
  unfold NetRow at hA
  have hR := hide (fun (a1 : Option Addr) (c1 : Nat) (w : World) (B : Nat) hB hE => run_gen n a1 c1 L x w B hB hE hn1 hn64 hLl hLr (fun e he => by have := hLp e he; omega) hx)
  rw [← hdd] at hc
  clear hLr hLp hW hdd
  replace hL := hide hL
  replace hE := hide hE
  replace hc := hide hc
  clear hgr hel h0 g0 hes hgi hgb
  have hxy : (0 : Int) ≤ (x : Int) ∧ (x : Int) < (n : Int) ∧ (0 : Int) ≤ (y : Int) ∧ (y : Int) < (n : Int) := by omega
  obtain ⟨m, hm⟩ : ∃ m, m = decide (c = FAR) := ⟨_, rfl⟩
  have tf : (c == 1099511627776) = m := by
    rw [hm]
    by_cases h : c = FAR
    · rw [h]; simp [FAR]
    · rw [decide_eq_false h]; simpa [FAR] using h
  have hv : (if c = FAR then (0 : Int) else c) = (if m = true then 0 else c) := by rw [hm]; simp
  have hv5 : (if c = FAR then (5 : Int) else 0) = (if m = true then 5 else 0) := by rw [hm]; simp
  rw [hv, hv5]
  clear hv hv5
  replace hm := hide hm
  go_enter Try.func56, Try.ntmps56
  go_wp2_with fail
  refine (hC.out _ B (by simp; omega) (hE.out.below ((by repeat (first | with_reducible exact Below.refl _ _ | with_reducible assumption | with_reducible refine up_drewN ?_ | with_reducible refine up_drew ?_ | (with_reducible refine up_alloc ?_ ?_; rotate_left; (first | omega | (simp <;> omega) | simp)) | (with_reducible refine up_set ?_ ?_; rotate_left; (first | omega | (simp <;> omega) | simp)) | (with_reducible refine Below.trans ?_ (Below.mono (by with_reducible assumption) ?_); rotate_left; (first | omega | (simp <;> omega) | simp)))) : Below w.heap.size w _) hB)).mono ?_
  rintro e w1 ⟨rfl, hb1⟩
  obtain ⟨hc1, hf1⟩ := bcell hb1; have hz1 : w.heap.size < w1.heap.size := (by have := hb1.size; (try simp at this); omega)
  have hbw1 := hide (show Below w.heap.size w w1 from (by repeat (first | with_reducible exact Below.refl _ _ | with_reducible assumption | with_reducible refine up_drewN ?_ | with_reducible refine up_drew ?_ | (with_reducible refine up_alloc ?_ ?_; rotate_left; (first | omega | (simp <;> omega) | simp)) | (with_reducible refine up_set ?_ ?_; rotate_left; (first | omega | (simp <;> omega) | simp)) | (with_reducible refine Below.trans ?_ (Below.mono (by with_reducible assumption) ?_); rotate_left; (first | omega | (simp <;> omega) | simp)))))
  have j0 := (hc1 w.heap.size 0 (by simp)).trans (show _ = some (Value.int .i64 W) by simp [go_sem])
  have j1 := (hc1 w.heap.size 1 (by simp)).trans (show _ = some (Value.int .i64 H) by simp [go_sem])
  have j2 := (hc1 w.heap.size 2 (by simp)).trans (show _ = some (Value.slice a n cap) by simp [go_sem])
  clear hb1 hc1 hf1
  go_wp2_with fail
  refine (hA.out w1.heap.size 2 _ B (by simp; omega) (hE.out.below (up_alloc hbw1.out (by omega)) hB) (by simp [go_sem]) (by simp [go_sem])).mono ?_
  rintro e w2 ⟨a1, c1, rfl, hr1, hb2⟩
  have hz2 := hb2.size
  simp at hz2
  have hbw2 := hide (hbw1.out.trans ((unalloc (hb2.mono (by simp)) (Nat.le_refl _) : Below w1.heap.size w1 w2).mono (by omega)))
  clear hb2 j0 j1 j2
  go_wp2_with fail
  refine (hR.out a1 c1 _ w2.heap.size (Nat.le_refl _) hr1).mono ?_
  rintro e w3 ⟨ad, cd, rfl, own3, hb3⟩
  obtain ⟨gd, rfl, hgd1, hgd2⟩ := own3.blockI (by omega)
  have dy := own3.atI y hy
  rw [← hc.out] at dy
  have hbw3 := hide (hbw2.out.trans (hb3.mono (by omega)))
  replace own3 := hide own3
  clear hb3 hr1
  cases m with
  | true =>
    go_wp2
    go_ret2
    exact ⟨rfl, hbw3.out⟩
  | false =>
    go_wp2
    go_ret2
    exact ⟨rfl, hbw3.out⟩
end Go.Proofs.Ytgkiipmeigfjnaa

/-! The walk of felllaw.HierDists: it returns true. Conditions: the arguments read as data. -/
namespace Go.Proofs.Ytgkiipmeigfjnaa
open Go.RowKit
set_option linter.unusedSimpArgs false
set_option linter.unusedVariables false
set_option maxRecDepth 100000 in
set_option maxHeartbeats 1000000 in
theorem told_true (c : Int) (m : Bool) (w : World) (tf : (c == 1099511627776) = m) :
    Calls Try.prog 57 #[.int .i64 (if m = true then 0 else c), .int .i64 (if m = true then 5 else 0), .int .i64 c] w fun e w' => e = .returned (.bool true) ∧ Below w.heap.size w w' := by
  cases m with
  | true =>
    go_enter Try.func57, Try.ntmps57
    go_wp2
    go_ret
    exact ⟨rfl, (by repeat (first | with_reducible exact Below.refl _ _ | with_reducible assumption | with_reducible refine up_drewN ?_ | with_reducible refine up_drew ?_ | (with_reducible refine up_alloc ?_ ?_; rotate_left; (first | omega | (simp <;> omega) | simp)) | (with_reducible refine up_set ?_ ?_; rotate_left; (first | omega | (simp <;> omega) | simp)) | (with_reducible refine Below.trans ?_ (Below.mono (by with_reducible assumption) ?_); rotate_left; (first | omega | (simp <;> omega) | simp))))⟩
  | false =>
    go_enter Try.func57, Try.ntmps57
    go_wp2
    go_ret
    exact ⟨rfl, (by repeat (first | with_reducible exact Below.refl _ _ | with_reducible assumption | with_reducible refine up_drewN ?_ | with_reducible refine up_drew ?_ | (with_reducible refine up_alloc ?_ ?_; rotate_left; (first | omega | (simp <;> omega) | simp)) | (with_reducible refine up_set ?_ ?_; rotate_left; (first | omega | (simp <;> omega) | simp)) | (with_reducible refine Below.trans ?_ (Below.mono (by with_reducible assumption) ?_); rotate_left; (first | omega | (simp <;> omega) | simp))))⟩
theorem far_if (c : Int) : ∃ m, (c == 1099511627776) = m ∧ (if c = FAR then (0 : Int) else c) = (if m = true then 0 else c) ∧ (if c = FAR then (5 : Int) else 0) = (if m = true then 5 else 0) := by
  refine ⟨decide (c = FAR), ?_, by simp, by simp⟩
  by_cases h : c = FAR
  · rw [h]; simp [FAR]
  · rw [decide_eq_false h]; simpa [FAR] using h
set_option maxRecDepth 100000 in
set_option maxHeartbeats 4000000 in
theorem walk_HierDists (x0 y0 : Int) (a0 : Option Addr) (cap0 : Nat) (cs0 : List Int) (x1 : Int) (x2 : Int) (x3 : Int) (w : World) (b0 : Bd x0) (c0 : Bd y0) (l0 : cs0.length ≤ cap0) (m0 : cap0 ≤ maxLen) (r0 : Row encI 1 w w.heap.size a0 cs0) (be0 : ∀ x ∈ cs0, Bd x) (b1 : Bd x1) (b2 : Bd x2) (b3 : Bd x3) :
    Calls Try.prog 14 #[.agg #[.int .i64 x0, .int .i64 y0, .slice a0 cs0.length cap0], .int .i64 x1, .int .i64 x2, .int .i64 x3] w fun e w' => e = .returned (.bool true) ∧ Below w.heap.size w w' := by
  have hl : cs0.length ≤ 9223372036854775807 := by unfold maxLen at m0; omega
  replace r0 := hide r0
  have hL1 := hide (fun (b : Nat) w B hB hE hP => hrlook_any x0 y0 a0 cap0 cs0 x1 (some ⟨b, 0, none⟩) 2 2 [x2, x3] rfl w B hB hE hP hl (by omega))
  clear be0
  by_cases h0 : hcErr x0 y0 cs0 x1 [x2, x3] = 0
  · obtain ⟨hl0, hps⟩ := hc_ok h0
    obtain ⟨p0, p1⟩ := hps x2 (by simp)
    obtain ⟨p2, p3⟩ := hps x3 (by simp)
    obtain ⟨x, rfl⟩ := Int.eq_ofNat_of_zero_le p0
    obtain ⟨y, rfl⟩ := Int.eq_ofNat_of_zero_le p2
    obtain ⟨g0, k1, k8⟩ := hl_ok hl0
    have h64 := grid_64 g0
    have hbds := gridErr_ok g0
    have hcl := hbds.2.2.2.2.1
    clear hbds
    have hgr : GrE cs0.length (gridNet x0 y0 cs0 cs0.length) := gridNet_in g0
    have hgl := gridNet_len x0 y0 cs0 cs0.length
    have hBt := fun w B hB hE => hbet_ok x0 y0 x1 x y a0 cap0 cs0.length cs0 rfl w B hB hE hl0 (by omega) (by omega) _ rfl _ rfl
    have hDt := fun w B hB hE => hdst_ok x0 y0 x1 x y a0 cap0 cs0.length cs0 rfl w B hB hE hl0 (by omega) (by omega) _ rfl _ rfl
    have hIn := fun w B hB hE => inside_any x0 y0 x1 a0 cap0 cs0 w B hB hE g0 k1 k8 _ rfl (fun e he => by have := hgr e he; omega) (by omega)
    have hOf := fun w B hB hE => ofgrid_ok x0 y0 a0 cap0 cs0 w B hB hE g0
    rw [← hcl] at hOf
    have hgi := hgr.ins x0 x1
    have hil := ins_len x0 x1 (gridNet x0 y0 cs0 cs0.length)
    rw [h0] at hL1
    generalize insE x0 x1 (gridNet x0 y0 cs0 cs0.length) = ins at *
    generalize gridNet x0 y0 cs0 cs0.length = es at *
    have hn1 : 1 ≤ cs0.length := by omega
    have hxn : x < cs0.length := by omega
    have hyn : y < cs0.length := by omega
    have hR1 := fun (a1 : Option Addr) (c1 : Nat) (w : World) (B : Nat) hB hE => rdist_any cs0.length a1 c1 ins x w B hB hE hn1 h64 (by omega) hgi.right hxn
    have hR2 := fun (a1 : Option Addr) (c1 : Nat) (w : World) (B : Nat) hB hE => rdist_any cs0.length a1 c1 es x w B hB hE hn1 h64 (by omega) hgr.right hxn
    obtain ⟨u, hu⟩ : ∃ u, u = distF cs0.length ins x y := ⟨_, rfl⟩
    obtain ⟨v, hv⟩ : ∃ v, v = distF cs0.length es x y := ⟨_, rfl⟩
    rw [← hu] at hBt
    rw [← hv] at hDt
    obtain ⟨mu, tu, tu0, tu5⟩ := far_if u
    obtain ⟨mv, tv, tv0, tv5⟩ := far_if v
    rw [tu0, tu5] at hBt
    rw [tv0, tv5] at hDt
    have hT1 := hide (fun w => told_true u mu w tu)
    have hT2 := hide (fun w => told_true v mv w tv)
    obtain ⟨mi, hmi⟩ : ∃ mi, mi = ins.length := ⟨_, rfl⟩
    obtain ⟨me, hme⟩ : ∃ me, me = es.length := ⟨_, rfl⟩
    unfold NetRow at hIn
    unfold NetBack1 at hOf
    unfold RowBack at hR1 hR2
    rw [← hmi] at hR1 hIn
    rw [← hme] at hR2
    generalize (if mu = true then (0 : Int) else u) = u0 at *
    generalize (if mu = true then (5 : Int) else 0) = u5 at *
    generalize (if mv = true then (0 : Int) else v) = v0 at *
    generalize (if mv = true then (5 : Int) else 0) = v5 at *
    replace hBt := hide hBt
    replace hDt := hide hDt
    replace hIn := hide hIn
    replace hOf := hide hOf
    replace hR1 := hide hR1
    replace hR2 := hide hR2
    replace hu := hide hu
    replace hv := hide hv
    replace hmi := hide hmi
    replace hme := hide hme
    clear hl0 h0 hps g0 hcl hgr hgi hil hgl tu tv tu0 tu5 tv0 tv5 p0 p2
    have hyy : (0 : Int) ≤ (y : Int) ∧ (y : Int) < (cs0.length : Int) := by omega
    go_enter Try.func14, Try.ntmps14
    go_wp2_with fail
    refine (hBt.out _ w.heap.size (by simp) (r0.out.below ((by repeat (first | with_reducible exact Below.refl _ _ | with_reducible assumption | with_reducible refine up_drewN ?_ | with_reducible refine up_drew ?_ | (with_reducible refine up_alloc ?_ ?_; rotate_left; (first | omega | (simp <;> omega) | simp)) | (with_reducible refine up_set ?_ ?_; rotate_left; (first | omega | (simp <;> omega) | simp)) | (with_reducible refine Below.trans ?_ (Below.mono (by with_reducible assumption) ?_); rotate_left; (first | omega | (simp <;> omega) | simp)))) : Below w.heap.size w _) (Nat.le_refl _))).mono ?_
    rintro e w1 ⟨rfl, hb1⟩
    obtain ⟨hc1, hf1⟩ := bcell hb1; have hz1 : w.heap.size < w1.heap.size := (by have := hb1.size; (try simp at this); omega)
    have hbw1 := hide (show Below w.heap.size w w1 from (by repeat (first | with_reducible exact Below.refl _ _ | with_reducible assumption | with_reducible refine up_drewN ?_ | with_reducible refine up_drew ?_ | (with_reducible refine up_alloc ?_ ?_; rotate_left; (first | omega | (simp <;> omega) | simp)) | (with_reducible refine up_set ?_ ?_; rotate_left; (first | omega | (simp <;> omega) | simp)) | (with_reducible refine Below.trans ?_ (Below.mono (by with_reducible assumption) ?_); rotate_left; (first | omega | (simp <;> omega) | simp)))))
    have j0 := (hc1 w.heap.size 0 (by simp)).trans (show _ = some (Value.int .i64 x0) by simp [go_sem])
    have j1 := (hc1 w.heap.size 1 (by simp)).trans (show _ = some (Value.int .i64 y0) by simp [go_sem])
    have j2 := (hc1 w.heap.size 2 (by simp)).trans (show _ = some (Value.slice a0 cs0.length cap0) by simp [go_sem])
    clear hb1 hc1 hf1
    go_wp2_with fail
    refine (hDt.out _ w.heap.size (by omega) (r0.out.below hbw1.out (Nat.le_refl _))).mono ?_
    rintro e w2 ⟨rfl, hb2⟩
    have k0 := cu_below hb2 j0 hz1
    have k1' := cu_below hb2 j1 hz1
    have k2 := cu_below hb2 j2 hz1
    have hz2 : w.heap.size < w2.heap.size := cell_lt k0
    have hbw2 := hide (hbw1.out.trans (hb2.mono (by omega)))
    clear hb2 j0 j1 j2
    go_wp2_with fail
    refine (hL1.out w2.heap.size _ (w2.heap.size + 1) (by simp) ((r0.out.below (up_alloc hbw2.out (by omega)) (Nat.le_refl _)).mono (by omega)) ((row2 (by simp [go_sem]) (by simp [go_sem])).mono (by simp))).mono ?_
    rintro e w3 ⟨rfl, hb3⟩
    have hb3w := hide (unalloc (hb3.mono (by simp)) (Nat.le_refl _) : Below w2.heap.size w2 w3)
    have j0 := cu_below hb3w.out k0 hz2
    have j1 := cu_below hb3w.out k1' hz2
    have j2 := cu_below hb3w.out k2 hz2
    have hz3 : w.heap.size < w3.heap.size := cell_lt j0
    have hbw3 := hide (hbw2.out.trans (hb3w.out.mono (by omega)))
    clear hb3 hb3w k0 k1' k2
    go_wp2_with fail
    refine (hIn.out _ w.heap.size (by omega) (r0.out.below hbw3.out (Nat.le_refl _))).mono ?_
    rintro e w4 ⟨a4, c4, rfl, hr4, hb4⟩
    have k0 := cu_below hb4 j0 hz3
    have k1' := cu_below hb4 j1 hz3
    have k2 := cu_below hb4 j2 hz3
    have hz4 : w.heap.size < w4.heap.size := cell_lt k0
    have hbw4 := hide (hbw3.out.trans (hb4.mono (by omega)))
    replace hr4 := hide hr4
    clear hb4 j0 j1 j2
    go_wp2_with fail
    refine (hR1.out a4 c4 _ w4.heap.size (Nat.le_refl _) hr4.out).mono ?_
    rintro e w5 ⟨a5, c5, rfl, hr5, hb5⟩
    obtain ⟨b5, o5, rfl, hl5, d5⟩ := hr5.atI y hyn
    rw [← hu.out] at d5
    have j0 := cu_below hb5 k0 hz4
    have j1 := cu_below hb5 k1' hz4
    have j2 := cu_below hb5 k2 hz4
    have hz5 : w.heap.size < w5.heap.size := cell_lt j0
    have hbw5 := hide (hbw4.out.trans (hb5.mono (by omega)))
    clear hb5 k0 k1' k2 hr4 hr5
    go_wp2_with fail
    refine (hT1.out _).mono ?_
    rintro e w6 ⟨rfl, hb6⟩
    have k0 := cu_below hb6 j0 hz5
    have k1' := cu_below hb6 j1 hz5
    have k2 := cu_below hb6 j2 hz5
    have hz6 : w.heap.size < w6.heap.size := cell_lt k0
    have hbw6 := hide (hbw5.out.trans (hb6.mono (by omega)))
    clear hb6 j0 j1 j2 d5
    go_wp2_with fail
    refine (hOf.out _ w.heap.size (by omega) (r0.out.below hbw6.out (Nat.le_refl _))).mono ?_
    rintro e w7 ⟨va, rfl, own7, hb7⟩
    obtain ⟨a7, c7, rfl⟩ := own7.shape (n := me) hme.out.symm
    have hr7 := own7.rowE
    have hbw7 := hide (hbw6.out.trans (hb7.mono (by omega)))
    have hz7 : w.heap.size < w7.heap.size := by have := hb7.size; omega
    replace hr7 := hide hr7
    clear hb7 own7 k0 k1' k2
    go_wp2_with fail
    refine (hR2.out a7 c7 _ w7.heap.size (Nat.le_refl _) hr7.out).mono ?_
    rintro e w8 ⟨a8, c8, rfl, hr8, hb8⟩
    obtain ⟨b8, o8, rfl, hl8, d8⟩ := hr8.atI y hyn
    rw [← hv.out] at d8
    have hbw8 := hide (hbw7.out.trans (hb8.mono (by omega)))
    clear hb8 hr8 hr7
    go_wp2_with fail
    refine (hT2.out _).mono ?_
    rintro e w9 ⟨rfl, hb9⟩
    have hz8 : w.heap.size ≤ w8.heap.size := hbw8.out.size
    have hbw9 := hide (hbw8.out.trans (hb9.mono hz8))
    go_wp2
    go_ret
    exact ⟨rfl, hbw9.out⟩
  · have hBt := hide (fun w B hB hE => hbet_bad x0 y0 x1 x2 x3 a0 cap0 cs0 w B hB hE hl h0)
    have hDt := hide (fun w B hB hE => hdst_bad x0 y0 x1 x2 x3 a0 cap0 cs0 w B hB hE hl h0)
    have q0 : (hcErr x0 y0 cs0 x1 [x2, x3] != 0) = true := by simp [h0]
    have q1 : (hcErr x0 y0 cs0 x1 [x2, x3] == hcErr x0 y0 cs0 x1 [x2, x3]) = true := by simp
    clear h0
    generalize hcErr x0 y0 cs0 x1 [x2, x3] = er at *
    go_enter Try.func14, Try.ntmps14
    go_wp2_with fail
    refine (hBt.out _ w.heap.size (by simp) (r0.out.below ((by repeat (first | with_reducible exact Below.refl _ _ | with_reducible assumption | with_reducible refine up_drewN ?_ | with_reducible refine up_drew ?_ | (with_reducible refine up_alloc ?_ ?_; rotate_left; (first | omega | (simp <;> omega) | simp)) | (with_reducible refine up_set ?_ ?_; rotate_left; (first | omega | (simp <;> omega) | simp)) | (with_reducible refine Below.trans ?_ (Below.mono (by with_reducible assumption) ?_); rotate_left; (first | omega | (simp <;> omega) | simp)))) : Below w.heap.size w _) (Nat.le_refl _))).mono ?_
    rintro e w1 ⟨rfl, hb1⟩
    obtain ⟨hc1, hf1⟩ := bcell hb1; have hz1 : w.heap.size < w1.heap.size := (by have := hb1.size; (try simp at this); omega)
    have hbw1 := hide (show Below w.heap.size w w1 from (by repeat (first | with_reducible exact Below.refl _ _ | with_reducible assumption | with_reducible refine up_drewN ?_ | with_reducible refine up_drew ?_ | (with_reducible refine up_alloc ?_ ?_; rotate_left; (first | omega | (simp <;> omega) | simp)) | (with_reducible refine up_set ?_ ?_; rotate_left; (first | omega | (simp <;> omega) | simp)) | (with_reducible refine Below.trans ?_ (Below.mono (by with_reducible assumption) ?_); rotate_left; (first | omega | (simp <;> omega) | simp)))))
    have j0 := (hc1 w.heap.size 0 (by simp)).trans (show _ = some (Value.int .i64 x0) by simp [go_sem])
    have j1 := (hc1 w.heap.size 1 (by simp)).trans (show _ = some (Value.int .i64 y0) by simp [go_sem])
    have j2 := (hc1 w.heap.size 2 (by simp)).trans (show _ = some (Value.slice a0 cs0.length cap0) by simp [go_sem])
    clear hb1 hc1 hf1
    go_wp2_with fail
    refine (hDt.out _ w.heap.size (by omega) (r0.out.below hbw1.out (Nat.le_refl _))).mono ?_
    rintro e w2 ⟨rfl, hb2⟩
    have k0 := cu_below hb2 j0 hz1
    have k1' := cu_below hb2 j1 hz1
    have k2 := cu_below hb2 j2 hz1
    have hz2 : w.heap.size < w2.heap.size := cell_lt k0
    have hbw2 := hide (hbw1.out.trans (hb2.mono (by omega)))
    clear hb2 j0 j1 j2
    go_wp2_with fail
    refine (hL1.out w2.heap.size _ (w2.heap.size + 1) (by simp) ((r0.out.below (up_alloc hbw2.out (by omega)) (Nat.le_refl _)).mono (by omega)) ((row2 (by simp [go_sem]) (by simp [go_sem])).mono (by simp))).mono ?_
    rintro e w3 ⟨rfl, hb3⟩
    have hb3w := hide (unalloc (hb3.mono (by simp)) (Nat.le_refl _) : Below w2.heap.size w2 w3)
    have hbw3 := hide (hbw2.out.trans (hb3w.out.mono (by omega)))
    clear hb3 hb3w k0 k1' k2
    go_wp2
    go_ret
    exact ⟨rfl, hbw3.out⟩
end Go.Proofs.Ytgkiipmeigfjnaa
