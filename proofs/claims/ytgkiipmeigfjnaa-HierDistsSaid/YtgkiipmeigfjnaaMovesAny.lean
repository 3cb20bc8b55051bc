/-
  The moves from a place of a grid, whatever the place. Conditions: that the slice reads.
-/
import Derived.Test.YtgkiipmeigfjnaaRMoves
namespace Go.Proofs.Ytgkiipmeigfjnaa
open Go.RowKit
set_option linter.unusedSimpArgs false
set_option linter.unusedVariables false

theorem grid_at {W H p : Int} {cs : List Int} (h0 : gridErr W H cs = 0) (p0 : 0 ≤ p) (p1 : p < cs.length) :
    p.tmod W = p % W ∧ p.tdiv W = p / W ∧ 0 ≤ p % W ∧ p % W < W ∧ 0 ≤ p / W ∧ p / W < H ∧ p = p / W * W + p % W := by
  obtain ⟨b1, b2, b3, b4, hcl, hcs⟩ := gridErr_ok h0
  refine ⟨Int.tmod_eq_emod_of_nonneg p0, Int.tdiv_eq_ediv_of_nonneg p0, Int.emod_nonneg _ (by omega), Int.emod_lt_of_pos _ (by omega), Int.ediv_nonneg p0 (by omega), ?_, ?_⟩
  · refine Int.ediv_lt_of_lt_mul (by omega) ?_
    rw [Int.mul_comm H W, ← hcl]; exact p1
  · have := Int.mul_ediv_add_emod p W
    rw [Int.mul_comm] at this
    exact this.symm
def gridMoves (W H : Int) (cs : List Int) (p : Int) : List Ed := mlist (groundV W H cs (p % W) (p / W)) W H cs p (p % W) (p / W) 8

theorem moves_anyZ (W H p : Int) (a : Option Addr) (cap : Nat) (cs : List Int) (w : World) (B : Nat) (hB : B ≤ w.heap.size) (hE : Row encI 1 w B a cs) (hl : cs.length ≤ 9223372036854775807) (xs : List Ed) (err : Int)
    (hx : (gridErr W H cs ≠ 0 ∧ err = gridErr W H cs ∧ xs = []) ∨ (gridErr W H cs = 0 ∧ (p < 0 ∨ p ≥ cs.length) ∧ err = 1 ∧ xs = []) ∨ (gridErr W H cs = 0 ∧ 0 ≤ p ∧ p < cs.length ∧ err = 0 ∧ xs = gridMoves W H cs p)) :
    Calls Try.prog 157 #[.agg #[.int .i64 W, .int .i64 H, .slice a cs.length cap], .int .i64 p] w (RowRetZ encE 3 xs err w) := by
  have hC := fun w hB hE => gcheck_any W H a cap cs w B hB hE hl
  rcases hx with ⟨h0, rfl, rfl⟩ | ⟨h0, hv, rfl, rfl⟩ | ⟨h0, v0, v1, rfl, rfl⟩
  · have q0 : (gridErr W H cs != 0) = true := by simp [h0]
    replace hC := hide hC
    replace hE := hide hE
    clear h0
    go_enter Try.func157, Try.ntmps157
    go_wp2_with fail
    refine (hC.out _ (by simp; omega) (hE.out.below ((by repeat (first | with_reducible exact Below.refl _ _ | with_reducible assumption | with_reducible refine up_drewN ?_ | with_reducible refine up_drew ?_ | (with_reducible refine up_alloc ?_ ?_; rotate_left; (first | omega | (simp <;> omega) | simp)) | (with_reducible refine up_set ?_ ?_; rotate_left; (first | omega | (simp <;> omega) | simp)) | (with_reducible refine Below.trans ?_ (Below.mono (by with_reducible assumption) ?_); rotate_left; (first | omega | (simp <;> omega) | simp)))) : Below w.heap.size w _) hB)).mono ?_
    rintro e w1 ⟨rfl, hb1⟩
    go_wp2
    go_ret2
    exact ⟨none, 0, rfl, Row.nil _ _ _ _ _, (by repeat (first | with_reducible exact Below.refl _ _ | with_reducible assumption | with_reducible refine up_drewN ?_ | with_reducible refine up_drew ?_ | (with_reducible refine up_alloc ?_ ?_; rotate_left; (first | omega | (simp <;> omega) | simp)) | (with_reducible refine up_set ?_ ?_; rotate_left; (first | omega | (simp <;> omega) | simp)) | (with_reducible refine Below.trans ?_ (Below.mono (by with_reducible assumption) ?_); rotate_left; (first | omega | (simp <;> omega) | simp)))), fun _ => rfl⟩
  · rw [h0] at hC
    replace hC := hide hC
    replace hE := hide hE
    clear h0
    go_enter Try.func157, Try.ntmps157
    go_wp2_with fail
    refine (hC.out _ (by simp; omega) (hE.out.below ((by repeat (first | with_reducible exact Below.refl _ _ | with_reducible assumption | with_reducible refine up_drewN ?_ | with_reducible refine up_drew ?_ | (with_reducible refine up_alloc ?_ ?_; rotate_left; (first | omega | (simp <;> omega) | simp)) | (with_reducible refine up_set ?_ ?_; rotate_left; (first | omega | (simp <;> omega) | simp)) | (with_reducible refine Below.trans ?_ (Below.mono (by with_reducible assumption) ?_); rotate_left; (first | omega | (simp <;> omega) | simp)))) : Below w.heap.size w _) hB)).mono ?_
    rintro e w1 ⟨rfl, hb1⟩
    obtain ⟨hc1, hf1⟩ := bcell hb1; have hz1 : w.heap.size < w1.heap.size := (by have := hb1.size; (try simp at this); omega)
    go_wp2_with fail
    all_goals first
      | (go_ret2
         exact ⟨none, 0, rfl, Row.nil _ _ _ _ _, (by repeat (first | with_reducible exact Below.refl _ _ | with_reducible assumption | with_reducible refine up_drewN ?_ | with_reducible refine up_drew ?_ | (with_reducible refine up_alloc ?_ ?_; rotate_left; (first | omega | (simp <;> omega) | simp)) | (with_reducible refine up_set ?_ ?_; rotate_left; (first | omega | (simp <;> omega) | simp)) | (with_reducible refine Below.trans ?_ (Below.mono (by with_reducible assumption) ?_); rotate_left; (first | omega | (simp <;> omega) | simp)))), fun _ => rfl⟩)
      | (exfalso; omega)
  · obtain ⟨g1, g2, g3, g4, g5, g6, g7⟩ := grid_at h0 v0 v1
    refine moves_okZ W H p (p % W) (p / W) a cap cs w B hB hE h0 v0 v1 g1 g2 g3 g4 g5 g6 _ ?_
    unfold gridMoves mlist
    by_cases q : groundV W H cs (p % W) (p / W) = 0
    · exact .inl ⟨q, by rw [if_pos q]⟩
    · exact .inr ⟨q, by rw [if_neg q]⟩

theorem rmoves_anyZ (W H p : Int) (a : Option Addr) (cap : Nat) (cs : List Int) (w : World) (B : Nat) (hB : B ≤ w.heap.size) (hE : Row encI 1 w B a cs) (h0 : gridErr W H cs = 0) (p0 : 0 ≤ p) (p1 : p < cs.length) :
    Calls Try.prog 127 #[.agg #[.int .i64 W, .int .i64 H, .slice a cs.length cap], .int .i64 p] w (RowRet1Z encE 3 (gridMoves W H cs p) w) := by
  obtain ⟨g1, g2, g3, g4, g5, g6, g7⟩ := grid_at h0 p0 p1
  exact rmoves_okZ W H p (p % W) (p / W) a cap cs w B hB hE h0 p0 p1 g1 g2 g3 g4 g5 g6 g7
/-- the net of a grid: the moves from each place, one after the other -/
def gridNet (W H : Int) (cs : List Int) (k : Nat) : List Ed := (List.range k).flatMap fun (i : Nat) => gridMoves W H cs (i : Int)
theorem gridNet_succ (W H : Int) (cs : List Int) (k : Nat) : gridNet W H cs (k + 1) = gridNet W H cs k ++ gridMoves W H cs (k : Int) := by simp [gridNet, List.range_succ]
theorem gridNet_len (W H : Int) (cs : List Int) : ∀ k, (gridNet W H cs k).length ≤ 8 * k
  | 0 => by simp [gridNet]
  | k + 1 => by
    have h1 := gridNet_len W H cs k
    have h2 : (gridMoves W H cs (k : Int)).length ≤ 8 := mlist_len ..
    rw [gridNet_succ, List.length_append]
    omega
end Go.Proofs.Ytgkiipmeigfjnaa
