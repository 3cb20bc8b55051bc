/-
  What span.Neck returns. Conditions: that the slice reads.
-/
import Derived.Test.YtgkiipmeigfjnaaNeckT
import Derived.Test.YtgkiipmeigfjnaaRNeck2
namespace Go.Proofs.Ytgkiipmeigfjnaa
open Go.RowKit
set_option linter.unusedSimpArgs false
set_option linter.unusedVariables false
set_option maxRecDepth 100000 in
set_option maxHeartbeats 1000000 in
theorem neck_bad (N a b : Int) (an : Option Addr) (cap : Nat) (es : List Ed) (w : World) (B : Nat) (hB : B ≤ w.heap.size) (hE : Row encE 3 w B an es) (hl : es.length ≤ 9223372036854775807) (h0 : netErr N es ≠ 0) :
    Calls Try.prog 15 #[.agg #[.int .i64 N, .slice an es.length cap], .int .i64 a, .int .i64 b] w fun e w' => e = .returned (.tuple #[.int .i64 0, .int .i64 (netErr N es)]) ∧ Below w.heap.size w w' := by
  have q0 : (netErr N es != 0) = true := by simp [h0]
  replace hE := hide hE
  clear h0
  go_enter Try.func15, Try.ntmps15
  go_wp2_with fail
  refine (check_any N an cap es _ B (by simp <;> omega) (hE.out.below ((by repeat (first | with_reducible exact Below.refl _ _ | with_reducible assumption | with_reducible refine up_drewN ?_ | with_reducible refine up_drew ?_ | (with_reducible refine up_alloc ?_ ?_; rotate_left; (first | omega | (simp <;> omega) | simp)) | (with_reducible refine up_set ?_ ?_; rotate_left; (first | omega | (simp <;> omega) | simp)) | (with_reducible refine Below.trans ?_ (Below.mono (by with_reducible assumption) ?_); rotate_left; (first | omega | (simp <;> omega) | simp)))) : Below w.heap.size w _) hB) hl).mono ?_
  rintro e w1 ⟨rfl, hb1⟩
  go_wp2
  go_ret2
  exact ⟨rfl, (by repeat (first | with_reducible exact Below.refl _ _ | with_reducible assumption | with_reducible refine up_drewN ?_ | with_reducible refine up_drew ?_ | (with_reducible refine up_alloc ?_ ?_; rotate_left; (first | omega | (simp <;> omega) | simp)) | (with_reducible refine up_set ?_ ?_; rotate_left; (first | omega | (simp <;> omega) | simp)) | (with_reducible refine Below.trans ?_ (Below.mono (by with_reducible assumption) ?_); rotate_left; (first | omega | (simp <;> omega) | simp))))⟩
set_option maxRecDepth 100000 in
set_option maxHeartbeats 2000000 in
theorem neck_arg (N a b : Int) (an : Option Addr) (cap : Nat) (es : List Ed) (w : World) (B : Nat) (hB : B ≤ w.heap.size) (hE : Row encE 3 w B an es) (hl : es.length ≤ 9223372036854775807) (h0 : netErr N es = 0) (hab : a < 0 ∨ N ≤ a ∨ b < 0 ∨ N ≤ b ∨ a = b) :
    Calls Try.prog 15 #[.agg #[.int .i64 N, .slice an es.length cap], .int .i64 a, .int .i64 b] w fun e w' => e = .returned (.tuple #[.int .i64 0, .int .i64 1]) ∧ Below w.heap.size w w' := by
  have hC := hide (show ∀ w B, _ from fun w B hB hE => by have := check_any N an cap es w B hB hE hl; rwa [h0] at this)
  replace hE := hide hE
  clear h0
  have hd : a < 0 ∨ (0 ≤ a ∧ N ≤ a) ∨ (0 ≤ a ∧ a < N ∧ b < 0) ∨ (0 ≤ a ∧ a < N ∧ 0 ≤ b ∧ N ≤ b) ∨ (0 ≤ a ∧ a < N ∧ 0 ≤ b ∧ b < N ∧ (a == b) = true) := by
    by_cases h : a = b
    · subst h; simp only [beq_self_eq_true, and_true]; omega
    · omega
  clear hab
  rcases hd with h1 | ⟨h1, h2⟩ | ⟨h1, h2, h3⟩ | ⟨h1, h2, h3, h4⟩ | ⟨h1, h2, h3, h4, h5⟩
  all_goals
    go_enter Try.func15, Try.ntmps15
    go_wp2_with fail
    refine (hC.out _ B (by simp <;> omega) (hE.out.below ((by repeat (first | with_reducible exact Below.refl _ _ | with_reducible assumption | with_reducible refine up_drewN ?_ | with_reducible refine up_drew ?_ | (with_reducible refine up_alloc ?_ ?_; rotate_left; (first | omega | (simp <;> omega) | simp)) | (with_reducible refine up_set ?_ ?_; rotate_left; (first | omega | (simp <;> omega) | simp)) | (with_reducible refine Below.trans ?_ (Below.mono (by with_reducible assumption) ?_); rotate_left; (first | omega | (simp <;> omega) | simp)))) : Below w.heap.size w _) hB)).mono ?_
    rintro e w1 ⟨rfl, hb1⟩
    have k0 : w1.cell? ⟨w.heap.size, 0, none⟩ = some (.int .i64 N) := cu_below hb1 (by simp [go_sem]) (by simp <;> omega)
    have k2 : w1.cell? ⟨w.heap.size + 1, 0, none⟩ = some (.int .i64 a) := cu_below hb1 (by simp [go_sem]) (by simp <;> omega)
    have k3 : w1.cell? ⟨w.heap.size + 1 + 1, 0, none⟩ = some (.int .i64 b) := cu_below hb1 (by simp [go_sem]) (by simp <;> omega)
    have hz1 : w.heap.size + 1 + 1 < w1.heap.size := cell_lt k3
    have hz2 : w.heap.size + 1 < w1.heap.size := by omega
    have hz3 : w.heap.size < w1.heap.size := by omega
    have hbw := hide (show Below w.heap.size w w1 from (by repeat (first | with_reducible exact Below.refl _ _ | with_reducible assumption | with_reducible refine up_drewN ?_ | with_reducible refine up_drew ?_ | (with_reducible refine up_alloc ?_ ?_; rotate_left; (first | omega | (simp <;> omega) | simp)) | (with_reducible refine up_set ?_ ?_; rotate_left; (first | omega | (simp <;> omega) | simp)) | (with_reducible refine Below.trans ?_ (Below.mono (by with_reducible assumption) ?_); rotate_left; (first | omega | (simp <;> omega) | simp)))))
    clear hb1
    go_wp2
    go_ret2
    exact ⟨rfl, hbw.out⟩
set_option maxRecDepth 100000 in
set_option maxHeartbeats 2000000 in
theorem neck_ok (n a b : Nat) (an : Option Addr) (cap : Nat) (es : List Ed) (w : World) (B : Nat) (hB : B ≤ w.heap.size) (hE : Row encE 3 w B an es) (hl : es.length ≤ 9223372036854775807) (h0 : netErr (n : Int) es = 0) (ha : a < n) (hb : b < n) (hab : a ≠ b) :
    Calls Try.prog 15 #[.agg #[.int .i64 (n : Int), .slice an es.length cap], .int .i64 (a : Int), .int .i64 (b : Int)] w (NeckBack es a b w) := by
  obtain ⟨n1, n2, n3, n4⟩ := netErr_ok h0
  have hes : Right n es := n4
  have hC := hide (show ∀ w B, _ from fun w B hB hE => by have := check_any (n : Int) an cap es w B hB hE hl; rwa [h0] at this)
  have hT := hide (fun ba bb bg bn be w B hB hE => tree_neck n a b an cap es ba bb bg bn be w B hB hE (by omega) (by omega) n3 hes ha hb hab)
  have q1 : (0 : Int) ≤ (a : Int) ∧ (a : Int) < (n : Int) := by omega
  have q2 : (0 : Int) ≤ (b : Int) ∧ (b : Int) < (n : Int) := by omega
  have q3 : ((a : Int) == (b : Int)) = false := by simp; omega
  replace hE := hide hE
  clear h0 n4 hes
  go_enter Try.func15, Try.ntmps15
  go_wp2_with fail
  refine (hC.out _ B (by simp <;> omega) (hE.out.below ((by repeat (first | with_reducible exact Below.refl _ _ | with_reducible assumption | with_reducible refine up_drewN ?_ | with_reducible refine up_drew ?_ | (with_reducible refine up_alloc ?_ ?_; rotate_left; (first | omega | (simp <;> omega) | simp)) | (with_reducible refine up_set ?_ ?_; rotate_left; (first | omega | (simp <;> omega) | simp)) | (with_reducible refine Below.trans ?_ (Below.mono (by with_reducible assumption) ?_); rotate_left; (first | omega | (simp <;> omega) | simp)))) : Below w.heap.size w _) hB)).mono ?_
  rintro e w1 ⟨rfl, hb1⟩
  have k0 : w1.cell? ⟨w.heap.size, 0, none⟩ = some (.int .i64 (n : Int)) := cu_below hb1 (by simp [go_sem]) (by simp <;> omega)
  have k1 : w1.cell? ⟨w.heap.size, 1, none⟩ = some (.slice an es.length cap) := cu_below hb1 (by simp [go_sem]) (by simp <;> omega)
  have k2 : w1.cell? ⟨w.heap.size + 1, 0, none⟩ = some (.int .i64 (a : Int)) := cu_below hb1 (by simp [go_sem]) (by simp <;> omega)
  have k3 : w1.cell? ⟨w.heap.size + 1 + 1, 0, none⟩ = some (.int .i64 (b : Int)) := cu_below hb1 (by simp [go_sem]) (by simp <;> omega)
  have hz1 : w.heap.size + 1 + 1 < w1.heap.size := cell_lt k3
  have hz2 : w.heap.size + 1 < w1.heap.size := by omega
  have hz3 : w.heap.size < w1.heap.size := by omega
  have hbw := hide (show Below w.heap.size w w1 from (by repeat (first | with_reducible exact Below.refl _ _ | with_reducible assumption | with_reducible refine up_drewN ?_ | with_reducible refine up_drew ?_ | (with_reducible refine up_alloc ?_ ?_; rotate_left; (first | omega | (simp <;> omega) | simp)) | (with_reducible refine up_set ?_ ?_; rotate_left; (first | omega | (simp <;> omega) | simp)) | (with_reducible refine Below.trans ?_ (Below.mono (by with_reducible assumption) ?_); rotate_left; (first | omega | (simp <;> omega) | simp)))))
  clear hb1 hC
  go_wp2_with fail
  refine (hT.out (w.heap.size + 1) (w.heap.size + 1 + 1) w.heap.size w1.heap.size (w1.heap.size + 1) _ B (by simp; omega) (hE.out.below (up_alloc (up_alloc hbw.out (by omega)) (by simp; omega)) hB) (cu_alloc (cu_alloc k2)) (cu_alloc (cu_alloc k3)) (cu_alloc (cu_alloc k1)) (by simp [go_sem]) (by simp [go_sem]) (by simp [go_sem]) (by simp [go_sem]) (by omega)).mono ?_
  rintro e w2 ⟨v, best, x, rfl, hN, d1, d2, hK⟩
  have l1 := cell_lt d1
  have l2 := cell_lt d2
  have hbf := hide (((up_alloc (up_alloc hbw.out (by omega)) (by simp; omega)) : Below w.heap.size w _).trans (hK.toBelow (fun j hj => by omega) (by simp; omega)))
  replace hN := hide hN
  clear hK k0 k1 k2 k3
  go_wp2
  go_quiet (fail)
  go_wp2
  go_ret2
  exact ⟨best, x, rfl, hN.out, up_drewN hbf.out⟩
end Go.Proofs.Ytgkiipmeigfjnaa
