/-
  The walk of felllaw.HeurChecks: it returns true. Conditions: the arguments read as data.
-/
import Derived.Test.YtjidomfnngdomaaHeurR
import Derived.Test.YtjidomfnngdomaaOpen
import Derived.Deep.RegionHeld3
namespace Go.Proofs.Ytjidomfnngdomaa
open Go.RowKit
set_option linter.unusedSimpArgs false
set_option linter.unusedVariables false
theorem guess_both (N : Int) (a : Option Addr) (cap : Nat) (es : List Ed) (x : Int) (ah : Option Addr) (ch : Nat) (h : List Int) (hl : es.length ≤ 9223372036854775807) (hl2 : h.length ≤ 9223372036854775807) :
    ∃ err : Int, ∀ (w : World), Row encE 3 w w.heap.size a es → Row encI 1 w w.heap.size ah h →
      (Calls Try.prog 23 #[.agg #[.int .i64 N, .slice a es.length cap], .int .i64 x, .slice ah h.length ch] w fun e w' => e = .returned (.int .i64 err) ∧ Below w.heap.size w w') ∧
      (Calls Try.prog 24 #[.agg #[.int .i64 N, .slice a es.length cap], .int .i64 x, .slice ah h.length ch] w fun e w' => e = .returned (.int .i64 err) ∧ Below w.heap.size w w') := by
  by_cases h0 : lookErr N es [x] = 0
  · obtain ⟨g1, g2⟩ := look_ok h0
    obtain ⟨g3, g4⟩ := posErr_ok g1
    obtain ⟨n1, n2, n3, n4⟩ := netErr_ok g3
    obtain ⟨n, rfl⟩ := Int.eq_ofNat_of_zero_le (show 0 ≤ N by omega)
    have g5 := g2 x (by simp)
    obtain ⟨t, rfl⟩ := Int.eq_ofNat_of_zero_le g5.1
    exact ⟨_, fun w hE hH => ⟨hcheck_ok n a cap es t ah ch h w _ (Nat.le_refl _) hE hH hl hl2 h0, rguess_ok n a cap es t ah ch h w _ (Nat.le_refl _) hE hH hl hl2 h0⟩⟩
  · exact ⟨_, fun w hE hH => ⟨hcheck_bad N a cap es x ah ch h w _ (Nat.le_refl _) hE hl h0, rguess_bad N a cap es x ah ch h w _ (Nat.le_refl _) hE hl h0⟩⟩
set_option maxRecDepth 100000 in
set_option maxHeartbeats 2000000 in
theorem walk_HeurChecks (x0 : Int) (a0 : Option Addr) (cap0 : Nat) (es0 : List Ed) (x1 : Int) (a2 : Option Addr) (cap2 : Nat) (x2 : List Int) (w : World) (b0 : Bd x0) (l0 : es0.length ≤ cap0) (m0 : cap0 ≤ maxLen) (r0 : Row encE 3 w w.heap.size a0 es0) (be0 : ∀ x ∈ es0, BdE x) (b1 : Bd x1) (l2 : x2.length ≤ cap2) (m2 : cap2 ≤ maxLen) (r2 : Row encI 1 w w.heap.size a2 x2) (b2 : ∀ x ∈ x2, Bd x) :
    Calls Try.prog 5 #[.agg #[.int .i64 x0, .slice a0 es0.length cap0], .int .i64 x1, .slice a2 x2.length cap2] w fun e w' => e = .returned (.bool true) ∧ Below w.heap.size w w' := by
  have hl : es0.length ≤ 9223372036854775807 := by unfold maxLen at m0; omega
  have hl1 : x2.length ≤ 9223372036854775807 := by unfold maxLen at m2; omega
  obtain ⟨err, hG⟩ := guess_both x0 a0 cap0 es0 x1 a2 cap2 x2 hl hl1
  replace hG := hide hG
  replace r0 := hide r0
  replace r2 := hide r2
  replace be0 := hide be0
  replace b2 := hide b2
  go_enter Try.func5, Try.ntmps5
  go_wp2
  obtain ⟨w0, h0⟩ : ∃ w0, w0 = w.alloc (.cells #[.int .i64 x0, .slice a0 es0.length cap0] 27) := ⟨_, rfl⟩
  have hB0 : Below w.heap.size w w0 := by rw [h0]; exact (Below.refl _ _).alloc (Nat.le_refl _) _
  have c0 : w0.cell? ⟨w.heap.size, 0, none⟩ = some (.int .i64 x0) := by rw [h0]; simp [go_sem]
  have c1 : w0.cell? ⟨w.heap.size, 1, none⟩ = some (.slice a0 es0.length cap0) := by rw [h0]; simp [go_sem]
  have hz0 : w.heap.size < w0.heap.size := cell_lt c0
  have key := hide (show ∀ w', Below w0.heap.size w0 w' → (Below w0.heap.size w0 w' ∧ w'.cell? ⟨w.heap.size, 0, none⟩ = some (.int .i64 x0) ∧ w'.cell? ⟨w.heap.size, 1, none⟩ = some (.slice a0 es0.length cap0)) from
    fun w' hb => ⟨hb, (hb.cell (cell_lt c0)).trans c0, (hb.cell (cell_lt c1)).trans c1⟩)
  have hE0 := hide ((r0.out.below hB0 (Nat.le_refl _)).mono (show w.heap.size ≤ w0.heap.size by omega))
  have hH0 := hide ((r2.out.below hB0 (Nat.le_refl _)).mono (show w.heap.size ≤ w0.heap.size by omega))
  simp only [← h0]
  replace hB0 := hide hB0
  clear h0 c0 c1
  go_region_held3 (fun w' => Below w0.heap.size w0 w' ∧ w'.cell? ⟨w.heap.size, 0, none⟩ = some (.int .i64 x0) ∧ w'.cell? ⟨w.heap.size, 1, none⟩ = some (.slice a0 es0.length cap0))
    (first | exact key.out _ (below_drew _) | exact key.out _ (by assumption))
    (first
      | (go_at_call 23; have hb4 := (‹Below w0.heap.size w0 _ ∧ _› : _ ∧ _).1; refine (hG.out _ ((hE0.out.below hb4 (Nat.le_refl _)).mono hb4.size) ((hH0.out.below hb4 (Nat.le_refl _)).mono hb4.size)).1.mono ?_; rintro e w4 ⟨rfl, hb5⟩; have hb6 := below_step hb4 hb5)
      | (go_at_call 24; have hb7 := (‹Below w0.heap.size w0 _ ∧ _› : _ ∧ _).1; refine (hG.out _ ((hE0.out.below hb7 (Nat.le_refl _)).mono hb7.size) ((hH0.out.below hb7 (Nat.le_refl _)).mono hb7.size)).2.mono ?_; rintro e w5 ⟨rfl, hb8⟩; have hb9 := below_step hb7 hb8))
  all_goals
    have hb10 := (‹Below w0.heap.size w0 _ ∧ _› : _ ∧ _).1
    go_wp2
    go_ret
    exact ⟨rfl, hB0.out.trans (hb10.mono hB0.out.size)⟩
end Go.Proofs.Ytjidomfnngdomaa
