/-
  The walk of felllaw.WalkCosts: it returns true. Conditions: the arguments read as data.
-/
import Derived.Test.YtmhgemolgcnpoaaRWCost
import Derived.Test.YtmhgemolgcnpoaaOpen
namespace Go.Proofs.Ytmhgemolgcnpoaa
open Go.RowKit
set_option linter.unusedSimpArgs false
set_option linter.unusedVariables false
/-- both, whatever they are given -/
theorem wcost_any (N : Int) (a : Option Addr) (cap : Nat) (es : List Ed) (pa : Option Addr) (pc : Nat) (p : List Int) (w : World) (B : Nat) (hB : B ≤ w.heap.size) (hE : Row encE 3 w B a es) (hP : Row encI 1 w B pa p) (hl : es.length ≤ 9223372036854775807) (hlp : p.length ≤ 9223372036854775807) :
    Calls Try.prog 19 #[.agg #[.int .i64 N, .slice a es.length cap], .slice pa p.length pc] w (PairBack (wcost N es p) w) := by
  by_cases h : netErr N es ≠ 0 ∨ p.length = 0 ∨ p.length > 100
  · exact wcost_bad N a cap es pa pc p w B hB hE hl hlp h
  · have h0 : netErr N es = 0 := by
      by_cases h1 : netErr N es = 0
      · exact h1
      · exact absurd (.inl h1) h
    obtain ⟨n, rfl⟩ := Int.eq_ofNat_of_zero_le (show 0 ≤ N by have := netErr_ok h0; omega)
    exact wcost_ok n a cap es pa pc p w B hB hE hP hl h0 (by omega) (by omega)
theorem rwcost_any (N : Int) (a : Option Addr) (cap : Nat) (es : List Ed) (pa : Option Addr) (pc : Nat) (p : List Int) (w : World) (B : Nat) (hB : B ≤ w.heap.size) (hE : Row encE 3 w B a es) (hP : Row encI 1 w B pa p) (hl : es.length ≤ 9223372036854775807) (hlp : p.length ≤ 9223372036854775807) :
    Calls Try.prog 20 #[.agg #[.int .i64 N, .slice a es.length cap], .slice pa p.length pc] w (PairBack (wcost N es p) w) := by
  by_cases h : netErr N es ≠ 0 ∨ p.length = 0 ∨ p.length > 100
  · exact rwcost_bad N a cap es pa pc p w B hB hE hl hlp h
  · have h0 : netErr N es = 0 := by
      by_cases h1 : netErr N es = 0
      · exact h1
      · exact absurd (.inl h1) h
    obtain ⟨n, rfl⟩ := Int.eq_ofNat_of_zero_le (show 0 ≤ N by have := netErr_ok h0; omega)
    exact rwcost_ok n a cap es pa pc p w B hB hE hP hl h0 (by omega) (by omega)
set_option maxRecDepth 100000 in
set_option maxHeartbeats 1000000 in
theorem walk_WalkCosts (x0 : Int) (a0 : Option Addr) (cap0 : Nat) (es0 : List Ed) (a1 : Option Addr) (cap1 : Nat) (x1 : List Int) (w : World) (b0 : Bd x0) (l0 : es0.length ≤ cap0) (m0 : cap0 ≤ maxLen) (r0 : Row encE 3 w w.heap.size a0 es0) (be0 : ∀ x ∈ es0, BdE x) (l1 : x1.length ≤ cap1) (m1 : cap1 ≤ maxLen) (r1 : Row encI 1 w w.heap.size a1 x1) (b1 : ∀ x ∈ x1, Bd x) :
    Calls Try.prog 4 #[.agg #[.int .i64 x0, .slice a0 es0.length cap0], .slice a1 x1.length cap1] w fun e w' => e = .returned (.bool true) ∧ Below w.heap.size w w' := by
  have hl : es0.length ≤ 9223372036854775807 := by unfold maxLen at m0; omega
  have hl1 : x1.length ≤ 9223372036854775807 := by unfold maxLen at m1; omega
  replace r0 := hide r0
  replace r1 := hide r1
  obtain ⟨v, hv⟩ : ∃ v, v = wcost x0 es0 x1 := ⟨_, rfl⟩
  obtain ⟨v1, v2⟩ := v
  have hA := hide (show ∀ w B, B ≤ w.heap.size → Row encE 3 w B a0 es0 → Row encI 1 w B a1 x1 → Calls Try.prog 19 #[.agg #[.int .i64 x0, .slice a0 es0.length cap0], .slice a1 x1.length cap1] w (PairBack (v1, v2) w) from fun w B h1 h2 h3 => by rw [hv]; exact wcost_any x0 a0 cap0 es0 a1 cap1 x1 w B h1 h2 h3 hl hl1)
  have hR := hide (show ∀ w B, B ≤ w.heap.size → Row encE 3 w B a0 es0 → Row encI 1 w B a1 x1 → Calls Try.prog 20 #[.agg #[.int .i64 x0, .slice a0 es0.length cap0], .slice a1 x1.length cap1] w (PairBack (v1, v2) w) from fun w B h1 h2 h3 => by rw [hv]; exact rwcost_any x0 a0 cap0 es0 a1 cap1 x1 w B h1 h2 h3 hl hl1)
  clear hv be0 b1
  go_enter Try.func4, Try.ntmps4
  go_wp2_with fail
  refine (hA.out _ w.heap.size (by simp) (r0.out.below ((by repeat (first | with_reducible exact Below.refl _ _ | with_reducible assumption | with_reducible refine up_drewN ?_ | with_reducible refine up_drew ?_ | (with_reducible refine up_alloc ?_ ?_; rotate_left; (first | omega | (simp <;> omega) | simp)) | (with_reducible refine up_set ?_ ?_; rotate_left; (first | omega | (simp <;> omega) | simp)) | (with_reducible refine Below.trans ?_ (Below.mono (by with_reducible assumption) ?_); rotate_left; (first | omega | (simp <;> omega) | simp)))) : Below w.heap.size w _) (Nat.le_refl _)) (r1.out.below ((by repeat (first | with_reducible exact Below.refl _ _ | with_reducible assumption | with_reducible refine up_drewN ?_ | with_reducible refine up_drew ?_ | (with_reducible refine up_alloc ?_ ?_; rotate_left; (first | omega | (simp <;> omega) | simp)) | (with_reducible refine up_set ?_ ?_; rotate_left; (first | omega | (simp <;> omega) | simp)) | (with_reducible refine Below.trans ?_ (Below.mono (by with_reducible assumption) ?_); rotate_left; (first | omega | (simp <;> omega) | simp)))) : Below w.heap.size w _) (Nat.le_refl _))).mono ?_
  rintro e w1 ⟨rfl, hb1⟩
  obtain ⟨hc1, hf1⟩ := bcell hb1
  have hz1 : w.heap.size < w1.heap.size := by have := hb1.size; simp at this; omega
  go_wp2_with fail
  refine (hR.out _ w.heap.size (by omega) (r0.out.below ((by repeat (first | with_reducible exact Below.refl _ _ | with_reducible assumption | with_reducible refine up_drewN ?_ | with_reducible refine up_drew ?_ | (with_reducible refine up_alloc ?_ ?_; rotate_left; (first | omega | (simp <;> omega) | simp)) | (with_reducible refine up_set ?_ ?_; rotate_left; (first | omega | (simp <;> omega) | simp)) | (with_reducible refine Below.trans ?_ (Below.mono (by with_reducible assumption) ?_); rotate_left; (first | omega | (simp <;> omega) | simp)))) : Below w.heap.size w _) (Nat.le_refl _)) (r1.out.below ((by repeat (first | with_reducible exact Below.refl _ _ | with_reducible assumption | with_reducible refine up_drewN ?_ | with_reducible refine up_drew ?_ | (with_reducible refine up_alloc ?_ ?_; rotate_left; (first | omega | (simp <;> omega) | simp)) | (with_reducible refine up_set ?_ ?_; rotate_left; (first | omega | (simp <;> omega) | simp)) | (with_reducible refine Below.trans ?_ (Below.mono (by with_reducible assumption) ?_); rotate_left; (first | omega | (simp <;> omega) | simp)))) : Below w.heap.size w _) (Nat.le_refl _))).mono ?_
  rintro e w2 ⟨rfl, hb2⟩
  go_wp2
  go_ret
  exact ⟨rfl, (by repeat (first | with_reducible exact Below.refl _ _ | with_reducible assumption | with_reducible refine up_drewN ?_ | with_reducible refine up_drew ?_ | (with_reducible refine up_alloc ?_ ?_; rotate_left; (first | omega | (simp <;> omega) | simp)) | (with_reducible refine up_set ?_ ?_; rotate_left; (first | omega | (simp <;> omega) | simp)) | (with_reducible refine Below.trans ?_ (Below.mono (by with_reducible assumption) ?_); rotate_left; (first | omega | (simp <;> omega) | simp))))⟩
end Go.Proofs.Ytmhgemolgcnpoaa
