/-
  The walk of felllaw.HeurMarks: it returns true. Conditions: the arguments read as data.
-/
import Derived.Test.YtgkiipmeigfjnaaRMarks
import Derived.Test.YtgkiipmeigfjnaaSameRows
import Derived.Test.YtgkiipmeigfjnaaTabs
import Derived.Test.YtgkiipmeigfjnaaOpen
namespace Go.Proofs.Ytgkiipmeigfjnaa
open Go.RowKit
set_option linter.unusedSimpArgs false
set_option linter.unusedVariables false
theorem marks_any (n0 : Int) (a0 : Option Addr) (cap0 : Nat) (es0 : List Ed) (a1 : Option Addr) (cap1 : Nat) (x1 : List Int) (hl : es0.length ≤ 9223372036854775807) (hl1 : x1.length ≤ 9223372036854775807) :
    ∃ (r1 r2 : List (List Int)) (k n : Nat) (err : Int), k ≤ 1000 ∧ n ≤ 1000 ∧ r1.length = k ∧ r2.length = k ∧ (∀ r ∈ r1, r.length = n) ∧ (∀ r ∈ r2, r.length = n) ∧
      (∀ w B, B ≤ w.heap.size → Row encE 3 w B a0 es0 → Row encI 1 w B a1 x1 → Calls Try.prog 37 #[.agg #[.int .i64 n0, .slice a0 es0.length cap0], .slice a1 x1.length cap1] w (Tabs2Back r1 r2 k n err w)) ∧
      (∀ w B, B ≤ w.heap.size → Row encE 3 w B a0 es0 → Row encI 1 w B a1 x1 → Calls Try.prog 38 #[.agg #[.int .i64 n0, .slice a0 es0.length cap0], .slice a1 x1.length cap1] w (Tabs2Back r1 r2 k n err w)) := by
  by_cases h0 : markErr n0 es0 x1 = 0
  · obtain ⟨p1, p2, p3⟩ := mark_ok h0
    obtain ⟨g3, g4⟩ := posErr_ok p1
    obtain ⟨n1, n2, n3, n4⟩ := netErr_ok g3
    obtain ⟨n, rfl⟩ := Int.eq_ofNat_of_zero_le (show 0 ≤ n0 by omega)
    refine ⟨fromRows n es0 x1, toRows n es0 x1, x1.length, n, 0, by omega, by omega, fromRows_len _ _ _, toRows_len _ _ _, fromRows_rows, toRows_rows, ?_, ?_⟩
    · intro w B hB hE hM
      exact hmarks_ok n a0 cap0 es0 a1 cap1 x1.length x1 rfl w B hB hE hM hl h0
    · intro w B hB hE hM
      exact rmarks_ok n a0 cap0 es0 a1 cap1 x1.length x1 rfl w B hB hE hM hl h0
  · refine ⟨[], [], 0, 0, markErr n0 es0 x1, by omega, by omega, rfl, rfl, by simp, by simp, ?_, ?_⟩
    · intro w B hB hE hM
      exact hmarks_bad n0 a0 cap0 es0 a1 cap1 x1.length x1 rfl w B hB hE hM hl hl1 h0
    · intro w B hB hE hM
      exact rmarks_bad n0 a0 cap0 es0 a1 cap1 x1.length x1 rfl w B hB hE hM hl hl1 h0
set_option maxRecDepth 100000 in
set_option maxHeartbeats 1000000 in
theorem walk_HeurMarks (x0 : Int) (a0 : Option Addr) (cap0 : Nat) (es0 : List Ed) (a1 : Option Addr) (cap1 : Nat) (x1 : List Int) (w : World) (b0 : Bd x0) (l0 : es0.length ≤ cap0) (m0 : cap0 ≤ maxLen) (r0 : Row encE 3 w w.heap.size a0 es0) (be0 : ∀ x ∈ es0, BdE x) (l1 : x1.length ≤ cap1) (m1 : cap1 ≤ maxLen) (r1 : Row encI 1 w w.heap.size a1 x1) (b1 : ∀ x ∈ x1, Bd x) :
    Calls Try.prog 9 #[.agg #[.int .i64 x0, .slice a0 es0.length cap0], .slice a1 x1.length cap1] w fun e w' => e = .returned (.bool true) ∧ Below w.heap.size w w' := by
  have hl : es0.length ≤ 9223372036854775807 := by unfold maxLen at m0; omega
  have hl1 : x1.length ≤ 9223372036854775807 := by unfold maxLen at m1; omega
  obtain ⟨t1, t2, k, n, err, hk, hn, h1, h2, h3, h4, hA, hB⟩ := marks_any x0 a0 cap0 es0 a1 cap1 x1 hl hl1
  replace hA := hide hA
  replace hB := hide hB
  replace r0 := hide r0
  replace r1 := hide r1
  replace h1 := hide h1
  replace h2 := hide h2
  replace h3 := hide h3
  replace h4 := hide h4
  clear be0 b1
  go_enter Try.func9, Try.ntmps9
  go_wp2_with fail
  refine (hA.out _ w.heap.size (by simp) (r0.out.below ((by repeat (first | with_reducible exact Below.refl _ _ | with_reducible assumption | with_reducible refine up_drewN ?_ | with_reducible refine up_drew ?_ | (with_reducible refine up_alloc ?_ ?_; rotate_left; (first | omega | (simp <;> omega) | simp)) | (with_reducible refine up_set ?_ ?_; rotate_left; (first | omega | (simp <;> omega) | simp)) | (with_reducible refine Below.trans ?_ (Below.mono (by with_reducible assumption) ?_); rotate_left; (first | omega | (simp <;> omega) | simp)))) : Below w.heap.size w _) (Nat.le_refl _)) (r1.out.below ((by repeat (first | with_reducible exact Below.refl _ _ | with_reducible assumption | with_reducible refine up_drewN ?_ | with_reducible refine up_drew ?_ | (with_reducible refine up_alloc ?_ ?_; rotate_left; (first | omega | (simp <;> omega) | simp)) | (with_reducible refine up_set ?_ ?_; rotate_left; (first | omega | (simp <;> omega) | simp)) | (with_reducible refine Below.trans ?_ (Below.mono (by with_reducible assumption) ?_); rotate_left; (first | omega | (simp <;> omega) | simp)))) : Below w.heap.size w _) (Nat.le_refl _))).mono ?_
  rintro e w1 ⟨fa, fc, ta, tc, rfl, hF1, hT1, hb1⟩
  replace hF1 := hide hF1
  replace hT1 := hide hT1
  obtain ⟨hc1, hf1⟩ := bcell hb1; have hz1 : w.heap.size < w1.heap.size := (by have := hb1.size; (try simp at this); omega)
  go_wp2_with fail
  refine (hB.out _ w.heap.size (by simp <;> omega) (r0.out.below ((by repeat (first | with_reducible exact Below.refl _ _ | with_reducible assumption | with_reducible refine up_drewN ?_ | with_reducible refine up_drew ?_ | (with_reducible refine up_alloc ?_ ?_; rotate_left; (first | omega | (simp <;> omega) | simp)) | (with_reducible refine up_set ?_ ?_; rotate_left; (first | omega | (simp <;> omega) | simp)) | (with_reducible refine Below.trans ?_ (Below.mono (by with_reducible assumption) ?_); rotate_left; (first | omega | (simp <;> omega) | simp)))) : Below w.heap.size w _) (Nat.le_refl _)) (r1.out.below ((by repeat (first | with_reducible exact Below.refl _ _ | with_reducible assumption | with_reducible refine up_drewN ?_ | with_reducible refine up_drew ?_ | (with_reducible refine up_alloc ?_ ?_; rotate_left; (first | omega | (simp <;> omega) | simp)) | (with_reducible refine up_set ?_ ?_; rotate_left; (first | omega | (simp <;> omega) | simp)) | (with_reducible refine Below.trans ?_ (Below.mono (by with_reducible assumption) ?_); rotate_left; (first | omega | (simp <;> omega) | simp)))) : Below w.heap.size w _) (Nat.le_refl _))).mono ?_
  rintro e w2 ⟨fa2, fc2, ta2, tc2, rfl, hF2, hT2, hb2⟩
  replace hF2 := hide hF2
  replace hT2 := hide hT2
  obtain ⟨hc2, hf2⟩ := bcell hb2; have hz2 : w1.heap.size < w2.heap.size := (by have := hb2.size; (try simp at this); omega)
  have hz3 : w.heap.size < w2.heap.size := by omega
  have hB3 := hide (show Below w1.heap.size w1 w2 from (up_alloc (Below.refl _ _) (Nat.le_refl _)).trans (hb2.mono (by simp)))
  go_wp2_with fail
  refine (samerows_any fa fa2 fc fc2 k n t1 _ w1.heap.size w2.heap.size h1.out ((hF1.out.below hB3.out (Nat.le_refl _)).below ((Below.refl _ _).alloc (Nat.le_refl _) _) (by omega)) (hF2.out.below ((Below.refl _ _).alloc (Nat.le_refl _) _) (by omega)) h3.out hk hn).mono ?_
  rintro e w3 ⟨rfl, d, rfl⟩
  go_wp2_with fail
  refine (samerows_any ta ta2 tc tc2 k n t2 _ w1.heap.size w2.heap.size h2.out ((hT1.out.below hB3.out (Nat.le_refl _)).below (up_drewN ((Below.refl _ _).alloc (Nat.le_refl _) _)) (by omega)) (hT2.out.below (up_drewN ((Below.refl _ _).alloc (Nat.le_refl _) _)) (by omega)) h4.out hk hn).mono ?_
  rintro e w3 ⟨rfl, d2, rfl⟩
  go_wp2
  go_ret
  exact ⟨rfl, (by repeat (first | with_reducible exact Below.refl _ _ | with_reducible assumption | with_reducible refine up_drewN ?_ | with_reducible refine up_drew ?_ | (with_reducible refine up_alloc ?_ ?_; rotate_left; (first | omega | (simp <;> omega) | simp)) | (with_reducible refine up_set ?_ ?_; rotate_left; (first | omega | (simp <;> omega) | simp)) | (with_reducible refine Below.trans ?_ (Below.mono (by with_reducible assumption) ?_); rotate_left; (first | omega | (simp <;> omega) | simp))))⟩
end Go.Proofs.Ytgkiipmeigfjnaa
