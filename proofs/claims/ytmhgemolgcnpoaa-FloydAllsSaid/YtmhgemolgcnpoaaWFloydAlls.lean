/-
  The walk of felllaw.FloydAlls: it returns true. Conditions: the argument reads as data.
-/
import Derived.Test.YtmhgemolgcnpoaaFTab
import Derived.Test.YtmhgemolgcnpoaaRAll
import Derived.Test.YtmhgemolgcnpoaaSameRows
import Derived.Test.YtmhgemolgcnpoaaTabs
import Derived.Test.YtmhgemolgcnpoaaOpen
namespace Go.Proofs.Ytmhgemolgcnpoaa
open Go.RowKit
set_option linter.unusedSimpArgs false
set_option linter.unusedVariables false

theorem alls_eq {n : Nat} {es : List Ed} (hn1 : 1 ≤ n) (hn : n ≤ 64) (hes : Right n es) :
    ((∃ i, i < n ∧ Atab n (nes es) i i < 0) ∧ ¬ LI n (lift n es) = LI n (lift1 n es)) ∨ ((∀ i, i < n → ¬ Atab n (nes es) i i < 0) ∧ LI n (lift n es) = LI n (lift1 n es) ∧ MXp n n (Atab n (nes es)) = distRows n es n) := by
  have hc : ∀ e ∈ nes es, -10000 ≤ e.c ∧ e.c ≤ 10000 := by
    intro e he
    obtain ⟨x, hx, rfl⟩ := nes_mem he
    have := hes x hx
    simp only
    omega
  rcases all_says hn1 hn (nes_right hes) hc with ⟨h1, h2⟩ | ⟨h1, h2, h3⟩
  · exact .inl ⟨h1, fun h => h2 (li_inj h)⟩
  · refine .inr ⟨h1, li_congr h2, ?_⟩
    rw [mxp_rows]
    unfold distRows
    apply List.map_congr_left
    intro i hi
    exact li_congr (fun v hv => h3 i v (List.mem_range.1 hi) hv)
set_option maxRecDepth 100000 in
set_option maxHeartbeats 1000000 in
theorem walk_FloydAlls (x0 : Int) (a0 : Option Addr) (cap0 : Nat) (es0 : List Ed) (w : World) (b0 : Bd x0) (l0 : es0.length ≤ cap0) (m0 : cap0 ≤ maxLen) (r0 : Row encE 3 w w.heap.size a0 es0) (be0 : ∀ x ∈ es0, BdE x) :
    Calls Try.prog 8 #[.agg #[.int .i64 x0, .slice a0 es0.length cap0]] w fun e w' => e = .returned (.bool true) ∧ Below w.heap.size w w' := by
  have hl : es0.length ≤ 9223372036854775807 := by unfold maxLen at m0; omega
  replace r0 := hide r0
  by_cases h0 : netErr x0 es0 = 0
  · obtain ⟨n1, n2, n3, _⟩ := netErr_ok h0
    obtain ⟨n, rfl⟩ := Int.eq_ofNat_of_zero_le (show 0 ≤ x0 by omega)
    have hes := hide (right_it h0)
    have hJ := hide (fun w B hB hE => fall_ok n a0 cap0 es0 w B hB hE hl h0)
    have hR1 := hide (fun w B hB hE hb => rall_cycle n a0 cap0 es0 w B hB hE hl h0 hb)
    have hR2 := hide (fun w B hB hE hb => rall_ok n a0 cap0 es0 w B hB hE hl h0 hb)
    have hEq := alls_eq (n := n) (es := es0) (by omega) (by omega) hes.out
    clear h0 be0
    rcases hEq with ⟨hneg, hbad⟩ | ⟨hpos, hgood, hrows⟩
    · have hneg := hide hneg
      have hbad := hide hbad
      go_enter Try.func8, Try.ntmps8
      go_wp2_with fail
      refine (hJ.out _ w.heap.size (by simp) (r0.out.below ((by repeat (first | with_reducible exact Below.refl _ _ | with_reducible assumption | with_reducible refine up_drewN ?_ | with_reducible refine up_drew ?_ | (with_reducible refine up_alloc ?_ ?_; rotate_left; (first | omega | (simp <;> omega) | simp)) | (with_reducible refine up_set ?_ ?_; rotate_left; (first | omega | (simp <;> omega) | simp)) | (with_reducible refine Below.trans ?_ (Below.mono (by with_reducible assumption) ?_); rotate_left; (first | omega | (simp <;> omega) | simp)))) : Below w.heap.size w _) (Nat.le_refl _))).mono ?_
      rintro e w1 (⟨_, rfl, hb1⟩ | ⟨hno, _⟩)
      · obtain ⟨hc1, hf1⟩ := bcell hb1
        have hz1 : w.heap.size < w1.heap.size := by have := hb1.size; simp at this; omega
        go_wp2_with fail
        refine (hR1.out _ w.heap.size (by omega) (r0.out.below ((by repeat (first | with_reducible exact Below.refl _ _ | with_reducible assumption | with_reducible refine up_drewN ?_ | with_reducible refine up_drew ?_ | (with_reducible refine up_alloc ?_ ?_; rotate_left; (first | omega | (simp <;> omega) | simp)) | (with_reducible refine up_set ?_ ?_; rotate_left; (first | omega | (simp <;> omega) | simp)) | (with_reducible refine Below.trans ?_ (Below.mono (by with_reducible assumption) ?_); rotate_left; (first | omega | (simp <;> omega) | simp)))) : Below w.heap.size w _) (Nat.le_refl _)) hbad.out).mono ?_
        rintro e w2 ⟨rfl, hb2⟩
        go_wp2_with fail
        refine (samerows_any none none 0 0 0 0 [] _ _ _ rfl (Tab.nil _ 0 _ _) (Tab.nil _ 0 _ _) (by simp) (by omega) (by omega)).mono ?_
        rintro e w3 ⟨rfl, d, rfl⟩
        go_wp2
        go_ret
        exact ⟨rfl, (by repeat (first | with_reducible exact Below.refl _ _ | with_reducible assumption | with_reducible refine up_drewN ?_ | with_reducible refine up_drew ?_ | (with_reducible refine up_alloc ?_ ?_; rotate_left; (first | omega | (simp <;> omega) | simp)) | (with_reducible refine up_set ?_ ?_; rotate_left; (first | omega | (simp <;> omega) | simp)) | (with_reducible refine Below.trans ?_ (Below.mono (by with_reducible assumption) ?_); rotate_left; (first | omega | (simp <;> omega) | simp))))⟩
      · obtain ⟨i, hi, hlt⟩ := hneg.out
        exact absurd hlt (hno i hi)
    · have hpos := hide hpos
      have hgood := hide hgood
      have hrows := hide hrows
      go_enter Try.func8, Try.ntmps8
      go_wp2_with fail
      refine (hJ.out _ w.heap.size (by simp) (r0.out.below ((by repeat (first | with_reducible exact Below.refl _ _ | with_reducible assumption | with_reducible refine up_drewN ?_ | with_reducible refine up_drew ?_ | (with_reducible refine up_alloc ?_ ?_; rotate_left; (first | omega | (simp <;> omega) | simp)) | (with_reducible refine up_set ?_ ?_; rotate_left; (first | omega | (simp <;> omega) | simp)) | (with_reducible refine Below.trans ?_ (Below.mono (by with_reducible assumption) ?_); rotate_left; (first | omega | (simp <;> omega) | simp)))) : Below w.heap.size w _) (Nat.le_refl _))).mono ?_
      rintro e w1 (⟨⟨i, hi, hlt⟩, _, _⟩ | ⟨_, g, rfl, own, hb1⟩)
      · exfalso
        have := hpos.out i hi
        omega
      · have hT := hide (show Tab w1 w1.heap.size (some ⟨g, 0, none⟩) n (distRows n es0 n) by rw [← hrows.out]; exact own.tab)
        obtain ⟨hc1, hf1⟩ := bcell hb1
        have hz1 : w.heap.size < w1.heap.size := by have := hb1.size; simp at this; omega
        clear own
        go_wp2_with fail
        refine (hR2.out _ w.heap.size (by omega) (r0.out.below ((by repeat (first | with_reducible exact Below.refl _ _ | with_reducible assumption | with_reducible refine up_drewN ?_ | with_reducible refine up_drew ?_ | (with_reducible refine up_alloc ?_ ?_; rotate_left; (first | omega | (simp <;> omega) | simp)) | (with_reducible refine up_set ?_ ?_; rotate_left; (first | omega | (simp <;> omega) | simp)) | (with_reducible refine Below.trans ?_ (Below.mono (by with_reducible assumption) ?_); rotate_left; (first | omega | (simp <;> omega) | simp)))) : Below w.heap.size w _) (Nat.le_refl _)) hgood.out).mono ?_
        rintro e w2 ⟨av, cv, rfl, hT2, hb2⟩
        replace hT2 := hide hT2
        go_wp2_with fail
        refine (samerows_any (some ⟨g, 0, none⟩) av n cv n n (distRows n es0 n) _ w1.heap.size w2.heap.size (distRows_len _ _ _) (hT.out.below hb2 (Nat.le_refl _)) hT2.out rows_len (by omega) (by omega)).mono ?_
        rintro e w3 ⟨rfl, d, rfl⟩
        go_wp2
        go_ret
        exact ⟨rfl, (by repeat (first | with_reducible exact Below.refl _ _ | with_reducible assumption | with_reducible refine up_drewN ?_ | with_reducible refine up_drew ?_ | (with_reducible refine up_alloc ?_ ?_; rotate_left; (first | omega | (simp <;> omega) | simp)) | (with_reducible refine up_set ?_ ?_; rotate_left; (first | omega | (simp <;> omega) | simp)) | (with_reducible refine Below.trans ?_ (Below.mono (by with_reducible assumption) ?_); rotate_left; (first | omega | (simp <;> omega) | simp))))⟩
  · have hC := hide (fun w B hB hE => rall_bad x0 a0 cap0 es0 w B hB hE hl h0)
    have hJ := hide (fun w B hB hE => fall_bad x0 a0 cap0 es0 w B hB hE hl h0)
    clear h0 be0
    go_enter Try.func8, Try.ntmps8
    go_wp2_with fail
    refine (hJ.out _ w.heap.size (by simp) (r0.out.below ((by repeat (first | with_reducible exact Below.refl _ _ | with_reducible assumption | with_reducible refine up_drewN ?_ | with_reducible refine up_drew ?_ | (with_reducible refine up_alloc ?_ ?_; rotate_left; (first | omega | (simp <;> omega) | simp)) | (with_reducible refine up_set ?_ ?_; rotate_left; (first | omega | (simp <;> omega) | simp)) | (with_reducible refine Below.trans ?_ (Below.mono (by with_reducible assumption) ?_); rotate_left; (first | omega | (simp <;> omega) | simp)))) : Below w.heap.size w _) (Nat.le_refl _))).mono ?_
    rintro e w1 ⟨rfl, hb1⟩
    obtain ⟨hc1, hf1⟩ := bcell hb1
    have hz1 : w.heap.size < w1.heap.size := by have := hb1.size; simp at this; omega
    go_wp2_with fail
    refine (hC.out _ w.heap.size (by omega) (r0.out.below ((by repeat (first | with_reducible exact Below.refl _ _ | with_reducible assumption | with_reducible refine up_drewN ?_ | with_reducible refine up_drew ?_ | (with_reducible refine up_alloc ?_ ?_; rotate_left; (first | omega | (simp <;> omega) | simp)) | (with_reducible refine up_set ?_ ?_; rotate_left; (first | omega | (simp <;> omega) | simp)) | (with_reducible refine Below.trans ?_ (Below.mono (by with_reducible assumption) ?_); rotate_left; (first | omega | (simp <;> omega) | simp)))) : Below w.heap.size w _) (Nat.le_refl _))).mono ?_
    rintro e w2 ⟨rfl, hb2⟩
    go_wp2_with fail
    refine (samerows_any none none 0 0 0 0 [] _ _ _ rfl (Tab.nil _ 0 _ _) (Tab.nil _ 0 _ _) (by simp) (by omega) (by omega)).mono ?_
    rintro e w3 ⟨rfl, d, rfl⟩
    go_wp2
    go_ret
    exact ⟨rfl, (by repeat (first | with_reducible exact Below.refl _ _ | with_reducible assumption | with_reducible refine up_drewN ?_ | with_reducible refine up_drew ?_ | (with_reducible refine up_alloc ?_ ?_; rotate_left; (first | omega | (simp <;> omega) | simp)) | (with_reducible refine up_set ?_ ?_; rotate_left; (first | omega | (simp <;> omega) | simp)) | (with_reducible refine Below.trans ?_ (Below.mono (by with_reducible assumption) ?_); rotate_left; (first | omega | (simp <;> omega) | simp))))⟩
end Go.Proofs.Ytmhgemolgcnpoaa
