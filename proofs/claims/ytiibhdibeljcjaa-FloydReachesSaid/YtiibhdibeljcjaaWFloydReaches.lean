/-
  The walk of felllaw.FloydReaches: it returns true. Conditions: the argument reads as data.
-/
import Derived.Test.YtiibhdibeljcjaaFReach
import Derived.Test.YtiibhdibeljcjaaRReach
import Derived.Test.YtiibhdibeljcjaaEqL
import Derived.Test.YtiibhdibeljcjaaOpen
namespace Go.Proofs.Ytiibhdibeljcjaa
open Go.RowKit
set_option linter.unusedSimpArgs false
set_option linter.unusedVariables false

theorem own_rowB {w : World} {base : Nat} {e : TypeId} {a : Option Addr} {n c : Nat} {xs : List Bool} (h : Own encB 1 e w base (.slice a n c) xs) : Row encB 1 w w.heap.size a xs := by
  obtain ⟨a', c', hv, hr5, _⟩ := h.row lenB
  simp only [Value.slice.injEq] at hv
  obtain ⟨rfl, _⟩ := hv
  exact hr5
/-- a row of a table, read -/
theorem Own2.rowB {eo ei : TypeId} {w : World} {base g n c : Nat} {m : Nat → Nat → Bool} (h : Own2 encB 1 eo ei w base (.slice (some ⟨g, 0, none⟩) n c) (MXp n n m)) (i : Nat) (hi : i < n) :
    ∃ av cv, w.cell? ⟨g, i, none⟩ = some (.slice av n cv) ∧ Row encB 1 w w.heap.size av (RW n (m i)) := by
  have hl : i < (MXp n n m).length := by rw [mxp_len]; exact hi
  obtain ⟨av, cv, h1, h2, _⟩ := h.at i hl
  rw [mxp_get _ _ _ _ hi] at h1 h2
  rw [rw_len] at h1 h2
  exact ⟨av, cv, h1, own_rowB h2⟩
theorem reach_eq {n : Nat} {es : List Ed} (hes : Right n es) (i : Nat) (hi : i < n) : RW n (Btab n (nes es) i) = RW n (rreach (nes es) (fun _ => true) (only i) n) := by
  refine rw_congr (fun v hv => ?_)
  have h1 := wclosed_lead (is := fun _ => true) (nes_right hes) i v hi hv
  have h2 := rreach_lead (is := fun _ => true) (nes_right hes) i hi v hv
  rw [Bool.eq_iff_iff]
  exact h1.trans h2.symm
set_option maxRecDepth 100000 in
set_option maxHeartbeats 1000000 in
theorem walk_FloydReaches (x0 : Int) (a0 : Option Addr) (cap0 : Nat) (es0 : List Ed) (w : World) (b0 : Bd x0) (l0 : es0.length ≤ cap0) (m0 : cap0 ≤ maxLen) (r0 : Row encE 3 w w.heap.size a0 es0) (be0 : ∀ x ∈ es0, BdE x) :
    Calls Try.prog 8 #[.agg #[.int .i64 x0, .slice a0 es0.length cap0]] w fun e w' => e = .returned (.bool true) ∧ Below w.heap.size w w' := by
  have hl : es0.length ≤ 9223372036854775807 := by unfold maxLen at m0; omega
  replace r0 := hide r0
  by_cases h0 : netErr x0 es0 = 0
  · obtain ⟨n1, n2, n3, _⟩ := netErr_ok h0
    obtain ⟨n, rfl⟩ := Int.eq_ofNat_of_zero_le (show 0 ≤ x0 by omega)
    have hes := hide (right_ok h0)
    have hC := hide (show ∀ w B, _ from fun w B hB hE => by have := rnet_any (n : Int) a0 cap0 es0 w B hB hE hl; rwa [h0] at this)
    have hJ := hide (fun w B hB hE => freach_ok n a0 cap0 es0 w B hB hE hl h0)
    clear h0 be0
    go_enter Try.func8, Try.ntmps8
    go_wp2_with fail
    refine (hJ.out _ w.heap.size (by simp) (r0.out.below ((by repeat (first | with_reducible exact Below.refl _ _ | with_reducible assumption | with_reducible refine up_drewN ?_ | with_reducible refine up_drew ?_ | (with_reducible refine up_alloc ?_ ?_; rotate_left; (first | omega | (simp <;> omega) | simp)) | (with_reducible refine up_set ?_ ?_; rotate_left; (first | omega | (simp <;> omega) | simp)) | (with_reducible refine Below.trans ?_ (Below.mono (by with_reducible assumption) ?_); rotate_left; (first | omega | (simp <;> omega) | simp)))) : Below w.heap.size w _) (Nat.le_refl _))).mono ?_
    rintro e w1 ⟨g, rfl, own1, hb1⟩
    obtain ⟨hc1, hf1⟩ := bcell hb1
    have hz1 : w.heap.size < w1.heap.size := by have := hb1.size; simp at this; omega
    replace own1 := hide own1
    go_wp2_with fail
    refine (hC.out _ w.heap.size (by omega) (r0.out.below ((by repeat (first | with_reducible exact Below.refl _ _ | with_reducible assumption | with_reducible refine up_drewN ?_ | with_reducible refine up_drew ?_ | (with_reducible refine up_alloc ?_ ?_; rotate_left; (first | omega | (simp <;> omega) | simp)) | (with_reducible refine up_set ?_ ?_; rotate_left; (first | omega | (simp <;> omega) | simp)) | (with_reducible refine Below.trans ?_ (Below.mono (by with_reducible assumption) ?_); rotate_left; (first | omega | (simp <;> omega) | simp)))) : Below w.heap.size w _) (Nat.le_refl _))).mono ?_
    rintro e w2 ⟨rfl, hb2⟩
    obtain ⟨hc2, hf2⟩ := bcell hb2
    have hz2 : w.heap.size < w2.heap.size := by have := hb2.size; (try simp at this); omega
    have own2 := hide (own1.out.below hb2 (by simp))
    have hB2 := hide (show Below w.heap.size w w2 from (by repeat (first | with_reducible exact Below.refl _ _ | with_reducible assumption | with_reducible refine up_drewN ?_ | with_reducible refine up_drew ?_ | (with_reducible refine up_alloc ?_ ?_; rotate_left; (first | omega | (simp <;> omega) | simp)) | (with_reducible refine up_set ?_ ?_; rotate_left; (first | omega | (simp <;> omega) | simp)) | (with_reducible refine Below.trans ?_ (Below.mono (by with_reducible assumption) ?_); rotate_left; (first | omega | (simp <;> omega) | simp)))))
    have k0 : w2.cell? ⟨w.heap.size, 0, none⟩ = some (.int .i64 (n : Int)) := by simp [hc2, hc1, hz1, hz2, go_sem]
    have k1 : w2.cell? ⟨w.heap.size, 1, none⟩ = some (.slice a0 es0.length cap0) := by simp [hc2, hc1, hz1, hz2, go_sem]
    have qn : ((n : Int) != (n : Int)) = false := by simp
    clear own1 hb1 hb2 hc1 hc2 hf1 hf2 hz1
    go_wp2
    clear qn
    go_loopw [6, 7, 36] (fun _ _ i wr => ∃ (k : Nat), k ≤ n ∧ i = .int .i64 k ∧ Hid (Below w2.heap.size w2 wr)) (fun _ _ i _ => n - (intOf i).toNat)
    case atStart => exact ⟨0, Nat.zero_le _, rfl, Below.refl _ _⟩
    case round =>
      obtain ⟨k, hk, rfl, hb⟩ := hrel
      by_cases hlt : k < n
      · obtain ⟨av, cv, c0, hrow⟩ := own2.out.rowB k hlt
        have hzr : w2.heap.size ≤ wr.heap.size := hb.out.size
        rw [← hb.out.cell (cell_lt c0)] at c0
        have k2 := (hb.out.cell (cell_lt k0)).trans k0
        have k3 := (hb.out.cell (cell_lt k1)).trans k1
        have hrow2 := hide (hrow.below hb.out (Nat.le_refl _))
        have heq := hide (reach_eq hes.out k hlt)
        have hEr := hide ((r0.out.below hB2.out (Nat.le_refl _)).below hb.out hB2.out.size)
        clear hrow k0 k1
        go_wp2_with fail
        refine (rreach_any n a0 cap0 es0 k _ w.heap.size (by omega) hEr.out (by omega) (by omega) n3 hes.out hlt).mono ?_
        rintro e w3 ⟨g3, rfl, own3, hb3⟩
        have hrow3 := hide (own_rowB own3)
        clear own3
        go_wp2_with fail
        refine (eqB av (some ⟨g3, 0, none⟩) cv n n n _ _ w3 w2.heap.size w3.heap.size (rw_len _ _) (rw_len _ _) (hrow2.out.below hb3 hzr) hrow3.out (by omega) (by omega) true (by simp only [true_iff]; exact heq.out)).mono ?_
        rintro e w4 ⟨rfl, m2, rfl⟩
        go_wp2
        go_roundw
        case rel => exact ⟨k + 1, by omega, by go_num, hide (up_drewN (hb.out.trans (hb3.mono hzr)))⟩
        case measure => simp [intOf]; omega
      · obtain rfl : n = k := by omega
        go_wp2
        go_ret
        exact ⟨rfl, hB2.out.trans (hb.out.mono hB2.out.size)⟩
  · have q0 : (netErr x0 es0 != 0) = true := by simp [h0]
    have q1 : (netErr x0 es0 == 0) = false := by simpa using h0
    have hC := hide (fun w B hB hE => rnet_any x0 a0 cap0 es0 w B hB hE hl)
    have hJ := hide (fun w B hB hE => freach_bad x0 a0 cap0 es0 w B hB hE hl h0)
    clear h0 be0
    go_enter Try.func8, Try.ntmps8
    go_wp2_with fail
    refine (hJ.out _ w.heap.size (by simp) (r0.out.below ((by repeat (first | with_reducible exact Below.refl _ _ | with_reducible assumption | with_reducible refine up_drewN ?_ | with_reducible refine up_drew ?_ | (with_reducible refine up_alloc ?_ ?_; rotate_left; (first | omega | (simp <;> omega) | simp)) | (with_reducible refine up_set ?_ ?_; rotate_left; (first | omega | (simp <;> omega) | simp)) | (with_reducible refine Below.trans ?_ (Below.mono (by with_reducible assumption) ?_); rotate_left; (first | omega | (simp <;> omega) | simp)))) : Below w.heap.size w _) (Nat.le_refl _))).mono ?_
    rintro e w1 ⟨rfl, hb1⟩
    obtain ⟨hc1, hf1⟩ := bcell hb1
    have hz1 : w.heap.size < w1.heap.size := by have := hb1.size; simp at this; omega
    go_wp2_with fail
    refine (hC.out _ w.heap.size (by omega) (r0.out.below ((by repeat (first | with_reducible exact Below.refl _ _ | with_reducible assumption | with_reducible refine up_drewN ?_ | with_reducible refine up_drew ?_ | (with_reducible refine up_alloc ?_ ?_; rotate_left; (first | omega | (simp <;> omega) | simp)) | (with_reducible refine up_set ?_ ?_; rotate_left; (first | omega | (simp <;> omega) | simp)) | (with_reducible refine Below.trans ?_ (Below.mono (by with_reducible assumption) ?_); rotate_left; (first | omega | (simp <;> omega) | simp)))) : Below w.heap.size w _) (Nat.le_refl _))).mono ?_
    rintro e w2 ⟨rfl, hb2⟩
    go_wp2
    go_ret
    exact ⟨rfl, (by repeat (first | with_reducible exact Below.refl _ _ | with_reducible assumption | with_reducible refine up_drewN ?_ | with_reducible refine up_drew ?_ | (with_reducible refine up_alloc ?_ ?_; rotate_left; (first | omega | (simp <;> omega) | simp)) | (with_reducible refine up_set ?_ ?_; rotate_left; (first | omega | (simp <;> omega) | simp)) | (with_reducible refine Below.trans ?_ (Below.mono (by with_reducible assumption) ?_); rotate_left; (first | omega | (simp <;> omega) | simp))))⟩
end Go.Proofs.Ytiibhdibeljcjaa
