/-
  The walk of felllaw.CompSays: it returns true. Conditions: the argument reads as data.
-/
import Derived.Test.YtcehdpeeaogpiaaRKorder
import Derived.Test.YtcehdpeeaogpiaaEqA
import Derived.Test.YtcehdpeeaogpiaaOpen
namespace Go.Proofs.Ytcehdpeeaogpiaa
open Go.RowKit
set_option linter.unusedSimpArgs false
set_option linter.unusedVariables false
theorem of_shape {n : Nat} {es : List Ed} {w w' : World} {e : Ending} (h : OfAns n es w e w') : ∃ g, e = .returned (.tuple #[.slice (some ⟨g, 0, none⟩) n n, .int .i64 0]) ∧ Own encI 1 3 w' w.heap.size (.slice (some ⟨g, 0, none⟩) n n) (LI n (ZI (CompK n es))) ∧ Below w.heap.size w w' := h
theorem cord_shape {n m : Nat} {es : List Ed} {w w' : World} {e : Ending} (hm : (kahnK n (nes es) (CompK n es)).length = m) (h : COrdAns n es w e w') : ∃ a c, e = .returned (.tuple #[.slice a m c, .int .i64 0]) ∧ Own encI 1 3 w' w.heap.size (.slice a m c) (LN (kahnK n (nes es) (CompK n es))) ∧ Below w.heap.size w w' := by
  obtain ⟨h1, v, h2, h3⟩ := h
  obtain ⟨a, c, rfl⟩ := h3.shape (n := m) (by rw [ln_len, hm])
  exact ⟨a, c, h2, h3, h1⟩
theorem rkord_shape {n m : Nat} {es : List Ed} {w w' : World} {e : Ending} (hm : (kahnK n (nes es) (CompK n es)).length = m) (h : OrdBack (kahnK n (nes es) (CompK n es)) w e w') : ∃ a c, e = .returned (.slice a m c) ∧ Own encI 1 3 w' w.heap.size (.slice a m c) (LN (kahnK n (nes es) (CompK n es))) ∧ Below w.heap.size w w' := by
  obtain ⟨v, h2, h3, h1⟩ := h
  obtain ⟨a, c, rfl⟩ := h3.shape (n := m) (by rw [ln_len, hm])
  exact ⟨a, c, h2, h3, h1⟩
theorem kahnK_len (n : Nat) (E : List NE) (K : Nat → Nat) : (kahnK n E K).length ≤ n := by
  have := kahnG_len (ldE (EK E K)) (repsK n K).length (repsK n K)
  have h2 := reps_len n K
  unfold kahnK
  omega
set_option maxRecDepth 100000 in
set_option maxHeartbeats 2000000 in
theorem walk_CompSays (x0 : Int) (a0 : Option Addr) (cap0 : Nat) (es0 : List Ed) (w : World) (b0 : Bd x0) (l0 : es0.length ≤ cap0) (m0 : cap0 ≤ maxLen) (r0 : Row encE 3 w w.heap.size a0 es0) (be0 : ∀ x ∈ es0, BdE x) :
    Calls Try.prog 6 #[.agg #[.int .i64 x0, .slice a0 es0.length cap0]] w fun e w' => e = .returned (.bool true) ∧ Below w.heap.size w w' := by
  have hl : es0.length ≤ 9223372036854775807 := by unfold maxLen at m0; omega
  replace r0 := hide r0
  by_cases h0 : netErr x0 es0 = 0
  · obtain ⟨n1, n2, n3, n4⟩ := netErr_ok h0
    obtain ⟨n, rfl⟩ := Int.eq_ofNat_of_zero_le (show 0 ≤ x0 by omega)
    have hC := hide (show ∀ w B, _ from fun w B hB hE => by have := rnet_any (n : Int) a0 cap0 es0 w B hB hE hl; rwa [h0] at this)
    have hes : Right n es0 := n4
    obtain ⟨m, hm⟩ : ∃ m, (kahnK n (nes es0) (CompK n es0)).length = m := ⟨_, rfl⟩
    have hml := kahnK_len n (nes es0) (CompK n es0)
    rw [hm] at hml
    have hS1 := hide (fun w B hB hE => (of_ok n a0 cap0 es0 w B hB hE hl h0).mono (fun e w' => of_shape))
    have hS2 := hide (fun w B hB hE => (corder_ok n a0 cap0 es0 w B hB hE hl h0).mono (fun e w' => cord_shape hm))
    have hR1 := hide (fun w B hB hE => knots_any n a0 cap0 es0 w B hB hE (by omega) (by omega) n3 hes)
    have hR2 := hide (fun w B hB hE => (rkord_any n a0 cap0 es0 w B hB hE (by omega) (by omega) n3 hes).mono (fun e w' => rkord_shape hm))
    have hlk := hide (show (LI n (ZI (CompK n es0))).length = n by simp [LI])
    have hlo := hide (show (LN (kahnK n (nes es0) (CompK n es0))).length = m by rw [ln_len, hm])
    generalize LI n (ZI (CompK n es0)) = kl at hS1 hR1 hlk
    generalize LN (kahnK n (nes es0) (CompK n es0)) = ol at hS2 hR2 hlo
    replace hm := hide hm
    clear h0 be0 n4 hes
    go_enter Try.func6, Try.ntmps6
    go_wp2_with fail
    refine (hS1.out _ w.heap.size (by simp) (r0.out.below ((by repeat (first | with_reducible exact Below.refl _ _ | with_reducible assumption | with_reducible refine up_drewN ?_ | with_reducible refine up_drew ?_ | (with_reducible refine up_alloc ?_ ?_; rotate_left; (first | omega | (simp <;> omega) | simp)) | (with_reducible refine up_set ?_ ?_; rotate_left; (first | omega | (simp <;> omega) | simp)) | (with_reducible refine Below.trans ?_ (Below.mono (by with_reducible assumption) ?_); rotate_left; (first | omega | (simp <;> omega) | simp)))) : Below w.heap.size w _) (Nat.le_refl _))).mono ?_
    rintro e w1 ⟨g1, rfl, own1, hb1⟩
    have k0 : w1.cell? ⟨w.heap.size, 0, none⟩ = some (.int .i64 (n : Int)) := cu_below hb1 (by simp [go_sem]) (by simp <;> omega)
    have k1 : w1.cell? ⟨w.heap.size, 1, none⟩ = some (.slice a0 es0.length cap0) := cu_below hb1 (by simp [go_sem]) (by simp <;> omega)
    have hz1 : w.heap.size < w1.heap.size := cell_lt k0
    have hbw1 := hide (show Below w.heap.size w w1 from (by repeat (first | with_reducible exact Below.refl _ _ | with_reducible assumption | with_reducible refine up_drewN ?_ | with_reducible refine up_drew ?_ | (with_reducible refine up_alloc ?_ ?_; rotate_left; (first | omega | (simp <;> omega) | simp)) | (with_reducible refine up_set ?_ ?_; rotate_left; (first | omega | (simp <;> omega) | simp)) | (with_reducible refine Below.trans ?_ (Below.mono (by with_reducible assumption) ?_); rotate_left; (first | omega | (simp <;> omega) | simp)))))
    replace own1 := hide own1
    clear hb1 hS1
    go_wp2_with fail
    refine (hS2.out _ w.heap.size (by omega) (r0.out.below hbw1.out (Nat.le_refl _))).mono ?_
    rintro e w2 ⟨a2, c2, rfl, own2, hb2⟩
    have k2 := cu_below hb2 k0 (by simp; omega)
    have k3 := cu_below hb2 k1 (by simp; omega)
    have hz2 : w.heap.size < w2.heap.size := cell_lt k2
    have hbw2 := hide (hbw1.out.trans (hb2.mono (by omega)))
    have o12 := hide (own1.out.stays hb2)
    replace own2 := hide own2
    clear hb2 hS2 hbw1 k0 k1 own1
    go_wp2_with fail
    refine (hC.out _ w.heap.size (by omega) (r0.out.below hbw2.out (Nat.le_refl _))).mono ?_
    rintro e w3 ⟨rfl, hb3⟩
    have k4 := cu_below hb3 k2 (by simp; omega)
    have k5 := cu_below hb3 k3 (by simp; omega)
    have hz3 : w.heap.size < w3.heap.size := cell_lt k4
    have hbw3 := hide (hbw2.out.trans (hb3.mono (by omega)))
    have o13 := hide (o12.out.stays hb3)
    have o23 := hide (own2.out.stays hb3)
    clear hb3 hC hbw2 k2 k3 o12 own2
    go_wp2_with fail
    refine (hR1.out _ w.heap.size (by omega) (r0.out.below hbw3.out (Nat.le_refl _))).mono ?_
    rintro e w4 ⟨a4, c4, rfl, own4, hb4⟩
    have k6 := cu_below hb4 k4 (by simp; omega)
    have k7 := cu_below hb4 k5 (by simp; omega)
    have hz4 : w.heap.size < w4.heap.size := cell_lt k6
    have hbw4 := hide (hbw3.out.trans (hb4.mono (by omega)))
    have o14 := own_rowIk (o13.out.stays hb4)
    have o24 := hide (o23.out.stays hb4)
    have hE1 := hide (eqI (some ⟨g1, 0, none⟩) a4 n c4 n n kl kl w4 w4.heap.size w4.heap.size hlk.out hlk.out o14.1 (own_rowIk own4).1 (by omega) (by omega) true (by simp))
    clear hb4 hR1 hbw3 k4 k5 o13 o23 o14 own4
    go_wp2_with fail
    refine hE1.out.mono ?_
    rintro e w5 ⟨rfl, nq, rfl⟩
    have o25 := hide (o24.out.drewN nq)
    have hbw5 := hide (up_drewN (n := nq) hbw4.out)
    have k8 : (w4.drewN nq).cell? ⟨w.heap.size, 0, none⟩ = some (.int .i64 (n : Int)) := cu_drewN k6
    have k9 : (w4.drewN nq).cell? ⟨w.heap.size, 1, none⟩ = some (.slice a0 es0.length cap0) := cu_drewN k7
    have hz5 : w.heap.size < (w4.drewN nq).heap.size := cell_lt k8
    clear hE1 o24 hbw4 k6 k7
    generalize w4.drewN nq = w5 at o25 hbw5 k8 k9 hz5 ⊢
    go_wp2_with fail
    refine (hR2.out _ w.heap.size (by omega) (r0.out.below hbw5.out (Nat.le_refl _))).mono ?_
    rintro e w6 ⟨a6, c6, rfl, own6, hb6⟩
    have hbw6 := hide (hbw5.out.trans (hb6.mono (by omega)))
    have o26 := own_rowIk (o25.out.stays hb6)
    have hE2 := hide (eqI a2 a6 c2 c6 m m ol ol w6 w6.heap.size w6.heap.size hlo.out hlo.out o26.1 (own_rowIk own6).1 (by omega) (by omega) true (by simp))
    clear hb6 hR2 o25 o26 own6 hbw5 k8 k9
    go_wp2_with fail
    refine hE2.out.mono ?_
    rintro e w7 ⟨rfl, nq2, rfl⟩
    go_wp2
    go_ret
    exact ⟨rfl, by first | exact up_drewN hbw6.out | exact (up_drewN hbw6.out).drew⟩
  · have hC := hide (fun w B hB hE => rnet_any x0 a0 cap0 es0 w B hB hE hl)
    have hS1 := hide (fun w B hB hE => of_bad x0 a0 cap0 es0 w B hB hE hl h0)
    have hS2 := hide (fun w B hB hE => corder_bad x0 a0 cap0 es0 w B hB hE hl h0)
    have q0 : (netErr x0 es0 != 0) = true := by simp [h0]
    clear h0 be0
    go_enter Try.func6, Try.ntmps6
    go_wp2_with fail
    refine (hS1.out _ w.heap.size (by simp) (r0.out.below ((by repeat (first | with_reducible exact Below.refl _ _ | with_reducible assumption | with_reducible refine up_drewN ?_ | with_reducible refine up_drew ?_ | (with_reducible refine up_alloc ?_ ?_; rotate_left; (first | omega | (simp <;> omega) | simp)) | (with_reducible refine up_set ?_ ?_; rotate_left; (first | omega | (simp <;> omega) | simp)) | (with_reducible refine Below.trans ?_ (Below.mono (by with_reducible assumption) ?_); rotate_left; (first | omega | (simp <;> omega) | simp)))) : Below w.heap.size w _) (Nat.le_refl _))).mono ?_
    rintro e w1 ⟨rfl, hb1⟩
    obtain ⟨hc1, hf1⟩ := bcell hb1; have hz1 : w.heap.size < w1.heap.size := (by have := hb1.size; (try simp at this); omega)
    go_wp2_with fail
    refine (hS2.out _ w.heap.size (by omega) (r0.out.below ((by repeat (first | with_reducible exact Below.refl _ _ | with_reducible assumption | with_reducible refine up_drewN ?_ | with_reducible refine up_drew ?_ | (with_reducible refine up_alloc ?_ ?_; rotate_left; (first | omega | (simp <;> omega) | simp)) | (with_reducible refine up_set ?_ ?_; rotate_left; (first | omega | (simp <;> omega) | simp)) | (with_reducible refine Below.trans ?_ (Below.mono (by with_reducible assumption) ?_); rotate_left; (first | omega | (simp <;> omega) | simp)))) : Below w.heap.size w _) (Nat.le_refl _))).mono ?_
    rintro e w2 ⟨rfl, hb2⟩
    obtain ⟨hc2, hf2⟩ := bcell hb2; have hz2 : w.heap.size < w2.heap.size := (by have := hb2.size; (try simp at this); omega)
    go_wp2_with fail
    refine (hC.out _ w.heap.size (by omega) (r0.out.below ((by repeat (first | with_reducible exact Below.refl _ _ | with_reducible assumption | with_reducible refine up_drewN ?_ | with_reducible refine up_drew ?_ | (with_reducible refine up_alloc ?_ ?_; rotate_left; (first | omega | (simp <;> omega) | simp)) | (with_reducible refine up_set ?_ ?_; rotate_left; (first | omega | (simp <;> omega) | simp)) | (with_reducible refine Below.trans ?_ (Below.mono (by with_reducible assumption) ?_); rotate_left; (first | omega | (simp <;> omega) | simp)))) : Below w.heap.size w _) (Nat.le_refl _))).mono ?_
    rintro e w3 ⟨rfl, hb3⟩
    obtain ⟨hc3, hf3⟩ := bcell hb3; have hz3 := hb3.size
    go_wp2
    all_goals
      go_ret
      exact ⟨rfl, (by repeat (first | with_reducible exact Below.refl _ _ | with_reducible assumption | with_reducible refine up_drewN ?_ | with_reducible refine up_drew ?_ | (with_reducible refine up_alloc ?_ ?_; rotate_left; (first | omega | (simp <;> omega) | simp)) | (with_reducible refine up_set ?_ ?_; rotate_left; (first | omega | (simp <;> omega) | simp)) | (with_reducible refine Below.trans ?_ (Below.mono (by with_reducible assumption) ?_); rotate_left; (first | omega | (simp <;> omega) | simp))))⟩
end Go.Proofs.Ytcehdpeeaogpiaa
