/-
  The walk of felllaw.FlowSays: it returns true. Conditions: the arguments read as data.
-/
import Derived.Test.YtcehdpeeaogpiaaRMore
import Derived.Test.YtcehdpeeaogpiaaRLeast
import Derived.Test.YtcehdpeeaogpiaaEqA
import Derived.Test.YtcehdpeeaogpiaaOpen
namespace Go.Proofs.Ytcehdpeeaogpiaa
open Go.RowKit
set_option linter.unusedSimpArgs false
set_option linter.unusedVariables false
/-- what holds of both answers -/
theorem flow_law {n s t : Nat} {es : List Ed} {fl f2 : Nat → Int} {sum s2 : Int} {S : Nat → Bool} (hes : Right n es) (hs : s < n) (ht : t < n) (h1 : FlowOk (nes es) n s t fl sum) (n1 : ¬ Lead (arcs fl (nes es) 0) posA s t)
    (h2 : FlowOk (nes es) n s t f2 s2) (n2 : ¬ Lead (arcs f2 (nes es) 0) posA s t) (hS : ∀ v, S v = true ↔ Lead (arcs f2 (nes es) 0) posA s v) :
    S s = true ∧ S t = false ∧ roomS (nes es) S = sum ∧ RW n S = RW n (rreach (arcs fl (nes es) 0) posA (only s) n) ∧ ∀ v, S v = true ↔ Lead (arcs fl (nes es) 0) posA s v := by
  have hE := nes_right hes
  have hr := reach_same hE hs ht h1 h2 n1 n2
  have hS1 : ∀ v, S v = true ↔ Lead (arcs fl (nes es) 0) posA s v := fun v => (hS v).trans (hr.2 v).symm
  have hss : S s = true := (hS1 s).2 Lead.refl
  have hst : S t = false := by
    cases h : S t with
    | false => rfl
    | true => exact absurd ((hS1 t).1 h) n1
  refine ⟨hss, hst, ?_, ?_, hS1⟩
  · exact ((flow_eq hE h1 hs S hss hst).2 (lead_shut S (fun e he => ⟨hS1 e.u, hS1 e.v⟩))).symm
  · refine rw_congr (fun v hv => ?_)
    rw [Bool.eq_iff_iff]
    exact (hS1 v).trans (rreach_lead (arcs_lt hE) s hs v hv).symm
set_option maxRecDepth 100000 in
set_option maxHeartbeats 4000000 in
theorem walk_FlowSays (x0 : Int) (a0 : Option Addr) (cap0 : Nat) (es0 : List Ed) (x1 : Int) (x2 : Int) (w : World) (b0 : Bd x0) (l0 : es0.length ≤ cap0) (m0 : cap0 ≤ maxLen) (r0 : Row encE 3 w w.heap.size a0 es0) (be0 : ∀ x ∈ es0, BdE x) (b1 : Bd x1) (b2 : Bd x2) :
    Calls Try.prog 5 #[.agg #[.int .i64 x0, .slice a0 es0.length cap0], .int .i64 x1, .int .i64 x2] w fun e w' => e = .returned (.bool true) ∧ Below w.heap.size w w' := by
  have hl : es0.length ≤ 9223372036854775807 := by unfold maxLen at m0; omega
  replace r0 := hide r0
  by_cases h0 : flookErr x0 es0 x1 x2 = 0
  · obtain ⟨n, s, t, rfl, rfl, rfl, a1, a2, a3, a4, a5, a6, a7, a8⟩ := flook_ok h0
    have hM := hide (fun w B hB hE => fmax_ok n s t a0 cap0 es0 w B hB hE h0)
    have hC := hide (fun w B hB hE => fcut_ok n s t a0 cap0 es0 w B hB hE h0)
    have hK := hide (show ∀ w B, _ from fun w B hB hE => by have := rflook_any (n : Int) a0 cap0 es0 (s : Int) (t : Int) w B hB hE hl; rwa [h0] at this)
    have hF := hide (fun af cf fl sum w B hB hE hF hf => rflow_any n s t a0 af cap0 cf es0 fl sum w B hB hE hF a2 a3 a4 a6 hf)
    have hRo := hide (fun ab cb S w B hB hE hF => rroom_any n a0 ab cap0 cb es0 S w B hB hE hF a3 a4 a5)
    have hMo := hide (fun af cf fl w B hB hE hF => rmore_any n s a0 af cap0 cf es0 fl w B hB hE hF a1 a2 a3 a4 a6)
    have hLc := hide (fun (h8 : n ≤ 8) w B hB hE => rleast_any n s t a0 cap0 es0 w B hB hE a1 h8 a3 a4 a5 a6 a7)
    have hpl := hide (fun fl f2 sum s2 S => flow_law (n := n) (s := s) (t := t) (es := es0) (fl := fl) (f2 := f2) (sum := sum) (s2 := s2) (S := S) a4 a6 a7)
    have hls := hide (fun fl sum hf hn => lc_says (n := n) (s := s) (t := t) (fl := fl) (sum := sum) (nes_right a4) (pos_edges' a4 a5) (by rw [nes_len]; exact a3) hf a6 a7 hn)
    replace a4 := hide a4
    replace a5 := hide a5
    have is : (0 : Int) ≤ (s : Int) ∧ (s : Int) < (n : Int) := by omega
    have it : (0 : Int) ≤ (t : Int) ∧ (t : Int) < (n : Int) := by omega
    have qn : ((n : Int) != (n : Int)) = false := by simp
    clear h0 be0
    go_enter Try.func5, Try.ntmps5
    go_wp2_with fail
    refine (hM.out _ w.heap.size (by simp) (r0.out.below ((by repeat (first | with_reducible exact Below.refl _ _ | with_reducible assumption | with_reducible refine up_drewN ?_ | with_reducible refine up_drew ?_ | (with_reducible refine up_alloc ?_ ?_; rotate_left; (first | omega | (simp <;> omega) | simp)) | (with_reducible refine up_set ?_ ?_; rotate_left; (first | omega | (simp <;> omega) | simp)) | (with_reducible refine Below.trans ?_ (Below.mono (by with_reducible assumption) ?_); rotate_left; (first | omega | (simp <;> omega) | simp)))) : Below w.heap.size w _) (Nat.le_refl _))).mono ?_
    rintro e w1 ⟨sum, fl, gf, rfl, hf, hnl, own1, hb1⟩
    have k0 : w1.cell? ⟨w.heap.size, 0, none⟩ = some (.int .i64 (n : Int)) := cu_below hb1 (by simp [go_sem]) (by simp <;> omega)
    have k1 : w1.cell? ⟨w.heap.size, 1, none⟩ = some (.slice a0 es0.length cap0) := cu_below hb1 (by simp [go_sem]) (by simp <;> omega)
    have hz1 : w.heap.size < w1.heap.size := cell_lt k0
    have hbw1 := hide (show Below w.heap.size w w1 from (by repeat (first | with_reducible exact Below.refl _ _ | with_reducible assumption | with_reducible refine up_drewN ?_ | with_reducible refine up_drew ?_ | (with_reducible refine up_alloc ?_ ?_; rotate_left; (first | omega | (simp <;> omega) | simp)) | (with_reducible refine up_set ?_ ?_; rotate_left; (first | omega | (simp <;> omega) | simp)) | (with_reducible refine Below.trans ?_ (Below.mono (by with_reducible assumption) ?_); rotate_left; (first | omega | (simp <;> omega) | simp)))))
    replace own1 := hide own1
    replace hf := hide hf
    replace hnl := hide hnl
    clear hb1 hM
    go_wp2_with fail
    refine (hC.out _ w.heap.size (by omega) (r0.out.below hbw1.out (Nat.le_refl _))).mono ?_
    rintro e w2 ⟨s2, f2, S, av, cv, rfl, hf2, hnl2, hS, own2, hb2⟩
    have k0 := cu_below hb2 k0 (by simp; omega)
    have k1 := cu_below hb2 k1 (by simp; omega)
    have hz2 : w.heap.size < w2.heap.size := cell_lt k0
    have hbw2 := hide (hbw1.out.trans (hb2.mono (by omega)))
    have own1 := hide (own1.out.stays hb2)
    obtain ⟨p1, p2, p3, p4, p5⟩ := hpl.out fl f2 sum s2 S hf.out hnl.out hf2 hnl2 hS
    replace own2 := hide own2
    replace p4 := hide p4
    replace p5 := hide p5
    clear hb2 hbw1 hC hf2 hnl2 hS hpl
    go_wp2_with fail
    refine (hK.out _ w.heap.size (by omega) (r0.out.below hbw2.out (Nat.le_refl _))).mono ?_
    rintro e w3 ⟨rfl, hb3⟩
    have k0 := cu_below hb3 k0 (by simp; omega)
    have k1 := cu_below hb3 k1 (by simp; omega)
    have hz3 : w.heap.size < w3.heap.size := cell_lt k0
    have hbw3 := hide (hbw2.out.trans (hb3.mono (by omega)))
    have own1 := hide (own1.out.stays hb3)
    have own2 := hide (own2.out.stays hb3)
    obtain ⟨gs, rfl, hgs1, hgs2⟩ := own2.out.blockI' (by omega)
    have d1 := own2.out.atRB s a6
    have d2 := own2.out.atRB t a7
    rw [p1] at d1
    rw [p2] at d2
    replace p1 := hide p1
    replace p2 := hide p2
    clear hb3 hbw2 hK
    go_wp2_with fail
    refine (hF.out (some ⟨gf, 0, none⟩) es0.length fl sum _ w3.heap.size (Nat.le_refl _) ((r0.out.below hbw3.out (Nat.le_refl _)).mono (by omega)) (own_rowF own1.out) hf.out).mono ?_
    rintro e w4 ⟨rfl, hb4⟩
    have k0 := cu_below hb4 k0 (by simp; omega)
    have k1 := cu_below hb4 k1 (by simp; omega)
    have hz4 : w.heap.size < w4.heap.size := cell_lt k0
    have hbw4 := hide (hbw3.out.trans (hb4.mono (by omega)))
    have own1 := hide (own1.out.stays hb4)
    have own2 := hide (own2.out.stays hb4)
    have qs : (sum != sum) = false := by simp
    have qe : (sum == sum) = true := by simp
    clear hb4 hbw3 hF d1 d2
    go_wp2_with fail
    refine (hRo.out (some ⟨gs, 0, none⟩) cv S _ w4.heap.size (Nat.le_refl _) ((r0.out.below hbw4.out (Nat.le_refl _)).mono (by omega)) (own_rowB own2.out)).mono ?_
    rintro e w5 ⟨rfl, hb5⟩
    rw [p3]
    have k0 := cu_below hb5 k0 (by simp; omega)
    have k1 := cu_below hb5 k1 (by simp; omega)
    have hz5 : w.heap.size < w5.heap.size := cell_lt k0
    have hbw5 := hide (hbw4.out.trans (hb5.mono (by omega)))
    have own1 := hide (own1.out.stays hb5)
    have own2 := hide (own2.out.stays hb5)
    clear hb5 hbw4 hRo
    go_wp2_with fail
    refine (hMo.out (some ⟨gf, 0, none⟩) es0.length fl _ w5.heap.size (Nat.le_refl _) ((r0.out.below hbw5.out (Nat.le_refl _)).mono (by omega)) (own_rowF own1.out)).mono ?_
    rintro e w6 ⟨g6, rfl, own6, hb6⟩
    have k0 := cu_below hb6 k0 (by simp; omega)
    have k1 := cu_below hb6 k1 (by simp; omega)
    have hz6 : w.heap.size < w6.heap.size := cell_lt k0
    have hbw6 := hide (hbw5.out.trans (hb6.mono (by omega)))
    have own2 := hide (own2.out.stays hb6)
    have hEq := hide (eqB (some ⟨gs, 0, none⟩) (some ⟨g6, 0, none⟩) cv n n n (RW n S) (RW n (rreach (arcs fl (nes es0) 0) posA (only s) n)) w6 w6.heap.size w6.heap.size (rw_len _ _) (rw_len _ _) (own_rowB own2.out) (own_rowB own6) (by omega) (by omega) true (by simp [p4.out]))
    clear hb6 hbw5 hMo own6 own1
    go_wp2_with fail
    refine hEq.out.mono ?_
    rintro e w7 ⟨rfl, nq, hw7⟩
    have hb7 : Below w6.heap.size w6 w7 := by rw [hw7]; exact up_drewN (Below.refl _ _)
    have k0 := cu_below hb7 k0 (by simp; omega)
    have k1 := cu_below hb7 k1 (by simp; omega)
    have hz7 : w.heap.size < w7.heap.size := cell_lt k0
    have hbw7 := hide (hbw6.out.trans (hb7.mono (by omega)))
    have own2 := hide (own2.out.stays hb7)
    clear hb7 hbw6 hEq hw7
    by_cases h8 : n ≤ 8
    · have hn8 : ¬ ((n : Int) > 8) := by omega
      have hlc := hide (hls.out fl sum hf.out hnl.out)
      have hLc2 := hide (hLc.out h8)
      clear hls hLc
      go_wp2_with fail
      refine (hLc2.out _ w7.heap.size (Nat.le_refl _) ((r0.out.below hbw7.out (Nat.le_refl _)).mono (by omega))).mono ?_
      rintro e w8 ⟨v8, rfl, hz8, hb8⟩
      have own2 := hide (own2.out.stays hb8)
      have hbw8 := hide (hbw7.out.trans (hb8.mono (by omega)))
      have hb := hlc.out.1
      rw [hb]
      rcases hz8 with ⟨h9, _⟩ | ⟨_, g8, rfl, own8⟩
      · exfalso
        have := flow_bound hf.out (fun e he => (pos_edges' a4.out a5.out e he).2)
        rw [nes_len] at this
        rw [hb] at h9
        unfold FAR at h9
        omega
      · have hin : RW n (lcRun (nes es0) s t (2 ^ n)).I = RW n S := rw_congr (fun v hv => by rw [Bool.eq_iff_iff]; exact (hlc.out.2 v hv).trans (p5.out v).symm)
        have hEq := hide (eqB (some ⟨g8, 0, none⟩) (some ⟨gs, 0, none⟩) n cv n n (RW n (lcRun (nes es0) s t (2 ^ n)).I) (RW n S) w8 w8.heap.size w8.heap.size (rw_len _ _) (rw_len _ _) (own_rowB own8) (own_rowB own2.out) (by omega) (by omega) true (by simp [hin]))
        clear hb8 hlc own8 hb hin hLc2
        go_wp2_with fail
        refine hEq.out.mono ?_
        rintro e w9 ⟨rfl, nq, hw9⟩
        have hbw9 := hide (show Below w.heap.size w w9 by rw [hw9]; exact up_drewN hbw8.out)
        clear hw9
        go_wp2
        go_ret
        exact ⟨rfl, by first | exact hbw9.out | exact hbw9.out.drew⟩
    · have hn8 : (n : Int) > 8 := by omega
      clear hls hLc
      go_wp2
      go_ret
      exact ⟨rfl, by first | exact hbw7.out | exact hbw7.out.drew⟩
  · have q0 : (flookErr x0 es0 x1 x2 != 0) = true := by simp [h0]
    have q1 : (flookErr x0 es0 x1 x2 == flookErr x0 es0 x1 x2) = true := by simp
    have hM := hide (fun w B hB hE => fmax_bad x0 a0 cap0 es0 x1 x2 w B hB hE hl h0)
    have hC := hide (fun w B hB hE => fcut_bad x0 a0 cap0 es0 x1 x2 w B hB hE hl h0)
    have hK := hide (fun w B hB hE => rflook_any x0 a0 cap0 es0 x1 x2 w B hB hE hl)
    clear h0 be0
    go_enter Try.func5, Try.ntmps5
    go_wp2_with fail
    refine (hM.out _ w.heap.size (by simp) (r0.out.below ((by repeat (first | with_reducible exact Below.refl _ _ | with_reducible assumption | with_reducible refine up_drewN ?_ | with_reducible refine up_drew ?_ | (with_reducible refine up_alloc ?_ ?_; rotate_left; (first | omega | (simp <;> omega) | simp)) | (with_reducible refine up_set ?_ ?_; rotate_left; (first | omega | (simp <;> omega) | simp)) | (with_reducible refine Below.trans ?_ (Below.mono (by with_reducible assumption) ?_); rotate_left; (first | omega | (simp <;> omega) | simp)))) : Below w.heap.size w _) (Nat.le_refl _))).mono ?_
    rintro e w1 ⟨rfl, hb1⟩
    obtain ⟨hc1, hf1⟩ := bcell hb1; have hz1 : w.heap.size < w1.heap.size := (by have := hb1.size; (try simp at this); omega)
    go_wp2_with fail
    refine (hC.out _ w.heap.size (by omega) (r0.out.below ((by repeat (first | with_reducible exact Below.refl _ _ | with_reducible assumption | with_reducible refine up_drewN ?_ | with_reducible refine up_drew ?_ | (with_reducible refine up_alloc ?_ ?_; rotate_left; (first | omega | (simp <;> omega) | simp)) | (with_reducible refine up_set ?_ ?_; rotate_left; (first | omega | (simp <;> omega) | simp)) | (with_reducible refine Below.trans ?_ (Below.mono (by with_reducible assumption) ?_); rotate_left; (first | omega | (simp <;> omega) | simp)))) : Below w.heap.size w _) (Nat.le_refl _))).mono ?_
    rintro e w2 ⟨rfl, hb2⟩
    obtain ⟨hc2, hf2⟩ := bcell hb2; have hz2 : w.heap.size < w2.heap.size := (by have := hb2.size; (try simp at this); omega)
    go_wp2_with fail
    refine (hK.out _ w.heap.size (by omega) (r0.out.below ((by repeat (first | with_reducible exact Below.refl _ _ | with_reducible assumption | with_reducible refine up_drewN ?_ | with_reducible refine up_drew ?_ | (with_reducible refine up_alloc ?_ ?_; rotate_left; (first | omega | (simp <;> omega) | simp)) | (with_reducible refine up_set ?_ ?_; rotate_left; (first | omega | (simp <;> omega) | simp)) | (with_reducible refine Below.trans ?_ (Below.mono (by with_reducible assumption) ?_); rotate_left; (first | omega | (simp <;> omega) | simp)))) : Below w.heap.size w _) (Nat.le_refl _))).mono ?_
    rintro e w3 ⟨rfl, hb3⟩
    obtain ⟨hc3, hf3⟩ := bcell hb3; have hz3 : w.heap.size < w3.heap.size := (by have := hb3.size; (try simp at this); omega)
    go_wp2
    go_ret
    exact ⟨rfl, by first | exact (by repeat (first | with_reducible exact Below.refl _ _ | with_reducible assumption | with_reducible refine up_drewN ?_ | with_reducible refine up_drew ?_ | (with_reducible refine up_alloc ?_ ?_; rotate_left; (first | omega | (simp <;> omega) | simp)) | (with_reducible refine up_set ?_ ?_; rotate_left; (first | omega | (simp <;> omega) | simp)) | (with_reducible refine Below.trans ?_ (Below.mono (by with_reducible assumption) ?_); rotate_left; (first | omega | (simp <;> omega) | simp)))) | exact ((by repeat (first | with_reducible exact Below.refl _ _ | with_reducible assumption | with_reducible refine up_drewN ?_ | with_reducible refine up_drew ?_ | (with_reducible refine up_alloc ?_ ?_; rotate_left; (first | omega | (simp <;> omega) | simp)) | (with_reducible refine up_set ?_ ?_; rotate_left; (first | omega | (simp <;> omega) | simp)) | (with_reducible refine Below.trans ?_ (Below.mono (by with_reducible assumption) ?_); rotate_left; (first | omega | (simp <;> omega) | simp)))) : Below w.heap.size w _).drew⟩
end Go.Proofs.Ytcehdpeeaogpiaa
