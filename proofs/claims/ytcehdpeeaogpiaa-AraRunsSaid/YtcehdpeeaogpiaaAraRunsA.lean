/-
  Several texts in one:
  The walk of felllaw.AraRuns: it returns true. Conditions: the arguments read as data.
  Proved here: felllaw.AraRuns returns true whatever it is given. No conditions.
-/
import Derived.Test.YtcehdpeeaogpiaaAME
import Derived.Test.YtcehdpeeaogpiaaOpen
/-! The walk of felllaw.AraRuns: it returns true. Conditions: the arguments read as data. -/
namespace Go.Proofs.Ytcehdpeeaogpiaa
open Go.RowKit
set_option linter.unusedSimpArgs false
set_option linter.unusedVariables false
theorem ras_keep {n rb mb pb : Nat} {ev hv wv : Value} {fr tg : Int} {es : List Ed} {s : AS} {w1 wr : World} (h : RAS n rb mb pb ev hv wv fr tg es s w1 wr) : Keep (RXb rb mb pb) w1 wr := by
  obtain ⟨nm, a0, k0, c0, a1, k1, c1, a2, k2, c2, sl, ar, t, rc, ros, hX, _⟩ := h
  exact hX.keep
theorem ras_stays {n rb mb pb : Nat} {ev hv wv : Value} {fr tg : Int} {es : List Ed} {s : AS} {w1 wr w' : World} (h : RAS n rb mb pb ev hv wv fr tg es s w1 wr) (hb : Below wr.heap.size wr w') : RAS n rb mb pb ev hv wv fr tg es s w1 w' := by
  obtain ⟨nm, a0, k0, c0, a1, k1, c1, a2, k2, c2, sl, ar, t, rc, ros, hX, hr⟩ := h
  exact ⟨nm, a0, k0, c0, a1, k1, c1, a2, k2, c2, sl, ar, t, rc, ros, hX.stays hb, hr⟩
/-- what its Over and its rounds read -/
theorem ras_told {n rb mb pb m wk : Nat} {ev hv : Value} {aw : Option Addr} {fr tg : Int} {es : List Ed} {s : AS} {w1 wr : World} (h : RAS n rb mb pb ev hv (.slice aw m wk) fr tg es s w1 wr) : ∃ ar rc, wr.cell? ⟨rb, 12, none⟩ = some (.slice ar s.told.length rc) ∧ wr.cell? ⟨rb, 5, none⟩ = some (.slice aw m wk) ∧ RoundsAt w1.heap.size wr (.slice ar s.told.length rc) s.told := by
  obtain ⟨nm, a0, k0, c0, a1, k1, c1, a2, k2, c2, sl, ar, t, rc, ros, hX, ht, _⟩ := h
  subst ht
  exact ⟨ar, rc, hX.c12, hX.c5, ros, hX.rnds, hX.told, fun j hj => (hX.apP j hj).1⟩
theorem astep_left {ws : List P2} {es : List Ed} {h : Nat → Int} {n tg : Nat} {s s' : AS} (hs : AStep ws es h n tg s s') : s'.told.length < ws.length → ∃ r, ws[s'.told.length]? = some r ∧ Left r h n tg s' := by
  obtain ⟨r, v, _, _, h3⟩ := hs
  exact settle_end h3
theorem asteps_more {ws : List P2} {es : List Ed} {h : Nat → Int} {n tg K : Nat} {s a b : AS} (h1 : ASteps ws es h n tg K s K a) (hl : a.told.length < ws.length) (h2 : AStep ws es h n tg a b) : ASteps ws es h n tg (K + 1) s (K + 1) b := asteps_snoc (N := 0) h1 hl h2
set_option maxRecDepth 100000 in
set_option maxHeartbeats 8000000 in
theorem walk_AraRuns (x0 : Int) (a0 : Option Addr) (cap0 : Nat) (es0 : List Ed) (x1 : Int) (x2 : Int) (a3 : Option Addr) (cap3 : Nat) (x3 : List Int) (a4 : Option Addr) (cap4 : Nat) (x4 : List P2) (w : World) (b0 : Bd x0) (l0 : es0.length ≤ cap0) (m0 : cap0 ≤ maxLen) (r0 : Row encE 3 w w.heap.size a0 es0) (be0 : ∀ x ∈ es0, BdE x) (b1 : Bd x1) (b2 : Bd x2) (l3 : x3.length ≤ cap3) (m3 : cap3 ≤ maxLen) (r3 : Row encI 1 w w.heap.size a3 x3) (b3 : ∀ x ∈ x3, Bd x) (l4 : x4.length ≤ cap4) (m4 : cap4 ≤ maxLen) (r4 : Row encP 2 w w.heap.size a4 x4) (b4 : ∀ x ∈ x4, BdP x) :
    Calls Try.prog 12 #[.agg #[.int .i64 x0, .slice a0 es0.length cap0], .int .i64 x1, .int .i64 x2, .slice a3 x3.length cap3, .slice a4 x4.length cap4] w fun e w' => e = .returned (.bool true) ∧ Below w.heap.size w w' := by
  have hl : es0.length ≤ 9223372036854775807 := by unfold maxLen at m0; omega
  have hl3 : x3.length ≤ 9223372036854775807 := by unfold maxLen at m3; omega
  have hRL := hide (fun (w' : World) (hb : Below w.heap.size w w') => rslook_any x0 a0 cap0 es0 x1 x2 a3 cap3 x3 w' w.heap.size hb.size (r0.below hb (Nat.le_refl _)) (r3.below hb (Nat.le_refl _)) hl hl3)
  have hRW := hide (fun (w' : World) (hb : Below w.heap.size w w') => raweights_any a4 x4.length cap4 x4 rfl w' w.heap.size hb.size (r4.below hb (Nat.le_refl _)))
  obtain ⟨se, hse⟩ : ∃ se, se = slookErr x0 es0 x1 x2 x3 := ⟨_, rfl⟩
  obtain ⟨we, hwe⟩ : ∃ we, we = wsErr x4 := ⟨_, rfl⟩
  by_cases hgood : se = 0 ∧ we = 0
  · obtain ⟨g1, g2⟩ := hgood
    have hs0 : slookErr x0 es0 x1 x2 x3 = 0 := by rw [← hse]; exact g1
    have hw0 : wsErr x4 = 0 := by rw [← hwe]; exact g2
    rw [hs0] at hRL
    rw [hw0] at hRW
    obtain ⟨n, v, t, rfl, rfl, rfl, a1, a2, q4, a5, a6, a7, a8, a9, a10, a11, a12⟩ := slook_all hs0
    obtain ⟨d1, d2, d3⟩ := wsErr_ok hw0
    have hRun := hide (fun (w' : World) (hb : Below w.heap.size w w') => arun_ok n v t a0 cap0 es0 a3 cap3 x3 a4 x4.length cap4 x4 rfl w' w.heap.size hb.size (r0.below hb (Nat.le_refl _)) (r3.below hb (Nat.le_refl _)) (r4.below hb (Nat.le_refl _)) hl hl3 hs0 hw0)
    have hNew := hide (fun (w' : World) (hb : Below w.heap.size w w') => rnew_any n v t cap3 x4.length cap4 es0.length cap0 a0 a3 a4 es0 (hAt x3) x4 w' w.heap.size hb.size (r0.below hb (Nat.le_refl _)) (by have := li_hAt x3; rw [a9] at this; rw [this]; exact r3.below hb (Nat.le_refl _)) (r4.below hb (Nat.le_refl _)) ⟨a1, a2⟩ a7 a8 (fun u _ => a10 u) d3 ⟨rfl, d1, d2⟩ ⟨a5, a6, rfl, q4⟩)
    rw [a9] at hRL hRun ⊢
    obtain ⟨h, hh⟩ : ∃ h, h = hAt x3 := ⟨_, rfl⟩
    rw [← hh] at hRun hNew
    replace hh := hide hh
    clear hse hwe g1 g2 hs0 hw0 r0 r3 r4 be0 b3 b4 l0 l3 l4 m0 m3 m4 b0 b1 b2 a5 a6 a10 a11 a12 d3 hl3
    go_enter Try.func12, Try.ntmps12
    go_wp2_with fail
    refine (hRun.out _ (by exact (by repeat (first | with_reducible exact Below.refl _ _ | with_reducible assumption | with_reducible refine up_drewN ?_ | with_reducible refine up_drew ?_ | (with_reducible refine up_alloc ?_ ?_; rotate_left; (first | omega | (simp <;> omega) | simp)) | (with_reducible refine up_set ?_ ?_; rotate_left; (first | omega | (simp <;> omega) | simp)) | (with_reducible refine Below.trans ?_ (Below.mono (by with_reducible assumption) ?_); rotate_left; (first | omega | (simp <;> omega) | simp)))))).mono ?_
    rintro e w1 ⟨ap, cp, s0, sf, K, rfl, hst0, hsK, hsl, hRA, hb1, hlp⟩
    have k0 := cu_below hb1 (p := ⟨w.heap.size, 0, none⟩) (v := .int .i64 (n : Int)) (by simp [go_sem]) (by simp)
    have k1 := cu_below hb1 (p := ⟨w.heap.size, 1, none⟩) (v := .slice a0 es0.length cap0) (by simp [go_sem]) (by simp)
    have hb2 := hide ((((by repeat (first | with_reducible exact Below.refl _ _ | with_reducible assumption | with_reducible refine up_drewN ?_ | with_reducible refine up_drew ?_ | (with_reducible refine up_alloc ?_ ?_; rotate_left; (first | omega | (simp <;> omega) | simp)) | (with_reducible refine up_set ?_ ?_; rotate_left; (first | omega | (simp <;> omega) | simp)) | (with_reducible refine Below.trans ?_ (Below.mono (by with_reducible assumption) ?_); rotate_left; (first | omega | (simp <;> omega) | simp)))) : Below w.heap.size w _)).trans (hb1.mono (by simp)))
    have z1 : w.heap.size < w1.heap.size := cell_lt k0
    replace hst0 := hide hst0
    replace hsK := hide hsK
    replace hRA := hide hRA
    replace hlp := hide hlp
    clear hb1 hRun
    go_wp2_with fail
    refine (hRL.out _ hb2.out).mono ?_
    rintro e w2 ⟨rfl, hb3⟩
    have k0 := cu_below hb3 k0 z1
    have k1 := cu_below hb3 k1 z1
    have hRA2 := hide (hRA.out.stays hb3)
    have hb4 := hide (hb2.out.trans (hb3.mono hb2.out.size))
    have z2 : w.heap.size < w2.heap.size := cell_lt k0
    clear hb3 hb2 z1 hRA hRL
    go_wp2_with fail
    refine (hRW.out _ hb4.out).mono ?_
    rintro e w3 ⟨rfl, hb5⟩
    have k0 := cu_below hb5 k0 z2
    have k1 := cu_below hb5 k1 z2
    have hRA3 := hide (hRA2.out.stays hb5)
    have hb6 := hide (hb4.out.trans (hb5.mono hb4.out.size))
    have z3 : w.heap.size < w3.heap.size := cell_lt k0
    clear hb5 hb4 z2 hRA2 hRW
    go_wp2_with fail
    refine (hNew.out _ hb6.out).mono ?_
    rintro e w4 ⟨rb, mb, pb, wm, s1, rfl, hAC, hst1, hR, hin, htl, hBel⟩
    obtain rfl : s0 = s1 := asettle_one hst0.out hst1
    have hlf := hide (settle_end hst1)
    replace hAC := hide hAC
    replace hR := hide hR
    replace hin := hide hin
    replace hBel := hide hBel
    have hz0 := hide (ASteps.zero (ws := x4) (es := es0) (h := h) (n := n) (tg := t) s0)
    have z4 : w3.heap.size ≤ w4.heap.size := (hBel.out _ (ras_keep hR.out)).size
    clear hNew hst1 k0 k1
    go_wp2
    go_loopg [] (64 * x4.length + 2) (fun gk wr => ∃ (L : Nat) (s1 : AS), Hid (RAS n rb mb pb (.slice a0 es0.length cap0) (.slice a3 n cap3) (.slice a4 x4.length cap4) (v : Int) (t : Int) es0 s1 wm wr) ∧ Hid (AInv n h s1) ∧ s1.told.length ≤ x4.length ∧ Hid (ASteps x4 es0 h n t L s0 L s1) ∧ Hid (s1.told.length < x4.length → ∃ r, x4[s1.told.length]? = some r ∧ Left r h n t s1) ∧ 64 * x4.length + 2 ≤ gk + s1.done)
    case atStart => exact ⟨0, s0, hR, hin, htl, hz0, hlf, by omega⟩
    case round =>
      clear hR hin htl hz0 hlf z4
      obtain ⟨L, s1, hR, hin, htl, hsL, hlf, hgk⟩ := hrel
      obtain ⟨ar, rc, k12, k5, hRB⟩ := ras_told hR.out
      obtain ⟨tt, htt⟩ : ∃ tt, tt = s1.told.length := ⟨_, rfl⟩
      rw [← htt] at k12 hRB htl hlf
      replace hRB := hide hRB
      by_cases hov : tt = x4.length
      · have hov2 : ((tt : Int) == (x4.length : Int)) = true := by simp; omega
        have hse2 : sf = s1 := (asteps_end hsK.out (by omega) hsL.out (by omega)).2
        have hbk := hBel.out _ (ras_keep hR.out)
        have hRA4 := hide (hRA3.out.stays hbk)
        have hbw := hide (hb6.out.trans (hbk.mono hb6.out.size))
        have hEq := hide (fun k => eqrounds_any ap ar cp rc x4.length _ _ s1.told (wr.drewN k) (by have := hRA4.out.stays (up_drewN (n := k) (Below.refl wr.heap.size wr)); rw [hse2] at this; exact this) (by have := hRB.out.stays (up_drewN (n := k) (Below.refl wr.heap.size wr)); rw [hov] at this; exact this) (by omega) d2 (by rw [← hse2]; exact hlp.out))
        rw [hov] at k12
        have k12' := hide (fun k => (cu_drewN k12 : (wr.drewN k).cell? ⟨rb, 12, none⟩ = _))
        have hR2 := hide hR
        replace htt := hide htt
        clear hR hin hsL hlf hse2 hbk hRA3 hRA4 hRB
        go_wp2_with fail
        refine (rover_any rb x4.length rc x4.length cap4 ar a4 _ k12 k5).mono ?_
        rintro e w5 ⟨rfl, kk, rfl⟩
        have k12 := k12'.out kk
        have hEq2 := hide (hEq.out kk)
        have hbw2 := hide (up_drewN (n := kk) hbw.out)
        have q9 : ((x4.length : Int) == (x4.length : Int)) = true := by simp
        rw [q9]
        clear k5 k12' hEq hov hov2
        generalize wr.drewN kk = w5 at k12 hEq2 hbw2 ⊢
        go_wp2_with fail
        refine hEq2.out.mono ?_
        rintro e w6 ⟨rfl, hb7⟩
        have hb8 := hide (hbw2.out.trans (hb7.mono hbw2.out.size))
        clear hb7
        go_wp2
        go_ret
        exact ⟨rfl, hb8.out⟩
      · have hov2 : ((tt : Int) == (x4.length : Int)) = false := by simp; omega
        obtain ⟨r, hr, v1, hv1, -⟩ := hlf.out (by omega)
        rw [htt] at hr
        have hlt : s1.told.length < x4.length := by omega
        have hSt := hide (fun k => rstep_any (w := wr.drewN k) t a8 (ras_stays hR.out (up_drewN (Below.refl _ _))) hAC.out hin.out hlt r v1 hr hv1)
        replace htt := hide htt
        clear hv1 hlf hRB
        go_wp2_with fail
        refine (rover_any rb tt rc x4.length cap4 ar a4 _ k12 k5).mono ?_
        rintro e w5 ⟨rfl, kk, rfl⟩
        rw [hov2]
        have hSt2 := hide (hSt.out kk)
        clear k5 k12 hSt
        generalize wr.drewN kk = w5 at hSt2 ⊢
        go_wp2_with fail
        refine hSt2.out.mono ?_
        rintro e w6 ⟨rfl, s2, hst, hR2, hin2, htl2⟩
        have hdn := astep_done hst
        have hsL2 := hide (asteps_more hsL.out hlt hst)
        have hlf2 := hide (astep_left hst)
        have hdn2 := hin2.dn
        have hnb := nb_le n s2.lk
        replace hR2 := hide hR2
        replace hin2 := hide hin2
        clear hst hsL
        go_wp2
        go_roundg (gk - 1)
        case measure =>
          have h1 := hin.out.dn
          have h2 := nb_le n s1.lk
          omega
        case rel => exact ⟨L + 1, s2, hR2, hin2, htl2, hsL2, hlf2, by omega⟩
  · have hRun := hide (fun (er : Int) (her : er = if slookErr x0 es0 x1 x2 x3 ≠ 0 then slookErr x0 es0 x1 x2 x3 else wsErr x4) (h0 : er ≠ 0) (w' : World) (hb : Below w.heap.size w w') => arun_bad x0 a0 cap0 es0 x1 x2 a3 cap3 x3 a4 x4.length cap4 x4 rfl w' w.heap.size hb.size (r0.below hb (Nat.le_refl _)) (r3.below hb (Nat.le_refl _)) (r4.below hb (Nat.le_refl _)) hl hl3 er her h0)
    rw [← hse] at hRL
    rw [← hwe] at hRW
    rw [← hse, ← hwe] at hRun
    by_cases hs : se = 0
    · have hw : we ≠ 0 := fun e => hgood ⟨hs, e⟩
      subst hs
      have hRun2 := hide (hRun.out we (by simp) hw)
      have qw : (we != 0) = true := by simpa using hw
      have qe : (we == we) = true := by simp
      clear hRun hgood hse hwe hw r0 r3 r4 be0 b3 b4 l0 l3 l4 m0 m3 m4 b0 b1 b2 hl hl3
      go_enter Try.func12, Try.ntmps12
      go_wp2_with fail
      refine (hRun2.out _ (by exact (by repeat (first | with_reducible exact Below.refl _ _ | with_reducible assumption | with_reducible refine up_drewN ?_ | with_reducible refine up_drew ?_ | (with_reducible refine up_alloc ?_ ?_; rotate_left; (first | omega | (simp <;> omega) | simp)) | (with_reducible refine up_set ?_ ?_; rotate_left; (first | omega | (simp <;> omega) | simp)) | (with_reducible refine Below.trans ?_ (Below.mono (by with_reducible assumption) ?_); rotate_left; (first | omega | (simp <;> omega) | simp)))))).mono ?_
      rintro e w1 ⟨rfl, hb1⟩
      have k0 := cu_below hb1 (p := ⟨w.heap.size, 0, none⟩) (v := .int .i64 x0) (by simp [go_sem]) (by simp)
      have k1 := cu_below hb1 (p := ⟨w.heap.size, 1, none⟩) (v := .slice a0 es0.length cap0) (by simp [go_sem]) (by simp)
      have hb2 := hide ((((by repeat (first | with_reducible exact Below.refl _ _ | with_reducible assumption | with_reducible refine up_drewN ?_ | with_reducible refine up_drew ?_ | (with_reducible refine up_alloc ?_ ?_; rotate_left; (first | omega | (simp <;> omega) | simp)) | (with_reducible refine up_set ?_ ?_; rotate_left; (first | omega | (simp <;> omega) | simp)) | (with_reducible refine Below.trans ?_ (Below.mono (by with_reducible assumption) ?_); rotate_left; (first | omega | (simp <;> omega) | simp)))) : Below w.heap.size w _)).trans (hb1.mono (by simp)))
      have z1 : w.heap.size < w1.heap.size := cell_lt k0
      clear hb1 hRun2
      go_wp2_with fail
      refine (hRL.out _ hb2.out).mono ?_
      rintro e w2 ⟨rfl, hb3⟩
      have hb4 := hide (hb2.out.trans (hb3.mono hb2.out.size))
      clear hb3 hb2 z1 hRL k0 k1
      go_wp2_with fail
      refine (hRW.out _ hb4.out).mono ?_
      rintro e w3 ⟨rfl, hb5⟩
      have hb6 := hide (hb4.out.trans (hb5.mono hb4.out.size))
      clear hb5 hb4 hRW
      go_wp2
      go_ret
      exact ⟨rfl, hb6.out⟩
    · have hRun2 := hide (hRun.out se (by simp [hs]) hs)
      have qs : (se == 0) = false := by simpa using hs
      have qw : (se != 0) = true := by simpa using hs
      have qe : (se == se) = true := by simp
      clear hRun hgood hse hwe hs r0 r3 r4 be0 b3 b4 l0 l3 l4 m0 m3 m4 b0 b1 b2 hl hl3 hRW
      go_enter Try.func12, Try.ntmps12
      go_wp2_with fail
      refine (hRun2.out _ (by exact (by repeat (first | with_reducible exact Below.refl _ _ | with_reducible assumption | with_reducible refine up_drewN ?_ | with_reducible refine up_drew ?_ | (with_reducible refine up_alloc ?_ ?_; rotate_left; (first | omega | (simp <;> omega) | simp)) | (with_reducible refine up_set ?_ ?_; rotate_left; (first | omega | (simp <;> omega) | simp)) | (with_reducible refine Below.trans ?_ (Below.mono (by with_reducible assumption) ?_); rotate_left; (first | omega | (simp <;> omega) | simp)))))).mono ?_
      rintro e w1 ⟨rfl, hb1⟩
      have k0 := cu_below hb1 (p := ⟨w.heap.size, 0, none⟩) (v := .int .i64 x0) (by simp [go_sem]) (by simp)
      have k1 := cu_below hb1 (p := ⟨w.heap.size, 1, none⟩) (v := .slice a0 es0.length cap0) (by simp [go_sem]) (by simp)
      have hb2 := hide ((((by repeat (first | with_reducible exact Below.refl _ _ | with_reducible assumption | with_reducible refine up_drewN ?_ | with_reducible refine up_drew ?_ | (with_reducible refine up_alloc ?_ ?_; rotate_left; (first | omega | (simp <;> omega) | simp)) | (with_reducible refine up_set ?_ ?_; rotate_left; (first | omega | (simp <;> omega) | simp)) | (with_reducible refine Below.trans ?_ (Below.mono (by with_reducible assumption) ?_); rotate_left; (first | omega | (simp <;> omega) | simp)))) : Below w.heap.size w _)).trans (hb1.mono (by simp)))
      have z1 : w.heap.size < w1.heap.size := cell_lt k0
      clear hb1 hRun2
      go_wp2_with fail
      refine (hRL.out _ hb2.out).mono ?_
      rintro e w2 ⟨rfl, hb3⟩
      have hb4 := hide (hb2.out.trans (hb3.mono hb2.out.size))
      clear hb3 hb2 z1 hRL k0 k1
      go_wp2
      go_ret
      exact ⟨rfl, hb4.out⟩
end Go.Proofs.Ytcehdpeeaogpiaa

/-! Proved here: felllaw.AraRuns returns true whatever it is given. No conditions. -/
namespace Go.Proofs.Ytcehdpeeaogpiaa
open Go.ChangeShapes Go.WideShapes Go.ChangeAt Go.RowKit
set_option linter.unusedSimpArgs false
set_option linter.unusedVariables false

set_option maxRecDepth 100000 in
theorem lifted_AraRuns (os : Os) (started : os.Started) (H : Type) (enc : TypeId × Value → H) :
    ReturnsInHanded {} Try.checked os 12 .any (Rows.araRunsSpec.pre6 enc Try.prog Try.f12 Rows.araRunsRow.domain false) (Rows.araRunsSpec.post enc Try.prog Try.f12 false true false false) := by
  refine returnsInHanded_of_change (C := Try.checked) own started (by kernel_rfl) Try.func12
    (ChangeSpec.witness6 (enc := enc) (C := Try.checked) false ⟨#[], #[.agg #[.int .i64 0, .slice none 0 0], .int .i64 0, .int .i64 0, .slice none 0 0, .slice none 0 0], []⟩ 8 (by kernel_rfl) (by kernel_rfl) (by kernel_rfl) (by kernel_rfl)) ?_
  intro W base args ds gs before hval0 hW hcnd _
  have hval : ∀ (j : Nat) t v, Try.f12.params[j]? = some t → args[j]? = some v → Value.okWide Try.prog W .any base t v := hval0
  have hW' := hW
  obtain ⟨p, q, hA0, hV, rfl, hfz, hnd⟩ := hW
  have hA : DataW.TrodAll enc Try.prog W 0 (fun _ => true) true Try.f12.params.toList args.toList ds p := hA0
  rw [Try.params12] at hA hval
  obtain ⟨v0, vs0, d0, ds0, p0, q0, hargs, rfl, rfl, h0, tr0⟩ := trodAll_cons hA
  obtain ⟨v1, vs1, d1, ds1, p1, q1, rfl, rfl, rfl, h1, tr1⟩ := trodAll_cons tr0
  obtain ⟨v2, vs2, d2, ds2, p2, q2, rfl, rfl, rfl, h2, tr2⟩ := trodAll_cons tr1
  obtain ⟨v3, vs3, d3, ds3, p3, q3, rfl, rfl, rfl, h3, tr3⟩ := trodAll_cons tr2
  obtain ⟨v4, vs4, d4, ds4, p4, q4, rfl, rfl, rfl, h4, tr4⟩ := trodAll_cons tr3
  obtain ⟨rfl, rfl, rfl⟩ := trodAll_nil tr4
  obtain rfl : args = #[v0, v1, v2, v3, v4] := by cases args; simp_all
  obtain ⟨rfl, rfl⟩ := trodVars_none hV
  have k0 := h0
  have lt0 : ∀ x ∈ p0, x.block < W.heap.size := by obtain ⟨m, hm⟩ := k0; exact DataW.trod_lt m _ _ _ hm
  have k1 := h1
  have lt1 : ∀ x ∈ p1, x.block < W.heap.size := by obtain ⟨m, hm⟩ := k1; exact DataW.trod_lt m _ _ _ hm
  have k2 := h2
  have lt2 : ∀ x ∈ p2, x.block < W.heap.size := by obtain ⟨m, hm⟩ := k2; exact DataW.trod_lt m _ _ _ hm
  have k3 := h3
  have lt3 : ∀ x ∈ p3, x.block < W.heap.size := by obtain ⟨m, hm⟩ := k3; exact DataW.trod_lt m _ _ _ hm
  have k4 := h4
  have lt4 : ∀ x ∈ p4, x.block < W.heap.size := by obtain ⟨m, hm⟩ := k4; exact DataW.trod_lt m _ _ _ hm
  obtain ⟨x0, a0, cap0, es0, rfl, b0, l0, m0, r0, be0⟩ := openT_net (P := Try.prog) Try.underlying24 (by kernel_rfl) (by kernel_rfl) Try.underlying3 Try.underlying22 (by kernel_rfl) Try.underlying34 (by kernel_rfl) Try.underlying3 Try.underlying3 Try.underlying3 (hval 0 24 v0 rfl rfl) h0
  obtain ⟨x1, rfl, b1⟩ := openT_int Try.underlying3 (hval 1 3 v1 rfl rfl) h1
  obtain ⟨x2, rfl, b2⟩ := openT_int Try.underlying3 (hval 2 3 v2 rfl rfl) h2
  obtain ⟨a3, cap3, x3, rfl, l3, m3, r3, b3⟩ := openT_ints Try.underlying29 (by kernel_rfl) Try.underlying3 (hval 3 29 v3 rfl rfl) h3
  obtain ⟨a4, cap4, x4, rfl, l4, m4, r4, b4⟩ := openT_p2s Try.underlying96 (by kernel_rfl) Try.underlying90 (by kernel_rfl) Try.underlying3 Try.underlying3 (hval 4 96 v4 rfl rfl) h4
  clear hA0 hval0
  refine (walk_AraRuns x0 a0 cap0 es0 x1 x2 a3 cap3 x3 a4 cap4 x4 W b0 l0 m0 r0 be0 b1 b2 l3 m3 r3 b3 l4 m4 r4 b4).mono fun e W' ⟨he, bel⟩ => ?_
  subst he
  exact ⟨_, rfl, _, _, _, [], _, [], hW', trodAll_mk1 (shut_bool Try.underlying4 _), (trodAll_cons_mk (Below.trod laidOut (by kernel_rfl) (of_decide_eq_true (by kernel_rfl)) k0 bel lt0) (trodAll_cons_mk (Below.trod laidOut (by kernel_rfl) (of_decide_eq_true (by kernel_rfl)) k1 bel lt1) (trodAll_cons_mk (Below.trod laidOut (by kernel_rfl) (of_decide_eq_true (by kernel_rfl)) k2 bel lt2) (trodAll_cons_mk (Below.trod laidOut (by kernel_rfl) (of_decide_eq_true (by kernel_rfl)) k3 bel lt3) (trodAll_cons_mk (Below.trod laidOut (by kernel_rfl) (of_decide_eq_true (by kernel_rfl)) k4 bel lt4) trodAll_mk0))))), rfl, bel.frame _, fun h => by cases h⟩

theorem over_AraRuns : Rows.araRunsRow.holds Try.pinned (OpenSpec.ofChange Rows.araRunsSpec) :=
  OpenClaim.holds_of_wide 12 Try.f12 rfl rfl rfl rfl rfl rfl rfl ⟨rfl, rfl, rfl, rfl, rfl⟩ rfl rfl rfl rfl rfl (by kernel_rfl) Try.func12 (by kernel_rfl)
    (of_decide_eq_true (by kernel_rfl)) (by unfold Func.isWrapper; first | (rw [if_pos (by decide +kernel)]; kernel_rfl) | (rw [if_neg (by decide +kernel)]; exact ⟨rfl, rfl⟩))
    (fun os started H enc _ => lifted_AraRuns os started H enc)

/-- The given statement. -/
theorem proved_AraRuns : Rows.AraRunsSaid := over_AraRuns
#print axioms proved_AraRuns

end Go.Proofs.Ytcehdpeeaogpiaa
