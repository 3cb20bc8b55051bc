/-
  The walk of felllaw.WeighRuns: it returns true. Conditions: the arguments read as data.
-/
import Derived.Test.YtcehdpeeaogpiaaWeiM
import Derived.Test.YtcehdpeeaogpiaaWeiT
import Derived.Test.YtcehdpeeaogpiaaOpen
import Derived.Deep.RegionHeld3
import Derived.Deep.DeepCutAuto
namespace Go.Proofs.Ytcehdpeeaogpiaa
open Go.RowKit
set_option linter.unusedSimpArgs false
set_option linter.unusedVariables false
theorem keyLawW (r : P2) (h : weighErr r = 0) (kb : Nat) (w : World) (c0 : w.cell? ⟨kb, 0, none⟩ = some (.int .i64 r.a)) (c1 : w.cell? ⟨kb, 1, none⟩ = some (.int .i64 r.b)) : KeyLwW kb (keyW r) w := by
  intro c g h1 h2 h3 h4
  obtain ⟨m1, m2, m3, m4⟩ := keyW_b h h1 h2 h3 h4
  unfold keyW
  rw [Int.mul_comm r.b c, Int.mul_comm r.a g]
  rw [Int.mul_comm r.b c] at m1 m2
  rw [Int.mul_comm r.a g] at m3 m4
  have w1 : IntKind.i64.wrap (c * r.b) = c * r.b := IntWalk.i64_in _ (by omega)
  have w2 : IntKind.i64.wrap (g * r.a) = g * r.a := IntWalk.i64_in _ (by omega)
  have w3 : IntKind.i64.wrap (c * r.b + g * r.a) = c * r.b + g * r.a := IntWalk.i64_in _ (by omega)
  have hlt := cell_lt c0
  clear h
  go_enter Try.func59, Try.ntmps59
  go_wp2
  go_ret
  exact ⟨rfl, rfl⟩
set_option maxRecDepth 100000 in
set_option maxHeartbeats 8000000 in
theorem walk_WeighRuns (x0 : Int) (a0 : Option Addr) (cap0 : Nat) (es0 : List Ed) (x1 : Int) (x2 : Int) (a3 : Option Addr) (cap3 : Nat) (x3 : List Int) (x4 : P2) (w : World) (b0 : Bd x0) (l0 : es0.length ≤ cap0) (m0 : cap0 ≤ maxLen) (r0 : Row encE 3 w w.heap.size a0 es0) (be0 : ∀ x ∈ es0, BdE x) (b1 : Bd x1) (b2 : Bd x2) (l3 : x3.length ≤ cap3) (m3 : cap3 ≤ maxLen) (r3 : Row encI 1 w w.heap.size a3 x3) (b3 : ∀ x ∈ x3, Bd x) (b4 : Bd x4.a) (c4 : Bd x4.b) :
    Calls Try.prog 9 #[.agg #[.int .i64 x0, .slice a0 es0.length cap0], .int .i64 x1, .int .i64 x2, .slice a3 x3.length cap3, .agg #[.int .i64 x4.a, .int .i64 x4.b]] w fun e w' => e = .returned (.bool true) ∧ Below w.heap.size w w' := by
  have hl : es0.length ≤ 9223372036854775807 := by unfold maxLen at m0; omega
  have hl3 : x3.length ≤ 9223372036854775807 := by unfold maxLen at m3; omega
  have hRL := hide (fun (w' : World) (hb : Below w.heap.size w w') => rslook_any x0 a0 cap0 es0 x1 x2 a3 cap3 x3 w' w.heap.size hb.size (r0.below hb (Nat.le_refl _)) (r3.below hb (Nat.le_refl _)) hl hl3)
  have hWt := hide (fun (w' : World) => weight_any x4 w')
  have hRW := hide (fun (w' : World) => rweight_any x4 w')
  have hSr := hide (fun (hs : slookErr x0 es0 x1 x2 x3 = 0) (hw : weighErr x4 = 0) => (show ∃ cost er xs ys, (∀ w', Below w.heap.size w w' → Calls Try.prog 58 #[.agg #[.int .i64 x0, .slice a0 es0.length cap0], .int .i64 x1, .int .i64 x2, .slice a3 x3.length cap3, .agg #[.int .i64 x4.a, .int .i64 x4.b]] w' (FoundIs cost xs ys er w')) ∧
      ∀ w' kb, Below w.heap.size w w' → w'.cell? ⟨kb, 0, none⟩ = some (.int .i64 x4.a) → w'.cell? ⟨kb, 1, none⟩ = some (.int .i64 x4.b) → Calls Try.prog 42 #[.agg #[.int .i64 x0, .slice a0 es0.length cap0], .int .i64 x1, .int .i64 x2, .slice a3 x3.length cap3, .func (.func 59) #[] #[.pointer (some ⟨kb, 0, none⟩)]] w' (FoundIs cost xs ys er w') by
    obtain ⟨n, v, t, rfl, rfl, rfl, a1, a2, a4, a5, a6, a7, a8, a9, a10, a11, a12⟩ := slook_all hs
    obtain ⟨o, ho⟩ := srun_start (key := keyW x4) (tg := t) (v := v) a5 a6 (hAt x3) a2
    obtain ⟨cost, xs, ys, er, hI⟩ := found_is ho
    refine ⟨cost, er, xs, ys, fun w' hb => ?_, fun w' kb hb c0 c1 => ?_⟩
    · exact wrun_ok n v t a0 cap0 es0 a3 cap3 x3 x4 cost er xs ys w' w.heap.size hb.size (r0.below hb (Nat.le_refl _)) (r3.below hb (Nat.le_refl _)) hl hl3 hs hw hI
    · rw [a9]
      exact (rsearch_anyW kb n v t a0 a3 cap0 cap3 es0 (hAt x3) w' w.heap.size hb.size (r0.below hb (Nat.le_refl _)) (by have := li_hAt x3; rw [a9] at this; rw [this]; exact r3.below hb (Nat.le_refl _)) a1 a2 a4 a5 a6 a7 a8 (fun u _ => a10 u) (keyW x4) (fun w'' hb2 => keyLawW x4 hw kb w'' (cu_below hb2 c0 (cell_lt c0)) (cu_below hb2 c1 (cell_lt c1)))).mono (fun e w'' hA => hI _ _ _ hA)))
  have hBad := hide (fun (hb0 : wrunErr x0 es0 x1 x2 x3 x4 ≠ 0) (w' : World) (hb : Below w.heap.size w w') => wrun_bad x0 a0 cap0 es0 x1 x2 a3 cap3 x3 x4 w' w.heap.size hb.size (r0.below hb (Nat.le_refl _)) (r3.below hb (Nat.le_refl _)) hl hl3 hb0)
  obtain ⟨se, hse⟩ : ∃ se, se = slookErr x0 es0 x1 x2 x3 := ⟨_, rfl⟩
  obtain ⟨we, hwe⟩ : ∃ we, we = weighErr x4 := ⟨_, rfl⟩
  have hwr : wrunErr x0 es0 x1 x2 x3 x4 = if se ≠ 0 then se else we := by unfold wrunErr; rw [← hse, ← hwe]
  rw [← hse, ← hwe] at hSr
  rw [← hse] at hRL
  rw [← hwe] at hWt hRW
  rw [hwr] at hBad
  obtain ⟨ra, rb⟩ := x4
  simp only at hSr hBad hWt hRW ⊢
  replace hse := hide hse
  replace hwe := hide hwe
  clear hwr r0 r3 be0 b3 l0 l3 m0 m3 hl3 b0 b1 b2 b4 c4
  go_enter Try.func9, Try.ntmps9
  go_upto_region 1 with fail
  obtain ⟨w0, h0⟩ : ∃ w0, w0 = (w.alloc (.cells #[.int .i64 x0, .slice a0 es0.length cap0] 24)).alloc (.cells #[.int .i64 ra, .int .i64 rb] 90) := ⟨_, rfl⟩
  have hB0 : Below w.heap.size w w0 := by rw [h0]; exact (by repeat (first | with_reducible exact Below.refl _ _ | with_reducible assumption | with_reducible refine up_drewN ?_ | with_reducible refine up_drew ?_ | (with_reducible refine up_alloc ?_ ?_; rotate_left; (first | omega | (simp <;> omega) | simp)) | (with_reducible refine up_set ?_ ?_; rotate_left; (first | omega | (simp <;> omega) | simp)) | (with_reducible refine Below.trans ?_ (Below.mono (by with_reducible assumption) ?_); rotate_left; (first | omega | (simp <;> omega) | simp))))
  have hs0 : w0.heap.size = w.heap.size + 1 + 1 := by rw [h0]; simp
  obtain ⟨kb, hkb⟩ : ∃ b, b = w.heap.size + 1 := ⟨_, rfl⟩
  have k0 : w0.cell? ⟨w.heap.size, 0, none⟩ = some (.int .i64 x0) := by rw [h0]; simp [go_sem]
  have k1 : w0.cell? ⟨w.heap.size, 1, none⟩ = some (.slice a0 es0.length cap0) := by rw [h0]; simp [go_sem]
  have q0 : w0.cell? ⟨kb, 0, none⟩ = some (.int .i64 ra) := by rw [h0, hkb]; simp [go_sem]
  have q1 : w0.cell? ⟨kb, 1, none⟩ = some (.int .i64 rb) := by rw [h0, hkb]; simp [go_sem]
  simp only [← h0]
  simp only [← hkb]
  have hz0 : w.heap.size < w0.heap.size := by omega
  have hz1 : kb < w0.heap.size := by omega
  have key := hide (show ∀ w', Below w0.heap.size w0 w' → (Below w0.heap.size w0 w' ∧ w'.cell? ⟨kb, 0, none⟩ = some (.int .i64 ra) ∧ w'.cell? ⟨kb, 1, none⟩ = some (.int .i64 rb)) from
    fun w' hb => ⟨hb, cu_below hb q0 (cell_lt q0), cu_below hb q1 (cell_lt q1)⟩)
  replace h0 := hide h0
  replace hs0 := hide hs0
  replace hkb := hide hkb
  replace hB0 := hide hB0
  replace k0 := hide k0
  replace k1 := hide k1
  replace q0 := hide q0
  replace q1 := hide q1
  go_cut [20] (fun s20 wx => s20 = .bool false ∧ Hid (Below w0.heap.size w0 wx))
  case first =>
    go_region_held3 (fun w' => Below w0.heap.size w0 w' ∧ w'.cell? ⟨kb, 0, none⟩ = some (.int .i64 ra) ∧ w'.cell? ⟨kb, 1, none⟩ = some (.int .i64 rb))
      (first | exact key.out _ (below_drew _) | exact key.out _ (by assumption))
      (first
        | (go_at_call 56; have hb4 := (‹Below w0.heap.size w0 _ ∧ _› : _ ∧ _).1; refine (hWt.out _).mono ?_; rintro e w4 ⟨rfl, hb5⟩; have hb6 := below_step hb4 hb5)
        | (go_at_call 57; have hb7 := (‹Below w0.heap.size w0 _ ∧ _› : _ ∧ _).1; refine (hRW.out _).mono ?_; rintro e w5 ⟨rfl, hb8⟩; have hb9 := below_step hb7 hb8))
    all_goals
      go_wp2_with fail
      go_meet
      exact ⟨by simp, hide (‹Below w0.heap.size w0 _ ∧ _› : _ ∧ _).1⟩
  case rest =>
    obtain ⟨rfl, hbc⟩ := hcut
    obtain ⟨wa, hwa⟩ : ∃ wa, wa = wc := ⟨_, rfl⟩
    have hbc : Hid (Below w0.heap.size w0 wa) := by rw [hwa]; exact hbc
    simp only [← hwa]
    clear hwa
    have k0 := cu_below hbc.out k0.out hz0
    have k1 := cu_below hbc.out k1.out hz0
    have q0 := cu_below hbc.out q0.out hz1
    have q1 := cu_below hbc.out q1.out hz1
    have hza : w0.heap.size ≤ wa.heap.size := hbc.out.size
    have hbw := hide (hB0.out.trans (hbc.out.mono (by omega)))
    have za : w.heap.size < wa.heap.size := by omega
    have zb : kb < wa.heap.size := by omega
    clear hbc key hza hB0
    by_cases hs : se = 0
    · by_cases hw : we = 0
      · obtain ⟨cost, er, xs, ys, hRun, hSea⟩ := hSr.out hs hw
        replace hRun := hide hRun
        replace hSea := hide hSea
        rw [hs] at hRL
        rw [hw] at hRW
        clear hSr hBad hs hw hWt
        go_wp2_with fail
        refine (hRun.out _ hbw.out).mono ?_
        rintro e w1 ⟨fa, m, fc, fb, k, fd, hm, hk, rfl, oX, oY, hb1⟩
        have k0 := cu_below hb1 k0 za
        have k1 := cu_below hb1 k1 za
        have q0 := cu_below hb1 q0 zb
        have q1 := cu_below hb1 q1 zb
        have hza1 : wa.heap.size ≤ w1.heap.size := hb1.size
        have zw1 : w.heap.size < w1.heap.size := by omega
        have zb1 : kb < w1.heap.size := by omega
        have hb2 := hide (hbw.out.trans (hb1.mono (by omega)))
        have hX1 := hide (own_rowL oX)
        have hY1 := hide (own_rowL oY)
        have hmx : m ≤ 9223372036854775807 := by
          rcases oX.form with ⟨h1, _⟩ | ⟨g, cp, h1, _, _, h2, h3⟩
          · simp only [Value.slice.injEq] at h1; omega
          · unfold maxLen at h3; omega
        have hky : k ≤ 9223372036854775807 := by
          rcases oY.form with ⟨h1, _⟩ | ⟨g, cp, h1, _, _, h2, h3⟩
          · simp only [Value.slice.injEq] at h1; omega
          · unfold maxLen at h3; omega
        replace hm := hide hm
        replace hk := hide hk
        clear hb1 oX oY hRun hbw
        obtain ⟨w2, hw2⟩ : ∃ w2, w2 = w1.alloc (.cells #[.slice fa m fc, .int .i64 cost, .slice fb k fd] 47) := ⟨_, rfl⟩
        have hb12 : Below w1.heap.size w1 w2 := by rw [hw2]; exact (Below.refl _ _).alloc (Nat.le_refl _) _
        have p0 : w2.cell? ⟨w1.heap.size, 0, none⟩ = some (.slice fa m fc) := by rw [hw2]; simp [go_sem]
        have p1 : w2.cell? ⟨w1.heap.size, 1, none⟩ = some (.int .i64 cost) := by rw [hw2]; simp [go_sem]
        have p2 : w2.cell? ⟨w1.heap.size, 2, none⟩ = some (.slice fb k fd) := by rw [hw2]; simp [go_sem]
        have hz2 : w1.heap.size < w2.heap.size := cell_lt p0
        have k0 := cu_below hb12 k0 (by simp; omega)
        have k1 := cu_below hb12 k1 (by simp; omega)
        have q0 := cu_below hb12 q0 (by simp; omega)
        have q1 := cu_below hb12 q1 (by simp; omega)
        have hX2 := hide ((hX1.out.below hb12 (Nat.le_refl _)).mono (show w1.heap.size ≤ w2.heap.size by omega))
        have hY2 := hide ((hY1.out.below hb12 (Nat.le_refl _)).mono (show w1.heap.size ≤ w2.heap.size by omega))
        have hbw2 := hide (hb2.out.trans (hb12.mono (by omega)))
        have zw2 : w.heap.size < w2.heap.size := by omega
        have zb2 : kb < w2.heap.size := by omega
        clear hX1 hY1 hb12 hb2
        go_wp2_with fail
        simp only [← hw2]
        replace hw2 := hide hw2
        refine (hRL.out _ hbw2.out).mono ?_
        rintro e w3 ⟨rfl, hb3⟩
        have k0 := cu_below hb3 k0 (by simp; omega)
        have k1 := cu_below hb3 k1 (by simp; omega)
        have q0 := cu_below hb3 q0 (by simp; omega)
        have q1 := cu_below hb3 q1 (by simp; omega)
        have p0 := cu_below hb3 p0 hz2
        have p1 := cu_below hb3 p1 hz2
        have p2 := cu_below hb3 p2 hz2
        have hz3 : w2.heap.size ≤ w3.heap.size := hb3.size
        have hX3 := hide ((hX2.out.below hb3 (Nat.le_refl _)).mono hb3.size)
        have hY3 := hide ((hY2.out.below hb3 (Nat.le_refl _)).mono hb3.size)
        have hbw3 := hide (hbw2.out.trans (hb3.mono (by omega)))
        have zw3 : w.heap.size < w3.heap.size := by omega
        have zb3 : kb < w3.heap.size := by omega
        clear hX2 hY2 hb3 hbw2
        go_wp2_with fail
        refine (hRW.out _).mono ?_
        rintro e w4 ⟨rfl, hb4⟩
        have k0 := cu_below hb4 k0 (by simp; omega)
        have k1 := cu_below hb4 k1 (by simp; omega)
        have q0 := cu_below hb4 q0 (by simp; omega)
        have q1 := cu_below hb4 q1 (by simp; omega)
        have p0 := cu_below hb4 p0 (by simp; omega)
        have p1 := cu_below hb4 p1 (by simp; omega)
        have p2 := cu_below hb4 p2 (by simp; omega)
        have hz4 : w3.heap.size ≤ w4.heap.size := hb4.size
        have hX4 := hide ((hX3.out.below hb4 (Nat.le_refl _)).mono hb4.size)
        have hY4 := hide ((hY3.out.below hb4 (Nat.le_refl _)).mono hb4.size)
        have hbw4 := hide (hbw3.out.trans (hb4.mono (by omega)))
        have zw4 : w.heap.size < w4.heap.size := by omega
        have zb4 : kb < w4.heap.size := by omega
        clear hX3 hY3 hb4 hbw3
        have hSe4 := hide (hSea.out w4 kb hbw4.out q0 q1)
        go_wp2_with fail
        refine (hSe4.out).mono ?_
        rintro e w5 ⟨ga, m', gc, gb, k', gd, hm', hk', rfl, oX, oY, hb5⟩
        obtain rfl : m = m' := by rw [hm', hm.out]
        obtain rfl : k = k' := by rw [hk', hk.out]
        have p0 := cu_below hb5 p0 (by simp; omega)
        have p1 := cu_below hb5 p1 (by simp; omega)
        have p2 := cu_below hb5 p2 (by simp; omega)
        have hz5 : w4.heap.size ≤ w5.heap.size := hb5.size
        have hX5 := hide ((hX4.out.below hb5 (Nat.le_refl _)).mono hb5.size)
        have hY5 := hide ((hY4.out.below hb5 (Nat.le_refl _)).mono hb5.size)
        have hX6 := hide (own_rowL oX)
        have hY6 := hide (own_rowL oY)
        have hbw5 := hide (hbw4.out.trans (hb5.mono (by omega)))
        have hzp : w1.heap.size < w5.heap.size := by omega
        clear hX4 hY4 hb5 hbw4 hm' hk' oX oY hSea hSe4
        have hF := hide (fun (w' : World) (hb : Below w5.heap.size w5 w') => sf_any fa ga fb gb fc gc fd gd m k xs ys cost w' hm.out.symm ((hX5.out.below hb (Nat.le_refl _)).mono hb.size) ((hX6.out.below hb (Nat.le_refl _)).mono hb.size) hmx hk.out.symm ((hY5.out.below hb (Nat.le_refl _)).mono hb.size) ((hY6.out.below hb (Nat.le_refl _)).mono hb.size) hky)
        clear hX5 hX6 hY5 hY6 k0 k1 q0 q1
        go_wp2_with fail
        refine (hF.out _ (by exact (by repeat (first | with_reducible exact Below.refl _ _ | with_reducible assumption | with_reducible refine up_drewN ?_ | with_reducible refine up_drew ?_ | (with_reducible refine up_alloc ?_ ?_; rotate_left; (first | omega | (simp <;> omega) | simp)) | (with_reducible refine up_set ?_ ?_; rotate_left; (first | omega | (simp <;> omega) | simp)) | (with_reducible refine Below.trans ?_ (Below.mono (by with_reducible assumption) ?_); rotate_left; (first | omega | (simp <;> omega) | simp)))))).mono ?_
        rintro e w6 ⟨rfl, hb6⟩
        have hb7 := hide (hbw5.out.trans (((((by repeat (first | with_reducible exact Below.refl _ _ | with_reducible assumption | with_reducible refine up_drewN ?_ | with_reducible refine up_drew ?_ | (with_reducible refine up_alloc ?_ ?_; rotate_left; (first | omega | (simp <;> omega) | simp)) | (with_reducible refine up_set ?_ ?_; rotate_left; (first | omega | (simp <;> omega) | simp)) | (with_reducible refine Below.trans ?_ (Below.mono (by with_reducible assumption) ?_); rotate_left; (first | omega | (simp <;> omega) | simp)))) : Below w5.heap.size w5 _)).trans (hb6.mono (by simp))).mono (show w.heap.size ≤ w5.heap.size by omega)))
        clear hb6
        go_wp2
        go_ret
        exact ⟨rfl, hb7.out⟩
      · have hB2 := hide (hBad.out (by rw [if_neg (by simp [hs])]; exact hw))
        rw [if_neg (by simp [hs])] at hB2
        rw [hs] at hRL
        clear hs
        have e0 : (we != 0) = true := by simpa using hw
        clear hSr hBad hWt hw
        go_wp2_with fail
        refine (hB2.out _ hbw.out).mono ?_
        rintro e w1 ⟨rfl, hb1⟩
        unfold FoundNone
        have k0 := cu_below hb1 k0 za
        have k1 := cu_below hb1 k1 za
        have q0 := cu_below hb1 q0 zb
        have q1 := cu_below hb1 q1 zb
        have hza1 : wa.heap.size ≤ w1.heap.size := hb1.size
        have zw1 : w.heap.size < w1.heap.size := by omega
        have zb1 : kb < w1.heap.size := by omega
        have hb2 := hide (hbw.out.trans (hb1.mono (by omega)))
        clear hb1 hbw hB2
        obtain ⟨w2, hw2⟩ : ∃ w2, w2 = w1.alloc (.cells #[.slice none 0 0, .int .i64 0, .slice none 0 0] 47) := ⟨_, rfl⟩
        have hb12 : Below w1.heap.size w1 w2 := by rw [hw2]; exact (Below.refl _ _).alloc (Nat.le_refl _) _
        have p0 : w2.cell? ⟨w1.heap.size, 0, none⟩ = some (.slice none 0 0) := by rw [hw2]; simp [go_sem]
        have p1 : w2.cell? ⟨w1.heap.size, 1, none⟩ = some (.int .i64 0) := by rw [hw2]; simp [go_sem]
        have p2 : w2.cell? ⟨w1.heap.size, 2, none⟩ = some (.slice none 0 0) := by rw [hw2]; simp [go_sem]
        have hz2 : w1.heap.size < w2.heap.size := cell_lt p0
        have k0 := cu_below hb12 k0 (by simp; omega)
        have k1 := cu_below hb12 k1 (by simp; omega)
        have q0 := cu_below hb12 q0 (by simp; omega)
        have q1 := cu_below hb12 q1 (by simp; omega)
        have hbw2 := hide (hb2.out.trans (hb12.mono (by omega)))
        have zw2 : w.heap.size < w2.heap.size := by omega
        have zb2 : kb < w2.heap.size := by omega
        clear hb12 hb2
        go_wp2_with fail
        simp only [← hw2]
        replace hw2 := hide hw2
        refine (hRL.out _ hbw2.out).mono ?_
        rintro e w3 ⟨rfl, hb3⟩
        have q0 := cu_below hb3 q0 (by simp; omega)
        have q1 := cu_below hb3 q1 (by simp; omega)
        have p0 := cu_below hb3 p0 hz2
        have p1 := cu_below hb3 p1 hz2
        have p2 := cu_below hb3 p2 hz2
        have hz3 : w2.heap.size ≤ w3.heap.size := hb3.size
        have hbw3 := hide (hbw2.out.trans (hb3.mono (by omega)))
        have zb3 : kb < w3.heap.size := by omega
        have zp3 : w1.heap.size < w3.heap.size := by omega
        have hF := hide (fun (w' : World) => sf_any none none none none 0 0 0 0 0 0 [] [] 0 w' rfl (Row.nil _ _ _ _ _) (Row.nil _ _ _ _ _) (by omega) rfl (Row.nil _ _ _ _ _) (Row.nil _ _ _ _ _) (by omega))
        clear hb3 hbw2 k0 k1
        go_wp2_with fail
        refine (hRW.out _).mono ?_
        rintro e w4 ⟨rfl, hb4⟩
        have p0 := cu_below hb4 p0 (by simp; omega)
        have p1 := cu_below hb4 p1 (by simp; omega)
        have p2 := cu_below hb4 p2 (by simp; omega)
        have hz4 : w3.heap.size ≤ w4.heap.size := hb4.size
        have hbw4 := hide (hbw3.out.trans (hb4.mono (by omega)))
        have zp4 : w1.heap.size < w4.heap.size := by omega
        clear hb4 hbw3
        go_wp2_with fail
        refine (hF.out _).mono ?_
        rintro e w6 ⟨rfl, hb6⟩
        have hb7 := hide (hbw4.out.trans (hb6.mono (show w.heap.size ≤ w4.heap.size by omega)))
        clear hb6
        go_wp2
        go_ret
        exact ⟨rfl, hb7.out⟩
    · have hB2 := hide (hBad.out (by rw [if_pos hs]; exact hs))
      rw [if_pos hs] at hB2
      have e0 : (se != 0) = true := by simpa using hs
      clear hSr hBad hWt hs
      go_wp2_with fail
      refine (hB2.out _ hbw.out).mono ?_
      rintro e w1 ⟨rfl, hb1⟩
      unfold FoundNone
      have k0 := cu_below hb1 k0 za
      have k1 := cu_below hb1 k1 za
      have q0 := cu_below hb1 q0 zb
      have q1 := cu_below hb1 q1 zb
      have hza1 : wa.heap.size ≤ w1.heap.size := hb1.size
      have zw1 : w.heap.size < w1.heap.size := by omega
      have zb1 : kb < w1.heap.size := by omega
      have hb2 := hide (hbw.out.trans (hb1.mono (by omega)))
      clear hb1 hbw hB2
      obtain ⟨w2, hw2⟩ : ∃ w2, w2 = w1.alloc (.cells #[.slice none 0 0, .int .i64 0, .slice none 0 0] 47) := ⟨_, rfl⟩
      have hb12 : Below w1.heap.size w1 w2 := by rw [hw2]; exact (Below.refl _ _).alloc (Nat.le_refl _) _
      have p0 : w2.cell? ⟨w1.heap.size, 0, none⟩ = some (.slice none 0 0) := by rw [hw2]; simp [go_sem]
      have p1 : w2.cell? ⟨w1.heap.size, 1, none⟩ = some (.int .i64 0) := by rw [hw2]; simp [go_sem]
      have p2 : w2.cell? ⟨w1.heap.size, 2, none⟩ = some (.slice none 0 0) := by rw [hw2]; simp [go_sem]
      have hz2 : w1.heap.size < w2.heap.size := cell_lt p0
      have k0 := cu_below hb12 k0 (by simp; omega)
      have k1 := cu_below hb12 k1 (by simp; omega)
      have q0 := cu_below hb12 q0 (by simp; omega)
      have q1 := cu_below hb12 q1 (by simp; omega)
      have hbw2 := hide (hb2.out.trans (hb12.mono (by omega)))
      have zw2 : w.heap.size < w2.heap.size := by omega
      have zb2 : kb < w2.heap.size := by omega
      clear hb12 hb2
      go_wp2_with fail
      simp only [← hw2]
      replace hw2 := hide hw2
      refine (hRL.out _ hbw2.out).mono ?_
      rintro e w3 ⟨rfl, hb3⟩
      have q0 := cu_below hb3 q0 (by simp; omega)
      have q1 := cu_below hb3 q1 (by simp; omega)
      have p0 := cu_below hb3 p0 hz2
      have p1 := cu_below hb3 p1 hz2
      have p2 := cu_below hb3 p2 hz2
      have hz3 : w2.heap.size ≤ w3.heap.size := hb3.size
      have hbw3 := hide (hbw2.out.trans (hb3.mono (by omega)))
      have zb3 : kb < w3.heap.size := by omega
      have zp3 : w1.heap.size < w3.heap.size := by omega
      have hF := hide (fun (w' : World) => sf_any none none none none 0 0 0 0 0 0 [] [] 0 w' rfl (Row.nil _ _ _ _ _) (Row.nil _ _ _ _ _) (by omega) rfl (Row.nil _ _ _ _ _) (Row.nil _ _ _ _ _) (by omega))
      clear hb3 hbw2 k0 k1
      have e1 : (se == 0) = false := by simpa using e0
      go_wp2_with fail
      refine (hF.out _).mono ?_
      rintro e w6 ⟨rfl, hb6⟩
      have hb7 := hide (hbw3.out.trans (hb6.mono (show w.heap.size ≤ w3.heap.size by omega)))
      clear hb6
      go_wp2
      go_ret
      exact ⟨rfl, hb7.out⟩
end Go.Proofs.Ytcehdpeeaogpiaa
