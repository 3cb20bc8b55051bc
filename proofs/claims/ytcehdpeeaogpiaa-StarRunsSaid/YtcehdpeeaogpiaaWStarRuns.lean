/-
  The walk of felllaw.StarRuns: it returns true. Conditions: the arguments read as data.
-/
import Derived.Test.YtcehdpeeaogpiaaStarM
import Derived.Test.YtcehdpeeaogpiaaStarT
import Derived.Test.YtcehdpeeaogpiaaFoundA
import Derived.Test.YtcehdpeeaogpiaaOpen
namespace Go.Proofs.Ytcehdpeeaogpiaa
open Go.RowKit
set_option linter.unusedSimpArgs false
set_option linter.unusedVariables false
theorem keyLawS (w : World) : KeyLwS keyAdd w := by
  intro c g h1 h2 h3 h4
  go_enter Try.func43, Try.ntmps43
  go_wp2
  go_ret
  exact ⟨rfl, rfl⟩
set_option maxRecDepth 100000 in
set_option maxHeartbeats 4000000 in
theorem walk_StarRuns (x0 : Int) (a0 : Option Addr) (cap0 : Nat) (es0 : List Ed) (x1 : Int) (x2 : Int) (a3 : Option Addr) (cap3 : Nat) (x3 : List Int) (w : World) (b0 : Bd x0) (l0 : es0.length ≤ cap0) (m0 : cap0 ≤ maxLen) (r0 : Row encE 3 w w.heap.size a0 es0) (be0 : ∀ x ∈ es0, BdE x) (b1 : Bd x1) (b2 : Bd x2) (l3 : x3.length ≤ cap3) (m3 : cap3 ≤ maxLen) (r3 : Row encI 1 w w.heap.size a3 x3) (b3 : ∀ x ∈ x3, Bd x) :
    Calls Try.prog 7 #[.agg #[.int .i64 x0, .slice a0 es0.length cap0], .int .i64 x1, .int .i64 x2, .slice a3 x3.length cap3] w fun e w' => e = .returned (.bool true) ∧ Below w.heap.size w w' := by
  have hl : es0.length ≤ 9223372036854775807 := by unfold maxLen at m0; omega
  have hl3 : x3.length ≤ 9223372036854775807 := by unfold maxLen at m3; omega
  have hL := hide (fun (w' : World) (hb : Below w.heap.size w w') => slook_any x0 a0 cap0 es0 x1 x2 a3 cap3 x3 w' w.heap.size hb.size (r0.below hb (Nat.le_refl _)) (r3.below hb (Nat.le_refl _)) hl hl3)
  have hRL := hide (fun (w' : World) (hb : Below w.heap.size w w') => rslook_any x0 a0 cap0 es0 x1 x2 a3 cap3 x3 w' w.heap.size hb.size (r0.below hb (Nat.le_refl _)) (r3.below hb (Nat.le_refl _)) hl hl3)
  by_cases h0 : slookErr x0 es0 x1 x2 x3 = 0
  · obtain ⟨n, v, t, rfl, rfl, rfl, a1, a2, a4, a5, a6, a7, a8, a9, a10, a11, a12⟩ := slook_all h0
    have hR := hide (fun (w' : World) (hb : Below w.heap.size w w') => srun_ok n v t a0 cap0 es0 a3 cap3 x3 w' w.heap.size hb.size (r0.below hb (Nat.le_refl _)) (r3.below hb (Nat.le_refl _)) hl hl3 h0)
    have hS := hide (fun (w' : World) (hb : Below w.heap.size w w') => rsearch_anyS n v t a0 a3 cap0 cap3 es0 (hAt x3) w' w.heap.size hb.size (r0.below hb (Nat.le_refl _)) (by have := li_hAt x3; rw [a9] at this; rw [this]; exact r3.below hb (Nat.le_refl _)) a1 a2 a4 a5 a6 a7 a8 (fun u _ => a10 u) keyAdd (fun w'' _ => keyLawS w''))
    rw [h0] at hL hRL
    rw [a9] at hL hRL hR ⊢
    generalize sStart (hAt x3) v = s0 at hR hS
    generalize hAt x3 = h at hR hS
    clear h0 a4 a5 a6 a9 a10 a11 a12 r0 r3 be0 b3 l0 l3 m0 m3 hl3
    go_enter Try.func7, Try.ntmps7
    go_wp2_with fail
    refine (hR.out _ (by exact (by repeat (first | with_reducible exact Below.refl _ _ | with_reducible assumption | with_reducible refine up_drewN ?_ | with_reducible refine up_drew ?_ | (with_reducible refine up_alloc ?_ ?_; rotate_left; (first | omega | (simp <;> omega) | simp)) | (with_reducible refine up_set ?_ ?_; rotate_left; (first | omega | (simp <;> omega) | simp)) | (with_reducible refine Below.trans ?_ (Below.mono (by with_reducible assumption) ?_); rotate_left; (first | omega | (simp <;> omega) | simp)))))).mono ?_
    rintro e w1 hA
    obtain ⟨o, ho, _⟩ := id hA
    obtain ⟨cost, xs, ys, er, hI⟩ := found_is ho
    replace hI := hide hI
    obtain ⟨fa, m, fc, fb, k, fd, hm, hk, rfl, oX, oY, hb1⟩ := hI.out _ _ _ hA
    have k0 := cu_below hb1 (p := ⟨w.heap.size, 0, none⟩) (v := .int .i64 (n : Int)) (by simp [go_sem]) (by simp)
    have k1 := cu_below hb1 (p := ⟨w.heap.size, 1, none⟩) (v := .slice a0 es0.length cap0) (by simp [go_sem]) (by simp)
    have hb2 := hide ((((by repeat (first | with_reducible exact Below.refl _ _ | with_reducible assumption | with_reducible refine up_drewN ?_ | with_reducible refine up_drew ?_ | (with_reducible refine up_alloc ?_ ?_; rotate_left; (first | omega | (simp <;> omega) | simp)) | (with_reducible refine up_set ?_ ?_; rotate_left; (first | omega | (simp <;> omega) | simp)) | (with_reducible refine Below.trans ?_ (Below.mono (by with_reducible assumption) ?_); rotate_left; (first | omega | (simp <;> omega) | simp)))) : Below w.heap.size w _)).trans (hb1.mono (by simp)))
    have hz1 : w.heap.size < w1.heap.size := cell_lt k0
    have hX1 := hide (own_rowL oX)
    have hY1 := hide (own_rowL oY)
    have hmx : m ≤ 9223372036854775807 := by
      rcases oX.form with ⟨h1, _⟩ | ⟨g, cp, h1, _, _, h2, h3⟩
      · simp only [Value.slice.injEq] at h1; omega
      · unfold maxLen at h3; omega
    have hky : k ≤ 9223372036854775807 := by
      rcases oY.form with ⟨h1, _⟩ | ⟨g, cp, h1, _, _, h2, h3⟩
      · simp only [Value.slice.injEq] at h1; omega
      · unfold maxLen at h3; omega
    replace hm := hide hm
    replace hk := hide hk
    replace ho := hide ho
    clear hb1 oX oY hA
    obtain ⟨w2, hw2⟩ : ∃ w2, w2 = w1.alloc (.cells #[.slice fa m fc, .int .i64 cost, .slice fb k fd] 47) := ⟨_, rfl⟩
    have hb12 : Below w1.heap.size w1 w2 := by rw [hw2]; exact (Below.refl _ _).alloc (Nat.le_refl _) _
    have p0 : w2.cell? ⟨w1.heap.size, 0, none⟩ = some (.slice fa m fc) := by rw [hw2]; simp [go_sem]
    have p1 : w2.cell? ⟨w1.heap.size, 1, none⟩ = some (.int .i64 cost) := by rw [hw2]; simp [go_sem]
    have p2 : w2.cell? ⟨w1.heap.size, 2, none⟩ = some (.slice fb k fd) := by rw [hw2]; simp [go_sem]
    have hz2 : w1.heap.size < w2.heap.size := cell_lt p0
    have k0 := cu_below hb12 k0 hz1
    have k1 := cu_below hb12 k1 hz1
    have hX2 := hide ((hX1.out.below hb12 (Nat.le_refl _)).mono (show w1.heap.size ≤ w2.heap.size by omega))
    have hY2 := hide ((hY1.out.below hb12 (Nat.le_refl _)).mono (show w1.heap.size ≤ w2.heap.size by omega))
    have hbw2 := hide (hb2.out.trans (hb12.mono (by omega)))
    have hzw2 : w.heap.size < w2.heap.size := by omega
    clear hX1 hY1 hb12 hb2
    go_wp2_with fail
    simp only [← hw2]
    replace hw2 := hide hw2
    refine (hRL.out _ hbw2.out).mono ?_
    rintro e w3 ⟨rfl, hb3⟩
    have k0 := cu_below hb3 k0 hzw2
    have k1 := cu_below hb3 k1 hzw2
    have p0 := cu_below hb3 p0 hz2
    have p1 := cu_below hb3 p1 hz2
    have p2 := cu_below hb3 p2 hz2
    have hz3 : w2.heap.size ≤ w3.heap.size := hb3.size
    have hX3 := hide ((hX2.out.below hb3 (Nat.le_refl _)).mono hb3.size)
    have hY3 := hide ((hY2.out.below hb3 (Nat.le_refl _)).mono hb3.size)
    have hbw3 := hide (hbw2.out.trans (hb3.mono (by omega)))
    clear hX2 hY2 hb3 hbw2
    go_wp2_with fail
    refine (hL.out _ hbw3.out).mono ?_
    rintro e w4 ⟨rfl, hb4⟩
    have k0 := cu_below hb4 k0 (by simp; omega)
    have k1 := cu_below hb4 k1 (by simp; omega)
    have p0 := cu_below hb4 p0 (by simp; omega)
    have p1 := cu_below hb4 p1 (by simp; omega)
    have p2 := cu_below hb4 p2 (by simp; omega)
    have hz4 : w3.heap.size ≤ w4.heap.size := hb4.size
    have hX4 := hide ((hX3.out.below hb4 (Nat.le_refl _)).mono hb4.size)
    have hY4 := hide ((hY3.out.below hb4 (Nat.le_refl _)).mono hb4.size)
    have hbw4 := hide (hbw3.out.trans (hb4.mono (by omega)))
    clear hX3 hY3 hb4 hbw3
    go_wp2_with fail
    refine (hS.out _ hbw4.out).mono ?_
    rintro e w5 hA
    obtain ⟨ga, m', gc, gb, k', gd, hm', hk', rfl, oX, oY, hb5⟩ := hI.out _ _ _ hA
    obtain rfl : m = m' := by rw [hm', hm.out]
    obtain rfl : k = k' := by rw [hk', hk.out]
    have p0 := cu_below hb5 p0 (by simp; omega)
    have p1 := cu_below hb5 p1 (by simp; omega)
    have p2 := cu_below hb5 p2 (by simp; omega)
    have hz5 : w4.heap.size ≤ w5.heap.size := hb5.size
    have hX5 := hide ((hX4.out.below hb5 (Nat.le_refl _)).mono hb5.size)
    have hY5 := hide ((hY4.out.below hb5 (Nat.le_refl _)).mono hb5.size)
    have hX6 := hide (own_rowL oX)
    have hY6 := hide (own_rowL oY)
    have hbw5 := hide (hbw4.out.trans (hb5.mono (by omega)))
    have hzp : w1.heap.size < w5.heap.size := by omega
    clear hX4 hY4 hb5 hbw4 hm' hk' oX oY hA
    have hF := hide (fun (w' : World) (hb : Below w5.heap.size w5 w') => sf_any fa ga fb gb fc gc fd gd m k xs ys cost w' hm.out.symm ((hX5.out.below hb (Nat.le_refl _)).mono hb.size) ((hX6.out.below hb (Nat.le_refl _)).mono hb.size) hmx hk.out.symm ((hY5.out.below hb (Nat.le_refl _)).mono hb.size) ((hY6.out.below hb (Nat.le_refl _)).mono hb.size) hky)
    clear hX5 hX6 hY5 hY6 k0 k1
    go_wp2_with fail
    refine (hF.out _ (by exact (by repeat (first | with_reducible exact Below.refl _ _ | with_reducible assumption | with_reducible refine up_drewN ?_ | with_reducible refine up_drew ?_ | (with_reducible refine up_alloc ?_ ?_; rotate_left; (first | omega | (simp <;> omega) | simp)) | (with_reducible refine up_set ?_ ?_; rotate_left; (first | omega | (simp <;> omega) | simp)) | (with_reducible refine Below.trans ?_ (Below.mono (by with_reducible assumption) ?_); rotate_left; (first | omega | (simp <;> omega) | simp)))))).mono ?_
    rintro e w6 ⟨rfl, hb6⟩
    have hb7 := hide (hbw5.out.trans (((((by repeat (first | with_reducible exact Below.refl _ _ | with_reducible assumption | with_reducible refine up_drewN ?_ | with_reducible refine up_drew ?_ | (with_reducible refine up_alloc ?_ ?_; rotate_left; (first | omega | (simp <;> omega) | simp)) | (with_reducible refine up_set ?_ ?_; rotate_left; (first | omega | (simp <;> omega) | simp)) | (with_reducible refine Below.trans ?_ (Below.mono (by with_reducible assumption) ?_); rotate_left; (first | omega | (simp <;> omega) | simp)))) : Below w5.heap.size w5 _)).trans (hb6.mono (by simp))).mono (show w.heap.size ≤ w5.heap.size by omega)))
    clear hb6
    go_wp2
    go_ret
    exact ⟨rfl, hb7.out⟩
  · have hR := hide (fun (w' : World) (hb : Below w.heap.size w w') => srun_bad x0 a0 cap0 es0 x1 x2 a3 cap3 x3 w' w.heap.size hb.size (r0.below hb (Nat.le_refl _)) (r3.below hb (Nat.le_refl _)) hl hl3 h0)
    obtain ⟨er, her⟩ : ∃ er, er = slookErr x0 es0 x1 x2 x3 := ⟨_, rfl⟩
    rw [← her] at hL hRL hR h0
    have q0 : (er != 0) = true := by simpa using h0
    clear h0 r0 r3 be0 b3 her l0 l3 m0 m3 hl3 b0 b1 b2
    go_enter Try.func7, Try.ntmps7
    go_wp2_with fail
    refine (hR.out _ (by exact (by repeat (first | with_reducible exact Below.refl _ _ | with_reducible assumption | with_reducible refine up_drewN ?_ | with_reducible refine up_drew ?_ | (with_reducible refine up_alloc ?_ ?_; rotate_left; (first | omega | (simp <;> omega) | simp)) | (with_reducible refine up_set ?_ ?_; rotate_left; (first | omega | (simp <;> omega) | simp)) | (with_reducible refine Below.trans ?_ (Below.mono (by with_reducible assumption) ?_); rotate_left; (first | omega | (simp <;> omega) | simp)))))).mono ?_
    rintro e w1 ⟨rfl, hb1⟩
    unfold FoundNone
    have k0 := cu_below hb1 (p := ⟨w.heap.size, 0, none⟩) (v := .int .i64 x0) (by simp [go_sem]) (by simp)
    have k1 := cu_below hb1 (p := ⟨w.heap.size, 1, none⟩) (v := .slice a0 es0.length cap0) (by simp [go_sem]) (by simp)
    have hb2 := hide ((((by repeat (first | with_reducible exact Below.refl _ _ | with_reducible assumption | with_reducible refine up_drewN ?_ | with_reducible refine up_drew ?_ | (with_reducible refine up_alloc ?_ ?_; rotate_left; (first | omega | (simp <;> omega) | simp)) | (with_reducible refine up_set ?_ ?_; rotate_left; (first | omega | (simp <;> omega) | simp)) | (with_reducible refine Below.trans ?_ (Below.mono (by with_reducible assumption) ?_); rotate_left; (first | omega | (simp <;> omega) | simp)))) : Below w.heap.size w _)).trans (hb1.mono (by simp)))
    have hz1 : w.heap.size < w1.heap.size := cell_lt k0
    clear hb1
    obtain ⟨w2, hw2⟩ : ∃ w2, w2 = w1.alloc (.cells #[.slice none 0 0, .int .i64 0, .slice none 0 0] 47) := ⟨_, rfl⟩
    have hb12 : Below w1.heap.size w1 w2 := by rw [hw2]; exact (Below.refl _ _).alloc (Nat.le_refl _) _
    have p0 : w2.cell? ⟨w1.heap.size, 0, none⟩ = some (.slice none 0 0) := by rw [hw2]; simp [go_sem]
    have p1 : w2.cell? ⟨w1.heap.size, 1, none⟩ = some (.int .i64 0) := by rw [hw2]; simp [go_sem]
    have p2 : w2.cell? ⟨w1.heap.size, 2, none⟩ = some (.slice none 0 0) := by rw [hw2]; simp [go_sem]
    have hz2 : w1.heap.size < w2.heap.size := cell_lt p0
    have k0 := cu_below hb12 k0 hz1
    have k1 := cu_below hb12 k1 hz1
    have hbw2 := hide (hb2.out.trans (hb12.mono (by omega)))
    have hzw2 : w.heap.size < w2.heap.size := by omega
    clear hb12 hb2
    go_wp2_with fail
    simp only [← hw2]
    replace hw2 := hide hw2
    refine (hRL.out _ hbw2.out).mono ?_
    rintro e w3 ⟨rfl, hb3⟩
    have k0 := cu_below hb3 k0 hzw2
    have k1 := cu_below hb3 k1 hzw2
    have p0 := cu_below hb3 p0 hz2
    have p1 := cu_below hb3 p1 hz2
    have p2 := cu_below hb3 p2 hz2
    have hz3 : w2.heap.size ≤ w3.heap.size := hb3.size
    have hbw3 := hide (hbw2.out.trans (hb3.mono (by omega)))
    clear hb3 hbw2
    go_wp2_with fail
    refine (hL.out _ hbw3.out).mono ?_
    rintro e w4 ⟨rfl, hb4⟩
    have p0 := cu_below hb4 p0 (by simp; omega)
    have p1 := cu_below hb4 p1 (by simp; omega)
    have p2 := cu_below hb4 p2 (by simp; omega)
    have hz4 : w3.heap.size ≤ w4.heap.size := hb4.size
    have hbw4 := hide (hbw3.out.trans (hb4.mono (by omega)))
    have hF := hide (fun (w' : World) => sf_any none none none none 0 0 0 0 0 0 [] [] 0 w' rfl (Row.nil _ _ _ _ _) (Row.nil _ _ _ _ _) (by omega) rfl (Row.nil _ _ _ _ _) (Row.nil _ _ _ _ _) (by omega))
    have hzp : w1.heap.size < w4.heap.size := by omega
    clear hb4 hbw3 k0 k1
    go_wp2_with fail
    refine (hF.out _).mono ?_
    rintro e w5 ⟨rfl, hb5⟩
    have hb7 := hide (hbw4.out.trans (hb5.mono (show w.heap.size ≤ w4.heap.size by omega)))
    clear hb5
    go_wp2
    go_ret
    exact ⟨rfl, hb7.out⟩
end Go.Proofs.Ytcehdpeeaogpiaa
