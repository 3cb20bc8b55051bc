/-
  What weigh.Weight and the reference's Weight return: the same. No condition.
-/
import Derived.Test.YtcehdpeeaogpiaaRefRatio
import Derived.Test.YtcehdpeeaogpiaaRatioEq
namespace Go.Proofs.Ytcehdpeeaogpiaa
open Go.RowKit
set_option linter.unusedSimpArgs false
set_option linter.unusedVariables false
def weighErr (r : P2) : Int := if chk r ≠ 0 then chk r else if r.a < r.b then 1 else 0
theorem weighErr_ok {r : P2} (h : weighErr r = 0) : 1 ≤ r.b ∧ r.b ≤ r.a ∧ r.a ≤ 1000000 := by
  unfold weighErr at h
  by_cases h1 : chk r = 0
  · rw [if_neg (by simpa using h1)] at h
    rw [chk_rchk] at h1
    unfold rchk at h1
    split at h1
    · omega
    · rename_i hc
      simp only [not_or, Int.not_lt, Bool.not_eq_false] at hc
      have h2 := (ratWithin_iff r.a).1 hc.2.2.1
      by_cases h3 : r.a < r.b
      · rw [if_pos h3] at h; omega
      · omega
  · rw [if_pos h1] at h; exact absurd h h1
theorem weight_any (r : P2) (w : World) : Calls Try.prog 56 #[.agg #[.int .i64 r.a, .int .i64 r.b]] w fun e w' => e = .returned (.int .i64 (weighErr r)) ∧ Below w.heap.size w w' := by
  have hC := hide (fun w => chk_any r w)
  obtain ⟨a, b⟩ := r
  simp only
  by_cases h0 : chk ⟨a, b⟩ = 0
  · have hr : weighErr ⟨a, b⟩ = if a < b then 1 else 0 := by unfold weighErr; rw [if_neg (by simpa using h0)]
    rw [hr]
    simp only [h0] at hC
    clear hr h0
    go_enter Try.func56, Try.ntmps56
    by_cases h1 : a < b
    · rw [if_pos h1]
      go_wp2_with fail
      refine (hC.out _).mono ?_
      rintro e w1 ⟨rfl, hb1⟩
      have k0 := cu_below hb1 (p := ⟨w.heap.size, 0, none⟩) (v := .int .i64 a) (by simp [go_sem]) (by simp)
      have k1 := cu_below hb1 (p := ⟨w.heap.size, 1, none⟩) (v := .int .i64 b) (by simp [go_sem]) (by simp)
      have hb2 := hide ((((by repeat (first | with_reducible exact Below.refl _ _ | with_reducible assumption | with_reducible refine up_drewN ?_ | with_reducible refine up_drew ?_ | (with_reducible refine up_alloc ?_ ?_; rotate_left; (first | omega | (simp <;> omega) | simp)) | (with_reducible refine up_set ?_ ?_; rotate_left; (first | omega | (simp <;> omega) | simp)) | (with_reducible refine Below.trans ?_ (Below.mono (by with_reducible assumption) ?_); rotate_left; (first | omega | (simp <;> omega) | simp)))) : Below w.heap.size w _)).trans (hb1.mono (by simp)))
      clear hb1
      go_wp2
      go_ret
      exact ⟨rfl, hb2.out⟩
    · rw [if_neg h1]
      go_wp2_with fail
      refine (hC.out _).mono ?_
      rintro e w1 ⟨rfl, hb1⟩
      have k0 := cu_below hb1 (p := ⟨w.heap.size, 0, none⟩) (v := .int .i64 a) (by simp [go_sem]) (by simp)
      have k1 := cu_below hb1 (p := ⟨w.heap.size, 1, none⟩) (v := .int .i64 b) (by simp [go_sem]) (by simp)
      have hb2 := hide ((((by repeat (first | with_reducible exact Below.refl _ _ | with_reducible assumption | with_reducible refine up_drewN ?_ | with_reducible refine up_drew ?_ | (with_reducible refine up_alloc ?_ ?_; rotate_left; (first | omega | (simp <;> omega) | simp)) | (with_reducible refine up_set ?_ ?_; rotate_left; (first | omega | (simp <;> omega) | simp)) | (with_reducible refine Below.trans ?_ (Below.mono (by with_reducible assumption) ?_); rotate_left; (first | omega | (simp <;> omega) | simp)))) : Below w.heap.size w _)).trans (hb1.mono (by simp)))
      clear hb1
      go_wp2
      go_ret
      exact ⟨rfl, hb2.out⟩
  · obtain ⟨er, her⟩ : ∃ er, er = chk ⟨a, b⟩ := ⟨_, rfl⟩
    have hr : weighErr ⟨a, b⟩ = er := by unfold weighErr; rw [if_pos h0, her]
    rw [hr]
    rw [← her] at hC h0
    have q0 : (er != 0) = true := by simpa using h0
    clear hr h0 her
    go_enter Try.func56, Try.ntmps56
    go_wp2_with fail
    refine (hC.out _).mono ?_
    rintro e w1 ⟨rfl, hb1⟩
    have hb2 := hide ((((by repeat (first | with_reducible exact Below.refl _ _ | with_reducible assumption | with_reducible refine up_drewN ?_ | with_reducible refine up_drew ?_ | (with_reducible refine up_alloc ?_ ?_; rotate_left; (first | omega | (simp <;> omega) | simp)) | (with_reducible refine up_set ?_ ?_; rotate_left; (first | omega | (simp <;> omega) | simp)) | (with_reducible refine Below.trans ?_ (Below.mono (by with_reducible assumption) ?_); rotate_left; (first | omega | (simp <;> omega) | simp)))) : Below w.heap.size w _)).trans (hb1.mono (by simp)))
    clear hb1
    go_wp2
    go_ret
    exact ⟨rfl, hb2.out⟩
theorem rweight_any (r : P2) (w : World) : Calls Try.prog 57 #[.agg #[.int .i64 r.a, .int .i64 r.b]] w fun e w' => e = .returned (.int .i64 (weighErr r)) ∧ Below w.heap.size w w' := by
  have hC := hide (fun w => rchk_any r w)
  rw [← chk_rchk] at hC
  obtain ⟨a, b⟩ := r
  simp only
  by_cases h0 : chk ⟨a, b⟩ = 0
  · have hr : weighErr ⟨a, b⟩ = if a < b then 1 else 0 := by unfold weighErr; rw [if_neg (by simpa using h0)]
    rw [hr]
    simp only [h0] at hC
    clear hr h0
    go_enter Try.func57, Try.ntmps57
    by_cases h1 : a < b
    · rw [if_pos h1]
      go_wp2_with fail
      refine (hC.out _).mono ?_
      rintro e w1 ⟨rfl, hb1⟩
      have k0 := cu_below hb1 (p := ⟨w.heap.size, 0, none⟩) (v := .int .i64 a) (by simp [go_sem]) (by simp)
      have k1 := cu_below hb1 (p := ⟨w.heap.size, 1, none⟩) (v := .int .i64 b) (by simp [go_sem]) (by simp)
      have hb2 := hide ((((by repeat (first | with_reducible exact Below.refl _ _ | with_reducible assumption | with_reducible refine up_drewN ?_ | with_reducible refine up_drew ?_ | (with_reducible refine up_alloc ?_ ?_; rotate_left; (first | omega | (simp <;> omega) | simp)) | (with_reducible refine up_set ?_ ?_; rotate_left; (first | omega | (simp <;> omega) | simp)) | (with_reducible refine Below.trans ?_ (Below.mono (by with_reducible assumption) ?_); rotate_left; (first | omega | (simp <;> omega) | simp)))) : Below w.heap.size w _)).trans (hb1.mono (by simp)))
      clear hb1
      go_wp2
      go_ret
      exact ⟨rfl, hb2.out⟩
    · rw [if_neg h1]
      go_wp2_with fail
      refine (hC.out _).mono ?_
      rintro e w1 ⟨rfl, hb1⟩
      have k0 := cu_below hb1 (p := ⟨w.heap.size, 0, none⟩) (v := .int .i64 a) (by simp [go_sem]) (by simp)
      have k1 := cu_below hb1 (p := ⟨w.heap.size, 1, none⟩) (v := .int .i64 b) (by simp [go_sem]) (by simp)
      have hb2 := hide ((((by repeat (first | with_reducible exact Below.refl _ _ | with_reducible assumption | with_reducible refine up_drewN ?_ | with_reducible refine up_drew ?_ | (with_reducible refine up_alloc ?_ ?_; rotate_left; (first | omega | (simp <;> omega) | simp)) | (with_reducible refine up_set ?_ ?_; rotate_left; (first | omega | (simp <;> omega) | simp)) | (with_reducible refine Below.trans ?_ (Below.mono (by with_reducible assumption) ?_); rotate_left; (first | omega | (simp <;> omega) | simp)))) : Below w.heap.size w _)).trans (hb1.mono (by simp)))
      clear hb1
      go_wp2
      go_ret
      exact ⟨rfl, hb2.out⟩
  · obtain ⟨er, her⟩ : ∃ er, er = chk ⟨a, b⟩ := ⟨_, rfl⟩
    have hr : weighErr ⟨a, b⟩ = er := by unfold weighErr; rw [if_pos h0, her]
    rw [hr]
    rw [← her] at hC h0
    have q0 : (er != 0) = true := by simpa using h0
    clear hr h0 her
    go_enter Try.func57, Try.ntmps57
    go_wp2_with fail
    refine (hC.out _).mono ?_
    rintro e w1 ⟨rfl, hb1⟩
    have hb2 := hide ((((by repeat (first | with_reducible exact Below.refl _ _ | with_reducible assumption | with_reducible refine up_drewN ?_ | with_reducible refine up_drew ?_ | (with_reducible refine up_alloc ?_ ?_; rotate_left; (first | omega | (simp <;> omega) | simp)) | (with_reducible refine up_set ?_ ?_; rotate_left; (first | omega | (simp <;> omega) | simp)) | (with_reducible refine Below.trans ?_ (Below.mono (by with_reducible assumption) ?_); rotate_left; (first | omega | (simp <;> omega) | simp)))) : Below w.heap.size w _)).trans (hb1.mono (by simp)))
    clear hb1
    go_wp2
    go_ret
    exact ⟨rfl, hb2.out⟩
end Go.Proofs.Ytcehdpeeaogpiaa
