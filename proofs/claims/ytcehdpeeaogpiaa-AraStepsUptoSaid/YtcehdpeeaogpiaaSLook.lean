/-
  What star.Look and the reference's SearchLook return: the same. Conditions: that the arguments read.
-/
import Derived.Test.YtcehdpeeaogpiaaHeurA
import Derived.Test.YtcehdpeeaogpiaaRowS
namespace Go.Proofs.Ytcehdpeeaogpiaa
open Go.RowKit
set_option linter.unusedSimpArgs false
set_option linter.unusedVariables false
def slookErr (N : Int) (es : List Ed) (x1 x2 : Int) (h : List Int) : Int := if lookErr N es [x1, x2] ≠ 0 then lookErr N es [x1, x2] else guessErr N es x2 h
theorem slook_ok {N : Int} {es : List Ed} {x1 x2 : Int} (h0 : lookErr N es [x1, x2] = 0) (h : List Int) : ∃ n : Nat, N = (n : Int) ∧ 1 ≤ n ∧ n ≤ 64 ∧ (es.length ≤ 600 ∧ Right n es ∧ ∀ e ∈ es, 1 ≤ e.c) ∧ ∃ t : Nat, x2 = (t : Int) ∧ t < n ∧ lookErr N es [x2] = 0 ∧ slookErr N es x1 x2 h = guessErr N es x2 h := by
  obtain ⟨g1, g2⟩ := look_ok h0
  obtain ⟨g3, g4⟩ := posErr_ok g1
  obtain ⟨n1, n2, n3, n4⟩ := netErr_ok g3
  obtain ⟨n, rfl⟩ := Int.eq_ofNat_of_zero_le (show 0 ≤ N by omega)
  have g6 := g2 x2 (by simp)
  obtain ⟨t, rfl⟩ := Int.eq_ofNat_of_zero_le g6.1
  refine ⟨n, rfl, by omega, by omega, ⟨n3, n4, g4⟩, t, rfl, by omega, ?_, ?_⟩
  · unfold lookErr
    rw [if_neg (by simp [g1])]
    unfold plErr
    rw [if_neg (by omega)]
    rfl
  · unfold slookErr
    rw [if_neg (by simp [h0])]
/-- all that a search may lean on -/
theorem slook_all {N : Int} {es : List Ed} {x1 x2 : Int} {h : List Int} (h0 : slookErr N es x1 x2 h = 0) : ∃ n v t : Nat, N = (n : Int) ∧ x1 = (v : Int) ∧ x2 = (t : Int) ∧ 1 ≤ n ∧ n ≤ 64 ∧ es.length ≤ 600 ∧ Right n es ∧ (∀ e ∈ es, 1 ≤ e.c) ∧ v < n ∧ t < n ∧ h.length = n ∧ (∀ u, 0 ≤ hAt h u ∧ hAt h u ≤ 1099511627776) ∧ hAt h t = 0 ∧ eErr (hAt h) es = 0 := by
  by_cases hl : lookErr N es [x1, x2] = 0
  · obtain ⟨n, rfl, a1, a2, ⟨a3, a4, a5⟩, t, rfl, a6, a7, a8⟩ := slook_ok hl h
    have g5 := (look_ok hl).2 x1 (by simp)
    obtain ⟨v, rfl⟩ := Int.eq_ofNat_of_zero_le g5.1
    rw [a8] at h0
    unfold guessErr at h0
    rw [if_neg (by simp [a7])] at h0
    by_cases b1 : (h.length : Int) ≠ (n : Int)
    · rw [if_pos b1] at h0; omega
    · rw [if_neg b1] at h0
      by_cases b2 : hErr h ≠ 0
      · rw [if_pos b2] at h0; omega
      · rw [if_neg b2] at h0
        by_cases b3 : hAt h ((t : Int)).toNat ≠ 0
        · rw [if_pos b3] at h0; omega
        · rw [if_neg b3] at h0
          exact ⟨n, v, t, rfl, rfl, rfl, a1, a2, a3, a4, a5, by omega, a6, by omega, fun u => hAt_range (by simpa using b2) u, by simpa using b3, h0⟩
  · unfold slookErr at h0
    rw [if_pos hl] at h0
    exact absurd h0 hl
set_option maxHeartbeats 1000000 in
theorem slook_any (N : Int) (a : Option Addr) (cap : Nat) (es : List Ed) (x1 x2 : Int) (ah : Option Addr) (ch : Nat) (h : List Int) (w : World) (B : Nat) (hB : B ≤ w.heap.size) (hE : Row encE 3 w B a es) (hH : Row encI 1 w B ah h) (hl : es.length ≤ 9223372036854775807) (hl2 : h.length ≤ 9223372036854775807) :
    Calls Try.prog 40 #[.agg #[.int .i64 N, .slice a es.length cap], .int .i64 x1, .int .i64 x2, .slice ah h.length ch] w fun e w' => e = .returned (.int .i64 (slookErr N es x1 x2 h)) ∧ Below w.heap.size w w' := by
  have hL := hide (fun (b : Nat) (w : World) (hE : Row encE 3 w w.heap.size a es) (hP : Row encI 1 w w.heap.size (some ⟨b, 0, none⟩) [x1, x2]) => look_any N a cap es (some ⟨b, 0, none⟩) 2 2 [x1, x2] rfl w w.heap.size (Nat.le_refl _) hE hP hl (by omega))
  obtain ⟨er, her⟩ : ∃ er, er = lookErr N es [x1, x2] := ⟨_, rfl⟩
  by_cases h0 : lookErr N es [x1, x2] = 0
  · obtain ⟨n, rfl, _, _, _, t, rfl, _, h2, hr⟩ := slook_ok h0 h
    have hC := hide (fun (w' : World) (hb : Below w.heap.size w w') => hcheck_ok n a cap es t ah ch h w' B (Nat.le_trans hB hb.size) (hE.below hb hB) (hH.below hb hB) hl hl2 h2)
    obtain ⟨ge, hge⟩ : ∃ ge, ge = guessErr (n : Int) es (t : Int) h := ⟨_, rfl⟩
    have hfin := hide (show slookErr (n : Int) es x1 (t : Int) h = ge by rw [hr, hge])
    rw [← hge] at hC
    have hL2 : Hid (∀ (b : Nat) (w : World), Row encE 3 w w.heap.size a es → Row encI 1 w w.heap.size (some ⟨b, 0, none⟩) [x1, (t : Int)] → Calls Try.prog 23 #[.agg #[.int .i64 (n : Int), .slice a es.length cap], .slice (some ⟨b, 0, none⟩) 2 2] w fun e w' => e = .returned (.int .i64 0) ∧ Below w.heap.size w w') := hide (fun b w q1 q2 => by have := hL.out b w q1 q2; rw [h0] at this; exact this)
    have hrow := hide (fun (w' : World) (hb : Below w.heap.size w w') => (hE.below hb hB).mono (Nat.le_trans hB hb.size))
    clear hL h0 h2 hr hE hH
    replace hge := hide hge
    replace her := hide her
    go_enter Try.func40, Try.ntmps40
    go_wp2_with fail
    refine Calls.mono (hL2.out _ _ (hrow.out _ (by exact (by repeat (first | with_reducible exact Below.refl _ _ | with_reducible assumption | with_reducible refine up_drewN ?_ | with_reducible refine up_drew ?_ | (with_reducible refine up_alloc ?_ ?_; rotate_left; (first | omega | (simp <;> omega) | simp)) | (with_reducible refine up_set ?_ ?_; rotate_left; (first | omega | (simp <;> omega) | simp)) | (with_reducible refine Below.trans ?_ (Below.mono (by with_reducible assumption) ?_); rotate_left; (first | omega | (simp <;> omega) | simp)))))) (row2 (by simp [go_sem]) (by simp [go_sem]))) ?_
    rintro e w1 ⟨rfl, hb1⟩
    have k0 := cu_below hb1 (p := ⟨w.heap.size, 0, none⟩) (v := .int .i64 (n : Int)) (by simp [go_sem]) (by simp; omega)
    have k1 := cu_below hb1 (p := ⟨w.heap.size, 1, none⟩) (v := .slice a es.length cap) (by simp [go_sem]) (by simp; omega)
    have hb2 := hide ((((by repeat (first | with_reducible exact Below.refl _ _ | with_reducible assumption | with_reducible refine up_drewN ?_ | with_reducible refine up_drew ?_ | (with_reducible refine up_alloc ?_ ?_; rotate_left; (first | omega | (simp <;> omega) | simp)) | (with_reducible refine up_set ?_ ?_; rotate_left; (first | omega | (simp <;> omega) | simp)) | (with_reducible refine Below.trans ?_ (Below.mono (by with_reducible assumption) ?_); rotate_left; (first | omega | (simp <;> omega) | simp)))) : Below w.heap.size w _)).trans (hb1.mono (by simp; omega)))
    clear hb1
    go_wp2_with fail
    refine (hC.out _ hb2.out).mono ?_
    rintro e w2 ⟨rfl, hb3⟩
    go_wp2
    go_ret
    exact ⟨ret_int hfin.out.symm, hb2.out.trans (hb3.mono hb2.out.size)⟩
  · have hfin := hide (show slookErr N es x1 x2 h = er by unfold slookErr; rw [if_pos h0, her])
    have q0 : (er != 0) = true := by rw [her]; simpa using h0
    rw [← her] at hL
    have hrow := hide (fun (w' : World) (hb : Below w.heap.size w w') => (hE.below hb hB).mono (Nat.le_trans hB hb.size))
    clear h0 hE hH
    replace her := hide her
    go_enter Try.func40, Try.ntmps40
    go_wp2_with fail
    refine Calls.mono (hL.out _ _ (hrow.out _ (by exact (by repeat (first | with_reducible exact Below.refl _ _ | with_reducible assumption | with_reducible refine up_drewN ?_ | with_reducible refine up_drew ?_ | (with_reducible refine up_alloc ?_ ?_; rotate_left; (first | omega | (simp <;> omega) | simp)) | (with_reducible refine up_set ?_ ?_; rotate_left; (first | omega | (simp <;> omega) | simp)) | (with_reducible refine Below.trans ?_ (Below.mono (by with_reducible assumption) ?_); rotate_left; (first | omega | (simp <;> omega) | simp)))))) (row2 (by simp [go_sem]) (by simp [go_sem]))) ?_
    rintro e w1 ⟨rfl, hb1⟩
    have hb2 := hide ((((by repeat (first | with_reducible exact Below.refl _ _ | with_reducible assumption | with_reducible refine up_drewN ?_ | with_reducible refine up_drew ?_ | (with_reducible refine up_alloc ?_ ?_; rotate_left; (first | omega | (simp <;> omega) | simp)) | (with_reducible refine up_set ?_ ?_; rotate_left; (first | omega | (simp <;> omega) | simp)) | (with_reducible refine Below.trans ?_ (Below.mono (by with_reducible assumption) ?_); rotate_left; (first | omega | (simp <;> omega) | simp)))) : Below w.heap.size w _)).trans (hb1.mono (by simp; omega)))
    clear hb1
    go_wp2
    go_ret
    exact ⟨ret_int hfin.out.symm, hb2.out⟩
set_option maxHeartbeats 1000000 in
theorem rslook_any (N : Int) (a : Option Addr) (cap : Nat) (es : List Ed) (x1 x2 : Int) (ah : Option Addr) (ch : Nat) (h : List Int) (w : World) (B : Nat) (hB : B ≤ w.heap.size) (hE : Row encE 3 w B a es) (hH : Row encI 1 w B ah h) (hl : es.length ≤ 9223372036854775807) (hl2 : h.length ≤ 9223372036854775807) :
    Calls Try.prog 39 #[.agg #[.int .i64 N, .slice a es.length cap], .int .i64 x1, .int .i64 x2, .slice ah h.length ch] w fun e w' => e = .returned (.int .i64 (slookErr N es x1 x2 h)) ∧ Below w.heap.size w w' := by
  have hL := hide (fun (b : Nat) (w : World) (hE : Row encE 3 w w.heap.size a es) (hP : Row encI 1 w w.heap.size (some ⟨b, 0, none⟩) [x1, x2]) => rlook_any N a cap es (some ⟨b, 0, none⟩) 2 2 [x1, x2] rfl w w.heap.size (Nat.le_refl _) hE hP hl (by omega))
  obtain ⟨er, her⟩ : ∃ er, er = lookErr N es [x1, x2] := ⟨_, rfl⟩
  by_cases h0 : lookErr N es [x1, x2] = 0
  · obtain ⟨n, rfl, _, _, _, t, rfl, _, h2, hr⟩ := slook_ok h0 h
    have hC := hide (fun (w' : World) (hb : Below w.heap.size w w') => rguess_ok n a cap es t ah ch h w' B (Nat.le_trans hB hb.size) (hE.below hb hB) (hH.below hb hB) hl hl2 h2)
    obtain ⟨ge, hge⟩ : ∃ ge, ge = guessErr (n : Int) es (t : Int) h := ⟨_, rfl⟩
    have hfin := hide (show slookErr (n : Int) es x1 (t : Int) h = ge by rw [hr, hge])
    rw [← hge] at hC
    have hL2 : Hid (∀ (b : Nat) (w : World), Row encE 3 w w.heap.size a es → Row encI 1 w w.heap.size (some ⟨b, 0, none⟩) [x1, (t : Int)] → Calls Try.prog 45 #[.agg #[.int .i64 (n : Int), .slice a es.length cap], .slice (some ⟨b, 0, none⟩) 2 2] w fun e w' => e = .returned (.int .i64 0) ∧ Below w.heap.size w w') := hide (fun b w q1 q2 => by have := hL.out b w q1 q2; rw [h0] at this; exact this)
    have hrow := hide (fun (w' : World) (hb : Below w.heap.size w w') => (hE.below hb hB).mono (Nat.le_trans hB hb.size))
    clear hL h0 h2 hr hE hH
    replace hge := hide hge
    replace her := hide her
    go_enter Try.func39, Try.ntmps39
    go_wp2_with fail
    refine Calls.mono (hL2.out _ _ (hrow.out _ (by exact (by repeat (first | with_reducible exact Below.refl _ _ | with_reducible assumption | with_reducible refine up_drewN ?_ | with_reducible refine up_drew ?_ | (with_reducible refine up_alloc ?_ ?_; rotate_left; (first | omega | (simp <;> omega) | simp)) | (with_reducible refine up_set ?_ ?_; rotate_left; (first | omega | (simp <;> omega) | simp)) | (with_reducible refine Below.trans ?_ (Below.mono (by with_reducible assumption) ?_); rotate_left; (first | omega | (simp <;> omega) | simp)))))) (row2 (by simp [go_sem]) (by simp [go_sem]))) ?_
    rintro e w1 ⟨rfl, hb1⟩
    have k0 := cu_below hb1 (p := ⟨w.heap.size, 0, none⟩) (v := .int .i64 (n : Int)) (by simp [go_sem]) (by simp; omega)
    have k1 := cu_below hb1 (p := ⟨w.heap.size, 1, none⟩) (v := .slice a es.length cap) (by simp [go_sem]) (by simp; omega)
    have hb2 := hide ((((by repeat (first | with_reducible exact Below.refl _ _ | with_reducible assumption | with_reducible refine up_drewN ?_ | with_reducible refine up_drew ?_ | (with_reducible refine up_alloc ?_ ?_; rotate_left; (first | omega | (simp <;> omega) | simp)) | (with_reducible refine up_set ?_ ?_; rotate_left; (first | omega | (simp <;> omega) | simp)) | (with_reducible refine Below.trans ?_ (Below.mono (by with_reducible assumption) ?_); rotate_left; (first | omega | (simp <;> omega) | simp)))) : Below w.heap.size w _)).trans (hb1.mono (by simp; omega)))
    clear hb1
    go_wp2_with fail
    refine (hC.out _ hb2.out).mono ?_
    rintro e w2 ⟨rfl, hb3⟩
    go_wp2
    go_ret
    exact ⟨ret_int hfin.out.symm, hb2.out.trans (hb3.mono hb2.out.size)⟩
  · have hfin := hide (show slookErr N es x1 x2 h = er by unfold slookErr; rw [if_pos h0, her])
    have q0 : (er != 0) = true := by rw [her]; simpa using h0
    rw [← her] at hL
    have hrow := hide (fun (w' : World) (hb : Below w.heap.size w w') => (hE.below hb hB).mono (Nat.le_trans hB hb.size))
    clear h0 hE hH
    replace her := hide her
    go_enter Try.func39, Try.ntmps39
    go_wp2_with fail
    refine Calls.mono (hL.out _ _ (hrow.out _ (by exact (by repeat (first | with_reducible exact Below.refl _ _ | with_reducible assumption | with_reducible refine up_drewN ?_ | with_reducible refine up_drew ?_ | (with_reducible refine up_alloc ?_ ?_; rotate_left; (first | omega | (simp <;> omega) | simp)) | (with_reducible refine up_set ?_ ?_; rotate_left; (first | omega | (simp <;> omega) | simp)) | (with_reducible refine Below.trans ?_ (Below.mono (by with_reducible assumption) ?_); rotate_left; (first | omega | (simp <;> omega) | simp)))))) (row2 (by simp [go_sem]) (by simp [go_sem]))) ?_
    rintro e w1 ⟨rfl, hb1⟩
    have hb2 := hide ((((by repeat (first | with_reducible exact Below.refl _ _ | with_reducible assumption | with_reducible refine up_drewN ?_ | with_reducible refine up_drew ?_ | (with_reducible refine up_alloc ?_ ?_; rotate_left; (first | omega | (simp <;> omega) | simp)) | (with_reducible refine up_set ?_ ?_; rotate_left; (first | omega | (simp <;> omega) | simp)) | (with_reducible refine Below.trans ?_ (Below.mono (by with_reducible assumption) ?_); rotate_left; (first | omega | (simp <;> omega) | simp)))) : Below w.heap.size w _)).trans (hb1.mono (by simp; omega)))
    clear hb1
    go_wp2
    go_ret
    exact ⟨ret_int hfin.out.symm, hb2.out⟩
end Go.Proofs.Ytcehdpeeaogpiaa
