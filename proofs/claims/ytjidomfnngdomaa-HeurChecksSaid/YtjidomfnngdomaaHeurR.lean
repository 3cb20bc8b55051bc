/-
  What the reference's Guess returns, whole. Condition: the slices read.
-/
import Derived.Test.YtjidomfnngdomaaHeurC
namespace Go.Proofs.Ytjidomfnngdomaa
open Go.RowKit
set_option linter.unusedSimpArgs false
set_option linter.unusedVariables false
set_option maxRecDepth 100000 in
set_option maxHeartbeats 2000000 in
theorem rguess_bad (N : Int) (a : Option Addr) (cap : Nat) (es : List Ed) (x : Int) (ah : Option Addr) (ch : Nat) (h : List Int) (w : World) (B : Nat) (hB : B ≤ w.heap.size) (hE : Row encE 3 w B a es) (hl : es.length ≤ 9223372036854775807) (h0 : lookErr N es [x] ≠ 0) :
    Calls Try.prog 24 #[.agg #[.int .i64 N, .slice a es.length cap], .int .i64 x, .slice ah h.length ch] w fun e w' => e = .returned (.int .i64 (lookErr N es [x])) ∧ Below w.heap.size w w' := by
  have q0 : (lookErr N es [x] != 0) = true := by simp [h0]
  have hL := hide (fun a1 c1 w B hB hE hP => rlook_any N a cap es a1 c1 1 [x] rfl w B hB hE hP hl (by omega))
  replace hE := hide hE
  clear h0
  go_enter Try.func24, Try.ntmps24
  go_wp2_with fail
  refine (hL.out _ _ _ (w.heap.size + 1 + 1 + 1) (by simp) ((hE.out.below ((by repeat (first | with_reducible exact Below.refl _ _ | with_reducible assumption | with_reducible refine up_drewN ?_ | with_reducible refine up_drew ?_ | (with_reducible refine up_alloc ?_ ?_; rotate_left; (first | omega | (simp <;> omega) | simp)) | (with_reducible refine up_set ?_ ?_; rotate_left; (first | omega | (simp <;> omega) | simp)) | (with_reducible refine Below.trans ?_ (Below.mono (by with_reducible assumption) ?_); rotate_left; (first | omega | (simp <;> omega) | simp)))) : Below w.heap.size w _) hB).mono (by omega)) ((row1 (by simp [go_sem])).mono (by simp))).mono ?_
  rintro e w1 ⟨rfl, hb1⟩
  go_wp2
  go_ret
  exact ⟨rfl, (by repeat (first | with_reducible exact Below.refl _ _ | with_reducible assumption | with_reducible refine up_drewN ?_ | with_reducible refine up_drew ?_ | (with_reducible refine up_alloc ?_ ?_; rotate_left; (first | omega | (simp <;> omega) | simp)) | (with_reducible refine up_set ?_ ?_; rotate_left; (first | omega | (simp <;> omega) | simp)) | (with_reducible refine Below.trans ?_ (Below.mono (by with_reducible assumption) ?_); rotate_left; (first | omega | (simp <;> omega) | simp))))⟩
set_option maxRecDepth 100000 in
set_option maxHeartbeats 4000000 in
theorem rguess_ok (n : Nat) (a : Option Addr) (cap : Nat) (es : List Ed) (t : Nat) (ah : Option Addr) (ch : Nat) (h : List Int) (w : World) (B : Nat) (hB : B ≤ w.heap.size) (hE : Row encE 3 w B a es) (hH : Row encI 1 w B ah h) (hl : es.length ≤ 9223372036854775807) (hl2 : h.length ≤ 9223372036854775807) (h0 : lookErr (n : Int) es [(t : Int)] = 0) :
    Calls Try.prog 24 #[.agg #[.int .i64 (n : Int), .slice a es.length cap], .int .i64 (t : Int), .slice ah h.length ch] w fun e w' => e = .returned (.int .i64 (guessErr (n : Int) es (t : Int) h)) ∧ Below w.heap.size w w' := by
  have hr0 := hide (show guessErr (n : Int) es (t : Int) h = if (h.length : Int) ≠ n then 1 else if hErr h ≠ 0 then 1 else if hAt h t ≠ 0 then 7 else eErr (hAt h) es by unfold guessErr; rw [if_neg (by simp [h0])]; simp)
  obtain ⟨g1, g2⟩ := look_ok h0
  obtain ⟨g3, g4⟩ := posErr_ok g1
  obtain ⟨n1, n2, n3, n4⟩ := netErr_ok g3
  have ht : t < n := by have := g2 t (by simp); omega
  have hes := hide (show Right n es from n4)
  have hL := hide (fun a1 c1 w B hB hE hP => by have := rlook_any (n : Int) a cap es a1 c1 1 [(t : Int)] rfl w B hB hE hP hl (by omega); rw [h0] at this; exact this)
  replace hE := hide hE
  replace hH := hide hH
  clear h0 g1 g2 g3 g4 n4
  by_cases hlen : h.length = n
  · have hr := hide (show guessErr (n : Int) es (t : Int) h = if hErr h ≠ 0 then 1 else if hAt h t ≠ 0 then 7 else eErr (hAt h) es by rw [hr0.out, if_neg (by omega)])
    subst hlen
    clear hr0
    have hmm := hide (hErr_minmax (h := h) (by omega))
    have hv := hide (hErr_vals h)
    have hMin := hide (fun w B hE => smin_any ah ch h w B hE (by omega) hl2)
    have hMax := hide (fun w B hE => smax_any ah ch h w B hE (by omega) hl2)
    obtain ⟨mi, hmi⟩ : ∃ m, m = minL h := ⟨_, rfl⟩
    obtain ⟨ma, hma⟩ : ∃ m, m = maxL h := ⟨_, rfl⟩
    rw [← hmi] at hMin hmm
    rw [← hma] at hMax hmm
    replace hmi := hide hmi
    replace hma := hide hma
    go_enter Try.func24, Try.ntmps24
    go_wp2_with fail
    refine (hL.out _ _ _ (w.heap.size + 1 + 1 + 1) (by simp) ((hE.out.below ((by repeat (first | with_reducible exact Below.refl _ _ | with_reducible assumption | with_reducible refine up_drewN ?_ | with_reducible refine up_drew ?_ | (with_reducible refine up_alloc ?_ ?_; rotate_left; (first | omega | (simp <;> omega) | simp)) | (with_reducible refine up_set ?_ ?_; rotate_left; (first | omega | (simp <;> omega) | simp)) | (with_reducible refine Below.trans ?_ (Below.mono (by with_reducible assumption) ?_); rotate_left; (first | omega | (simp <;> omega) | simp)))) : Below w.heap.size w _) hB).mono (by omega)) ((row1 (by simp [go_sem])).mono (by simp))).mono ?_
    rintro e w1 ⟨rfl, hb1⟩
    have k0 : w1.cell? ⟨w.heap.size, 0, none⟩ = some (.int .i64 (h.length : Int)) := cu_below hb1 (by simp [go_sem]) (by simp <;> omega)
    have k1 : w1.cell? ⟨w.heap.size, 1, none⟩ = some (.slice a es.length cap) := cu_below hb1 (by simp [go_sem]) (by simp <;> omega)
    have k2 : w1.cell? ⟨w.heap.size + 1, 0, none⟩ = some (.slice ah h.length ch) := cu_below hb1 (by simp [go_sem]) (by simp <;> omega)
    have hbw := hide (unalloc (unalloc (unalloc (hb1.mono (by simp <;> omega)) (by simp <;> omega)) (by simp)) (Nat.le_refl _) : Below w.heap.size w w1)
    have hz1 : w.heap.size + 1 < w1.heap.size := cell_lt k2
    have hz0 : w.heap.size < w1.heap.size := by omega
    clear hb1
    have hH1 := hide (hH.out.below hbw.out hB)
    have hE1 := hide (hE.out.below hbw.out hB)
    by_cases q1 : mi < 0
    · have hr2 := hide (show guessErr (h.length : Int) es (t : Int) h = 1 by
        rw [hr.out, if_pos]; intro h0; have := (hmm.out.1 h0).1; omega)
      go_wp2_with fail
      refine (hMin.out _ B hH1.out).mono ?_
      rintro e w2 ⟨rfl, m2, rfl⟩
      go_wp2
      go_ret
      exact ⟨ret_int hr2.out.symm, up_drewN hbw.out⟩
    by_cases q2 : 1099511627776 < ma
    · have hr2 := hide (show guessErr (h.length : Int) es (t : Int) h = 1 by
        rw [hr.out, if_pos]; intro h0; have := (hmm.out.1 h0).2; omega)
      have q1' : 0 ≤ mi := by omega
      clear q1
      go_wp2_with fail
      refine (hMin.out _ B hH1.out).mono ?_
      rintro e w2 ⟨rfl, m2, rfl⟩
      go_wp2_with fail
      refine (hMax.out _ B (hH1.out.below (up_drewN (Below.refl _ _)) (by omega))).mono ?_
      rintro e w2 ⟨rfl, m3, rfl⟩
      go_wp2
      go_ret
      exact ⟨ret_int hr2.out.symm, up_drewN hbw.out⟩
    have hz : hErr h = 0 := hmm.out.2 ⟨by omega, by omega⟩
    have q1' : 0 ≤ mi := by omega
    have q2' : ma ≤ 1099511627776 := by omega
    have hf := hide (hAt_range hz)
    have hr2 := hide (show guessErr (h.length : Int) es (t : Int) h = if hAt h t ≠ 0 then 7 else eErr (hAt h) es by rw [hr.out, if_neg (by simp [hz])])
    have hHL : Row encI 1 w1 B ah (LI h.length (hAt h)) := by rw [li_hAt]; exact hH1.out
    clear hz hr hmm q1 q2
    have hC := hide (fun W (hb : Below w1.heap.size w1 W) => cg_any h.length (hAt h) ah ch (w.heap.size + 1) a cap es W B (Nat.le_trans (by omega) hb.size) (hE1.out.below hb (by omega)) n3 hes.out (hHL.below hb (by omega)) (cu_below hb k2 hz1) hf.out)
    have hev := hide (eIdx_err (hAt h) es 0).2
    obtain ⟨b, o, rfl, hbB, e1⟩ := hHL.atI t ht
    replace hHL := hide hHL
    have hbl := cell_lt e1
    have it : (0 : Int) ≤ (t : Int) ∧ (t : Int) < (h.length : Int) := by omega
    have g0 := hf.out t
    obtain ⟨x, hx⟩ : ∃ x, x = hAt h t := ⟨_, rfl⟩
    rw [← hx] at e1 g0
    replace hx := hide hx
    by_cases q : x = 0
    · subst q
      have hr3 := hide (show guessErr (h.length : Int) es (t : Int) h = eErr (hAt h) es by rw [hr2.out, if_neg (by simp [← hx.out])])
      obtain ⟨b7, hb7⟩ : ∃ b, b = decide (eErr (hAt h) es = 7) := ⟨_, rfl⟩
      rw [← hb7] at hC
      replace hb7 := hide hb7
      clear hr2 g0
      cases b7
      all_goals
        go_wp2_with fail
        refine (hMin.out _ B hH1.out).mono ?_
        rintro e w2 ⟨rfl, m2, rfl⟩
        go_wp2_with fail
        refine (hMax.out _ B (hH1.out.below (up_drewN (Below.refl _ _)) (by omega))).mono ?_
        rintro e w2 ⟨rfl, m3, rfl⟩
        go_wp2_with fail
        refine (hC.out _ (up_drewN (Below.refl _ _))).mono ?_
        rintro e w3 ⟨rfl, hb3⟩
        go_wp2
        go_ret
        refine ⟨ret_int ?_, (up_drewN hbw.out).trans (hb3.mono (by simp; omega))⟩
        have h1 := hb7.out
        have h2 := hev.out
        rw [hr3.out]
        rcases h2 with h2 | h2 <;> rw [h2] at h1 ⊢ <;> simp at h1
    · have hr3 := hide (show guessErr (h.length : Int) es (t : Int) h = 7 by rw [hr2.out, if_pos (by rw [← hx.out]; exact q)])
      have q3 : 0 < x := by omega
      clear q hr2 g0
      go_wp2_with fail
      refine (hMin.out _ B hH1.out).mono ?_
      rintro e w2 ⟨rfl, m2, rfl⟩
      go_wp2_with fail
      refine (hMax.out _ B (hH1.out.below (up_drewN (Below.refl _ _)) (by omega))).mono ?_
      rintro e w2 ⟨rfl, m3, rfl⟩
      go_wp2
      go_ret
      exact ⟨ret_int hr3.out.symm, up_drewN hbw.out⟩
  · have hr := hide (show guessErr (n : Int) es (t : Int) h = 1 by rw [hr0.out, if_pos (by omega)])
    have q0 : ((h.length : Int) != (n : Int)) = true := by simp; omega
    clear hr0 hlen
    go_enter Try.func24, Try.ntmps24
    go_wp2_with fail
    refine (hL.out _ _ _ (w.heap.size + 1 + 1 + 1) (by simp) ((hE.out.below ((by repeat (first | with_reducible exact Below.refl _ _ | with_reducible assumption | with_reducible refine up_drewN ?_ | with_reducible refine up_drew ?_ | (with_reducible refine up_alloc ?_ ?_; rotate_left; (first | omega | (simp <;> omega) | simp)) | (with_reducible refine up_set ?_ ?_; rotate_left; (first | omega | (simp <;> omega) | simp)) | (with_reducible refine Below.trans ?_ (Below.mono (by with_reducible assumption) ?_); rotate_left; (first | omega | (simp <;> omega) | simp)))) : Below w.heap.size w _) hB).mono (by omega)) ((row1 (by simp [go_sem])).mono (by simp))).mono ?_
    rintro e w1 ⟨rfl, hb1⟩
    have k0 : w1.cell? ⟨w.heap.size, 0, none⟩ = some (.int .i64 (n : Int)) := cu_below hb1 (by simp [go_sem]) (by simp <;> omega)
    have k2 : w1.cell? ⟨w.heap.size + 1, 0, none⟩ = some (.slice ah h.length ch) := cu_below hb1 (by simp [go_sem]) (by simp <;> omega)
    have hbw := hide (unalloc (unalloc (unalloc (hb1.mono (by simp <;> omega)) (by simp <;> omega)) (by simp)) (Nat.le_refl _) : Below w.heap.size w w1)
    have hz1 : w.heap.size + 1 < w1.heap.size := cell_lt k2
    have hz0 : w.heap.size < w1.heap.size := by omega
    clear hb1
    go_wp2
    go_ret
    exact ⟨ret_int hr.out.symm, hbw.out⟩
end Go.Proofs.Ytjidomfnngdomaa
