/-
  What star.Walked and the reference's walked return: a way with what it costs. Conditions: the way up is there; a right net.
-/
import Derived.Test.YtcehdpeeaogpiaaStarB
import Derived.Test.YtcehdpeeaogpiaaStarO
import Derived.Test.YtcehdpeeaogpiaaWWalkCosts
namespace Go.Proofs.Ytcehdpeeaogpiaa
open Go.RowKit
set_option linter.unusedSimpArgs false
set_option linter.unusedVariables false
set_option maxHeartbeats 2000000 in
theorem walked_any (n v L : Nat) (a pa : Option Addr) (cap cp : Nat) (es : List Ed) (pred : Nat → Int) (l : List Nat) (cst : Int) (w : World) (B : Nat) (hB : B ≤ w.heap.size) (hE : Row encE 3 w B a es) (hP : Row encI 1 w w.heap.size pa (LI n pred)) (hl : Chain pred v l) (hn : n ≤ 64) (hll : l.length ≤ n) (hm : ∀ x ∈ l, x < n) (hel : es.length ≤ 9223372036854775807) (hcst : (wcost (n : Int) es (LP l.reverse)).1 = cst) (hL : l.length = L) :
    Calls Try.prog 133 #[.agg #[.int .i64 (n : Int), .slice a es.length cap], .slice pa n cp, .int .i64 (v : Int)] w fun e w' => ∃ av k, e = .returned (.agg #[.slice av L k, .int .i64 cst]) ∧ Own encI 1 3 w' w.heap.size (.slice av L k) (LP l.reverse) ∧ Below w.heap.size w w' := by
  obtain ⟨pth, hpth⟩ : ∃ p, p = LP l.reverse := ⟨_, rfl⟩
  have hplen : pth.length = L := by rw [hpth, lp_len, List.length_reverse, hL]
  have hBk := hide (fun (w' : World) (hb : Below w.heap.size w w') => (back_any n v cp pa pred l 0 w' w'.heap.size (Nat.le_refl _) ((hP.below hb (Nat.le_refl _)).mono hb.size) hl hn hll hm).mono (R' := fun e w'' => ∃ av k, e = .returned (.agg #[.slice av L k, .int .i64 0]) ∧ Own encI 1 3 w'' w'.heap.size (.slice av L k) pth ∧ Below w'.heap.size w' w'') (by
    rintro e w'' ⟨av, k, rfl, oP, hb⟩
    rw [hL, ← hpth] at oP
    rw [hL]
    exact ⟨av, k, rfl, oP, hb⟩))
  rw [← hpth] at hcst ⊢
  obtain ⟨er, her⟩ : ∃ er, er = (wcost (n : Int) es pth).2 := ⟨_, rfl⟩
  have hW := hide (fun (w' : World) (hb : Below w.heap.size w w') (pa : Option Addr) (pc : Nat) (hP2 : Row encI 1 w' w'.heap.size pa pth) => by
    have := wcost_any (n : Int) a cap es pa pc pth w' w'.heap.size (Nat.le_refl _) ((hE.below hb hB).mono (Nat.le_trans hB hb.size)) hP2 hel (by rw [hplen]; omega)
    rw [hplen] at this
    exact this)
  have hwc : wcost (n : Int) es pth = (cst, er) := by rw [← hcst, her]
  rw [hwc] at hW
  replace hpth := hide hpth
  replace her := hide her
  replace hwc := hide hwc
  clear hE hP hl hm hll hcst
  go_enter Try.func133, Try.ntmps133
  go_wp2_with fail
  refine (hBk.out _ (by exact (by repeat (first | with_reducible exact Below.refl _ _ | with_reducible assumption | with_reducible refine up_drewN ?_ | with_reducible refine up_drew ?_ | (with_reducible refine up_alloc ?_ ?_; rotate_left; (first | omega | (simp <;> omega) | simp)) | (with_reducible refine up_set ?_ ?_; rotate_left; (first | omega | (simp <;> omega) | simp)) | (with_reducible refine Below.trans ?_ (Below.mono (by with_reducible assumption) ?_); rotate_left; (first | omega | (simp <;> omega) | simp)))))).mono ?_
  rintro e w1 ⟨av, k, rfl, oP, hb1⟩
  have k0 := cu_below hb1 (p := ⟨w.heap.size, 0, none⟩) (v := .int .i64 (n : Int)) (by simp [go_sem]) (by first | omega | (simp; done) | (simp; omega))
  have k1 := cu_below hb1 (p := ⟨w.heap.size, 1, none⟩) (v := .slice a es.length cap) (by simp [go_sem]) (by first | omega | (simp; done) | (simp; omega))
  have r0 := cu_below hb1 (p := ⟨w.heap.size + 1, 0, none⟩) (v := .slice none 0 0) (by simp [go_sem]) (by first | omega | (simp; done) | (simp; omega))
  have r1 := cu_below hb1 (p := ⟨w.heap.size + 1, 1, none⟩) (v := .int .i64 0) (by simp [go_sem]) (by first | omega | (simp; done) | (simp; omega))
  have f0 := fu_below hb1 (p := ⟨w.heap.size + 1, 0, none⟩) (by simp [go_sem]) (by first | omega | (simp; done) | (simp; omega))
  have f1 := fu_below hb1 (p := ⟨w.heap.size + 1, 1, none⟩) (by simp [go_sem]) (by first | omega | (simp; done) | (simp; omega))
  have hb2 := hide ((((by repeat (first | with_reducible exact Below.refl _ _ | with_reducible assumption | with_reducible refine up_drewN ?_ | with_reducible refine up_drew ?_ | (with_reducible refine up_alloc ?_ ?_; rotate_left; (first | omega | (simp <;> omega) | simp)) | (with_reducible refine up_set ?_ ?_; rotate_left; (first | omega | (simp <;> omega) | simp)) | (with_reducible refine Below.trans ?_ (Below.mono (by with_reducible assumption) ?_); rotate_left; (first | omega | (simp <;> omega) | simp)))) : Below w.heap.size w _)).trans (hb1.mono (by first | omega | (simp; done) | (simp; omega))))
  have hz1 : w.heap.size + 1 < w1.heap.size := cell_lt r0
  have oP1 := hide (oP.base_le (show w.heap.size + 1 + 1 ≤ _ by first | omega | (simp; done) | (simp; omega)))
  clear hb1 oP
  obtain ⟨w2, hw2⟩ : ∃ w2, w2 = w1.alloc (.cells #[.slice av L k, .int .i64 0] 36) := ⟨_, rfl⟩
  have hb12 : Below w1.heap.size w1 w2 := by rw [hw2]; exact (Below.refl _ _).alloc (Nat.le_refl _) _
  have p0 : w2.cell? ⟨w1.heap.size, 0, none⟩ = some (.slice av L k) := by rw [hw2]; simp [go_sem]
  have p1 : w2.cell? ⟨w1.heap.size, 1, none⟩ = some (.int .i64 0) := by rw [hw2]; simp [go_sem]
  have g1 : w2.frozen? ⟨w1.heap.size, 1, none⟩ = false := by rw [hw2]; simp [go_sem]
  have k0 := cu_below hb12 k0 (by first | omega | (simp; done) | (simp; omega))
  have k1 := cu_below hb12 k1 (by first | omega | (simp; done) | (simp; omega))
  have r0 := cu_below hb12 r0 (by first | omega | (simp; done) | (simp; omega))
  have r1 := cu_below hb12 r1 (by first | omega | (simp; done) | (simp; omega))
  have f0 := fu_below hb12 f0 (by first | omega | (simp; done) | (simp; omega))
  have f1 := fu_below hb12 f1 (by first | omega | (simp; done) | (simp; omega))
  have hz2 : w1.heap.size < w2.heap.size := cell_lt p0
  have zg : w.heap.size < w2.heap.size := by omega
  have zg1 : w.heap.size < w1.heap.size := by omega
  have hbw2 := hide (hb2.out.trans (hb12.mono (by omega)))
  have oP2 := hide (oP1.out.stays hb12)
  have hbo := hide (oP1.out.block_lt)
  have hrow := hide (own_rowL oP2.out)
  clear hb12 hb2 oP1
  go_wp2_with fail
  simp only [← hw2]
  replace hw2 := hide hw2
  refine (hW.out _ hbw2.out av k hrow.out).mono ?_
  rintro e w3 ⟨rfl, hb3⟩
  have p0 := cu_below hb3 p0 hz2
  have p1 := cu_below hb3 p1 hz2
  have g1 := fu_below hb3 g1 hz2
  have r0 := cu_below hb3 r0 (by first | omega | (simp; done) | (simp; omega))
  have r1 := cu_below hb3 r1 (by first | omega | (simp; done) | (simp; omega))
  have f0 := fu_below hb3 f0 (by first | omega | (simp; done) | (simp; omega))
  have f1 := fu_below hb3 f1 (by first | omega | (simp; done) | (simp; omega))
  have hbw3 := hide (hbw2.out.trans (hb3.mono (by omega)))
  have oP3 := hide (oP2.out.stays hb3)
  have hz3 : w1.heap.size < w3.heap.size := cell_lt p0
  clear hb3 hbw2 oP2 hrow
  go_wp2
  refine bodyPost_ret (v := .agg #[.slice av L k, .int .i64 cst]) (by simp [results, Try.results133, go_sem, r0, r1, f0, f1, p0, p1, g1]) rfl ?_
  have hne : (Value.slice av L k).ownBlock ≠ some w1.heap.size := fun e => by have := (hbo.out _ e).2; omega
  refine ⟨av, k, rfl, ?_, ?_⟩
  · exact (((oP3.out.elsewhere (p := ⟨w1.heap.size, 1, none⟩) hne _).setCell (by first | omega | (simp; done) | (simp; omega)) _).setCell (by first | omega | (simp; done) | (simp; omega)) _).base_le (by omega)
  · exact ((hbw3.out.setCell (by first | omega | (simp; done) | (simp; omega)) _).setCell (by first | omega | (simp; done) | (simp; omega)) _).setCell (by first | omega | (simp; done) | (simp; omega)) _
set_option maxHeartbeats 2000000 in
theorem rwalked_any (n L pc : Nat) (a pa : Option Addr) (cap : Nat) (es : List Ed) (pth : List Int) (cst : Int) (w : World) (B : Nat) (hB : B ≤ w.heap.size) (hE : Row encE 3 w B a es) (hP : Row encI 1 w w.heap.size pa pth) (hel : es.length ≤ 9223372036854775807) (hcst : (wcost (n : Int) es pth).1 = cst) (hL : pth.length = L) (hL2 : L ≤ 1000000) :
    Calls Try.prog 135 #[.agg #[.int .i64 (n : Int), .slice a es.length cap], .slice pa L pc] w fun e w' => e = .returned (.agg #[.slice pa L pc, .int .i64 cst]) ∧ Below w.heap.size w w' := by
  obtain ⟨er, her⟩ : ∃ er, er = (wcost (n : Int) es pth).2 := ⟨_, rfl⟩
  have hW := hide (fun (w' : World) (hb : Below w.heap.size w w') => by
    have := rwcost_any (n : Int) a cap es pa pc pth w' w'.heap.size (Nat.le_refl _) ((hE.below hb hB).mono (Nat.le_trans hB hb.size)) ((hP.below hb (Nat.le_refl _)).mono hb.size) hel (by rw [hL]; omega)
    rw [hL] at this
    exact this)
  have hwc : wcost (n : Int) es pth = (cst, er) := by rw [← hcst, her]
  rw [hwc] at hW
  replace her := hide her
  replace hwc := hide hwc
  clear hE hP hcst
  go_enter Try.func135, Try.ntmps135
  go_wp2_with fail
  refine (hW.out _ (by exact (by repeat (first | with_reducible exact Below.refl _ _ | with_reducible assumption | with_reducible refine up_drewN ?_ | with_reducible refine up_drew ?_ | (with_reducible refine up_alloc ?_ ?_; rotate_left; (first | omega | (simp <;> omega) | simp)) | (with_reducible refine up_set ?_ ?_; rotate_left; (first | omega | (simp <;> omega) | simp)) | (with_reducible refine Below.trans ?_ (Below.mono (by with_reducible assumption) ?_); rotate_left; (first | omega | (simp <;> omega) | simp)))))).mono ?_
  rintro e w1 ⟨rfl, hb1⟩
  have r0 := cu_below hb1 (p := ⟨w.heap.size + 1, 0, none⟩) (v := .slice none 0 0) (by simp [go_sem]) (by first | omega | (simp; done) | (simp; omega))
  have r1 := cu_below hb1 (p := ⟨w.heap.size + 1, 1, none⟩) (v := .int .i64 0) (by simp [go_sem]) (by first | omega | (simp; done) | (simp; omega))
  have f0 := fu_below hb1 (p := ⟨w.heap.size + 1, 0, none⟩) (by simp [go_sem]) (by first | omega | (simp; done) | (simp; omega))
  have f1 := fu_below hb1 (p := ⟨w.heap.size + 1, 1, none⟩) (by simp [go_sem]) (by first | omega | (simp; done) | (simp; omega))
  have hb2 := hide ((((by repeat (first | with_reducible exact Below.refl _ _ | with_reducible assumption | with_reducible refine up_drewN ?_ | with_reducible refine up_drew ?_ | (with_reducible refine up_alloc ?_ ?_; rotate_left; (first | omega | (simp <;> omega) | simp)) | (with_reducible refine up_set ?_ ?_; rotate_left; (first | omega | (simp <;> omega) | simp)) | (with_reducible refine Below.trans ?_ (Below.mono (by with_reducible assumption) ?_); rotate_left; (first | omega | (simp <;> omega) | simp)))) : Below w.heap.size w _)).trans (hb1.mono (by first | omega | (simp; done) | (simp; omega))))
  have hz1 : w.heap.size + 1 < w1.heap.size := cell_lt r0
  clear hb1
  go_wp2
  refine bodyPost_ret (v := .agg #[.slice pa L pc, .int .i64 cst]) (by simp [results, Try.results135, go_sem, r0, r1, f0, f1]) rfl ?_
  exact ⟨rfl, (hb2.out.setCell (by first | omega | (simp; done) | (simp; omega)) _).setCell (by first | omega | (simp; done) | (simp; omega)) _⟩
end Go.Proofs.Ytcehdpeeaogpiaa
