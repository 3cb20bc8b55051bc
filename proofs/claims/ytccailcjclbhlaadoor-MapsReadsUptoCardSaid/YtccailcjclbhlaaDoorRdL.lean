/-
  The walk of felllaw.MapsReads: it returns true. Condition: the text is not longer than 1048576 bytes.
-/
import Derived.Test.YtccailcjclbhlaaDoorRdM
import Derived.Test.YtccailcjclbhlaaDoorEqA
namespace Go.Proofs.YtccailcjclbhlaaDoor
open Go.RowKit
set_option linter.unusedSimpArgs false
set_option linter.unusedVariables false
set_option maxHeartbeats 1000000 in
theorem rd_same (W H : Int) (a b : Option Addr) (c1 c2 m : Nat) (xs : List Int) (w : World) (hm : xs.length = m) (hm2 : m ≤ 9223372036854775807) (hx : Row encI 1 w w.heap.size a xs) (hy : Row encI 1 w w.heap.size b xs) :
    Calls Tryd.prog 6 #[.agg #[.int .i64 W, .int .i64 H, .slice a m c1], .agg #[.int .i64 W, .int .i64 H, .slice b m c2]] w fun e w' => e = .returned (.bool true) ∧ Below w.heap.size w w' := by
  have hE := hide (fun (w' : World) (hb : Below w.heap.size w w') => eqI a b c1 c2 m m xs xs w' w'.heap.size w'.heap.size hm hm ((hx.below hb (Nat.le_refl _)).mono hb.size) ((hy.below hb (Nat.le_refl _)).mono hb.size) hm2 hm2 true (by simp))
  have q1 : (W == W) = true := by simp
  have q2 : (H == H) = true := by simp
  clear hx hy
  replace hm := hide hm
  go_enter Tryd.func6, Tryd.ntmps6
  go_wp2_with fail
  refine (hE.out _ (by repeat (first | with_reducible exact Below.refl _ _ | with_reducible assumption | with_reducible refine up_drewN ?_ | with_reducible refine up_drew ?_ | (with_reducible refine up_alloc ?_ ?_; rotate_left; (first | omega | (simp <;> omega) | simp)) | (with_reducible refine up_set ?_ ?_; rotate_left; (first | omega | (simp <;> omega) | simp)) | (with_reducible refine Below.trans ?_ (Below.mono (by with_reducible assumption) ?_); rotate_left; (first | omega | (simp <;> omega) | simp))))).mono ?_
  rintro e w1 ⟨rfl, k1, rfl⟩
  go_wp2
  go_ret
  exact ⟨rfl, (by repeat (first | with_reducible exact Below.refl _ _ | with_reducible assumption | with_reducible refine up_drewN ?_ | with_reducible refine up_drew ?_ | (with_reducible refine up_alloc ?_ ?_; rotate_left; (first | omega | (simp <;> omega) | simp)) | (with_reducible refine up_set ?_ ?_; rotate_left; (first | omega | (simp <;> omega) | simp)) | (with_reducible refine Below.trans ?_ (Below.mono (by with_reducible assumption) ?_); rotate_left; (first | omega | (simp <;> omega) | simp))))⟩
set_option maxRecDepth 100000 in
set_option maxHeartbeats 2000000 in
theorem walk_MapsReads (s : ByteArray) (hs : s.size ≤ 1048576) (m0 : Int) (w : World) (hz0 : 0 < w.heap.size) (hm0 : w.cell? ⟨0, 0, none⟩ = some (.int .i64 m0)) :
    Calls Tryd.prog 3 #[.string s] w fun e w' => e = .returned (.bool true) ∧ Below w.heap.size w w' := by
  obtain ⟨l, hl⟩ : ∃ l, l = s.data.toList := ⟨_, rfl⟩
  have hln : l.length = s.size := by rw [hl]; exact Array.length_toList
  have hRd := hide (fun (w' : World) => read_any s l hl.symm hs w')
  have hRm := hide (fun (w' : World) (hb : Below w.heap.size w w') => rread_any s l hl.symm hs m0 w' (Nat.lt_of_lt_of_le hz0 hb.size) (cu_below hb hm0 hz0))
  have hSg := hide (fun (W H : Int) (a b : Option Addr) (c1 c2 m : Nat) (w : World) (hm : m = (cellsL l).length) hx hy => rd_same W H a b c1 c2 m (cellsL l) w hm.symm (by have := cellsL_len l; omega) hx hy)
  have hS0 := hide (fun (w : World) => rd_same 0 0 none none 0 0 0 [] w rfl (by omega) (Row.nil _ _ _ _ _) (Row.nil _ _ _ _ _))
  replace hl := hide hl
  replace hln := hide hln
  clear hs hm0
  go_enter Tryd.func3, Tryd.ntmps3
  go_wp2_with fail
  refine (hRd.out _).mono ?_
  rintro e w1 ⟨hb1, (⟨hno, rfl⟩ | ⟨W, a, m, c, hA, rfl, hm, hR⟩)⟩
  · go_wp2_with fail
    refine (hRm.out _ (up_alloc hb1 hb1.size)).mono ?_
    rintro e w2 ⟨hb2, (⟨hno2, rfl⟩ | ⟨W, a, m, c, hA, rfl, hm, hR⟩)⟩
    · have hB2 := hide ((up_alloc hb1 hb1.size : Below w.heap.size w (w1.alloc (.cells #[.int .i64 0, .int .i64 0, .slice none 0 0] 24))).trans (hb2.mono (by have := hb1.size; simp; omega)))
      have g0 := cu_below hb2 (show (w1.alloc (.cells #[.int .i64 0, .int .i64 0, .slice none 0 0] 24)).cell? ⟨w1.heap.size, 0, none⟩ = some (.int .i64 0) by simp [go_sem]) (by simp)
      have g1 := cu_below hb2 (show (w1.alloc (.cells #[.int .i64 0, .int .i64 0, .slice none 0 0] 24)).cell? ⟨w1.heap.size, 1, none⟩ = some (.int .i64 0) by simp [go_sem]) (by simp)
      have g2 := cu_below hb2 (show (w1.alloc (.cells #[.int .i64 0, .int .i64 0, .slice none 0 0] 24)).cell? ⟨w1.heap.size, 2, none⟩ = some (.slice none 0 0) by simp [go_sem]) (by simp)
      have zg : w1.heap.size < w2.heap.size := cell_lt g0
      replace hno := hide hno
      replace hno2 := hide hno2
      clear hb1 hb2
      go_wp2_with fail
      refine (hS0.out _).mono ?_
      rintro e w3 ⟨rfl, hb3⟩
      have hB3 := hide ((up_alloc hB2.out hB2.out.size : Below w.heap.size w (w2.alloc (.cells #[.int .i64 0, .int .i64 0, .slice none 0 0] 24))).trans (hb3.mono (by have := hB2.out.size; simp; omega)))
      clear hb3
      go_wp2
      go_ret
      exact ⟨rfl, hB3.out⟩
    · exact absurd hA (hno W)
  · have hH := hide (rfl : ((l.length / (W + 1) : Nat) : Int) = ((l.length / (W + 1) : Nat) : Int))
    obtain ⟨H, hHe⟩ : ∃ H : Nat, H = l.length / (W + 1) := ⟨_, rfl⟩
    rw [← hHe]
    obtain ⟨G1, hG1⟩ : ∃ G1, G1 = w1.alloc (.cells #[.int .i64 (W : Int), .int .i64 (H : Int), .slice a m c] 24) := ⟨_, rfl⟩
    have hb11 : Below w1.heap.size w1 G1 := by rw [hG1]; exact up_alloc (Below.refl _ _) (Nat.le_refl _)
    have e0 : G1.cell? ⟨w1.heap.size, 0, none⟩ = some (.int .i64 (W : Int)) := by rw [hG1]; simp [go_sem]
    have e1 : G1.cell? ⟨w1.heap.size, 1, none⟩ = some (.int .i64 (H : Int)) := by rw [hG1]; simp [go_sem]
    have e2 : G1.cell? ⟨w1.heap.size, 2, none⟩ = some (.slice a m c) := by rw [hG1]; simp [go_sem]
    have hB1 := hide (hb1.trans (hb11.mono hb1.size))
    have hR1 := hide ((hR.below hb11 (Nat.le_refl _)).mono hb11.size)
    have hA' := hide hA
    replace hm := hide hm
    replace hHe := hide hHe
    clear hb1 hR hA hH
    go_wp2_with fail
    simp only [← hG1]
    replace hG1 := hide hG1
    refine (hRm.out _ hB1.out).mono ?_
    rintro e w2 ⟨hb2, (⟨hno2, rfl⟩ | ⟨W2, a2, m2, c2, hA2, rfl, hm2, hR2⟩)⟩
    · exact absurd hA'.out (hno2 W)
    · have hWW : W2 = W := by have := hA2.ix; have := hA'.out.ix; omega
      subst hWW
      rw [← hHe.out]
      have hmm : m2 = m := by rw [hm2, ← hm.out]
      subst hmm
      have g0 := cu_below hb2 e0 (cell_lt e0)
      have g1 := cu_below hb2 e1 (cell_lt e1)
      have g2 := cu_below hb2 e2 (cell_lt e2)
      have zg : w1.heap.size < w2.heap.size := cell_lt g0
      have hB2 := hide (hB1.out.trans (hb2.mono hB1.out.size))
      have hRa := (hR1.out.below hb2 (Nat.le_refl _)).mono hb2.size
      have hS := hide (fun (w' : World) (hb : Below w2.heap.size w2 w') => hSg.out (W2 : Int) (H : Int) a a2 c c2 m2 w' hm2 ((hRa.below hb (Nat.le_refl _)).mono hb.size) ((hR2.below hb (Nat.le_refl _)).mono hb.size))
      replace hm2 := hide hm2
      clear hb2 hRa hR2 hA2 e0 e1 e2
      go_wp2_with fail
      refine (hS.out _ (up_alloc (Below.refl _ _) (Nat.le_refl _))).mono ?_
      rintro e w3 ⟨rfl, hb3⟩
      have hB3 := hide ((up_alloc hB2.out hB2.out.size : Below w.heap.size w (w2.alloc (.cells #[.int .i64 (W2 : Int), .int .i64 (H : Int), .slice a2 m2 c2] 24))).trans (hb3.mono (by have := hB2.out.size; simp; omega)))
      clear hb3
      go_wp2
      go_ret
      exact ⟨rfl, hB3.out⟩
end Go.Proofs.YtccailcjclbhlaaDoor
