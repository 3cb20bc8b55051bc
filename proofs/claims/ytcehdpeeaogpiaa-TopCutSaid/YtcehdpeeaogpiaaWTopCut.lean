/-
  The walk of felltop.TopCut: it returns true. Conditions: the arguments read as data.
-/
import Derived.Test.YtcehdpeeaogpiaaTopCW
import Derived.Test.YtcehdpeeaogpiaaOpen
namespace Go.Proofs.Ytcehdpeeaogpiaa
open Go.RowKit
set_option linter.unusedSimpArgs false
set_option linter.unusedVariables false
set_option maxRecDepth 100000 in
set_option maxHeartbeats 8000000 in
theorem walk_TopCut (x0 : Int) (a0 : Option Addr) (cap0 : Nat) (es0 : List Ed) (x1 : Int) (x2 : Int) (w : World) (b0 : Bd x0) (l0 : es0.length ≤ cap0) (m0 : cap0 ≤ maxLen) (r0 : Row encE 3 w w.heap.size a0 es0) (be0 : ∀ x ∈ es0, BdE x) (b1 : Bd x1) (b2 : Bd x2) :
    Calls Try.prog 3 #[.agg #[.int .i64 x0, .slice a0 es0.length cap0], .int .i64 x1, .int .i64 x2] w fun e w' => e = .returned (.bool true) ∧ Below w.heap.size w w' := by
  have hl : es0.length ≤ 9223372036854775807 := by unfold maxLen at m0; omega
  replace r0 := hide r0
  replace be0 := hide be0
  have hBg := hide begun_any
  by_cases h0 : flookErr x0 es0 x1 x2 = 0
  · obtain ⟨n, s, t, rfl, rfl, rfl, a1, a2, a3, a4, a5, a6, a7, a8⟩ := flook_ok h0
    have hWd := hide (fun w B hB hE => fwide_tab n a0 cap0 es0 w B hB hE hl (net_mk a1 a2 a3 a4))
    have hMx := hide (fun w B hB hE => fmax_ok n s t a0 cap0 es0 w B hB hE h0)
    have hpl := hide (fun fl sum hf hn => top_cut (n := n) (s := s) (t := t) (es := es0) (fl := fl) (sum := sum) a2 a4 a5 a6 a7 a8 hf hn)
    have hW1 := hide (fun (wd : Int) (m : Nat) (a : Option Addr) (cap : Nat) (w : World) (B : Nat) (hB : B ≤ w.heap.size) (hE : Row encE 3 w B a (wideE wd es0)) (hm : (wideE wd es0).length = m) (hd : distF n (wideE wd es0) s t < FAR) => way_yes n s t m a cap (wideE wd es0) w B hB hE hm (look_mk a1 a2 (by have := wideE_len wd es0; omega) (right_sub a4 (fun e he => wideE_mem he)) (fun e he => a5 e (wideE_mem he)) a6 a7) hd)
    have hW2 := hide (fun (wd : Int) (a : Option Addr) (cap : Nat) (w : World) (B : Nat) (hB : B ≤ w.heap.size) (hE : Row encE 3 w B a (widerE wd es0)) (hd : distF n (widerE wd es0) s t = FAR) => way_none n a cap (widerE wd es0) s t w B hB hE (look_mk a1 a2 (by have := widerE_len wd es0; omega) (right_sub a4 (fun e he => widerE_mem he)) (fun e he => a5 e (widerE_mem he)) a6 a7) hd)
    have is : (0 : Int) ≤ (s : Int) ∧ (s : Int) < (n : Int) := by omega
    have it : (0 : Int) ≤ (t : Int) ∧ (t : Int) < (n : Int) := by omega
    replace a4 := hide a4
    replace a5 := hide a5
    clear h0
    go_enter Try.func3, Try.ntmps3
    go_wp2_with fail
    refine (hWd.out _ w.heap.size (by simp) (r0.out.below ((by repeat (first | with_reducible exact Below.refl _ _ | with_reducible assumption | with_reducible refine up_drewN ?_ | with_reducible refine up_drew ?_ | (with_reducible refine up_alloc ?_ ?_; rotate_left; (first | omega | (simp <;> omega) | simp)) | (with_reducible refine up_set ?_ ?_; rotate_left; (first | omega | (simp <;> omega) | simp)) | (with_reducible refine Below.trans ?_ (Below.mono (by with_reducible assumption) ?_); rotate_left; (first | omega | (simp <;> omega) | simp)))) : Below w.heap.size w _) (Nat.le_refl _))).mono ?_
    rintro e w1 ⟨g, rfl, hb1, htab⟩
    have k0 : w1.cell? ⟨w.heap.size, 0, none⟩ = some (.int .i64 (n : Int)) := cu_below hb1 (by simp [go_sem]) (by simp)
    have k1 : w1.cell? ⟨w.heap.size, 1, none⟩ = some (.slice a0 es0.length cap0) := cu_below hb1 (by simp [go_sem]) (by simp)
    have hz1 : w.heap.size < w1.heap.size := cell_lt k0
    have hbw1 := hide (show Below w.heap.size w w1 from (by repeat (first | with_reducible exact Below.refl _ _ | with_reducible assumption | with_reducible refine up_drewN ?_ | with_reducible refine up_drew ?_ | (with_reducible refine up_alloc ?_ ?_; rotate_left; (first | omega | (simp <;> omega) | simp)) | (with_reducible refine up_set ?_ ?_; rotate_left; (first | omega | (simp <;> omega) | simp)) | (with_reducible refine Below.trans ?_ (Below.mono (by with_reducible assumption) ?_); rotate_left; (first | omega | (simp <;> omega) | simp)))))
    obtain ⟨ga, ca, e1, hga, e2⟩ := htab s t a6 a7
    have hg1 := cell_lt e1
    simp only at hg1
    clear htab hb1 hWd
    go_wp2_with fail
    refine (hMx.out _ w.heap.size (by omega) (r0.out.below hbw1.out (Nat.le_refl _))).mono ?_
    rintro e w2 ⟨sum, fl, gf, rfl, hf, hnl, _, hb2⟩
    have k0 := cu_below hb2 k0 hz1
    have k1 := cu_below hb2 k1 hz1
    have e1 := cu_below hb2 e1 hg1
    have e2 := cu_below hb2 e2 hga
    have hbw2 := hide (hbw1.out.trans (hb2.mono (by omega)))
    have hz2 : w.heap.size < w2.heap.size := cell_lt k0
    have hg2 : g < w2.heap.size := cell_lt e1
    have hga2 : ga < w2.heap.size := cell_lt e2
    have hsay := hpl.out fl sum hf hnl
    obtain ⟨wd, hwd⟩ : ∃ x, x = wide n (nes es0) s t := ⟨_, rfl⟩
    rw [← hwd] at hsay e2
    replace hwd := hide hwd
    replace hsay := hide hsay
    clear hb2 hf hnl hpl hMx hbw1
    go_wp2_with fail
    refine (hBg.out _).mono ?_
    rintro e w3 ⟨rfl, hb3⟩
    have k0 := cu_below hb3 k0 hz2
    have k1 := cu_below hb3 k1 hz2
    have e1 := cu_below hb3 e1 hg2
    have e2 := cu_below hb3 e2 hga2
    have hbw3 := hide (hbw2.out.trans (hb3.mono (by omega)))
    have hz3 : w.heap.size < w3.heap.size := cell_lt k0
    have hg3 : g < w3.heap.size := cell_lt e1
    have hga3 : ga < w3.heap.size := cell_lt e2
    clear hb3 hbw2
    rcases hsay.out with ⟨hw1, rfl⟩ | ⟨hne, lo, hi, hle, hd1, hd2⟩
    · subst hw1
      unfold FAR at e2
      clear hsay hW1 hW2
      go_wp2
      go_ret
      exact ⟨rfl, hbw3.out.trans (((Below.refl _ _).alloc (Nat.le_refl _) _).mono (by omega))⟩
    · have q1 : (wd == -1099511627776) = false := by simpa [FAR] using hne
      have q2 : ¬ (sum < wd) := by omega
      replace hd1 := hide hd1
      replace hd2 := hide hd2
      clear hsay hne
      unfold FAR at lo
      go_wp2
      obtain ⟨w4, hw4⟩ : ∃ w4, w4 = (w3.alloc (.cells #[.int .i64 wd] 3)).alloc (.cells #[.int .i64 (n : Int), .slice none 0 0] 24) := ⟨_, rfl⟩
      have hb4 : Below w3.heap.size w3 w4 := by rw [hw4]; exact (by repeat (first | with_reducible exact Below.refl _ _ | with_reducible assumption | with_reducible refine up_drewN ?_ | with_reducible refine up_drew ?_ | (with_reducible refine up_alloc ?_ ?_; rotate_left; (first | omega | (simp <;> omega) | simp)) | (with_reducible refine up_set ?_ ?_; rotate_left; (first | omega | (simp <;> omega) | simp)) | (with_reducible refine Below.trans ?_ (Below.mono (by with_reducible assumption) ?_); rotate_left; (first | omega | (simp <;> omega) | simp))))
      have hs4 : w4.heap.size = w3.heap.size + 1 + 1 := by rw [hw4]; simp
      obtain ⟨bw, hbw⟩ : ∃ b, b = w3.heap.size := ⟨_, rfl⟩
      have N1 := cu_below hb4 k1 hz3
      have V0 : w4.cell? ⟨bw, 0, none⟩ = some (.int .i64 wd) := by rw [hw4, hbw]; simp [go_sem]
      have hG0 : Hid (GnC 34 (bw + 1) (n : Int) w4 (.slice none 0 0) (wideE wd (es0.take 0)) w4) := hide (by
        refine ⟨by rw [hw4, hbw]; simp [go_sem], by rw [hw4, hbw]; simp [go_sem], fun o => by rw [hw4, hbw]; simp [go_sem], ?_, Keep.refl _ _, by omega⟩
        rw [List.take_zero]
        exact Own.nil _ _)
      simp only [← hw4]
      simp only [← hbw]
      have hbw4 := hide (hbw3.out.trans (hb4.mono (by omega)))
      have hr4 := hide (r0.out.below hbw4.out (Nat.le_refl _))
      have hml0 := hide (show 0 = (wideE wd (es0.take 0)).length by simp [wideE])
      have hbz : bw + 1 < w4.heap.size := by omega
      have hwb : w.heap.size < bw := by omega
      replace hw4 := hide hw4
      replace hbw := hide hbw
      clear hb4 k0 k1 e1 e2 hs4
      go_loopw [59] (fun i wr => ∃ (j m : Nat) (y1 : Option Addr) (c1 : Nat), j ≤ es0.length ∧ i = .int .i64 j ∧ Hid (m = (wideE wd (es0.take j)).length) ∧ Hid (GnC 34 (bw + 1) (n : Int) w4 (.slice y1 m c1) (wideE wd (es0.take j)) wr)) (fun i _ => es0.length - (intOf i).toNat)
      case atStart => exact ⟨0, 0, none, 0, Nat.zero_le _, rfl, hml0, hG0⟩
      case round =>
        clear hG0 hml0
        obtain ⟨j, m, y1, c1, hj, rfl, hm, hG⟩ := hrel
        have hzr := hG.out.kp.size
        have hpr : bw + 1 < wr.heap.size := by omega
        have hbr0 : bw < wr.heap.size := by omega
        have g1 := hG.out.c1
        have gf1 := hG.out.f0 1
        have v0 := hG.out.kp.cu V0 (by simp)
        have hap := hide (show (Value.slice y1 m c1).ownBlock ≠ some (bw + 1) from fun e => by have := (hG.out.o1.block_lt _ e).1; omega)
        have hmb : m ≤ 600 := by
          have h1 := hm.out
          have h2 := wideE_len wd (es0.take j)
          rw [List.length_take] at h2
          omega
        by_cases hlt : j < es0.length
        · obtain ⟨b, o, rfl, hbB, q0, q1', q2'⟩ := hr4.out.ed j hlt
          have q0 := hG.out.kp.cu q0 (by simp; omega)
          have q1' := hG.out.kp.cu q1' (by simp; omega)
          have q2' := hG.out.kp.cu q2' (by simp; omega)
          have hbr : b < wr.heap.size := by omega
          have htk := wideE_take (w := wd) hlt
          obtain ⟨ed, hed⟩ : ∃ ed, ed = es0[j] := ⟨_, rfl⟩
          rw [← hed] at q0 q1' q2' htk
          replace hed := hide hed
          have ij : (0 : Int) ≤ (j : Int) ∧ (j : Int) < (es0.length : Int) := by omega
          by_cases hge : wd ≤ ed.c
          · rw [if_pos hge] at htk
            replace htk := hide htk
            go_wp2_with (at_builtin; (refine wpList_push (e := 34) (enc := encE) (xs := (wideE wd (es0.take j))) (v := .slice y1 (m) c1) (base := w4.heap.size) rfl (.tmp 68) (.tmp 70) 22 rfl _ 24 Try.underlying22 info_ed rfl ?d19 lenE oneE (m) ?d29 ?d39 ?d49 ⟨wr.heap.size + 1, 0, none⟩ 1 ed ?d59 ?d69 ?d79 ?d89 ?d99 ?_); (case d19 => omega); (case d29 => exact hm.out.symm); (case d39 => rfl); (case d49 => exact ((hG.out.o1.alloc _).alloc _)); (case d59 => rfl); (case d69 => exact newE _ _ _ _ (by simp)); (case d79 => omega); (case d89 => unfold maxLen; omega); (case d99 => first | omega | (simp; done) | (simp; omega)); intro g9 c9 w9 own9 hb9 hgr9 hg9 hgl9; have z14 := hgr9.cell (a := ⟨bw + 1, 1, none⟩) (v := .slice y1 m c1) (cu_alloc (cu_alloc g1)) (fun e => hap.out e.symm); have z24 := (hgr9.frozen_far ⟨bw + 1, 1, none⟩ (by simp; omega) (fun e => hap.out e.symm)).trans (fu_alloc (fu_alloc gf1)); have hp4 : bw + 1 < w9.heap.size := cell_lt z14; replace own9 := hide own9; replace hb9 := hide hb9; replace hgr9 := hide hgr9)
            have hG9 := hide (hG.out.grew (((Keep.refl _ _).alloc _).alloc _) own9.out hgr9.out)
            go_roundw
            case rel => exact ⟨j + 1, m + 1, _, c9, by omega, by go_num, hide (by rw [htk.out, List.length_append, hm.out]; rfl), hide (by rw [htk.out]; exact hG9.out)⟩
            case measure => simp [intOf]; omega
          · rw [if_neg hge] at htk
            replace htk := hide htk
            have hG9 := hide (hG.out.stays ((Below.refl _ _).alloc (Nat.le_refl _) (.cells #[.int .i64 ed.u, .int .i64 ed.v, .int .i64 ed.c] 34)))
            go_wp2
            go_roundw
            case rel => exact ⟨j + 1, m, y1, c1, by omega, by go_num, hide (by rw [htk.out]; exact hm.out), hide (by rw [htk.out]; exact hG9.out)⟩
            case measure => simp [intOf]; omega
        · obtain rfl : es0.length = j := by omega
          have hG2 := hG.out
          have hm2 := hm.out
          rw [List.take_length] at hG2 hm2
          have c0 := hG2.c0
          have f0 := hG2.f0
          have o1 := hide hG2.o1
          have hkp := hide hG2.kp
          have hrw := hide hG2.o1.rowE
          have hbr := hide (hbw4.out.trans (hG2.kp.toBelow (B := w.heap.size) (fun k e => by omega) (by omega)))
          replace hm2 := hide hm2
          clear hG hG2 N1 V0 hm gf1
          go_wp2_with fail
          refine (hW1.out wd m y1 c1 _ wr.heap.size (by simp) (hrw.out.below (by exact (by repeat (first | with_reducible exact Below.refl _ _ | with_reducible assumption | with_reducible refine up_drewN ?_ | with_reducible refine up_drew ?_ | (with_reducible refine up_alloc ?_ ?_; rotate_left; (first | omega | (simp <;> omega) | simp)) | (with_reducible refine up_set ?_ ?_; rotate_left; (first | omega | (simp <;> omega) | simp)) | (with_reducible refine Below.trans ?_ (Below.mono (by with_reducible assumption) ?_); rotate_left; (first | omega | (simp <;> omega) | simp))))) (Nat.le_refl _)) hm2.out.symm hd1.out).mono ?_
          rintro e w5 ⟨av, kk, cc, cost, rfl, hb5⟩
          have hb5' := hide (show Below wr.heap.size wr w5 from (by repeat (first | with_reducible exact Below.refl _ _ | with_reducible assumption | with_reducible refine up_drewN ?_ | with_reducible refine up_drew ?_ | (with_reducible refine up_alloc ?_ ?_; rotate_left; (first | omega | (simp <;> omega) | simp)) | (with_reducible refine up_set ?_ ?_; rotate_left; (first | omega | (simp <;> omega) | simp)) | (with_reducible refine Below.trans ?_ (Below.mono (by with_reducible assumption) ?_); rotate_left; (first | omega | (simp <;> omega) | simp)))))
          have c0 := cu_below hb5'.out c0 hpr
          have g1 := cu_below hb5'.out g1 hpr
          have v0 := cu_below hb5'.out v0 hbr0
          have f1 := fu_below hb5'.out (f0 1) hpr
          have o5 := hide (o1.out.stays hb5'.out)
          have hbw5 := hide (hbr.out.trans (hb5'.out.mono (by omega)))
          have hp5 : bw + 1 < w5.heap.size := cell_lt c0
          have hv5 : bw < w5.heap.size := cell_lt v0
          clear hb5 hrw o1 hW1 hbr f0
          obtain ⟨w6, hw6⟩ : ∃ w6, w6 = w5.alloc (.cells #[.slice av kk cc, .int .i64 cost] 36) := ⟨_, rfl⟩
          have hb6 : Below w5.heap.size w5 w6 := by rw [hw6]; exact (Below.refl _ _).alloc (Nat.le_refl _) _
          have c0 := cu_below hb6 c0 hp5
          have g1 := cu_below hb6 g1 hp5
          have v0 := cu_below hb6 v0 hv5
          have f1 := fu_below hb6 f1 hp5
          have o6 := hide (o5.out.stays hb6)
          have hbw6 := hide (hbw5.out.trans (hb6.mono (by omega)))
          have hp6 : bw + 1 < w6.heap.size := cell_lt c0
          have hv6 : bw < w6.heap.size := cell_lt v0
          have hDl := hide (delc_any wd bw y1 c1 m w4.heap.size (wideE wd es0) hm2.out.symm w6 o6.out v0 (by omega) (by omega))
          have hob := hide (fun j hj => (o6.out.block_lt j hj))
          clear hb6 hbw5 o5 hb5'
          go_wp2_with fail
          simp only [← hw6]
          replace hw6 := hide hw6
          refine hDl.out.mono ?_
          rintro e w7 ⟨ax, cx, rfl, hrx, hkx, hox⟩
          rw [notC_wider] at hrx
          simp only [notC_wider] at hox
          have hneb : (Value.slice y1 m c1).ownBlock ≠ some (bw + 1) := fun e => by have := (hob.out _ e).1; omega
          have c0 := hkx.cu c0 hneb
          have g1 := hkx.cu g1 hneb
          have f1 := (hkx.frozen (p := ⟨bw + 1, 1, none⟩) (by simp; omega) hneb).trans f1
          have hp7 : bw + 1 < w7.heap.size := cell_lt c0
          have hbw7 := hide (hbw6.out.trans (hkx.toBelow (B := w.heap.size) (fun k e => by have := (hob.out k e).1; omega) (by omega)))
          have hr8 := hide (row_off hrx ⟨bw + 1, 1, none⟩ (.slice ax (widerE wd es0).length cx) (fun b hb e => by
            have h1 := (hob.out b (hox b hb)).1
            simp only at e
            omega))
          have hW3 := hide (hW2.out wd ax cx (w7.setCell ⟨bw + 1, 1, none⟩ (.slice ax (widerE wd es0).length cx)) w7.heap.size (by simp) hr8.out hd2.out)
          unfold WayBack at hW3
          have hnw := notC_wider wd es0
          clear hDl hkx hrx hox o6 hbw6
          simp only [hnw]
          replace hnw := hide hnw
          go_wp2_with fail
          refine hW3.out.mono ?_
          rintro e w8 ⟨ay, cy, rfl, _, hb8⟩
          have hbw8 := hide ((up_set (p := ⟨bw + 1, 1, none⟩) (u := .slice ax (widerE wd es0).length cx) hbw7.out (by simp; omega)).trans (hb8.mono (by simp; have := hbw7.out.size; omega)))
          clear hb8
          go_wp2
          go_ret
          exact ⟨rfl, hbw8.out⟩
  · have hWd := hide (fun w B hB hE => fwide_err x0 a0 cap0 es0 w B hB hE hl)
    have hMx := hide (fun w B hB hE => fmax_bad x0 a0 cap0 es0 x1 x2 w B hB hE hl h0)
    obtain ⟨fe, hfe⟩ : ∃ f, f = flookErr x0 es0 x1 x2 := ⟨_, rfl⟩
    rw [← hfe] at h0 hMx
    have q1 : (fe != 0) = true := by simpa using h0
    replace hfe := hide hfe
    clear h0
    go_enter Try.func3, Try.ntmps3
    go_wp2_with fail
    refine (hWd.out _ w.heap.size (by simp) (r0.out.below ((by repeat (first | with_reducible exact Below.refl _ _ | with_reducible assumption | with_reducible refine up_drewN ?_ | with_reducible refine up_drew ?_ | (with_reducible refine up_alloc ?_ ?_; rotate_left; (first | omega | (simp <;> omega) | simp)) | (with_reducible refine up_set ?_ ?_; rotate_left; (first | omega | (simp <;> omega) | simp)) | (with_reducible refine Below.trans ?_ (Below.mono (by with_reducible assumption) ?_); rotate_left; (first | omega | (simp <;> omega) | simp)))) : Below w.heap.size w _) (Nat.le_refl _))).mono ?_
    rintro e w1 ⟨v, f, rfl, hb1⟩
    have k0 : w1.cell? ⟨w.heap.size, 0, none⟩ = some (.int .i64 x0) := cu_below hb1 (by simp [go_sem]) (by simp)
    have k1 : w1.cell? ⟨w.heap.size, 1, none⟩ = some (.slice a0 es0.length cap0) := cu_below hb1 (by simp [go_sem]) (by simp)
    have hz1 : w.heap.size < w1.heap.size := cell_lt k0
    have hbw1 := hide (show Below w.heap.size w w1 from (by repeat (first | with_reducible exact Below.refl _ _ | with_reducible assumption | with_reducible refine up_drewN ?_ | with_reducible refine up_drew ?_ | (with_reducible refine up_alloc ?_ ?_; rotate_left; (first | omega | (simp <;> omega) | simp)) | (with_reducible refine up_set ?_ ?_; rotate_left; (first | omega | (simp <;> omega) | simp)) | (with_reducible refine Below.trans ?_ (Below.mono (by with_reducible assumption) ?_); rotate_left; (first | omega | (simp <;> omega) | simp)))))
    clear hb1 hWd
    go_wp2_with fail
    refine (hMx.out _ w.heap.size (by omega) (r0.out.below hbw1.out (Nat.le_refl _))).mono ?_
    rintro e w2 ⟨rfl, hb2⟩
    have hbw2 := hide (hbw1.out.trans (hb2.mono (by omega)))
    have hz2 : w.heap.size ≤ w2.heap.size := by have := hb2.size; omega
    clear hb2 hMx hbw1 k0 k1
    go_wp2_with fail
    refine (hBg.out _).mono ?_
    rintro e w3 ⟨rfl, hb3⟩
    have hbw3 := hide (hbw2.out.trans (hb3.mono hz2))
    have hz3 : w.heap.size ≤ w3.heap.size := by have := hb3.size; omega
    clear hb3
    by_cases hf : f = 0
    · have q3 : (f != 0) = false := by simp [hf]
      clear hf
      go_wp2_with fail
      refine (hBg.out _).mono ?_
      rintro e w6 ⟨rfl, hb6⟩
      have hb6' := hide (hbw3.out.trans (hb6.mono hz3))
      go_wp2
      go_ret
      exact ⟨rfl, hb6'.out⟩
    · have q3 : (f != 0) = true := by simp [hf]
      clear hf
      go_wp2_with fail
      refine (hBg.out _).mono ?_
      rintro e w6 ⟨rfl, hb6⟩
      have hb6' := hide (hbw3.out.trans (hb6.mono hz3))
      go_wp2
      go_ret
      exact ⟨rfl, hb6'.out⟩
end Go.Proofs.Ytcehdpeeaogpiaa
