/-
  What the reference's WalkCost returns. Conditions: that the slices read.
-/
import Derived.Test.YtcehdpeeaogpiaaWCost
namespace Go.Proofs.Ytcehdpeeaogpiaa
open Go.RowKit
set_option linter.unusedSimpArgs false
set_option linter.unusedVariables false
set_option maxRecDepth 100000 in
set_option maxHeartbeats 1000000 in
theorem rwcost_bad (N : Int) (a : Option Addr) (cap : Nat) (es : List Ed) (pa : Option Addr) (pc : Nat) (p : List Int) (w : World) (B : Nat) (hB : B ≤ w.heap.size) (hE : Row encE 3 w B a es) (hl : es.length ≤ 9223372036854775807) (hlp : p.length ≤ 9223372036854775807) (h0 : netErr N es ≠ 0 ∨ p.length = 0 ∨ p.length > 100) :
    Calls Try.prog 54 #[.agg #[.int .i64 N, .slice a es.length cap], .slice pa p.length pc] w (PairBack (wcost N es p) w) := by
  have hC := hide (fun w B hB hE => rnet_any N a cap es w B hB hE hl)
  replace hE := hide hE
  by_cases h1 : netErr N es = 0
  · have hC2 := hide (show ∀ w B, _ from fun w B hB hE => by have := hC.out w B hB hE; rwa [h1] at this)
    clear hC
    by_cases h2 : p.length = 0
    · have hr := hide (show wcost N es p = (0, 1) by unfold wcost; rw [if_neg (by simpa using h1), if_pos h2])
      have q1 : ((p.length : Int) == 0) = true := by simp [h2]
      replace h2 := hide h2
      clear h1 h0
      go_enter Try.func54, Try.ntmps54
      go_wp2_with fail
      refine (hC2.out _ B (by simp <;> omega) (hE.out.below ((by repeat (first | with_reducible exact Below.refl _ _ | with_reducible assumption | with_reducible refine up_drewN ?_ | with_reducible refine up_drew ?_ | (with_reducible refine up_alloc ?_ ?_; rotate_left; (first | omega | (simp <;> omega) | simp)) | (with_reducible refine up_set ?_ ?_; rotate_left; (first | omega | (simp <;> omega) | simp)) | (with_reducible refine Below.trans ?_ (Below.mono (by with_reducible assumption) ?_); rotate_left; (first | omega | (simp <;> omega) | simp)))) : Below w.heap.size w _) hB)).mono ?_
      rintro e w1 ⟨rfl, hb1⟩
      go_wp2
      go_ret2
      exact ⟨by rw [hr.out]; rfl, (by repeat (first | with_reducible exact Below.refl _ _ | with_reducible assumption | with_reducible refine up_drewN ?_ | with_reducible refine up_drew ?_ | (with_reducible refine up_alloc ?_ ?_; rotate_left; (first | omega | (simp <;> omega) | simp)) | (with_reducible refine up_set ?_ ?_; rotate_left; (first | omega | (simp <;> omega) | simp)) | (with_reducible refine Below.trans ?_ (Below.mono (by with_reducible assumption) ?_); rotate_left; (first | omega | (simp <;> omega) | simp))))⟩
    · have h3 : (100 : Int) < (p.length : Int) := by omega
      have hr := hide (show wcost N es p = (0, 2) by unfold wcost; rw [if_neg (by simpa using h1), if_neg h2, if_pos (by omega)])
      have q1 : ((p.length : Int) == 0) = false := by simp [h2]
      replace h2 := hide h2
      clear h1 h0
      go_enter Try.func54, Try.ntmps54
      go_wp2_with fail
      refine (hC2.out _ B (by simp <;> omega) (hE.out.below ((by repeat (first | with_reducible exact Below.refl _ _ | with_reducible assumption | with_reducible refine up_drewN ?_ | with_reducible refine up_drew ?_ | (with_reducible refine up_alloc ?_ ?_; rotate_left; (first | omega | (simp <;> omega) | simp)) | (with_reducible refine up_set ?_ ?_; rotate_left; (first | omega | (simp <;> omega) | simp)) | (with_reducible refine Below.trans ?_ (Below.mono (by with_reducible assumption) ?_); rotate_left; (first | omega | (simp <;> omega) | simp)))) : Below w.heap.size w _) hB)).mono ?_
      rintro e w1 ⟨rfl, hb1⟩
      go_wp2
      go_ret2
      exact ⟨by rw [hr.out]; rfl, (by repeat (first | with_reducible exact Below.refl _ _ | with_reducible assumption | with_reducible refine up_drewN ?_ | with_reducible refine up_drew ?_ | (with_reducible refine up_alloc ?_ ?_; rotate_left; (first | omega | (simp <;> omega) | simp)) | (with_reducible refine up_set ?_ ?_; rotate_left; (first | omega | (simp <;> omega) | simp)) | (with_reducible refine Below.trans ?_ (Below.mono (by with_reducible assumption) ?_); rotate_left; (first | omega | (simp <;> omega) | simp))))⟩
  · have hr := hide (show wcost N es p = (0, netErr N es) by unfold wcost; rw [if_pos h1])
    have q0 : (netErr N es != 0) = true := by simp [h1]
    clear h1 h0
    go_enter Try.func54, Try.ntmps54
    go_wp2_with fail
    refine (hC.out _ B (by simp <;> omega) (hE.out.below ((by repeat (first | with_reducible exact Below.refl _ _ | with_reducible assumption | with_reducible refine up_drewN ?_ | with_reducible refine up_drew ?_ | (with_reducible refine up_alloc ?_ ?_; rotate_left; (first | omega | (simp <;> omega) | simp)) | (with_reducible refine up_set ?_ ?_; rotate_left; (first | omega | (simp <;> omega) | simp)) | (with_reducible refine Below.trans ?_ (Below.mono (by with_reducible assumption) ?_); rotate_left; (first | omega | (simp <;> omega) | simp)))) : Below w.heap.size w _) hB)).mono ?_
    rintro e w1 ⟨rfl, hb1⟩
    go_wp2
    go_ret2
    exact ⟨by rw [hr.out]; rfl, (by repeat (first | with_reducible exact Below.refl _ _ | with_reducible assumption | with_reducible refine up_drewN ?_ | with_reducible refine up_drew ?_ | (with_reducible refine up_alloc ?_ ?_; rotate_left; (first | omega | (simp <;> omega) | simp)) | (with_reducible refine up_set ?_ ?_; rotate_left; (first | omega | (simp <;> omega) | simp)) | (with_reducible refine Below.trans ?_ (Below.mono (by with_reducible assumption) ?_); rotate_left; (first | omega | (simp <;> omega) | simp))))⟩
theorem any_bad {n : Nat} {p : List Int} (hp : 0 < p.length) : p.any (badAt (n : Int)) = true ↔ minL p < 0 ∨ (n : Int) ≤ maxL p := by
  have h1 := minL_le hp 0
  have h2 := maxL_ge hp ((n : Int) - 1)
  constructor
  · intro h
    obtain ⟨x, hx, hb⟩ := List.any_eq_true.1 h
    simp [badAt] at hb
    rcases hb with hb | hb
    · left
      rcases Int.lt_or_le (minL p) 0 with hh | hh
      · exact hh
      · have := h1.1 hh x hx; omega
    · right
      rcases Int.lt_or_le ((n : Int) - 1) (maxL p) with hh | hh
      · omega
      · have := h2.1 hh x hx; omega
  · intro h
    by_cases ha : p.any (badAt (n : Int)) = true
    · exact ha
    · exfalso
      rw [Bool.not_eq_true, List.any_eq_false] at ha
      have k1 := h1.2 (fun x hx => by have := ha x hx; simp [badAt] at this; omega)
      have k2 := h2.2 (fun x hx => by have := ha x hx; simp [badAt] at this; omega)
      omega
set_option maxRecDepth 100000 in
set_option maxHeartbeats 4000000 in
theorem rwcost_ok (n : Nat) (a : Option Addr) (cap : Nat) (es : List Ed) (pa : Option Addr) (pc : Nat) (p : List Int) (w : World) (B : Nat) (hB : B ≤ w.heap.size) (hE : Row encE 3 w B a es) (hP : Row encI 1 w B pa p) (hl : es.length ≤ 9223372036854775807) (h0 : netErr (n : Int) es = 0) (hp0 : 0 < p.length) (hp1 : p.length ≤ 100) :
    Calls Try.prog 54 #[.agg #[.int .i64 (n : Int), .slice a es.length cap], .slice pa p.length pc] w (PairBack (wcost (n : Int) es p) w) := by
  obtain ⟨n1, n2, n3, n4⟩ := netErr_ok h0
  have hC := hide (show ∀ w B, _ from fun w B hB hE => by have := rnet_any (n : Int) a cap es w B hB hE hl; rwa [h0] at this)
  have hcs := hide (show ∀ e ∈ es, -10000 ≤ e.c ∧ e.c ≤ 10000 from fun e he => ⟨(n4 e he).2.2.2.2.1, (n4 e he).2.2.2.2.2⟩)
  have hr0 : wcost (n : Int) es p = if p.any (badAt (n : Int)) then (0, 1) else wcRest es p 0 := by unfold wcost; rw [if_neg (by simpa using h0), if_neg (by omega), if_neg (by omega)]
  have hab := hide (any_bad (n := n) hp0)
  have q1 : ((p.length : Int) == 0) = false := by simp only [beq_eq_false_iff_ne, ne_eq]; omega
  obtain ⟨mn, hmn⟩ : ∃ x, x = minL p := ⟨_, rfl⟩
  obtain ⟨mx, hmx⟩ : ∃ x, x = maxL p := ⟨_, rfl⟩
  have hMin := hide (show ∀ w B, Row encI 1 w B pa p → Calls Try.prog 125 #[.slice pa p.length pc] w fun e w' => e = .returned (.int .i64 mn) ∧ ∃ n, w' = w.drewN n from fun w B h => by rw [hmn]; exact smin_any pa pc p w B h hp0 (by omega))
  have hMax := hide (show ∀ w B, Row encI 1 w B pa p → Calls Try.prog 126 #[.slice pa p.length pc] w fun e w' => e = .returned (.int .i64 mx) ∧ ∃ n, w' = w.drewN n from fun w B h => by rw [hmx]; exact smax_any pa pc p w B h hp0 (by omega))
  have hcase : (p.any (badAt (n : Int)) = true ∧ (mn < 0 ∨ (0 ≤ mn ∧ (n : Int) ≤ mx))) ∨ (p.any (badAt (n : Int)) = false ∧ 0 ≤ mn ∧ mx < n) := by
    have h5 := hab.out
    rw [← hmn, ← hmx] at h5
    by_cases h6 : p.any (badAt (n : Int)) = true
    · left; exact ⟨h6, by have := h5.1 h6; omega⟩
    · right
      have h7 : ¬ (mn < 0 ∨ (n : Int) ≤ mx) := fun h => h6 (h5.2 h)
      exact ⟨by simpa using h6, by omega, by omega⟩
  replace hr0 := hide hr0
  replace hE := hide hE
  replace hP := hide hP
  replace hmn := hide hmn
  replace hmx := hide hmx
  clear h0 n4
  go_enter Try.func54, Try.ntmps54
  go_wp2_with fail
  refine (hC.out _ B (by simp <;> omega) (hE.out.below ((by repeat (first | with_reducible exact Below.refl _ _ | with_reducible assumption | with_reducible refine up_drewN ?_ | with_reducible refine up_drew ?_ | (with_reducible refine up_alloc ?_ ?_; rotate_left; (first | omega | (simp <;> omega) | simp)) | (with_reducible refine up_set ?_ ?_; rotate_left; (first | omega | (simp <;> omega) | simp)) | (with_reducible refine Below.trans ?_ (Below.mono (by with_reducible assumption) ?_); rotate_left; (first | omega | (simp <;> omega) | simp)))) : Below w.heap.size w _) hB)).mono ?_
  rintro e w1 ⟨rfl, hb1⟩
  obtain ⟨hc1, hf1⟩ := bcell hb1
  have hz1 : w.heap.size < w1.heap.size := by have := hb1.size; simp at this; omega
  have hB1 := hide (show Below w.heap.size w w1 from (by repeat (first | with_reducible exact Below.refl _ _ | with_reducible assumption | with_reducible refine up_drewN ?_ | with_reducible refine up_drew ?_ | (with_reducible refine up_alloc ?_ ?_; rotate_left; (first | omega | (simp <;> omega) | simp)) | (with_reducible refine up_set ?_ ?_; rotate_left; (first | omega | (simp <;> omega) | simp)) | (with_reducible refine Below.trans ?_ (Below.mono (by with_reducible assumption) ?_); rotate_left; (first | omega | (simp <;> omega) | simp)))))
  have k0 : w1.cell? ⟨w.heap.size, 0, none⟩ = some (.int .i64 (n : Int)) := by simp [hc1, hz1, go_sem]
  have k1 : w1.cell? ⟨w.heap.size, 1, none⟩ = some (.slice a es.length cap) := by simp [hc1, hz1, go_sem]
  have hP1 := hide (hP.out.below hB1.out hB)
  have hE1 := hide (hE.out.below hB1.out hB)
  clear hb1 hc1 hf1 hC
  rcases hcase with ⟨hany, hc⟩ | ⟨hany, hc1, hc2⟩
  · have hr := hide (show wcost (n : Int) es p = (0, 1) by rw [hr0.out, if_pos hany])
    clear hany
    rcases hc with h | ⟨h1, h2⟩
    · have q2 : decide (mn < 0) = true := by simpa using h
      go_wp2_with fail
      go_quiet ((first | (go_at_call 125; exact Calls.quiet_of (hMin.out _ B (show Row encI 1 _ _ _ _ from hP1.out))) | (go_at_call 126; exact Calls.quiet_of (hMax.out _ B (show Row encI 1 _ _ _ _ from hP1.out)))))
      go_wp2
      go_ret2
      exact ⟨by rw [hr.out]; rfl, up_drewN hB1.out⟩
    · have q2 : decide (mn < 0) = false := by simpa using h1
      go_wp2_with fail
      go_quiet ((first | (go_at_call 125; exact Calls.quiet_of (hMin.out _ B (show Row encI 1 _ _ _ _ from hP1.out))) | (go_at_call 126; exact Calls.quiet_of (hMax.out _ B (show Row encI 1 _ _ _ _ from hP1.out)))))
      go_wp2
      go_ret2
      exact ⟨by rw [hr.out]; rfl, up_drewN hB1.out⟩
  · have hr := hide (show wcost (n : Int) es p = wcRest es p 0 by rw [hr0.out, hany]; rfl)
    have q2 : decide (mn < 0) = false := by simpa using hc1
    clear hany
    go_wp2_with fail
    go_quiet ((first | (go_at_call 125; exact Calls.quiet_of (hMin.out _ B (show Row encI 1 _ _ _ _ from hP1.out))) | (go_at_call 126; exact Calls.quiet_of (hMax.out _ B (show Row encI 1 _ _ _ _ from hP1.out)))))
    clear q2 hMin hMax hab
    go_wp2
    go_loopw [7, 8, 9, 37] (fun s7 _ _ i wr => ∃ (j : Nat) (s : Int), j + 1 ≤ p.length ∧ i = .int .i64 (j : Int) ∧ s7 = .int .i64 s ∧ -10000 * (j : Int) ≤ s ∧ s ≤ 10000 * (j : Int) ∧ Hid (wcRest es p 0 = wcRest es (p.drop j) s) ∧ Hid (Below w1.heap.size w1 wr)) (fun _ _ _ i _ => p.length - (intOf i).toNat)
    case atStart => exact ⟨0, 0, by omega, rfl, rfl, by omega, by omega, rfl, up_drewN (Below.refl _ _)⟩
    case round =>
      obtain ⟨j, s, hj, rfl, rfl, hs1, hs2, hR, hb⟩ := hrel
      by_cases hjl : j + 1 < p.length
      · have hbs := hb.out.size
        obtain ⟨b, o, rfl, hbB, c0⟩ := hP1.out.int j (by omega)
        obtain ⟨b', o', e1, _, c1⟩ := hP1.out.int (j + 1) hjl
        simp only [Option.some.injEq, Addr.mk.injEq] at e1
        obtain ⟨rfl, rfl, _⟩ := e1
        have hEr := hide (hE1.out.below hb.out (Nat.le_trans hB hB1.out.size))
        have hm1 := wcRest_go (es := es) hjl s
        have hm2 := wcRest_no (es := es) hjl s
        have hmb := minE_bd (u := p[j]) (v := p[j + 1]) hcs.out
        obtain ⟨x, hx⟩ : ∃ x, x = p[j] := ⟨_, rfl⟩
        obtain ⟨y, hy⟩ : ∃ y, y = p[j + 1] := ⟨_, rfl⟩
        rw [← hx, ← hy] at hm1 hm2 hmb
        rw [← hx] at c0
        rw [← hy] at c1
        obtain ⟨M, hM⟩ : ∃ M, M = minE x y es := ⟨_, rfl⟩
        rw [← hM] at hm1 hm2 hmb
        replace hx := hide hx
        replace hy := hide hy
        replace hM := hide hM
        obtain ⟨wu, rfl⟩ : ∃ wu : World, wu = wr := ⟨_, rfl⟩
        have hw1 : IntKind.i64.wrap ((j : Int) + 1) = (j : Int) + 1 := IntWalk.i64_in _ (by omega)
        have i1 : (0 : Int) ≤ (j : Int) ∧ (j : Int) < (p.length : Int) := by omega
        have i2 : (0 : Int) ≤ (j : Int) + 1 ∧ (j : Int) + 1 < (p.length : Int) := by omega
        have i3 : ((j : Int) + 1).toNat = j + 1 := by omega
        have g0 := (hb.out.cell (cell_lt k0)).trans k0
        have g1 := (hb.out.cell (cell_lt k1)).trans k1
        have g2 := (hb.out.cell (cell_lt c0)).trans c0
        have g3 := (hb.out.cell (cell_lt c1)).trans c1
        have key := hide (show ∀ w', Below wu.heap.size wu w' → (Below wu.heap.size wu w' ∧ w'.cell? ⟨w.heap.size, 0, none⟩ = some (.int .i64 (n : Int)) ∧ w'.cell? ⟨w.heap.size, 1, none⟩ = some (.slice a es.length cap) ∧ w'.cell? ⟨b, o + j, none⟩ = some (.int .i64 x) ∧ w'.cell? ⟨b, o + (j + 1), none⟩ = some (.int .i64 y)) from
          fun w' hb => ⟨hb, (hb.cell (cell_lt g0)).trans g0, (hb.cell (cell_lt g1)).trans g1, (hb.cell (cell_lt g2)).trans g2, (hb.cell (cell_lt g3)).trans g3⟩)
        have hB2 := hide (Nat.le_trans (Nat.le_trans hB hB1.out.size) hbs)
        have hWE := hide (show ∀ w', Below wu.heap.size wu w' → Calls Try.prog 127 #[.agg #[.int .i64 (n : Int), .slice a es.length cap], .int .i64 x, .int .i64 y] w' fun e w'' => e = .returned (.int .i64 M) ∧ Below w'.heap.size w' w'' from by
          intro w' hb'
          exact redge_any n a cap es x y w' B (Nat.le_trans hB2.out hb'.size) (hEr.out.below hb' hB2.out) n3 M hM.out)
        clear c0 c1 g0 g1 g2 g3 k0 k1
        by_cases hF : M = 1099511627776
        · have hfin := hide (show wcRest es p 0 = (0, 5) by rw [hR.out]; exact hm2 hF)
          have q9 : (M == 1099511627776) = true := by simpa using hF
          replace hF := hide hF
          clear hm1 hm2 hmb
          go_wp2_with fail
          go_region_held3 (fun w' => Below wu.heap.size wu w' ∧ w'.cell? ⟨w.heap.size, 0, none⟩ = some (.int .i64 (n : Int)) ∧ w'.cell? ⟨w.heap.size, 1, none⟩ = some (.slice a es.length cap) ∧ w'.cell? ⟨b, o + j, none⟩ = some (.int .i64 x) ∧ w'.cell? ⟨b, o + (j + 1), none⟩ = some (.int .i64 y))
            (first | exact key.out _ (below_drew _) | exact key.out _ (by assumption))
            (first | (go_at_call 127; have hb4 := (‹_ ∧ _› : _ ∧ _).1; refine (hWE.out _ hb4).mono ?_; rintro e w4 ⟨rfl, hb5⟩; have hb6 := below_step hb4 hb5))
          all_goals
            go_wp2
            go_ret2
            exact ⟨by rw [hr.out, hfin.out]; rfl, hB1.out.trans ((hb.out.trans (hb6.mono hbs)).mono hB1.out.size)⟩
        · have hgo := hide (show wcRest es p 0 = wcRest es (p.drop (j + 1)) (s + M) by rw [hR.out]; exact hm1 hF)
          have hM2 : -10000 ≤ M ∧ M ≤ 10000 := by omega
          have q9 : (M == 1099511627776) = false := by simpa using hF
          replace hF := hide hF
          clear hm1 hm2 hmb
          go_wp2_with fail
          go_region_held3 (fun w' => Below wu.heap.size wu w' ∧ w'.cell? ⟨w.heap.size, 0, none⟩ = some (.int .i64 (n : Int)) ∧ w'.cell? ⟨w.heap.size, 1, none⟩ = some (.slice a es.length cap) ∧ w'.cell? ⟨b, o + j, none⟩ = some (.int .i64 x) ∧ w'.cell? ⟨b, o + (j + 1), none⟩ = some (.int .i64 y))
            (first | exact key.out _ (below_drew _) | exact key.out _ (by assumption))
            (first | (go_at_call 127; have hb4 := (‹_ ∧ _› : _ ∧ _).1; refine (hWE.out _ hb4).mono ?_; rintro e w4 ⟨rfl, hb5⟩; have hb6 := below_step hb4 hb5))
          all_goals
            go_wp2
            go_roundw
            case rel => exact ⟨j + 1, s + M, by omega, by go_num, rfl, by omega, by omega, hgo, hide (hb.out.trans (hb6.mono hbs))⟩
            case measure => simp [intOf]; omega
      · have hfin := hide (show wcRest es p 0 = (s, 0) by rw [hR.out]; exact wcRest_end (by omega) s)
        go_wp2
        go_ret2
        exact ⟨by rw [hr.out, hfin.out]; rfl, hB1.out.trans (hb.out.mono hB1.out.size)⟩
end Go.Proofs.Ytcehdpeeaogpiaa
