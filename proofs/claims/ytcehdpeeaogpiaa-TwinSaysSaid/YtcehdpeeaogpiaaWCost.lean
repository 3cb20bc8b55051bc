/-
  What walk.Cost returns. Conditions: that the slices read.
-/
import Derived.Test.YtcehdpeeaogpiaaWEdge
import Derived.Test.YtcehdpeeaogpiaaMinMax
import Derived.Deep.RegionHeld3
namespace Go.Proofs.Ytcehdpeeaogpiaa
open Go.RowKit
set_option linter.unusedSimpArgs false
set_option linter.unusedVariables false

/-- the rest of a walk, its cost so far -/
def wcRest (es : List Ed) : List Int → Int → Int × Int
  | u :: v :: r, s => if minE u v es = 1099511627776 then (0, 5) else wcRest es (v :: r) (s + minE u v es)
  | _, s => (s, 0)
theorem wcRest_go {es : List Ed} {p : List Int} {k : Nat} (h : k + 1 < p.length) (s : Int) (hm : minE p[k] p[k + 1] es ≠ 1099511627776) : wcRest es (p.drop k) s = wcRest es (p.drop (k + 1)) (s + minE p[k] p[k + 1] es) := by
  rw [List.drop_eq_getElem_cons (by omega : k < p.length), List.drop_eq_getElem_cons h, wcRest, if_neg hm]
theorem wcRest_no {es : List Ed} {p : List Int} {k : Nat} (h : k + 1 < p.length) (s : Int) (hm : minE p[k] p[k + 1] es = 1099511627776) : wcRest es (p.drop k) s = (0, 5) := by
  rw [List.drop_eq_getElem_cons (by omega : k < p.length), List.drop_eq_getElem_cons h, wcRest, if_pos hm]
theorem wcRest_end {es : List Ed} {p : List Int} {k : Nat} (h : p.length ≤ k + 1) (s : Int) : wcRest es (p.drop k) s = (s, 0) := by
  have : (p.drop k).length ≤ 1 := by simp; omega
  match p.drop k, this with
  | [], _ => rfl
  | [x], _ => rfl
def badAt (N : Int) (x : Int) : Bool := decide (x < 0 ∨ x ≥ N)
def wcost (N : Int) (es : List Ed) (p : List Int) : Int × Int :=
  if netErr N es ≠ 0 then (0, netErr N es) else if p.length = 0 then (0, 1) else if p.length > 100 then (0, 2) else if p.any (badAt N) then (0, 1) else wcRest es p 0
theorem anyI_hit {l : List Int} {q : Int → Bool} {k : Nat} (h : k < l.length) (hq : q l[k] = true) : l.any q = true := List.any_eq_true.2 ⟨_, List.getElem_mem h, hq⟩
theorem anyI_none {l : List Int} {q : Int → Bool} (h : ∀ (k : Nat) (h : k < l.length), q l[k] = false) : l.any q = false := by
  rw [List.any_eq_false]
  intro x hx
  obtain ⟨k, hk, rfl⟩ := List.getElem_of_mem hx
  simp [h k hk]
def PairBack (v : Int × Int) (w : World) (e : Ending) (w' : World) : Prop := e = .returned (.tuple #[.int .i64 v.1, .int .i64 v.2]) ∧ Below w.heap.size w w'
set_option maxRecDepth 100000 in
set_option maxHeartbeats 1000000 in
theorem wcost_bad (N : Int) (a : Option Addr) (cap : Nat) (es : List Ed) (pa : Option Addr) (pc : Nat) (p : List Int) (w : World) (B : Nat) (hB : B ≤ w.heap.size) (hE : Row encE 3 w B a es) (hl : es.length ≤ 9223372036854775807) (hlp : p.length ≤ 9223372036854775807) (h0 : netErr N es ≠ 0 ∨ p.length = 0 ∨ p.length > 100) :
    Calls Try.prog 195 #[.agg #[.int .i64 N, .slice a es.length cap], .slice pa p.length pc] w (PairBack (wcost N es p) w) := by
  have hC := hide (fun w B hB hE => check_any N a cap es w B hB hE hl)
  replace hE := hide hE
  by_cases h1 : netErr N es = 0
  · have hC2 := hide (show ∀ w B, _ from fun w B hB hE => by have := hC.out w B hB hE; rwa [h1] at this)
    clear hC
    by_cases h2 : p.length = 0
    · have hr := hide (show wcost N es p = (0, 1) by unfold wcost; rw [if_neg (by simpa using h1), if_pos h2])
      have q1 : ((p.length : Int) == 0) = true := by simp [h2]
      replace h2 := hide h2
      clear h1 h0
      go_enter Try.func195, Try.ntmps195
      go_wp2_with fail
      refine (hC2.out _ B (by simp <;> omega) (hE.out.below ((by repeat (first | with_reducible exact Below.refl _ _ | with_reducible assumption | with_reducible refine up_drewN ?_ | with_reducible refine up_drew ?_ | (with_reducible refine up_alloc ?_ ?_; rotate_left; (first | omega | (simp <;> omega) | simp)) | (with_reducible refine up_set ?_ ?_; rotate_left; (first | omega | (simp <;> omega) | simp)) | (with_reducible refine Below.trans ?_ (Below.mono (by with_reducible assumption) ?_); rotate_left; (first | omega | (simp <;> omega) | simp)))) : Below w.heap.size w _) hB)).mono ?_
      rintro e w1 ⟨rfl, hb1⟩
      go_wp2
      go_ret2
      exact ⟨by rw [hr.out]; rfl, (by repeat (first | with_reducible exact Below.refl _ _ | with_reducible assumption | with_reducible refine up_drewN ?_ | with_reducible refine up_drew ?_ | (with_reducible refine up_alloc ?_ ?_; rotate_left; (first | omega | (simp <;> omega) | simp)) | (with_reducible refine up_set ?_ ?_; rotate_left; (first | omega | (simp <;> omega) | simp)) | (with_reducible refine Below.trans ?_ (Below.mono (by with_reducible assumption) ?_); rotate_left; (first | omega | (simp <;> omega) | simp))))⟩
    · have h3 : (100 : Int) < (p.length : Int) := by omega
      have hr := hide (show wcost N es p = (0, 2) by unfold wcost; rw [if_neg (by simpa using h1), if_neg h2, if_pos (by omega)])
      have q1 : ((p.length : Int) == 0) = false := by simp [h2]
      replace h2 := hide h2
      clear h1 h0
      go_enter Try.func195, Try.ntmps195
      go_wp2_with fail
      refine (hC2.out _ B (by simp <;> omega) (hE.out.below ((by repeat (first | with_reducible exact Below.refl _ _ | with_reducible assumption | with_reducible refine up_drewN ?_ | with_reducible refine up_drew ?_ | (with_reducible refine up_alloc ?_ ?_; rotate_left; (first | omega | (simp <;> omega) | simp)) | (with_reducible refine up_set ?_ ?_; rotate_left; (first | omega | (simp <;> omega) | simp)) | (with_reducible refine Below.trans ?_ (Below.mono (by with_reducible assumption) ?_); rotate_left; (first | omega | (simp <;> omega) | simp)))) : Below w.heap.size w _) hB)).mono ?_
      rintro e w1 ⟨rfl, hb1⟩
      go_wp2
      go_ret2
      exact ⟨by rw [hr.out]; rfl, (by repeat (first | with_reducible exact Below.refl _ _ | with_reducible assumption | with_reducible refine up_drewN ?_ | with_reducible refine up_drew ?_ | (with_reducible refine up_alloc ?_ ?_; rotate_left; (first | omega | (simp <;> omega) | simp)) | (with_reducible refine up_set ?_ ?_; rotate_left; (first | omega | (simp <;> omega) | simp)) | (with_reducible refine Below.trans ?_ (Below.mono (by with_reducible assumption) ?_); rotate_left; (first | omega | (simp <;> omega) | simp))))⟩
  · have hr := hide (show wcost N es p = (0, netErr N es) by unfold wcost; rw [if_pos h1])
    have q0 : (netErr N es != 0) = true := by simp [h1]
    clear h1 h0
    go_enter Try.func195, Try.ntmps195
    go_wp2_with fail
    refine (hC.out _ B (by simp <;> omega) (hE.out.below ((by repeat (first | with_reducible exact Below.refl _ _ | with_reducible assumption | with_reducible refine up_drewN ?_ | with_reducible refine up_drew ?_ | (with_reducible refine up_alloc ?_ ?_; rotate_left; (first | omega | (simp <;> omega) | simp)) | (with_reducible refine up_set ?_ ?_; rotate_left; (first | omega | (simp <;> omega) | simp)) | (with_reducible refine Below.trans ?_ (Below.mono (by with_reducible assumption) ?_); rotate_left; (first | omega | (simp <;> omega) | simp)))) : Below w.heap.size w _) hB)).mono ?_
    rintro e w1 ⟨rfl, hb1⟩
    go_wp2
    go_ret2
    exact ⟨by rw [hr.out]; rfl, (by repeat (first | with_reducible exact Below.refl _ _ | with_reducible assumption | with_reducible refine up_drewN ?_ | with_reducible refine up_drew ?_ | (with_reducible refine up_alloc ?_ ?_; rotate_left; (first | omega | (simp <;> omega) | simp)) | (with_reducible refine up_set ?_ ?_; rotate_left; (first | omega | (simp <;> omega) | simp)) | (with_reducible refine Below.trans ?_ (Below.mono (by with_reducible assumption) ?_); rotate_left; (first | omega | (simp <;> omega) | simp))))⟩
set_option maxRecDepth 100000 in
set_option maxHeartbeats 4000000 in
theorem wcost_ok (n : Nat) (a : Option Addr) (cap : Nat) (es : List Ed) (pa : Option Addr) (pc : Nat) (p : List Int) (w : World) (B : Nat) (hB : B ≤ w.heap.size) (hE : Row encE 3 w B a es) (hP : Row encI 1 w B pa p) (hl : es.length ≤ 9223372036854775807) (h0 : netErr (n : Int) es = 0) (hp0 : 0 < p.length) (hp1 : p.length ≤ 100) :
    Calls Try.prog 195 #[.agg #[.int .i64 (n : Int), .slice a es.length cap], .slice pa p.length pc] w (PairBack (wcost (n : Int) es p) w) := by
  obtain ⟨n1, n2, n3, n4⟩ := netErr_ok h0
  have hC := hide (show ∀ w B, _ from fun w B hB hE => by have := check_any (n : Int) a cap es w B hB hE hl; rwa [h0] at this)
  have hcs := hide (show ∀ e ∈ es, -10000 ≤ e.c ∧ e.c ≤ 10000 from fun e he => ⟨(n4 e he).2.2.2.2.1, (n4 e he).2.2.2.2.2⟩)
  have hr0 : wcost (n : Int) es p = if p.any (badAt (n : Int)) then (0, 1) else wcRest es p 0 := by unfold wcost; rw [if_neg (by simpa using h0), if_neg (by omega), if_neg (by omega)]
  have q1 : ((p.length : Int) == 0) = false := by simp only [beq_eq_false_iff_ne, ne_eq]; omega
  replace hr0 := hide hr0
  replace hE := hide hE
  replace hP := hide hP
  clear h0 n4
  go_enter Try.func195, Try.ntmps195
  go_wp2_with fail
  refine (hC.out _ B (by simp <;> omega) (hE.out.below ((by repeat (first | with_reducible exact Below.refl _ _ | with_reducible assumption | with_reducible refine up_drewN ?_ | with_reducible refine up_drew ?_ | (with_reducible refine up_alloc ?_ ?_; rotate_left; (first | omega | (simp <;> omega) | simp)) | (with_reducible refine up_set ?_ ?_; rotate_left; (first | omega | (simp <;> omega) | simp)) | (with_reducible refine Below.trans ?_ (Below.mono (by with_reducible assumption) ?_); rotate_left; (first | omega | (simp <;> omega) | simp)))) : Below w.heap.size w _) hB)).mono ?_
  rintro e w1 ⟨rfl, hb1⟩
  obtain ⟨hc1, hf1⟩ := bcell hb1
  have hz1 : w.heap.size < w1.heap.size := by have := hb1.size; simp at this; omega
  have hB1 := hide (show Below w.heap.size w w1 from (by repeat (first | with_reducible exact Below.refl _ _ | with_reducible assumption | with_reducible refine up_drewN ?_ | with_reducible refine up_drew ?_ | (with_reducible refine up_alloc ?_ ?_; rotate_left; (first | omega | (simp <;> omega) | simp)) | (with_reducible refine up_set ?_ ?_; rotate_left; (first | omega | (simp <;> omega) | simp)) | (with_reducible refine Below.trans ?_ (Below.mono (by with_reducible assumption) ?_); rotate_left; (first | omega | (simp <;> omega) | simp)))))
  have k0 : w1.cell? ⟨w.heap.size, 0, none⟩ = some (.int .i64 (n : Int)) := by simp [hc1, hz1, go_sem]
  have k1 : w1.cell? ⟨w.heap.size, 1, none⟩ = some (.slice a es.length cap) := by simp [hc1, hz1, go_sem]
  have hP1 := hide (hP.out.below hB1.out hB)
  have hE1 := hide (hE.out.below hB1.out hB)
  clear hb1 hc1 hf1 hC
  go_wp2
  go_loopw [8, 26] (fun _ i wr => ∃ k : Nat, k ≤ p.length ∧ i = .int .i64 k ∧ Hid (∀ (j : Nat) (h : j < k) (h : j < p.length), badAt (n : Int) p[j] = false) ∧ Hid (∃ d, wr = w1.drewN d)) (fun _ i _ => p.length - (intOf i).toNat)
  case atStart => exact ⟨0, Nat.zero_le _, rfl, fun j h => absurd h (Nat.not_lt_zero _), ⟨0, rfl⟩⟩
  case round =>
    obtain ⟨k, hk, rfl, hD, hw⟩ := hrel
    obtain ⟨d, rfl⟩ := hw.out
    by_cases hlt : k < p.length
    · obtain ⟨b, o, rfl, hbB, c0⟩ := hP1.out.int k hlt
      obtain ⟨x, hx⟩ : ∃ x, x = p[k] := ⟨_, rfl⟩
      rw [← hx] at c0
      by_cases hbad : badAt (n : Int) p[k] = true
      · have hr := hide (show wcost (n : Int) es p = (0, 1) by rw [hr0.out, if_pos (anyI_hit hlt hbad)])
        have hcase : x < 0 ∨ (0 ≤ x ∧ (n : Int) ≤ x) := by rw [← hx] at hbad; simp [badAt] at hbad; omega
        replace hx := hide hx
        clear hbad
        rcases hcase with h | ⟨h1, h2⟩
        all_goals
          go_wp2
          go_ret2
          exact ⟨by rw [hr.out]; rfl, up_drewN hB1.out⟩
      · have hok : badAt (n : Int) p[k] = false := by simpa using hbad
        have hrg : 0 ≤ x ∧ x < n := by rw [← hx] at hok; simp [badAt] at hok; omega
        replace hok := hide hok
        replace hx := hide hx
        clear hbad
        go_wp2
        go_roundw
        case rel =>
          refine ⟨k + 1, by omega, by go_num, ?_, ⟨d, rfl⟩⟩
          refine hide fun j h1 h2 => ?_
          by_cases e : j = k
          · subst e; exact hok.out
          · exact hD.out j (by omega) h2
        case measure => simp [intOf]; omega
    · obtain rfl : k = p.length := by omega
      have hr := hide (show wcost (n : Int) es p = wcRest es p 0 by
        rw [hr0.out, anyI_none (fun j h => hD.out j h h)]
        rfl)
      have hin := hide (show ∀ (j : Nat) (h : j < p.length), 0 ≤ p[j] ∧ p[j] < n from fun j h => by have := hD.out j h h; simp [badAt] at this; omega)
      clear hD hr0 hlt
      go_wp2
      go_loopw [9, 10, 11, 12] (fun s9 i _ _ wr => ∃ (j : Nat) (s : Int), j + 1 ≤ p.length ∧ i = .int .i64 ((j : Int) + 1) ∧ s9 = .int .i64 s ∧ -10000 * (j : Int) ≤ s ∧ s ≤ 10000 * (j : Int) ∧ Hid (wcRest es p 0 = wcRest es (p.drop j) s) ∧ Hid (Below w1.heap.size w1 wr)) (fun _ i _ _ _ => p.length - (intOf i).toNat)
      case atStart => exact ⟨0, 0, by omega, rfl, rfl, by omega, by omega, rfl, up_drewN (Below.refl _ _)⟩
      case round =>
        obtain ⟨j, s, hj, rfl, rfl, hs1, hs2, hR, hb⟩ := hrel
        by_cases hjl : j + 1 < p.length
        · have hbs := hb.out.size
          obtain ⟨b, o, rfl, hbB, c0⟩ := hP1.out.int j (by omega)
          obtain ⟨b', o', e1, _, c1⟩ := hP1.out.int (j + 1) hjl
          simp only [Option.some.injEq, Addr.mk.injEq] at e1
          obtain ⟨rfl, rfl, _⟩ := e1
          have hEr := hide (hE1.out.below hb.out (Nat.le_trans hB hB1.out.size))
          have hm1 := wcRest_go (es := es) hjl s
          have hm2 := wcRest_no (es := es) hjl s
          have hmb := minE_bd (u := p[j]) (v := p[j + 1]) hcs.out
          obtain ⟨x, hx⟩ : ∃ x, x = p[j] := ⟨_, rfl⟩
          obtain ⟨y, hy⟩ : ∃ y, y = p[j + 1] := ⟨_, rfl⟩
          rw [← hx, ← hy] at hm1 hm2 hmb
          rw [← hx] at c0
          rw [← hy] at c1
          obtain ⟨M, hM⟩ : ∃ M, M = minE x y es := ⟨_, rfl⟩
          rw [← hM] at hm1 hm2 hmb
          replace hx := hide hx
          replace hy := hide hy
          replace hM := hide hM
          obtain ⟨wu, rfl⟩ : ∃ wu : World, wu = wr := ⟨_, rfl⟩
          have hw1 : IntKind.i64.wrap ((j : Int) + 1 - 1) = (j : Int) := by rw [show (j : Int) + 1 - 1 = (j : Int) by omega]; exact IntWalk.i64_in _ (by omega)
          have hw2 : IntKind.i64.wrap (j : Int) = (j : Int) := IntWalk.i64_in _ (by omega)
          have i1 : (0 : Int) ≤ (j : Int) ∧ (j : Int) < (p.length : Int) := by omega
          have i2 : (0 : Int) ≤ (j : Int) + 1 ∧ (j : Int) + 1 < (p.length : Int) := by omega
          have i3 : ((j : Int) + 1).toNat = j + 1 := by omega
          have i4 : ((j : Int) + 1 - 1).toNat = j := by omega
          have g0 := (hb.out.cell (cell_lt k0)).trans k0
          have g1 := (hb.out.cell (cell_lt k1)).trans k1
          have g2 := (hb.out.cell (cell_lt c0)).trans c0
          have g3 := (hb.out.cell (cell_lt c1)).trans c1
          have key := hide (show ∀ w', Below wu.heap.size wu w' → (Below wu.heap.size wu w' ∧ w'.cell? ⟨w.heap.size, 0, none⟩ = some (.int .i64 (n : Int)) ∧ w'.cell? ⟨w.heap.size, 1, none⟩ = some (.slice a es.length cap) ∧ w'.cell? ⟨b, o + j, none⟩ = some (.int .i64 x) ∧ w'.cell? ⟨b, o + (j + 1), none⟩ = some (.int .i64 y)) from
            fun w' hb => ⟨hb, (hb.cell (cell_lt g0)).trans g0, (hb.cell (cell_lt g1)).trans g1, (hb.cell (cell_lt g2)).trans g2, (hb.cell (cell_lt g3)).trans g3⟩)
          have hB2 := hide (Nat.le_trans (Nat.le_trans hB hB1.out.size) hbs)
          have hWE := hide (show ∀ (v : Int) (f : Bool), v = bestV M → f = foundV M → ∀ w', Below wu.heap.size wu w' → Calls Try.prog 213 #[.agg #[.int .i64 (n : Int), .slice a es.length cap], .int .i64 x, .int .i64 y] w' fun e w'' => e = .returned (.tuple #[.int .i64 v, .bool f]) ∧ Below w'.heap.size w' w'' from by
            rintro v f rfl rfl w' hb'
            exact wedge_any n a cap es x y w' B (Nat.le_trans hB2.out hb'.size) (hEr.out.below hb' hB2.out) n3 hcs.out M hM.out)
          clear c0 c1 g0 g1 g2 g3 k0 k1
          by_cases hF : M = 1099511627776
          · have hcall := hide (hWE.out 0 false (by rw [hF]; rfl) (by rw [hF]; rfl))
            have hfin := hide (show wcRest es p 0 = (0, 5) by rw [hR.out]; exact hm2 hF)
            replace hF := hide hF
            clear hm1 hm2 hmb hWE
            go_wp2_with fail
            go_region_held3 (fun w' => Below wu.heap.size wu w' ∧ w'.cell? ⟨w.heap.size, 0, none⟩ = some (.int .i64 (n : Int)) ∧ w'.cell? ⟨w.heap.size, 1, none⟩ = some (.slice a es.length cap) ∧ w'.cell? ⟨b, o + j, none⟩ = some (.int .i64 x) ∧ w'.cell? ⟨b, o + (j + 1), none⟩ = some (.int .i64 y))
              (first | exact key.out _ (below_drew _) | exact key.out _ (by assumption))
              (first | (go_at_call 213; have hb4 := (‹_ ∧ _› : _ ∧ _).1; refine (hcall.out _ hb4).mono ?_; rintro e w4 ⟨rfl, hb5⟩; have hb6 := below_step hb4 hb5))
            all_goals
              go_wp2
              go_ret2
              exact ⟨by rw [hr.out, hfin.out]; rfl, hB1.out.trans ((hb.out.trans (hb6.mono hbs)).mono hB1.out.size)⟩
          · have hcall := hide (hWE.out M true (by unfold bestV; rw [if_neg hF]) (by unfold foundV; simpa using hF))
            have hgo := hide (show wcRest es p 0 = wcRest es (p.drop (j + 1)) (s + M) by rw [hR.out]; exact hm1 hF)
            have hM2 : -10000 ≤ M ∧ M ≤ 10000 := by omega
            replace hF := hide hF
            clear hm1 hm2 hmb hWE
            go_wp2_with fail
            go_region_held3 (fun w' => Below wu.heap.size wu w' ∧ w'.cell? ⟨w.heap.size, 0, none⟩ = some (.int .i64 (n : Int)) ∧ w'.cell? ⟨w.heap.size, 1, none⟩ = some (.slice a es.length cap) ∧ w'.cell? ⟨b, o + j, none⟩ = some (.int .i64 x) ∧ w'.cell? ⟨b, o + (j + 1), none⟩ = some (.int .i64 y))
              (first | exact key.out _ (below_drew _) | exact key.out _ (by assumption))
              (first | (go_at_call 213; have hb4 := (‹_ ∧ _› : _ ∧ _).1; refine (hcall.out _ hb4).mono ?_; rintro e w4 ⟨rfl, hb5⟩; have hb6 := below_step hb4 hb5))
            all_goals
              go_wp2
              go_roundw
              case rel => exact ⟨j + 1, s + M, by omega, by go_num, rfl, by omega, by omega, hgo, hide (hb.out.trans (hb6.mono hbs))⟩
              case measure => simp [intOf]; omega
        · have hfin := hide (show wcRest es p 0 = (s, 0) by rw [hR.out]; exact wcRest_end (by omega) s)
          go_wp2
          go_ret2
          exact ⟨by rw [hr.out, hfin.out]; rfl, hB1.out.trans (hb.out.mono hB1.out.size)⟩
end Go.Proofs.Ytcehdpeeaogpiaa
