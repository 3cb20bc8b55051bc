/-
  fellref.Pairs. Conditions: as each theorem says.
-/
import Derived.Test.YtiibhdibeljcjaaUOf
namespace Go.Proofs.Ytiibhdibeljcjaa
open Go.RowKit
set_option linter.unusedSimpArgs false
set_option linter.unusedVariables false
set_option maxHeartbeats 1000000 in
theorem pairs_any (n : Int) (a : Option Addr) (cap : Nat) (l : List P2) (w : World) (B : Nat) (hB : B ≤ w.heap.size) (hE : Row encP 2 w B a l) (hl : l.length ≤ 9223372036854775807) :
    Calls Try.prog 34 #[.int .i64 n, .slice a l.length cap] w fun e w' => e = .returned (.int .i64 (pairsErr n l)) ∧ Below w.heap.size w w' := by
  by_cases h1 : n < 0
  · have hr := hide (show pairsErr n l = 1 by unfold pairsErr; rw [if_pos (by omega)])
    go_enter Try.func34, Try.ntmps34
    go_wp2
    go_ret
    exact ⟨ret_int hr.out.symm, Below.refl _ _⟩
  by_cases h2 : 64 < n
  · have hr := hide (show pairsErr n l = 1 by unfold pairsErr; rw [if_pos (by omega)])
    go_enter Try.func34, Try.ntmps34
    go_wp2
    go_ret
    exact ⟨ret_int hr.out.symm, Below.refl _ _⟩
  by_cases h3 : (600 : Int) < (l.length : Int)
  · have hr := hide (show pairsErr n l = 2 by unfold pairsErr; rw [if_neg (by omega), if_pos (by omega)])
    go_enter Try.func34, Try.ntmps34
    go_wp2
    go_ret
    exact ⟨ret_int hr.out.symm, Below.refl _ _⟩
  replace hE := hide hE
  go_enter Try.func34, Try.ntmps34
  go_wp2
  go_loopw [18] (fun i wr => ∃ (k : Nat), k ≤ l.length ∧ i = .int .i64 k ∧ Hid (∀ (j : Nat) (h : j < k) (h : j < l.length), badPair n l[j] = false) ∧ Below w.heap.size w wr) (fun i _ => l.length - (intOf i).toNat)
  case atStart => exact ⟨0, Nat.zero_le _, rfl, fun j h => by omega, Below.refl _ _⟩
  case round =>
    obtain ⟨k, hk, rfl, hD, hb⟩ := hrel
    have hsz := hb.size
    by_cases hlt : k < l.length
    · obtain ⟨ba, o, rfl, hbB, c0, c1⟩ := hE.out.p2 k hlt
      rw [← hb.cell (by simp; omega)] at c0 c1
      by_cases hbad : badPair n l[k] = true
      · have hr := hide (show pairsErr n l = 1 by unfold pairsErr; rw [if_neg (by omega), if_neg (by omega), if_pos (any_hit hlt hbad)])
        simp only [badPair, decide_eq_true_eq] at hbad
        obtain ⟨pa, hpa⟩ : ∃ x, x = l[k].a := ⟨_, rfl⟩
        obtain ⟨pb, hpb⟩ : ∃ x, x = l[k].b := ⟨_, rfl⟩
        rw [← hpa] at hbad c0
        rw [← hpb] at hbad c1
        clear hpa hpb
        have hcase : (pa ≤ pb ∧ pa < 0) ∨ (pb < pa ∧ pb < 0) ∨ (pa ≤ pb ∧ 0 ≤ pa ∧ n ≤ pb) ∨ (pb < pa ∧ 0 ≤ pb ∧ n ≤ pa) := by omega
        clear hbad
        rcases hcase with ⟨h, h1⟩ | ⟨h, h1⟩ | ⟨h, h1, h2⟩ | ⟨h, h1, h2⟩
        all_goals
          go_wp2
          all_goals
            go_ret
            exact ⟨ret_int hr.out.symm, (by repeat (first | with_reducible exact Below.refl _ _ | with_reducible assumption | with_reducible refine up_drewN ?_ | with_reducible refine up_drew ?_ | (with_reducible refine up_alloc ?_ ?_; rotate_left; (first | omega | (simp <;> omega) | simp)) | (with_reducible refine up_set ?_ ?_; rotate_left; (first | omega | (simp <;> omega) | simp)) | (with_reducible refine Below.trans ?_ (Below.mono (by with_reducible assumption) ?_); rotate_left; (first | omega | (simp <;> omega) | simp))))⟩
      · have hbad' := hide (show badPair n l[k] = false by simpa using hbad)
        have hrg : 0 ≤ l[k].a ∧ l[k].a < n ∧ 0 ≤ l[k].b ∧ l[k].b < n := by have := hbad'.out; simp [badPair] at this; omega
        clear hbad
        go_wp2
        all_goals
          go_roundw
          case rel =>
            refine ⟨k + 1, by omega, by go_num, ?_, (by repeat (first | with_reducible exact Below.refl _ _ | with_reducible assumption | with_reducible refine up_drewN ?_ | with_reducible refine up_drew ?_ | (with_reducible refine up_alloc ?_ ?_; rotate_left; (first | omega | (simp <;> omega) | simp)) | (with_reducible refine up_set ?_ ?_; rotate_left; (first | omega | (simp <;> omega) | simp)) | (with_reducible refine Below.trans ?_ (Below.mono (by with_reducible assumption) ?_); rotate_left; (first | omega | (simp <;> omega) | simp))))⟩
            refine hide fun j h1 h2 => ?_
            by_cases e : j = k
            · subst e; exact hbad'.out
            · exact hD.out j (by omega) h2
          case measure => simp [intOf]; omega
    · obtain rfl : k = l.length := by omega
      have hok := hide (show pairsErr n l = 0 by
        unfold pairsErr
        rw [if_neg (by omega), if_neg (by omega), any_none (fun j h => hD.out j h h)]
        rfl)
      go_wp2
      go_ret
      exact ⟨ret_int hok.out.symm, hb⟩

end Go.Proofs.Ytiibhdibeljcjaa
