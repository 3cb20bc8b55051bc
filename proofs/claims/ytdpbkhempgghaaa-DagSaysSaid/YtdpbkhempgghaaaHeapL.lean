/-
  heap.Less: the order of what waits. Condition: none.
-/
import Derived.Test.YtdpbkhempgghaaaLI
import Derived.Test.YtdpbkhempgghaaaHeapP
import Derived.BigQuiet
import Derived.Deep.QuietTactic
import Derived.WalkSpells
import Derived.WalkLawsBesides
namespace Go.Proofs.Ytdpbkhempgghaaa
open Go.RowKit
set_option linter.unusedSimpArgs false
set_option linter.unusedVariables false

/-- by the first number, then by the second -/
def popLt (p q : P2) : Bool := decide (p.a < q.a) || (decide (p.a = q.a) && decide (p.b < q.b))
theorem popLt_ord : Ord popLt := by
  constructor
  · intro a; simp [popLt]
  · intro a b h
    simp only [popLt, Bool.or_eq_true, Bool.and_eq_true, decide_eq_true_eq, Bool.or_eq_false_iff, Bool.and_eq_false_iff, decide_eq_false_iff_not] at *
    omega
  · intro a b c h1 h2
    simp only [popLt, Bool.or_eq_true, Bool.and_eq_true, decide_eq_true_eq, Bool.or_eq_false_iff, Bool.and_eq_false_iff, decide_eq_false_iff_not] at *
    omega
set_option maxHeartbeats 2000000 in
theorem less_any (p q : P2) (w : World) :
    Calls Try.prog 102 #[.agg #[.int .i64 p.a, .int .i64 p.b], .agg #[.int .i64 q.a, .int .i64 q.b]] w fun e w' => e = .returned (.bool (popLt p q)) ∧ Below w.heap.size w w' := by
  go_enter Try.func102, Try.ntmps102
  by_cases h1 : p.a < q.a
  · have e1 : popLt p q = true := by simp [popLt, h1]
    rw [e1]
    go_wp2
    go_ret
    exact ⟨rfl, (by repeat (first | with_reducible exact Below.refl _ _ | with_reducible assumption | with_reducible refine up_drewN ?_ | with_reducible refine up_drew ?_ | (with_reducible refine up_alloc ?_ ?_; rotate_left; (first | omega | (simp <;> omega) | simp)) | (with_reducible refine up_set ?_ ?_; rotate_left; (first | omega | (simp <;> omega) | simp)) | (with_reducible refine Below.trans ?_ (Below.mono (by with_reducible assumption) ?_); rotate_left; (first | omega | (simp <;> omega) | simp))))⟩
  · by_cases h2 : p.a = q.a
    · have e1 : popLt p q = decide (p.b < q.b) := by simp [popLt, h2]
      rw [e1]
      have h3 : (p.a < q.a) = False := by simp [h1]
      go_wp2
      go_ret
      exact ⟨rfl, (by repeat (first | with_reducible exact Below.refl _ _ | with_reducible assumption | with_reducible refine up_drewN ?_ | with_reducible refine up_drew ?_ | (with_reducible refine up_alloc ?_ ?_; rotate_left; (first | omega | (simp <;> omega) | simp)) | (with_reducible refine up_set ?_ ?_; rotate_left; (first | omega | (simp <;> omega) | simp)) | (with_reducible refine Below.trans ?_ (Below.mono (by with_reducible assumption) ?_); rotate_left; (first | omega | (simp <;> omega) | simp))))⟩
    · have e1 : popLt p q = false := by simp [popLt, h1, h2]
      rw [e1]
      go_wp2
      go_ret
      exact ⟨rfl, (by repeat (first | with_reducible exact Below.refl _ _ | with_reducible assumption | with_reducible refine up_drewN ?_ | with_reducible refine up_drew ?_ | (with_reducible refine up_alloc ?_ ?_; rotate_left; (first | omega | (simp <;> omega) | simp)) | (with_reducible refine up_set ?_ ?_; rotate_left; (first | omega | (simp <;> omega) | simp)) | (with_reducible refine Below.trans ?_ (Below.mono (by with_reducible assumption) ?_); rotate_left; (first | omega | (simp <;> omega) | simp))))⟩
end Go.Proofs.Ytdpbkhempgghaaa
