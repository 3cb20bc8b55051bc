/-
  The order the other way round: heap.Least's own function value. Condition: none.
-/
import Derived.Test.YtdpbkhempgghaaaHeapL
namespace Go.Proofs.Ytdpbkhempgghaaa
open Go.RowKit
set_option linter.unusedSimpArgs false
set_option linter.unusedVariables false
def popGt (p q : P2) : Bool := popLt q p
theorem popGt_ord : Ord popGt := by
  constructor
  · intro a; exact popLt_ord.irr a
  · intro a b h; exact popLt_ord.asym b a h
  · intro a b c h1 h2; exact popLt_ord.trans c b a h2 h1
set_option maxHeartbeats 1000000 in
theorem more_any (p q : P2) (w : World) :
    Calls Try.prog 101 #[.agg #[.int .i64 p.a, .int .i64 p.b], .agg #[.int .i64 q.a, .int .i64 q.b]] w fun e w' => e = .returned (.bool (popGt p q)) ∧ Below w.heap.size w w' := by
  have hL := hide (fun w => less_any q p w)
  go_enter Try.func101, Try.ntmps101
  go_wp2_with fail
  refine (hL.out _).mono ?_
  rintro e w1 ⟨rfl, hb1⟩
  go_wp2
  go_ret
  exact ⟨rfl, (by repeat (first | with_reducible exact Below.refl _ _ | with_reducible assumption | with_reducible refine up_drewN ?_ | with_reducible refine up_drew ?_ | (with_reducible refine up_alloc ?_ ?_; rotate_left; (first | omega | (simp <;> omega) | simp)) | (with_reducible refine up_set ?_ ?_; rotate_left; (first | omega | (simp <;> omega) | simp)) | (with_reducible refine Below.trans ?_ (Below.mono (by with_reducible assumption) ?_); rotate_left; (first | omega | (simp <;> omega) | simp))))⟩
end Go.Proofs.Ytdpbkhempgghaaa
