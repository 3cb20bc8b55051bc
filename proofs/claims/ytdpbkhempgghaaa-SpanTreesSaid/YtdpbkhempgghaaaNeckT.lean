/-
  What span's tree does with span.Neck's step: it finds the neck. Conditions: a right net, two places in bounds.
-/
import Derived.Test.YtdpbkhempgghaaaNeck1
import Derived.Test.YtdpbkhempgghaaaHSort
import Derived.Deep.RegionLaw
import Derived.Test.YtdpbkhempgghaaaHeldEnd
namespace Go.Proofs.Ytdpbkhempgghaaa
open Go.RowKit
set_option linter.unusedSimpArgs false
set_option linter.unusedVariables false
/-- what the tree leaves: the neck in its two cells -/
def TreeBack (es : List Ed) (a b bn be : Nat) (w : World) (e : Ending) (w' : World) : Prop := ∃ v best x, e = .returned v ∧ NeckAns (JN es a b) es best x ∧ w'.cell? ⟨bn, 0, none⟩ = some (.int .i64 best) ∧ w'.cell? ⟨be, 0, none⟩ = some (.int .i64 x) ∧ Keep (fun k => k = bn ∨ k = be) w w'
theorem joined_equal {f : Nat → Nat} (hf : Forest f) {x y : Nat} (h : root f x = root f y) (j : Nat) : root (joined f x y) j = root f j := by
  rw [joined_root hf, h]
  split <;> omega
theorem Grp.fresh {w w' : World} {b n : Nat} {v : Value} {f : Nat → Nat} (h : Grp w b v n f) (hb : Below w.heap.size w w') : Grp w' b v n f := h.keep (Keep.new hb : Keep (fun _ => False) w w') (fun x => x) (fun _ _ x => x)
