/-
  What heur.fit returns of a table. Conditions: the table reads.
-/
import Derived.Test.YtcehdpeeaogpiaaTabR
import Derived.LoopTactic
namespace Go.Proofs.Ytcehdpeeaogpiaa
open Go.RowKit
set_option linter.unusedSimpArgs false
set_option linter.unusedVariables false
theorem all_take_succ {α : Type} {l : List α} {p : α → Bool} {k : Nat} (h : k < l.length) (ht : (l.take k).all p = true) (hp : p l[k] = true) : (l.take (k + 1)).all p = true := by
  rw [List.take_succ_eq_append_getElem h, List.all_append, ht, Bool.true_and]
  simpa using hp
theorem all_no {α : Type} {l : List α} {p : α → Bool} {k : Nat} (h : k < l.length) (hp : p l[k] = false) : l.all p = false := by
  cases hh : l.all p with
  | false => rfl
  | true => rw [List.all_eq_true.1 hh _ (List.getElem_mem h)] at hp; cases hp
theorem inF (x : Int) : (decide (0 ≤ x) && decide (x ≤ 1099511627776)) = true ↔ 0 ≤ x ∧ x ≤ 1099511627776 := by simp
