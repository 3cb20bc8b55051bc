/-
  slices.Grow of an empty slice and slices.Concat over [][]int. Conditions: bounds on the lengths.
-/
import Derived.Test.YtcehdpeeaogpiaaPushAll
import Derived.Test.YtcehdpeeaogpiaaROut
import Derived.Lib.AppendZeros
import Derived.LoopTactic
import Derived.WalkSpells
namespace Go.Proofs.Ytcehdpeeaogpiaa
open Go.RowKit
set_option linter.unusedSimpArgs false
set_option linter.unusedVariables false
