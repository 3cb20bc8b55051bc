/-
  What floyd.closed does for floyd.All: from all to all, place by place between. Conditions: a right net.
-/
import Derived.Test.YtcehdpeeaogpiaaPlainB
import Derived.Test.YtcehdpeeaogpiaaAllP
import Derived.Test.YtcehdpeeaogpiaaBase
import Derived.BigQuiet
import Derived.Deep.QuietTactic
import Derived.WalkSpells
import Derived.WalkLawsBesides
import Derived.ChangeAlike
import Derived.RegionTactic
import Derived.Deep.RegionHeld3
import Derived.Deep.DrawnRows
import Derived.Test.YtcehdpeeaogpiaaHeldEnd
namespace Go.Proofs.Ytcehdpeeaogpiaa
open Go.RowKit
set_option linter.unusedSimpArgs false
set_option linter.unusedVariables false
