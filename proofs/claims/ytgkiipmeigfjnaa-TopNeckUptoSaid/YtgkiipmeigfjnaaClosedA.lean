/-
  What floyd.closed does for floyd.All: from all to all, place by place between. Conditions: a right net.
-/
import Derived.Test.YtgkiipmeigfjnaaMat2
import Derived.Test.YtgkiipmeigfjnaaAllP
import Derived.Test.YtgkiipmeigfjnaaLI
import Derived.Test.YtgkiipmeigfjnaaEdge
import Derived.BigQuiet
import Derived.Deep.QuietTactic
import Derived.WalkSpells
import Derived.WalkLawsBesides
import Derived.ChangeAlike
import Derived.RegionTactic
import Derived.Deep.RegionHeld3
import Derived.Deep.DrawnRows
import Derived.Test.YtgkiipmeigfjnaaHeldEnd
namespace Go.Proofs.Ytgkiipmeigfjnaa
open Go.RowKit
set_option linter.unusedSimpArgs false
set_option linter.unusedVariables false
