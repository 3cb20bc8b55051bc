/-
  strings.Builder: what its calls do to a builder that the caller holds. Conditions: as each theorem says.
-/
import Derived.Test.YtccailcjclbhlaaDoorBase
import Derived.Shelf.Strings.BuilderF
namespace Go.Proofs.YtccailcjclbhlaaDoor
open Go.RowKit
set_option linter.unusedSimpArgs false
set_option linter.unusedVariables false

theorem info_u8 : (Tryd.prog.info? 5).map (fun i => (i.zero, i.size, i.bytes)) = some (some (.int .u8 0), 1, 1) := by kernel_rfl
