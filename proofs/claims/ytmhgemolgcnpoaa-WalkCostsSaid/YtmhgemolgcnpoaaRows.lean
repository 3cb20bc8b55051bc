/-
  No cell of these rows narrows 'for every input' (looked for: loops, veiled, ifaces, maps, wideKeys, modest, calm, conditions, laid).
  DERIVED. THE GIVEN ROWS OF THIS SEAT. 12 by the template 'for every input the law returns true; each argument reads behind the call as it read before'; 0 by the template 'total and deterministic' (their statements: YtmhgemolgcnpoaaTotals.lean).
  GIVEN WITH THE SEED: the statements are not yours to turn. If you find one false, say at which input.
  Laid BY PROGRAM, IN A SANDBOX (cutbox-rows.mjs): the forced cells as the released guide's own fill.sh prints them over the translation b37e5db454556161… (all of the seat's roots in one cut). By AI agents, Wed Nov 11 2026. No macro, syntax, notation, axiom, sorry.
-/
import Derived.Test.YtmhgemolgcnpoaaChecked
import GoSem.Claim
import GoSem.ClaimJoined
import GoSem.ClaimMapViews
import Derived.JoinedTies
import Derived.KernelRfl
namespace Go.Proofs.Ytmhgemolgcnpoaa
/- THE CELL 'sum', in the pinned program and in every row, IS THE sha256 OF THE DUMP (.gsa) THAT YtmhgemolgcnpoaaProg.lean LOADS. Nothing in Lean hashes anything: it is a label: what it is worth is what the hold of that sum in a sandbox is worth. -/
noncomputable def Try.pinned : Pinned := { name := "ytmhgemolgcnpoaa", sum := "b37e5db4545561616d0fec2d3caa90b45d3a0371276d46d10d5bf255e767dfac", checked := Try.checked }
namespace Rows
def none {H : Type} : Left H := { results := [], args := [] }

/-- 'felllaw.FloydWides': WHATEVER THE INPUT: true; the input reads as it did. -/
def floydWidesSpec : ChangeSpec := { name := "floydWides", fn := fun _ => fun
  | [d] => { results := [.lit (.bool true)], args := [d] }
  | _ => none }
def floydWidesRow : OpenClaim := { program := "ytmhgemolgcnpoaa", sum := "b37e5db4545561616d0fec2d3caa90b45d3a0371276d46d10d5bf255e767dfac", func := "fellwalker/felllaw.FloydWides", spec := "floydWides", unfollowed := true, recurses := true, plainKeys := false, apart := false }
def FloydWidesSaid : Prop := floydWidesRow.holds Try.pinned (OpenSpec.ofChange floydWidesSpec)

/-- ITS FALSE NEIGHBOUR: 'it returns false'. Refute it at one input. -/
def floydWidesWrong : ChangeSpec := { name := "floydWides", fn := fun _ => fun
  | [d] => { results := [.lit (.bool false)], args := [d] }
  | _ => none }
def FloydWidesWrongFalsely : Prop := floydWidesRow.holds Try.pinned (OpenSpec.ofChange floydWidesWrong)

/-- 'felllaw.WalkCosts': WHATEVER THE INPUT: true; the input reads as it did. -/
def walkCostsSpec : ChangeSpec := { name := "walkCosts", fn := fun _ => fun
  | [d1, d2] => { results := [.lit (.bool true)], args := [d1, d2] }
  | _ => none }
def walkCostsRow : OpenClaim := { program := "ytmhgemolgcnpoaa", sum := "b37e5db4545561616d0fec2d3caa90b45d3a0371276d46d10d5bf255e767dfac", func := "fellwalker/felllaw.WalkCosts", spec := "walkCosts", plainKeys := false, apart := false }
def WalkCostsSaid : Prop := walkCostsRow.holds Try.pinned (OpenSpec.ofChange walkCostsSpec)

/-- ITS FALSE NEIGHBOUR: 'it returns false'. Refute it at one input. -/
def walkCostsWrong : ChangeSpec := { name := "walkCosts", fn := fun _ => fun
  | [d1, d2] => { results := [.lit (.bool false)], args := [d1, d2] }
  | _ => none }
def WalkCostsWrongFalsely : Prop := walkCostsRow.holds Try.pinned (OpenSpec.ofChange walkCostsWrong)

/-- 'felllaw.NetGrids': WHATEVER THE INPUT: true; the input reads as it did. -/
def netGridsSpec : ChangeSpec := { name := "netGrids", fn := fun _ => fun
  | [d] => { results := [.lit (.bool true)], args := [d] }
  | _ => none }
def netGridsRow : OpenClaim := { program := "ytmhgemolgcnpoaa", sum := "b37e5db4545561616d0fec2d3caa90b45d3a0371276d46d10d5bf255e767dfac", func := "fellwalker/felllaw.NetGrids", spec := "netGrids", plainKeys := false, apart := false }
def NetGridsSaid : Prop := netGridsRow.holds Try.pinned (OpenSpec.ofChange netGridsSpec)

/-- ITS FALSE NEIGHBOUR: 'it returns false'. Refute it at one input. -/
def netGridsWrong : ChangeSpec := { name := "netGrids", fn := fun _ => fun
  | [d] => { results := [.lit (.bool false)], args := [d] }
  | _ => none }
def NetGridsWrongFalsely : Prop := netGridsRow.holds Try.pinned (OpenSpec.ofChange netGridsWrong)

/-- 'felllaw.BellDists': WHATEVER THE INPUT: true; the input reads as it did. -/
def bellDistsSpec : ChangeSpec := { name := "bellDists", fn := fun _ => fun
  | [d1, d2] => { results := [.lit (.bool true)], args := [d1, d2] }
  | _ => none }
def bellDistsRow : OpenClaim := { program := "ytmhgemolgcnpoaa", sum := "b37e5db4545561616d0fec2d3caa90b45d3a0371276d46d10d5bf255e767dfac", func := "fellwalker/felllaw.BellDists", spec := "bellDists", plainKeys := false, apart := false }
def BellDistsSaid : Prop := bellDistsRow.holds Try.pinned (OpenSpec.ofChange bellDistsSpec)

/-- ITS FALSE NEIGHBOUR: 'it returns false'. Refute it at one input. -/
def bellDistsWrong : ChangeSpec := { name := "bellDists", fn := fun _ => fun
  | [d1, d2] => { results := [.lit (.bool false)], args := [d1, d2] }
  | _ => none }
def BellDistsWrongFalsely : Prop := bellDistsRow.holds Try.pinned (OpenSpec.ofChange bellDistsWrong)

/-- 'felllaw.JohnFlats': WHATEVER THE INPUT: true; the input reads as it did. -/
def johnFlatsSpec : ChangeSpec := { name := "johnFlats", fn := fun _ => fun
  | [d1, d2] => { results := [.lit (.bool true)], args := [d1, d2] }
  | _ => none }
def johnFlatsRow : OpenClaim := { program := "ytmhgemolgcnpoaa", sum := "b37e5db4545561616d0fec2d3caa90b45d3a0371276d46d10d5bf255e767dfac", func := "fellwalker/felllaw.JohnFlats", spec := "johnFlats", plainKeys := false, apart := false }
def JohnFlatsSaid : Prop := johnFlatsRow.holds Try.pinned (OpenSpec.ofChange johnFlatsSpec)

/-- ITS FALSE NEIGHBOUR: 'it returns false'. Refute it at one input. -/
def johnFlatsWrong : ChangeSpec := { name := "johnFlats", fn := fun _ => fun
  | [d1, d2] => { results := [.lit (.bool false)], args := [d1, d2] }
  | _ => none }
def JohnFlatsWrongFalsely : Prop := johnFlatsRow.holds Try.pinned (OpenSpec.ofChange johnFlatsWrong)

/-- 'felllaw.FloydAlls': WHATEVER THE INPUT: true; the input reads as it did. -/
def floydAllsSpec : ChangeSpec := { name := "floydAlls", fn := fun _ => fun
  | [d] => { results := [.lit (.bool true)], args := [d] }
  | _ => none }
def floydAllsRow : OpenClaim := { program := "ytmhgemolgcnpoaa", sum := "b37e5db4545561616d0fec2d3caa90b45d3a0371276d46d10d5bf255e767dfac", func := "fellwalker/felllaw.FloydAlls", spec := "floydAlls", unfollowed := true, recurses := true, plainKeys := false, apart := false }
def FloydAllsSaid : Prop := floydAllsRow.holds Try.pinned (OpenSpec.ofChange floydAllsSpec)

/-- ITS FALSE NEIGHBOUR: 'it returns false'. Refute it at one input. -/
def floydAllsWrong : ChangeSpec := { name := "floydAlls", fn := fun _ => fun
  | [d] => { results := [.lit (.bool false)], args := [d] }
  | _ => none }
def FloydAllsWrongFalsely : Prop := floydAllsRow.holds Try.pinned (OpenSpec.ofChange floydAllsWrong)

/-- 'felllaw.HeurChecks': WHATEVER THE INPUT: true; the input reads as it did. -/
def heurChecksSpec : ChangeSpec := { name := "heurChecks", fn := fun _ => fun
  | [d1, d2, d3] => { results := [.lit (.bool true)], args := [d1, d2, d3] }
  | _ => none }
def heurChecksRow : OpenClaim := { program := "ytmhgemolgcnpoaa", sum := "b37e5db4545561616d0fec2d3caa90b45d3a0371276d46d10d5bf255e767dfac", func := "fellwalker/felllaw.HeurChecks", spec := "heurChecks", unfollowed := true, recurses := true, plainKeys := false, apart := false }
def HeurChecksSaid : Prop := heurChecksRow.holds Try.pinned (OpenSpec.ofChange heurChecksSpec)

/-- ITS FALSE NEIGHBOUR: 'it returns false'. Refute it at one input. -/
def heurChecksWrong : ChangeSpec := { name := "heurChecks", fn := fun _ => fun
  | [d1, d2, d3] => { results := [.lit (.bool false)], args := [d1, d2, d3] }
  | _ => none }
def HeurChecksWrongFalsely : Prop := heurChecksRow.holds Try.pinned (OpenSpec.ofChange heurChecksWrong)

/-- 'felllaw.TwinAparts': WHATEVER THE INPUT: true; the input reads as it did. -/
def twinApartsSpec : ChangeSpec := { name := "twinAparts", fn := fun _ => fun
  | [d1, d2, d3] => { results := [.lit (.bool true)], args := [d1, d2, d3] }
  | _ => none }
def twinApartsRow : OpenClaim := { program := "ytmhgemolgcnpoaa", sum := "b37e5db4545561616d0fec2d3caa90b45d3a0371276d46d10d5bf255e767dfac", func := "fellwalker/felllaw.TwinAparts", spec := "twinAparts", plainKeys := false, apart := false }
def TwinApartsSaid : Prop := twinApartsRow.holds Try.pinned (OpenSpec.ofChange twinApartsSpec)

/-- ITS FALSE NEIGHBOUR: 'it returns false'. Refute it at one input. -/
def twinApartsWrong : ChangeSpec := { name := "twinAparts", fn := fun _ => fun
  | [d1, d2, d3] => { results := [.lit (.bool false)], args := [d1, d2, d3] }
  | _ => none }
def TwinApartsWrongFalsely : Prop := twinApartsRow.holds Try.pinned (OpenSpec.ofChange twinApartsWrong)

/-- 'felllaw.HeurBounds': WHATEVER THE INPUT: true; the input reads as it did. -/
def heurBoundsSpec : ChangeSpec := { name := "heurBounds", fn := fun _ => fun
  | [d1, d2, d3, d4] => { results := [.lit (.bool true)], args := [d1, d2, d3, d4] }
  | _ => none }
def heurBoundsRow : OpenClaim := { program := "ytmhgemolgcnpoaa", sum := "b37e5db4545561616d0fec2d3caa90b45d3a0371276d46d10d5bf255e767dfac", func := "fellwalker/felllaw.HeurBounds", spec := "heurBounds", unfollowed := true, recurses := true, plainKeys := false, apart := false }
def HeurBoundsSaid : Prop := heurBoundsRow.holds Try.pinned (OpenSpec.ofChange heurBoundsSpec)

/-- ITS FALSE NEIGHBOUR: 'it returns false'. Refute it at one input. -/
def heurBoundsWrong : ChangeSpec := { name := "heurBounds", fn := fun _ => fun
  | [d1, d2, d3, d4] => { results := [.lit (.bool false)], args := [d1, d2, d3, d4] }
  | _ => none }
def HeurBoundsWrongFalsely : Prop := heurBoundsRow.holds Try.pinned (OpenSpec.ofChange heurBoundsWrong)

/-- 'felllaw.BellCycles': WHATEVER THE INPUT: true; the input reads as it did. -/
def bellCyclesSpec : ChangeSpec := { name := "bellCycles", fn := fun _ => fun
  | [d] => { results := [.lit (.bool true)], args := [d] }
  | _ => none }
def bellCyclesRow : OpenClaim := { program := "ytmhgemolgcnpoaa", sum := "b37e5db4545561616d0fec2d3caa90b45d3a0371276d46d10d5bf255e767dfac", func := "fellwalker/felllaw.BellCycles", spec := "bellCycles", plainKeys := false, apart := false }
def BellCyclesSaid : Prop := bellCyclesRow.holds Try.pinned (OpenSpec.ofChange bellCyclesSpec)

/-- ITS FALSE NEIGHBOUR: 'it returns false'. Refute it at one input. -/
def bellCyclesWrong : ChangeSpec := { name := "bellCycles", fn := fun _ => fun
  | [d] => { results := [.lit (.bool false)], args := [d] }
  | _ => none }
def BellCyclesWrongFalsely : Prop := bellCyclesRow.holds Try.pinned (OpenSpec.ofChange bellCyclesWrong)

/-- 'felllaw.SpanNecks': WHATEVER THE INPUT: true; the input reads as it did. -/
def spanNecksSpec : ChangeSpec := { name := "spanNecks", fn := fun _ => fun
  | [d1, d2, d3] => { results := [.lit (.bool true)], args := [d1, d2, d3] }
  | _ => none }
def spanNecksRow : OpenClaim := { program := "ytmhgemolgcnpoaa", sum := "b37e5db4545561616d0fec2d3caa90b45d3a0371276d46d10d5bf255e767dfac", func := "fellwalker/felllaw.SpanNecks", spec := "spanNecks", unfollowed := true, recurses := true, plainKeys := false, apart := false }
def SpanNecksSaid : Prop := spanNecksRow.holds Try.pinned (OpenSpec.ofChange spanNecksSpec)

/-- ITS FALSE NEIGHBOUR: 'it returns false'. Refute it at one input. -/
def spanNecksWrong : ChangeSpec := { name := "spanNecks", fn := fun _ => fun
  | [d1, d2, d3] => { results := [.lit (.bool false)], args := [d1, d2, d3] }
  | _ => none }
def SpanNecksWrongFalsely : Prop := spanNecksRow.holds Try.pinned (OpenSpec.ofChange spanNecksWrong)

/-- 'felllaw.DijkDists': WHATEVER THE INPUT: true; the input reads as it did. -/
def dijkDistsSpec : ChangeSpec := { name := "dijkDists", fn := fun _ => fun
  | [d1, d2, d3] => { results := [.lit (.bool true)], args := [d1, d2, d3] }
  | _ => none }
def dijkDistsRow : OpenClaim := { program := "ytmhgemolgcnpoaa", sum := "b37e5db4545561616d0fec2d3caa90b45d3a0371276d46d10d5bf255e767dfac", func := "fellwalker/felllaw.DijkDists", spec := "dijkDists", unfollowed := true, recurses := true, plainKeys := false, apart := false }
def DijkDistsSaid : Prop := dijkDistsRow.holds Try.pinned (OpenSpec.ofChange dijkDistsSpec)

/-- ITS FALSE NEIGHBOUR: 'it returns false'. Refute it at one input. -/
def dijkDistsWrong : ChangeSpec := { name := "dijkDists", fn := fun _ => fun
  | [d1, d2, d3] => { results := [.lit (.bool false)], args := [d1, d2, d3] }
  | _ => none }
def DijkDistsWrongFalsely : Prop := dijkDistsRow.holds Try.pinned (OpenSpec.ofChange dijkDistsWrong)

/- THE SECOND FORM. 'bulk': how many values and letters a reading holds, each counted each time it is reached (what is shared counts as often as it is met; a slice's spare places count too). A statement '..UptoSaid' is the law's where the arguments, and the package variables that the reading takes, are together of bulk at most 1048576: NARROWER than '..Said'. Prove '..Said' where nothing that the law and all that it calls make is longer than what came in: it says more and counts as full. Else prove '..UptoSaid'. A law counts once. -/
mutual
def uptoBulk {H : Type} : DataW H → Nat
  | .lit (.string bytes) => bytes.length + 1
  | .lit _ => 1
  | .nil => 1
  | .ptr d => uptoBulk d + 1
  | .slice elems spare => uptoBulkAll elems + uptoBulkAll spare + 1
  | .agg parts => uptoBulkAll parts + 1
  | .iface _ d => uptoBulk d + 1
  | .map entries => uptoBulkEntries entries + 1
  | .held _ => 1
def uptoBulkAll {H : Type} : List (DataW H) → Nat
  | [] => 0
  | d :: r => uptoBulk d + uptoBulkAll r
def uptoBulkEntries {H : Type} : List (Lit × DataW H) → Nat
  | [] => 0
  | x :: r => uptoBulkEntry x + uptoBulkEntries r
def uptoBulkEntry {H : Type} : Lit × DataW H → Nat
  | (.string bytes, d) => bytes.length + uptoBulk d + 1
  | (_, d) => uptoBulk d + 1
 end
def uptoSmall : (H : Type) → List (DataW H) → Bool := fun _ ds => decide (uptoBulkAll ds ≤ 1048576)
def OpenSpec.upto (s : _root_.Go.ChangeSpec) : _root_.Go.OpenSpec := { _root_.Go.OpenSpec.ofChange s with cond := some uptoSmall }

/-- 'felllaw.FloydWides', WHERE WHAT IT READS IS OF BULK AT MOST 1048576: true; the input reads as it did. -/
def floydWidesUptoRow : OpenClaim := { program := "ytmhgemolgcnpoaa", sum := "b37e5db4545561616d0fec2d3caa90b45d3a0371276d46d10d5bf255e767dfac", func := "fellwalker/felllaw.FloydWides", spec := "floydWides", unfollowed := true, recurses := true, plainKeys := false, apart := false, narrowed := true }
def FloydWidesUptoSaid : Prop := floydWidesUptoRow.holds Try.pinned (OpenSpec.upto floydWidesSpec)

/-- 'felllaw.WalkCosts', WHERE WHAT IT READS IS OF BULK AT MOST 1048576: true; the input reads as it did. -/
def walkCostsUptoRow : OpenClaim := { program := "ytmhgemolgcnpoaa", sum := "b37e5db4545561616d0fec2d3caa90b45d3a0371276d46d10d5bf255e767dfac", func := "fellwalker/felllaw.WalkCosts", spec := "walkCosts", plainKeys := false, apart := false, narrowed := true }
def WalkCostsUptoSaid : Prop := walkCostsUptoRow.holds Try.pinned (OpenSpec.upto walkCostsSpec)

/-- 'felllaw.NetGrids', WHERE WHAT IT READS IS OF BULK AT MOST 1048576: true; the input reads as it did. -/
def netGridsUptoRow : OpenClaim := { program := "ytmhgemolgcnpoaa", sum := "b37e5db4545561616d0fec2d3caa90b45d3a0371276d46d10d5bf255e767dfac", func := "fellwalker/felllaw.NetGrids", spec := "netGrids", plainKeys := false, apart := false, narrowed := true }
def NetGridsUptoSaid : Prop := netGridsUptoRow.holds Try.pinned (OpenSpec.upto netGridsSpec)

/-- 'felllaw.BellDists', WHERE WHAT IT READS IS OF BULK AT MOST 1048576: true; the input reads as it did. -/
def bellDistsUptoRow : OpenClaim := { program := "ytmhgemolgcnpoaa", sum := "b37e5db4545561616d0fec2d3caa90b45d3a0371276d46d10d5bf255e767dfac", func := "fellwalker/felllaw.BellDists", spec := "bellDists", plainKeys := false, apart := false, narrowed := true }
def BellDistsUptoSaid : Prop := bellDistsUptoRow.holds Try.pinned (OpenSpec.upto bellDistsSpec)

/-- 'felllaw.JohnFlats', WHERE WHAT IT READS IS OF BULK AT MOST 1048576: true; the input reads as it did. -/
def johnFlatsUptoRow : OpenClaim := { program := "ytmhgemolgcnpoaa", sum := "b37e5db4545561616d0fec2d3caa90b45d3a0371276d46d10d5bf255e767dfac", func := "fellwalker/felllaw.JohnFlats", spec := "johnFlats", plainKeys := false, apart := false, narrowed := true }
def JohnFlatsUptoSaid : Prop := johnFlatsUptoRow.holds Try.pinned (OpenSpec.upto johnFlatsSpec)

/-- 'felllaw.FloydAlls', WHERE WHAT IT READS IS OF BULK AT MOST 1048576: true; the input reads as it did. -/
def floydAllsUptoRow : OpenClaim := { program := "ytmhgemolgcnpoaa", sum := "b37e5db4545561616d0fec2d3caa90b45d3a0371276d46d10d5bf255e767dfac", func := "fellwalker/felllaw.FloydAlls", spec := "floydAlls", unfollowed := true, recurses := true, plainKeys := false, apart := false, narrowed := true }
def FloydAllsUptoSaid : Prop := floydAllsUptoRow.holds Try.pinned (OpenSpec.upto floydAllsSpec)

/-- 'felllaw.HeurChecks', WHERE WHAT IT READS IS OF BULK AT MOST 1048576: true; the input reads as it did. -/
def heurChecksUptoRow : OpenClaim := { program := "ytmhgemolgcnpoaa", sum := "b37e5db4545561616d0fec2d3caa90b45d3a0371276d46d10d5bf255e767dfac", func := "fellwalker/felllaw.HeurChecks", spec := "heurChecks", unfollowed := true, recurses := true, plainKeys := false, apart := false, narrowed := true }
def HeurChecksUptoSaid : Prop := heurChecksUptoRow.holds Try.pinned (OpenSpec.upto heurChecksSpec)

/-- 'felllaw.TwinAparts', WHERE WHAT IT READS IS OF BULK AT MOST 1048576: true; the input reads as it did. -/
def twinApartsUptoRow : OpenClaim := { program := "ytmhgemolgcnpoaa", sum := "b37e5db4545561616d0fec2d3caa90b45d3a0371276d46d10d5bf255e767dfac", func := "fellwalker/felllaw.TwinAparts", spec := "twinAparts", plainKeys := false, apart := false, narrowed := true }
def TwinApartsUptoSaid : Prop := twinApartsUptoRow.holds Try.pinned (OpenSpec.upto twinApartsSpec)

/-- 'felllaw.HeurBounds', WHERE WHAT IT READS IS OF BULK AT MOST 1048576: true; the input reads as it did. -/
def heurBoundsUptoRow : OpenClaim := { program := "ytmhgemolgcnpoaa", sum := "b37e5db4545561616d0fec2d3caa90b45d3a0371276d46d10d5bf255e767dfac", func := "fellwalker/felllaw.HeurBounds", spec := "heurBounds", unfollowed := true, recurses := true, plainKeys := false, apart := false, narrowed := true }
def HeurBoundsUptoSaid : Prop := heurBoundsUptoRow.holds Try.pinned (OpenSpec.upto heurBoundsSpec)

/-- 'felllaw.BellCycles', WHERE WHAT IT READS IS OF BULK AT MOST 1048576: true; the input reads as it did. -/
def bellCyclesUptoRow : OpenClaim := { program := "ytmhgemolgcnpoaa", sum := "b37e5db4545561616d0fec2d3caa90b45d3a0371276d46d10d5bf255e767dfac", func := "fellwalker/felllaw.BellCycles", spec := "bellCycles", plainKeys := false, apart := false, narrowed := true }
def BellCyclesUptoSaid : Prop := bellCyclesUptoRow.holds Try.pinned (OpenSpec.upto bellCyclesSpec)

/-- 'felllaw.SpanNecks', WHERE WHAT IT READS IS OF BULK AT MOST 1048576: true; the input reads as it did. -/
def spanNecksUptoRow : OpenClaim := { program := "ytmhgemolgcnpoaa", sum := "b37e5db4545561616d0fec2d3caa90b45d3a0371276d46d10d5bf255e767dfac", func := "fellwalker/felllaw.SpanNecks", spec := "spanNecks", unfollowed := true, recurses := true, plainKeys := false, apart := false, narrowed := true }
def SpanNecksUptoSaid : Prop := spanNecksUptoRow.holds Try.pinned (OpenSpec.upto spanNecksSpec)

/-- 'felllaw.DijkDists', WHERE WHAT IT READS IS OF BULK AT MOST 1048576: true; the input reads as it did. -/
def dijkDistsUptoRow : OpenClaim := { program := "ytmhgemolgcnpoaa", sum := "b37e5db4545561616d0fec2d3caa90b45d3a0371276d46d10d5bf255e767dfac", func := "fellwalker/felllaw.DijkDists", spec := "dijkDists", unfollowed := true, recurses := true, plainKeys := false, apart := false, narrowed := true }
def DijkDistsUptoSaid : Prop := dijkDistsUptoRow.holds Try.pinned (OpenSpec.upto dijkDistsSpec)

end Rows
end Go.Proofs.Ytmhgemolgcnpoaa
