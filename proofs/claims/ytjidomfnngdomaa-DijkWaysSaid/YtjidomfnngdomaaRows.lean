/-
  No cell of these rows narrows 'for every input' (looked for: loops, veiled, ifaces, maps, wideKeys, modest, calm, conditions, laid).
  DERIVED. THE GIVEN ROWS OF THIS SEAT. 12 by the template 'for every input the law returns true; each argument reads behind the call as it read before'; 0 by the template 'total and deterministic' (their statements: YtjidomfnngdomaaTotals.lean).
  GIVEN WITH THE SEED: the statements are not yours to turn. If you find one false, say at which input.
  Laid BY PROGRAM, IN A SANDBOX (cutbox-rows.mjs): the forced cells as the released guide's own fill.sh prints them over the translation a4ab22f8d6c55ce7… (all of the seat's roots in one cut). By AI agents, Wed Nov 11 2026. No macro, syntax, notation, axiom, sorry.
-/
import Derived.Test.YtjidomfnngdomaaChecked
import GoSem.Claim
import GoSem.ClaimJoined
import GoSem.ClaimMapViews
import Derived.JoinedTies
import Derived.KernelRfl
namespace Go.Proofs.Ytjidomfnngdomaa
/- THE CELL 'sum', in the pinned program and in every row, IS THE sha256 OF THE DUMP (.gsa) THAT YtjidomfnngdomaaProg.lean LOADS. Nothing in Lean hashes anything: it is a label: what it is worth is what the hold of that sum in a sandbox is worth. -/
noncomputable def Try.pinned : Pinned := { name := "ytjidomfnngdomaa", sum := "a4ab22f8d6c55ce7128d62a91aa901a29d7b218707f630e21988bbf2446d3b54", checked := Try.checked }
namespace Rows
def none {H : Type} : Left H := { results := [], args := [] }

/-- 'felllaw.NetGrids': WHATEVER THE INPUT: true; the input reads as it did. -/
def netGridsSpec : ChangeSpec := { name := "netGrids", fn := fun _ => fun
  | [d] => { results := [.lit (.bool true)], args := [d] }
  | _ => none }
def netGridsRow : OpenClaim := { program := "ytjidomfnngdomaa", sum := "a4ab22f8d6c55ce7128d62a91aa901a29d7b218707f630e21988bbf2446d3b54", func := "fellwalker/felllaw.NetGrids", spec := "netGrids", plainKeys := false, apart := false }
def NetGridsSaid : Prop := netGridsRow.holds Try.pinned (OpenSpec.ofChange netGridsSpec)

/-- ITS FALSE NEIGHBOUR: 'it returns false'. Refute it at one input. -/
def netGridsWrong : ChangeSpec := { name := "netGrids", fn := fun _ => fun
  | [d] => { results := [.lit (.bool false)], args := [d] }
  | _ => none }
def NetGridsWrongFalsely : Prop := netGridsRow.holds Try.pinned (OpenSpec.ofChange netGridsWrong)

/-- 'felllaw.JohnFlats': WHATEVER THE INPUT: true; the input reads as it did. -/
def johnFlatsSpec : ChangeSpec := { name := "johnFlats", fn := fun _ => fun
  | [d1, d2] => { results := [.lit (.bool true)], args := [d1, d2] }
  | _ => none }
def johnFlatsRow : OpenClaim := { program := "ytjidomfnngdomaa", sum := "a4ab22f8d6c55ce7128d62a91aa901a29d7b218707f630e21988bbf2446d3b54", func := "fellwalker/felllaw.JohnFlats", spec := "johnFlats", plainKeys := false, apart := false }
def JohnFlatsSaid : Prop := johnFlatsRow.holds Try.pinned (OpenSpec.ofChange johnFlatsSpec)

/-- ITS FALSE NEIGHBOUR: 'it returns false'. Refute it at one input. -/
def johnFlatsWrong : ChangeSpec := { name := "johnFlats", fn := fun _ => fun
  | [d1, d2] => { results := [.lit (.bool false)], args := [d1, d2] }
  | _ => none }
def JohnFlatsWrongFalsely : Prop := johnFlatsRow.holds Try.pinned (OpenSpec.ofChange johnFlatsWrong)

/-- 'felllaw.HeurChecks': WHATEVER THE INPUT: true; the input reads as it did. -/
def heurChecksSpec : ChangeSpec := { name := "heurChecks", fn := fun _ => fun
  | [d1, d2, d3] => { results := [.lit (.bool true)], args := [d1, d2, d3] }
  | _ => none }
def heurChecksRow : OpenClaim := { program := "ytjidomfnngdomaa", sum := "a4ab22f8d6c55ce7128d62a91aa901a29d7b218707f630e21988bbf2446d3b54", func := "fellwalker/felllaw.HeurChecks", spec := "heurChecks", unfollowed := true, recurses := true, plainKeys := false, apart := false }
def HeurChecksSaid : Prop := heurChecksRow.holds Try.pinned (OpenSpec.ofChange heurChecksSpec)

/-- ITS FALSE NEIGHBOUR: 'it returns false'. Refute it at one input. -/
def heurChecksWrong : ChangeSpec := { name := "heurChecks", fn := fun _ => fun
  | [d1, d2, d3] => { results := [.lit (.bool false)], args := [d1, d2, d3] }
  | _ => none }
def HeurChecksWrongFalsely : Prop := heurChecksRow.holds Try.pinned (OpenSpec.ofChange heurChecksWrong)

/-- 'felllaw.TwinAparts': WHATEVER THE INPUT: true; the input reads as it did. -/
def twinApartsSpec : ChangeSpec := { name := "twinAparts", fn := fun _ => fun
  | [d1, d2, d3] => { results := [.lit (.bool true)], args := [d1, d2, d3] }
  | _ => none }
def twinApartsRow : OpenClaim := { program := "ytjidomfnngdomaa", sum := "a4ab22f8d6c55ce7128d62a91aa901a29d7b218707f630e21988bbf2446d3b54", func := "fellwalker/felllaw.TwinAparts", spec := "twinAparts", plainKeys := false, apart := false }
def TwinApartsSaid : Prop := twinApartsRow.holds Try.pinned (OpenSpec.ofChange twinApartsSpec)

/-- ITS FALSE NEIGHBOUR: 'it returns false'. Refute it at one input. -/
def twinApartsWrong : ChangeSpec := { name := "twinAparts", fn := fun _ => fun
  | [d1, d2, d3] => { results := [.lit (.bool false)], args := [d1, d2, d3] }
  | _ => none }
def TwinApartsWrongFalsely : Prop := twinApartsRow.holds Try.pinned (OpenSpec.ofChange twinApartsWrong)

/-- 'felllaw.HeurBounds': WHATEVER THE INPUT: true; the input reads as it did. -/
def heurBoundsSpec : ChangeSpec := { name := "heurBounds", fn := fun _ => fun
  | [d1, d2, d3, d4] => { results := [.lit (.bool true)], args := [d1, d2, d3, d4] }
  | _ => none }
def heurBoundsRow : OpenClaim := { program := "ytjidomfnngdomaa", sum := "a4ab22f8d6c55ce7128d62a91aa901a29d7b218707f630e21988bbf2446d3b54", func := "fellwalker/felllaw.HeurBounds", spec := "heurBounds", unfollowed := true, recurses := true, plainKeys := false, apart := false }
def HeurBoundsSaid : Prop := heurBoundsRow.holds Try.pinned (OpenSpec.ofChange heurBoundsSpec)

/-- ITS FALSE NEIGHBOUR: 'it returns false'. Refute it at one input. -/
def heurBoundsWrong : ChangeSpec := { name := "heurBounds", fn := fun _ => fun
  | [d1, d2, d3, d4] => { results := [.lit (.bool false)], args := [d1, d2, d3, d4] }
  | _ => none }
def HeurBoundsWrongFalsely : Prop := heurBoundsRow.holds Try.pinned (OpenSpec.ofChange heurBoundsWrong)

/-- 'felllaw.BellCycles': WHATEVER THE INPUT: true; the input reads as it did. -/
def bellCyclesSpec : ChangeSpec := { name := "bellCycles", fn := fun _ => fun
  | [d] => { results := [.lit (.bool true)], args := [d] }
  | _ => none }
def bellCyclesRow : OpenClaim := { program := "ytjidomfnngdomaa", sum := "a4ab22f8d6c55ce7128d62a91aa901a29d7b218707f630e21988bbf2446d3b54", func := "fellwalker/felllaw.BellCycles", spec := "bellCycles", plainKeys := false, apart := false }
def BellCyclesSaid : Prop := bellCyclesRow.holds Try.pinned (OpenSpec.ofChange bellCyclesSpec)

/-- ITS FALSE NEIGHBOUR: 'it returns false'. Refute it at one input. -/
def bellCyclesWrong : ChangeSpec := { name := "bellCycles", fn := fun _ => fun
  | [d] => { results := [.lit (.bool false)], args := [d] }
  | _ => none }
def BellCyclesWrongFalsely : Prop := bellCyclesRow.holds Try.pinned (OpenSpec.ofChange bellCyclesWrong)

/-- 'felllaw.SpanNecks': WHATEVER THE INPUT: true; the input reads as it did. -/
def spanNecksSpec : ChangeSpec := { name := "spanNecks", fn := fun _ => fun
  | [d1, d2, d3] => { results := [.lit (.bool true)], args := [d1, d2, d3] }
  | _ => none }
def spanNecksRow : OpenClaim := { program := "ytjidomfnngdomaa", sum := "a4ab22f8d6c55ce7128d62a91aa901a29d7b218707f630e21988bbf2446d3b54", func := "fellwalker/felllaw.SpanNecks", spec := "spanNecks", unfollowed := true, recurses := true, plainKeys := false, apart := false }
def SpanNecksSaid : Prop := spanNecksRow.holds Try.pinned (OpenSpec.ofChange spanNecksSpec)

/-- ITS FALSE NEIGHBOUR: 'it returns false'. Refute it at one input. -/
def spanNecksWrong : ChangeSpec := { name := "spanNecks", fn := fun _ => fun
  | [d1, d2, d3] => { results := [.lit (.bool false)], args := [d1, d2, d3] }
  | _ => none }
def SpanNecksWrongFalsely : Prop := spanNecksRow.holds Try.pinned (OpenSpec.ofChange spanNecksWrong)

/-- 'felllaw.HierSays': WHATEVER THE INPUT: true; the input reads as it did. -/
def hierSaysSpec : ChangeSpec := { name := "hierSays", fn := fun _ => fun
  | [d1, d2, d3] => { results := [.lit (.bool true)], args := [d1, d2, d3] }
  | _ => none }
def hierSaysRow : OpenClaim := { program := "ytjidomfnngdomaa", sum := "a4ab22f8d6c55ce7128d62a91aa901a29d7b218707f630e21988bbf2446d3b54", func := "fellwalker/felllaw.HierSays", spec := "hierSays", unfollowed := true, recurses := true, plainKeys := false, apart := false }
def HierSaysSaid : Prop := hierSaysRow.holds Try.pinned (OpenSpec.ofChange hierSaysSpec)

/-- ITS FALSE NEIGHBOUR: 'it returns false'. Refute it at one input. -/
def hierSaysWrong : ChangeSpec := { name := "hierSays", fn := fun _ => fun
  | [d1, d2, d3] => { results := [.lit (.bool false)], args := [d1, d2, d3] }
  | _ => none }
def HierSaysWrongFalsely : Prop := hierSaysRow.holds Try.pinned (OpenSpec.ofChange hierSaysWrong)

/-- 'felllaw.DijkDists': WHATEVER THE INPUT: true; the input reads as it did. -/
def dijkDistsSpec : ChangeSpec := { name := "dijkDists", fn := fun _ => fun
  | [d1, d2, d3] => { results := [.lit (.bool true)], args := [d1, d2, d3] }
  | _ => none }
def dijkDistsRow : OpenClaim := { program := "ytjidomfnngdomaa", sum := "a4ab22f8d6c55ce7128d62a91aa901a29d7b218707f630e21988bbf2446d3b54", func := "fellwalker/felllaw.DijkDists", spec := "dijkDists", unfollowed := true, recurses := true, plainKeys := false, apart := false }
def DijkDistsSaid : Prop := dijkDistsRow.holds Try.pinned (OpenSpec.ofChange dijkDistsSpec)

/-- ITS FALSE NEIGHBOUR: 'it returns false'. Refute it at one input. -/
def dijkDistsWrong : ChangeSpec := { name := "dijkDists", fn := fun _ => fun
  | [d1, d2, d3] => { results := [.lit (.bool false)], args := [d1, d2, d3] }
  | _ => none }
def DijkDistsWrongFalsely : Prop := dijkDistsRow.holds Try.pinned (OpenSpec.ofChange dijkDistsWrong)

/-- 'felllaw.DijkWays': WHATEVER THE INPUT: true; the input reads as it did. -/
def dijkWaysSpec : ChangeSpec := { name := "dijkWays", fn := fun _ => fun
  | [d1, d2, d3] => { results := [.lit (.bool true)], args := [d1, d2, d3] }
  | _ => none }
def dijkWaysRow : OpenClaim := { program := "ytjidomfnngdomaa", sum := "a4ab22f8d6c55ce7128d62a91aa901a29d7b218707f630e21988bbf2446d3b54", func := "fellwalker/felllaw.DijkWays", spec := "dijkWays", unfollowed := true, recurses := true, plainKeys := false, apart := false }
def DijkWaysSaid : Prop := dijkWaysRow.holds Try.pinned (OpenSpec.ofChange dijkWaysSpec)

/-- ITS FALSE NEIGHBOUR: 'it returns false'. Refute it at one input. -/
def dijkWaysWrong : ChangeSpec := { name := "dijkWays", fn := fun _ => fun
  | [d1, d2, d3] => { results := [.lit (.bool false)], args := [d1, d2, d3] }
  | _ => none }
def DijkWaysWrongFalsely : Prop := dijkWaysRow.holds Try.pinned (OpenSpec.ofChange dijkWaysWrong)

/-- 'felllaw.DagSays': WHATEVER THE INPUT: true; the input reads as it did. -/
def dagSaysSpec : ChangeSpec := { name := "dagSays", fn := fun _ => fun
  | [d] => { results := [.lit (.bool true)], args := [d] }
  | _ => none }
def dagSaysRow : OpenClaim := { program := "ytjidomfnngdomaa", sum := "a4ab22f8d6c55ce7128d62a91aa901a29d7b218707f630e21988bbf2446d3b54", func := "fellwalker/felllaw.DagSays", spec := "dagSays", unfollowed := true, recurses := true, plainKeys := false, apart := false }
def DagSaysSaid : Prop := dagSaysRow.holds Try.pinned (OpenSpec.ofChange dagSaysSpec)

/-- ITS FALSE NEIGHBOUR: 'it returns false'. Refute it at one input. -/
def dagSaysWrong : ChangeSpec := { name := "dagSays", fn := fun _ => fun
  | [d] => { results := [.lit (.bool false)], args := [d] }
  | _ => none }
def DagSaysWrongFalsely : Prop := dagSaysRow.holds Try.pinned (OpenSpec.ofChange dagSaysWrong)

/-- 'felllaw.HeapSorts': WHATEVER THE INPUT: true; the input reads as it did. -/
def heapSortsSpec : ChangeSpec := { name := "heapSorts", fn := fun _ => fun
  | [d1, d2] => { results := [.lit (.bool true)], args := [d1, d2] }
  | _ => none }
def heapSortsRow : OpenClaim := { program := "ytjidomfnngdomaa", sum := "a4ab22f8d6c55ce7128d62a91aa901a29d7b218707f630e21988bbf2446d3b54", func := "fellwalker/felllaw.HeapSorts", spec := "heapSorts", inPlace := ["slices.overlaps[fellwalker/api.Pop]"], unfollowed := true, recurses := true, plainKeys := false, apart := false }
def HeapSortsSaid : Prop := heapSortsRow.holds Try.pinned (OpenSpec.ofChange heapSortsSpec)

/-- ITS FALSE NEIGHBOUR: 'it returns false'. Refute it at one input. -/
def heapSortsWrong : ChangeSpec := { name := "heapSorts", fn := fun _ => fun
  | [d1, d2] => { results := [.lit (.bool false)], args := [d1, d2] }
  | _ => none }
def HeapSortsWrongFalsely : Prop := heapSortsRow.holds Try.pinned (OpenSpec.ofChange heapSortsWrong)

/- THE SECOND FORM. 'bulk': how many values and letters a reading holds, each counted each time it is reached (what is shared counts as often as it is met; a slice's spare places count too). A statement '..UptoSaid' is the law's where the arguments, and the package variables that the reading takes, are together of bulk at most 1048576: NARROWER than '..Said'. Prove '..Said' where nothing that the law and all that it calls make is longer than what came in: it says more and counts as full. Else prove '..UptoSaid'. A law counts once. -/
mutual
def uptoBulk {H : Type} : DataW H → Nat
  | .lit (.string bytes) => bytes.length + 1
  | .lit _ => 1
  | .nil => 1
  | .ptr d => uptoBulk d + 1
  | .slice elems spare => uptoBulkAll elems + uptoBulkAll spare + 1
  | .agg parts => uptoBulkAll parts + 1
  | .iface _ d => uptoBulk d + 1
  | .map entries => uptoBulkEntries entries + 1
  | .held _ => 1
def uptoBulkAll {H : Type} : List (DataW H) → Nat
  | [] => 0
  | d :: r => uptoBulk d + uptoBulkAll r
def uptoBulkEntries {H : Type} : List (Lit × DataW H) → Nat
  | [] => 0
  | x :: r => uptoBulkEntry x + uptoBulkEntries r
def uptoBulkEntry {H : Type} : Lit × DataW H → Nat
  | (.string bytes, d) => bytes.length + uptoBulk d + 1
  | (_, d) => uptoBulk d + 1
 end
def uptoSmall : (H : Type) → List (DataW H) → Bool := fun _ ds => decide (uptoBulkAll ds ≤ 1048576)
def OpenSpec.upto (s : _root_.Go.ChangeSpec) : _root_.Go.OpenSpec := { _root_.Go.OpenSpec.ofChange s with cond := some uptoSmall }

/-- 'felllaw.NetGrids', WHERE WHAT IT READS IS OF BULK AT MOST 1048576: true; the input reads as it did. -/
def netGridsUptoRow : OpenClaim := { program := "ytjidomfnngdomaa", sum := "a4ab22f8d6c55ce7128d62a91aa901a29d7b218707f630e21988bbf2446d3b54", func := "fellwalker/felllaw.NetGrids", spec := "netGrids", plainKeys := false, apart := false, narrowed := true }
def NetGridsUptoSaid : Prop := netGridsUptoRow.holds Try.pinned (OpenSpec.upto netGridsSpec)

/-- 'felllaw.JohnFlats', WHERE WHAT IT READS IS OF BULK AT MOST 1048576: true; the input reads as it did. -/
def johnFlatsUptoRow : OpenClaim := { program := "ytjidomfnngdomaa", sum := "a4ab22f8d6c55ce7128d62a91aa901a29d7b218707f630e21988bbf2446d3b54", func := "fellwalker/felllaw.JohnFlats", spec := "johnFlats", plainKeys := false, apart := false, narrowed := true }
def JohnFlatsUptoSaid : Prop := johnFlatsUptoRow.holds Try.pinned (OpenSpec.upto johnFlatsSpec)

/-- 'felllaw.HeurChecks', WHERE WHAT IT READS IS OF BULK AT MOST 1048576: true; the input reads as it did. -/
def heurChecksUptoRow : OpenClaim := { program := "ytjidomfnngdomaa", sum := "a4ab22f8d6c55ce7128d62a91aa901a29d7b218707f630e21988bbf2446d3b54", func := "fellwalker/felllaw.HeurChecks", spec := "heurChecks", unfollowed := true, recurses := true, plainKeys := false, apart := false, narrowed := true }
def HeurChecksUptoSaid : Prop := heurChecksUptoRow.holds Try.pinned (OpenSpec.upto heurChecksSpec)

/-- 'felllaw.TwinAparts', WHERE WHAT IT READS IS OF BULK AT MOST 1048576: true; the input reads as it did. -/
def twinApartsUptoRow : OpenClaim := { program := "ytjidomfnngdomaa", sum := "a4ab22f8d6c55ce7128d62a91aa901a29d7b218707f630e21988bbf2446d3b54", func := "fellwalker/felllaw.TwinAparts", spec := "twinAparts", plainKeys := false, apart := false, narrowed := true }
def TwinApartsUptoSaid : Prop := twinApartsUptoRow.holds Try.pinned (OpenSpec.upto twinApartsSpec)

/-- 'felllaw.HeurBounds', WHERE WHAT IT READS IS OF BULK AT MOST 1048576: true; the input reads as it did. -/
def heurBoundsUptoRow : OpenClaim := { program := "ytjidomfnngdomaa", sum := "a4ab22f8d6c55ce7128d62a91aa901a29d7b218707f630e21988bbf2446d3b54", func := "fellwalker/felllaw.HeurBounds", spec := "heurBounds", unfollowed := true, recurses := true, plainKeys := false, apart := false, narrowed := true }
def HeurBoundsUptoSaid : Prop := heurBoundsUptoRow.holds Try.pinned (OpenSpec.upto heurBoundsSpec)

/-- 'felllaw.BellCycles', WHERE WHAT IT READS IS OF BULK AT MOST 1048576: true; the input reads as it did. -/
def bellCyclesUptoRow : OpenClaim := { program := "ytjidomfnngdomaa", sum := "a4ab22f8d6c55ce7128d62a91aa901a29d7b218707f630e21988bbf2446d3b54", func := "fellwalker/felllaw.BellCycles", spec := "bellCycles", plainKeys := false, apart := false, narrowed := true }
def BellCyclesUptoSaid : Prop := bellCyclesUptoRow.holds Try.pinned (OpenSpec.upto bellCyclesSpec)

/-- 'felllaw.SpanNecks', WHERE WHAT IT READS IS OF BULK AT MOST 1048576: true; the input reads as it did. -/
def spanNecksUptoRow : OpenClaim := { program := "ytjidomfnngdomaa", sum := "a4ab22f8d6c55ce7128d62a91aa901a29d7b218707f630e21988bbf2446d3b54", func := "fellwalker/felllaw.SpanNecks", spec := "spanNecks", unfollowed := true, recurses := true, plainKeys := false, apart := false, narrowed := true }
def SpanNecksUptoSaid : Prop := spanNecksUptoRow.holds Try.pinned (OpenSpec.upto spanNecksSpec)

/-- 'felllaw.HierSays', WHERE WHAT IT READS IS OF BULK AT MOST 1048576: true; the input reads as it did. -/
def hierSaysUptoRow : OpenClaim := { program := "ytjidomfnngdomaa", sum := "a4ab22f8d6c55ce7128d62a91aa901a29d7b218707f630e21988bbf2446d3b54", func := "fellwalker/felllaw.HierSays", spec := "hierSays", unfollowed := true, recurses := true, plainKeys := false, apart := false, narrowed := true }
def HierSaysUptoSaid : Prop := hierSaysUptoRow.holds Try.pinned (OpenSpec.upto hierSaysSpec)

/-- 'felllaw.DijkDists', WHERE WHAT IT READS IS OF BULK AT MOST 1048576: true; the input reads as it did. -/
def dijkDistsUptoRow : OpenClaim := { program := "ytjidomfnngdomaa", sum := "a4ab22f8d6c55ce7128d62a91aa901a29d7b218707f630e21988bbf2446d3b54", func := "fellwalker/felllaw.DijkDists", spec := "dijkDists", unfollowed := true, recurses := true, plainKeys := false, apart := false, narrowed := true }
def DijkDistsUptoSaid : Prop := dijkDistsUptoRow.holds Try.pinned (OpenSpec.upto dijkDistsSpec)

/-- 'felllaw.DijkWays', WHERE WHAT IT READS IS OF BULK AT MOST 1048576: true; the input reads as it did. -/
def dijkWaysUptoRow : OpenClaim := { program := "ytjidomfnngdomaa", sum := "a4ab22f8d6c55ce7128d62a91aa901a29d7b218707f630e21988bbf2446d3b54", func := "fellwalker/felllaw.DijkWays", spec := "dijkWays", unfollowed := true, recurses := true, plainKeys := false, apart := false, narrowed := true }
def DijkWaysUptoSaid : Prop := dijkWaysUptoRow.holds Try.pinned (OpenSpec.upto dijkWaysSpec)

/-- 'felllaw.DagSays', WHERE WHAT IT READS IS OF BULK AT MOST 1048576: true; the input reads as it did. -/
def dagSaysUptoRow : OpenClaim := { program := "ytjidomfnngdomaa", sum := "a4ab22f8d6c55ce7128d62a91aa901a29d7b218707f630e21988bbf2446d3b54", func := "fellwalker/felllaw.DagSays", spec := "dagSays", unfollowed := true, recurses := true, plainKeys := false, apart := false, narrowed := true }
def DagSaysUptoSaid : Prop := dagSaysUptoRow.holds Try.pinned (OpenSpec.upto dagSaysSpec)

/-- 'felllaw.HeapSorts', WHERE WHAT IT READS IS OF BULK AT MOST 1048576: true; the input reads as it did. -/
def heapSortsUptoRow : OpenClaim := { program := "ytjidomfnngdomaa", sum := "a4ab22f8d6c55ce7128d62a91aa901a29d7b218707f630e21988bbf2446d3b54", func := "fellwalker/felllaw.HeapSorts", spec := "heapSorts", inPlace := ["slices.overlaps[fellwalker/api.Pop]"], unfollowed := true, recurses := true, plainKeys := false, apart := false, narrowed := true }
def HeapSortsUptoSaid : Prop := heapSortsUptoRow.holds Try.pinned (OpenSpec.upto heapSortsSpec)

end Rows
end Go.Proofs.Ytjidomfnngdomaa
