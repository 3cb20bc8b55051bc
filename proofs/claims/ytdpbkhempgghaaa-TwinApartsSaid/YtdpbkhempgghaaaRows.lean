/-
  No cell of these rows narrows 'for every input' (looked for: loops, veiled, ifaces, maps, wideKeys, modest, calm, conditions, laid).
  DERIVED. THE GIVEN ROWS OF THIS SEAT. 11 by the template 'for every input the law returns true; each argument reads behind the call as it read before'; 0 by the template 'total and deterministic' (their statements: YtdpbkhempgghaaaTotals.lean).
  GIVEN WITH THE SEED: the statements are not yours to turn. If you find one false, say at which input.
  Laid BY PROGRAM, IN A SANDBOX (cutbox-rows.mjs): the forced cells as the released guide's own fill.sh prints them over the translation dc4b02ae5513773b… (all of the seat's roots in one cut). By AI agents, Wed Nov 11 2026. No macro, syntax, notation, axiom, sorry.
-/
import Derived.Test.YtdpbkhempgghaaaChecked
import GoSem.Claim
import GoSem.ClaimJoined
import GoSem.ClaimMapViews
import Derived.JoinedTies
import Derived.KernelRfl
namespace Go.Proofs.Ytdpbkhempgghaaa
/- THE CELL 'sum', in the pinned program and in every row, IS THE sha256 OF THE DUMP (.gsa) THAT YtdpbkhempgghaaaProg.lean LOADS. Nothing in Lean hashes anything: it is a label: what it is worth is what the hold of that sum in a sandbox is worth. -/
noncomputable def Try.pinned : Pinned := { name := "ytdpbkhempgghaaa", sum := "dc4b02ae5513773b2e4f453662c181b76470c33f410d5e70ca83ce7145ad6f9a", checked := Try.checked }
namespace Rows
def none {H : Type} : Left H := { results := [], args := [] }

/-- 'felllaw.WalkCuts': WHATEVER THE INPUT: true; the input reads as it did. -/
def walkCutsSpec : ChangeSpec := { name := "walkCuts", fn := fun _ => fun
  | [d1, d2] => { results := [.lit (.bool true)], args := [d1, d2] }
  | _ => none }
def walkCutsRow : OpenClaim := { program := "ytdpbkhempgghaaa", sum := "dc4b02ae5513773b2e4f453662c181b76470c33f410d5e70ca83ce7145ad6f9a", func := "fellwalker/felllaw.WalkCuts", spec := "walkCuts", recurses := true, plainKeys := false, apart := false }
def WalkCutsSaid : Prop := walkCutsRow.holds Try.pinned (OpenSpec.ofChange walkCutsSpec)

/-- ITS FALSE NEIGHBOUR: 'it returns false'. Refute it at one input. -/
def walkCutsWrong : ChangeSpec := { name := "walkCuts", fn := fun _ => fun
  | [d1, d2] => { results := [.lit (.bool false)], args := [d1, d2] }
  | _ => none }
def WalkCutsWrongFalsely : Prop := walkCutsRow.holds Try.pinned (OpenSpec.ofChange walkCutsWrong)

/-- 'felltop.TopCut': WHATEVER THE INPUT: true; the input reads as it did. -/
def topCutSpec : ChangeSpec := { name := "topCut", fn := fun _ => fun
  | [d1, d2, d3] => { results := [.lit (.bool true)], args := [d1, d2, d3] }
  | _ => none }
def topCutRow : OpenClaim := { program := "ytdpbkhempgghaaa", sum := "dc4b02ae5513773b2e4f453662c181b76470c33f410d5e70ca83ce7145ad6f9a", func := "fellwalker/felltop.TopCut", spec := "topCut", unfollowed := true, recurses := true, plainKeys := false, apart := false }
def TopCutSaid : Prop := topCutRow.holds Try.pinned (OpenSpec.ofChange topCutSpec)

/-- ITS FALSE NEIGHBOUR: 'it returns false'. Refute it at one input. -/
def topCutWrong : ChangeSpec := { name := "topCut", fn := fun _ => fun
  | [d1, d2, d3] => { results := [.lit (.bool false)], args := [d1, d2, d3] }
  | _ => none }
def TopCutWrongFalsely : Prop := topCutRow.holds Try.pinned (OpenSpec.ofChange topCutWrong)

/-- 'felllaw.TwinAparts': WHATEVER THE INPUT: true; the input reads as it did. -/
def twinApartsSpec : ChangeSpec := { name := "twinAparts", fn := fun _ => fun
  | [d1, d2, d3] => { results := [.lit (.bool true)], args := [d1, d2, d3] }
  | _ => none }
def twinApartsRow : OpenClaim := { program := "ytdpbkhempgghaaa", sum := "dc4b02ae5513773b2e4f453662c181b76470c33f410d5e70ca83ce7145ad6f9a", func := "fellwalker/felllaw.TwinAparts", spec := "twinAparts", plainKeys := false, apart := false }
def TwinApartsSaid : Prop := twinApartsRow.holds Try.pinned (OpenSpec.ofChange twinApartsSpec)

/-- ITS FALSE NEIGHBOUR: 'it returns false'. Refute it at one input. -/
def twinApartsWrong : ChangeSpec := { name := "twinAparts", fn := fun _ => fun
  | [d1, d2, d3] => { results := [.lit (.bool false)], args := [d1, d2, d3] }
  | _ => none }
def TwinApartsWrongFalsely : Prop := twinApartsRow.holds Try.pinned (OpenSpec.ofChange twinApartsWrong)

/-- 'felllaw.HeurBounds': WHATEVER THE INPUT: true; the input reads as it did. -/
def heurBoundsSpec : ChangeSpec := { name := "heurBounds", fn := fun _ => fun
  | [d1, d2, d3, d4] => { results := [.lit (.bool true)], args := [d1, d2, d3, d4] }
  | _ => none }
def heurBoundsRow : OpenClaim := { program := "ytdpbkhempgghaaa", sum := "dc4b02ae5513773b2e4f453662c181b76470c33f410d5e70ca83ce7145ad6f9a", func := "fellwalker/felllaw.HeurBounds", spec := "heurBounds", unfollowed := true, recurses := true, plainKeys := false, apart := false }
def HeurBoundsSaid : Prop := heurBoundsRow.holds Try.pinned (OpenSpec.ofChange heurBoundsSpec)

/-- ITS FALSE NEIGHBOUR: 'it returns false'. Refute it at one input. -/
def heurBoundsWrong : ChangeSpec := { name := "heurBounds", fn := fun _ => fun
  | [d1, d2, d3, d4] => { results := [.lit (.bool false)], args := [d1, d2, d3, d4] }
  | _ => none }
def HeurBoundsWrongFalsely : Prop := heurBoundsRow.holds Try.pinned (OpenSpec.ofChange heurBoundsWrong)

/-- 'felltop.TopMarks': WHATEVER THE INPUT: true; the input reads as it did. -/
def topMarksSpec : ChangeSpec := { name := "topMarks", fn := fun _ => fun
  | [d1, d2, d3, d4] => { results := [.lit (.bool true)], args := [d1, d2, d3, d4] }
  | _ => none }
def topMarksRow : OpenClaim := { program := "ytdpbkhempgghaaa", sum := "dc4b02ae5513773b2e4f453662c181b76470c33f410d5e70ca83ce7145ad6f9a", func := "fellwalker/felltop.TopMarks", spec := "topMarks", unfollowed := true, recurses := true, plainKeys := false, apart := false }
def TopMarksSaid : Prop := topMarksRow.holds Try.pinned (OpenSpec.ofChange topMarksSpec)

/-- ITS FALSE NEIGHBOUR: 'it returns false'. Refute it at one input. -/
def topMarksWrong : ChangeSpec := { name := "topMarks", fn := fun _ => fun
  | [d1, d2, d3, d4] => { results := [.lit (.bool false)], args := [d1, d2, d3, d4] }
  | _ => none }
def TopMarksWrongFalsely : Prop := topMarksRow.holds Try.pinned (OpenSpec.ofChange topMarksWrong)

/-- 'felllaw.FlowSays': WHATEVER THE INPUT: true; the input reads as it did. -/
def flowSaysSpec : ChangeSpec := { name := "flowSays", fn := fun _ => fun
  | [d1, d2, d3] => { results := [.lit (.bool true)], args := [d1, d2, d3] }
  | _ => none }
def flowSaysRow : OpenClaim := { program := "ytdpbkhempgghaaa", sum := "dc4b02ae5513773b2e4f453662c181b76470c33f410d5e70ca83ce7145ad6f9a", func := "fellwalker/felllaw.FlowSays", spec := "flowSays", unfollowed := true, recurses := true, plainKeys := false, apart := false }
def FlowSaysSaid : Prop := flowSaysRow.holds Try.pinned (OpenSpec.ofChange flowSaysSpec)

/-- ITS FALSE NEIGHBOUR: 'it returns false'. Refute it at one input. -/
def flowSaysWrong : ChangeSpec := { name := "flowSays", fn := fun _ => fun
  | [d1, d2, d3] => { results := [.lit (.bool false)], args := [d1, d2, d3] }
  | _ => none }
def FlowSaysWrongFalsely : Prop := flowSaysRow.holds Try.pinned (OpenSpec.ofChange flowSaysWrong)

/-- 'felllaw.DagSays': WHATEVER THE INPUT: true; the input reads as it did. -/
def dagSaysSpec : ChangeSpec := { name := "dagSays", fn := fun _ => fun
  | [d] => { results := [.lit (.bool true)], args := [d] }
  | _ => none }
def dagSaysRow : OpenClaim := { program := "ytdpbkhempgghaaa", sum := "dc4b02ae5513773b2e4f453662c181b76470c33f410d5e70ca83ce7145ad6f9a", func := "fellwalker/felllaw.DagSays", spec := "dagSays", unfollowed := true, recurses := true, plainKeys := false, apart := false }
def DagSaysSaid : Prop := dagSaysRow.holds Try.pinned (OpenSpec.ofChange dagSaysSpec)

/-- ITS FALSE NEIGHBOUR: 'it returns false'. Refute it at one input. -/
def dagSaysWrong : ChangeSpec := { name := "dagSays", fn := fun _ => fun
  | [d] => { results := [.lit (.bool false)], args := [d] }
  | _ => none }
def DagSaysWrongFalsely : Prop := dagSaysRow.holds Try.pinned (OpenSpec.ofChange dagSaysWrong)

/-- 'felllaw.HeapSorts': WHATEVER THE INPUT: true; the input reads as it did. -/
def heapSortsSpec : ChangeSpec := { name := "heapSorts", fn := fun _ => fun
  | [d1, d2] => { results := [.lit (.bool true)], args := [d1, d2] }
  | _ => none }
def heapSortsRow : OpenClaim := { program := "ytdpbkhempgghaaa", sum := "dc4b02ae5513773b2e4f453662c181b76470c33f410d5e70ca83ce7145ad6f9a", func := "fellwalker/felllaw.HeapSorts", spec := "heapSorts", inPlace := ["slices.overlaps[fellwalker/api.Pop]"], unfollowed := true, recurses := true, plainKeys := false, apart := false }
def HeapSortsSaid : Prop := heapSortsRow.holds Try.pinned (OpenSpec.ofChange heapSortsSpec)

/-- ITS FALSE NEIGHBOUR: 'it returns false'. Refute it at one input. -/
def heapSortsWrong : ChangeSpec := { name := "heapSorts", fn := fun _ => fun
  | [d1, d2] => { results := [.lit (.bool false)], args := [d1, d2] }
  | _ => none }
def HeapSortsWrongFalsely : Prop := heapSortsRow.holds Try.pinned (OpenSpec.ofChange heapSortsWrong)

/-- 'felllaw.CompSays': WHATEVER THE INPUT: true; the input reads as it did. -/
def compSaysSpec : ChangeSpec := { name := "compSays", fn := fun _ => fun
  | [d] => { results := [.lit (.bool true)], args := [d] }
  | _ => none }
def compSaysRow : OpenClaim := { program := "ytdpbkhempgghaaa", sum := "dc4b02ae5513773b2e4f453662c181b76470c33f410d5e70ca83ce7145ad6f9a", func := "fellwalker/felllaw.CompSays", spec := "compSays", unfollowed := true, recurses := true, plainKeys := false, apart := false }
def CompSaysSaid : Prop := compSaysRow.holds Try.pinned (OpenSpec.ofChange compSaysSpec)

/-- ITS FALSE NEIGHBOUR: 'it returns false'. Refute it at one input. -/
def compSaysWrong : ChangeSpec := { name := "compSays", fn := fun _ => fun
  | [d] => { results := [.lit (.bool false)], args := [d] }
  | _ => none }
def CompSaysWrongFalsely : Prop := compSaysRow.holds Try.pinned (OpenSpec.ofChange compSaysWrong)

/-- 'felllaw.SpanTrees': WHATEVER THE INPUT: true; the input reads as it did. -/
def spanTreesSpec : ChangeSpec := { name := "spanTrees", fn := fun _ => fun
  | [d] => { results := [.lit (.bool true)], args := [d] }
  | _ => none }
def spanTreesRow : OpenClaim := { program := "ytdpbkhempgghaaa", sum := "dc4b02ae5513773b2e4f453662c181b76470c33f410d5e70ca83ce7145ad6f9a", func := "fellwalker/felllaw.SpanTrees", spec := "spanTrees", inPlace := ["slices.overlaps[fellwalker/api.Pop]"], unfollowed := true, recurses := true, plainKeys := false, apart := false }
def SpanTreesSaid : Prop := spanTreesRow.holds Try.pinned (OpenSpec.ofChange spanTreesSpec)

/-- ITS FALSE NEIGHBOUR: 'it returns false'. Refute it at one input. -/
def spanTreesWrong : ChangeSpec := { name := "spanTrees", fn := fun _ => fun
  | [d] => { results := [.lit (.bool false)], args := [d] }
  | _ => none }
def SpanTreesWrongFalsely : Prop := spanTreesRow.holds Try.pinned (OpenSpec.ofChange spanTreesWrong)

/-- 'felllaw.StarRuns': WHATEVER THE INPUT: true; the input reads as it did. -/
def starRunsSpec : ChangeSpec := { name := "starRuns", fn := fun _ => fun
  | [d1, d2, d3, d4] => { results := [.lit (.bool true)], args := [d1, d2, d3, d4] }
  | _ => none }
def starRunsRow : OpenClaim := { program := "ytdpbkhempgghaaa", sum := "dc4b02ae5513773b2e4f453662c181b76470c33f410d5e70ca83ce7145ad6f9a", func := "fellwalker/felllaw.StarRuns", spec := "starRuns", unfollowed := true, recurses := true, plainKeys := false, apart := false }
def StarRunsSaid : Prop := starRunsRow.holds Try.pinned (OpenSpec.ofChange starRunsSpec)

/-- ITS FALSE NEIGHBOUR: 'it returns false'. Refute it at one input. -/
def starRunsWrong : ChangeSpec := { name := "starRuns", fn := fun _ => fun
  | [d1, d2, d3, d4] => { results := [.lit (.bool false)], args := [d1, d2, d3, d4] }
  | _ => none }
def StarRunsWrongFalsely : Prop := starRunsRow.holds Try.pinned (OpenSpec.ofChange starRunsWrong)

/- THE SECOND FORM. 'bulk': how many values and letters a reading holds, each counted each time it is reached (what is shared counts as often as it is met; a slice's spare places count too). A statement '..UptoSaid' is the law's where the arguments, and the package variables that the reading takes, are together of bulk at most 1048576: NARROWER than '..Said'. Prove '..Said' where nothing that the law and all that it calls make is longer than what came in: it says more and counts as full. Else prove '..UptoSaid'. A law counts once. -/
mutual
def uptoBulk {H : Type} : DataW H → Nat
  | .lit (.string bytes) => bytes.length + 1
  | .lit _ => 1
  | .nil => 1
  | .ptr d => uptoBulk d + 1
  | .slice elems spare => uptoBulkAll elems + uptoBulkAll spare + 1
  | .agg parts => uptoBulkAll parts + 1
  | .iface _ d => uptoBulk d + 1
  | .map entries => uptoBulkEntries entries + 1
  | .held _ => 1
def uptoBulkAll {H : Type} : List (DataW H) → Nat
  | [] => 0
  | d :: r => uptoBulk d + uptoBulkAll r
def uptoBulkEntries {H : Type} : List (Lit × DataW H) → Nat
  | [] => 0
  | x :: r => uptoBulkEntry x + uptoBulkEntries r
def uptoBulkEntry {H : Type} : Lit × DataW H → Nat
  | (.string bytes, d) => bytes.length + uptoBulk d + 1
  | (_, d) => uptoBulk d + 1
 end
def uptoSmall : (H : Type) → List (DataW H) → Bool := fun _ ds => decide (uptoBulkAll ds ≤ 1048576)
def OpenSpec.upto (s : _root_.Go.ChangeSpec) : _root_.Go.OpenSpec := { _root_.Go.OpenSpec.ofChange s with cond := some uptoSmall }

/-- 'felllaw.WalkCuts', WHERE WHAT IT READS IS OF BULK AT MOST 1048576: true; the input reads as it did. -/
def walkCutsUptoRow : OpenClaim := { program := "ytdpbkhempgghaaa", sum := "dc4b02ae5513773b2e4f453662c181b76470c33f410d5e70ca83ce7145ad6f9a", func := "fellwalker/felllaw.WalkCuts", spec := "walkCuts", recurses := true, plainKeys := false, apart := false, narrowed := true }
def WalkCutsUptoSaid : Prop := walkCutsUptoRow.holds Try.pinned (OpenSpec.upto walkCutsSpec)

/-- 'felltop.TopCut', WHERE WHAT IT READS IS OF BULK AT MOST 1048576: true; the input reads as it did. -/
def topCutUptoRow : OpenClaim := { program := "ytdpbkhempgghaaa", sum := "dc4b02ae5513773b2e4f453662c181b76470c33f410d5e70ca83ce7145ad6f9a", func := "fellwalker/felltop.TopCut", spec := "topCut", unfollowed := true, recurses := true, plainKeys := false, apart := false, narrowed := true }
def TopCutUptoSaid : Prop := topCutUptoRow.holds Try.pinned (OpenSpec.upto topCutSpec)

/-- 'felllaw.TwinAparts', WHERE WHAT IT READS IS OF BULK AT MOST 1048576: true; the input reads as it did. -/
def twinApartsUptoRow : OpenClaim := { program := "ytdpbkhempgghaaa", sum := "dc4b02ae5513773b2e4f453662c181b76470c33f410d5e70ca83ce7145ad6f9a", func := "fellwalker/felllaw.TwinAparts", spec := "twinAparts", plainKeys := false, apart := false, narrowed := true }
def TwinApartsUptoSaid : Prop := twinApartsUptoRow.holds Try.pinned (OpenSpec.upto twinApartsSpec)

/-- 'felllaw.HeurBounds', WHERE WHAT IT READS IS OF BULK AT MOST 1048576: true; the input reads as it did. -/
def heurBoundsUptoRow : OpenClaim := { program := "ytdpbkhempgghaaa", sum := "dc4b02ae5513773b2e4f453662c181b76470c33f410d5e70ca83ce7145ad6f9a", func := "fellwalker/felllaw.HeurBounds", spec := "heurBounds", unfollowed := true, recurses := true, plainKeys := false, apart := false, narrowed := true }
def HeurBoundsUptoSaid : Prop := heurBoundsUptoRow.holds Try.pinned (OpenSpec.upto heurBoundsSpec)

/-- 'felltop.TopMarks', WHERE WHAT IT READS IS OF BULK AT MOST 1048576: true; the input reads as it did. -/
def topMarksUptoRow : OpenClaim := { program := "ytdpbkhempgghaaa", sum := "dc4b02ae5513773b2e4f453662c181b76470c33f410d5e70ca83ce7145ad6f9a", func := "fellwalker/felltop.TopMarks", spec := "topMarks", unfollowed := true, recurses := true, plainKeys := false, apart := false, narrowed := true }
def TopMarksUptoSaid : Prop := topMarksUptoRow.holds Try.pinned (OpenSpec.upto topMarksSpec)

/-- 'felllaw.FlowSays', WHERE WHAT IT READS IS OF BULK AT MOST 1048576: true; the input reads as it did. -/
def flowSaysUptoRow : OpenClaim := { program := "ytdpbkhempgghaaa", sum := "dc4b02ae5513773b2e4f453662c181b76470c33f410d5e70ca83ce7145ad6f9a", func := "fellwalker/felllaw.FlowSays", spec := "flowSays", unfollowed := true, recurses := true, plainKeys := false, apart := false, narrowed := true }
def FlowSaysUptoSaid : Prop := flowSaysUptoRow.holds Try.pinned (OpenSpec.upto flowSaysSpec)

/-- 'felllaw.DagSays', WHERE WHAT IT READS IS OF BULK AT MOST 1048576: true; the input reads as it did. -/
def dagSaysUptoRow : OpenClaim := { program := "ytdpbkhempgghaaa", sum := "dc4b02ae5513773b2e4f453662c181b76470c33f410d5e70ca83ce7145ad6f9a", func := "fellwalker/felllaw.DagSays", spec := "dagSays", unfollowed := true, recurses := true, plainKeys := false, apart := false, narrowed := true }
def DagSaysUptoSaid : Prop := dagSaysUptoRow.holds Try.pinned (OpenSpec.upto dagSaysSpec)

/-- 'felllaw.HeapSorts', WHERE WHAT IT READS IS OF BULK AT MOST 1048576: true; the input reads as it did. -/
def heapSortsUptoRow : OpenClaim := { program := "ytdpbkhempgghaaa", sum := "dc4b02ae5513773b2e4f453662c181b76470c33f410d5e70ca83ce7145ad6f9a", func := "fellwalker/felllaw.HeapSorts", spec := "heapSorts", inPlace := ["slices.overlaps[fellwalker/api.Pop]"], unfollowed := true, recurses := true, plainKeys := false, apart := false, narrowed := true }
def HeapSortsUptoSaid : Prop := heapSortsUptoRow.holds Try.pinned (OpenSpec.upto heapSortsSpec)

/-- 'felllaw.CompSays', WHERE WHAT IT READS IS OF BULK AT MOST 1048576: true; the input reads as it did. -/
def compSaysUptoRow : OpenClaim := { program := "ytdpbkhempgghaaa", sum := "dc4b02ae5513773b2e4f453662c181b76470c33f410d5e70ca83ce7145ad6f9a", func := "fellwalker/felllaw.CompSays", spec := "compSays", unfollowed := true, recurses := true, plainKeys := false, apart := false, narrowed := true }
def CompSaysUptoSaid : Prop := compSaysUptoRow.holds Try.pinned (OpenSpec.upto compSaysSpec)

/-- 'felllaw.SpanTrees', WHERE WHAT IT READS IS OF BULK AT MOST 1048576: true; the input reads as it did. -/
def spanTreesUptoRow : OpenClaim := { program := "ytdpbkhempgghaaa", sum := "dc4b02ae5513773b2e4f453662c181b76470c33f410d5e70ca83ce7145ad6f9a", func := "fellwalker/felllaw.SpanTrees", spec := "spanTrees", inPlace := ["slices.overlaps[fellwalker/api.Pop]"], unfollowed := true, recurses := true, plainKeys := false, apart := false, narrowed := true }
def SpanTreesUptoSaid : Prop := spanTreesUptoRow.holds Try.pinned (OpenSpec.upto spanTreesSpec)

/-- 'felllaw.StarRuns', WHERE WHAT IT READS IS OF BULK AT MOST 1048576: true; the input reads as it did. -/
def starRunsUptoRow : OpenClaim := { program := "ytdpbkhempgghaaa", sum := "dc4b02ae5513773b2e4f453662c181b76470c33f410d5e70ca83ce7145ad6f9a", func := "fellwalker/felllaw.StarRuns", spec := "starRuns", unfollowed := true, recurses := true, plainKeys := false, apart := false, narrowed := true }
def StarRunsUptoSaid : Prop := starRunsUptoRow.holds Try.pinned (OpenSpec.upto starRunsSpec)

end Rows
end Go.Proofs.Ytdpbkhempgghaaa
