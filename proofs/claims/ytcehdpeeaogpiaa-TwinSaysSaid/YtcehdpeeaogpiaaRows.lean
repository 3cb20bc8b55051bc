/-
  No cell of these rows narrows 'for every input' (looked for: loops, veiled, ifaces, maps, wideKeys, modest, calm, conditions, laid).
  DERIVED. THE GIVEN ROWS OF THIS SEAT. 12 by the template 'for every input the law returns true; each argument reads behind the call as it read before'; 0 by the template 'total and deterministic' (their statements: YtcehdpeeaogpiaaTotals.lean).
  GIVEN WITH THE SEED: the statements are not yours to turn. If you find one false, say at which input.
  Laid BY PROGRAM, IN A SANDBOX (cutbox-rows.mjs): the forced cells as the released guide's own fill.sh prints them over the translation a0f78d1149c4010e… (all of the seat's roots in one cut). By AI agents, Wed Nov 11 2026. No macro, syntax, notation, axiom, sorry.
-/
import Derived.Test.YtcehdpeeaogpiaaChecked
import GoSem.Claim
import GoSem.ClaimJoined
import GoSem.ClaimMapViews
import Derived.JoinedTies
import Derived.KernelRfl
namespace Go.Proofs.Ytcehdpeeaogpiaa
/- THE CELL 'sum', in the pinned program and in every row, IS THE sha256 OF THE DUMP (.gsa) THAT YtcehdpeeaogpiaaProg.lean LOADS. Nothing in Lean hashes anything: it is a label: what it is worth is what the hold of that sum in a sandbox is worth. -/
noncomputable def Try.pinned : Pinned := { name := "ytcehdpeeaogpiaa", sum := "a0f78d1149c4010e2a00fbf266a922791443df636761ba71a5dcf66906924fa0", checked := Try.checked }
namespace Rows
def none {H : Type} : Left H := { results := [], args := [] }

/-- 'felltop.TopCut': WHATEVER THE INPUT: true; the input reads as it did. -/
def topCutSpec : ChangeSpec := { name := "topCut", fn := fun _ => fun
  | [d1, d2, d3] => { results := [.lit (.bool true)], args := [d1, d2, d3] }
  | _ => none }
def topCutRow : OpenClaim := { program := "ytcehdpeeaogpiaa", sum := "a0f78d1149c4010e2a00fbf266a922791443df636761ba71a5dcf66906924fa0", func := "fellwalker/felltop.TopCut", spec := "topCut", unfollowed := true, recurses := true, apart := false }
def TopCutSaid : Prop := topCutRow.holds Try.pinned (OpenSpec.ofChange topCutSpec)

/-- ITS FALSE NEIGHBOUR: 'it returns false'. Refute it at one input. -/
def topCutWrong : ChangeSpec := { name := "topCut", fn := fun _ => fun
  | [d1, d2, d3] => { results := [.lit (.bool false)], args := [d1, d2, d3] }
  | _ => none }
def TopCutWrongFalsely : Prop := topCutRow.holds Try.pinned (OpenSpec.ofChange topCutWrong)

/-- 'felltop.TopMarks': WHATEVER THE INPUT: true; the input reads as it did. -/
def topMarksSpec : ChangeSpec := { name := "topMarks", fn := fun _ => fun
  | [d1, d2, d3, d4] => { results := [.lit (.bool true)], args := [d1, d2, d3, d4] }
  | _ => none }
def topMarksRow : OpenClaim := { program := "ytcehdpeeaogpiaa", sum := "a0f78d1149c4010e2a00fbf266a922791443df636761ba71a5dcf66906924fa0", func := "fellwalker/felltop.TopMarks", spec := "topMarks", unfollowed := true, recurses := true, apart := false }
def TopMarksSaid : Prop := topMarksRow.holds Try.pinned (OpenSpec.ofChange topMarksSpec)

/-- ITS FALSE NEIGHBOUR: 'it returns false'. Refute it at one input. -/
def topMarksWrong : ChangeSpec := { name := "topMarks", fn := fun _ => fun
  | [d1, d2, d3, d4] => { results := [.lit (.bool false)], args := [d1, d2, d3, d4] }
  | _ => none }
def TopMarksWrongFalsely : Prop := topMarksRow.holds Try.pinned (OpenSpec.ofChange topMarksWrong)

/-- 'felllaw.FlowSays': WHATEVER THE INPUT: true; the input reads as it did. -/
def flowSaysSpec : ChangeSpec := { name := "flowSays", fn := fun _ => fun
  | [d1, d2, d3] => { results := [.lit (.bool true)], args := [d1, d2, d3] }
  | _ => none }
def flowSaysRow : OpenClaim := { program := "ytcehdpeeaogpiaa", sum := "a0f78d1149c4010e2a00fbf266a922791443df636761ba71a5dcf66906924fa0", func := "fellwalker/felllaw.FlowSays", spec := "flowSays", unfollowed := true, recurses := true, apart := false }
def FlowSaysSaid : Prop := flowSaysRow.holds Try.pinned (OpenSpec.ofChange flowSaysSpec)

/-- ITS FALSE NEIGHBOUR: 'it returns false'. Refute it at one input. -/
def flowSaysWrong : ChangeSpec := { name := "flowSays", fn := fun _ => fun
  | [d1, d2, d3] => { results := [.lit (.bool false)], args := [d1, d2, d3] }
  | _ => none }
def FlowSaysWrongFalsely : Prop := flowSaysRow.holds Try.pinned (OpenSpec.ofChange flowSaysWrong)

/-- 'felllaw.CompSays': WHATEVER THE INPUT: true; the input reads as it did. -/
def compSaysSpec : ChangeSpec := { name := "compSays", fn := fun _ => fun
  | [d] => { results := [.lit (.bool true)], args := [d] }
  | _ => none }
def compSaysRow : OpenClaim := { program := "ytcehdpeeaogpiaa", sum := "a0f78d1149c4010e2a00fbf266a922791443df636761ba71a5dcf66906924fa0", func := "fellwalker/felllaw.CompSays", spec := "compSays", unfollowed := true, recurses := true, apart := false }
def CompSaysSaid : Prop := compSaysRow.holds Try.pinned (OpenSpec.ofChange compSaysSpec)

/-- ITS FALSE NEIGHBOUR: 'it returns false'. Refute it at one input. -/
def compSaysWrong : ChangeSpec := { name := "compSays", fn := fun _ => fun
  | [d] => { results := [.lit (.bool false)], args := [d] }
  | _ => none }
def CompSaysWrongFalsely : Prop := compSaysRow.holds Try.pinned (OpenSpec.ofChange compSaysWrong)

/-- 'felllaw.StarRuns': WHATEVER THE INPUT: true; the input reads as it did. -/
def starRunsSpec : ChangeSpec := { name := "starRuns", fn := fun _ => fun
  | [d1, d2, d3, d4] => { results := [.lit (.bool true)], args := [d1, d2, d3, d4] }
  | _ => none }
def starRunsRow : OpenClaim := { program := "ytcehdpeeaogpiaa", sum := "a0f78d1149c4010e2a00fbf266a922791443df636761ba71a5dcf66906924fa0", func := "fellwalker/felllaw.StarRuns", spec := "starRuns", unfollowed := true, recurses := true, apart := false }
def StarRunsSaid : Prop := starRunsRow.holds Try.pinned (OpenSpec.ofChange starRunsSpec)

/-- ITS FALSE NEIGHBOUR: 'it returns false'. Refute it at one input. -/
def starRunsWrong : ChangeSpec := { name := "starRuns", fn := fun _ => fun
  | [d1, d2, d3, d4] => { results := [.lit (.bool false)], args := [d1, d2, d3, d4] }
  | _ => none }
def StarRunsWrongFalsely : Prop := starRunsRow.holds Try.pinned (OpenSpec.ofChange starRunsWrong)

/-- 'felllaw.LifePlans': WHATEVER THE INPUT: true; the input reads as it did. -/
def lifePlansSpec : ChangeSpec := { name := "lifePlans", fn := fun _ => fun
  | [d1, d2, d3, d4] => { results := [.lit (.bool true)], args := [d1, d2, d3, d4] }
  | _ => none }
def lifePlansRow : OpenClaim := { program := "ytcehdpeeaogpiaa", sum := "a0f78d1149c4010e2a00fbf266a922791443df636761ba71a5dcf66906924fa0", func := "fellwalker/felllaw.LifePlans", spec := "lifePlans", unfollowed := true, recurses := true, apart := false }
def LifePlansSaid : Prop := lifePlansRow.holds Try.pinned (OpenSpec.ofChange lifePlansSpec)

/-- ITS FALSE NEIGHBOUR: 'it returns false'. Refute it at one input. -/
def lifePlansWrong : ChangeSpec := { name := "lifePlans", fn := fun _ => fun
  | [d1, d2, d3, d4] => { results := [.lit (.bool false)], args := [d1, d2, d3, d4] }
  | _ => none }
def LifePlansWrongFalsely : Prop := lifePlansRow.holds Try.pinned (OpenSpec.ofChange lifePlansWrong)

/-- 'felllaw.WeighRuns': WHATEVER THE INPUT: true; the input reads as it did. -/
def weighRunsSpec : ChangeSpec := { name := "weighRuns", fn := fun _ => fun
  | [d1, d2, d3, d4, d5] => { results := [.lit (.bool true)], args := [d1, d2, d3, d4, d5] }
  | _ => none }
def weighRunsRow : OpenClaim := { program := "ytcehdpeeaogpiaa", sum := "a0f78d1149c4010e2a00fbf266a922791443df636761ba71a5dcf66906924fa0", func := "fellwalker/felllaw.WeighRuns", spec := "weighRuns", unfollowed := true, recurses := true, apart := false }
def WeighRunsSaid : Prop := weighRunsRow.holds Try.pinned (OpenSpec.ofChange weighRunsSpec)

/-- ITS FALSE NEIGHBOUR: 'it returns false'. Refute it at one input. -/
def weighRunsWrong : ChangeSpec := { name := "weighRuns", fn := fun _ => fun
  | [d1, d2, d3, d4, d5] => { results := [.lit (.bool false)], args := [d1, d2, d3, d4, d5] }
  | _ => none }
def WeighRunsWrongFalsely : Prop := weighRunsRow.holds Try.pinned (OpenSpec.ofChange weighRunsWrong)

/-- 'felllaw.FocalRuns': WHATEVER THE INPUT: true; the input reads as it did. -/
def focalRunsSpec : ChangeSpec := { name := "focalRuns", fn := fun _ => fun
  | [d1, d2, d3, d4, d5, d6, d7] => { results := [.lit (.bool true)], args := [d1, d2, d3, d4, d5, d6, d7] }
  | _ => none }
def focalRunsRow : OpenClaim := { program := "ytcehdpeeaogpiaa", sum := "a0f78d1149c4010e2a00fbf266a922791443df636761ba71a5dcf66906924fa0", func := "fellwalker/felllaw.FocalRuns", spec := "focalRuns", unfollowed := true, recurses := true, apart := false }
def FocalRunsSaid : Prop := focalRunsRow.holds Try.pinned (OpenSpec.ofChange focalRunsSpec)

/-- ITS FALSE NEIGHBOUR: 'it returns false'. Refute it at one input. -/
def focalRunsWrong : ChangeSpec := { name := "focalRuns", fn := fun _ => fun
  | [d1, d2, d3, d4, d5, d6, d7] => { results := [.lit (.bool false)], args := [d1, d2, d3, d4, d5, d6, d7] }
  | _ => none }
def FocalRunsWrongFalsely : Prop := focalRunsRow.holds Try.pinned (OpenSpec.ofChange focalRunsWrong)

/-- 'felllaw.AraSteps': WHATEVER THE INPUT: true; the input reads as it did. -/
def araStepsSpec : ChangeSpec := { name := "araSteps", fn := fun _ => fun
  | [d1, d2, d3, d4, d5, d6] => { results := [.lit (.bool true)], args := [d1, d2, d3, d4, d5, d6] }
  | _ => none }
def araStepsRow : OpenClaim := { program := "ytcehdpeeaogpiaa", sum := "a0f78d1149c4010e2a00fbf266a922791443df636761ba71a5dcf66906924fa0", func := "fellwalker/felllaw.AraSteps", spec := "araSteps", unfollowed := true, recurses := true, apart := false }
def AraStepsSaid : Prop := araStepsRow.holds Try.pinned (OpenSpec.ofChange araStepsSpec)

/-- ITS FALSE NEIGHBOUR: 'it returns false'. Refute it at one input. -/
def araStepsWrong : ChangeSpec := { name := "araSteps", fn := fun _ => fun
  | [d1, d2, d3, d4, d5, d6] => { results := [.lit (.bool false)], args := [d1, d2, d3, d4, d5, d6] }
  | _ => none }
def AraStepsWrongFalsely : Prop := araStepsRow.holds Try.pinned (OpenSpec.ofChange araStepsWrong)

/-- 'felllaw.AraRuns': WHATEVER THE INPUT: true; the input reads as it did. -/
def araRunsSpec : ChangeSpec := { name := "araRuns", fn := fun _ => fun
  | [d1, d2, d3, d4, d5] => { results := [.lit (.bool true)], args := [d1, d2, d3, d4, d5] }
  | _ => none }
def araRunsRow : OpenClaim := { program := "ytcehdpeeaogpiaa", sum := "a0f78d1149c4010e2a00fbf266a922791443df636761ba71a5dcf66906924fa0", func := "fellwalker/felllaw.AraRuns", spec := "araRuns", unfollowed := true, recurses := true, apart := false }
def AraRunsSaid : Prop := araRunsRow.holds Try.pinned (OpenSpec.ofChange araRunsSpec)

/-- ITS FALSE NEIGHBOUR: 'it returns false'. Refute it at one input. -/
def araRunsWrong : ChangeSpec := { name := "araRuns", fn := fun _ => fun
  | [d1, d2, d3, d4, d5] => { results := [.lit (.bool false)], args := [d1, d2, d3, d4, d5] }
  | _ => none }
def AraRunsWrongFalsely : Prop := araRunsRow.holds Try.pinned (OpenSpec.ofChange araRunsWrong)

/-- 'felllaw.YenSays': WHATEVER THE INPUT: true; the input reads as it did. -/
def yenSaysSpec : ChangeSpec := { name := "yenSays", fn := fun _ => fun
  | [d1, d2, d3, d4] => { results := [.lit (.bool true)], args := [d1, d2, d3, d4] }
  | _ => none }
def yenSaysRow : OpenClaim := { program := "ytcehdpeeaogpiaa", sum := "a0f78d1149c4010e2a00fbf266a922791443df636761ba71a5dcf66906924fa0", func := "fellwalker/felllaw.YenSays", spec := "yenSays", inPlace := ["slices.overlaps[fellwalker/api.Way]"], unfollowed := true, recurses := true, apart := false }
def YenSaysSaid : Prop := yenSaysRow.holds Try.pinned (OpenSpec.ofChange yenSaysSpec)

/-- ITS FALSE NEIGHBOUR: 'it returns false'. Refute it at one input. -/
def yenSaysWrong : ChangeSpec := { name := "yenSays", fn := fun _ => fun
  | [d1, d2, d3, d4] => { results := [.lit (.bool false)], args := [d1, d2, d3, d4] }
  | _ => none }
def YenSaysWrongFalsely : Prop := yenSaysRow.holds Try.pinned (OpenSpec.ofChange yenSaysWrong)

/-- 'felllaw.TwinSays': WHATEVER THE INPUT: true; the input reads as it did. -/
def twinSaysSpec : ChangeSpec := { name := "twinSays", fn := fun _ => fun
  | [d1, d2, d3] => { results := [.lit (.bool true)], args := [d1, d2, d3] }
  | _ => none }
def twinSaysRow : OpenClaim := { program := "ytcehdpeeaogpiaa", sum := "a0f78d1149c4010e2a00fbf266a922791443df636761ba71a5dcf66906924fa0", func := "fellwalker/felllaw.TwinSays", spec := "twinSays", unfollowed := true, recurses := true, apart := false }
def TwinSaysSaid : Prop := twinSaysRow.holds Try.pinned (OpenSpec.ofChange twinSaysSpec)

/-- ITS FALSE NEIGHBOUR: 'it returns false'. Refute it at one input. -/
def twinSaysWrong : ChangeSpec := { name := "twinSays", fn := fun _ => fun
  | [d1, d2, d3] => { results := [.lit (.bool false)], args := [d1, d2, d3] }
  | _ => none }
def TwinSaysWrongFalsely : Prop := twinSaysRow.holds Try.pinned (OpenSpec.ofChange twinSaysWrong)

/- THE SECOND FORM. 'bulk': how many values and letters a reading holds, each counted each time it is reached (what is shared counts as often as it is met; a slice's spare places count too). A statement '..UptoSaid' is the law's where the arguments, and the package variables that the reading takes, are together of bulk at most 1048576: NARROWER than '..Said'. Prove '..Said' where nothing that the law and all that it calls make is longer than what came in: it says more and counts as full. Else prove '..UptoSaid'. A law counts once. -/
mutual
def uptoBulk {H : Type} : DataW H → Nat
  | .lit (.string bytes) => bytes.length + 1
  | .lit _ => 1
  | .nil => 1
  | .ptr d => uptoBulk d + 1
  | .slice elems spare => uptoBulkAll elems + uptoBulkAll spare + 1
  | .agg parts => uptoBulkAll parts + 1
  | .iface _ d => uptoBulk d + 1
  | .map entries => uptoBulkEntries entries + 1
  | .held _ => 1
def uptoBulkAll {H : Type} : List (DataW H) → Nat
  | [] => 0
  | d :: r => uptoBulk d + uptoBulkAll r
def uptoBulkEntries {H : Type} : List (Lit × DataW H) → Nat
  | [] => 0
  | x :: r => uptoBulkEntry x + uptoBulkEntries r
def uptoBulkEntry {H : Type} : Lit × DataW H → Nat
  | (.string bytes, d) => bytes.length + uptoBulk d + 1
  | (_, d) => uptoBulk d + 1
 end
def uptoSmall : (H : Type) → List (DataW H) → Bool := fun _ ds => decide (uptoBulkAll ds ≤ 1048576)
def OpenSpec.upto (s : _root_.Go.ChangeSpec) : _root_.Go.OpenSpec := { _root_.Go.OpenSpec.ofChange s with cond := some uptoSmall }

/-- 'felltop.TopCut', WHERE WHAT IT READS IS OF BULK AT MOST 1048576: true; the input reads as it did. -/
def topCutUptoRow : OpenClaim := { program := "ytcehdpeeaogpiaa", sum := "a0f78d1149c4010e2a00fbf266a922791443df636761ba71a5dcf66906924fa0", func := "fellwalker/felltop.TopCut", spec := "topCut", unfollowed := true, recurses := true, apart := false, narrowed := true }
def TopCutUptoSaid : Prop := topCutUptoRow.holds Try.pinned (OpenSpec.upto topCutSpec)

/-- 'felltop.TopMarks', WHERE WHAT IT READS IS OF BULK AT MOST 1048576: true; the input reads as it did. -/
def topMarksUptoRow : OpenClaim := { program := "ytcehdpeeaogpiaa", sum := "a0f78d1149c4010e2a00fbf266a922791443df636761ba71a5dcf66906924fa0", func := "fellwalker/felltop.TopMarks", spec := "topMarks", unfollowed := true, recurses := true, apart := false, narrowed := true }
def TopMarksUptoSaid : Prop := topMarksUptoRow.holds Try.pinned (OpenSpec.upto topMarksSpec)

/-- 'felllaw.FlowSays', WHERE WHAT IT READS IS OF BULK AT MOST 1048576: true; the input reads as it did. -/
def flowSaysUptoRow : OpenClaim := { program := "ytcehdpeeaogpiaa", sum := "a0f78d1149c4010e2a00fbf266a922791443df636761ba71a5dcf66906924fa0", func := "fellwalker/felllaw.FlowSays", spec := "flowSays", unfollowed := true, recurses := true, apart := false, narrowed := true }
def FlowSaysUptoSaid : Prop := flowSaysUptoRow.holds Try.pinned (OpenSpec.upto flowSaysSpec)

/-- 'felllaw.CompSays', WHERE WHAT IT READS IS OF BULK AT MOST 1048576: true; the input reads as it did. -/
def compSaysUptoRow : OpenClaim := { program := "ytcehdpeeaogpiaa", sum := "a0f78d1149c4010e2a00fbf266a922791443df636761ba71a5dcf66906924fa0", func := "fellwalker/felllaw.CompSays", spec := "compSays", unfollowed := true, recurses := true, apart := false, narrowed := true }
def CompSaysUptoSaid : Prop := compSaysUptoRow.holds Try.pinned (OpenSpec.upto compSaysSpec)

/-- 'felllaw.StarRuns', WHERE WHAT IT READS IS OF BULK AT MOST 1048576: true; the input reads as it did. -/
def starRunsUptoRow : OpenClaim := { program := "ytcehdpeeaogpiaa", sum := "a0f78d1149c4010e2a00fbf266a922791443df636761ba71a5dcf66906924fa0", func := "fellwalker/felllaw.StarRuns", spec := "starRuns", unfollowed := true, recurses := true, apart := false, narrowed := true }
def StarRunsUptoSaid : Prop := starRunsUptoRow.holds Try.pinned (OpenSpec.upto starRunsSpec)

/-- 'felllaw.LifePlans', WHERE WHAT IT READS IS OF BULK AT MOST 1048576: true; the input reads as it did. -/
def lifePlansUptoRow : OpenClaim := { program := "ytcehdpeeaogpiaa", sum := "a0f78d1149c4010e2a00fbf266a922791443df636761ba71a5dcf66906924fa0", func := "fellwalker/felllaw.LifePlans", spec := "lifePlans", unfollowed := true, recurses := true, apart := false, narrowed := true }
def LifePlansUptoSaid : Prop := lifePlansUptoRow.holds Try.pinned (OpenSpec.upto lifePlansSpec)

/-- 'felllaw.WeighRuns', WHERE WHAT IT READS IS OF BULK AT MOST 1048576: true; the input reads as it did. -/
def weighRunsUptoRow : OpenClaim := { program := "ytcehdpeeaogpiaa", sum := "a0f78d1149c4010e2a00fbf266a922791443df636761ba71a5dcf66906924fa0", func := "fellwalker/felllaw.WeighRuns", spec := "weighRuns", unfollowed := true, recurses := true, apart := false, narrowed := true }
def WeighRunsUptoSaid : Prop := weighRunsUptoRow.holds Try.pinned (OpenSpec.upto weighRunsSpec)

/-- 'felllaw.FocalRuns', WHERE WHAT IT READS IS OF BULK AT MOST 1048576: true; the input reads as it did. -/
def focalRunsUptoRow : OpenClaim := { program := "ytcehdpeeaogpiaa", sum := "a0f78d1149c4010e2a00fbf266a922791443df636761ba71a5dcf66906924fa0", func := "fellwalker/felllaw.FocalRuns", spec := "focalRuns", unfollowed := true, recurses := true, apart := false, narrowed := true }
def FocalRunsUptoSaid : Prop := focalRunsUptoRow.holds Try.pinned (OpenSpec.upto focalRunsSpec)

/-- 'felllaw.AraSteps', WHERE WHAT IT READS IS OF BULK AT MOST 1048576: true; the input reads as it did. -/
def araStepsUptoRow : OpenClaim := { program := "ytcehdpeeaogpiaa", sum := "a0f78d1149c4010e2a00fbf266a922791443df636761ba71a5dcf66906924fa0", func := "fellwalker/felllaw.AraSteps", spec := "araSteps", unfollowed := true, recurses := true, apart := false, narrowed := true }
def AraStepsUptoSaid : Prop := araStepsUptoRow.holds Try.pinned (OpenSpec.upto araStepsSpec)

/-- 'felllaw.AraRuns', WHERE WHAT IT READS IS OF BULK AT MOST 1048576: true; the input reads as it did. -/
def araRunsUptoRow : OpenClaim := { program := "ytcehdpeeaogpiaa", sum := "a0f78d1149c4010e2a00fbf266a922791443df636761ba71a5dcf66906924fa0", func := "fellwalker/felllaw.AraRuns", spec := "araRuns", unfollowed := true, recurses := true, apart := false, narrowed := true }
def AraRunsUptoSaid : Prop := araRunsUptoRow.holds Try.pinned (OpenSpec.upto araRunsSpec)

/-- 'felllaw.YenSays', WHERE WHAT IT READS IS OF BULK AT MOST 1048576: true; the input reads as it did. -/
def yenSaysUptoRow : OpenClaim := { program := "ytcehdpeeaogpiaa", sum := "a0f78d1149c4010e2a00fbf266a922791443df636761ba71a5dcf66906924fa0", func := "fellwalker/felllaw.YenSays", spec := "yenSays", inPlace := ["slices.overlaps[fellwalker/api.Way]"], unfollowed := true, recurses := true, apart := false, narrowed := true }
def YenSaysUptoSaid : Prop := yenSaysUptoRow.holds Try.pinned (OpenSpec.upto yenSaysSpec)

/-- 'felllaw.TwinSays', WHERE WHAT IT READS IS OF BULK AT MOST 1048576: true; the input reads as it did. -/
def twinSaysUptoRow : OpenClaim := { program := "ytcehdpeeaogpiaa", sum := "a0f78d1149c4010e2a00fbf266a922791443df636761ba71a5dcf66906924fa0", func := "fellwalker/felllaw.TwinSays", spec := "twinSays", unfollowed := true, recurses := true, apart := false, narrowed := true }
def TwinSaysUptoSaid : Prop := twinSaysUptoRow.holds Try.pinned (OpenSpec.upto twinSaysSpec)

end Rows
end Go.Proofs.Ytcehdpeeaogpiaa
