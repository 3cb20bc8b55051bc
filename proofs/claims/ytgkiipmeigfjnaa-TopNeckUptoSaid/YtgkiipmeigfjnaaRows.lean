/-
  No cell of these rows narrows 'for every input' (looked for: loops, veiled, ifaces, maps, wideKeys, modest, calm, conditions, laid).
  DERIVED. THE GIVEN ROWS OF THIS SEAT. 12 by the template 'for every input the law returns true; each argument reads behind the call as it read before'; 0 by the template 'total and deterministic' (their statements: YtgkiipmeigfjnaaTotals.lean).
  GIVEN WITH THE SEED: the statements are not yours to turn. If you find one false, say at which input.
  Laid BY PROGRAM, IN A SANDBOX (cutbox-rows.mjs): the forced cells as the released guide's own fill.sh prints them over the translation 25fc6c20e896f41c… (all of the seat's roots in one cut). By AI agents, Wed Nov 11 2026. No macro, syntax, notation, axiom, sorry.
-/
import Derived.Test.YtgkiipmeigfjnaaChecked
import GoSem.Claim
import GoSem.ClaimJoined
import GoSem.ClaimMapViews
import Derived.JoinedTies
import Derived.KernelRfl
namespace Go.Proofs.Ytgkiipmeigfjnaa
/- THE CELL 'sum', in the pinned program and in every row, IS THE sha256 OF THE DUMP (.gsa) THAT YtgkiipmeigfjnaaProg.lean LOADS. Nothing in Lean hashes anything: it is a label: what it is worth is what the hold of that sum in a sandbox is worth. -/
noncomputable def Try.pinned : Pinned := { name := "ytgkiipmeigfjnaa", sum := "25fc6c20e896f41ce9f7bd1b3c1c3b469008334cfea56979e1bdd6aab582ff7e", checked := Try.checked }
namespace Rows
def none {H : Type} : Left H := { results := [], args := [] }

/-- 'felltop.TopNeck': WHATEVER THE INPUT: true; the input reads as it did. -/
def topNeckSpec : ChangeSpec := { name := "topNeck", fn := fun _ => fun
  | [d1, d2, d3] => { results := [.lit (.bool true)], args := [d1, d2, d3] }
  | _ => none }
def topNeckRow : OpenClaim := { program := "ytgkiipmeigfjnaa", sum := "25fc6c20e896f41ce9f7bd1b3c1c3b469008334cfea56979e1bdd6aab582ff7e", func := "fellwalker/felltop.TopNeck", spec := "topNeck", unfollowed := true, recurses := true, plainKeys := false, apart := false }
def TopNeckSaid : Prop := topNeckRow.holds Try.pinned (OpenSpec.ofChange topNeckSpec)

/-- ITS FALSE NEIGHBOUR: 'it returns false'. Refute it at one input. -/
def topNeckWrong : ChangeSpec := { name := "topNeck", fn := fun _ => fun
  | [d1, d2, d3] => { results := [.lit (.bool false)], args := [d1, d2, d3] }
  | _ => none }
def TopNeckWrongFalsely : Prop := topNeckRow.holds Try.pinned (OpenSpec.ofChange topNeckWrong)

/-- 'felllaw.TwinAparts': WHATEVER THE INPUT: true; the input reads as it did. -/
def twinApartsSpec : ChangeSpec := { name := "twinAparts", fn := fun _ => fun
  | [d1, d2, d3] => { results := [.lit (.bool true)], args := [d1, d2, d3] }
  | _ => none }
def twinApartsRow : OpenClaim := { program := "ytgkiipmeigfjnaa", sum := "25fc6c20e896f41ce9f7bd1b3c1c3b469008334cfea56979e1bdd6aab582ff7e", func := "fellwalker/felllaw.TwinAparts", spec := "twinAparts", plainKeys := false, apart := false }
def TwinApartsSaid : Prop := twinApartsRow.holds Try.pinned (OpenSpec.ofChange twinApartsSpec)

/-- ITS FALSE NEIGHBOUR: 'it returns false'. Refute it at one input. -/
def twinApartsWrong : ChangeSpec := { name := "twinAparts", fn := fun _ => fun
  | [d1, d2, d3] => { results := [.lit (.bool false)], args := [d1, d2, d3] }
  | _ => none }
def TwinApartsWrongFalsely : Prop := twinApartsRow.holds Try.pinned (OpenSpec.ofChange twinApartsWrong)

/-- 'felllaw.BellCycles': WHATEVER THE INPUT: true; the input reads as it did. -/
def bellCyclesSpec : ChangeSpec := { name := "bellCycles", fn := fun _ => fun
  | [d] => { results := [.lit (.bool true)], args := [d] }
  | _ => none }
def bellCyclesRow : OpenClaim := { program := "ytgkiipmeigfjnaa", sum := "25fc6c20e896f41ce9f7bd1b3c1c3b469008334cfea56979e1bdd6aab582ff7e", func := "fellwalker/felllaw.BellCycles", spec := "bellCycles", plainKeys := false, apart := false }
def BellCyclesSaid : Prop := bellCyclesRow.holds Try.pinned (OpenSpec.ofChange bellCyclesSpec)

/-- ITS FALSE NEIGHBOUR: 'it returns false'. Refute it at one input. -/
def bellCyclesWrong : ChangeSpec := { name := "bellCycles", fn := fun _ => fun
  | [d] => { results := [.lit (.bool false)], args := [d] }
  | _ => none }
def BellCyclesWrongFalsely : Prop := bellCyclesRow.holds Try.pinned (OpenSpec.ofChange bellCyclesWrong)

/-- 'felllaw.SpanNecks': WHATEVER THE INPUT: true; the input reads as it did. -/
def spanNecksSpec : ChangeSpec := { name := "spanNecks", fn := fun _ => fun
  | [d1, d2, d3] => { results := [.lit (.bool true)], args := [d1, d2, d3] }
  | _ => none }
def spanNecksRow : OpenClaim := { program := "ytgkiipmeigfjnaa", sum := "25fc6c20e896f41ce9f7bd1b3c1c3b469008334cfea56979e1bdd6aab582ff7e", func := "fellwalker/felllaw.SpanNecks", spec := "spanNecks", unfollowed := true, recurses := true, plainKeys := false, apart := false }
def SpanNecksSaid : Prop := spanNecksRow.holds Try.pinned (OpenSpec.ofChange spanNecksSpec)

/-- ITS FALSE NEIGHBOUR: 'it returns false'. Refute it at one input. -/
def spanNecksWrong : ChangeSpec := { name := "spanNecks", fn := fun _ => fun
  | [d1, d2, d3] => { results := [.lit (.bool false)], args := [d1, d2, d3] }
  | _ => none }
def SpanNecksWrongFalsely : Prop := spanNecksRow.holds Try.pinned (OpenSpec.ofChange spanNecksWrong)

/-- 'felllaw.HierSays': WHATEVER THE INPUT: true; the input reads as it did. -/
def hierSaysSpec : ChangeSpec := { name := "hierSays", fn := fun _ => fun
  | [d1, d2, d3] => { results := [.lit (.bool true)], args := [d1, d2, d3] }
  | _ => none }
def hierSaysRow : OpenClaim := { program := "ytgkiipmeigfjnaa", sum := "25fc6c20e896f41ce9f7bd1b3c1c3b469008334cfea56979e1bdd6aab582ff7e", func := "fellwalker/felllaw.HierSays", spec := "hierSays", unfollowed := true, recurses := true, plainKeys := false, apart := false }
def HierSaysSaid : Prop := hierSaysRow.holds Try.pinned (OpenSpec.ofChange hierSaysSpec)

/-- ITS FALSE NEIGHBOUR: 'it returns false'. Refute it at one input. -/
def hierSaysWrong : ChangeSpec := { name := "hierSays", fn := fun _ => fun
  | [d1, d2, d3] => { results := [.lit (.bool false)], args := [d1, d2, d3] }
  | _ => none }
def HierSaysWrongFalsely : Prop := hierSaysRow.holds Try.pinned (OpenSpec.ofChange hierSaysWrong)

/-- 'felllaw.DagSays': WHATEVER THE INPUT: true; the input reads as it did. -/
def dagSaysSpec : ChangeSpec := { name := "dagSays", fn := fun _ => fun
  | [d] => { results := [.lit (.bool true)], args := [d] }
  | _ => none }
def dagSaysRow : OpenClaim := { program := "ytgkiipmeigfjnaa", sum := "25fc6c20e896f41ce9f7bd1b3c1c3b469008334cfea56979e1bdd6aab582ff7e", func := "fellwalker/felllaw.DagSays", spec := "dagSays", unfollowed := true, recurses := true, plainKeys := false, apart := false }
def DagSaysSaid : Prop := dagSaysRow.holds Try.pinned (OpenSpec.ofChange dagSaysSpec)

/-- ITS FALSE NEIGHBOUR: 'it returns false'. Refute it at one input. -/
def dagSaysWrong : ChangeSpec := { name := "dagSays", fn := fun _ => fun
  | [d] => { results := [.lit (.bool false)], args := [d] }
  | _ => none }
def DagSaysWrongFalsely : Prop := dagSaysRow.holds Try.pinned (OpenSpec.ofChange dagSaysWrong)

/-- 'felllaw.HeurMarks': WHATEVER THE INPUT: true; the input reads as it did. -/
def heurMarksSpec : ChangeSpec := { name := "heurMarks", fn := fun _ => fun
  | [d1, d2] => { results := [.lit (.bool true)], args := [d1, d2] }
  | _ => none }
def heurMarksRow : OpenClaim := { program := "ytgkiipmeigfjnaa", sum := "25fc6c20e896f41ce9f7bd1b3c1c3b469008334cfea56979e1bdd6aab582ff7e", func := "fellwalker/felllaw.HeurMarks", spec := "heurMarks", unfollowed := true, recurses := true, plainKeys := false, apart := false }
def HeurMarksSaid : Prop := heurMarksRow.holds Try.pinned (OpenSpec.ofChange heurMarksSpec)

/-- ITS FALSE NEIGHBOUR: 'it returns false'. Refute it at one input. -/
def heurMarksWrong : ChangeSpec := { name := "heurMarks", fn := fun _ => fun
  | [d1, d2] => { results := [.lit (.bool false)], args := [d1, d2] }
  | _ => none }
def HeurMarksWrongFalsely : Prop := heurMarksRow.holds Try.pinned (OpenSpec.ofChange heurMarksWrong)

/-- 'felllaw.JohnAlls': WHATEVER THE INPUT: true; the input reads as it did. -/
def johnAllsSpec : ChangeSpec := { name := "johnAlls", fn := fun _ => fun
  | [d] => { results := [.lit (.bool true)], args := [d] }
  | _ => none }
def johnAllsRow : OpenClaim := { program := "ytgkiipmeigfjnaa", sum := "25fc6c20e896f41ce9f7bd1b3c1c3b469008334cfea56979e1bdd6aab582ff7e", func := "fellwalker/felllaw.JohnAlls", spec := "johnAlls", unfollowed := true, recurses := true, plainKeys := false, apart := false }
def JohnAllsSaid : Prop := johnAllsRow.holds Try.pinned (OpenSpec.ofChange johnAllsSpec)

/-- ITS FALSE NEIGHBOUR: 'it returns false'. Refute it at one input. -/
def johnAllsWrong : ChangeSpec := { name := "johnAlls", fn := fun _ => fun
  | [d] => { results := [.lit (.bool false)], args := [d] }
  | _ => none }
def JohnAllsWrongFalsely : Prop := johnAllsRow.holds Try.pinned (OpenSpec.ofChange johnAllsWrong)

/-- 'felllaw.CompSays': WHATEVER THE INPUT: true; the input reads as it did. -/
def compSaysSpec : ChangeSpec := { name := "compSays", fn := fun _ => fun
  | [d] => { results := [.lit (.bool true)], args := [d] }
  | _ => none }
def compSaysRow : OpenClaim := { program := "ytgkiipmeigfjnaa", sum := "25fc6c20e896f41ce9f7bd1b3c1c3b469008334cfea56979e1bdd6aab582ff7e", func := "fellwalker/felllaw.CompSays", spec := "compSays", unfollowed := true, recurses := true, plainKeys := false, apart := false }
def CompSaysSaid : Prop := compSaysRow.holds Try.pinned (OpenSpec.ofChange compSaysSpec)

/-- ITS FALSE NEIGHBOUR: 'it returns false'. Refute it at one input. -/
def compSaysWrong : ChangeSpec := { name := "compSays", fn := fun _ => fun
  | [d] => { results := [.lit (.bool false)], args := [d] }
  | _ => none }
def CompSaysWrongFalsely : Prop := compSaysRow.holds Try.pinned (OpenSpec.ofChange compSaysWrong)

/-- 'felllaw.HeurOfs': WHATEVER THE INPUT: true; the input reads as it did. -/
def heurOfsSpec : ChangeSpec := { name := "heurOfs", fn := fun _ => fun
  | [d1, d2, d3] => { results := [.lit (.bool true)], args := [d1, d2, d3] }
  | _ => none }
def heurOfsRow : OpenClaim := { program := "ytgkiipmeigfjnaa", sum := "25fc6c20e896f41ce9f7bd1b3c1c3b469008334cfea56979e1bdd6aab582ff7e", func := "fellwalker/felllaw.HeurOfs", spec := "heurOfs", unfollowed := true, recurses := true, plainKeys := false, apart := false }
def HeurOfsSaid : Prop := heurOfsRow.holds Try.pinned (OpenSpec.ofChange heurOfsSpec)

/-- ITS FALSE NEIGHBOUR: 'it returns false'. Refute it at one input. -/
def heurOfsWrong : ChangeSpec := { name := "heurOfs", fn := fun _ => fun
  | [d1, d2, d3] => { results := [.lit (.bool false)], args := [d1, d2, d3] }
  | _ => none }
def HeurOfsWrongFalsely : Prop := heurOfsRow.holds Try.pinned (OpenSpec.ofChange heurOfsWrong)

/-- 'felllaw.StarRuns': WHATEVER THE INPUT: true; the input reads as it did. -/
def starRunsSpec : ChangeSpec := { name := "starRuns", fn := fun _ => fun
  | [d1, d2, d3, d4] => { results := [.lit (.bool true)], args := [d1, d2, d3, d4] }
  | _ => none }
def starRunsRow : OpenClaim := { program := "ytgkiipmeigfjnaa", sum := "25fc6c20e896f41ce9f7bd1b3c1c3b469008334cfea56979e1bdd6aab582ff7e", func := "fellwalker/felllaw.StarRuns", spec := "starRuns", unfollowed := true, recurses := true, plainKeys := false, apart := false }
def StarRunsSaid : Prop := starRunsRow.holds Try.pinned (OpenSpec.ofChange starRunsSpec)

/-- ITS FALSE NEIGHBOUR: 'it returns false'. Refute it at one input. -/
def starRunsWrong : ChangeSpec := { name := "starRuns", fn := fun _ => fun
  | [d1, d2, d3, d4] => { results := [.lit (.bool false)], args := [d1, d2, d3, d4] }
  | _ => none }
def StarRunsWrongFalsely : Prop := starRunsRow.holds Try.pinned (OpenSpec.ofChange starRunsWrong)

/-- 'felllaw.HierDists': WHATEVER THE INPUT: true; the input reads as it did. -/
def hierDistsSpec : ChangeSpec := { name := "hierDists", fn := fun _ => fun
  | [d1, d2, d3, d4] => { results := [.lit (.bool true)], args := [d1, d2, d3, d4] }
  | _ => none }
def hierDistsRow : OpenClaim := { program := "ytgkiipmeigfjnaa", sum := "25fc6c20e896f41ce9f7bd1b3c1c3b469008334cfea56979e1bdd6aab582ff7e", func := "fellwalker/felllaw.HierDists", spec := "hierDists", unfollowed := true, recurses := true, plainKeys := false, apart := false }
def HierDistsSaid : Prop := hierDistsRow.holds Try.pinned (OpenSpec.ofChange hierDistsSpec)

/-- ITS FALSE NEIGHBOUR: 'it returns false'. Refute it at one input. -/
def hierDistsWrong : ChangeSpec := { name := "hierDists", fn := fun _ => fun
  | [d1, d2, d3, d4] => { results := [.lit (.bool false)], args := [d1, d2, d3, d4] }
  | _ => none }
def HierDistsWrongFalsely : Prop := hierDistsRow.holds Try.pinned (OpenSpec.ofChange hierDistsWrong)

/- THE SECOND FORM. 'bulk': how many values and letters a reading holds, each counted each time it is reached (what is shared counts as often as it is met; a slice's spare places count too). A statement '..UptoSaid' is the law's where the arguments, and the package variables that the reading takes, are together of bulk at most 1048576: NARROWER than '..Said'. Prove '..Said' where nothing that the law and all that it calls make is longer than what came in: it says more and counts as full. Else prove '..UptoSaid'. A law counts once. -/
mutual
def uptoBulk {H : Type} : DataW H → Nat
  | .lit (.string bytes) => bytes.length + 1
  | .lit _ => 1
  | .nil => 1
  | .ptr d => uptoBulk d + 1
  | .slice elems spare => uptoBulkAll elems + uptoBulkAll spare + 1
  | .agg parts => uptoBulkAll parts + 1
  | .iface _ d => uptoBulk d + 1
  | .map entries => uptoBulkEntries entries + 1
  | .held _ => 1
def uptoBulkAll {H : Type} : List (DataW H) → Nat
  | [] => 0
  | d :: r => uptoBulk d + uptoBulkAll r
def uptoBulkEntries {H : Type} : List (Lit × DataW H) → Nat
  | [] => 0
  | x :: r => uptoBulkEntry x + uptoBulkEntries r
def uptoBulkEntry {H : Type} : Lit × DataW H → Nat
  | (.string bytes, d) => bytes.length + uptoBulk d + 1
  | (_, d) => uptoBulk d + 1
 end
def uptoSmall : (H : Type) → List (DataW H) → Bool := fun _ ds => decide (uptoBulkAll ds ≤ 1048576)
def OpenSpec.upto (s : _root_.Go.ChangeSpec) : _root_.Go.OpenSpec := { _root_.Go.OpenSpec.ofChange s with cond := some uptoSmall }

/-- 'felltop.TopNeck', WHERE WHAT IT READS IS OF BULK AT MOST 1048576: true; the input reads as it did. -/
def topNeckUptoRow : OpenClaim := { program := "ytgkiipmeigfjnaa", sum := "25fc6c20e896f41ce9f7bd1b3c1c3b469008334cfea56979e1bdd6aab582ff7e", func := "fellwalker/felltop.TopNeck", spec := "topNeck", unfollowed := true, recurses := true, plainKeys := false, apart := false, narrowed := true }
def TopNeckUptoSaid : Prop := topNeckUptoRow.holds Try.pinned (OpenSpec.upto topNeckSpec)

/-- 'felllaw.TwinAparts', WHERE WHAT IT READS IS OF BULK AT MOST 1048576: true; the input reads as it did. -/
def twinApartsUptoRow : OpenClaim := { program := "ytgkiipmeigfjnaa", sum := "25fc6c20e896f41ce9f7bd1b3c1c3b469008334cfea56979e1bdd6aab582ff7e", func := "fellwalker/felllaw.TwinAparts", spec := "twinAparts", plainKeys := false, apart := false, narrowed := true }
def TwinApartsUptoSaid : Prop := twinApartsUptoRow.holds Try.pinned (OpenSpec.upto twinApartsSpec)

/-- 'felllaw.BellCycles', WHERE WHAT IT READS IS OF BULK AT MOST 1048576: true; the input reads as it did. -/
def bellCyclesUptoRow : OpenClaim := { program := "ytgkiipmeigfjnaa", sum := "25fc6c20e896f41ce9f7bd1b3c1c3b469008334cfea56979e1bdd6aab582ff7e", func := "fellwalker/felllaw.BellCycles", spec := "bellCycles", plainKeys := false, apart := false, narrowed := true }
def BellCyclesUptoSaid : Prop := bellCyclesUptoRow.holds Try.pinned (OpenSpec.upto bellCyclesSpec)

/-- 'felllaw.SpanNecks', WHERE WHAT IT READS IS OF BULK AT MOST 1048576: true; the input reads as it did. -/
def spanNecksUptoRow : OpenClaim := { program := "ytgkiipmeigfjnaa", sum := "25fc6c20e896f41ce9f7bd1b3c1c3b469008334cfea56979e1bdd6aab582ff7e", func := "fellwalker/felllaw.SpanNecks", spec := "spanNecks", unfollowed := true, recurses := true, plainKeys := false, apart := false, narrowed := true }
def SpanNecksUptoSaid : Prop := spanNecksUptoRow.holds Try.pinned (OpenSpec.upto spanNecksSpec)

/-- 'felllaw.HierSays', WHERE WHAT IT READS IS OF BULK AT MOST 1048576: true; the input reads as it did. -/
def hierSaysUptoRow : OpenClaim := { program := "ytgkiipmeigfjnaa", sum := "25fc6c20e896f41ce9f7bd1b3c1c3b469008334cfea56979e1bdd6aab582ff7e", func := "fellwalker/felllaw.HierSays", spec := "hierSays", unfollowed := true, recurses := true, plainKeys := false, apart := false, narrowed := true }
def HierSaysUptoSaid : Prop := hierSaysUptoRow.holds Try.pinned (OpenSpec.upto hierSaysSpec)

/-- 'felllaw.DagSays', WHERE WHAT IT READS IS OF BULK AT MOST 1048576: true; the input reads as it did. -/
def dagSaysUptoRow : OpenClaim := { program := "ytgkiipmeigfjnaa", sum := "25fc6c20e896f41ce9f7bd1b3c1c3b469008334cfea56979e1bdd6aab582ff7e", func := "fellwalker/felllaw.DagSays", spec := "dagSays", unfollowed := true, recurses := true, plainKeys := false, apart := false, narrowed := true }
def DagSaysUptoSaid : Prop := dagSaysUptoRow.holds Try.pinned (OpenSpec.upto dagSaysSpec)

/-- 'felllaw.HeurMarks', WHERE WHAT IT READS IS OF BULK AT MOST 1048576: true; the input reads as it did. -/
def heurMarksUptoRow : OpenClaim := { program := "ytgkiipmeigfjnaa", sum := "25fc6c20e896f41ce9f7bd1b3c1c3b469008334cfea56979e1bdd6aab582ff7e", func := "fellwalker/felllaw.HeurMarks", spec := "heurMarks", unfollowed := true, recurses := true, plainKeys := false, apart := false, narrowed := true }
def HeurMarksUptoSaid : Prop := heurMarksUptoRow.holds Try.pinned (OpenSpec.upto heurMarksSpec)

/-- 'felllaw.JohnAlls', WHERE WHAT IT READS IS OF BULK AT MOST 1048576: true; the input reads as it did. -/
def johnAllsUptoRow : OpenClaim := { program := "ytgkiipmeigfjnaa", sum := "25fc6c20e896f41ce9f7bd1b3c1c3b469008334cfea56979e1bdd6aab582ff7e", func := "fellwalker/felllaw.JohnAlls", spec := "johnAlls", unfollowed := true, recurses := true, plainKeys := false, apart := false, narrowed := true }
def JohnAllsUptoSaid : Prop := johnAllsUptoRow.holds Try.pinned (OpenSpec.upto johnAllsSpec)

/-- 'felllaw.CompSays', WHERE WHAT IT READS IS OF BULK AT MOST 1048576: true; the input reads as it did. -/
def compSaysUptoRow : OpenClaim := { program := "ytgkiipmeigfjnaa", sum := "25fc6c20e896f41ce9f7bd1b3c1c3b469008334cfea56979e1bdd6aab582ff7e", func := "fellwalker/felllaw.CompSays", spec := "compSays", unfollowed := true, recurses := true, plainKeys := false, apart := false, narrowed := true }
def CompSaysUptoSaid : Prop := compSaysUptoRow.holds Try.pinned (OpenSpec.upto compSaysSpec)

/-- 'felllaw.HeurOfs', WHERE WHAT IT READS IS OF BULK AT MOST 1048576: true; the input reads as it did. -/
def heurOfsUptoRow : OpenClaim := { program := "ytgkiipmeigfjnaa", sum := "25fc6c20e896f41ce9f7bd1b3c1c3b469008334cfea56979e1bdd6aab582ff7e", func := "fellwalker/felllaw.HeurOfs", spec := "heurOfs", unfollowed := true, recurses := true, plainKeys := false, apart := false, narrowed := true }
def HeurOfsUptoSaid : Prop := heurOfsUptoRow.holds Try.pinned (OpenSpec.upto heurOfsSpec)

/-- 'felllaw.StarRuns', WHERE WHAT IT READS IS OF BULK AT MOST 1048576: true; the input reads as it did. -/
def starRunsUptoRow : OpenClaim := { program := "ytgkiipmeigfjnaa", sum := "25fc6c20e896f41ce9f7bd1b3c1c3b469008334cfea56979e1bdd6aab582ff7e", func := "fellwalker/felllaw.StarRuns", spec := "starRuns", unfollowed := true, recurses := true, plainKeys := false, apart := false, narrowed := true }
def StarRunsUptoSaid : Prop := starRunsUptoRow.holds Try.pinned (OpenSpec.upto starRunsSpec)

/-- 'felllaw.HierDists', WHERE WHAT IT READS IS OF BULK AT MOST 1048576: true; the input reads as it did. -/
def hierDistsUptoRow : OpenClaim := { program := "ytgkiipmeigfjnaa", sum := "25fc6c20e896f41ce9f7bd1b3c1c3b469008334cfea56979e1bdd6aab582ff7e", func := "fellwalker/felllaw.HierDists", spec := "hierDists", unfollowed := true, recurses := true, plainKeys := false, apart := false, narrowed := true }
def HierDistsUptoSaid : Prop := hierDistsUptoRow.holds Try.pinned (OpenSpec.upto hierDistsSpec)

end Rows
end Go.Proofs.Ytgkiipmeigfjnaa
