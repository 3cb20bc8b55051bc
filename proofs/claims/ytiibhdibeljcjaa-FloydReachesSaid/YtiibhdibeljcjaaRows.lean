/-
  No cell of these rows narrows 'for every input' (looked for: loops, veiled, ifaces, maps, wideKeys, modest, calm, conditions, laid).
  DERIVED. THE GIVEN ROWS OF THIS SEAT. 12 by the template 'for every input the law returns true; each argument reads behind the call as it read before'; 0 by the template 'total and deterministic' (their statements: YtiibhdibeljcjaaTotals.lean).
  GIVEN WITH THE SEED: the statements are not yours to turn. If you find one false, say at which input.
  Laid BY PROGRAM, IN A SANDBOX (cutbox-rows.mjs): the forced cells as the released guide's own fill.sh prints them over the translation 060b7c832fcd255a… (all of the seat's roots in one cut). By AI agents, Wed Nov 11 2026. No macro, syntax, notation, axiom, sorry.
-/
import Derived.Test.YtiibhdibeljcjaaChecked
import GoSem.Claim
import GoSem.ClaimJoined
import GoSem.ClaimMapViews
import Derived.JoinedTies
import Derived.KernelRfl
namespace Go.Proofs.Ytiibhdibeljcjaa
/- THE CELL 'sum', in the pinned program and in every row, IS THE sha256 OF THE DUMP (.gsa) THAT YtiibhdibeljcjaaProg.lean LOADS. Nothing in Lean hashes anything: it is a label: what it is worth is what the hold of that sum in a sandbox is worth. -/
noncomputable def Try.pinned : Pinned := { name := "ytiibhdibeljcjaa", sum := "060b7c832fcd255ab7b7eadcd170a252565fe39e888b67aa91f9e9be340986fa", checked := Try.checked }
namespace Rows
def none {H : Type} : Left H := { results := [], args := [] }

/-- 'felllaw.Names': WHATEVER THE INPUT: true; the input reads as it did. -/
def namesSpec : ChangeSpec := { name := "names", fn := fun _ => fun
  | [] => { results := [.lit (.bool true)], args := [] }
  | _ => none }
def namesRow : OpenClaim := { program := "ytiibhdibeljcjaa", sum := "060b7c832fcd255ab7b7eadcd170a252565fe39e888b67aa91f9e9be340986fa", func := "fellwalker/felllaw.Names", spec := "names", apart := false }
def NamesSaid : Prop := namesRow.holds Try.pinned (OpenSpec.ofChange namesSpec)

/-- ITS FALSE NEIGHBOUR: 'it returns false'. Refute it at one input. -/
def namesWrong : ChangeSpec := { name := "names", fn := fun _ => fun
  | [] => { results := [.lit (.bool false)], args := [] }
  | _ => none }
def NamesWrongFalsely : Prop := namesRow.holds Try.pinned (OpenSpec.ofChange namesWrong)

/-- 'felllaw.RatioMakes': WHATEVER THE INPUT: true; the input reads as it did. -/
def ratioMakesSpec : ChangeSpec := { name := "ratioMakes", fn := fun _ => fun
  | [d1, d2, d3] => { results := [.lit (.bool true)], args := [d1, d2, d3] }
  | _ => none }
def ratioMakesRow : OpenClaim := { program := "ytiibhdibeljcjaa", sum := "060b7c832fcd255ab7b7eadcd170a252565fe39e888b67aa91f9e9be340986fa", func := "fellwalker/felllaw.RatioMakes", spec := "ratioMakes", recurses := true, apart := false }
def RatioMakesSaid : Prop := ratioMakesRow.holds Try.pinned (OpenSpec.ofChange ratioMakesSpec)

/-- ITS FALSE NEIGHBOUR: 'it returns false'. Refute it at one input. -/
def ratioMakesWrong : ChangeSpec := { name := "ratioMakes", fn := fun _ => fun
  | [d1, d2, d3] => { results := [.lit (.bool false)], args := [d1, d2, d3] }
  | _ => none }
def RatioMakesWrongFalsely : Prop := ratioMakesRow.holds Try.pinned (OpenSpec.ofChange ratioMakesWrong)

/-- 'felllaw.RatioRounds': WHATEVER THE INPUT: true; the input reads as it did. -/
def ratioRoundsSpec : ChangeSpec := { name := "ratioRounds", fn := fun _ => fun
  | [d] => { results := [.lit (.bool true)], args := [d] }
  | _ => none }
def ratioRoundsRow : OpenClaim := { program := "ytiibhdibeljcjaa", sum := "060b7c832fcd255ab7b7eadcd170a252565fe39e888b67aa91f9e9be340986fa", func := "fellwalker/felllaw.RatioRounds", spec := "ratioRounds", recurses := true, apart := false }
def RatioRoundsSaid : Prop := ratioRoundsRow.holds Try.pinned (OpenSpec.ofChange ratioRoundsSpec)

/-- ITS FALSE NEIGHBOUR: 'it returns false'. Refute it at one input. -/
def ratioRoundsWrong : ChangeSpec := { name := "ratioRounds", fn := fun _ => fun
  | [d] => { results := [.lit (.bool false)], args := [d] }
  | _ => none }
def RatioRoundsWrongFalsely : Prop := ratioRoundsRow.holds Try.pinned (OpenSpec.ofChange ratioRoundsWrong)

/-- 'felllaw.MapsPrints': WHATEVER THE INPUT: true; the input reads as it did. -/
def mapsPrintsSpec : ChangeSpec := { name := "mapsPrints", fn := fun _ => fun
  | [d] => { results := [.lit (.bool true)], args := [d] }
  | _ => none }
def mapsPrintsRow : OpenClaim := { program := "ytiibhdibeljcjaa", sum := "060b7c832fcd255ab7b7eadcd170a252565fe39e888b67aa91f9e9be340986fa", func := "fellwalker/felllaw.MapsPrints", spec := "mapsPrints", inPlace := ["internal/abi.NoEscape"], apart := false }
def MapsPrintsSaid : Prop := mapsPrintsRow.holds Try.pinned (OpenSpec.ofChange mapsPrintsSpec)

/-- ITS FALSE NEIGHBOUR: 'it returns false'. Refute it at one input. -/
def mapsPrintsWrong : ChangeSpec := { name := "mapsPrints", fn := fun _ => fun
  | [d] => { results := [.lit (.bool false)], args := [d] }
  | _ => none }
def MapsPrintsWrongFalsely : Prop := mapsPrintsRow.holds Try.pinned (OpenSpec.ofChange mapsPrintsWrong)

/-- 'felllaw.NetTurns': WHATEVER THE INPUT: true; the input reads as it did. -/
def netTurnsSpec : ChangeSpec := { name := "netTurns", fn := fun _ => fun
  | [d] => { results := [.lit (.bool true)], args := [d] }
  | _ => none }
def netTurnsRow : OpenClaim := { program := "ytiibhdibeljcjaa", sum := "060b7c832fcd255ab7b7eadcd170a252565fe39e888b67aa91f9e9be340986fa", func := "fellwalker/felllaw.NetTurns", spec := "netTurns", apart := false }
def NetTurnsSaid : Prop := netTurnsRow.holds Try.pinned (OpenSpec.ofChange netTurnsSpec)

/-- ITS FALSE NEIGHBOUR: 'it returns false'. Refute it at one input. -/
def netTurnsWrong : ChangeSpec := { name := "netTurns", fn := fun _ => fun
  | [d] => { results := [.lit (.bool false)], args := [d] }
  | _ => none }
def NetTurnsWrongFalsely : Prop := netTurnsRow.holds Try.pinned (OpenSpec.ofChange netTurnsWrong)

/-- 'felllaw.FloydReaches': WHATEVER THE INPUT: true; the input reads as it did. -/
def floydReachesSpec : ChangeSpec := { name := "floydReaches", fn := fun _ => fun
  | [d] => { results := [.lit (.bool true)], args := [d] }
  | _ => none }
def floydReachesRow : OpenClaim := { program := "ytiibhdibeljcjaa", sum := "060b7c832fcd255ab7b7eadcd170a252565fe39e888b67aa91f9e9be340986fa", func := "fellwalker/felllaw.FloydReaches", spec := "floydReaches", unfollowed := true, recurses := true, apart := false }
def FloydReachesSaid : Prop := floydReachesRow.holds Try.pinned (OpenSpec.ofChange floydReachesSpec)

/-- ITS FALSE NEIGHBOUR: 'it returns false'. Refute it at one input. -/
def floydReachesWrong : ChangeSpec := { name := "floydReaches", fn := fun _ => fun
  | [d] => { results := [.lit (.bool false)], args := [d] }
  | _ => none }
def FloydReachesWrongFalsely : Prop := floydReachesRow.holds Try.pinned (OpenSpec.ofChange floydReachesWrong)

/-- 'felllaw.UnionSays': WHATEVER THE INPUT: true; the input reads as it did. -/
def unionSaysSpec : ChangeSpec := { name := "unionSays", fn := fun _ => fun
  | [d1, d2] => { results := [.lit (.bool true)], args := [d1, d2] }
  | _ => none }
def unionSaysRow : OpenClaim := { program := "ytiibhdibeljcjaa", sum := "060b7c832fcd255ab7b7eadcd170a252565fe39e888b67aa91f9e9be340986fa", func := "fellwalker/felllaw.UnionSays", spec := "unionSays", apart := false }
def UnionSaysSaid : Prop := unionSaysRow.holds Try.pinned (OpenSpec.ofChange unionSaysSpec)

/-- ITS FALSE NEIGHBOUR: 'it returns false'. Refute it at one input. -/
def unionSaysWrong : ChangeSpec := { name := "unionSays", fn := fun _ => fun
  | [d1, d2] => { results := [.lit (.bool false)], args := [d1, d2] }
  | _ => none }
def UnionSaysWrongFalsely : Prop := unionSaysRow.holds Try.pinned (OpenSpec.ofChange unionSaysWrong)

/-- 'felllaw.RatioCounts': WHATEVER THE INPUT: true; the input reads as it did. -/
def ratioCountsSpec : ChangeSpec := { name := "ratioCounts", fn := fun _ => fun
  | [d1, d2] => { results := [.lit (.bool true)], args := [d1, d2] }
  | _ => none }
def ratioCountsRow : OpenClaim := { program := "ytiibhdibeljcjaa", sum := "060b7c832fcd255ab7b7eadcd170a252565fe39e888b67aa91f9e9be340986fa", func := "fellwalker/felllaw.RatioCounts", spec := "ratioCounts", unfollowed := true, recurses := true, apart := false }
def RatioCountsSaid : Prop := ratioCountsRow.holds Try.pinned (OpenSpec.ofChange ratioCountsSpec)

/-- ITS FALSE NEIGHBOUR: 'it returns false'. Refute it at one input. -/
def ratioCountsWrong : ChangeSpec := { name := "ratioCounts", fn := fun _ => fun
  | [d1, d2] => { results := [.lit (.bool false)], args := [d1, d2] }
  | _ => none }
def RatioCountsWrongFalsely : Prop := ratioCountsRow.holds Try.pinned (OpenSpec.ofChange ratioCountsWrong)

/-- 'felllaw.WalkCuts': WHATEVER THE INPUT: true; the input reads as it did. -/
def walkCutsSpec : ChangeSpec := { name := "walkCuts", fn := fun _ => fun
  | [d1, d2] => { results := [.lit (.bool true)], args := [d1, d2] }
  | _ => none }
def walkCutsRow : OpenClaim := { program := "ytiibhdibeljcjaa", sum := "060b7c832fcd255ab7b7eadcd170a252565fe39e888b67aa91f9e9be340986fa", func := "fellwalker/felllaw.WalkCuts", spec := "walkCuts", recurses := true, apart := false }
def WalkCutsSaid : Prop := walkCutsRow.holds Try.pinned (OpenSpec.ofChange walkCutsSpec)

/-- ITS FALSE NEIGHBOUR: 'it returns false'. Refute it at one input. -/
def walkCutsWrong : ChangeSpec := { name := "walkCuts", fn := fun _ => fun
  | [d1, d2] => { results := [.lit (.bool false)], args := [d1, d2] }
  | _ => none }
def WalkCutsWrongFalsely : Prop := walkCutsRow.holds Try.pinned (OpenSpec.ofChange walkCutsWrong)

/-- 'felllaw.GridMoves': WHATEVER THE INPUT: true; the input reads as it did. -/
def gridMovesSpec : ChangeSpec := { name := "gridMoves", fn := fun _ => fun
  | [d1, d2] => { results := [.lit (.bool true)], args := [d1, d2] }
  | _ => none }
def gridMovesRow : OpenClaim := { program := "ytiibhdibeljcjaa", sum := "060b7c832fcd255ab7b7eadcd170a252565fe39e888b67aa91f9e9be340986fa", func := "fellwalker/felllaw.GridMoves", spec := "gridMoves", apart := false }
def GridMovesSaid : Prop := gridMovesRow.holds Try.pinned (OpenSpec.ofChange gridMovesSpec)

/-- ITS FALSE NEIGHBOUR: 'it returns false'. Refute it at one input. -/
def gridMovesWrong : ChangeSpec := { name := "gridMoves", fn := fun _ => fun
  | [d1, d2] => { results := [.lit (.bool false)], args := [d1, d2] }
  | _ => none }
def GridMovesWrongFalsely : Prop := gridMovesRow.holds Try.pinned (OpenSpec.ofChange gridMovesWrong)

/-- 'felllaw.NetChecks': WHATEVER THE INPUT: true; the input reads as it did. -/
def netChecksSpec : ChangeSpec := { name := "netChecks", fn := fun _ => fun
  | [d1, d2] => { results := [.lit (.bool true)], args := [d1, d2] }
  | _ => none }
def netChecksRow : OpenClaim := { program := "ytiibhdibeljcjaa", sum := "060b7c832fcd255ab7b7eadcd170a252565fe39e888b67aa91f9e9be340986fa", func := "fellwalker/felllaw.NetChecks", spec := "netChecks", unfollowed := true, recurses := true, apart := false }
def NetChecksSaid : Prop := netChecksRow.holds Try.pinned (OpenSpec.ofChange netChecksSpec)

/-- ITS FALSE NEIGHBOUR: 'it returns false'. Refute it at one input. -/
def netChecksWrong : ChangeSpec := { name := "netChecks", fn := fun _ => fun
  | [d1, d2] => { results := [.lit (.bool false)], args := [d1, d2] }
  | _ => none }
def NetChecksWrongFalsely : Prop := netChecksRow.holds Try.pinned (OpenSpec.ofChange netChecksWrong)

/-- 'felllaw.JohnLifts': WHATEVER THE INPUT: true; the input reads as it did. -/
def johnLiftsSpec : ChangeSpec := { name := "johnLifts", fn := fun _ => fun
  | [d] => { results := [.lit (.bool true)], args := [d] }
  | _ => none }
def johnLiftsRow : OpenClaim := { program := "ytiibhdibeljcjaa", sum := "060b7c832fcd255ab7b7eadcd170a252565fe39e888b67aa91f9e9be340986fa", func := "fellwalker/felllaw.JohnLifts", spec := "johnLifts", apart := false }
def JohnLiftsSaid : Prop := johnLiftsRow.holds Try.pinned (OpenSpec.ofChange johnLiftsSpec)

/-- ITS FALSE NEIGHBOUR: 'it returns false'. Refute it at one input. -/
def johnLiftsWrong : ChangeSpec := { name := "johnLifts", fn := fun _ => fun
  | [d] => { results := [.lit (.bool false)], args := [d] }
  | _ => none }
def JohnLiftsWrongFalsely : Prop := johnLiftsRow.holds Try.pinned (OpenSpec.ofChange johnLiftsWrong)

/- THE SECOND FORM. 'bulk': how many values and letters a reading holds, each counted each time it is reached (what is shared counts as often as it is met; a slice's spare places count too). A statement '..UptoSaid' is the law's where the arguments, and the package variables that the reading takes, are together of bulk at most 1048576: NARROWER than '..Said'. Prove '..Said' where nothing that the law and all that it calls make is longer than what came in: it says more and counts as full. Else prove '..UptoSaid'. A law counts once. -/
mutual
def uptoBulk {H : Type} : DataW H → Nat
  | .lit (.string bytes) => bytes.length + 1
  | .lit _ => 1
  | .nil => 1
  | .ptr d => uptoBulk d + 1
  | .slice elems spare => uptoBulkAll elems + uptoBulkAll spare + 1
  | .agg parts => uptoBulkAll parts + 1
  | .iface _ d => uptoBulk d + 1
  | .map entries => uptoBulkEntries entries + 1
  | .held _ => 1
def uptoBulkAll {H : Type} : List (DataW H) → Nat
  | [] => 0
  | d :: r => uptoBulk d + uptoBulkAll r
def uptoBulkEntries {H : Type} : List (Lit × DataW H) → Nat
  | [] => 0
  | x :: r => uptoBulkEntry x + uptoBulkEntries r
def uptoBulkEntry {H : Type} : Lit × DataW H → Nat
  | (.string bytes, d) => bytes.length + uptoBulk d + 1
  | (_, d) => uptoBulk d + 1
 end
def uptoSmall : (H : Type) → List (DataW H) → Bool := fun _ ds => decide (uptoBulkAll ds ≤ 1048576)
def OpenSpec.upto (s : _root_.Go.ChangeSpec) : _root_.Go.OpenSpec := { _root_.Go.OpenSpec.ofChange s with cond := some uptoSmall }

/-- 'felllaw.Names', WHERE WHAT IT READS IS OF BULK AT MOST 1048576: true; the input reads as it did. -/
def namesUptoRow : OpenClaim := { program := "ytiibhdibeljcjaa", sum := "060b7c832fcd255ab7b7eadcd170a252565fe39e888b67aa91f9e9be340986fa", func := "fellwalker/felllaw.Names", spec := "names", apart := false, narrowed := true }
def NamesUptoSaid : Prop := namesUptoRow.holds Try.pinned (OpenSpec.upto namesSpec)

/-- 'felllaw.RatioMakes', WHERE WHAT IT READS IS OF BULK AT MOST 1048576: true; the input reads as it did. -/
def ratioMakesUptoRow : OpenClaim := { program := "ytiibhdibeljcjaa", sum := "060b7c832fcd255ab7b7eadcd170a252565fe39e888b67aa91f9e9be340986fa", func := "fellwalker/felllaw.RatioMakes", spec := "ratioMakes", recurses := true, apart := false, narrowed := true }
def RatioMakesUptoSaid : Prop := ratioMakesUptoRow.holds Try.pinned (OpenSpec.upto ratioMakesSpec)

/-- 'felllaw.RatioRounds', WHERE WHAT IT READS IS OF BULK AT MOST 1048576: true; the input reads as it did. -/
def ratioRoundsUptoRow : OpenClaim := { program := "ytiibhdibeljcjaa", sum := "060b7c832fcd255ab7b7eadcd170a252565fe39e888b67aa91f9e9be340986fa", func := "fellwalker/felllaw.RatioRounds", spec := "ratioRounds", recurses := true, apart := false, narrowed := true }
def RatioRoundsUptoSaid : Prop := ratioRoundsUptoRow.holds Try.pinned (OpenSpec.upto ratioRoundsSpec)

/-- 'felllaw.MapsPrints', WHERE WHAT IT READS IS OF BULK AT MOST 1048576: true; the input reads as it did. -/
def mapsPrintsUptoRow : OpenClaim := { program := "ytiibhdibeljcjaa", sum := "060b7c832fcd255ab7b7eadcd170a252565fe39e888b67aa91f9e9be340986fa", func := "fellwalker/felllaw.MapsPrints", spec := "mapsPrints", inPlace := ["internal/abi.NoEscape"], apart := false, narrowed := true }
def MapsPrintsUptoSaid : Prop := mapsPrintsUptoRow.holds Try.pinned (OpenSpec.upto mapsPrintsSpec)

/-- 'felllaw.NetTurns', WHERE WHAT IT READS IS OF BULK AT MOST 1048576: true; the input reads as it did. -/
def netTurnsUptoRow : OpenClaim := { program := "ytiibhdibeljcjaa", sum := "060b7c832fcd255ab7b7eadcd170a252565fe39e888b67aa91f9e9be340986fa", func := "fellwalker/felllaw.NetTurns", spec := "netTurns", apart := false, narrowed := true }
def NetTurnsUptoSaid : Prop := netTurnsUptoRow.holds Try.pinned (OpenSpec.upto netTurnsSpec)

/-- 'felllaw.FloydReaches', WHERE WHAT IT READS IS OF BULK AT MOST 1048576: true; the input reads as it did. -/
def floydReachesUptoRow : OpenClaim := { program := "ytiibhdibeljcjaa", sum := "060b7c832fcd255ab7b7eadcd170a252565fe39e888b67aa91f9e9be340986fa", func := "fellwalker/felllaw.FloydReaches", spec := "floydReaches", unfollowed := true, recurses := true, apart := false, narrowed := true }
def FloydReachesUptoSaid : Prop := floydReachesUptoRow.holds Try.pinned (OpenSpec.upto floydReachesSpec)

/-- 'felllaw.UnionSays', WHERE WHAT IT READS IS OF BULK AT MOST 1048576: true; the input reads as it did. -/
def unionSaysUptoRow : OpenClaim := { program := "ytiibhdibeljcjaa", sum := "060b7c832fcd255ab7b7eadcd170a252565fe39e888b67aa91f9e9be340986fa", func := "fellwalker/felllaw.UnionSays", spec := "unionSays", apart := false, narrowed := true }
def UnionSaysUptoSaid : Prop := unionSaysUptoRow.holds Try.pinned (OpenSpec.upto unionSaysSpec)

/-- 'felllaw.RatioCounts', WHERE WHAT IT READS IS OF BULK AT MOST 1048576: true; the input reads as it did. -/
def ratioCountsUptoRow : OpenClaim := { program := "ytiibhdibeljcjaa", sum := "060b7c832fcd255ab7b7eadcd170a252565fe39e888b67aa91f9e9be340986fa", func := "fellwalker/felllaw.RatioCounts", spec := "ratioCounts", unfollowed := true, recurses := true, apart := false, narrowed := true }
def RatioCountsUptoSaid : Prop := ratioCountsUptoRow.holds Try.pinned (OpenSpec.upto ratioCountsSpec)

/-- 'felllaw.WalkCuts', WHERE WHAT IT READS IS OF BULK AT MOST 1048576: true; the input reads as it did. -/
def walkCutsUptoRow : OpenClaim := { program := "ytiibhdibeljcjaa", sum := "060b7c832fcd255ab7b7eadcd170a252565fe39e888b67aa91f9e9be340986fa", func := "fellwalker/felllaw.WalkCuts", spec := "walkCuts", recurses := true, apart := false, narrowed := true }
def WalkCutsUptoSaid : Prop := walkCutsUptoRow.holds Try.pinned (OpenSpec.upto walkCutsSpec)

/-- 'felllaw.GridMoves', WHERE WHAT IT READS IS OF BULK AT MOST 1048576: true; the input reads as it did. -/
def gridMovesUptoRow : OpenClaim := { program := "ytiibhdibeljcjaa", sum := "060b7c832fcd255ab7b7eadcd170a252565fe39e888b67aa91f9e9be340986fa", func := "fellwalker/felllaw.GridMoves", spec := "gridMoves", apart := false, narrowed := true }
def GridMovesUptoSaid : Prop := gridMovesUptoRow.holds Try.pinned (OpenSpec.upto gridMovesSpec)

/-- 'felllaw.NetChecks', WHERE WHAT IT READS IS OF BULK AT MOST 1048576: true; the input reads as it did. -/
def netChecksUptoRow : OpenClaim := { program := "ytiibhdibeljcjaa", sum := "060b7c832fcd255ab7b7eadcd170a252565fe39e888b67aa91f9e9be340986fa", func := "fellwalker/felllaw.NetChecks", spec := "netChecks", unfollowed := true, recurses := true, apart := false, narrowed := true }
def NetChecksUptoSaid : Prop := netChecksUptoRow.holds Try.pinned (OpenSpec.upto netChecksSpec)

/-- 'felllaw.JohnLifts', WHERE WHAT IT READS IS OF BULK AT MOST 1048576: true; the input reads as it did. -/
def johnLiftsUptoRow : OpenClaim := { program := "ytiibhdibeljcjaa", sum := "060b7c832fcd255ab7b7eadcd170a252565fe39e888b67aa91f9e9be340986fa", func := "fellwalker/felllaw.JohnLifts", spec := "johnLifts", apart := false, narrowed := true }
def JohnLiftsUptoSaid : Prop := johnLiftsUptoRow.holds Try.pinned (OpenSpec.upto johnLiftsSpec)

end Rows
end Go.Proofs.Ytiibhdibeljcjaa
