/-
  What maps.Print returns. Condition: the slice reads.
-/
import Derived.Test.YtccailcjclbhlaaDoorGridChk
import Derived.Test.YtccailcjclbhlaaDoorBld
import Derived.Deep.DeepCutAuto
namespace Go.Proofs.YtccailcjclbhlaaDoor
open Go.RowKit
set_option linter.unusedSimpArgs false
set_option linter.unusedVariables false

def chU (c : Int) : UInt8 := ([35, 49, 50, 51, 52, 53, 54, 55, 56, 57] : List UInt8).getD c.toNat 0
def printAt (W : Int) (cs : List Int) (j : Nat) : List UInt8 := chU (cs.getD j 0) :: (if ((j : Int) + 1).tmod W = 0 then [10] else [])
def printTo (W : Int) (cs : List Int) (k : Nat) : List UInt8 := (List.range k).flatMap (printAt W cs)
theorem printTo_succ (W : Int) (cs : List Int) (k : Nat) : printTo W cs (k + 1) = printTo W cs k ++ printAt W cs k := by
  simp [printTo, List.range_succ, List.flatMap_append]
theorem printTo_line {W : Int} {cs : List Int} {k : Nat} (h : k < cs.length) (q : ((k : Int) + 1).tmod W = 0) : printTo W cs (k + 1) = (printTo W cs k ++ [chU cs[k]]) ++ [10] := by
  rw [printTo_succ, printAt, if_pos q, List.getD_eq_getElem?_getD, List.getElem?_eq_getElem h]; simp
theorem printTo_same {W : Int} {cs : List Int} {k : Nat} (h : k < cs.length) (q : ¬ ((k : Int) + 1).tmod W = 0) : printTo W cs (k + 1) = printTo W cs k ++ [chU cs[k]] := by
  rw [printTo_succ, printAt, if_neg q, List.getD_eq_getElem?_getD, List.getElem?_eq_getElem h]; simp
theorem printTo_len (W : Int) (cs : List Int) (k : Nat) : (printTo W cs k).length ≤ 2 * k := by
  induction k with
  | zero => simp [printTo]
  | succ n ih =>
    rw [printTo_succ, List.length_append]
    have : (printAt W cs n).length ≤ 2 := by unfold printAt; split <;> simp
    omega
theorem printTo_some (W : Int) (cs : List Int) (k : Nat) (h : 1 ≤ k) : printTo W cs k ≠ [] := by
  obtain ⟨n, rfl⟩ : ∃ n, k = n + 1 := ⟨k - 1, by omega⟩
  rw [printTo_succ]; simp [printAt]

