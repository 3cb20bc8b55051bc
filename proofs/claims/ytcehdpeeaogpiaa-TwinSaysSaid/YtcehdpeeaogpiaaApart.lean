/-
  What twin.Apart returns: whether two walks share no edge. Conditions: the arguments read.
-/
import Derived.Test.YtcehdpeeaogpiaaTwP
import Derived.Test.YtcehdpeeaogpiaaWWalkCosts
namespace Go.Proofs.Ytcehdpeeaogpiaa
open Go.RowKit Go.Maps
set_option linter.unusedSimpArgs false
set_option linter.unusedVariables false
/-- steps of the first j walks -/
def gS (a b : List Int) (j : Nat) (u v : Int) : Int := (if 1 ≤ j then stA a u v else 0) + (if 2 ≤ j then stA b u v else 0)
def selW (a b : List Int) (j : Nat) : List Int := if j = 0 then a else b
theorem gS_zero (a b : List Int) : gS a b 0 = fun _ _ => 0 := by funext u v; simp [gS]
theorem gS_start (a b : List Int) (j : Nat) : (fun u v => gS a b j u v + stC (selW a b j) 0 u v) = gS a b j := by funext u v; rw [stC_zero]; simp
theorem gS_step (a b : List Int) {j : Nat} (hj : j < 2) {k : Nat} (hk : k = (selW a b j).length - 1) : (fun u v => gS a b j u v + stC (selW a b j) k u v) = gS a b (j + 1) := by
  funext u v
  subst hk
  obtain rfl | rfl : j = 0 ∨ j = 1 := by omega
  · simp [gS, selW, stA]
  · simp [gS, selW, stA]
theorem gS_bd {n : Nat} {a b : List Int} (ha : Walked n a) (hb : Walked n b) (j : Nat) (u v : Int) : 0 ≤ gS a b j u v ∧ gS a b j u v ≤ 200 := by
  have h1 := stC_bd a (a.length - 1) u v
  have h2 := stC_bd b (b.length - 1) u v
  have h3 := ha.2.1
  have h4 := hb.2.1
  unfold gS stA
  constructor <;> (split <;> split <;> omega)
