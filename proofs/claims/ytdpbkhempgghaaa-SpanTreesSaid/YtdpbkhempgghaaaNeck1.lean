/-
  The step that span.Neck hands to the tree: are two places joined by now? Conditions: a right edge, places in bounds.
-/
import Derived.Test.YtdpbkhempgghaaaGroups
import Derived.Test.YtdpbkhempgghaaaNeckP
import Derived.Deep.RegionHeld3
namespace Go.Proofs.Ytdpbkhempgghaaa
open Go.RowKit
set_option linter.unusedSimpArgs false
set_option linter.unusedVariables false
/-- the groups as they were, but for shorter ways; the two places' cells -/
def FS (w : World) (ub n : Nat) (v : Value) (f : Nat → Nat) (ba bb : Nat) (a b : Nat) (w' : World) : Prop := ∃ f', Forest f' ∧ (∀ j, root f' j = root f j) ∧ Grp w' ub v n f' ∧ Keep (Blk v) w w' ∧ w'.cell? ⟨ba, 0, none⟩ = some (.int .i64 (a : Int)) ∧ w'.cell? ⟨bb, 0, none⟩ = some (.int .i64 (b : Int))
theorem FS.drew {w : World} {ub n : Nat} {v : Value} {f : Nat → Nat} {ba bb a b : Nat} {w' : World} (h : FS w ub n v f ba bb a b w') : FS w ub n v f ba bb a b w'.drew := by
  obtain ⟨f', h1, h2, h3, h4, h5, h6⟩ := h
  exact ⟨f', h1, h2, h3.drew, h4.drew, h5, h6⟩
/-- what the step leaves -/
def NStep (w : World) (ub n : Nat) (v : Value) (f : Nat → Nat) (bn be : Nat) (same : Bool) (c : Int) (w' : World) : Prop := ∃ f', Forest f' ∧ (∀ j, root f' j = root f j) ∧ Grp w' ub v n f' ∧
  (if same = true then Keep (fun k => Blk v k ∨ k = bn ∨ k = be) w w' ∧ w'.cell? ⟨bn, 0, none⟩ = some (.int .i64 c) ∧ w'.cell? ⟨be, 0, none⟩ = some (.int .i64 0) else Keep (Blk v) w w')
