/-
  What dijk.Dist returns. Conditions: that the slice reads.
-/
import Derived.Test.YtgkiipmeigfjnaaLook
import Derived.Test.YtgkiipmeigfjnaaDijkW
namespace Go.Proofs.Ytgkiipmeigfjnaa
open Go.RowKit
set_option linter.unusedSimpArgs false
set_option linter.unusedVariables false
theorem row1 {w : World} {b : Nat} {x : Int} (h : w.cell? ⟨b, 0, none⟩ = some (.int .i64 x)) : Row encI 1 w w.heap.size (some ⟨b, 0, none⟩) [x] := by
  intro i hi
  refine ⟨b, 0, rfl, cell_lt h, fun j u hu => ?_⟩
  have : i = 0 := by simpa using hi
  subst this
  match j, hu with
  | 0, hu => simp [encI] at hu; subst hu; simpa using h
theorem row2 {w : World} {b : Nat} {x y : Int} (h : w.cell? ⟨b, 0, none⟩ = some (.int .i64 x)) (h2 : w.cell? ⟨b, 1, none⟩ = some (.int .i64 y)) : Row encI 1 w w.heap.size (some ⟨b, 0, none⟩) [x, y] := by
  intro i hi
  refine ⟨b, 0, rfl, cell_lt h, fun j u hu => ?_⟩
  match i, hi, j, hu with
  | 0, _, 0, hu => simp [encI] at hu; subst hu; simpa using h
  | 1, _, 0, hu => simp [encI] at hu; subst hu; simpa using h2
/-- a slice and an error handed back -/
def RowN {α : Type} (enc : α → List Value) (sz : Nat) (xs : List α) (n : Nat) (err : Int) (w : World) (e' : Ending) (w' : World) : Prop := ∃ a c, e' = .returned (.tuple #[.slice a n c, .int .i64 err]) ∧ Row enc sz w' w'.heap.size a xs ∧ Below w.heap.size w w'
