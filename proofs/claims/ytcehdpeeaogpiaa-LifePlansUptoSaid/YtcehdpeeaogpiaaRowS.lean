/-
  One number, two numbers in a row; a slice of one number, just built. No condition.
-/
import Derived.Test.YtcehdpeeaogpiaaBase
namespace Go.Proofs.Ytcehdpeeaogpiaa
open Go.RowKit
set_option linter.unusedSimpArgs false
set_option linter.unusedVariables false
theorem row1 {w : World} {b : Nat} {x : Int} (h : w.cell? ⟨b, 0, none⟩ = some (.int .i64 x)) : Row encI 1 w w.heap.size (some ⟨b, 0, none⟩) [x] := by
  intro i hi
  refine ⟨b, 0, rfl, cell_lt h, fun j u hu => ?_⟩
  have : i = 0 := by simpa using hi
  subst this
  match j, hu with
  | 0, hu => simp [encI] at hu; subst hu; simpa using h
theorem row2 {w : World} {b : Nat} {x y : Int} (h : w.cell? ⟨b, 0, none⟩ = some (.int .i64 x)) (h2 : w.cell? ⟨b, 1, none⟩ = some (.int .i64 y)) : Row encI 1 w w.heap.size (some ⟨b, 0, none⟩) [x, y] := by
  intro i hi
  refine ⟨b, 0, rfl, cell_lt h, fun j u hu => ?_⟩
  match i, hi, j, hu with
  | 0, _, 0, hu => simp [encI] at hu; subst hu; simpa using h
  | 1, _, 0, hu => simp [encI] at hu; subst hu; simpa using h2
/-- a slice of one number, just built -/
theorem own_one (w : World) (base : Nat) (e : TypeId) (x : Int) (hb : base ≤ w.heap.size) : Own encI 1 e (w.alloc (.cells #[.int .i64 x] e)) base (.slice (some ⟨w.heap.size, 0, none⟩) 1 1) [x] :=
  ⟨rfl, .inr ⟨w.heap.size, 1, #[.int .i64 x], rfl, hb, heap_alloc_new w _, Nat.le_refl _, by unfold maxLen; decide, rfl, rfl⟩⟩
end Go.Proofs.Ytcehdpeeaogpiaa
