/-
  What net.Out returns. No condition but that the slice reads.
-/
import Derived.Test.YtgkiipmeigfjnaaOuts
namespace Go.Proofs.Ytgkiipmeigfjnaa
open Go.RowKit
set_option linter.unusedSimpArgs false
set_option linter.unusedVariables false

def RowRet {α : Type} (enc : α → List Value) (sz : Nat) (xs : List α) (err : Int) (w : World) (e : Ending) (w' : World) : Prop := ∃ av c, e = .returned (.tuple #[.slice av xs.length c, .int .i64 err]) ∧ Row enc sz w' w'.heap.size av xs ∧ Below w.heap.size w w'

theorem Own.nilcap {α : Type} {enc : α → List Value} {sz : Nat} {e : TypeId} {w : World} {base : Nat} {xs : List α} {a : Option Addr} {n c : Nat} (h : Own enc sz e w base (.slice a n c) xs) (ha : a = none) : c = 0 := by
  subst ha
  rcases h.form with ⟨h1, _⟩ | ⟨g, cap, h1, _⟩
  · simp only [Value.slice.injEq] at h1; exact h1.2.2
  · simp at h1
/-- the same, and a slice that is none has no room -/
def RowRetZ {α : Type} (enc : α → List Value) (sz : Nat) (xs : List α) (err : Int) (w : World) (e : Ending) (w' : World) : Prop := ∃ av c, e = .returned (.tuple #[.slice av xs.length c, .int .i64 err]) ∧ Row enc sz w' w'.heap.size av xs ∧ Below w.heap.size w w' ∧ (av = none → c = 0)
theorem RowRetZ.weak {α : Type} {enc : α → List Value} {sz : Nat} {xs : List α} {err : Int} {w : World} {e : Ending} {w' : World} (h : RowRetZ enc sz xs err w e w') : RowRet enc sz xs err w e w' := by
  obtain ⟨av, c, h1, h2, h3, _⟩ := h
  exact ⟨av, c, h1, h2, h3⟩

