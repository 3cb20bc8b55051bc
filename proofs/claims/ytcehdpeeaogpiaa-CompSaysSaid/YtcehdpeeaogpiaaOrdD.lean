/-
  The reference's Ordered over fellref.Order$1: closures, index, the order. Conditions: what the relation's function says, as a premise.
-/
import Derived.Test.YtcehdpeeaogpiaaOrdB
import Derived.Test.YtcehdpeeaogpiaaConcatI
import Derived.Test.YtcehdpeeaogpiaaRTab
import Derived.Test.YtcehdpeeaogpiaaBase
import Derived.Deep.LoopGhost
import Derived.Deep.RegionLaw
namespace Go.Proofs.Ytcehdpeeaogpiaa
open Go.RowKit
set_option linter.unusedSimpArgs false
set_option linter.unusedVariables false
theorem Row.takeI' {w : World} {B : Nat} {a : Option Addr} {l : List Int} (h : Row encI 1 w B a l) (k : Nat) : Row encI 1 w B a (l.take k) := by
  intro i hi
  obtain ⟨b, o, e1, e2, e3⟩ := h i (by rw [List.length_take] at hi; omega)
  exact ⟨b, o, e1, e2, fun j u hu => e3 j u (by simpa using hu)⟩
theorem Row.dropI' {w : World} {B b o : Nat} {l : List Int} (h : Row encI 1 w B (some ⟨b, o, none⟩) l) (k : Nat) : Row encI 1 w B (some ⟨b, o + k, none⟩) (l.drop k) := by
  intro i hi
  rw [List.length_drop] at hi
  obtain ⟨b', o', e1, e2, e3⟩ := h (k + i) (by omega)
  simp only [Option.some.injEq, Addr.mk.injEq] at e1
  obtain ⟨rfl, rfl, _⟩ := e1
  refine ⟨b, o + k, rfl, e2, fun j u hu => ?_⟩
  have := e3 j u (by simpa using hu)
  rw [show o + (k + i) * 1 + j = o + k + i * 1 + j by omega] at this
  exact this
/-- a row stays where another block grows -/
theorem Row.grownI {w w' : World} {B b o' : Nat} {xs : List Int} (h : Row encI 1 w B (some ⟨b, o', none⟩) xs) {o : Obj} {v : Option Nat} (hg : (w.alloc o).grownBy w' v) (hne : v ≠ some b) (hB : B ≤ w.heap.size := by exact Nat.le_refl _) : Row encI 1 w' w'.heap.size (some ⟨b, o', none⟩) xs := by
  have hz := hg.size
  intro i hi
  obtain ⟨b1, o1, e1, e2, e3⟩ := h i hi
  simp only [Option.some.injEq, Addr.mk.injEq] at e1
  obtain ⟨rfl, rfl, _⟩ := e1
  refine ⟨b, o', rfl, by simp at hz; omega, fun j u hu => hg.cell (cu_alloc (e3 j u hu)) (fun e => hne e.symm)⟩
def OrdBack (r : List Nat) (w : World) (e : Ending) (w' : World) : Prop := ∃ v, e = .returned v ∧ Own encI 1 3 w' w.heap.size v (LN r) ∧ Below w.heap.size w w'
