/-
  What the reference's Turned and SameNet return, and slices.Clone of edges. Conditions: as each theorem says.
-/
import Derived.Test.YtcehdpeeaogpiaaTurn
import Derived.Test.YtcehdpeeaogpiaaBase
import Derived.Test.YtcehdpeeaogpiaaEqA
import Derived.Deep.RegionHeld3
import Derived.Deep.DeepCutAuto
import Derived.Lib.SliceRun
namespace Go.Proofs.Ytcehdpeeaogpiaa
open Go.RowKit
set_option linter.unusedSimpArgs false
set_option linter.unusedVariables false

theorem row_none {α : Type} {enc : α → List Value} {sz : Nat} {w : World} {B : Nat} {xs : List α} (h : Row enc sz w B none xs) : xs = [] := by
  cases xs with
  | nil => rfl
  | cons y r => obtain ⟨b, o, h1, _⟩ := h 0 (by simp); cases h1
theorem own_empty {α : Type} {enc : α → List Value} {sz : Nat} {e : TypeId} (w : World) (base : Nat) (hb : base ≤ w.heap.size) : Own enc sz e (w.alloc (.cells #[] e)) base (.slice (some ⟨w.heap.size, 0, none⟩) 0 0) ([] : List α) :=
  ⟨by simp, .inr ⟨w.heap.size, 0, #[], rfl, hb, heap_alloc_new w _, Nat.le_refl _, Nat.zero_le _, by simp, by simp⟩⟩

def OwnRet {α : Type} (enc : α → List Value) (sz : Nat) (e : TypeId) (xs : List α) (w : World) (e' : Ending) (w' : World) : Prop := ∃ a c, e' = .returned (.slice a xs.length c) ∧ Own enc sz e w' w.heap.size (.slice a xs.length c) xs ∧ Below w.heap.size w w'
theorem cloneE (a : Option Addr) (cap : Nat) (es : List Ed) (w : World) (B : Nat) (hB : B ≤ w.heap.size) (hE : Row encE 3 w B a es) (hl : es.length ≤ 100000) :
    Calls Try.prog 47 #[.slice a es.length cap] w (OwnRet encE 3 34 es w) := by
  have kn := fun (w : World) (a : Option Addr) (n c n' c' : Nat) => Lib.run_eql_slice_nil (P := Try.prog) w 22 34 a n c n' c' Try.underlying22
  cases a with
  | none =>
    obtain rfl := row_none hE
    clear hE
    go_enter Try.func47, Try.ntmps47
    go_wp2
    go_ret
    exact ⟨none, 0, rfl, Own.nil _ _, Below.refl _ _⟩
  | some ad =>
    have hl2 := hide hl
    go_enter Try.func47, Try.ntmps47
    go_wp2_with (at_builtin; go_must (refine wpList_pushAll rfl (.tmp 5) (.tmp 6) 22 rfl _ 24 Try.underlying22 info_ed rfl (by omega) lenE oneE 0 rfl rfl (own_empty w w.heap.size (Nat.le_refl _)) B (some ad) es.length cap es rfl rfl (by simp) (hE.below ((by repeat (first | with_reducible exact Below.refl _ _ | with_reducible assumption | with_reducible refine up_drewN ?_ | with_reducible refine up_drew ?_ | (with_reducible refine up_alloc ?_ ?_; rotate_left; (first | omega | (simp <;> omega) | simp)) | (with_reducible refine up_set ?_ ?_; rotate_left; (first | omega | (simp <;> omega) | simp)) | (with_reducible refine Below.trans ?_ (Below.mono (by with_reducible assumption) ?_); rotate_left; (first | omega | (simp <;> omega) | simp)))) : Below w.heap.size w _) hB) (by have := hl2.out; omega) (by have := hl2.out; unfold maxLen; omega) (by simp) ?_; intro av c' w1 own1 hb1 _; simp only [List.nil_append, Nat.zero_add] at own1 ⊢))
    go_ret
    exact ⟨av, c', rfl, own1, unalloc hb1 (by simp)⟩

