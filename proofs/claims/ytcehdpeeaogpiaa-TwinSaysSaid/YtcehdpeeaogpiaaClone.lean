/-
  slices.Clone of numbers. Conditions: a bound on the length.
-/
import Derived.Test.YtcehdpeeaogpiaaPlainB
import Derived.Test.YtcehdpeeaogpiaaBase
import Derived.Lib.SliceRun
import Derived.WalkSpells
import Derived.WalkLawsBesides
namespace Go.Proofs.Ytcehdpeeaogpiaa
open Go.RowKit
set_option linter.unusedSimpArgs false
set_option linter.unusedVariables false

theorem row_nil {α : Type} {enc : α → List Value} {sz : Nat} {w : World} {B : Nat} {xs : List α} (h : Row enc sz w B none xs) : xs = [] := by
  cases xs with
  | nil => rfl
  | cons y r => obtain ⟨b, o, h1, _⟩ := h 0 (by simp); cases h1
theorem own_bare {α : Type} {enc : α → List Value} {sz : Nat} {e : TypeId} (w : World) (base : Nat) (hb : base ≤ w.heap.size) : Own enc sz e (w.alloc (.cells #[] e)) base (.slice (some ⟨w.heap.size, 0, none⟩) 0 0) ([] : List α) :=
  ⟨by simp, .inr ⟨w.heap.size, 0, #[], rfl, hb, heap_alloc_new w _, Nat.le_refl _, Nat.zero_le _, by simp, by simp⟩⟩
def OwnBack {α : Type} (enc : α → List Value) (sz : Nat) (e : TypeId) (xs : List α) (n : Nat) (w : World) (e' : Ending) (w' : World) : Prop := ∃ a c, e' = .returned (.slice a n c) ∧ Own enc sz e w' w.heap.size (.slice a n c) xs ∧ Below w.heap.size w w'
set_option maxHeartbeats 400000 in
theorem cloneI (a : Option Addr) (cap n : Nat) (xs : List Int) (w : World) (B : Nat) (hB : B ≤ w.heap.size) (hn : xs.length = n) (hE : Row encI 1 w B a xs) (hl : n ≤ 100000) :
    Calls Try.prog 22 #[.slice a n cap] w (OwnBack encI 1 3 xs n w) := by
  have kn := fun (w : World) (a : Option Addr) (n c n' c' : Nat) => Lib.run_eql_slice_nil (P := Try.prog) w 29 3 a n c n' c' Try.underlying29
  cases a with
  | none =>
    obtain rfl := row_nil hE
    obtain rfl : n = 0 := by simpa using hn.symm
    clear hE hn
    go_enter Try.func22, Try.ntmps22
    go_wp2
    go_ret
    exact ⟨none, 0, rfl, Own.nil _ _, Below.refl _ _⟩
  | some ad =>
    have hn2 := hide hn
    clear hn
    go_enter Try.func22, Try.ntmps22
    go_wp2_with (at_builtin; (refine wpList_pushAll (e := 3) (enc := encI) (xs := []) (v := .slice (some ⟨w.heap.size, 0, none⟩) 0 0) (base := w.heap.size) rfl (.tmp 5) (.tmp 6) 29 rfl _ 8 Try.underlying29 info_int rfl ?c0 lenI oneI 0 ?c1 ?c2 ?c3 B (some ad) n cap xs ?c4 ?c5 ?c6 ?c7 ?c8 ?c9 ?c10 ?_); (case c0 => omega); (case c1 => rfl); (case c2 => rfl); (case c3 => exact own_bare w w.heap.size (Nat.le_refl _)); (case c4 => exact hn2.out); (case c5 => rfl); (case c6 => intro h; cases h); (case c7 => exact hE.below (up_alloc (Below.refl _ _) (Nat.le_refl _) : Below w.heap.size w _) hB); (case c8 => omega); (case c9 => unfold maxLen; omega); (case c10 => simp); intro av c' w1 own1 hb1 _; simp only [List.nil_append, Nat.zero_add] at own1 ⊢; have hb2 := unalloc hb1 (by simp))
    go_ret
    exact ⟨av, c', rfl, own1, hb2⟩
end Go.Proofs.Ytcehdpeeaogpiaa
