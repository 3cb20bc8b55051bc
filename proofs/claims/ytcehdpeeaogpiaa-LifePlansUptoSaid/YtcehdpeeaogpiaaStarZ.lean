/-
  A made slice of bools, as the walk has it. Conditions: a bound on the length.
-/
import Derived.Test.YtcehdpeeaogpiaaStarX
import Derived.Test.YtcehdpeeaogpiaaAnyBad
namespace Go.Proofs.Ytcehdpeeaogpiaa
open Go.RowKit
set_option linter.unusedSimpArgs false
set_option linter.unusedVariables false
def zerosB (n : Nat) : Array Value := madeCells #[.bool false] (n * 1)
theorem ordB_nil (n : Nat) : List.replicate n false = ordB n [] := by
  unfold ordB
  refine List.ext_getElem (by simp) fun i h1 h2 => by simp
theorem own_zerosB (w : World) (base n : Nat) (hb : base ≤ w.heap.size) (hn : n ≤ 4096) : Own encB 1 4 (w.alloc (.cells (zerosB n) 4)) base (.slice (some ⟨w.heap.size, 0, none⟩) n n) (ordB n []) := by
  obtain ⟨i0, hi, hz0, hz1, hz2⟩ := info_parts info_bool
  have h1 := run_make (P := Try.prog) w 52 4 i0 (.bool false) Try.underlying52 hi hz0 .i64 .i64 (n : Int) (n : Int) (by omega) (Int.le_refl _) (by rw [hz2]; omega) (by omega)
  obtain ⟨w1, h2, h3, _⟩ := run_make_full (P := Try.prog) w base 52 4 i0 (.bool false) 1 Try.underlying52 hi hz0 hz1 .i64 .i64 n (by rw [hz2]; omega) (by unfold maxLen; omega) hb
  rw [h1] at h2
  simp only [Result.ok.injEq] at h2
  obtain ⟨_, rfl⟩ := h2
  rw [hz1] at h3
  have := own_made (enc := encB) _ base n _ 4 false (.bool false) rfl rfl h3
  rw [ordB_nil] at this
  exact this
theorem run_zerosB (w : World) (n : Nat) (hn : n ≤ 4096) : (Instr.makeSlice 52 (.int .i64 (n : Int)) (.int .i64 (n : Int))).run Try.prog w = .ok (.slice (some ⟨w.heap.size, 0, none⟩) n n) (w.alloc (.cells (zerosB n) 4)) := by
  obtain ⟨i0, hi, hz0, hz1, hz2⟩ := info_parts info_bool
  have h1 := run_make (P := Try.prog) w 52 4 i0 (.bool false) Try.underlying52 hi hz0 .i64 .i64 (n : Int) (n : Int) (by omega) (Int.le_refl _) (by rw [hz2]; omega) (by omega)
  rw [h1, hz1]
  rfl
end Go.Proofs.Ytcehdpeeaogpiaa
