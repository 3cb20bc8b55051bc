/-
  felltop.begun returns true. No conditions.
-/
import Derived.Test.YtcehdpeeaogpiaaWayOk
namespace Go.Proofs.Ytcehdpeeaogpiaa
open Go.RowKit
set_option linter.unusedSimpArgs false
set_option linter.unusedVariables false
theorem begun_d0 : distF 2 [⟨0, 1, 5⟩] 0 0 = 0 := by decide
theorem begun_d1 : distF 2 [⟨0, 1, 5⟩] 0 1 = 5 := by decide
theorem begun_b1 : backF 2 (nes [⟨0, 1, 5⟩]) (distF 2 [⟨0, 1, 5⟩] 0) 1 1 = 0 := by decide
theorem begun_look : lookErr 2 [⟨0, 1, 5⟩] [0, 1] = 0 := by decide
theorem begun_way (a : Option Addr) (cap : Nat) (w : World) (B : Nat) (hB : B ≤ w.heap.size) (hE : Row encE 3 w B a [⟨0, 1, 5⟩]) :
    Calls Try.prog 18 #[.agg #[.int .i64 2, .slice a 1 cap], .int .i64 0, .int .i64 1] w (WayBack [0, 1] 2 5 0 w) := by
  have h := way_ok 2 a cap [⟨0, 1, 5⟩] 0 1 w B hB hE begun_look 1 begun_b1 (fun j hj => by
    match j, hj with
    | 0, _ => exact ⟨by decide, by decide⟩
    | 1, _ => exact ⟨by decide, by decide⟩) (fun j hj => by
    obtain rfl : j = 0 := by omega
    decide) (by decide) (fun u hu => by
    match u, hu with
    | 0, _ => exact ⟨by decide, by decide⟩
    | 1, _ => exact ⟨by decide, by decide⟩)
  exact h
/-- a slice of one edge, just built -/
theorem rowE1 (w : World) (t : TypeId) (x : Ed) : Row encE 3 (w.alloc (.cells #[.int .i64 x.u, .int .i64 x.v, .int .i64 x.c] t)) (w.heap.size + 1) (some ⟨w.heap.size, 0, none⟩) [x] := by
  intro i hi
  obtain rfl : i = 0 := by simp at hi; omega
  refine ⟨w.heap.size, 0, rfl, by omega, fun j u hu => ?_⟩
  have h := newE w t x w.heap.size rfl j u hu
  simpa [WideShapes.add_plain] using h
set_option maxRecDepth 100000 in
set_option maxHeartbeats 1000000 in
theorem begun_any (w : World) : Calls Try.prog 17 #[] w fun e w' => e = .returned (.bool true) ∧ Below w.heap.size w w' := by
  have hW := hide (fun a cap w B hB hE => begun_way a cap w B hB hE)
  unfold WayBack at hW
  go_enter Try.func17, Try.ntmps17
  go_wp2_with fail
  refine (hW.out _ _ _ (w.heap.size + 1) (by simp) (rowE1 w _ (⟨0, 1, 5⟩ : Ed))).mono ?_
  rintro e w1 ⟨a1, c1, rfl, hr1, hb1⟩
  have hbw := hide (unalloc (hb1.mono (by simp)) (Nat.le_refl _) : Below w.heap.size w w1)
  clear hb1
  go_wp2
  go_ret
  exact ⟨rfl, up_alloc hbw.out hbw.out.size⟩
end Go.Proofs.Ytcehdpeeaogpiaa
