/-
  What net.Of returns. Conditions: that the slice reads.
-/
import Derived.Test.YtgkiipmeigfjnaaMovesAny
import Derived.Test.YtgkiipmeigfjnaaGridChk
import Derived.Test.YtgkiipmeigfjnaaOwn2
import Derived.Test.YtgkiipmeigfjnaaKeep
import Derived.Test.YtgkiipmeigfjnaaEdge
namespace Go.Proofs.Ytgkiipmeigfjnaa
open Go.RowKit
set_option linter.unusedSimpArgs false
set_option linter.unusedVariables false
/-- a net and an error handed back, the net's edges new -/
def NetBack (e0 : TypeId) (N : Int) (es : List Ed) (err : Int) (w : World) (e : Ending) (w' : World) : Prop := ∃ v, e = .returned (.tuple #[.agg #[.int .i64 N, v], .int .i64 err]) ∧ Own encE 3 e0 w' w.heap.size v es ∧ Below w.heap.size w w'
set_option maxRecDepth 100000 in
set_option maxHeartbeats 1000000 in
theorem netof_bad (W H : Int) (a : Option Addr) (cap : Nat) (cs : List Int) (w : World) (B : Nat) (hB : B ≤ w.heap.size) (hE : Row encI 1 w B a cs) (hl : cs.length ≤ 9223372036854775807) (h0 : gridErr W H cs ≠ 0) :
    Calls Try.prog 134 #[.agg #[.int .i64 W, .int .i64 H, .slice a cs.length cap]] w (NetBack 26 0 [] (gridErr W H cs) w) := by
  have q0 : (gridErr W H cs != 0) = true := by simp [h0]
  have hC := hide (fun w hB hE => gcheck_any W H a cap cs w B hB hE hl)
  replace hE := hide hE
  clear h0
  go_enter Try.func134, Try.ntmps134
  go_wp2_with fail
  refine (hC.out _ (by simp; omega) (hE.out.below ((by repeat (first | with_reducible exact Below.refl _ _ | with_reducible assumption | with_reducible refine up_drewN ?_ | with_reducible refine up_drew ?_ | (with_reducible refine up_alloc ?_ ?_; rotate_left; (first | omega | (simp <;> omega) | simp)) | (with_reducible refine up_set ?_ ?_; rotate_left; (first | omega | (simp <;> omega) | simp)) | (with_reducible refine Below.trans ?_ (Below.mono (by with_reducible assumption) ?_); rotate_left; (first | omega | (simp <;> omega) | simp)))) : Below w.heap.size w _) hB)).mono ?_
  rintro e w1 ⟨rfl, hb1⟩
  obtain ⟨hc1, hf1⟩ := bcell hb1
  have hz1 : w.heap.size + 1 < w1.heap.size := by have := hb1.size; simp at this; omega
  have hz0 : w.heap.size < w1.heap.size := by omega
  go_wp2
  refine bodyPost_ret (v := .tuple #[.agg #[.int .i64 0, .slice none 0 0], .int .i64 (gridErr W H cs)]) (by simp [results, Try.results134, go_sem, hc1, hz1, hz0, hf1]) rfl ⟨_, rfl, Own.nil _ _, (by repeat (first | with_reducible exact Below.refl _ _ | with_reducible assumption | with_reducible refine up_drewN ?_ | with_reducible refine up_drew ?_ | (with_reducible refine up_alloc ?_ ?_; rotate_left; (first | omega | (simp <;> omega) | simp)) | (with_reducible refine up_set ?_ ?_; rotate_left; (first | omega | (simp <;> omega) | simp)) | (with_reducible refine Below.trans ?_ (Below.mono (by with_reducible assumption) ?_); rotate_left; (first | omega | (simp <;> omega) | simp))))⟩
end Go.Proofs.Ytgkiipmeigfjnaa
