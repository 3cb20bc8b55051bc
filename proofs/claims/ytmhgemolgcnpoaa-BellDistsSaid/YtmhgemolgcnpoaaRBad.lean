/-
  What the reference's Bad returns. Conditions: a right net, a place of it.
-/
import Derived.Test.YtmhgemolgcnpoaaStart
namespace Go.Proofs.Ytmhgemolgcnpoaa
open Go.RowKit
set_option linter.unusedSimpArgs false
set_option linter.unusedVariables false
set_option maxRecDepth 100000 in
set_option maxHeartbeats 1000000 in
theorem rbad_any (n : Nat) (a : Option Addr) (cap : Nat) (es : List Ed) (v : Nat) (w : World) (B : Nat) (hB : B ≤ w.heap.size) (hE : Row encE 3 w B a es) (hn1 : 1 ≤ n) (hn : n ≤ 64) (hl : es.length ≤ 600) (hes : Right n es) (hv : v < n) (t : Bool) (ht : t = true ↔ LI n (distF n es v) = LI n (distF1 n es v)) :
    Calls Try.prog 26 #[.agg #[.int .i64 (n : Int), .slice a es.length cap], .int .i64 (v : Int)] w fun e w' => e = .returned (.bool (!t)) ∧ Below w.heap.size w w' := by
  have hlow := hide (distF_low hn hes v)
  have hsp : spread (nes es) (distF n es v) 1 = distF1 n es v := by
    obtain ⟨m, rfl⟩ : ∃ m, n = m + 1 := ⟨n - 1, by omega⟩
    rfl
  rw [← hsp] at ht
  replace hsp := hide hsp
  replace ht := hide ht
  replace hE := hide hE
  replace hes := hide hes
  go_enter Try.func26, Try.ntmps26
  go_wp2_with fail
  refine (rdist_any n a cap es v _ B (by simp <;> omega) (hE.out.below ((by repeat (first | with_reducible exact Below.refl _ _ | with_reducible assumption | with_reducible refine up_drewN ?_ | with_reducible refine up_drew ?_ | (with_reducible refine up_alloc ?_ ?_; rotate_left; (first | omega | (simp <;> omega) | simp)) | (with_reducible refine up_set ?_ ?_; rotate_left; (first | omega | (simp <;> omega) | simp)) | (with_reducible refine Below.trans ?_ (Below.mono (by with_reducible assumption) ?_); rotate_left; (first | omega | (simp <;> omega) | simp)))) : Below w.heap.size w _) hB) hn1 hn hl hes.out hv).mono ?_
  rintro e w1 ⟨av, cv, rfl, hr1, hb1⟩
  obtain ⟨hc1, hf1⟩ := bcell hb1
  have hz1 : w.heap.size < w1.heap.size := by have := hb1.size; simp at this; omega
  replace hr1 := hide hr1
  go_wp2_with fail
  refine (spread_any n a cap es av cv (distF n es v) 1 _ B _ (by omega) (Nat.le_refl _) (hE.out.below ((by repeat (first | with_reducible exact Below.refl _ _ | with_reducible assumption | with_reducible refine up_drewN ?_ | with_reducible refine up_drew ?_ | (with_reducible refine up_alloc ?_ ?_; rotate_left; (first | omega | (simp <;> omega) | simp)) | (with_reducible refine up_set ?_ ?_; rotate_left; (first | omega | (simp <;> omega) | simp)) | (with_reducible refine Below.trans ?_ (Below.mono (by with_reducible assumption) ?_); rotate_left; (first | omega | (simp <;> omega) | simp)))) : Below w.heap.size w _) hB) hn1 hn hl (by omega) hes.out hr1.out hlow.out).mono ?_
  rintro e w5 ⟨av5, cv5, rfl, hr5, hb5⟩
  replace hr5 := hide hr5
  go_wp2_with fail
  refine (eqI av av5 cv cv5 n n _ _ w5 w1.heap.size w5.heap.size (li_len _ _) (li_len _ _) (hr1.out.below hb5 (Nat.le_refl _)) hr5.out (by omega) (by omega) t ht.out).mono ?_
  rintro e w6 ⟨rfl, m2, rfl⟩
  go_wp2
  go_ret
  exact ⟨rfl, (by repeat (first | with_reducible exact Below.refl _ _ | with_reducible assumption | with_reducible refine up_drewN ?_ | with_reducible refine up_drew ?_ | (with_reducible refine up_alloc ?_ ?_; rotate_left; (first | omega | (simp <;> omega) | simp)) | (with_reducible refine up_set ?_ ?_; rotate_left; (first | omega | (simp <;> omega) | simp)) | (with_reducible refine Below.trans ?_ (Below.mono (by with_reducible assumption) ?_); rotate_left; (first | omega | (simp <;> omega) | simp))))⟩
end Go.Proofs.Ytmhgemolgcnpoaa
