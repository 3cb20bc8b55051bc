/-
  The reference's Focal: its sum of cost and guess, its equality. Conditions: what its variables hold.
-/
import Derived.Test.YtcehdpeeaogpiaaStarW
import Derived.Test.YtcehdpeeaogpiaaQuietH
import Derived.BigQuiet
import Derived.Deep.QuietTactic
namespace Go.Proofs.Ytcehdpeeaogpiaa
open Go.RowKit
set_option linter.unusedSimpArgs false
set_option linter.unusedVariables false
/-- what the reference's variables hold -/
structure FKF (bm bh mb nm n hc B : Nat) (ha : Option Addr) (cost h : Nat → Int) (w : World) : Prop where
  k2 : w.cell? ⟨bm, 0, none⟩ = some (.map (some mb))
  k3 : w.cell? ⟨bh, 0, none⟩ = some (.slice ha n hc)
  im : IMap w mb nm (costM n cost)
  hr : Row encI 1 w B ha (LI n h)
theorem foc1_any (bm bh mb nm n hc B u : Nat) (ha : Option Addr) (cost h : Nat → Int) (w : World) (hK : FKF bm bh mb nm n hc B ha cost h w) (hn : n ≤ 64) (hu : u < n) (hcF : cost u < FAR) (hcu : 0 ≤ cost u ∧ cost u ≤ 1000000000) (hh : 0 ≤ h u ∧ h u ≤ 1099511627776) :
    Calls Try.prog 134 #[.int .i64 (u : Int), .pointer (some ⟨bm, 0, none⟩), .pointer (some ⟨bh, 0, none⟩)] w fun e w' => e = .returned (.int .i64 (cost u + h u)) ∧ ∃ m, w' = w.drewN m := by
  have k2 := hK.k2
  have k3 := hK.k3
  obtain ⟨b, o, rfl, hb, d0⟩ := hK.hr.atI u hu
  have hlk := fun m => ((hK.im.drewN m).look 109 Try.underlying109 (x := (u : Int)) (by unfold Bd; omega))
  rw [costM_at hu hcF] at hlk
  simp only [Option.getD_some] at hlk
  have hwr : IntKind.i64.wrap (cost u + h u) = cost u + h u := IntWalk.i64_in _ (by omega)
  generalize cost u = x at hlk hwr ⊢
  generalize h u = y at d0 hwr ⊢
  have iu : (0 : Int) ≤ (u : Int) ∧ (u : Int) < (n : Int) := by omega
  clear hK hcF hcu hh
  go_enter Try.func134, Try.ntmps134
  go_wp2
  go_quiet (fail)
  go_wp2
  go_ret
  exact ⟨rfl, nq, rfl⟩
theorem foc2_any (bp : Nat) (u p : Int) (w : World) (k0 : w.cell? ⟨bp, 0, none⟩ = some (.int .i64 p)) :
    Calls Try.prog 136 #[.int .i64 u, .pointer (some ⟨bp, 0, none⟩)] w fun e w' => e = .returned (.bool (u == p)) ∧ Below w.heap.size w w' := by
  go_enter Try.func136, Try.ntmps136
  go_wp2
  go_ret
  exact ⟨rfl, (by repeat (first | with_reducible exact Below.refl _ _ | with_reducible assumption | with_reducible refine up_drewN ?_ | with_reducible refine up_drew ?_ | (with_reducible refine up_alloc ?_ ?_; rotate_left; (first | omega | (simp <;> omega) | simp)) | (with_reducible refine up_set ?_ ?_; rotate_left; (first | omega | (simp <;> omega) | simp)) | (with_reducible refine Below.trans ?_ (Below.mono (by with_reducible assumption) ?_); rotate_left; (first | omega | (simp <;> omega) | simp))))⟩
end Go.Proofs.Ytcehdpeeaogpiaa
