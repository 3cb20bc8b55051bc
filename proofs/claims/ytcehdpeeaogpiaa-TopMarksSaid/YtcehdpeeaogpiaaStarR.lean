/-
  What star's reach does. Conditions: the object reads as SX says.
-/
import Derived.Test.YtcehdpeeaogpiaaStarX
import Derived.Test.YtcehdpeeaogpiaaHeldEnd
namespace Go.Proofs.Ytcehdpeeaogpiaa
open Go.RowKit
set_option linter.unusedSimpArgs false
set_option linter.unusedVariables false
set_option maxRecDepth 100000 in
set_option maxHeartbeats 1000000 in
theorem reach_skip (base n sb gc gp gd gh u hc q : Nat) (ha : Option Addr) (ov kf v : Value) (f : Nat → Ed) (s : SR) (h : Nat → Int) (c fr : Int) (wS w : World) (B : Nat) (hB : B ≤ w.heap.size) (hS : SX base n sb gc gp gd gh ov (.slice ha n hc) kf v q f s wS w) (hH : Row encI 1 w B ha (LI n h)) (hu : u < n) (hn : n ≤ 64)
    (hk : u ∈ s.ord ∨ s.cost u ≤ c ∨ h u = 1099511627776) :
    Calls Try.prog 173 #[.pointer (some ⟨sb, 0, none⟩), .int .i64 (u : Int), .int .i64 c, .int .i64 fr] w fun e w' => e = .returned (.tuple #[]) ∧ w' = w := by
  have c3 := hS.c3
  have c4 := hS.c4
  have c6 := hS.c6
  have d0 := hS.atD u hu
  have d1 := hS.cost.atI u hu
  obtain ⟨b, o, rfl, hb, d2⟩ := hH.atI u hu
  have iu : (0 : Int) ≤ (u : Int) ∧ (u : Int) < (n : Int) := by omega
  obtain ⟨x, hx⟩ : ∃ x, x = s.cost u := ⟨_, rfl⟩
  obtain ⟨y, hy⟩ : ∃ y, y = h u := ⟨_, rfl⟩
  rw [← hx] at d1 hk
  rw [← hy] at d2 hk
  clear hS hH hx hy
  go_enter Try.func173, Try.ntmps173
  by_cases h0 : u ∈ s.ord
  · have q0 : decide (u ∈ s.ord) = true := by simpa using h0
    rw [q0] at d0
    clear hk q0 h0
    go_wp2
    ((try simp only [Exit.inBlock, Exit.then]); refine bodyPost_ret (results_none rfl _ _ _) rfl ?_)
    exact ⟨rfl, rfl⟩
  · have q0 : decide (u ∈ s.ord) = false := by simpa using h0
    rw [q0] at d0
    have hk2 : x ≤ c ∨ y = 1099511627776 := by rcases hk with h1 | h1; exact absurd h1 h0; exact h1
    clear hk q0 h0
    by_cases h1 : x ≤ c
    · clear hk2
      go_wp2
      ((try simp only [Exit.inBlock, Exit.then]); refine bodyPost_ret (results_none rfl _ _ _) rfl ?_)
      exact ⟨rfl, rfl⟩
    · have h2 : y = 1099511627776 := by rcases hk2 with h | h; exact absurd h h1; exact h
      subst h2
      clear hk2
      go_wp2
      ((try simp only [Exit.inBlock, Exit.then]); refine bodyPost_ret (results_none rfl _ _ _) rfl ?_)
      exact ⟨rfl, rfl⟩
end Go.Proofs.Ytcehdpeeaogpiaa
