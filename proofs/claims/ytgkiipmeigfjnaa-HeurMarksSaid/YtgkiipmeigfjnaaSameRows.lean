/-
  What SameRows returns of two tables that hold the same: true. Conditions: bounds on lengths.
-/
import Derived.Test.YtgkiipmeigfjnaaROut
import Derived.Test.YtgkiipmeigfjnaaEqL
namespace Go.Proofs.Ytgkiipmeigfjnaa
open Go.RowKit
set_option linter.unusedSimpArgs false
set_option linter.unusedVariables false
set_option maxHeartbeats 1000000 in
theorem eqrows_any (a b : Option Addr) (c1 c2 m n : Nat) (rows : List (List Int)) (w : World) (B C : Nat) (hm : rows.length = m) (hx : Tab w B a n rows) (hy : Tab w C b n rows) (hl : ∀ r ∈ rows, r.length = n) (hl1 : m ≤ 1000) (hl2 : n ≤ 1000) :
    Calls Try.prog 102 #[.slice a m c1, .slice b m c2, .func (.func 31) #[] #[]] w fun e w' => e = .returned (.bool true) ∧ ∃ k, w' = w.drewN k := by
  have ql : (((m : Nat) : Int) != ((m : Nat) : Int)) = false := by simp
  replace hx := hide hx
  replace hy := hide hy
  replace hl := hide hl
  replace hm := hide hm
  go_enter Try.func102, Try.ntmps102
  go_wp2
  go_loopw [7, 8, 9, 17] (fun _ _ _ i wr => ∃ k : Nat, k ≤ m ∧ i = .int .i64 k ∧ Hid (∃ d, wr = w.drewN d)) (fun _ _ _ i _ => m - (intOf i).toNat)
  case atStart => exact ⟨0, Nat.zero_le _, rfl, ⟨0, rfl⟩⟩
  case round =>
    obtain ⟨k, hk, rfl, hw⟩ := hrel
    obtain ⟨d, rfl⟩ := hw.out
    by_cases hlt : k < m
    · have hk1 : k < rows.length := by rw [hm.out]; exact hlt
      obtain ⟨b1, o1, a1, d1, rfl, _, e1, f1⟩ := hx.out k hk1
      obtain ⟨b2, o2, a2, d2, rfl, _, e2, f2⟩ := hy.out k hk1
      have hlen := hide (hl.out _ (List.getElem_mem hk1))
      replace f1 := hide f1
      replace f2 := hide f2
      have i1 : (0 : Int) ≤ (k : Int) ∧ (k : Int) < (m : Int) := by omega
      go_wp2_with fail
      refine (eqI a1 a2 d1 d2 n n _ _ (w.drewN d) B C hlen.out hlen.out (show Row encI 1 (w.drewN d) _ _ _ from f1.out) (show Row encI 1 (w.drewN d) _ _ _ from f2.out) (by omega) (by omega) true (by simp)).mono ?_
      rintro e w1 ⟨rfl, d3, rfl⟩
      go_wp2
      go_roundw
      case rel => exact ⟨k + 1, by omega, by go_num, ⟨d + d3, by simp⟩⟩
      case measure => simp [intOf]; omega
    · obtain rfl : m = k := by omega
      go_wp2
      go_ret
      exact ⟨rfl, ⟨d, rfl⟩⟩
theorem samerows_any (a b : Option Addr) (c1 c2 m n : Nat) (rows : List (List Int)) (w : World) (B C : Nat) (hm : rows.length = m) (hx : Tab w B a n rows) (hy : Tab w C b n rows) (hl : ∀ r ∈ rows, r.length = n) (hl1 : m ≤ 1000) (hl2 : n ≤ 1000) :
    Calls Try.prog 39 #[.slice a m c1, .slice b m c2] w fun e w' => e = .returned (.bool true) ∧ ∃ k, w' = w.drewN k := by
  replace hx := hide hx
  replace hy := hide hy
  replace hl := hide hl
  replace hm := hide hm
  go_enter Try.func39, Try.ntmps39
  go_wp2_with fail
  refine (eqrows_any a b c1 c2 m n rows w B C hm.out hx.out hy.out hl.out hl1 hl2).mono ?_
  rintro e w1 ⟨rfl, d, rfl⟩
  go_wp2
  go_ret
  exact ⟨rfl, d, rfl⟩
end Go.Proofs.Ytgkiipmeigfjnaa
