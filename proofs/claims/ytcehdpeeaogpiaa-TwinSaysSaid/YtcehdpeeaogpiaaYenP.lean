/-
  Plain laws for the best ways (yen): the order of ways. No condition.
-/
import Derived.Test.YtcehdpeeaogpiaaHeapB
import Derived.Test.YtcehdpeeaogpiaaPlainB
namespace Go.Proofs.Ytcehdpeeaogpiaa
open Go.RowKit
set_option linter.unusedSimpArgs false
set_option linter.unusedVariables false
/-- a way: its cost, its places -/
structure Wy where
  c : Int
  p : List Nat
/-- slices.Compare -/
def cmpL : List Nat → List Nat → Int
  | [], [] => 0
  | [], _ :: _ => -1
  | _ :: _, [] => 1
  | a :: r, b :: s => if a < b then -1 else if b < a then 1 else cmpL r s
theorem cmpL_self : ∀ a, cmpL a a = 0
  | [] => rfl
  | a :: r => by rw [cmpL, if_neg (Nat.lt_irrefl a), if_neg (Nat.lt_irrefl a)]; exact cmpL_self r
theorem cmpL_flip : ∀ a b, cmpL a b = - cmpL b a
  | [], [] => rfl
  | [], _ :: _ => rfl
  | _ :: _, [] => rfl
  | a :: r, b :: s => by
    rw [cmpL, cmpL]
    by_cases h1 : a < b
    · rw [if_pos h1, if_neg (by omega), if_pos h1]
    · rw [if_neg h1]
      by_cases h2 : b < a
      · rw [if_pos h2, if_pos h2]; rfl
      · rw [if_neg h2, if_neg h2, if_neg h1]; exact cmpL_flip r s
theorem cmpL_eq : ∀ {a b}, cmpL a b = 0 → a = b
  | [], [], _ => rfl
  | [], _ :: _, h => by simp [cmpL] at h
  | _ :: _, [], h => by simp [cmpL] at h
  | a :: r, b :: s, h => by
    rw [cmpL] at h
    by_cases h1 : a < b
    · rw [if_pos h1] at h; omega
    · rw [if_neg h1] at h
      by_cases h2 : b < a
      · rw [if_pos h2] at h; omega
      · rw [if_neg h2] at h
        rw [cmpL_eq h, show a = b by omega]
theorem cmpL_trans : ∀ {a b c}, cmpL a b ≤ 0 → cmpL b c ≤ 0 → cmpL a c ≤ 0
  | [], [], [], _, _ => by simp [cmpL]
  | [], _, _ :: _, _, _ => by simp [cmpL]
  | [], _ :: _, [], _, h => by simp [cmpL] at h
  | _ :: _, [], _, h, _ => by simp [cmpL] at h
  | _ :: _, _ :: _, [], _, h => by simp [cmpL] at h
  | a :: r, b :: s, c :: t, h1, h2 => by
    rw [cmpL] at h1 h2 ⊢
    by_cases g1 : a < b
    · by_cases g2 : c < b
      · rw [if_neg (by omega), if_pos g2] at h2; omega
      · rw [if_pos (by omega)]; omega
    · rw [if_neg g1] at h1
      by_cases g2 : b < a
      · rw [if_pos g2] at h1; omega
      · rw [if_neg g2] at h1
        have : a = b := by omega
        subst this
        by_cases g3 : a < c
        · rw [if_pos g3]; omega
        · rw [if_neg g3] at h2 ⊢
          by_cases g4 : c < a
          · rw [if_pos g4] at h2; omega
          · rw [if_neg g4] at h2 ⊢
            exact cmpL_trans h1 h2
theorem cmpL_app : ∀ (b r s : List Nat), cmpL (b ++ r) (b ++ s) = cmpL r s
  | [], _, _ => rfl
  | a :: b, r, s => by rw [List.cons_append, List.cons_append, cmpL, if_neg (Nat.lt_irrefl a), if_neg (Nat.lt_irrefl a)]; exact cmpL_app b r s
/-- less: by cost, then by places -/
def yLt (a b : Wy) : Bool := decide (a.c < b.c) || (decide (a.c = b.c) && decide (cmpL a.p b.p < 0))
theorem yLt_iff {a b : Wy} : yLt a b = true ↔ a.c < b.c ∨ (a.c = b.c ∧ cmpL a.p b.p < 0) := by simp [yLt]
theorem yLt_not {a b : Wy} : yLt a b = false ↔ b.c < a.c ∨ (a.c = b.c ∧ cmpL b.p a.p ≤ 0) := by
  have h := cmpL_flip a.p b.p
  rw [← Bool.not_eq_true, yLt_iff]
  omega
theorem yLt_ord : Ord yLt := by
  constructor
  · intro a; rw [yLt_not]; right; exact ⟨rfl, by rw [cmpL_self]; omega⟩
  · intro a b h
    rw [yLt_iff] at h
    rw [yLt_not]
    omega
  · intro a b c h1 h2
    rw [yLt_not] at *
    rcases h1 with h1 | ⟨h1, h3⟩
    · rcases h2 with h2 | ⟨h2, h4⟩
      · left; omega
      · left; omega
    · rcases h2 with h2 | ⟨h2, h4⟩
      · left; omega
      · right; exact ⟨by omega, cmpL_trans h3 h4⟩
/-- two of which neither is less are the same -/
theorem yLt_same {a b : Wy} (h1 : yLt a b = false) (h2 : yLt b a = false) : a = b := by
  rw [yLt_not] at h1 h2
  have hf := cmpL_flip a.p b.p
  have hp : a.p = b.p := cmpL_eq (by omega)
  have hc : a.c = b.c := by omega
  cases a; cases b; simp_all
end Go.Proofs.Ytcehdpeeaogpiaa
