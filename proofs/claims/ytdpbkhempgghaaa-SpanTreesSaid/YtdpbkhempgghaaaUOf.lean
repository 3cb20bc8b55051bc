/-
  union.Of and union.Many. Conditions: as each theorem says.
-/
import Derived.Test.YtdpbkhempgghaaaGroups
import Derived.Test.YtdpbkhempgghaaaOpen
import Derived.BigQuiet
import Derived.Deep.QuietTactic
import Derived.WalkSpells
import Derived.WalkLawsBesides
namespace Go.Proofs.Ytdpbkhempgghaaa
open Go.RowKit
set_option linter.unusedSimpArgs false
set_option linter.unusedVariables false

def badPair (n : Int) (p : P2) : Bool := decide (p.a < 0 ∨ p.a ≥ n ∨ p.b < 0 ∨ p.b ≥ n)
def pairsErr (n : Int) (l : List P2) : Int := if n < 0 ∨ n > 64 then 1 else if l.length > 600 then 2 else if l.any (badPair n) then 1 else 0
def natPairs (l : List P2) : List (Nat × Nat) := l.map fun p => (p.a.toNat, p.b.toNat)
def grpOf (n : Nat) (l : List P2) : List Int := Lst n (rounds (natPairs l) n)
theorem pairs_ok {n : Int} {l : List P2} (h : pairsErr n l = 0) : 0 ≤ n ∧ n ≤ 64 ∧ l.length ≤ 600 ∧ ∀ p ∈ l, 0 ≤ p.a ∧ p.a < n ∧ 0 ≤ p.b ∧ p.b < n := by
  unfold pairsErr at h
  split at h
  · omega
  split at h
  · omega
  split at h
  · omega
  rename_i h3
  refine ⟨by omega, by omega, by omega, fun p hp => ?_⟩
  simp only [List.any_eq_true, not_exists, not_and, Bool.not_eq_true] at h3
  have := h3 p hp
  simp [badPair] at this
  omega
theorem natPairs_take (l : List P2) (k : Nat) (h : k < l.length) : natPairs (l.take (k + 1)) = natPairs (l.take k) ++ [(l[k].a.toNat, l[k].b.toNat)] := by
  unfold natPairs
  rw [List.take_succ_eq_append_getElem h, List.map_append]
  rfl
theorem natPairs_mem {l : List P2} {k : Nat} (h : k < l.length) : (l[k].a.toNat, l[k].b.toNat) ∈ natPairs l := List.mem_map.2 ⟨l[k], List.getElem_mem h, rfl⟩
theorem any_hit {l : List P2} {q : P2 → Bool} {k : Nat} (h : k < l.length) (hq : q l[k] = true) : l.any q = true := List.any_eq_true.2 ⟨_, List.getElem_mem h, hq⟩
theorem any_none {l : List P2} {q : P2 → Bool} (h : ∀ (k : Nat) (h : k < l.length), q l[k] = false) : l.any q = false := by
  rw [List.any_eq_false]
  intro x hx
  obtain ⟨k, hk, rfl⟩ := List.getElem_of_mem hx
  simp [h k hk]
