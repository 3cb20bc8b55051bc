/-
  An order in which always the least comes to which nothing leads that has not come: what stands in a heap by counts is what the search of the list finds. No program here.
-/
import Derived.Test.YtcehdpeeaogpiaaPlainB
namespace Go.Proofs.Ytcehdpeeaogpiaa
set_option linter.unusedSimpArgs false
set_option linter.unusedVariables false
/-- leads nothing of these to b? -/
def freeV (E : List NE) (rem : List Nat) (b : Nat) : Bool := !rem.any fun a => E.any fun e => decide (e.u = a) && decide (e.v = b)
def kahn (E : List NE) : Nat → List Nat → List Nat
  | 0, _ => []
  | k + 1, rem => match rem.find? (freeV E rem) with
    | none => []
    | some v => v :: kahn E k (rem.erase v)
/-- edges to v from what is left -/
def cnt (E : List NE) (rem : List Nat) (v : Nat) : Nat := (E.filter fun e => decide (e.v = v) && decide (e.u ∈ rem)).length
theorem freeV_cnt (E : List NE) (rem : List Nat) (v : Nat) : freeV E rem v = true ↔ cnt E rem v = 0 := by
  unfold freeV cnt
  rw [List.length_eq_zero_iff, List.filter_eq_nil_iff]
  simp only [Bool.not_eq_true', List.any_eq_false, Bool.and_eq_true, decide_eq_true_eq, not_and, List.any_eq_true, not_exists]
  constructor
  · intro h e he hv hu
    exact h e.u hu e he rfl hv
  · intro h a ha e he hu hv
    exact h e he hv (hu ▸ ha)
/-- the first of a rising list that is so is the least that is so -/
theorem find_least {p : Nat → Bool} : ∀ {l : List Nat} {m : Nat}, l.Pairwise (· < ·) → m ∈ l → p m = true → (∀ x ∈ l, p x = true → m ≤ x) → l.find? p = some m
  | a :: r, m, hs, hm, hp, hmin => by
    rw [List.pairwise_cons] at hs
    rw [List.find?_cons]
    by_cases ha : p a = true
    · have h1 := hmin a (List.mem_cons_self ..) ha
      have h2 : m = a := by
        rcases List.mem_cons.1 hm with h | h
        · exact h
        · have := hs.1 m h; omega
      rw [ha, h2]
    · have hne : m ≠ a := fun e => ha (e ▸ hp)
      have hm' : m ∈ r := by
        rcases List.mem_cons.1 hm with h | h
        · exact absurd h hne
        · exact h
      simp only [Bool.not_eq_true] at ha
      rw [ha]
      exact find_least hs.2 hm' hp (fun x hx hpx => hmin x (List.mem_cons_of_mem _ hx) hpx)
theorem find_no {p : Nat → Bool} {l : List Nat} (h : ∀ x ∈ l, p x = false) : l.find? p = none := by
  rw [List.find?_eq_none]
  intro x hx
  simp [h x hx]
/-- a count, when one is taken from what is left -/
theorem cnt_erase {rem : List Nat} (hn : rem.Nodup) {m : Nat} (hm : m ∈ rem) (v : Nat) : ∀ E : List NE, cnt E rem v = cnt E (rem.erase m) v + (E.filter fun e => decide (e.v = v) && decide (e.u = m)).length
  | [] => rfl
  | e :: r => by
    have ih := cnt_erase hn hm v r
    unfold cnt at ih ⊢
    rw [List.filter_cons, List.filter_cons, List.filter_cons]
    by_cases hv : e.v = v
    · by_cases hu : e.u = m
      · have h1 : e.u ∈ rem := hu ▸ hm
        have h2 : e.u ∉ rem.erase m := by rw [hu]; exact fun h => (hn.mem_erase_iff.1 h).1 rfl
        simp only [hv, hu, h1, h2, decide_true, decide_false, Bool.and_true, Bool.and_false, if_true, Bool.false_eq_true, if_false, List.length_cons]
        rw [hu] at h1 h2
        simp only [h1, h2, decide_true, decide_false, Bool.and_true, Bool.and_false, if_true, Bool.false_eq_true, if_false, List.length_cons]
        omega
      · have h3 : e.u ∈ rem.erase m ↔ e.u ∈ rem := by rw [hn.mem_erase_iff]; exact ⟨fun h => h.2, fun h => ⟨hu, h⟩⟩
        by_cases h1 : e.u ∈ rem
        · simp only [hv, hu, h1, h3, decide_true, decide_false, Bool.and_true, Bool.and_false, if_true, Bool.false_eq_true, if_false, List.length_cons]
          omega
        · simp only [hv, hu, h1, h3, decide_true, decide_false, Bool.and_true, Bool.and_false, if_true, Bool.false_eq_true, if_false]
          exact ih
    · simp only [hv, decide_false, Bool.false_and, Bool.false_eq_true, if_false]
      exact ih
end Go.Proofs.Ytcehdpeeaogpiaa
