/-
  An order in which always the least comes to which nothing leads that has not come, whatever leads means. No program here.
-/
import Derived.Test.YtcehdpeeaogpiaaKahnP
import Derived.Test.YtcehdpeeaogpiaaListI
namespace Go.Proofs.Ytcehdpeeaogpiaa
set_option linter.unusedVariables false
def freeG (ld : Nat → Nat → Bool) (rem : List Nat) (b : Nat) : Bool := !(rem.any fun a => ld a b)
def kahnG (ld : Nat → Nat → Bool) : Nat → List Nat → List Nat
  | 0, _ => []
  | k + 1, rem => match rem.find? (freeG ld rem) with
    | none => []
    | some v => v :: kahnG ld k (rem.erase v)
def ldE (E : List NE) (a b : Nat) : Bool := E.any fun e => decide (e.u = a) && decide (e.v = b)
theorem kahn_eq (E : List NE) : ∀ k rem, kahn E k rem = kahnG (ldE E) k rem
  | 0, _ => rfl
  | k + 1, rem => by
    have h : freeV E rem = freeG (ldE E) rem := rfl
    unfold kahn kahnG
    rw [h]
    cases rem.find? (freeG (ldE E) rem) with
    | none => rfl
    | some v => simp only; rw [kahn_eq E k]
def LN (l : List Nat) : List Int := l.map fun (v : Nat) => (v : Int)
theorem ln_len (l : List Nat) : (LN l).length = l.length := by simp [LN]
theorem ln_get (l : List Nat) (i : Nat) (h : i < (LN l).length) : (LN l)[i] = ((l[i]'(by simpa [LN] using h) : Nat) : Int) := by simp [LN]
theorem kahnG_len (ld : Nat → Nat → Bool) : ∀ k rem, (kahnG ld k rem).length ≤ rem.length
  | 0, _ => by simp [kahnG]
  | k + 1, rem => by
    unfold kahnG
    cases h : rem.find? (freeG ld rem) with
    | none => simp
    | some v =>
      have hv := List.mem_of_find?_eq_some h
      have h1 := kahnG_len ld k (rem.erase v)
      have h2 := List.length_erase_of_mem hv
      have h3 := List.length_pos_of_mem hv
      simp only [List.length_cons]
      omega
theorem erase_at : ∀ (l : List Nat), l.Nodup → ∀ (i : Nat) (hi : i < l.length), l.erase l[i] = l.take i ++ l.drop (i + 1)
  | [], _, i, hi => by simp at hi
  | x :: r, _, 0, _ => by simp
  | x :: r, hn, i + 1, hi => by
    have hi' : i < r.length := by simpa using hi
    have h2 := List.nodup_cons.1 hn
    have hne : (x == r[i]) = false := by
      simp only [beq_eq_false_iff_ne]
      rintro rfl
      exact h2.1 (List.getElem_mem hi')
    simp only [List.getElem_cons_succ, List.take_succ_cons, List.drop_succ_cons, List.cons_append]
    rw [List.erase_cons, hne]
    simp only [Bool.false_eq_true, if_false]
    rw [erase_at r h2.2 i hi']
/-- the one that is found by its place -/
theorem kahnG_at {ld : Nat → Nat → Bool} {k : Nat} {rem : List Nat} (hn : rem.Nodup) {i : Nat} (hi : i < rem.length) (hf : freeG ld rem rem[i] = true) (hb : ∀ j (hj : j < i), freeG ld rem (rem[j]'(by omega)) = false) :
    kahnG ld (k + 1) rem = rem[i] :: kahnG ld k (rem.take i ++ rem.drop (i + 1)) := by
  have h1 : rem.find? (freeG ld rem) = some rem[i] := by
    rw [List.find?_eq_some_iff_getElem]
    exact ⟨hf, i, hi, rfl, fun j hj => by simp [hb j hj]⟩
  show (match rem.find? (freeG ld rem) with
    | none => []
    | some v => v :: kahnG ld k (rem.erase v)) = _
  rw [h1]
  simp only
  rw [erase_at rem hn i hi]
theorem kahnG_no {ld : Nat → Nat → Bool} {k : Nat} {rem : List Nat} (h : ∀ j (hj : j < rem.length), freeG ld rem rem[j] = false) : kahnG ld k rem = [] := by
  cases k with
  | zero => rfl
  | succ k =>
    unfold kahnG
    rw [List.find?_eq_none.2 (fun x hx => by
      obtain ⟨j, hj, rfl⟩ := List.getElem_of_mem hx
      simp [h j hj])]
theorem takeDrop_nodup {l : List Nat} (h : l.Nodup) (i : Nat) : (l.take i ++ l.drop (i + 1)).Nodup := by
  rw [← List.eraseIdx_eq_take_drop_succ]
  exact h.sublist (List.eraseIdx_sublist _ _)
theorem takeDrop_mem {l : List Nat} {i x : Nat} (h : x ∈ l.take i ++ l.drop (i + 1)) : x ∈ l := by
  rw [← List.eraseIdx_eq_take_drop_succ] at h
  exact (List.eraseIdx_sublist _ _).subset h
end Go.Proofs.Ytcehdpeeaogpiaa
