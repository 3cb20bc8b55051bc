/-
  A walk with its cycles cut out: from each place on behind its last. No program here.
-/
import Derived.Test.YtdpbkhempgghaaaLib
namespace Go.Proofs.Ytdpbkhempgghaaa
set_option linter.unusedVariables false
/-- the last place below k that holds x -/
def lastB (l : List Int) (x : Int) : Nat → Nat | 0 => 0 | k + 1 => if l.getD k 0 = x then k else lastB l x k
theorem lastB_lt (l : List Int) (x : Int) : ∀ k, 0 < k → lastB l x k < k
  | k + 1, _ => by
    unfold lastB
    split
    · omega
    · by_cases h : 0 < k
      · have := lastB_lt l x k h; omega
      · obtain rfl : k = 0 := by omega
        simp [lastB]
theorem lastB_at {l : List Int} {x : Int} {i : Nat} (hi : l.getD i 0 = x) : ∀ k, i < k → l.getD (lastB l x k) 0 = x ∧ i ≤ lastB l x k
  | k + 1, h => by
    unfold lastB
    split
    · exact ⟨by assumption, by omega⟩
    · rename_i hne
      have : i ≠ k := fun e => hne (by rw [← e]; exact hi)
      exact lastB_at hi k (by omega)
theorem lastB_skip {l : List Int} {x : Int} {k : Nat} : ∀ n, k < n → l.getD k 0 = x → (∀ j, k < j → j < n → l.getD j 0 ≠ x) → lastB l x n = k
  | n + 1, h, h1, h2 => by
    unfold lastB
    by_cases e : k = n
    · subst e; rw [if_pos h1]
    · rw [if_neg (h2 n (by omega) (by omega))]
      exact lastB_skip n (by omega) h1 (fun j hj hn => h2 j hj (by omega))
theorem lastB_drop (l : List Int) (x : Int) (i : Nat) (hi : l.getD i 0 = x) : ∀ k, lastB l x (i + 1 + k) = i + lastB (l.drop i) x (k + 1)
  | 0 => by
    have h0 : (l.drop i).getD 0 0 = x := by simpa [List.getD] using hi
    show lastB l x (i + 1) = i + lastB (l.drop i) x 1
    unfold lastB
    rw [if_pos hi, if_pos h0]
    rfl
  | k + 1 => by
    have h0 : (l.drop i).getD (k + 1) 0 = l.getD (i + 1 + k) 0 := by
      simp only [List.getD, List.getElem?_drop]
      rw [show i + (k + 1) = i + 1 + k by omega]
    show lastB l x (i + 1 + k + 1) = i + lastB (l.drop i) x (k + 1 + 1)
    rw [lastB, lastB, h0]
    split
    · omega
    · exact lastB_drop l x i hi k
def cutQ : Nat → List Int → List Int
  | 0, _ => []
  | _ + 1, [] => []
  | n + 1, x :: r => x :: cutQ n ((x :: r).drop (lastB (x :: r) x (r.length + 1) + 1))
theorem cutQ_step {n : Nat} {l : List Int} (h : 0 < l.length) : cutQ (n + 1) l = l.getD 0 0 :: cutQ n (l.drop (lastB l (l.getD 0 0) l.length + 1)) := by
  cases l with
  | nil => simp at h
  | cons x r => rfl
theorem cutQ_len : ∀ (n : Nat) (l : List Int), (cutQ n l).length ≤ l.length
  | 0, _ => by simp [cutQ]
  | _ + 1, [] => by simp [cutQ]
  | n + 1, x :: r => by
    have := cutQ_len n ((x :: r).drop (lastB (x :: r) x (r.length + 1) + 1))
    simp only [cutQ, List.length_cons, List.length_drop] at this ⊢
    omega
theorem cutQ_nil (n : Nat) : cutQ n [] = [] := by cases n <;> rfl
/-- from place i on -/
theorem cutQ_at {n : Nat} {l : List Int} {i : Nat} (h : i < l.length) : cutQ (n + 1) (l.drop i) = l.getD i 0 :: cutQ n (l.drop (lastB l (l.getD i 0) l.length + 1)) := by
  rw [cutQ_step (by rw [List.length_drop]; omega)]
  have h0 : (l.drop i).getD 0 0 = l.getD i 0 := by simp [List.getD]
  have h1 := lastB_drop l (l.getD i 0) i rfl (l.length - (i + 1))
  rw [show i + 1 + (l.length - (i + 1)) = l.length by omega] at h1
  rw [h0, List.drop_drop, List.length_drop, h1, show l.length - i = l.length - (i + 1) + 1 by omega]
  rfl
end Go.Proofs.Ytdpbkhempgghaaa
