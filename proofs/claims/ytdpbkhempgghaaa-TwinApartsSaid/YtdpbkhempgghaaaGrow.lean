/-
  A set of places that grows round by round stands still after as many rounds as there are places. No program here.
-/
import Derived.Test.YtdpbkhempgghaaaLib
namespace Go.Proofs.Ytdpbkhempgghaaa

theorem count_le {p q : Nat → Bool} : ∀ {l : List Nat}, (∀ v ∈ l, p v = true → q v = true) → l.countP p ≤ l.countP q
  | [], _ => by simp
  | x :: r, h => by
    have ih := count_le (p := p) (q := q) (l := r) (fun v hv => h v (List.mem_cons_of_mem _ hv))
    rw [List.countP_cons, List.countP_cons]
    by_cases hp : p x = true
    · rw [if_pos hp, if_pos (h x (List.mem_cons_self ..) hp)]; omega
    · rw [if_neg hp]; omega
theorem count_lt {p q : Nat → Bool} : ∀ {l : List Nat}, (∀ v ∈ l, p v = true → q v = true) → (∃ v ∈ l, q v = true ∧ ¬ p v = true) → l.countP p < l.countP q
  | [], _, h => by obtain ⟨v, hv, _⟩ := h; cases hv
  | x :: r, h, ⟨v, hv, hq, hp⟩ => by
    have hr := fun u hu => h u (List.mem_cons_of_mem x hu)
    rw [List.countP_cons, List.countP_cons]
    cases hv with
    | head =>
      have := count_le hr
      rw [if_pos hq, if_neg hp]; omega
    | tail _ hm =>
      have := count_lt hr ⟨v, hm, hq, hp⟩
      by_cases hx : p x = true
      · rw [if_pos hx, if_pos (h x (List.mem_cons_self ..) hx)]; omega
      · rw [if_neg hx]; omega
/-- the sets S 0, S 1, .. of places below n: each in the next; once two that follow each other are the same, so are the later ones; the first is not empty -/
theorem grow {n : Nat} (S : Nat → Nat → Bool) (up : ∀ t v, v < n → S t v = true → S (t + 1) v = true)
    (still : ∀ t, (∀ v, v < n → S (t + 1) v = true → S t v = true) → ∀ v, v < n → S (t + 2) v = true → S (t + 1) v = true)
    (h0 : ∃ v, v < n ∧ S 0 v = true) : ∀ t, n ≤ t + 1 → ∀ v, v < n → S (t + 1) v = true → S t v = true := by
  have key : ∀ t, (∀ v, v < n → S (t + 1) v = true → S t v = true) ∨ t + 2 ≤ (List.range n).countP (S (t + 1)) := by
    intro t
    induction t with
    | zero =>
      by_cases hs : ∀ v, v < n → S 1 v = true → S 0 v = true
      · exact .inl hs
      · right
        simp only [Classical.not_forall] at hs
        obtain ⟨v, hv, h1, h2⟩ := hs
        have c1 := count_lt (p := S 0) (q := S 1) (l := List.range n) (fun u hu => up 0 u (List.mem_range.1 hu)) ⟨v, List.mem_range.2 hv, h1, h2⟩
        obtain ⟨u, hu, hu2⟩ := h0
        have c0 : 0 < (List.range n).countP (S 0) := List.countP_pos_iff.2 ⟨u, List.mem_range.2 hu, hu2⟩
        show 0 + 2 ≤ (List.range n).countP (S 1)
        omega
    | succ t ih =>
      by_cases hs : ∀ v, v < n → S (t + 2) v = true → S (t + 1) v = true
      · exact .inl hs
      · right
        rcases ih with h | h
        · exact absurd (still t h) hs
        · simp only [Classical.not_forall] at hs
          obtain ⟨v, hv, h1, h2⟩ := hs
          have c1 := count_lt (p := S (t + 1)) (q := S (t + 2)) (l := List.range n) (fun u hu => up (t + 1) u (List.mem_range.1 hu)) ⟨v, List.mem_range.2 hv, h1, h2⟩
          show t + 1 + 2 ≤ (List.range n).countP (S (t + 2))
          omega
  intro t ht
  rcases key t with h | h
  · exact h
  · have : (List.range n).countP (S (t + 1)) ≤ n := by simpa using List.countP_le_length (p := S (t + 1)) (l := List.range n)
    omega
end Go.Proofs.Ytdpbkhempgghaaa
