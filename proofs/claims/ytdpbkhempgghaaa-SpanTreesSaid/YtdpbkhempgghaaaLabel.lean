/-
  Labels of places that pairs join: the least of each group, however it is found. No program here.
-/
import Derived.Test.YtdpbkhempgghaaaGrow
namespace Go.Proofs.Ytdpbkhempgghaaa
set_option linter.unusedVariables false

def Resp (l : List (Nat × Nat)) (g : Nat → Nat) : Prop := ∀ p ∈ l, g p.1 = g p.2
/-- f gives each place a place of its own group, and no greater one -/
def Inside (l : List (Nat × Nat)) (f : Nat → Nat) : Prop := (∀ v, f v ≤ v) ∧ ∀ g, Resp l g → ∀ v, g (f v) = g v
theorem label_unique {l : List (Nat × Nat)} {f g : Nat → Nat} (hf : Inside l f) (hg : Inside l g) (rf : Resp l f) (rg : Resp l g) (v : Nat) : f v = g v := by
  have h1 := hf.2 g rg v
  have h2 := hg.2 f rf v
  have h3 := hg.1 (f v)
  have h4 := hf.1 (g v)
  omega
def relax (f : Nat → Nat) (p : Nat × Nat) : Nat → Nat := fun v => if v = p.1 ∨ v = p.2 then min (f p.1) (f p.2) else f v
theorem relax_le (f : Nat → Nat) (p : Nat × Nat) (v : Nat) : relax f p v ≤ f v := by
  unfold relax
  split
  · rename_i h; rcases h with rfl | rfl <;> omega
  · exact Nat.le_refl _
theorem relax_group {f g : Nat → Nat} {p : Nat × Nat} (h : ∀ v, g (f v) = g v) (hp : g p.1 = g p.2) (v : Nat) : g (relax f p v) = g v := by
  unfold relax
  split
  · rename_i hv
    have hm : min (f p.1) (f p.2) = f p.1 ∨ min (f p.1) (f p.2) = f p.2 := by omega
    rcases hm with e | e <;> rw [e, h] <;> rcases hv with rfl | rfl <;> simp [hp]
  · exact h v
def round (l : List (Nat × Nat)) (f : Nat → Nat) : Nat → Nat := l.foldl relax f
theorem round_le : ∀ (l : List (Nat × Nat)) (f : Nat → Nat) (v : Nat), round l f v ≤ f v
  | [], _, _ => Nat.le_refl _
  | p :: r, f, v => Nat.le_trans (round_le r (relax f p) v) (relax_le f p v)
theorem round_group {g : Nat → Nat} : ∀ {l : List (Nat × Nat)} {f : Nat → Nat}, (∀ v, g (f v) = g v) → Resp l g → ∀ v, g (round l f v) = g v
  | [], _, h, _, v => h v
  | p :: r, f, h, hr, v => round_group (l := r) (relax_group h (hr p (List.mem_cons_self ..))) (fun q hq => hr q (List.mem_cons_of_mem _ hq)) v
def rounds (l : List (Nat × Nat)) : Nat → Nat → Nat | 0 => fun v => v | t + 1 => round l (rounds l t)
theorem rounds_inside (l : List (Nat × Nat)) : ∀ t, Inside l (rounds l t)
  | 0 => ⟨fun _ => Nat.le_refl _, fun _ _ _ => rfl⟩
  | t + 1 => ⟨fun v => Nat.le_trans (round_le l _ v) ((rounds_inside l t).1 v), fun g hg => round_group ((rounds_inside l t).2 g hg) hg⟩
/-- a round takes the label on across each pair -/
theorem round_pair {m : Nat} : ∀ {l : List (Nat × Nat)} {f : Nat → Nat} {p : Nat × Nat}, p ∈ l → (f p.1 ≤ m ∨ f p.2 ≤ m) → round l f p.1 ≤ m ∧ round l f p.2 ≤ m
  | q :: r, f, p, hp, h => by
    cases hp with
    | head =>
      have e1 : relax f q q.1 = min (f q.1) (f q.2) := by simp [relax]
      have e2 : relax f q q.2 = min (f q.1) (f q.2) := by simp [relax]
      have h1 := round_le r (relax f q) q.1
      have h2 := round_le r (relax f q) q.2
      show round r (relax f q) q.1 ≤ m ∧ round r (relax f q) q.2 ≤ m
      omega
    | tail _ hm =>
      have h1 := relax_le f q p.1
      have h2 := relax_le f q p.2
      exact round_pair (l := r) (f := relax f q) hm (by omega)
/-- where the places of label m are closed under the pairs, a round changes none of them and adds none -/
theorem round_closed {m : Nat} : ∀ {l : List (Nat × Nat)} {f : Nat → Nat}, (∀ p ∈ l, f p.1 = m ↔ f p.2 = m) → ∀ v, round l f v = m ↔ f v = m
  | [], _, _, _ => Iff.rfl
  | q :: r, f, h, v => by
    have hq := h q (List.mem_cons_self ..)
    have step : ∀ u, relax f q u = m ↔ f u = m := by
      intro u
      unfold relax
      split
      · rename_i hu
        rcases hu with rfl | rfl <;> constructor <;> intro e <;> omega
      · exact Iff.rfl
    show round r (relax f q) v = m ↔ f v = m
    rw [round_closed (l := r) (f := relax f q) (fun p hp => by rw [step, step]; exact h p (List.mem_cons_of_mem _ hp)) v]
    exact step v
theorem rounds_root {n : Nat} {l : List (Nat × Nat)} {root : Nat → Nat} (hin : Inside l root) (hr : Resp l root) (hl : ∀ p ∈ l, p.1 < n ∧ p.2 < n) (v : Nat) (hv : v < n) : rounds l n v = root v := by
  have low : ∀ t u, root u ≤ rounds l t u := by
    intro t u
    have h1 := (rounds_inside l t).2 root hr u
    have h2 := hin.1 (rounds l t u)
    omega
  have idem : root (root v) = root v := hin.2 root hr v
  obtain ⟨m, hm⟩ : ∃ m, m = root v := ⟨_, rfl⟩
  rw [← hm] at idem ⊢
  have hmv : m ≤ v := by have := hin.1 v; omega
  have mem_root : ∀ t u, rounds l t u = m → root u = m := by
    intro t u h
    have h1 := (rounds_inside l t).2 root hr u
    rw [h, idem] at h1
    exact h1.symm
  have up : ∀ t u, rounds l t u = m → rounds l (t + 1) u = m := by
    intro t u h
    have h1 := low (t + 1) u
    rw [mem_root t u h] at h1
    have h2 : rounds l (t + 1) u ≤ rounds l t u := round_le l _ u
    omega
  have cross : ∀ t, ∀ p ∈ l, (rounds l t p.1 = m ∨ rounds l t p.2 = m) → rounds l (t + 1) p.1 = m ∧ rounds l (t + 1) p.2 = m := by
    intro t p hp h
    have h1 := round_pair (m := m) (f := rounds l t) hp (by omega)
    have r1 := low (t + 1) p.1
    have r2 := low (t + 1) p.2
    have e := hr p hp
    have e1 : root p.1 = m := by rcases h with h | h <;> have := mem_root t _ h <;> omega
    have h2 : rounds l (t + 1) p.1 ≤ m ∧ rounds l (t + 1) p.2 ≤ m := h1
    omega
  have closed : ∀ t, (∀ u, u < n → rounds l (t + 1) u = m → rounds l t u = m) → ∀ p ∈ l, rounds l t p.1 = m ↔ rounds l t p.2 = m := by
    intro t ht p hp
    constructor <;> intro h
    · exact ht _ (hl p hp).2 (cross t p hp (.inl h)).2
    · exact ht _ (hl p hp).1 (cross t p hp (.inr h)).1
  have g := grow (n := n) (fun t u => decide (rounds l t u = m)) (fun t u _ h => by simpa using up t u (by simpa using h))
    (fun t ht u hu h => by
      have c := closed t (fun u hu h => by simpa using ht u hu (by simpa using h))
      have c2 : ∀ p ∈ l, rounds l (t + 1) p.1 = m ↔ rounds l (t + 1) p.2 = m := by
        intro p hp
        rw [show rounds l (t + 1) = round l (rounds l t) from rfl, round_closed c, round_closed c]
        exact c p hp
      have := round_closed (l := l) (f := rounds l (t + 1)) c2 u
      have h2 : round l (rounds l (t + 1)) u = m := of_decide_eq_true h
      simpa using this.1 h2)
    ⟨m, by omega, by simp [rounds]⟩
  have gn := closed n (fun u hu h => by simpa using g n (by omega) u hu (by simpa using h))
  have ind := hin.2 (fun u => if rounds l n u = m then 0 else 1) (fun p hp => by
    have := gn p hp
    by_cases h : rounds l n p.1 = m
    · simp [h, this.1 h]
    · have h' : ¬ rounds l n p.2 = m := fun e => h (this.2 e)
      simp [h, h']) v
  have hmm : rounds l n m = m := by
    have : ∀ t, rounds l t m = m := by
      intro t
      induction t with
      | zero => rfl
      | succ t ih => exact up t m ih
    exact this n
  rw [← hm] at ind
  by_cases h : rounds l n v = m
  · exact h
  · simp [hmm, h] at ind
end Go.Proofs.Ytdpbkhempgghaaa
