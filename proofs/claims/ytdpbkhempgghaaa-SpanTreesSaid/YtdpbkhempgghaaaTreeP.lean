/-
  The edges that are taken in the order of their costs: each that joins two groups. No program here.
-/
import Derived.Test.YtdpbkhempgghaaaRNeck
namespace Go.Proofs.Ytdpbkhempgghaaa
set_option linter.unusedVariables false
/-- the ends of some edges, by number -/
def prs (es : List Ed) (T : List Int) : List (Nat × Nat) := natPairs (T.map (pairI es))
theorem prs_snoc (es : List Ed) (T : List Int) (x : P2) : prs es (T ++ [x.b]) = prs es T ++ [pairAt es x] := by
  simp [prs, natPairs, pairI, pairAt]
/-- what is taken of the k first -/
def Taken (es : List Ed) : Nat → List Int → Prop
  | 0, T => T = []
  | k + 1, T => ∃ T0, Taken es k T0 ∧ ∃ h : k < (orderOf es).length, (Conn (prs es T0) (pairAt es (orderOf es)[k]).1 (pairAt es (orderOf es)[k]).2 ∧ T = T0) ∨ (¬ Conn (prs es T0) (pairAt es (orderOf es)[k]).1 (pairAt es (orderOf es)[k]).2 ∧ T = T0 ++ [(orderOf es)[k].b])
theorem taken_one {es : List Ed} : ∀ {k : Nat} {T U : List Int}, Taken es k T → Taken es k U → T = U
  | 0, T, U, h1, h2 => by rw [show T = [] from h1, show U = [] from h2]
  | k + 1, T, U, h1, h2 => by
    obtain ⟨T0, a1, a2, a3⟩ := h1
    obtain ⟨U0, b1, b2, b3⟩ := h2
    obtain rfl := taken_one a1 b1
    rcases a3 with ⟨a3, rfl⟩ | ⟨a3, rfl⟩ <;> rcases b3 with ⟨b3, rfl⟩ | ⟨b3, rfl⟩
    · rfl
    · exact absurd a3 b3
    · exact absurd b3 a3
    · rfl
theorem taken_mem {es : List Ed} : ∀ {k : Nat} {T : List Int}, Taken es k T → T.length ≤ k ∧ ∀ x ∈ T, ∃ i : Nat, x = (i : Int) ∧ i < es.length
  | 0, T, h => by rw [show T = [] from h]; simp
  | k + 1, T, h => by
    obtain ⟨T0, a1, a2, a3⟩ := h
    obtain ⟨h1, h2⟩ := taken_mem a1
    rcases a3 with ⟨_, rfl⟩ | ⟨_, rfl⟩
    · exact ⟨by omega, h2⟩
    · refine ⟨by simp; omega, fun x hx => ?_⟩
      rcases List.mem_append.1 hx with hx | hx
      · exact h2 x hx
      · obtain ⟨i, hi, he, _⟩ := orderOf_mem (List.getElem_mem a2)
        rw [List.mem_singleton.1 hx, he]
        exact ⟨i, rfl, hi⟩
theorem conn_more {d : List (Nat × Nat)} {p : Nat × Nat} (h : Conn d p.1 p.2) {a b : Nat} : Conn (d ++ [p]) a b ↔ Conn d a b := by
  refine ⟨fun hc g hg => hc g (fun q hq => ?_), Conn.mono (fun q hq => List.mem_append_left _ hq)⟩
  rcases List.mem_append.1 hq with hq | hq
  · exact hg q hq
  · rw [List.mem_singleton.1 hq]; exact h g hg
theorem conn_both {d d' : List (Nat × Nat)} (h : ∀ a b, Conn d a b ↔ Conn d' a b) (p : Nat × Nat) (a b : Nat) : Conn (d ++ [p]) a b ↔ Conn (d' ++ [p]) a b := by
  have key : ∀ {d d' : List (Nat × Nat)}, (∀ a b, Conn d a b → Conn d' a b) → Conn (d ++ [p]) a b → Conn (d' ++ [p]) a b := by
    intro d d' h hc g hg
    refine hc g (fun q hq => ?_)
    rcases List.mem_append.1 hq with hq | hq
    · exact h q.1 q.2 (fun g hg => hg q hq) g (fun r hr => hg r (List.mem_append_left _ hr))
    · exact hg q (List.mem_append_right _ hq)
  exact ⟨key (fun a b => (h a b).1), key (fun a b => (h a b).2)⟩
/-- they join what all join -/
theorem taken_conn {es : List Ed} : ∀ {k : Nat} {T : List Int}, Taken es k T → ∀ a b, Conn (prs es T) a b ↔ Conn (joinedK es k) a b
  | 0, T, h => by rw [show T = [] from h]; intro a b; simp [prs, natPairs, joinedK]
  | k + 1, T, h => by
    obtain ⟨T0, a1, a2, a3⟩ := h
    have ih := taken_conn a1
    rw [joinedK_succ es k a2]
    intro a b
    rcases a3 with ⟨hc, rfl⟩ | ⟨_, rfl⟩
    · rw [ih, conn_more ((ih _ _).1 hc)]
    · rw [prs_snoc]
      exact conn_both ih _ a b
end Go.Proofs.Ytdpbkhempgghaaa
