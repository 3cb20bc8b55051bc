/-
  The least of all cuts, and the places in all of them: those that more can come to beside a greatest flow. No program here.
-/
import Derived.Test.YtcehdpeeaogpiaaFlowP
namespace Go.Proofs.Ytcehdpeeaogpiaa
set_option linter.unusedSimpArgs false
set_option linter.unusedVariables false
def inB (S : Nat) : Nat → Bool := fun v => S.testBit v
structure LC where
  b : Int
  I : Nat → Bool
def lcStep (E : List NE) (s t : Nat) (z : LC) (S : Nat) : LC :=
  if S.testBit s = false ∨ S.testBit t = true then z
  else if roomS E (inB S) < z.b then ⟨roomS E (inB S), inB S⟩
  else if roomS E (inB S) = z.b then ⟨z.b, fun v => z.I v && inB S v⟩
  else z
def lcRun (E : List NE) (s t : Nat) : Nat → LC
  | 0 => ⟨FAR, fun _ => false⟩
  | k + 1 => lcStep E s t (lcRun E s t k) k
def CutN (s t S : Nat) : Prop := S.testBit s = true ∧ S.testBit t = false
/-- of the first k sets -/
def LcInv (E : List NE) (s t k : Nat) (z : LC) : Prop :=
  ((∀ S, S < k → ¬ CutN s t S) ∧ z.b = FAR) ∨
  ((∃ S, S < k ∧ CutN s t S ∧ roomS E (inB S) = z.b) ∧ (∀ S, S < k → CutN s t S → z.b ≤ roomS E (inB S)) ∧ ∀ v, z.I v = true ↔ ∀ S, S < k → CutN s t S → roomS E (inB S) = z.b → S.testBit v = true)
theorem lc_inv (E : List NE) (s t : Nat) (hF : ∀ S, roomS E S < FAR) : ∀ k, LcInv E s t k (lcRun E s t k)
  | 0 => .inl ⟨fun S hS => by omega, rfl⟩
  | k + 1 => by
    have ih := lc_inv E s t hF k
    simp only [lcRun]
    generalize lcRun E s t k = z at ih ⊢
    unfold lcStep
    by_cases hc : k.testBit s = false ∨ k.testBit t = true
    · rw [if_pos hc]
      have hn : ¬ CutN s t k := fun h => by rcases hc with h1 | h1 <;> simp [CutN, h1] at h
      have hlt : ∀ S, S < k + 1 → CutN s t S → S < k := fun S hS hC => by
        rcases Nat.lt_or_ge S k with h | h
        · exact h
        · obtain rfl : S = k := by omega
          exact absurd hC hn
      rcases ih with ⟨i1, i2⟩ | ⟨⟨S0, a1, a2, a3⟩, i2, i3⟩
      · exact .inl ⟨fun S hS hC => i1 S (hlt S hS hC) hC, i2⟩
      · refine .inr ⟨⟨S0, by omega, a2, a3⟩, fun S hS hC => i2 S (hlt S hS hC) hC, fun v => ?_⟩
        rw [i3 v]
        exact ⟨fun h S hS hC => h S (hlt S hS hC) hC, fun h S hS hC => h S (by omega) hC⟩
    · rw [if_neg hc]
      have hk : CutN s t k := by
        simp only [not_or, Bool.not_eq_false, Bool.not_eq_true] at hc
        exact hc
      have hsp : ∀ S, S < k + 1 → S < k ∨ S = k := fun S hS => by omega
      by_cases h1 : roomS E (inB k) < z.b
      · rw [if_pos h1]
        refine .inr ⟨⟨k, by omega, hk, rfl⟩, fun S hS hC => ?_, fun v => ?_⟩
        · rcases hsp S hS with h | rfl
          · rcases ih with ⟨i1, i2⟩ | ⟨_, i2, _⟩
            · exact absurd hC (i1 S h)
            · have := i2 S h hC
              simp only
              omega
          · exact Int.le_refl _
        · constructor
          · intro hv S hS hC hr
            rcases hsp S hS with h | rfl
            · exfalso
              rcases ih with ⟨i1, i2⟩ | ⟨_, i2, _⟩
              · exact i1 S h hC
              · have := i2 S h hC
                simp only at hr
                omega
            · exact hv
          · intro h
            exact h k (by omega) hk rfl
      · rw [if_neg h1]
        rcases ih with ⟨i1, i2⟩ | ⟨⟨S0, a1, a2, a3⟩, i2, i3⟩
        · exact absurd (hF (inB k)) (by rw [← i2]; exact h1)
        · by_cases h2 : roomS E (inB k) = z.b
          · rw [if_pos h2]
            refine .inr ⟨⟨S0, by omega, a2, a3⟩, fun S hS hC => ?_, fun v => ?_⟩
            · rcases hsp S hS with h | rfl
              · exact i2 S h hC
              · simp only; omega
            · simp only [Bool.and_eq_true, i3 v]
              constructor
              · rintro ⟨g1, g2⟩ S hS hC hr
                rcases hsp S hS with h | rfl
                · exact g1 S h hC hr
                · exact g2
              · intro g
                exact ⟨fun S hS hC hr => g S (by omega) hC hr, g k (by omega) hk h2⟩
          · rw [if_neg h2]
            refine .inr ⟨⟨S0, by omega, a2, a3⟩, fun S hS hC => ?_, fun v => ?_⟩
            · rcases hsp S hS with h | rfl
              · exact i2 S h hC
              · omega
            · rw [i3 v]
              constructor
              · intro g S hS hC hr
                rcases hsp S hS with h | rfl
                · exact g S h hC hr
                · exact absurd hr h2
              · intro g S hS hC hr
                exact g S (by omega) hC hr
theorem ex_num : ∀ (n : Nat) (f : Nat → Bool), ∃ S, S < 2 ^ n ∧ ∀ v, v < n → S.testBit v = f v
  | 0, f => ⟨0, by simp, fun v hv => by omega⟩
  | n + 1, f => by
    obtain ⟨S, h1, h2⟩ := ex_num n (fun v => f (v + 1))
    refine ⟨2 * S + (f 0).toNat, ?_, fun v hv => ?_⟩
    · rw [Nat.pow_succ]
      have : (f 0).toNat ≤ 1 := by cases f 0 <;> simp
      omega
    · cases v with
      | zero =>
        rw [Nat.testBit_zero]
        cases f 0 <;> simp
      | succ v =>
        rw [Nat.testBit_succ]
        have : (2 * S + (f 0).toNat) / 2 = S := by
          have : (f 0).toNat ≤ 1 := by cases f 0 <;> simp
          omega
        rw [this]
        exact h2 v (by omega)
theorem room_congr {E : List NE} {n : Nat} (hE : ∀ e ∈ E, e.u < n ∧ e.v < n) {S T : Nat → Bool} (h : ∀ v, v < n → S v = T v) : roomS E S = roomS E T := by
  refine esum_congr E 0 (fun i e he => ?_)
  have hm := hE e (List.mem_of_getElem? he)
  rw [h _ hm.1, h _ hm.2]
theorem room_far {E : List NE} (hc : ∀ e ∈ E, 1 ≤ e.c ∧ e.c ≤ 10000) (hl : E.length ≤ 600) (S : Nat → Bool) : roomS E S < FAR := by
  have h1 : roomS E S ≤ 10000 * (E.length : Int) := by
    rw [← esum_const (c := 10000) E 0]
    refine esum_le E 0 (fun i e he => ?_)
    have := hc e (List.mem_of_getElem? he)
    unfold ifv
    split <;> omega
  unfold FAR
  omega
/-- the least cut's room is the flow, and what lies in all least cuts is what more can come to -/
theorem lc_says {E : List NE} {n s t : Nat} {fl : Nat → Int} {sum : Int} (hE : ∀ e ∈ E, e.u < n ∧ e.v < n) (hc : ∀ e ∈ E, 1 ≤ e.c ∧ e.c ≤ 10000) (hl : E.length ≤ 600) (hf : FlowOk E n s t fl sum) (hs : s < n) (ht : t < n)
    (hnt : ¬ Lead (arcs fl E 0) posA s t) : (lcRun E s t (2 ^ n)).b = sum ∧ ∀ v, v < n → ((lcRun E s t (2 ^ n)).I v = true ↔ Lead (arcs fl E 0) posA s v) := by
  have hinv := lc_inv E s t (room_far hc hl) (2 ^ n)
  generalize lcRun E s t (2 ^ n) = z at hinv ⊢
  classical
  obtain ⟨R, hR1, hR2⟩ := ex_num n (fun v => decide (Lead (arcs fl E 0) posA s v))
  have hR3 : ∀ v, v < n → (inB R v = true ↔ Lead (arcs fl E 0) posA s v) := fun v hv => by
    show R.testBit v = true ↔ _
    rw [hR2 v hv]; simp
  have hRc : CutN s t R := ⟨(hR3 s hs).2 Lead.refl, by
    have := hR3 t ht
    cases h : R.testBit t with
    | false => rfl
    | true => exact absurd (this.1 h) hnt⟩
  have hRr : sum = roomS E (inB R) := (flow_eq hE hf hs (inB R) hRc.1 hRc.2).2 (lead_shut (inB R) (fun e he => ⟨hR3 e.u (hE e he).1, hR3 e.v (hE e he).2⟩))
  rcases hinv with ⟨i1, _⟩ | ⟨⟨S0, a1, a2, a3⟩, i2, i3⟩
  · exact absurd hRc (i1 R hR1)
  · have hb : z.b = sum := by
      have h1 := i2 R hR1 hRc
      have h2 := flow_le hE hf hs (inB S0) a2.1 a2.2
      omega
    refine ⟨hb, fun v hv => ?_⟩
    rw [i3 v]
    constructor
    · intro h
      exact (hR3 v hv).1 (h R hR1 hRc (by omega))
    · intro h S hS hC hr
      have hsh := (flow_eq hE hf hs (inB S) hC.1 hC.2).1 (by omega)
      exact shut_lead hsh (S := inB S) hC.1 h
/-- beside any greatest flow the same places can be come to -/
theorem reach_same {E : List NE} {n s t : Nat} {f1 f2 : Nat → Int} {s1 s2 : Int} (hE : ∀ e ∈ E, e.u < n ∧ e.v < n) (hs : s < n) (ht : t < n) (h1 : FlowOk E n s t f1 s1) (h2 : FlowOk E n s t f2 s2)
    (n1 : ¬ Lead (arcs f1 E 0) posA s t) (n2 : ¬ Lead (arcs f2 E 0) posA s t) : s1 = s2 ∧ ∀ v, Lead (arcs f1 E 0) posA s v ↔ Lead (arcs f2 E 0) posA s v := by
  classical
  have key : ∀ {f : Nat → Int} {x : Int}, FlowOk E n s t f x → ¬ Lead (arcs f E 0) posA s t → x = roomS E (fun v => decide (Lead (arcs f E 0) posA s v)) := fun {f x} hf hn =>
    (flow_eq hE hf hs (fun v => decide (Lead (arcs f E 0) posA s v)) (by simp [Lead.refl]) (by simp [hn])).2 (lead_shut (s := s) _ (fun e he => ⟨by simp, by simp⟩))
  have k1 := key h1 n1
  have k2 := key h2 n2
  have l1 := flow_le hE h1 hs (fun v => decide (Lead (arcs f2 E 0) posA s v)) (by simp [Lead.refl]) (by simp [n2])
  have l2 := flow_le hE h2 hs (fun v => decide (Lead (arcs f1 E 0) posA s v)) (by simp [Lead.refl]) (by simp [n1])
  have e12 : s1 = s2 := by omega
  refine ⟨e12, fun v => ⟨fun h => ?_, fun h => ?_⟩⟩
  · have hsh := (flow_eq hE h1 hs (fun v => decide (Lead (arcs f2 E 0) posA s v)) (by simp [Lead.refl]) (by simp [n2])).1 (by omega)
    simpa using shut_lead hsh (by simp [Lead.refl]) h
  · have hsh := (flow_eq hE h2 hs (fun v => decide (Lead (arcs f1 E 0) posA s v)) (by simp [Lead.refl]) (by simp [n1])).1 (by omega)
    simpa using shut_lead hsh (by simp [Lead.refl]) h
theorem lead_dec {fl : Nat → Int} {E : List NE} {s v : Nat} : Lead (arcs fl E 0) posA s v ∨ ¬ Lead (arcs fl E 0) posA s v := Classical.em _
end Go.Proofs.Ytcehdpeeaogpiaa
