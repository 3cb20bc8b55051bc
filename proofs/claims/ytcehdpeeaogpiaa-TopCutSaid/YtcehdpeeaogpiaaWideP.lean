/-
  The widest ways: Warshall with max and min says, cost by cost, what is come to over edges of that much. No program here.
-/
import Derived.Test.YtcehdpeeaogpiaaPlainB
namespace Go.Proofs.Ytcehdpeeaogpiaa
set_option linter.unusedVariables false

/-- a map that goes along with 'or' and 'then' goes along with the whole of it -/
theorem wclosed_map {α β : Type} {or thn : α → α → α} {or' thn' : β → β → β} (h : α → β) (ho : ∀ a b, h (or a b) = or' (h a) (h b)) (ht : ∀ a b, h (thn a b) = thn' (h a) (h b)) (none self : α) (edge : NE → α) (n : Nat) (es : List NE) (i j : Nat) :
    h (wclosed or thn none self edge n es i j) = wclosed or' thn' (h none) (h self) (fun e => h (edge e)) n es i j := by
  have up : ∀ (m : Nat → Nat → α) (m' : Nat → Nat → β), (∀ a b, h (m a b) = m' a b) → ∀ i j x y, h x = y → ∀ a b, h (upm m i j x a b) = upm m' i j y a b := by
    intro m m' hm i j x y hx a b
    unfold upm
    split
    · exact hx
    · exact hm a b
  have row : ∀ (m : Nat → Nat → α) (m' : Nat → Nat → β), (∀ a b, h (m a b) = m' a b) → ∀ k i j a b, h (wrow or thn k i m j a b) = wrow or' thn' k i m' j a b := by
    intro m m' hm k i j
    induction j with
    | zero => exact hm
    | succ j ih => exact up _ _ ih _ _ _ _ (by rw [ho, ht, ih, ih, ih])
  have stage : ∀ (m : Nat → Nat → α) (m' : Nat → Nat → β), (∀ a b, h (m a b) = m' a b) → ∀ k i a b, h (wstage or thn n k m i a b) = wstage or' thn' n k m' i a b := by
    intro m m' hm k i
    induction i with
    | zero => exact hm
    | succ i ih => exact row _ _ ih k i n
  have all : ∀ (m : Nat → Nat → α) (m' : Nat → Nat → β), (∀ a b, h (m a b) = m' a b) → ∀ k a b, h (wall or thn n m k a b) = wall or' thn' n m' k a b := by
    intro m m' hm k
    induction k with
    | zero => exact hm
    | succ k ih => exact stage _ _ ih k n
  have edges : ∀ (es : List NE) (m : Nat → Nat → α) (m' : Nat → Nat → β), (∀ a b, h (m a b) = m' a b) → ∀ a b, h (es.foldl (wedge or edge) m a b) = es.foldl (wedge or' (fun e => h (edge e))) m' a b := by
    intro es
    induction es with
    | nil => intro m m' hm; exact hm
    | cons e r ih => intro m m' hm; exact ih _ _ (up _ _ hm _ _ _ _ (by rw [ho, hm]))
  refine all _ _ (edges es _ _ (fun a b => ?_)) n i j
  unfold wstart
  split <;> rfl

def wide (n : Nat) (es : List NE) : Nat → Nat → Int := wclosed max min (-FAR) FAR (fun e => e.c) n es
def geE (t : Int) : NE → Bool := fun e => decide (t ≤ e.c)
theorem wide_lead {n : Nat} {es : List NE} (hes : ∀ e ∈ es, e.u < n ∧ e.v < n) (t : Int) (h1 : -FAR < t) (h2 : t ≤ FAR) (i j : Nat) (hi : i < n) (hj : j < n) : t ≤ wide n es i j ↔ Lead es (geE t) i j := by
  have h := wclosed_map (or := max) (thn := min) (or' := orB) (thn' := andB) (fun x : Int => decide (t ≤ x)) (fun a b => by
      rw [Bool.eq_iff_iff]; simp only [orB, Bool.or_eq_true, decide_eq_true_eq]; omega) (fun a b => by
      rw [Bool.eq_iff_iff]; simp only [andB, Bool.and_eq_true, decide_eq_true_eq]; omega) (-FAR) FAR (fun e => e.c) n es i j
  have e1 : decide (t ≤ -FAR) = false := by simp; omega
  have e2 : decide (t ≤ FAR) = true := by simpa using h2
  rw [e1, e2] at h
  have h3 := wclosed_lead (is := geE t) hes i j hi hj
  constructor
  · intro h4
    refine h3.1 ?_
    have : decide (t ≤ wclosed max min (-FAR) FAR (fun e => e.c) n es i j) = true := decide_eq_true h4
    rw [h] at this
    exact this
  · intro h4
    have h5 := h3.2 h4
    have h6 : decide (t ≤ wclosed max min (-FAR) FAR (fun e => e.c) n es i j) = true := by rw [h]; exact h5
    exact of_decide_eq_true h6
theorem wide_bounds {n : Nat} {es : List NE} (hc : ∀ e ∈ es, -FAR ≤ e.c ∧ e.c ≤ FAR) : ∀ i j, -FAR ≤ wide n es i j ∧ wide n es i j ≤ FAR := by
  have up : ∀ (m : Nat → Nat → Int), (∀ a b, -FAR ≤ m a b ∧ m a b ≤ FAR) → ∀ i j x, (-FAR ≤ x ∧ x ≤ FAR) → ∀ a b, -FAR ≤ upm m i j x a b ∧ upm m i j x a b ≤ FAR := by
    intro m hm i j x hx a b
    unfold upm
    split
    · exact hx
    · exact hm a b
  have row : ∀ (m : Nat → Nat → Int), (∀ a b, -FAR ≤ m a b ∧ m a b ≤ FAR) → ∀ k i j a b, -FAR ≤ wrow max min k i m j a b ∧ wrow max min k i m j a b ≤ FAR := by
    intro m hm k i j
    induction j with
    | zero => exact hm
    | succ j ih =>
      refine up _ ih _ _ _ ?_
      have h1 := ih i j
      have h2 := ih i k
      have h3 := ih k j
      omega
  have stage : ∀ (m : Nat → Nat → Int), (∀ a b, -FAR ≤ m a b ∧ m a b ≤ FAR) → ∀ k i a b, -FAR ≤ wstage max min n k m i a b ∧ wstage max min n k m i a b ≤ FAR := by
    intro m hm k i
    induction i with
    | zero => exact hm
    | succ i ih => exact row _ ih k i n
  have all : ∀ (m : Nat → Nat → Int), (∀ a b, -FAR ≤ m a b ∧ m a b ≤ FAR) → ∀ k a b, -FAR ≤ wall max min n m k a b ∧ wall max min n m k a b ≤ FAR := by
    intro m hm k
    induction k with
    | zero => exact hm
    | succ k ih => exact stage _ ih k n
  have edges : ∀ (es : List NE) (m : Nat → Nat → Int), (∀ e ∈ es, -FAR ≤ e.c ∧ e.c ≤ FAR) → (∀ a b, -FAR ≤ m a b ∧ m a b ≤ FAR) → ∀ a b, -FAR ≤ es.foldl (wedge max (fun e => e.c)) m a b ∧ es.foldl (wedge max (fun e => e.c)) m a b ≤ FAR := by
    intro es
    induction es with
    | nil => intro m _ hm; exact hm
    | cons e r ih =>
      intro m hc hm
      have h1 := hm e.u e.v
      have h2 := hc e (List.mem_cons_self ..)
      exact ih _ (fun x hx => hc x (List.mem_cons_of_mem _ hx)) (up _ hm e.u e.v (max (m e.u e.v) e.c) (by omega))
  exact all _ (edges es _ hc (fun a b => by unfold wstart; split <;> simp [FAR])) n
/-- the reference: edge by edge, what is come to over edges of that much -/
def wideStep (es : List NE) (n i : Nat) (f : Nat → Int) (e : NE) : Nat → Int := fun u => if rreach es (geE e.c) (only i) n u = true then max (f u) e.c else f u
def wideRow (es : List NE) (n i : Nat) : Nat → Int := upz (es.foldl (wideStep es n i) (fun _ => -FAR)) i FAR
theorem wideStep_ge (es : List NE) (n i : Nat) (t : Int) : ∀ (l : List NE) (f : Nat → Int) (u : Nat), t ≤ l.foldl (wideStep es n i) f u ↔ (t ≤ f u ∨ ∃ e ∈ l, t ≤ e.c ∧ rreach es (geE e.c) (only i) n u = true)
  | [], f, u => by simp
  | e :: r, f, u => by
    show t ≤ r.foldl (wideStep es n i) (wideStep es n i f e) u ↔ _
    rw [wideStep_ge es n i t r]
    unfold wideStep
    constructor
    · rintro (h | ⟨x, hx, h1, h2⟩)
      · split at h
        · rename_i hc
          rcases Int.le_total (f u) e.c with hh | hh
          · rw [Int.max_eq_right hh] at h; exact .inr ⟨e, List.mem_cons_self .., h, hc⟩
          · rw [Int.max_eq_left hh] at h; exact .inl h
        · exact .inl h
      · exact .inr ⟨x, List.mem_cons_of_mem _ hx, h1, h2⟩
    · rintro (h | ⟨x, hx, h1, h2⟩)
      · left
        split
        · omega
        · exact h
      · rcases List.mem_cons.1 hx with rfl | hx
        · left
          rw [if_pos h2]
          omega
        · exact .inr ⟨x, hx, h1, h2⟩
theorem lead_mono {es : List NE} {a b : Nat} {s t : Int} (h : s ≤ t) (k : Lead es (geE t) a b) : Lead es (geE s) a b := by
  induction k with
  | refl => exact Lead.refl
  | step e _ he hi ih => exact Lead.step e ih he (by simp only [geE, decide_eq_true_eq] at hi ⊢; omega)
/-- a way to another place is as wide as one of its edges -/
theorem lead_edge {es : List NE} {a b : Nat} {t : Int} (k : Lead es (geE t) a b) (hne : a ≠ b) : ∃ e ∈ es, t ≤ e.c ∧ Lead es (geE e.c) a b := by
  induction k with
  | refl => exact absurd rfl hne
  | step e h he hi ih =>
    have hte : t ≤ e.c := by simpa [geE] using hi
    by_cases hu : a = e.u
    · have h0 : Lead es (geE e.c) a e.u := by rw [hu]; exact Lead.refl
      exact ⟨e, he, hte, Lead.step e h0 he (by simp [geE])⟩
    · obtain ⟨x, hx, h1, h2⟩ := ih hu
      rcases Int.le_total x.c e.c with hh | hh
      · exact ⟨x, hx, h1, Lead.step e h2 he (by simpa [geE] using hh)⟩
      · exact ⟨e, he, hte, Lead.step e (lead_mono hh h2) he (by simp [geE])⟩
theorem wide_row {n : Nat} {es : List NE} (hes : ∀ e ∈ es, e.u < n ∧ e.v < n) (hc : ∀ e ∈ es, -FAR < e.c ∧ e.c ≤ FAR) (i j : Nat) (hi : i < n) (hj : j < n) : wide n es i j = wideRow es n i j := by
  have hb := wide_bounds (n := n) (es := es) (fun e he => ⟨by have := hc e he; omega, (hc e he).2⟩) i j
  by_cases hij : j = i
  · subst hij
    have h1 := (wide_lead hes FAR (by simp [FAR]) (Int.le_refl _) j j hi hi).2 Lead.refl
    unfold wideRow
    rw [upz_same]
    omega
  · have e : wideRow es n i j = es.foldl (wideStep es n i) (fun _ => -FAR) j := upz_other _ _ hij
    rw [e]
    have key : ∀ t, -FAR < t → t ≤ FAR → (t ≤ wide n es i j ↔ t ≤ es.foldl (wideStep es n i) (fun _ => -FAR) j) := by
      intro t h1 h2
      rw [wide_lead hes t h1 h2 i j hi hj, wideStep_ge]
      constructor
      · intro h
        obtain ⟨x, hx, h3, h4⟩ := lead_edge h (fun h => hij h.symm)
        exact .inr ⟨x, hx, h3, (rreach_lead hes i hi j hj).2 h4⟩
      · rintro (h | ⟨x, hx, h3, h4⟩)
        · omega
        · exact lead_mono h3 ((rreach_lead hes i hi j hj).1 h4)
    have hlo : -FAR ≤ es.foldl (wideStep es n i) (fun _ => -FAR) j := (wideStep_ge es n i (-FAR) es _ j).2 (.inl (Int.le_refl _))
    have hhi : es.foldl (wideStep es n i) (fun _ => -FAR) j ≤ FAR := by
      rcases Int.lt_or_le FAR (es.foldl (wideStep es n i) (fun _ => -FAR) j) with h | h
      · rcases (wideStep_ge es n i (FAR + 1) es _ j).1 h with h3 | ⟨x, hx, h3, _⟩
        · simp only [FAR] at h3; omega
        · have := (hc x hx).2; omega
      · exact h
    have k1 := key (wide n es i j)
    have k2 := key (es.foldl (wideStep es n i) (fun _ => -FAR) j)
    rcases Int.lt_trichotomy (wide n es i j) (es.foldl (wideStep es n i) (fun _ => -FAR) j) with h | h | h
    · have := (k2 (by omega) hhi).2 (Int.le_refl _); omega
    · exact h
    · have := (k1 (by omega) hb.2).1 (Int.le_refl _); omega
end Go.Proofs.Ytcehdpeeaogpiaa
