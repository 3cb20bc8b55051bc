/-
  From all to all, place by place between (Warshall): what it comes to; and what a growing set of places comes to. No program here.
-/
import Derived.Test.YtdpbkhempgghaaaBell
namespace Go.Proofs.Ytdpbkhempgghaaa
set_option linter.unusedVariables false

section
variable {α : Type}
def upm (m : Nat → Nat → α) (i j : Nat) (x : α) : Nat → Nat → α := fun a b => if a = i ∧ b = j then x else m a b
theorem upm_same (m : Nat → Nat → α) (i j : Nat) (x : α) : upm m i j x i j = x := by simp [upm]
theorem upm_other (m : Nat → Nat → α) {i j a b : Nat} (x : α) (h : ¬ (a = i ∧ b = j)) : upm m i j x a b = m a b := by simp [upm, h]
/-- one place of a row -/
def wcell (or thn : α → α → α) (k i : Nat) (m : Nat → Nat → α) (j : Nat) : Nat → Nat → α := upm m i j (or (m i j) (thn (m i k) (m k j)))
def wrow (or thn : α → α → α) (k i : Nat) (m : Nat → Nat → α) : Nat → (Nat → Nat → α) | 0 => m | j + 1 => wcell or thn k i (wrow or thn k i m j) j
def wstage (or thn : α → α → α) (n k : Nat) (m : Nat → Nat → α) : Nat → (Nat → Nat → α) | 0 => m | i + 1 => wrow or thn k i (wstage or thn n k m i) n
def wall (or thn : α → α → α) (n : Nat) (m : Nat → Nat → α) : Nat → (Nat → Nat → α) | 0 => m | k + 1 => wstage or thn n k (wall or thn n m k) n
/-- the start: nothing, but each place to itself; then the edges -/
def wstart (none self : α) : Nat → Nat → α := fun i j => if i = j then self else none
def wedge (or : α → α → α) (edge : NE → α) (m : Nat → Nat → α) (e : NE) : Nat → Nat → α := upm m e.u e.v (or (m e.u e.v) (edge e))
def wclosed (or thn : α → α → α) (none self : α) (edge : NE → α) (n : Nat) (es : List NE) : Nat → Nat → α := wall or thn n (es.foldl (wedge or edge) (wstart none self)) n
end

/-! booleans: is there a walk over edges that are so? -/
abbrev orB (a b : Bool) : Bool := a || b
abbrev andB (a b : Bool) : Bool := a && b
inductive Lead (es : List NE) (is : NE → Bool) (a : Nat) : Nat → Prop
  | refl : Lead es is a a
  | step (e : NE) (h : Lead es is a e.u) (he : e ∈ es) (hi : is e = true) : Lead es is a e.v
theorem Lead.trans {es : List NE} {is : NE → Bool} {a b c : Nat} (h : Lead es is a b) (k : Lead es is b c) : Lead es is a c := by
  induction k with
  | refl => exact h
  | step e _ he hi ih => exact Lead.step e ih he hi
theorem Lead.lt {es : List NE} {is : NE → Bool} {n a b : Nat} (hes : ∀ e ∈ es, e.u < n ∧ e.v < n) (h : Lead es is a b) (ha : a < n) : b < n := by
  cases h with
  | refl => exact ha
  | step e h he hi => exact (hes e he).2

theorem wrow_other (k i : Nat) (m : Nat → Nat → Bool) : ∀ j a b, (¬ a = i ∨ j ≤ b) → wrow orB andB k i m j a b = m a b
  | 0, a, b, _ => rfl
  | j + 1, a, b, h => by
    show upm _ i j _ a b = m a b
    rw [upm_other _ _ (by omega)]
    exact wrow_other k i m j a b (by omega)
/-- where the place between leads to itself, a row is done as if at once -/
theorem wrow_eq {k i : Nat} {m : Nat → Nat → Bool} (hk : m k k = true) : ∀ j b, b < j → wrow orB andB k i m j i b = (m i b || (m i k && m k b))
  | j + 1, b, h => by
    show upm _ i j _ i b = _
    -- the row's own column k and row k stay as they are
    have hik : wrow orB andB k i m j i k = m i k := by
      rcases Nat.lt_or_ge k j with h' | h'
      · rw [wrow_eq hk j k h', hk]; cases m i k <;> rfl
      · exact wrow_other k i m j i k (.inr h')
    have hkb : ∀ b, j ≤ b → wrow orB andB k i m j k b = m k b := fun b hb => wrow_other k i m j k b (.inr hb)
    by_cases hb : b = j
    · subst hb
      rw [upm_same]
      show (wrow orB andB k i m b i b || (wrow orB andB k i m b i k && wrow orB andB k i m b k b)) = _
      rw [wrow_other k i m b i b (.inr (Nat.le_refl _)), hik, hkb b (Nat.le_refl _)]
    · rw [upm_other _ _ (by omega)]
      exact wrow_eq hk j b (by omega)
theorem wrow_kk {k i : Nat} {m : Nat → Nat → Bool} (hk : m k k = true) (j b : Nat) (n : Nat) : wrow orB andB k i m j k b = m k b := by
  by_cases hi : i = k
  · subst hi
    rcases Nat.lt_or_ge b j with h | h
    · rw [wrow_eq hk j b h, hk]; cases m i b <;> rfl
    · exact wrow_other _ _ m j _ b (.inr h)
  · exact wrow_other _ _ m j _ b (.inl (fun h => hi h.symm))
theorem wstage_k {n k : Nat} {m : Nat → Nat → Bool} (hk : m k k = true) : ∀ i b, wstage orB andB n k m i k b = m k b
  | 0, b => rfl
  | i + 1, b => by
    show wrow orB andB k i _ n k b = m k b
    rw [wrow_kk (by rw [wstage_k hk i k]; exact hk) n b n]
    exact wstage_k hk i b
theorem wstage_other {n k : Nat} {m : Nat → Nat → Bool} : ∀ i a b, i ≤ a → wstage orB andB n k m i a b = m a b
  | 0, a, b, _ => rfl
  | i + 1, a, b, h => by
    show wrow orB andB k i _ n a b = m a b
    have hne : ¬ a = i := by omega
    rw [wrow_other k i _ n a b (.inl hne)]
    exact wstage_other i a b (by omega)
theorem wstage_eq {n k : Nat} {m : Nat → Nat → Bool} (hk : m k k = true) : ∀ i a b, a < i → b < n → wstage orB andB n k m i a b = (m a b || (m a k && m k b))
  | i + 1, a, b, ha, hb => by
    show wrow orB andB k i _ n a b = _
    have hkk : wstage orB andB n k m i k k = true := by rw [wstage_k hk i k]; exact hk
    by_cases h : a = i
    · subst h
      rw [wrow_eq hkk n b hb, wstage_other a a b (Nat.le_refl _), wstage_other a a k (Nat.le_refl _), wstage_k hk a b]
    · rw [wrow_other k i _ n a b (.inl h)]
      exact wstage_eq hk i a b (by omega) hb
/-- all stages: reflexive, no less than the start, closed under what was between -/
theorem wall_says {n : Nat} {m : Nat → Nat → Bool} (hm : ∀ v, m v v = true) : ∀ k, k ≤ n → (∀ v, wall orB andB n m k v v = true) ∧ (∀ i j, m i j = true → wall orB andB n m k i j = true) ∧
    (∀ c, c < k → ∀ i j, i < n → j < n → wall orB andB n m k i c = true → wall orB andB n m k c j = true → wall orB andB n m k i j = true)
  | 0, _ => ⟨hm, fun _ _ h => h, fun c hc => absurd hc (Nat.not_lt_zero _)⟩
  | k + 1, hk => by
    obtain ⟨h1, h2, h3⟩ := wall_says (n := n) hm k (by omega)
    have eq : ∀ a b, a < n → b < n → wall orB andB n m (k + 1) a b = (wall orB andB n m k a b || (wall orB andB n m k a k && wall orB andB n m k k b)) := fun a b ha hb => wstage_eq (h1 k) n a b ha hb
    have out : ∀ a b, n ≤ a → wall orB andB n m (k + 1) a b = wall orB andB n m k a b := fun a b ha => wstage_other n a b ha
    have colk : ∀ a b, a < n → n ≤ b → wall orB andB n m (k + 1) a b = wall orB andB n m k a b := by
      intro a b ha hb
      have key : ∀ i, wstage orB andB n k (wall orB andB n m k) i a b = wall orB andB n m k a b := by
        intro i
        induction i with
        | zero => rfl
        | succ i ih =>
          show wrow orB andB k i _ n a b = _
          rw [wrow_other k i _ n a b (.inr hb)]
          exact ih
      exact key n
    have up : ∀ a b, wall orB andB n m k a b = true → wall orB andB n m (k + 1) a b = true := by
      intro a b h
      by_cases ha : a < n
      · by_cases hb : b < n
        · rw [eq a b ha hb, h]; rfl
        · rw [colk a b ha (by omega)]; exact h
      · rw [out a b (by omega)]; exact h
    refine ⟨fun v => up v v (h1 v), fun i j h => up i j (h2 i j h), fun c hc i j hi hj ha hb => ?_⟩
    have hcn : c < n := by omega
    rw [eq i c hi hcn] at ha
    rw [eq c j hcn hj] at hb
    rw [eq i j hi hj]
    simp only [Bool.or_eq_true, Bool.and_eq_true] at ha hb ⊢
    by_cases hck : c = k
    · subst hck
      rcases ha with ha | ha <;> rcases hb with hb | hb
      · exact .inr ⟨ha, hb⟩
      · exact .inr ⟨ha, hb.2⟩
      · exact .inr ⟨ha.1, hb⟩
      · exact .inr ⟨ha.1, hb.2⟩
    · have hlt : c < k := by omega
      rcases ha with ha | ha <;> rcases hb with hb | hb
      · exact .inl (h3 c hlt i j hi hj ha hb)
      · exact .inr ⟨h3 c hlt i k hi (by omega) ha hb.1, hb.2⟩
      · exact .inr ⟨ha.1, h3 c hlt k j (by omega) hj ha.2 hb⟩
      · exact .inr ⟨ha.1, hb.2⟩
theorem wall_sound {es : List NE} {is : NE → Bool} {n : Nat} {m : Nat → Nat → Bool} (hm : ∀ i j, m i j = true → Lead es is i j) : ∀ k i j, wall orB andB n m k i j = true → Lead es is i j
  | 0, i, j, h => hm i j h
  | k + 1, i, j, h => by
    have ih := wall_sound (n := n) hm k
    have row : ∀ (m' : Nat → Nat → Bool), (∀ i j, m' i j = true → Lead es is i j) → ∀ a c i j, wrow orB andB k a m' c i j = true → Lead es is i j := by
      intro m' hm' a c
      induction c with
      | zero => exact hm'
      | succ c ihc =>
        intro i j h
        by_cases hc : i = a ∧ j = c
        · obtain ⟨rfl, rfl⟩ := hc
          have h' : upm (wrow orB andB k i m' j) i j _ i j = true := h
          rw [upm_same] at h'
          simp only [Bool.or_eq_true, Bool.and_eq_true] at h'
          rcases h' with h' | h'
          · exact ihc i j h'
          · exact (ihc i k h'.1).trans (ihc k j h'.2)
        · have h' : upm (wrow orB andB k a m' c) a c _ i j = true := h
          rw [upm_other _ _ hc] at h'
          exact ihc i j h'
    have stage : ∀ c i j, wstage orB andB n k (wall orB andB n m k) c i j = true → Lead es is i j := by
      intro c
      induction c with
      | zero => exact ih
      | succ c ihc => intro i j h; exact row _ ihc c n i j h
    exact stage n i j h
theorem wstart_edges {is : NE → Bool} : ∀ (es : List NE) (m : Nat → Nat → Bool), (∀ i j, m i j = true → es.foldl (wedge orB is) m i j = true) ∧ (∀ e ∈ es, is e = true → es.foldl (wedge orB is) m e.u e.v = true)
  | [], m => ⟨fun _ _ h => h, fun e he => by cases he⟩
  | x :: r, m => by
    obtain ⟨h1, h2⟩ := wstart_edges (is := is) r (wedge orB is m x)
    have up : ∀ i j, m i j = true → wedge orB is m x i j = true := by
      intro i j h
      unfold wedge
      by_cases hc : i = x.u ∧ j = x.v
      · obtain ⟨rfl, rfl⟩ := hc; rw [upm_same, h]; rfl
      · rw [upm_other _ _ hc]; exact h
    refine ⟨fun i j h => h1 i j (up i j h), fun e he hi => ?_⟩
    rcases List.mem_cons.1 he with rfl | hm
    · refine h1 e.u e.v ?_
      unfold wedge
      rw [upm_same, hi]
      cases m e.u e.v <;> rfl
    · exact h2 e hm hi
theorem wstart_sound {E : List NE} {is : NE → Bool} : ∀ (es : List NE) (m : Nat → Nat → Bool), (∀ e ∈ es, e ∈ E) → (∀ i j, m i j = true → Lead E is i j) → ∀ i j, es.foldl (wedge orB is) m i j = true → Lead E is i j
  | [], m, _, h => h
  | x :: r, m, hE, h => by
    refine wstart_sound r (wedge orB is m x) (fun e he => hE e (List.mem_cons_of_mem _ he)) (fun i j hij => ?_)
    unfold wedge at hij
    by_cases hc : i = x.u ∧ j = x.v
    · obtain ⟨rfl, rfl⟩ := hc
      rw [upm_same] at hij
      simp only [Bool.or_eq_true] at hij
      rcases hij with hij | hij
      · exact h _ _ hij
      · exact Lead.step x (Lead.refl) (hE x (List.mem_cons_self ..)) hij
    · rw [upm_other _ _ hc] at hij; exact h i j hij
/-- Warshall: there is a walk -/
theorem wclosed_lead {es : List NE} {is : NE → Bool} {n : Nat} (hes : ∀ e ∈ es, e.u < n ∧ e.v < n) (i j : Nat) (hi : i < n) (hj : j < n) : wclosed orB andB false true is n es i j = true ↔ Lead es is i j := by
  have hs : ∀ v, es.foldl (wedge orB is) (wstart false true) v v = true := fun v => (wstart_edges es _).1 v v (by simp [wstart])
  obtain ⟨h1, h2, h3⟩ := wall_says hs n (Nat.le_refl n)
  constructor
  · refine wall_sound (fun a b h => wstart_sound es _ (fun _ h => h) (fun a b hab => ?_) a b h) n i j
    unfold wstart at hab
    split at hab
    · rename_i e; subst e; exact Lead.refl
    · cases hab
  · intro h
    have key : ∀ j, Lead es is i j → wclosed orB andB false true is n es i j = true := by
      intro j h
      induction h with
      | refl => exact h1 i
      | step e h he hie ih =>
        exact h3 e.u (hes e he).1 i e.v hi (hes e he).2 ih (h2 _ _ ((wstart_edges es _).2 e he hie))
    exact key j h

/-! a set that grows, round by round, edge by edge in place -/
def rstep (is : NE → Bool) (f : Nat → Bool) (e : NE) : Nat → Bool := if f e.u = true ∧ is e = true then upz f e.v true else f
def rround (es : List NE) (is : NE → Bool) (f : Nat → Bool) : Nat → Bool := es.foldl (rstep is) f
def rreach (es : List NE) (is : NE → Bool) (s : Nat → Bool) : Nat → (Nat → Bool) | 0 => s | t + 1 => rround es is (rreach es is s t)
theorem rstep_up (is : NE → Bool) (f : Nat → Bool) (e : NE) (v : Nat) (h : f v = true) : rstep is f e v = true := by
  unfold rstep
  split
  · by_cases hv : v = e.v
    · subst hv; exact upz_same _ _ _
    · rw [upz_other _ _ hv]; exact h
  · exact h
theorem rround_up (is : NE → Bool) : ∀ (es : List NE) (f : Nat → Bool) (v : Nat), f v = true → rround es is f v = true
  | [], f, v, h => h
  | e :: r, f, v, h => rround_up is r _ v (rstep_up is f e v h)
theorem rround_edge (is : NE → Bool) : ∀ (es : List NE) (f : Nat → Bool) (e : NE), e ∈ es → is e = true → f e.u = true → rround es is f e.v = true
  | x :: r, f, e, he, hi, hu => by
    rcases List.mem_cons.1 he with rfl | hm
    · refine rround_up is r _ e.v ?_
      unfold rstep
      rw [if_pos ⟨hu, hi⟩, upz_same]
    · exact rround_edge is r _ e hm hi (rstep_up is f x e.u hu)
theorem rround_still (is : NE → Bool) : ∀ (es : List NE) (f : Nat → Bool), (∀ e ∈ es, f e.u = true → is e = true → f e.v = true) → rround es is f = f
  | [], f, _ => rfl
  | e :: r, f, h => by
    have h1 : rstep is f e = f := by
      unfold rstep
      split
      · rename_i hc
        funext v
        by_cases hv : v = e.v
        · subst hv; rw [upz_same]; exact (h e (List.mem_cons_self ..) hc.1 hc.2).symm
        · exact upz_other _ _ hv
      · rfl
    show rround r is (rstep is f e) = f
    rw [h1]
    exact rround_still is r f (fun x hx => h x (List.mem_cons_of_mem _ hx))
theorem rround_sound {E : List NE} {is : NE → Bool} {from_ : Nat} : ∀ (es : List NE) (f : Nat → Bool), (∀ e ∈ es, e ∈ E) → (∀ v, f v = true → Lead E is from_ v) → ∀ v, rround es is f v = true → Lead E is from_ v
  | [], f, _, h => h
  | e :: r, f, hE, h => by
    refine rround_sound r (rstep is f e) (fun x hx => hE x (List.mem_cons_of_mem _ hx)) (fun v hv => ?_)
    unfold rstep at hv
    split at hv
    · rename_i hc
      by_cases he : v = e.v
      · subst he; exact Lead.step e (h _ hc.1) (hE e (List.mem_cons_self ..)) hc.2
      · rw [upz_other _ _ he] at hv; exact h v hv
    · exact h v hv
def only (v : Nat) : Nat → Bool := fun u => decide (u = v)
theorem rreach_lead {es : List NE} {is : NE → Bool} {n : Nat} (hes : ∀ e ∈ es, e.u < n ∧ e.v < n) (from_ : Nat) (hf : from_ < n) (v : Nat) (hv : v < n) : rreach es is (only from_) n v = true ↔ Lead es is from_ v := by
  have sound : ∀ t v, rreach es is (only from_) t v = true → Lead es is from_ v := by
    intro t
    induction t with
    | zero =>
      intro v h
      have : v = from_ := by simpa [rreach, only] using h
      subst this
      exact Lead.refl
    | succ t ih => exact rround_sound es _ (fun _ h => h) ih
  have up : ∀ t v, rreach es is (only from_) t v = true → rreach es is (only from_) (t + 1) v = true := fun t v h => rround_up is es _ v h
  have closed : ∀ t, (∀ u, u < n → rreach es is (only from_) (t + 1) u = true → rreach es is (only from_) t u = true) → ∀ e ∈ es, rreach es is (only from_) t e.u = true → is e = true → rreach es is (only from_) t e.v = true := by
    intro t h e he hu hi
    exact h e.v (hes e he).2 (rround_edge is es _ e he hi hu)
  have g := grow (n := n) (fun t v => rreach es is (only from_) t v) (fun t v _ h => up t v h)
    (fun t h u hu h2 => by
      have c := closed t h
      have e1 : rreach es is (only from_) (t + 1) = rreach es is (only from_) t := rround_still is es _ c
      have e2 : rreach es is (only from_) (t + 2) = rround es is (rreach es is (only from_) (t + 1)) := rfl
      rw [e2, e1, rround_still is es _ c] at h2
      rw [e1]; exact h2)
    ⟨from_, hf, by simp [rreach, only]⟩
  have cn := closed n (fun u hu h => g n (by omega) u hu h)
  have h0 : ∀ t, rreach es is (only from_) t from_ = true := by
    intro t
    induction t with
    | zero => simp [rreach, only]
    | succ t ih => exact up t _ ih
  constructor
  · exact sound n v
  · intro h
    have key : ∀ v, Lead es is from_ v → rreach es is (only from_) n v = true := by
      intro v h
      induction h with
      | refl => exact h0 n
      | step e h he hi ih => exact cn e he ih hi
    exact key v h
end Go.Proofs.Ytdpbkhempgghaaa
