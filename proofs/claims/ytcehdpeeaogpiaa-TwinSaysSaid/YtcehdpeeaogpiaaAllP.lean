/-
  From all to all by costs: Warshall with min and sums says what the rounds say, or shows a bad cycle. No program here.
-/
import Derived.Test.YtcehdpeeaogpiaaPlainB
namespace Go.Proofs.Ytcehdpeeaogpiaa
set_option linter.unusedVariables false

section
variable {α : Type} {or thn : α → α → α}
/-- the row and the column of the place between stay as they are -/
def Calm (or thn : α → α → α) (n k : Nat) (m : Nat → Nat → α) : Prop := (∀ i, i < n → or (m i k) (thn (m i k) (m k k)) = m i k) ∧ (∀ b, b < n → or (m k b) (thn (m k k) (m k b)) = m k b)
theorem grow_other (k i : Nat) (m : Nat → Nat → α) : ∀ j a b, (¬ a = i ∨ j ≤ b) → wrow or thn k i m j a b = m a b
  | 0, a, b, _ => rfl
  | j + 1, a, b, h => by
    show upm _ i j _ a b = m a b
    rw [upm_other _ _ (by omega)]
    exact grow_other k i m j a b (by omega)
theorem grow_eq {n k i : Nat} {m : Nat → Nat → α} (hc : Calm or thn n k m) (hi : i < n) (hk : k < n) : ∀ j b, j ≤ n → b < j → wrow or thn k i m j i b = or (m i b) (thn (m i k) (m k b))
  | j + 1, b, hj, h => by
    show upm _ i j _ i b = _
    have hik : wrow or thn k i m j i k = m i k := by
      rcases Nat.lt_or_ge k j with h' | h'
      · rw [grow_eq hc hi hk j k (by omega) h']; exact hc.1 i hi
      · exact grow_other k i m j i k (.inr h')
    by_cases hb : b = j
    · subst hb
      rw [upm_same]
      show or (wrow or thn k i m b i b) (thn (wrow or thn k i m b i k) (wrow or thn k i m b k b)) = _
      rw [grow_other k i m b i b (.inr (Nat.le_refl _)), hik, grow_other k i m b k b (.inr (Nat.le_refl _))]
    · rw [upm_other _ _ (by omega)]
      exact grow_eq hc hi hk j b (by omega) (by omega)
theorem grow_k {n k i : Nat} {m : Nat → Nat → α} (hc : Calm or thn n k m) (hi : i < n) (hk : k < n) (b : Nat) (hb : b < n) : wrow or thn k i m n k b = m k b := by
  by_cases h : i = k
  · subst h
    rw [grow_eq hc hi hk n b (Nat.le_refl _) hb]
    exact hc.2 b hb
  · exact grow_other k i m n k b (.inl (fun e => h e.symm))
theorem gcalm {n k i : Nat} {m : Nat → Nat → α} (hc : Calm or thn n k m) (hi : i < n) (hk : k < n) : Calm or thn n k (wrow or thn k i m n) := by
  have h1 : ∀ b, b < n → wrow or thn k i m n k b = m k b := grow_k hc hi hk
  have h2 : ∀ a, a < n → wrow or thn k i m n a k = m a k := by
    intro a ha
    by_cases e : a = i
    · subst e; rw [grow_eq hc hi hk n k (Nat.le_refl _) hk]; exact hc.1 a ha
    · exact grow_other k i m n a k (.inl e)
  exact ⟨fun a ha => by rw [h2 a ha, h1 k hk]; exact hc.1 a ha, fun b hb => by rw [h1 b hb, h1 k hk]; exact hc.2 b hb⟩
theorem gstage {n k : Nat} {m : Nat → Nat → α} (hc : Calm or thn n k m) (hk : k < n) : ∀ i, i ≤ n → Calm or thn n k (wstage or thn n k m i) ∧ (∀ b, b < n → wstage or thn n k m i k b = m k b) ∧
    (∀ a b, a < i → b < n → wstage or thn n k m i a b = or (m a b) (thn (m a k) (m k b))) ∧ (∀ a b, (i ≤ a ∨ n ≤ b) → wstage or thn n k m i a b = m a b)
  | 0, _ => ⟨hc, fun _ _ => rfl, fun a b h => absurd h (Nat.not_lt_zero _), fun _ _ _ => rfl⟩
  | i + 1, hi => by
    obtain ⟨h1, h2, h3, h4⟩ := gstage hc hk i (by omega)
    refine ⟨gcalm h1 (by omega) hk, fun b hb => ?_, fun a b ha hb => ?_, fun a b h => ?_⟩
    · show wrow or thn k i _ n k b = _
      rw [grow_k h1 (by omega) hk b hb]; exact h2 b hb
    · show wrow or thn k i _ n a b = _
      by_cases e : a = i
      · subst e
        rw [grow_eq h1 (by omega) hk n b (Nat.le_refl _) hb, h4 a b (.inl (Nat.le_refl _)), h4 a k (.inl (Nat.le_refl _)), h2 b hb]
      · rw [grow_other k i _ n a b (.inl e)]
        exact h3 a b (by omega) hb
    · show wrow or thn k i _ n a b = _
      have hne : ¬ a = i ∨ n ≤ b := by omega
      rw [grow_other k i _ n a b hne]
      exact h4 a b (by omega)
end

def thenA (a b : Int) : Int := if a = FAR ∨ b = FAR then FAR else max (-FAR) (a + b)
theorem thenA_right {a : Int} (h : a = FAR ∨ -FAR ≤ a) : thenA a 0 = a := by
  unfold thenA
  by_cases e : a = FAR
  · rw [if_pos (.inl e)]; exact e.symm
  · rw [if_neg (by simp only [FAR] at *; omega)]; omega
theorem thenA_left {a : Int} (h : a = FAR ∨ -FAR ≤ a) : thenA 0 a = a := by
  unfold thenA
  by_cases e : a = FAR
  · rw [if_pos (.inr e)]; exact e.symm
  · rw [if_neg (by simp only [FAR] at *; omega)]; omega
def stF (i : Nat) : Nat → Int := fun v => if v = i then 0 else FAR
def esk (es : List NE) (k i : Nat) : List NE := es.filter fun e => decide (e.u = i ∨ e.u < k)
theorem mem_esk {es : List NE} {k i : Nat} {e : NE} : e ∈ esk es k i ↔ e ∈ es ∧ (e.u = i ∨ e.u < k) := by simp [esk]
theorem esk_up {es : List NE} {k i : Nat} : ∀ e ∈ esk es k i, e ∈ esk es (k + 1) i := fun e he => by
  rw [mem_esk] at he ⊢
  exact ⟨he.1, by omega⟩
theorem esk_k {es : List NE} {k i : Nat} : ∀ e ∈ esk es k k, e ∈ esk es (k + 1) i := fun e he => by
  rw [mem_esk] at he ⊢
  exact ⟨he.1, by omega⟩
theorem stF_far (i : Nat) : ∀ v, stF i v ≤ FAR := by intro v; unfold stF; split <;> simp [FAR]
theorem stF_self (i : Nat) : stF i i = 0 := by simp [stF]
theorem stF_zero {i v : Nat} (h : stF i v < FAR) : v = i := by
  unfold stF at h
  split at h
  · assumption
  · omega
theorem at_es {es es' : List NE} (hs : ∀ e ∈ es, e ∈ es') {s : Nat → Int} {v : Nat} {x : Int} (h : At es s v x) : At es' s v x := by
  induction h with
  | base v h => exact At.base v h
  | step e x he h hx hy ih => exact At.step e x (hs e he) ih hx hy
/-- finite costs after some rounds are not great -/
def Up (K : Int) (f : Nat → Int) : Prop := ∀ v, f v = FAR ∨ f v ≤ K
theorem spread_up {es : List NE} {K : Int} {d : Nat → Int} (h : Up K d) (hc : ∀ e ∈ es, e.c ≤ 10000) (hK : K + 10000 * 64 < FAR) : ∀ t : Nat, t ≤ 64 → Up (K + 10000 * t) (spread es d t)
  | 0, _ => by intro v; have := h v; simp only [spread]; omega
  | t + 1, ht => by
    have ih := spread_up h hc hK t (by omega)
    have key : ∀ (l : List NE) (nx : Nat → Int), (∀ e ∈ l, e.c ≤ 10000) → Up (K + 10000 * t + 10000) nx → Up (K + 10000 * t + 10000) (l.foldl (spreadE (spread es d t)) nx) := by
      intro l
      induction l with
      | nil => intro nx _ h; exact h
      | cons e r ihl =>
        intro nx hl h
        refine ihl _ (fun x hx => hl x (List.mem_cons_of_mem _ hx)) (fun v => ?_)
        have hu := ih e.u
        have hv := h v
        have he := hl e (List.mem_cons_self ..)
        unfold spreadE
        split
        · by_cases e1 : v = e.v
          · subst e1
            rw [upz_same]
            right
            omega
          · rw [upz_other _ _ e1]; exact hv
        · exact hv
    have := key es (spread es d t) hc (fun v => by have := ih v; omega)
    intro v
    have h2 : spread es d (t + 1) v = es.foldl (spreadE (spread es d t)) (spread es d t) v := rfl
    have := this v
    omega

structure INV (n : Nat) (es : List NE) (k : Nat) (m : Nat → Nat → Int) : Prop where
  diag : ∀ i, i < n → m i i = 0
  feas : ∀ i, i < n → Feas (esk es k i) (m i)
  att : ∀ i, i < n → Att (esk es k i) (stF i) (m i)
section
variable {n : Nat} {es : List NE}
theorem esk_in (hes : ∀ e ∈ es, e.u < n ∧ e.v < n) (k i : Nat) : ∀ e ∈ esk es k i, e.u < n ∧ e.v < n := fun e he => hes e (mem_esk.1 he).1
theorem INV.bounds (hn1 : 1 ≤ n) (hn : n ≤ 64) (hes : ∀ e ∈ es, e.u < n ∧ e.v < n) (hc : ∀ e ∈ es, -10000 ≤ e.c ∧ e.c ≤ 10000) {k : Nat} {m : Nat → Nat → Int} (h : INV n es k m) (i v : Nat) (hi : i < n) (hv : v < n) : -640000 ≤ m i v ∧ (m i v = FAR ∨ m i v ≤ 640000) := by
  have h1 := spread_fix hn1 (esk_in hes k i) (stF_far i) (h.feas i hi) (h.att i hi) (n - 1) (by omega) v hv
  have h2 : Low 0 (stF i) := fun v => ⟨by unfold stF; split <;> simp [FAR], stF_far i v⟩
  have h3 : Up 0 (stF i) := fun v => by unfold stF; split <;> simp
  have h4 := spread_up (es := esk es k i) h3 (fun e he => (hc e (mem_esk.1 he).1).2) (by simp [FAR]) (n - 1) (by omega) v
  have h5 : -(0 + 10000 * ((n - 1 : Nat) : Int)) ≤ spread (esk es k i) (stF i) (n - 1) v := by
    have hl : ∀ t : Nat, ∀ v, -(10000 * (t : Int)) ≤ spread (esk es k i) (stF i) t v := by
      intro t
      induction t with
      | zero => intro v; simp only [spread]; have := (h2 v).1; omega
      | succ t ih =>
        have key : ∀ (l : List NE) (nx : Nat → Int), (∀ e ∈ l, -10000 ≤ e.c) → (∀ v, -(10000 * (t : Int) + 10000) ≤ nx v) → ∀ v, -(10000 * (t : Int) + 10000) ≤ l.foldl (spreadE (spread (esk es k i) (stF i) t)) nx v := by
          intro l
          induction l with
          | nil => intro nx _ h v; exact h v
          | cons e r ihl =>
            intro nx hl h
            refine ihl _ (fun x hx => hl x (List.mem_cons_of_mem _ hx)) (fun v => ?_)
            have hu := ih e.u
            have he := hl e (List.mem_cons_self ..)
            have hv := h v
            have hev := h e.v
            unfold spreadE
            split
            · by_cases e1 : v = e.v
              · subst e1; rw [upz_same]; omega
              · rw [upz_other _ _ e1]; exact hv
            · exact hv
        intro v
        have := key (esk es k i) (spread (esk es k i) (stF i) t) (fun e he => (hc e (mem_esk.1 he).1).1) (fun v => by have := ih v; omega) v
        have e1 : spread (esk es k i) (stF i) (t + 1) v = (esk es k i).foldl (spreadE (spread (esk es k i) (stF i) t)) (spread (esk es k i) (stF i) t) v := rfl
        omega
    have := hl (n - 1) v
    omega
  omega
theorem INV.calm (hn1 : 1 ≤ n) (hn : n ≤ 64) (hes : ∀ e ∈ es, e.u < n ∧ e.v < n) (hc : ∀ e ∈ es, -10000 ≤ e.c ∧ e.c ≤ 10000) {k : Nat} {m : Nat → Nat → Int} (h : INV n es k m) (hk : k < n) : Calm min thenA n k m := by
  have hd := h.diag k hk
  constructor
  · intro i hi
    have hb := h.bounds hn1 hn hes hc i k hi hk
    rw [hd, thenA_right (by simp only [FAR] at hb ⊢; omega)]
    omega
  · intro b hb
    have hb := h.bounds hn1 hn hes hc k b hk hb
    rw [hd, thenA_left (by simp only [FAR] at hb ⊢; omega)]
    omega
/-- one stage: the costs by one place more, or a place that leads to itself for less than nothing -/
theorem INV.step (hn1 : 1 ≤ n) (hn : n ≤ 64) (hes : ∀ e ∈ es, e.u < n ∧ e.v < n) (hc : ∀ e ∈ es, -10000 ≤ e.c ∧ e.c ≤ 10000) {k : Nat} {m : Nat → Nat → Int} (h : INV n es k m) (hk : k < n) :
    INV n es (k + 1) (wstage min thenA n k m n) ∨ ∃ i, i < n ∧ wstage min thenA n k m n i i < 0 ∧ ∃ x, x < 0 ∧ At es (stF i) i x := by
  obtain ⟨_, _, g3, g4⟩ := gstage (h.calm hn1 hn hes hc hk) hk n (Nat.le_refl _)
  have bd := h.bounds hn1 hn hes hc
  -- a walk to k, and one from k
  have cat : ∀ i, i < n → m i k < FAR → ∀ v y, At (esk es k k) (stF k) v y → v < n → y = m k v → At (esk es (k + 1) i) (stF i) v (m i k + y) := by
    intro i hi hx v y hy
    induction hy with
    | base v hv =>
      intro _ hyv
      have e := stF_zero hv
      subst e
      rw [stF_self]
      have := at_es (es' := esk es (v + 1) i) esk_up (((h.att i hi) v).2 hx)
      simpa using this
    | step e y he hy0 h1 h2 ih =>
      intro hv hyv
      have hin := hes e (mem_esk.1 he).1
      have lo := at_ge (h.feas k hk) (fun v => (h.att k hk v).1) hy0
      have fe := h.feas k hk e he (by omega)
      have hyu : y = m k e.u := by omega
      have b1 := bd k e.u hk hin.1
      have b2 := bd i k hi hk
      have b3 := hc e (mem_esk.1 he).1
      have := ih hin.1 hyu
      have hlt : m i k + y < FAR := by simp only [FAR] at *; omega
      have hlt2 : m i k + y + e.c < FAR := by simp only [FAR] at *; omega
      have h5 := At.step e _ (esk_k e he) this hlt hlt2
      rw [← Int.add_assoc]
      exact h5
  have newAt : ∀ i j, i < n → j < n → wstage min thenA n k m n i j < m i j → m i k < FAR ∧ m k j < FAR ∧ wstage min thenA n k m n i j = m i k + m k j ∧ At (esk es (k + 1) i) (stF i) j (wstage min thenA n k m n i j) := by
    intro i j hi hj hlt
    have e := g3 i j hi hj
    have b1 := bd i k hi hk
    have b2 := bd k j hk hj
    have b3 := bd i j hi hj
    have hfin : m i k < FAR ∧ m k j < FAR ∧ wstage min thenA n k m n i j = m i k + m k j := by
      rw [e] at hlt ⊢
      unfold thenA at hlt ⊢
      split at hlt
      · exfalso; simp only [FAR] at *; omega
      · rename_i hne
        rw [if_neg hne]
        simp only [FAR] at *
        omega
    refine ⟨hfin.1, hfin.2.1, hfin.2.2, ?_⟩
    rw [hfin.2.2]
    exact cat i hi hfin.1 j _ ((h.att k hk j).2 hfin.2.1) hj rfl
  by_cases hneg : ∃ i, i < n ∧ wstage min thenA n k m n i i < 0
  · obtain ⟨i, hi, hlt⟩ := hneg
    refine .inr ⟨i, hi, hlt, _, hlt, ?_⟩
    have hd := h.diag i hi
    exact at_es (fun e he => (mem_esk.1 he).1) (newAt i i hi hi (by omega)).2.2.2
  · left
    have hle : ∀ i j, i < n → j < n → wstage min thenA n k m n i j ≤ m i j := by intro i j hi hj; rw [g3 i j hi hj]; omega
    have hdg : ∀ i, i < n → wstage min thenA n k m n i i = 0 := by
      intro i hi
      have h1 := hle i i hi hi
      have h2 := h.diag i hi
      have h3 : ¬ wstage min thenA n k m n i i < 0 := fun hh => hneg ⟨i, hi, hh⟩
      omega
    have via : ∀ i j, i < n → j < n → m i k < FAR → m k j < FAR → wstage min thenA n k m n i j ≤ m i k + m k j := by
      intro i j hi hj h1 h2
      have b1 := bd i k hi hk
      have b2 := bd k j hk hj
      rw [g3 i j hi hj]
      unfold thenA
      split
      · simp only [FAR] at *; omega
      · simp only [FAR] at *; omega
    refine ⟨hdg, fun i hi e he hu => ?_, fun i hi v => ?_⟩
    · rw [mem_esk] at he
      obtain ⟨hmem, hwho⟩ := he
      have hin := hes e hmem
      have hce := hc e hmem
      have b1 := bd i e.u hi hin.1
      have b2 := bd i k hi hk
      have b3 := bd k e.u hk hin.1
      have b4 := bd k e.v hk hin.2
      have l1 := hle i e.v hi hin.2
      by_cases hlt : wstage min thenA n k m n i e.u < m i e.u
      · obtain ⟨f1, f2, f3, _⟩ := newAt i e.u hi hin.1 hlt
        by_cases hik : e.u = k ∨ e.u < k
        · have := h.feas k hk e (mem_esk.2 ⟨hmem, hik⟩) f2
          have hv : m k e.v < FAR := by simp only [FAR] at *; omega
          have := via i e.v hi hin.2 f1 hv
          omega
        · have hui : e.u = i := by omega
          rw [hui] at hlt f3
          have := hdg i hi
          have := h.diag i hi
          omega
      · have heq : wstage min thenA n k m n i e.u = m i e.u := by have := hle i e.u hi hin.1; omega
        rw [heq] at hu ⊢
        by_cases hik : e.u = i ∨ e.u < k
        · have := h.feas i hi e (mem_esk.2 ⟨hmem, hik⟩) hu
          omega
        · have huk : e.u = k := by omega
          have h7 := h.feas k hk e (mem_esk.2 ⟨hmem, .inl huk⟩) (by rw [huk, h.diag k hk]; simp [FAR])
          have hd := h.diag k hk
          rw [huk] at h7 hu ⊢
          have hv : m k e.v < FAR := by simp only [FAR] at *; omega
          have := via i e.v hi hin.2 hu hv
          omega
    · by_cases hv : v < n
      · have l1 := hle i v hi hv
        refine ⟨Int.le_trans l1 (h.att i hi v).1, fun hlt => ?_⟩
        by_cases h5 : wstage min thenA n k m n i v < m i v
        · exact (newAt i v hi hv h5).2.2.2
        · have heq : wstage min thenA n k m n i v = m i v := by omega
          rw [heq] at hlt ⊢
          exact at_es esk_up ((h.att i hi v).2 hlt)
      · rw [g4 i v (.inr (by omega))]
        exact ⟨(h.att i hi v).1, fun hlt => at_es esk_up ((h.att i hi v).2 hlt)⟩
/-- the start: the edges alone -/
theorem INV.start (hes : ∀ e ∈ es, e.u < n ∧ e.v < n) (hc : ∀ e ∈ es, -10000 ≤ e.c ∧ e.c ≤ 10000) :
    INV n es 0 (es.foldl (wedge min (fun e => e.c)) (wstart FAR 0)) ∨ ∃ i, i < n ∧ es.foldl (wedge min (fun e => e.c)) (wstart FAR 0) i i < 0 ∧ ∃ x, x < 0 ∧ At es (stF i) i x := by
  have key : ∀ (l : List NE) (m : Nat → Nat → Int), (∀ e ∈ l, e ∈ es) → (∀ i v, m i v ≤ stF i v ∧ (m i v < FAR → At (esk es 0 i) (stF i) v (m i v))) →
      (∀ i v, l.foldl (wedge min (fun e => e.c)) m i v ≤ m i v ∧ (l.foldl (wedge min (fun e => e.c)) m i v < FAR → At (esk es 0 i) (stF i) v (l.foldl (wedge min (fun e => e.c)) m i v))) ∧ ∀ e ∈ l, l.foldl (wedge min (fun e => e.c)) m e.u e.v ≤ e.c := by
    intro l
    induction l with
    | nil => intro m _ h; exact ⟨fun i v => ⟨Int.le_refl _, (h i v).2⟩, fun e he => by cases he⟩
    | cons x r ih =>
      intro m hl h
      have hx := hl x (List.mem_cons_self ..)
      have hcx := hc x hx
      have hm' : ∀ i v, wedge min (fun e => e.c) m x i v ≤ m i v ∧ (wedge min (fun e => e.c) m x i v < FAR → At (esk es 0 i) (stF i) v (wedge min (fun e => e.c) m x i v)) := by
        intro i v
        unfold wedge
        by_cases hh : i = x.u ∧ v = x.v
        · obtain ⟨rfl, rfl⟩ := hh
          rw [upm_same]
          refine ⟨by omega, fun hlt => ?_⟩
          rcases Int.le_total (m x.u x.v) x.c with h1 | h1
          · rw [Int.min_eq_left h1] at hlt ⊢
            exact (h x.u x.v).2 hlt
          · rw [Int.min_eq_right h1] at hlt ⊢
            have hb : At (esk es 0 x.u) (stF x.u) x.u 0 := by
              have := At.base (es := esk es 0 x.u) (s := stF x.u) x.u (by rw [stF_self]; simp [FAR])
              rwa [stF_self] at this
            have := At.step x 0 (mem_esk.2 ⟨hx, .inl rfl⟩) hb (by simp [FAR]) (by rw [Int.zero_add]; exact hlt)
            rwa [Int.zero_add] at this
        · rw [upm_other _ _ hh]
          exact ⟨Int.le_refl _, (h i v).2⟩
      obtain ⟨h1, h2⟩ := ih (wedge min (fun e => e.c) m x) (fun e he => hl e (List.mem_cons_of_mem _ he)) (fun i v => ⟨Int.le_trans (hm' i v).1 (h i v).1, (hm' i v).2⟩)
      refine ⟨fun i v => ⟨Int.le_trans (h1 i v).1 (hm' i v).1, (h1 i v).2⟩, fun e he => ?_⟩
      rcases List.mem_cons.1 he with rfl | he
      · refine Int.le_trans (h1 e.u e.v).1 ?_
        unfold wedge
        rw [upm_same]
        show min (m e.u e.v) e.c ≤ e.c
        omega
      · exact h2 e he
  have h0 : ∀ i v, wstart FAR 0 i v = stF i v := by
    intro i v
    unfold wstart stF
    by_cases e : i = v
    · subst e; simp
    · rw [if_neg e, if_neg (fun h => e h.symm)]
  obtain ⟨h1, h2⟩ := key es (wstart FAR 0) (fun _ h => h) (fun i v => by
    rw [h0]
    exact ⟨Int.le_refl _, fun hlt => At.base v hlt⟩)
  by_cases hneg : ∃ i, i < n ∧ es.foldl (wedge min (fun e => e.c)) (wstart FAR 0) i i < 0
  · obtain ⟨i, hi, hlt⟩ := hneg
    exact .inr ⟨i, hi, hlt, _, hlt, at_es (fun e he => (mem_esk.1 he).1) ((h1 i i).2 (Int.lt_trans hlt (by simp [FAR])))⟩
  · left
    have hd : ∀ i, i < n → es.foldl (wedge min (fun e => e.c)) (wstart FAR 0) i i = 0 := by
      intro i hi
      have h3 := (h1 i i).1
      rw [h0, stF_self] at h3
      have h4 : ¬ es.foldl (wedge min (fun e => e.c)) (wstart FAR 0) i i < 0 := fun h => hneg ⟨i, hi, h⟩
      omega
    refine ⟨hd, fun i hi e he hu => ?_, fun i hi v => ⟨by have := (h1 i v).1; rw [h0] at this; exact this, (h1 i v).2⟩⟩
    rw [mem_esk] at he
    obtain ⟨hm, hw⟩ := he
    have hui : e.u = i := by omega
    have h3 := h2 e hm
    rw [hui] at h3 ⊢
    rw [hd i hi]
    omega
theorem wstage_le (thn : Int → Int → Int) (n k : Nat) (m : Nat → Nat → Int) : ∀ i a b, wstage min thn n k m i a b ≤ m a b := by
  have cell : ∀ (m : Nat → Nat → Int) i j a b, wcell min thn k i m j a b ≤ m a b := by
    intro m i j a b
    unfold wcell
    by_cases h : a = i ∧ b = j
    · obtain ⟨rfl, rfl⟩ := h; rw [upm_same]; omega
    · rw [upm_other _ _ h]; exact Int.le_refl _
  have row : ∀ (m : Nat → Nat → Int) i j a b, wrow min thn k i m j a b ≤ m a b := by
    intro m i j
    induction j with
    | zero => intro a b; exact Int.le_refl _
    | succ j ih => intro a b; exact Int.le_trans (cell _ i j a b) (ih a b)
  intro i
  induction i with
  | zero => intro a b; exact Int.le_refl _
  | succ i ih => intro a b; exact Int.le_trans (row _ i n a b) (ih a b)
theorem wall_inv (hn1 : 1 ≤ n) (hn : n ≤ 64) (hes : ∀ e ∈ es, e.u < n ∧ e.v < n) (hc : ∀ e ∈ es, -10000 ≤ e.c ∧ e.c ≤ 10000) : ∀ k, k ≤ n →
    (INV n es k (wall min thenA n (es.foldl (wedge min (fun e => e.c)) (wstart FAR 0)) k) ∨ ∃ i, i < n ∧ wall min thenA n (es.foldl (wedge min (fun e => e.c)) (wstart FAR 0)) k i i < 0 ∧ ∃ x, x < 0 ∧ At es (stF i) i x)
  | 0, _ => INV.start hes hc
  | k + 1, hk => by
    rcases wall_inv hn1 hn hes hc k (by omega) with h | ⟨i, hi, h1, h2⟩
    · exact h.step hn1 hn hes hc (by omega)
    · exact .inr ⟨i, hi, Int.lt_of_le_of_lt (wstage_le thenA n k _ n i i) h1, h2⟩
def allTab (n : Nat) (es : List NE) : Nat → Nat → Int := wclosed min thenA FAR 0 (fun e => e.c) n es
/-- Floyd's table says all -/
theorem all_says (hn1 : 1 ≤ n) (hn : n ≤ 64) (hes : ∀ e ∈ es, e.u < n ∧ e.v < n) (hc : ∀ e ∈ es, -10000 ≤ e.c ∧ e.c ≤ 10000) :
    ((∃ i, i < n ∧ allTab n es i i < 0) ∧ ¬ ∀ v, v < n → spread es (fun _ => 0) (n - 1) v = spread es (fun _ => 0) n v) ∨
    ((∀ i, i < n → ¬ allTab n es i i < 0) ∧ (∀ v, v < n → spread es (fun _ => 0) (n - 1) v = spread es (fun _ => 0) n v) ∧ ∀ i v, i < n → v < n → allTab n es i v = spread es (stF i) (n - 1) v) := by
  rcases wall_inv hn1 hn hes hc n (Nat.le_refl _) with h | ⟨i, hi, h1, x, hx, h2⟩
  · right
    have full : ∀ i, ∀ e, e ∈ es ↔ e ∈ esk es n i := fun i e => ⟨fun he => mem_esk.2 ⟨he, .inr (hes e he).1⟩, fun he => (mem_esk.1 he).1⟩
    have feas : ∀ i, i < n → Feas es (allTab n es i) := fun i hi e he hu => h.feas i hi e ((full i e).1 he) hu
    have att : ∀ i, i < n → Att es (stF i) (allTab n es i) := fun i hi v => ⟨(h.att i hi v).1, fun hlt => at_es (fun e he => (full i e).2 he) ((h.att i hi v).2 hlt)⟩
    refine ⟨fun i hi hlt => ?_, ?_, fun i v hi hv => (spread_fix hn1 hes (stF_far i) (feas i hi) (att i hi) (n - 1) (by omega) v hv).symm⟩
    · have := h.diag i hi
      have e : allTab n es i i = wall min thenA n (es.foldl (wedge min (fun e => e.c)) (wstart FAR 0)) n i i := rfl
      omega
    · -- the least over all starts is undercut by no edge
      have low : ∀ (l : List Nat) (a : Int) (v : Nat), (l.foldl (fun a i => min a (allTab n es i v)) a ≤ a ∧ ∀ i ∈ l, l.foldl (fun a i => min a (allTab n es i v)) a ≤ allTab n es i v) ∧ (l.foldl (fun a i => min a (allTab n es i v)) a = a ∨ ∃ i ∈ l, l.foldl (fun a i => min a (allTab n es i v)) a = allTab n es i v) := by
        intro l
        induction l with
        | nil => intro a v; exact ⟨⟨Int.le_refl _, fun i hi => by cases hi⟩, .inl rfl⟩
        | cons x r ih =>
          intro a v
          obtain ⟨⟨h1, h2⟩, h3⟩ := ih (min a (allTab n es x v)) v
          show (r.foldl _ (min a (allTab n es x v)) ≤ a ∧ ∀ i ∈ x :: r, r.foldl _ (min a (allTab n es x v)) ≤ allTab n es i v) ∧ (r.foldl _ (min a (allTab n es x v)) = a ∨ ∃ i ∈ x :: r, r.foldl _ (min a (allTab n es x v)) = allTab n es i v)
          refine ⟨⟨by omega, fun i hi => ?_⟩, ?_⟩
          · rcases List.mem_cons.1 hi with rfl | hi
            · omega
            · exact h2 i hi
          · rcases h3 with h3 | ⟨i, hi, h3⟩
            · rcases Int.le_total a (allTab n es x v) with hh | hh
              · left; omega
              · right; exact ⟨x, List.mem_cons_self .., by omega⟩
            · right; exact ⟨i, List.mem_cons_of_mem _ hi, h3⟩
      let f : Nat → Int := fun v => (List.range n).foldl (fun a i => min a (allTab n es i v)) 0
      have f0 : ∀ v, f v ≤ 0 := fun v => (low (List.range n) 0 v).1.1
      have f1 : ∀ i v, i < n → f v ≤ allTab n es i v := fun i v hi => (low (List.range n) 0 v).1.2 i (List.mem_range.2 hi)
      have f2 : ∀ v, f v = 0 ∨ ∃ i, i < n ∧ f v = allTab n es i v := fun v => by
        rcases (low (List.range n) 0 v).2 with h | ⟨i, hi, h⟩
        · exact .inl h
        · exact .inr ⟨i, List.mem_range.1 hi, h⟩
      have hdg : ∀ i, i < n → allTab n es i i = 0 := fun i hi => h.diag i hi
      have ff : Feas es f := by
        intro e he hu
        have hin := hes e he
        rcases f2 e.u with h5 | ⟨i, hi, h5⟩
        · have h6 := feas e.u hin.1 e he (by rw [hdg _ hin.1]; simp [FAR])
          have h7 := f1 e.u e.v hin.1
          rw [hdg _ hin.1] at h6
          omega
        · have h6 := feas i hi e he (by omega)
          have h7 := f1 i e.v hi
          omega
      have up0 : ∀ i v x, At es (stF i) v x → At es (fun _ => 0) v x := by
        intro i v x hx
        induction hx with
        | base v hv =>
          have e := stF_zero hv
          subst e
          rw [stF_self]
          exact At.base v (by simp [FAR])
        | step e x he h0 h1 h2 ih => exact At.step e x he ih h1 h2
      have fa : Att es (fun _ => 0) f := by
        intro v
        refine ⟨f0 v, fun hlt => ?_⟩
        rcases f2 v with h5 | ⟨i, hi, h5⟩
        · rw [h5]; exact At.base v (by simp [FAR])
        · rw [h5]
          exact up0 i v _ ((att i hi v).2 (by have := f0 v; simp only [FAR]; omega))
      intro v hv
      rw [spread_fix hn1 hes (fun v => by simp [FAR]) ff fa (n - 1) (by omega) v hv, spread_fix hn1 hes (fun v => by simp [FAR]) ff fa n (by omega) v hv]
  · left
    refine ⟨⟨i, hi, h1⟩, fun hst => ?_⟩
    have hf : Feas es (fun v => spread es (fun _ => 0) (n - 1) v) := by
      intro e he hu
      have h3 := spread1_edge es (spread es (fun _ => 0) (n - 1)) e he hu
      have h4 := hst e.v (hes e he).2
      have h5 : spread es (fun _ => 0) n e.v = spread1 es (spread es (fun _ => 0) (n - 1)) e.v := by
        obtain ⟨m, rfl⟩ : ∃ m, n = m + 1 := ⟨n - 1, by omega⟩
        rfl
      show spread es (fun _ => 0) (n - 1) e.v ≤ spread es (fun _ => 0) (n - 1) e.u + e.c
      omega
    have le0 : ∀ v, spread es (fun _ => 0) (n - 1) v ≤ 0 := fun v => spread_le es (fun _ => 0) (n - 1) v
    have key : ∀ v x, At es (stF i) v x → spread es (fun _ => 0) (n - 1) v ≤ spread es (fun _ => 0) (n - 1) i + x := by
      intro v x hx
      induction hx with
      | base v hv =>
        have e := stF_zero hv
        subst e
        rw [stF_self]
        omega
      | step e x he h0 h1 h2 ih =>
        have h3 := hf e he (by have := le0 e.u; simp only [FAR]; omega)
        have h4 : spread es (fun _ => 0) (n - 1) e.v ≤ spread es (fun _ => 0) (n - 1) e.u + e.c := h3
        omega
    have := key i x h2
    omega
end
end Go.Proofs.Ytcehdpeeaogpiaa
