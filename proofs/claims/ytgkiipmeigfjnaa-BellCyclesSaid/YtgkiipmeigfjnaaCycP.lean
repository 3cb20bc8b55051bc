/-
  Where each cost came from: a way back that comes to itself costs less than nothing; a cost that gave way in the last round lies behind such a way. No program here.
-/
import Derived.Test.YtgkiipmeigfjnaaLI
namespace Go.Proofs.Ytgkiipmeigfjnaa
set_option linter.unusedVariables false

def pk (p : Nat → Int) (x : Nat) : Nat := (p x).toNat
/-- k steps back -/
def itb (p : Nat → Int) : Nat → Nat → Nat | 0, x => x | k + 1, x => pk p (itb p k x)
/-- what they cost -/
def wtb (E : Nat → Nat → Int) (p : Nat → Int) : Nat → Nat → Int | 0, _ => 0 | k + 1, x => wtb E p k x + E (itb p (k + 1) x) (itb p k x)
def Okb (p : Nat → Int) (k x : Nat) : Prop := ∀ i, i < k → 0 ≤ p (itb p i x)
/-- each cost is as much as where it came from, and an edge; a way back that comes to itself costs less than nothing -/
structure CInv (EL : List NE) (E : Nat → Nat → Int) (s : BS) : Prop where
  low : ∀ x, s.d x ≤ 0
  edge : ∀ x, 0 ≤ s.p x → (∃ e ∈ EL, e.u = pk s.p x ∧ e.v = x) ∧ s.d (pk s.p x) + E (pk s.p x) x ≤ s.d x
  neg : ∀ k x, 0 < k → Okb s.p k x → itb s.p k x = x → wtb E s.p k x < 0
theorem pk_new (p : Nat → Int) (v u : Nat) : pk (upz p v (u : Int)) v = u := by simp [pk, upz_same]
theorem pk_old (p : Nat → Int) {v x : Nat} (y : Int) (h : x ≠ v) : pk (upz p v y) x = pk p x := by simp [pk, upz_other _ _ h]
/-- the steps back in the new state, counted in the old costs -/
theorem tele {EL : List NE} {E : Nat → Nat → Int} {s : BS} (hI : CInv EL E s) {u v : Nat} (hs : s.d u + E u v < s.d v) (x : Nat) : ∀ k, Okb (upz s.p v (u : Int)) k x →
    s.d (itb (upz s.p v (u : Int)) k x) + wtb E (upz s.p v (u : Int)) k x ≤ s.d x ∧ ((∃ i, i < k ∧ itb (upz s.p v (u : Int)) i x = v) → s.d (itb (upz s.p v (u : Int)) k x) + wtb E (upz s.p v (u : Int)) k x < s.d x)
  | 0, _ => ⟨by simp [itb, wtb], fun ⟨i, hi, _⟩ => by omega⟩
  | k + 1, hk => by
    obtain ⟨h1, h2⟩ := tele hI hs x k (fun i hi => hk i (by omega))
    have hp := hk k (by omega)
    simp only [itb, wtb]
    generalize hz : itb (upz s.p v (u : Int)) k x = z at *
    by_cases hzv : z = v
    · subst hzv
      rw [pk_new]
      exact ⟨by omega, fun _ => by omega⟩
    · rw [pk_old _ _ hzv]
      rw [upz_other _ _ hzv] at hp
      have he := (hI.edge z hp).2
      refine ⟨by omega, fun ⟨i, hi, hiv⟩ => ?_⟩
      have : i < k := by
        rcases Nat.lt_or_ge i k with h | h
        · exact h
        · have : i = k := by omega
          subst this
          rw [hz] at hiv
          exact absurd hiv hzv
      have := h2 ⟨i, this, hiv⟩
      omega
/-- where v is not met, the steps are the old ones -/
theorem same_back {E : Nat → Nat → Int} {p : Nat → Int} {v : Nat} {y : Int} (x : Nat) : ∀ k, (∀ i, i < k → itb (upz p v y) i x ≠ v) → itb (upz p v y) k x = itb p k x ∧ wtb E (upz p v y) k x = wtb E p k x
  | 0, _ => ⟨rfl, rfl⟩
  | k + 1, h => by
    obtain ⟨h1, h2⟩ := same_back (E := E) x k (fun i hi => h i (by omega))
    have hv := h k (by omega)
    have e : pk (upz p v y) (itb (upz p v y) k x) = pk p (itb p k x) := by rw [pk_old _ _ hv, h1]
    simp only [itb, wtb]
    rw [e, h1, h2]
    exact ⟨rfl, rfl⟩
theorem CInv.step {EL : List NE} {E : Nat → Nat → Int} {s : BS} (hE : ∀ e ∈ EL, E e.u e.v ≤ e.c) (hI : CInv EL E s) {e : NE} (he : e ∈ EL) : CInv EL E (bstep s e) := by
  unfold bstep
  by_cases hq : s.d e.u < FAR ∧ s.d e.u + e.c < s.d e.v
  · rw [if_pos hq]
    have hc := hE e he
    have hs : s.d e.u + E e.u e.v < s.d e.v := by omega
    have hdle : ∀ x, upz s.d e.v (s.d e.u + e.c) x ≤ s.d x := fun x => by
      by_cases h : x = e.v
      · subst h; rw [upz_same]; omega
      · rw [upz_other _ _ h]; exact Int.le_refl _
    refine ⟨fun x => Int.le_trans (hdle x) (hI.low x), fun x hx => ?_, fun k x hk hok hcy => ?_⟩
    · by_cases h : x = e.v
      · subst h
        rw [pk_new]
        refine ⟨⟨e, he, rfl, rfl⟩, ?_⟩
        simp only
        have := hdle e.u
        rw [upz_same]
        by_cases huv : e.u = e.v
        · rw [huv, upz_same]
          rw [huv] at hq hc
          omega
        · rw [upz_other _ _ huv]; omega
      · simp only at hx ⊢
        rw [upz_other _ _ h] at hx
        rw [pk_old _ _ h]
        obtain ⟨h1, h2⟩ := hI.edge x hx
        refine ⟨h1, ?_⟩
        rw [upz_other _ _ h]
        have := hdle (pk s.p x)
        omega
    · obtain ⟨h1, h2⟩ := tele hI hs x k hok
      simp only at hok hcy ⊢
      rw [hcy] at h1 h2
      by_cases hv : ∃ i, i < k ∧ itb (upz s.p e.v (e.u : Int)) i x = e.v
      · have := h2 hv; omega
      · have hn : ∀ i, i < k → itb (upz s.p e.v (e.u : Int)) i x ≠ e.v := fun i hi h => hv ⟨i, hi, h⟩
        obtain ⟨h3, h4⟩ := same_back (E := E) x k hn
        rw [h4]
        refine hI.neg k x hk (fun i hi => ?_) (by rw [← h3]; exact hcy)
        have := hok i hi
        rw [upz_other _ _ (hn i hi)] at this
        rwa [(same_back (E := E) x i (fun j hj => hn j (by omega))).1] at this
  · rw [if_neg hq]; exact hI
theorem CInv.fold {EL : List NE} {E : Nat → Nat → Int} (hE : ∀ e ∈ EL, E e.u e.v ≤ e.c) : ∀ (r : List NE) (s : BS), (∀ e ∈ r, e ∈ EL) → CInv EL E s → CInv EL E (r.foldl bstep s)
  | [], s, _, h => h
  | e :: r, s, hr, h => CInv.fold hE r _ (fun x hx => hr x (List.mem_cons_of_mem _ hx)) (h.step hE (hr e (List.mem_cons_self ..)))
theorem CInv.round {EL : List NE} {E : Nat → Nat → Int} (hE : ∀ e ∈ EL, E e.u e.v ≤ e.c) {s : BS} (h : CInv EL E s) : CInv EL E (bround EL s) := CInv.fold hE EL _ (fun e he => he) ⟨h.low, h.edge, h.neg⟩
theorem CInv.relax {EL : List NE} {E : Nat → Nat → Int} (hE : ∀ e ∈ EL, E e.u e.v ≤ e.c) : ∀ (m : Nat) (s : BS), CInv EL E s → CInv EL E (brelax EL m s)
  | 0, s, h => h
  | m + 1, s, h => by
    unfold brelax
    split
    · exact h.round hE
    · exact CInv.relax hE m _ (h.round hE)
theorem CInv.start (EL : List NE) (E : Nat → Nat → Int) : CInv EL E ⟨fun _ => 0, fun _ => -1, -1⟩ :=
  ⟨fun x => Int.le_refl _, fun x h => by simp at h, fun k x hk hok _ => by have := hok 0 hk; simp at this⟩

/-! the rounds in which costs gave way -/
/-- round t, the edges of rest still to do: r tells the last round in which each gave way -/
structure RI (t : Nat) (done rest : List NE) (r : Nat → Nat) (s : BS) : Prop where
  le : ∀ x, r x ≤ t
  has : ∀ x, 1 ≤ r x → 0 ≤ s.p x
  back : ∀ x, 0 ≤ s.p x → r x ≤ r (pk s.p x) + 1
  dn : ∀ e ∈ done, s.d e.v ≤ s.d e.u + e.c ∨ r e.u = t
  rs : ∀ e ∈ rest, s.d e.v ≤ s.d e.u + e.c ∨ t ≤ r e.u + 1
  last : 0 ≤ s.last → r s.last.toNat = t
  far : ∀ x, s.d x ≤ 0
theorem RI.step {t : Nat} {done rest : List NE} {e : NE} {r : Nat → Nat} {s : BS} (h : RI t done (e :: rest) r s) : ∃ r', RI t (done ++ [e]) rest r' (bstep s e) := by
  have hF := h.far e.u
  unfold bstep
  by_cases hq : s.d e.u < FAR ∧ s.d e.u + e.c < s.d e.v
  · rw [if_pos hq]
    refine ⟨upz r e.v t, ?_⟩
    have hr : ∀ x, r x ≤ upz r e.v t x := fun x => by
      by_cases hx : x = e.v
      · subst hx; rw [upz_same]; exact h.le _
      · rw [upz_other _ _ hx]; exact Nat.le_refl _
    have hd : ∀ x, upz s.d e.v (s.d e.u + e.c) x ≤ s.d x := fun x => by
      by_cases hx : x = e.v
      · subst hx; rw [upz_same]; omega
      · rw [upz_other _ _ hx]; exact Int.le_refl _
    have hru : t ≤ r e.u + 1 := by
      rcases h.rs e (List.mem_cons_self ..) with h1 | h1
      · omega
      · exact h1
    have old : ∀ f : NE, f.u ≠ e.v → (s.d f.v ≤ s.d f.u + f.c → upz s.d e.v (s.d e.u + e.c) f.v ≤ upz s.d e.v (s.d e.u + e.c) f.u + f.c) := fun f hu h1 => by
      rw [upz_other _ _ hu]
      have := hd f.v
      omega
    constructor
    · intro x
      by_cases hx : x = e.v
      · subst hx; rw [upz_same]; exact Nat.le_refl _
      · rw [upz_other _ _ hx]; exact h.le x
    · intro x hx1
      by_cases hx : x = e.v
      · subst hx; simp only [upz_same]; omega
      · simp only [upz_other _ _ hx] at hx1 ⊢
        exact h.has x hx1
    · intro x hx1
      by_cases hx : x = e.v
      · subst hx
        simp only [pk_new, upz_same]
        have := hr e.u
        omega
      · simp only [upz_other _ _ hx, pk_old _ _ hx] at hx1 ⊢
        have := h.back x hx1
        have := hr (pk s.p x)
        omega
    · intro f hf
      simp only
      by_cases hu : f.u = e.v
      · right; rw [hu, upz_same]
      · rcases List.mem_append.1 hf with hf | hf
        · rcases h.dn f hf with h1 | h1
          · exact .inl (old f hu h1)
          · right; rw [upz_other _ _ hu]; exact h1
        · obtain rfl := List.mem_singleton.1 hf
          left
          rw [upz_same, upz_other _ _ hu]
          exact Int.le_refl _
    · intro f hf
      simp only
      by_cases hu : f.u = e.v
      · right; rw [hu, upz_same]; omega
      · rcases h.rs f (List.mem_cons_of_mem _ hf) with h1 | h1
        · exact .inl (old f hu h1)
        · right; have := hr f.u; omega
    · intro _
      simp [upz_same]
    · intro x
      exact Int.le_trans (hd x) (h.far x)
  · rw [if_neg hq]
    refine ⟨r, h.le, h.has, h.back, fun f hf => ?_, fun f hf => h.rs f (List.mem_cons_of_mem _ hf), h.last, h.far⟩
    rcases List.mem_append.1 hf with hf | hf
    · exact h.dn f hf
    · obtain rfl := List.mem_singleton.1 hf
      left
      unfold FAR at hq
      omega
theorem RI.fold {t : Nat} : ∀ (rest done : List NE) (r : Nat → Nat) (s : BS), RI t done rest r s → ∃ r', RI t (done ++ rest) [] r' (rest.foldl bstep s)
  | [], done, r, s, h => ⟨r, by simpa using h⟩
  | e :: rest, done, r, s, h => by
    obtain ⟨r', h'⟩ := h.step
    have := RI.fold rest (done ++ [e]) r' _ h'
    simpa using this
theorem RI.round {t : Nat} {EL : List NE} {r : Nat → Nat} {s : BS} (h : RI t [] EL r { s with last := -1 }) : ∃ r', RI t EL [] r' (bround EL s) := by
  have := RI.fold EL [] r _ h
  simpa [bround] using this
theorem RI.next {t : Nat} {EL : List NE} {r : Nat → Nat} {s : BS} (h : RI t EL [] r s) : RI (t + 1) [] EL r { s with last := -1 } :=
  ⟨fun x => Nat.le_succ_of_le (h.le x), h.has, h.back, (fun e he => by cases he), (fun e he => (h.dn e he).imp id (fun x => by omega)), (fun hl => by simp at hl), h.far⟩
theorem relax_rounds {EL : List NE} : ∀ (m t : Nat) (r : Nat → Nat) (s : BS), RI t [] EL r { s with last := -1 } → 0 ≤ (brelax EL (m + 1) s).last → ∃ r', RI (t + m) EL [] r' (brelax EL (m + 1) s)
  | 0, t, r, s, h, hl => by
    obtain ⟨r', h'⟩ := h.round
    unfold brelax at hl ⊢
    split
    · exact ⟨r', h'⟩
    · exact ⟨r', h'⟩
  | m + 1, t, r, s, h, hl => by
    obtain ⟨r', h'⟩ := h.round
    rw [brelax] at hl ⊢
    split
    · rename_i hn
      rw [if_pos hn] at hl
      omega
    · rename_i hn
      rw [if_neg hn] at hl
      have := relax_rounds m (t + 1) r' _ h'.next hl
      rwa [show t + (m + 1) = t + 1 + m by omega]
theorem RI.start (EL : List NE) : RI 1 [] EL (fun _ => 0) { (⟨fun _ => 0, fun _ => -1, -1⟩ : BS) with last := -1 } :=
  ⟨(fun x => by omega), (fun x h => by omega), (fun x h => by simp at h), (fun e he => by cases he), (fun e he => by right; omega), (fun h => by simp at h), fun x => Int.le_refl _⟩
/-- from the last that gave way n steps back are there -/
theorem last_ok {n : Nat} {EL : List NE} {r : Nat → Nat} {s : BS} (h : RI n EL [] r s) (hl : 0 ≤ s.last) : ∀ k, k ≤ n → Okb s.p k s.last.toNat ∧ n ≤ r (itb s.p k s.last.toNat) + k
  | 0, _ => ⟨fun i hi => by omega, by have := h.last hl; simp only [itb]; omega⟩
  | k + 1, hk => by
    obtain ⟨h1, h2⟩ := last_ok h hl k (by omega)
    have hp := h.has (itb s.p k s.last.toNat) (by omega)
    have hb := h.back _ hp
    refine ⟨fun i hi => ?_, by simp only [itb]; omega⟩
    rcases Nat.lt_or_ge i k with h3 | h3
    · exact h1 i h3
    · have : i = k := by omega
      subst this; exact hp
end Go.Proofs.Ytgkiipmeigfjnaa
