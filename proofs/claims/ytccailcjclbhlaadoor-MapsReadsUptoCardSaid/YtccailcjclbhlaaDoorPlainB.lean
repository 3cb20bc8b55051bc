/-
  Several texts in one:
  Costs that give way edge by edge, in place and round by round, and what they come to. No program here.
  Lists that read as functions of the place. No program here.
  From all to all, place by place between (Warshall): what it comes to; and what a growing set of places comes to. No program here.
  Square tables that a call makes itself, row by row: one place stored, one row made. Conditions: places in bounds.
-/
import Derived.Test.YtccailcjclbhlaaDoorBase
/-! Costs that give way edge by edge, in place and round by round, and what they come to. No program here. -/
namespace Go.Proofs.YtccailcjclbhlaaDoor
set_option linter.unusedVariables false

/-- where no walk leads -/
def FAR : Int := 1099511627776
/-- an edge between places: from, to, cost -/
structure NE where
  u : Nat
  v : Nat
  c : Int
def upz {α : Type} (f : Nat → α) (i : Nat) (x : α) : Nat → α := fun v => if v = i then x else f v
theorem upz_same {α : Type} (f : Nat → α) (i : Nat) (x : α) : upz f i x i = x := by simp [upz]
theorem upz_other {α : Type} (f : Nat → α) {i v : Nat} (x : α) (h : v ≠ i) : upz f i x v = f v := by simp [upz, h]

/-- one edge, all costs taken as they were -/
def spreadE (d nx : Nat → Int) (e : NE) : Nat → Int := if d e.u < FAR then upz nx e.v (min (nx e.v) (d e.u + e.c)) else nx
def spread1 (es : List NE) (d : Nat → Int) : Nat → Int := es.foldl (spreadE d) d
def spread (es : List NE) (d : Nat → Int) : Nat → (Nat → Int) | 0 => d | k + 1 => spread1 es (spread es d k)

/-- costs, where from, the last that gave way -/
structure BS where
  d : Nat → Int
  p : Nat → Int
  last : Int
def bstep (s : BS) (e : NE) : BS := if s.d e.u < FAR ∧ s.d e.u + e.c < s.d e.v then ⟨upz s.d e.v (s.d e.u + e.c), upz s.p e.v (e.u : Int), (e.v : Int)⟩ else s
def bround (es : List NE) (s : BS) : BS := es.foldl bstep { s with last := -1 }
def brelax (es : List NE) : Nat → BS → BS | 0, s => s | n + 1, s => if (bround es s).last < 0 then bround es s else brelax es n (bround es s)

/-- a walk from a start, and what it costs with the start's own cost -/
inductive At (es : List NE) (s : Nat → Int) : Nat → Int → Prop
  | base (v : Nat) (h : s v < FAR) : At es s v (s v)
  | step (e : NE) (x : Int) (he : e ∈ es) (h : At es s e.u x) (hx : x < FAR) (hy : x + e.c < FAR) : At es s e.v (x + e.c)
def Feas (es : List NE) (f : Nat → Int) : Prop := ∀ e ∈ es, f e.u < FAR → f e.v ≤ f e.u + e.c
def Att (es : List NE) (s f : Nat → Int) : Prop := ∀ v, f v ≤ s v ∧ (f v < FAR → At es s v (f v))

theorem at_lt {es : List NE} {s : Nat → Int} {v : Nat} {x : Int} (h : At es s v x) : x < FAR := by
  cases h with
  | base v h => exact h
  | step e x he h hx hy => exact hy
theorem at_ge {es : List NE} {s f : Nat → Int} (hf : Feas es f) (hs : ∀ v, f v ≤ s v) {v : Nat} {x : Int} (h : At es s v x) : f v ≤ x := by
  induction h with
  | base v h => exact hs v
  | step e x he h hx hy ih =>
    have := hf e he (by omega)
    omega

theorem spreadE_le (d nx : Nat → Int) (e : NE) (v : Nat) : spreadE d nx e v ≤ nx v := by
  unfold spreadE
  split
  · by_cases h : v = e.v
    · subst h; rw [upz_same]; omega
    · rw [upz_other _ _ h]; exact Int.le_refl _
  · exact Int.le_refl _
theorem foldE_le (d : Nat → Int) : ∀ (es : List NE) (nx : Nat → Int) (v : Nat), es.foldl (spreadE d) nx v ≤ nx v
  | [], nx, v => Int.le_refl _
  | e :: r, nx, v => Int.le_trans (foldE_le d r _ v) (spreadE_le d nx e v)
theorem spread1_le (es : List NE) (d : Nat → Int) (v : Nat) : spread1 es d v ≤ d v := foldE_le d es d v
theorem foldE_edge (d : Nat → Int) : ∀ (es : List NE) (nx : Nat → Int) (e : NE), e ∈ es → d e.u < FAR → es.foldl (spreadE d) nx e.v ≤ d e.u + e.c
  | x :: r, nx, e, he, hu => by
    rcases List.mem_cons.1 he with rfl | hm
    · refine Int.le_trans (foldE_le d r _ e.v) ?_
      unfold spreadE
      rw [if_pos hu, upz_same]
      omega
    · exact foldE_edge d r _ e hm hu
theorem spread1_edge (es : List NE) (d : Nat → Int) (e : NE) (he : e ∈ es) (hu : d e.u < FAR) : spread1 es d e.v ≤ d e.u + e.c := foldE_edge d es d e he hu
theorem foldE_ge {f d : Nat → Int} : ∀ (es : List NE) (nx : Nat → Int), Feas es f → (∀ v, f v ≤ d v) → (∀ v, f v ≤ nx v) → ∀ v, f v ≤ es.foldl (spreadE d) nx v
  | [], nx, _, _, h, v => h v
  | e :: r, nx, hf, hd, h, v => by
    refine foldE_ge r _ (fun e he => hf e (List.mem_cons_of_mem _ he)) hd (fun v => ?_) v
    unfold spreadE
    split
    · rename_i hu
      by_cases hv : v = e.v
      · subst hv
        rw [upz_same]
        have h1 := hf e (List.mem_cons_self ..) (by have := hd e.u; omega)
        have h2 := hd e.u
        have h3 := h e.v
        omega
      · rw [upz_other _ _ hv]; exact h v
    · exact h v
theorem spread_ge {es : List NE} {s f : Nat → Int} (hf : Feas es f) (hs : ∀ v, f v ≤ s v) : ∀ t v, f v ≤ spread es s t v
  | 0, v => hs v
  | t + 1, v => foldE_ge es _ hf (spread_ge hf hs t) (spread_ge hf hs t) v
theorem spread_le (es : List NE) (s : Nat → Int) : ∀ t v, spread es s t v ≤ s v
  | 0, v => Int.le_refl _
  | t + 1, v => Int.le_trans (spread1_le es _ v) (spread_le es s t v)
theorem foldE_att {E : List NE} {s d : Nat → Int} : ∀ (es : List NE) (nx : Nat → Int), (∀ e ∈ es, e ∈ E) → (∀ v, s v ≤ FAR) → Att E s d → Att E s nx → Att E s (es.foldl (spreadE d) nx)
  | [], nx, _, _, _, h => h
  | e :: r, nx, hE, hs, hd, h => by
    refine foldE_att r _ (fun e he => hE e (List.mem_cons_of_mem _ he)) hs hd (fun v => ?_)
    have hle := spreadE_le d nx e v
    refine ⟨Int.le_trans hle (h v).1, fun hlt => ?_⟩
    unfold spreadE at hlt ⊢
    split
    · rename_i hu
      rw [if_pos hu] at hlt
      by_cases hv : v = e.v
      · subst hv
        rw [upz_same] at hlt ⊢
        rcases Int.le_total (nx e.v) (d e.u + e.c) with hh | hh
        · rw [Int.min_eq_left hh] at hlt ⊢
          exact (h e.v).2 hlt
        · rw [Int.min_eq_right hh] at hlt ⊢
          exact At.step e _ (hE e (List.mem_cons_self ..)) ((hd e.u).2 hu) hu hlt
      · rw [upz_other _ _ hv] at hlt ⊢; exact (h v).2 hlt
    · rename_i hu
      rw [if_neg hu] at hlt
      exact (h v).2 hlt
theorem att_start (es : List NE) (s : Nat → Int) : Att es s s := fun v => ⟨Int.le_refl _, fun h => At.base v h⟩
theorem spread_att (es : List NE) (s : Nat → Int) (hs : ∀ v, s v ≤ FAR) : ∀ t, Att es s (spread es s t)
  | 0 => att_start es s
  | t + 1 => foldE_att es _ (fun _ h => h) hs (spread_att es s hs t) (spread_att es s hs t)

/-- costs that no edge undercuts, each the cost of a walk, are what the rounds come to -/
theorem spread_fix {es : List NE} {s f : Nat → Int} {n : Nat} (hn : 1 ≤ n) (hes : ∀ e ∈ es, e.u < n ∧ e.v < n) (hs : ∀ v, s v ≤ FAR) (hf : Feas es f) (ha : Att es s f) (t : Nat) (ht : n ≤ t + 1) (v : Nat) (hv : v < n) : spread es s t v = f v := by
  have hfs : ∀ v, f v ≤ s v := fun v => (ha v).1
  have lo := spread_ge hf hfs
  have top : ∀ t v, f v = FAR → spread es s t v = f v := by
    intro t v h
    have h1 := lo t v
    have h2 := spread_le es s t v
    have h3 := hs v
    omega
  have tight : ∀ t, (∀ u, u < n → spread es s (t + 1) u = f u → spread es s t u = f u) → ∀ v x, At es s v x → v < n → x = f v → spread es s t v = f v := by
    intro t hst v x h
    induction h with
    | base v h =>
      intro hv hx
      have h1 := lo t v
      have h2 := spread_le es s t v
      omega
    | step e x he h hx hy ih =>
      intro hv hxe
      have h1 := at_ge hf hfs h
      have h2 := hf e he (by omega)
      have h3 : x = f e.u := by omega
      have h4 := ih (hes e he).1 h3
      have h5 := spread1_edge es (spread es s t) e he (by omega)
      have h6 := lo (t + 1) e.v
      refine hst e.v hv ?_
      have h7 : spread es s (t + 1) e.v ≤ spread es s t e.u + e.c := h5
      omega
  have all : ∀ t, (∀ u, u < n → spread es s (t + 1) u = f u → spread es s t u = f u) → ∀ v, v < n → spread es s t v = f v := by
    intro t hst v hv
    by_cases hF : f v < FAR
    · exact tight t hst v _ ((ha v).2 hF) hv rfl
    · have h1 := hs v
      have h2 := hfs v
      exact top t v (by omega)
  have some0 : ∀ v x, At es s v x → v < n → x = f v → ∃ v0, v0 < n ∧ s v0 = f v0 := by
    intro v x h
    induction h with
    | base v h => intro hv hx; exact ⟨v, hv, hx⟩
    | step e x he h hx hy ih =>
      intro hv hxe
      have h1 := at_ge hf hfs h
      have h2 := hf e he (by omega)
      exact ih (hes e he).1 (by omega)
  have g := grow (n := n) (fun t u => decide (spread es s t u = f u)) (fun t u _ h => by
      have h0 : spread es s t u = f u := by simpa using h
      have h1 := lo (t + 1) u
      have h2 : spread es s (t + 1) u ≤ spread es s t u := spread1_le es _ u
      simp
      omega)
    (fun t hst u hu _ => by
      have h0 := all t (fun u hu h => by simpa using hst u hu (by simpa using h)) u hu
      have h1 := lo (t + 1) u
      have h2 : spread es s (t + 1) u ≤ spread es s t u := spread1_le es _ u
      simp
      omega)
    (by
      by_cases hF : f 0 < FAR
      · obtain ⟨v0, h1, h2⟩ := some0 0 _ ((ha 0).2 hF) (by omega) rfl
        exact ⟨v0, h1, decide_eq_true h2⟩
      · have h1 := hs 0
        have h2 := hfs 0
        exact ⟨0, by omega, decide_eq_true (show s 0 = f 0 by omega)⟩)
    t ht
  exact all t (fun u hu h => by simpa using g u hu (by simpa using h)) v hv

/-! in place -/
theorem bstep_le (s : BS) (e : NE) (v : Nat) : (bstep s e).d v ≤ s.d v := by
  unfold bstep
  split
  · rename_i h
    by_cases hv : v = e.v
    · subst hv; simp only [upz_same]; omega
    · simp only [upz_other _ _ hv]; exact Int.le_refl _
  · exact Int.le_refl _
theorem bstep_last (s : BS) (e : NE) (h : 0 ≤ s.last) : 0 ≤ (bstep s e).last := by
  unfold bstep
  split
  · simp
  · exact h
theorem bfold_last : ∀ (es : List NE) (s : BS), 0 ≤ s.last → 0 ≤ (es.foldl bstep s).last
  | [], s, h => h
  | e :: r, s, h => bfold_last r _ (bstep_last s e h)
theorem bfold_quiet : ∀ (es : List NE) (s : BS), (es.foldl bstep s).last < 0 → es.foldl bstep s = s ∧ ∀ e ∈ es, ¬ (s.d e.u < FAR ∧ s.d e.u + e.c < s.d e.v)
  | [], s, h => ⟨rfl, fun e he => by cases he⟩
  | e :: r, s, h => by
    by_cases hc : s.d e.u < FAR ∧ s.d e.u + e.c < s.d e.v
    · have h1 : 0 ≤ (bstep s e).last := by unfold bstep; rw [if_pos hc]; simp
      have h2 := bfold_last r _ h1
      have h3 : (r.foldl bstep (bstep s e)).last < 0 := h
      omega
    · have h1 : bstep s e = s := by unfold bstep; rw [if_neg hc]
      have h2 : (r.foldl bstep (bstep s e)).last < 0 := h
      rw [h1] at h2
      have ⟨h3, h4⟩ := bfold_quiet r s h2
      refine ⟨by show r.foldl bstep (bstep s e) = s; rw [h1]; exact h3, fun x hx => ?_⟩
      cases hx with
      | head => exact hc
      | tail _ hm => exact h4 x hm
theorem bfold_same : ∀ (es : List NE) (s : BS), (∀ e ∈ es, ¬ (s.d e.u < FAR ∧ s.d e.u + e.c < s.d e.v)) → es.foldl bstep s = s
  | [], s, _ => rfl
  | e :: r, s, h => by
    have h1 : bstep s e = s := by unfold bstep; rw [if_neg (h e (List.mem_cons_self ..))]
    show r.foldl bstep (bstep s e) = s
    rw [h1]
    exact bfold_same r s (fun x hx => h x (List.mem_cons_of_mem _ hx))
theorem bfold_ge {f : Nat → Int} : ∀ (es : List NE) (s : BS), Feas es f → (∀ v, f v ≤ s.d v) → ∀ v, f v ≤ (es.foldl bstep s).d v
  | [], s, _, h, v => h v
  | e :: r, s, hf, h, v => by
    refine bfold_ge r _ (fun e he => hf e (List.mem_cons_of_mem _ he)) (fun v => ?_) v
    unfold bstep
    split
    · rename_i hu
      by_cases hv : v = e.v
      · subst hv
        simp only [upz_same]
        have h1 := hf e (List.mem_cons_self ..) (by have := h e.u; omega)
        have h2 := h e.u
        omega
      · simp only [upz_other _ _ hv]; exact h v
    · exact h v
theorem bfold_att {E : List NE} {s0 : Nat → Int} : ∀ (es : List NE) (s : BS), (∀ e ∈ es, e ∈ E) → Att E s0 s.d → (∀ v, s.d v ≤ FAR) → Att E s0 (es.foldl bstep s).d ∧ ∀ v, (es.foldl bstep s).d v ≤ FAR
  | [], s, _, h, hF => ⟨h, hF⟩
  | e :: r, s, hE, h, hF => by
    refine bfold_att r _ (fun e he => hE e (List.mem_cons_of_mem _ he)) (fun v => ?_) (fun v => Int.le_trans (bstep_le s e v) (hF v))
    refine ⟨Int.le_trans (bstep_le s e v) (h v).1, fun hlt => ?_⟩
    unfold bstep at hlt ⊢
    split
    · rename_i hu
      rw [if_pos hu] at hlt
      by_cases hv : v = e.v
      · subst hv
        simp only [upz_same] at hlt ⊢
        exact At.step e _ (hE e (List.mem_cons_self ..)) ((h e.u).2 hu.1) hu.1 hlt
      · simp only [upz_other _ _ hv] at hlt ⊢; exact (h v).2 hlt
    · rename_i hu
      rw [if_neg hu] at hlt
      exact (h v).2 hlt
theorem bfold_spread {d : Nat → Int} : ∀ (es : List NE) (s : BS) (nx : Nat → Int), (∀ v, s.d v ≤ d v) → (∀ v, s.d v ≤ nx v) → ∀ v, (es.foldl bstep s).d v ≤ es.foldl (spreadE d) nx v
  | [], s, nx, _, h, v => h v
  | e :: r, s, nx, hd, h, v => by
    refine bfold_spread r _ _ (fun v => Int.le_trans (bstep_le s e v) (hd v)) (fun v => ?_) v
    have hs := bstep_le s e v
    unfold spreadE
    split
    · rename_i hu
      by_cases hv : v = e.v
      · subst hv
        rw [upz_same]
        have h1 := hd e.u
        have h2 : (bstep s e).d e.v ≤ s.d e.u + e.c := by
          unfold bstep
          split
          · simp only [upz_same]; omega
          · rename_i hc
            have : ¬ s.d e.u + e.c < s.d e.v := fun hh => hc ⟨by omega, hh⟩
            omega
        have h3 := h e.v
        omega
      · rw [upz_other _ _ hv]; exact Int.le_trans hs (h v)
    · exact Int.le_trans hs (h v)
theorem brelax_att {es : List NE} {s0 : Nat → Int} : ∀ (m : Nat) (s : BS), Att es s0 s.d → (∀ v, s.d v ≤ FAR) → Att es s0 (brelax es m s).d ∧ ∀ v, (brelax es m s).d v ≤ FAR
  | 0, s, h, hF => ⟨h, hF⟩
  | m + 1, s, h, hF => by
    have h1 := bfold_att es { s with last := -1 } (fun _ h => h) h hF
    unfold brelax
    split
    · exact h1
    · exact brelax_att m _ h1.1 h1.2
theorem brelax_feas {es : List NE} : ∀ (m : Nat) (s : BS), 1 ≤ m → (brelax es m s).last < 0 → Feas es (brelax es m s).d
  | m + 1, s, _, h => by
    unfold brelax at h ⊢
    split
    · rename_i hl
      obtain ⟨h1, h2⟩ := bfold_quiet es _ hl
      intro e he hu
      have h3 := h2 e he
      unfold bround at hu ⊢
      rw [h1] at hu ⊢
      simp only at hu h3 ⊢
      have : ¬ s.d e.u + e.c < s.d e.v := fun hh => h3 ⟨hu, hh⟩
      omega
    · rename_i hl
      rw [if_neg hl] at h
      cases m with
      | zero => exact absurd h hl
      | succ k => exact brelax_feas (k + 1) _ (by omega) h
/-- where the rounds stand still at last, no place gives way in the last round in place -/
theorem brelax_still {es : List NE} {n : Nat} {s0 f : Nat → Int} (hes : ∀ e ∈ es, e.u < n ∧ e.v < n) (hf : Feas es f) (hfs : ∀ v, f v ≤ s0 v) (hfix : ∀ v, v < n → spread es s0 (n - 1) v = f v) :
    ∀ (m t : Nat) (s : BS), 1 ≤ m → m + t = n → (∀ v, f v ≤ s.d v) → (∀ v, s.d v ≤ spread es s0 t v) → (brelax es m s).last < 0
  | m + 1, t, s, _, hmt, hlo, hhi => by
    unfold brelax
    split
    · assumption
    · rename_i hl
      cases m with
      | zero =>
        exfalso
        apply hl
        have ht : t = n - 1 := by omega
        subst ht
        have heq : ∀ v, v < n → s.d v = f v := fun v hv => by have h1 := hlo v; have h2 := hhi v; have h3 := hfix v hv; omega
        have : bround es s = { s with last := -1 } := by
          refine bfold_same es _ (fun e he hc => ?_)
          simp only at hc
          have h1 := hf e he
          rw [heq _ (hes e he).1, heq _ (hes e he).2] at hc
          have := h1 hc.1
          omega
        rw [this]
        simp
      | succ k =>
        refine brelax_still hes hf hfs hfix (k + 1) (t + 1) _ (by omega) (by omega) ?_ ?_
        · exact bfold_ge es _ hf hlo
        · exact fun v => bfold_spread es { s with last := -1 } _ hhi hhi v

/-- what Relax comes to: it says whether there is a bad cycle, and if there is none the costs of the rounds -/
theorem brelax_says {es : List NE} {n : Nat} {s0 : Nat → Int} (p0 : Nat → Int) (l0 : Int) (hn : 1 ≤ n) (hes : ∀ e ∈ es, e.u < n ∧ e.v < n) (hs : ∀ v, s0 v ≤ FAR) :
    ((brelax es n ⟨s0, p0, l0⟩).last < 0 ↔ ∀ v, v < n → spread es s0 (n - 1) v = spread es s0 n v) ∧
    ((brelax es n ⟨s0, p0, l0⟩).last < 0 → ∀ v, v < n → (brelax es n ⟨s0, p0, l0⟩).d v = spread es s0 (n - 1) v) := by
  have hatt := brelax_att (es := es) (s0 := s0) n ⟨s0, p0, l0⟩ (att_start es s0) hs
  have key : (brelax es n ⟨s0, p0, l0⟩).last < 0 → ∀ t, n ≤ t + 1 → ∀ v, v < n → spread es s0 t v = (brelax es n ⟨s0, p0, l0⟩).d v := by
    intro h t ht v hv
    exact spread_fix hn hes hs (brelax_feas n _ hn h) hatt.1 t ht v hv
  refine ⟨⟨fun h v hv => ?_, fun h => ?_⟩, fun h v hv => ?_⟩
  · rw [key h (n - 1) (by omega) v hv, key h n (by omega) v hv]
  · -- the rounds' end is the costs that no edge undercuts, below n
    have hsp := spread_att es s0 hs (n - 1)
    let f : Nat → Int := fun v => spread es s0 (n - 1) v
    have hf : Feas es f := by
      intro e he hu
      have h1 := spread1_edge es (spread es s0 (n - 1)) e he hu
      have h2 := h e.v (hes e he).2
      have h3 : spread es s0 n e.v = spread1 es (spread es s0 (n - 1)) e.v := by
        obtain ⟨m, rfl⟩ : ∃ m, n = m + 1 := ⟨n - 1, by omega⟩
        rfl
      show spread es s0 (n - 1) e.v ≤ spread es s0 (n - 1) e.u + e.c
      omega
    exact brelax_still hes hf (fun v => (hsp v).1) (fun v _ => rfl) n 0 _ hn (by omega) (fun v => (hsp v).1) (fun v => Int.le_refl _)
  · exact (key h (n - 1) (by omega) v hv).symm
end Go.Proofs.YtccailcjclbhlaaDoor

/-! Lists that read as functions of the place. No program here. -/
namespace Go.Proofs.YtccailcjclbhlaaDoor
open Go.RowKit

def LI (n : Nat) (f : Nat → Int) : List Int := (List.range n).map f
theorem li_len (n : Nat) (f : Nat → Int) : (LI n f).length = n := by simp [LI]
theorem li_get (n : Nat) (f : Nat → Int) (i : Nat) (h : i < (LI n f).length) : (LI n f)[i] = f i := by simp [LI]
theorem li_succ (k : Nat) (f : Nat → Int) : LI (k + 1) f = LI k f ++ [f k] := by simp [LI, List.range_succ]
theorem li_set (n : Nat) (f : Nat → Int) (i : Nat) (x : Int) : (LI n f).set i x = LI n (upz f i x) := by
  apply List.ext_getElem
  · simp [LI]
  · intro j h1 h2
    rw [li_get, List.getElem_set]
    by_cases e : i = j
    · subst e; simp [upz]
    · rw [if_neg e, li_get, upz_other _ _ (fun h => e h.symm)]
theorem li_rep (n : Nat) (x : Int) : List.replicate n x = LI n (fun _ => x) := by
  apply List.ext_getElem
  · simp [LI]
  · intro i h1 h2; simp [LI]
theorem li_congr {n : Nat} {f g : Nat → Int} (h : ∀ v, v < n → f v = g v) : LI n f = LI n g := by
  unfold LI
  apply List.map_congr_left
  intro v hv
  exact h v (List.mem_range.1 hv)
theorem li_inj {n : Nat} {f g : Nat → Int} (h : LI n f = LI n g) (v : Nat) (hv : v < n) : f v = g v := by
  have e : (LI n f)[v]'(by rw [li_len]; exact hv) = (LI n g)[v]'(by rw [li_len]; exact hv) := by simp [h]
  rw [li_get, li_get] at e
  exact e
theorem li_eq {n : Nat} {f g : Nat → Int} : LI n f = LI n g ↔ ∀ v, v < n → f v = g v := ⟨li_inj, li_congr⟩
/-- the first k written anew -/
def first {α : Type} (k : Nat) (f g : Nat → α) : Nat → α := fun v => if v < k then f v else g v
theorem first_zero {α : Type} (f g : Nat → α) : first 0 f g = g := by funext v; simp [first]
theorem first_step {α : Type} (k : Nat) (f g : Nat → α) : upz (first k f g) k (f k) = first (k + 1) f g := by
  funext v
  simp only [upz, first]
  by_cases h : v = k
  · subst h; simp
  · by_cases h2 : v < k
    · rw [if_neg h, if_pos h2, if_pos (by omega)]
    · rw [if_neg h, if_neg h2, if_neg (by omega)]
theorem first_all (n : Nat) (f g : Nat → Int) : LI n (first n f g) = LI n f := li_congr (fun v hv => by simp [first, hv])

theorem Own.atI {e : TypeId} {w : World} {base g n c : Nat} {f : Nat → Int} (h : Own encI 1 e w base (.slice (some ⟨g, 0, none⟩) n c) (LI n f)) (i : Nat) (hi : i < n) : w.cell? ⟨g, i, none⟩ = some (.int .i64 (f i)) := by
  have := h.getI i (by rw [li_len]; exact hi)
  rw [li_get] at this
  exact this
theorem Own.setI {e : TypeId} {w : World} {base g n c : Nat} {f : Nat → Int} (h : Own encI 1 e w base (.slice (some ⟨g, 0, none⟩) n c) (LI n f)) (i : Nat) (hi : i < n) (x : Int) : Own encI 1 e (w.setCell ⟨g, i, none⟩ (.int .i64 x)) base (.slice (some ⟨g, 0, none⟩) n c) (LI n (upz f i x)) := by
  have := h.putI i (by rw [li_len]; exact hi) x
  rw [li_set] at this
  exact this
theorem Row.atI {w : World} {B : Nat} {a : Option Addr} {n : Nat} {f : Nat → Int} (h : Row encI 1 w B a (LI n f)) (i : Nat) (hi : i < n) : ∃ b o, a = some ⟨b, o, none⟩ ∧ b < B ∧ w.cell? ⟨b, o + i, none⟩ = some (.int .i64 (f i)) := by
  obtain ⟨b, o, h1, h2, h3⟩ := h.int i (by rw [li_len]; exact hi)
  rw [li_get] at h3
  exact ⟨b, o, h1, h2, h3⟩
/-- an own slice with at least one element stands in a block -/
theorem Own.blockI {α : Type} {enc : α → List Value} {sz : Nat} {e : TypeId} {w : World} {base : Nat} {a : Option Addr} {n c : Nat} {xs : List α} (h : Own enc sz e w base (.slice a n c) xs) (hn : 0 < n) : ∃ g, a = some ⟨g, 0, none⟩ ∧ base ≤ g ∧ g < w.heap.size := by
  rcases h.form with ⟨h1, h2⟩ | ⟨g, cap, h1, h2, h3, _⟩
  · simp only [Value.slice.injEq] at h1; omega
  · simp only [Value.slice.injEq] at h1; exact ⟨g, h1.1, h2, h3⟩

/-- a right net's edges, by places -/
def nes (es : List Ed) : List NE := es.map fun e => ⟨e.u.toNat, e.v.toNat, e.c⟩
theorem nes_take (es : List Ed) (k : Nat) (h : k < es.length) : nes (es.take (k + 1)) = nes (es.take k) ++ [⟨es[k].u.toNat, es[k].v.toNat, es[k].c⟩] := by
  unfold nes
  rw [List.take_succ_eq_append_getElem h, List.map_append]
  rfl
theorem nes_mem {es : List Ed} {e : NE} (h : e ∈ nes es) : ∃ x ∈ es, e = ⟨x.u.toNat, x.v.toNat, x.c⟩ := by
  obtain ⟨x, h1, h2⟩ := List.mem_map.1 h
  exact ⟨x, h1, h2.symm⟩
def RightK (K : Int) (n : Nat) (es : List Ed) : Prop := ∀ e ∈ es, 0 ≤ e.u ∧ e.u < n ∧ 0 ≤ e.v ∧ e.v < n ∧ -K ≤ e.c ∧ e.c ≤ K
def Right (n : Nat) (es : List Ed) : Prop := RightK 10000 n es
theorem nes_rightK {K : Int} {n : Nat} {es : List Ed} (h : RightK K n es) : ∀ e ∈ nes es, e.u < n ∧ e.v < n := by
  intro e he
  obtain ⟨x, hx, rfl⟩ := nes_mem he
  have := h x hx
  simp only
  omega
theorem nes_right {n : Nat} {es : List Ed} (h : Right n es) : ∀ e ∈ nes es, e.u < n ∧ e.v < n := nes_rightK h
/-- an edge of a right net, by places -/
theorem right_edgeK {K : Int} {n : Nat} {es : List Ed} (h : RightK K n es) (k : Nat) (hk : k < es.length) : ∃ u v : Nat, es[k].u = (u : Int) ∧ es[k].v = (v : Int) ∧ u < n ∧ v < n ∧ -K ≤ es[k].c ∧ es[k].c ≤ K ∧ nes (es.take (k + 1)) = nes (es.take k) ++ [⟨u, v, es[k].c⟩] := by
  have h1 := h es[k] (List.getElem_mem hk)
  obtain ⟨u, hu⟩ := Int.eq_ofNat_of_zero_le h1.1
  obtain ⟨v, hv⟩ := Int.eq_ofNat_of_zero_le h1.2.2.1
  refine ⟨u, v, hu, hv, by omega, by omega, by omega, by omega, ?_⟩
  rw [nes_take es k hk, hu, hv]
  rfl
theorem right_edge {n : Nat} {es : List Ed} (h : Right n es) (k : Nat) (hk : k < es.length) : ∃ u v : Nat, es[k].u = (u : Int) ∧ es[k].v = (v : Int) ∧ u < n ∧ v < n ∧ -10000 ≤ es[k].c ∧ es[k].c ≤ 10000 ∧ nes (es.take (k + 1)) = nes (es.take k) ++ [⟨u, v, es[k].c⟩] := right_edgeK h k hk
/-- bounds of costs -/
def Low (K : Int) (f : Nat → Int) : Prop := ∀ v, -K ≤ f v ∧ f v ≤ FAR
theorem Low.mono {K L : Int} {f : Nat → Int} (h : Low K f) (hl : K ≤ L) : Low L f := fun v => ⟨by have := (h v).1; omega, (h v).2⟩
theorem bstep_low {K : Int} {s : BS} {e : NE} (h : Low K s.d) (hc : -10000 ≤ e.c) : Low (K + 10000) (bstep s e).d := by
  intro v
  refine ⟨?_, Int.le_trans (bstep_le s e v) (h v).2⟩
  unfold bstep
  have h1 := (h v).1
  have h2 := (h e.u).1
  split
  · by_cases hv : v = e.v
    · subst hv; simp only [upz_same]; omega
    · simp only [upz_other _ _ hv]; omega
  · omega
theorem spreadE_low {K : Int} {d nx : Nat → Int} {e : NE} (h : Low K d) (hn : Low (K + 10000) nx) (hc : -10000 ≤ e.c) : Low (K + 10000) (spreadE d nx e) := by
  intro v
  refine ⟨?_, Int.le_trans (spreadE_le d nx e v) (hn v).2⟩
  unfold spreadE
  have h1 := (hn v).1
  have h2 := (h e.u).1
  have h3 := (hn e.v).1
  split
  · by_cases hv : v = e.v
    · subst hv; simp only [upz_same]; omega
    · simp only [upz_other _ _ hv]; omega
  · omega
end Go.Proofs.YtccailcjclbhlaaDoor

/-! From all to all, place by place between (Warshall): what it comes to; and what a growing set of places comes to. No program here. -/
namespace Go.Proofs.YtccailcjclbhlaaDoor
set_option linter.unusedVariables false

section
variable {α : Type}
def upm (m : Nat → Nat → α) (i j : Nat) (x : α) : Nat → Nat → α := fun a b => if a = i ∧ b = j then x else m a b
theorem upm_same (m : Nat → Nat → α) (i j : Nat) (x : α) : upm m i j x i j = x := by simp [upm]
theorem upm_other (m : Nat → Nat → α) {i j a b : Nat} (x : α) (h : ¬ (a = i ∧ b = j)) : upm m i j x a b = m a b := by simp [upm, h]
/-- one place of a row -/
def wcell (or thn : α → α → α) (k i : Nat) (m : Nat → Nat → α) (j : Nat) : Nat → Nat → α := upm m i j (or (m i j) (thn (m i k) (m k j)))
def wrow (or thn : α → α → α) (k i : Nat) (m : Nat → Nat → α) : Nat → (Nat → Nat → α) | 0 => m | j + 1 => wcell or thn k i (wrow or thn k i m j) j
def wstage (or thn : α → α → α) (n k : Nat) (m : Nat → Nat → α) : Nat → (Nat → Nat → α) | 0 => m | i + 1 => wrow or thn k i (wstage or thn n k m i) n
def wall (or thn : α → α → α) (n : Nat) (m : Nat → Nat → α) : Nat → (Nat → Nat → α) | 0 => m | k + 1 => wstage or thn n k (wall or thn n m k) n
/-- the start: nothing, but each place to itself; then the edges -/
def wstart (none self : α) : Nat → Nat → α := fun i j => if i = j then self else none
def wedge (or : α → α → α) (edge : NE → α) (m : Nat → Nat → α) (e : NE) : Nat → Nat → α := upm m e.u e.v (or (m e.u e.v) (edge e))
def wclosed (or thn : α → α → α) (none self : α) (edge : NE → α) (n : Nat) (es : List NE) : Nat → Nat → α := wall or thn n (es.foldl (wedge or edge) (wstart none self)) n
end

/-! booleans: is there a walk over edges that are so? -/
abbrev orB (a b : Bool) : Bool := a || b
abbrev andB (a b : Bool) : Bool := a && b
inductive Lead (es : List NE) (is : NE → Bool) (a : Nat) : Nat → Prop
  | refl : Lead es is a a
  | step (e : NE) (h : Lead es is a e.u) (he : e ∈ es) (hi : is e = true) : Lead es is a e.v
theorem Lead.trans {es : List NE} {is : NE → Bool} {a b c : Nat} (h : Lead es is a b) (k : Lead es is b c) : Lead es is a c := by
  induction k with
  | refl => exact h
  | step e _ he hi ih => exact Lead.step e ih he hi
theorem Lead.lt {es : List NE} {is : NE → Bool} {n a b : Nat} (hes : ∀ e ∈ es, e.u < n ∧ e.v < n) (h : Lead es is a b) (ha : a < n) : b < n := by
  cases h with
  | refl => exact ha
  | step e h he hi => exact (hes e he).2

theorem wrow_other (k i : Nat) (m : Nat → Nat → Bool) : ∀ j a b, (¬ a = i ∨ j ≤ b) → wrow orB andB k i m j a b = m a b
  | 0, a, b, _ => rfl
  | j + 1, a, b, h => by
    show upm _ i j _ a b = m a b
    rw [upm_other _ _ (by omega)]
    exact wrow_other k i m j a b (by omega)
/-- where the place between leads to itself, a row is done as if at once -/
theorem wrow_eq {k i : Nat} {m : Nat → Nat → Bool} (hk : m k k = true) : ∀ j b, b < j → wrow orB andB k i m j i b = (m i b || (m i k && m k b))
  | j + 1, b, h => by
    show upm _ i j _ i b = _
    -- the row's own column k and row k stay as they are
    have hik : wrow orB andB k i m j i k = m i k := by
      rcases Nat.lt_or_ge k j with h' | h'
      · rw [wrow_eq hk j k h', hk]; cases m i k <;> rfl
      · exact wrow_other k i m j i k (.inr h')
    have hkb : ∀ b, j ≤ b → wrow orB andB k i m j k b = m k b := fun b hb => wrow_other k i m j k b (.inr hb)
    by_cases hb : b = j
    · subst hb
      rw [upm_same]
      show (wrow orB andB k i m b i b || (wrow orB andB k i m b i k && wrow orB andB k i m b k b)) = _
      rw [wrow_other k i m b i b (.inr (Nat.le_refl _)), hik, hkb b (Nat.le_refl _)]
    · rw [upm_other _ _ (by omega)]
      exact wrow_eq hk j b (by omega)
theorem wrow_kk {k i : Nat} {m : Nat → Nat → Bool} (hk : m k k = true) (j b : Nat) (n : Nat) : wrow orB andB k i m j k b = m k b := by
  by_cases hi : i = k
  · subst hi
    rcases Nat.lt_or_ge b j with h | h
    · rw [wrow_eq hk j b h, hk]; cases m i b <;> rfl
    · exact wrow_other _ _ m j _ b (.inr h)
  · exact wrow_other _ _ m j _ b (.inl (fun h => hi h.symm))
theorem wstage_k {n k : Nat} {m : Nat → Nat → Bool} (hk : m k k = true) : ∀ i b, wstage orB andB n k m i k b = m k b
  | 0, b => rfl
  | i + 1, b => by
    show wrow orB andB k i _ n k b = m k b
    rw [wrow_kk (by rw [wstage_k hk i k]; exact hk) n b n]
    exact wstage_k hk i b
theorem wstage_other {n k : Nat} {m : Nat → Nat → Bool} : ∀ i a b, i ≤ a → wstage orB andB n k m i a b = m a b
  | 0, a, b, _ => rfl
  | i + 1, a, b, h => by
    show wrow orB andB k i _ n a b = m a b
    have hne : ¬ a = i := by omega
    rw [wrow_other k i _ n a b (.inl hne)]
    exact wstage_other i a b (by omega)
theorem wstage_eq {n k : Nat} {m : Nat → Nat → Bool} (hk : m k k = true) : ∀ i a b, a < i → b < n → wstage orB andB n k m i a b = (m a b || (m a k && m k b))
  | i + 1, a, b, ha, hb => by
    show wrow orB andB k i _ n a b = _
    have hkk : wstage orB andB n k m i k k = true := by rw [wstage_k hk i k]; exact hk
    by_cases h : a = i
    · subst h
      rw [wrow_eq hkk n b hb, wstage_other a a b (Nat.le_refl _), wstage_other a a k (Nat.le_refl _), wstage_k hk a b]
    · rw [wrow_other k i _ n a b (.inl h)]
      exact wstage_eq hk i a b (by omega) hb
/-- all stages: reflexive, no less than the start, closed under what was between -/
theorem wall_says {n : Nat} {m : Nat → Nat → Bool} (hm : ∀ v, m v v = true) : ∀ k, k ≤ n → (∀ v, wall orB andB n m k v v = true) ∧ (∀ i j, m i j = true → wall orB andB n m k i j = true) ∧
    (∀ c, c < k → ∀ i j, i < n → j < n → wall orB andB n m k i c = true → wall orB andB n m k c j = true → wall orB andB n m k i j = true)
  | 0, _ => ⟨hm, fun _ _ h => h, fun c hc => absurd hc (Nat.not_lt_zero _)⟩
  | k + 1, hk => by
    obtain ⟨h1, h2, h3⟩ := wall_says (n := n) hm k (by omega)
    have eq : ∀ a b, a < n → b < n → wall orB andB n m (k + 1) a b = (wall orB andB n m k a b || (wall orB andB n m k a k && wall orB andB n m k k b)) := fun a b ha hb => wstage_eq (h1 k) n a b ha hb
    have out : ∀ a b, n ≤ a → wall orB andB n m (k + 1) a b = wall orB andB n m k a b := fun a b ha => wstage_other n a b ha
    have colk : ∀ a b, a < n → n ≤ b → wall orB andB n m (k + 1) a b = wall orB andB n m k a b := by
      intro a b ha hb
      have key : ∀ i, wstage orB andB n k (wall orB andB n m k) i a b = wall orB andB n m k a b := by
        intro i
        induction i with
        | zero => rfl
        | succ i ih =>
          show wrow orB andB k i _ n a b = _
          rw [wrow_other k i _ n a b (.inr hb)]
          exact ih
      exact key n
    have up : ∀ a b, wall orB andB n m k a b = true → wall orB andB n m (k + 1) a b = true := by
      intro a b h
      by_cases ha : a < n
      · by_cases hb : b < n
        · rw [eq a b ha hb, h]; rfl
        · rw [colk a b ha (by omega)]; exact h
      · rw [out a b (by omega)]; exact h
    refine ⟨fun v => up v v (h1 v), fun i j h => up i j (h2 i j h), fun c hc i j hi hj ha hb => ?_⟩
    have hcn : c < n := by omega
    rw [eq i c hi hcn] at ha
    rw [eq c j hcn hj] at hb
    rw [eq i j hi hj]
    simp only [Bool.or_eq_true, Bool.and_eq_true] at ha hb ⊢
    by_cases hck : c = k
    · subst hck
      rcases ha with ha | ha <;> rcases hb with hb | hb
      · exact .inr ⟨ha, hb⟩
      · exact .inr ⟨ha, hb.2⟩
      · exact .inr ⟨ha.1, hb⟩
      · exact .inr ⟨ha.1, hb.2⟩
    · have hlt : c < k := by omega
      rcases ha with ha | ha <;> rcases hb with hb | hb
      · exact .inl (h3 c hlt i j hi hj ha hb)
      · exact .inr ⟨h3 c hlt i k hi (by omega) ha hb.1, hb.2⟩
      · exact .inr ⟨ha.1, h3 c hlt k j (by omega) hj ha.2 hb⟩
      · exact .inr ⟨ha.1, hb.2⟩
theorem wall_sound {es : List NE} {is : NE → Bool} {n : Nat} {m : Nat → Nat → Bool} (hm : ∀ i j, m i j = true → Lead es is i j) : ∀ k i j, wall orB andB n m k i j = true → Lead es is i j
  | 0, i, j, h => hm i j h
  | k + 1, i, j, h => by
    have ih := wall_sound (n := n) hm k
    have row : ∀ (m' : Nat → Nat → Bool), (∀ i j, m' i j = true → Lead es is i j) → ∀ a c i j, wrow orB andB k a m' c i j = true → Lead es is i j := by
      intro m' hm' a c
      induction c with
      | zero => exact hm'
      | succ c ihc =>
        intro i j h
        by_cases hc : i = a ∧ j = c
        · obtain ⟨rfl, rfl⟩ := hc
          have h' : upm (wrow orB andB k i m' j) i j _ i j = true := h
          rw [upm_same] at h'
          simp only [Bool.or_eq_true, Bool.and_eq_true] at h'
          rcases h' with h' | h'
          · exact ihc i j h'
          · exact (ihc i k h'.1).trans (ihc k j h'.2)
        · have h' : upm (wrow orB andB k a m' c) a c _ i j = true := h
          rw [upm_other _ _ hc] at h'
          exact ihc i j h'
    have stage : ∀ c i j, wstage orB andB n k (wall orB andB n m k) c i j = true → Lead es is i j := by
      intro c
      induction c with
      | zero => exact ih
      | succ c ihc => intro i j h; exact row _ ihc c n i j h
    exact stage n i j h
theorem wstart_edges {is : NE → Bool} : ∀ (es : List NE) (m : Nat → Nat → Bool), (∀ i j, m i j = true → es.foldl (wedge orB is) m i j = true) ∧ (∀ e ∈ es, is e = true → es.foldl (wedge orB is) m e.u e.v = true)
  | [], m => ⟨fun _ _ h => h, fun e he => by cases he⟩
  | x :: r, m => by
    obtain ⟨h1, h2⟩ := wstart_edges (is := is) r (wedge orB is m x)
    have up : ∀ i j, m i j = true → wedge orB is m x i j = true := by
      intro i j h
      unfold wedge
      by_cases hc : i = x.u ∧ j = x.v
      · obtain ⟨rfl, rfl⟩ := hc; rw [upm_same, h]; rfl
      · rw [upm_other _ _ hc]; exact h
    refine ⟨fun i j h => h1 i j (up i j h), fun e he hi => ?_⟩
    rcases List.mem_cons.1 he with rfl | hm
    · refine h1 e.u e.v ?_
      unfold wedge
      rw [upm_same, hi]
      cases m e.u e.v <;> rfl
    · exact h2 e hm hi
theorem wstart_sound {E : List NE} {is : NE → Bool} : ∀ (es : List NE) (m : Nat → Nat → Bool), (∀ e ∈ es, e ∈ E) → (∀ i j, m i j = true → Lead E is i j) → ∀ i j, es.foldl (wedge orB is) m i j = true → Lead E is i j
  | [], m, _, h => h
  | x :: r, m, hE, h => by
    refine wstart_sound r (wedge orB is m x) (fun e he => hE e (List.mem_cons_of_mem _ he)) (fun i j hij => ?_)
    unfold wedge at hij
    by_cases hc : i = x.u ∧ j = x.v
    · obtain ⟨rfl, rfl⟩ := hc
      rw [upm_same] at hij
      simp only [Bool.or_eq_true] at hij
      rcases hij with hij | hij
      · exact h _ _ hij
      · exact Lead.step x (Lead.refl) (hE x (List.mem_cons_self ..)) hij
    · rw [upm_other _ _ hc] at hij; exact h i j hij
/-- Warshall: there is a walk -/
theorem wclosed_lead {es : List NE} {is : NE → Bool} {n : Nat} (hes : ∀ e ∈ es, e.u < n ∧ e.v < n) (i j : Nat) (hi : i < n) (hj : j < n) : wclosed orB andB false true is n es i j = true ↔ Lead es is i j := by
  have hs : ∀ v, es.foldl (wedge orB is) (wstart false true) v v = true := fun v => (wstart_edges es _).1 v v (by simp [wstart])
  obtain ⟨h1, h2, h3⟩ := wall_says hs n (Nat.le_refl n)
  constructor
  · refine wall_sound (fun a b h => wstart_sound es _ (fun _ h => h) (fun a b hab => ?_) a b h) n i j
    unfold wstart at hab
    split at hab
    · rename_i e; subst e; exact Lead.refl
    · cases hab
  · intro h
    have key : ∀ j, Lead es is i j → wclosed orB andB false true is n es i j = true := by
      intro j h
      induction h with
      | refl => exact h1 i
      | step e h he hie ih =>
        exact h3 e.u (hes e he).1 i e.v hi (hes e he).2 ih (h2 _ _ ((wstart_edges es _).2 e he hie))
    exact key j h

/-! a set that grows, round by round, edge by edge in place -/
def rstep (is : NE → Bool) (f : Nat → Bool) (e : NE) : Nat → Bool := if f e.u = true ∧ is e = true then upz f e.v true else f
def rround (es : List NE) (is : NE → Bool) (f : Nat → Bool) : Nat → Bool := es.foldl (rstep is) f
def rreach (es : List NE) (is : NE → Bool) (s : Nat → Bool) : Nat → (Nat → Bool) | 0 => s | t + 1 => rround es is (rreach es is s t)
theorem rstep_up (is : NE → Bool) (f : Nat → Bool) (e : NE) (v : Nat) (h : f v = true) : rstep is f e v = true := by
  unfold rstep
  split
  · by_cases hv : v = e.v
    · subst hv; exact upz_same _ _ _
    · rw [upz_other _ _ hv]; exact h
  · exact h
theorem rround_up (is : NE → Bool) : ∀ (es : List NE) (f : Nat → Bool) (v : Nat), f v = true → rround es is f v = true
  | [], f, v, h => h
  | e :: r, f, v, h => rround_up is r _ v (rstep_up is f e v h)
theorem rround_edge (is : NE → Bool) : ∀ (es : List NE) (f : Nat → Bool) (e : NE), e ∈ es → is e = true → f e.u = true → rround es is f e.v = true
  | x :: r, f, e, he, hi, hu => by
    rcases List.mem_cons.1 he with rfl | hm
    · refine rround_up is r _ e.v ?_
      unfold rstep
      rw [if_pos ⟨hu, hi⟩, upz_same]
    · exact rround_edge is r _ e hm hi (rstep_up is f x e.u hu)
theorem rround_still (is : NE → Bool) : ∀ (es : List NE) (f : Nat → Bool), (∀ e ∈ es, f e.u = true → is e = true → f e.v = true) → rround es is f = f
  | [], f, _ => rfl
  | e :: r, f, h => by
    have h1 : rstep is f e = f := by
      unfold rstep
      split
      · rename_i hc
        funext v
        by_cases hv : v = e.v
        · subst hv; rw [upz_same]; exact (h e (List.mem_cons_self ..) hc.1 hc.2).symm
        · exact upz_other _ _ hv
      · rfl
    show rround r is (rstep is f e) = f
    rw [h1]
    exact rround_still is r f (fun x hx => h x (List.mem_cons_of_mem _ hx))
theorem rround_sound {E : List NE} {is : NE → Bool} {from_ : Nat} : ∀ (es : List NE) (f : Nat → Bool), (∀ e ∈ es, e ∈ E) → (∀ v, f v = true → Lead E is from_ v) → ∀ v, rround es is f v = true → Lead E is from_ v
  | [], f, _, h => h
  | e :: r, f, hE, h => by
    refine rround_sound r (rstep is f e) (fun x hx => hE x (List.mem_cons_of_mem _ hx)) (fun v hv => ?_)
    unfold rstep at hv
    split at hv
    · rename_i hc
      by_cases he : v = e.v
      · subst he; exact Lead.step e (h _ hc.1) (hE e (List.mem_cons_self ..)) hc.2
      · rw [upz_other _ _ he] at hv; exact h v hv
    · exact h v hv
def only (v : Nat) : Nat → Bool := fun u => decide (u = v)
theorem rreach_lead {es : List NE} {is : NE → Bool} {n : Nat} (hes : ∀ e ∈ es, e.u < n ∧ e.v < n) (from_ : Nat) (hf : from_ < n) (v : Nat) (hv : v < n) : rreach es is (only from_) n v = true ↔ Lead es is from_ v := by
  have sound : ∀ t v, rreach es is (only from_) t v = true → Lead es is from_ v := by
    intro t
    induction t with
    | zero =>
      intro v h
      have : v = from_ := by simpa [rreach, only] using h
      subst this
      exact Lead.refl
    | succ t ih => exact rround_sound es _ (fun _ h => h) ih
  have up : ∀ t v, rreach es is (only from_) t v = true → rreach es is (only from_) (t + 1) v = true := fun t v h => rround_up is es _ v h
  have closed : ∀ t, (∀ u, u < n → rreach es is (only from_) (t + 1) u = true → rreach es is (only from_) t u = true) → ∀ e ∈ es, rreach es is (only from_) t e.u = true → is e = true → rreach es is (only from_) t e.v = true := by
    intro t h e he hu hi
    exact h e.v (hes e he).2 (rround_edge is es _ e he hi hu)
  have g := grow (n := n) (fun t v => rreach es is (only from_) t v) (fun t v _ h => up t v h)
    (fun t h u hu h2 => by
      have c := closed t h
      have e1 : rreach es is (only from_) (t + 1) = rreach es is (only from_) t := rround_still is es _ c
      have e2 : rreach es is (only from_) (t + 2) = rround es is (rreach es is (only from_) (t + 1)) := rfl
      rw [e2, e1, rround_still is es _ c] at h2
      rw [e1]; exact h2)
    ⟨from_, hf, by simp [rreach, only]⟩
  have cn := closed n (fun u hu h => g n (by omega) u hu h)
  have h0 : ∀ t, rreach es is (only from_) t from_ = true := by
    intro t
    induction t with
    | zero => simp [rreach, only]
    | succ t ih => exact up t _ ih
  constructor
  · exact sound n v
  · intro h
    have key : ∀ v, Lead es is from_ v → rreach es is (only from_) n v = true := by
      intro v h
      induction h with
      | refl => exact h0 n
      | step e h he hi ih => exact cn e he ih hi
    exact key v h
end Go.Proofs.YtccailcjclbhlaaDoor

/-! Square tables that a call makes itself, row by row: one place stored, one row made. Conditions: places in bounds. -/
namespace Go.Proofs.YtccailcjclbhlaaDoor
open Go.RowKit

theorem Own.blockI' {α : Type} {enc : α → List Value} {sz : Nat} {e : TypeId} {w : World} {base : Nat} {a : Option Addr} {n c : Nat} {xs : List α} (h : Own enc sz e w base (.slice a n c) xs) (hn : 0 < n) : ∃ g, a = some ⟨g, 0, none⟩ ∧ base ≤ g ∧ g < w.heap.size := by
  rcases h.form with ⟨h1, h2⟩ | ⟨g, cap, h1, h2, h3, _⟩
  · simp only [Value.slice.injEq] at h1; omega
  · simp only [Value.slice.injEq] at h1; exact ⟨g, h1.1, h2, h3⟩
section
variable {α : Type}
def RW (n : Nat) (f : Nat → α) : List α := (List.range n).map f
theorem rw_len (n : Nat) (f : Nat → α) : (RW n f).length = n := by simp [RW]
theorem rw_get (n : Nat) (f : Nat → α) (i : Nat) (h : i < (RW n f).length) : (RW n f)[i] = f i := by simp [RW]
theorem rw_set (n : Nat) (f : Nat → α) (i : Nat) (x : α) : (RW n f).set i x = RW n (upz f i x) := by
  apply List.ext_getElem
  · simp [RW]
  · intro j h1 h2
    rw [rw_get, List.getElem_set]
    by_cases e : i = j
    · subst e; simp [upz]
    · rw [if_neg e, rw_get, upz_other _ _ (fun h => e h.symm)]
theorem rw_rep (n : Nat) (x : α) : List.replicate n x = RW n (fun _ => x) := by
  apply List.ext_getElem
  · simp [RW]
  · intro i h1 h2; simp [RW]
theorem rw_congr {n : Nat} {f g : Nat → α} (h : ∀ v, v < n → f v = g v) : RW n f = RW n g := by
  unfold RW
  apply List.map_congr_left
  intro v hv
  exact h v (List.mem_range.1 hv)
theorem rw_inj {n : Nat} {f g : Nat → α} (h : RW n f = RW n g) (v : Nat) (hv : v < n) : f v = g v := by
  have e : (RW n f)[v]'(by rw [rw_len]; exact hv) = (RW n g)[v]'(by rw [rw_len]; exact hv) := by simp [h]
  rw [rw_get, rw_get] at e
  exact e
/-- the first k rows of a table, the others empty -/
def MXp (n k : Nat) (m : Nat → Nat → α) : List (List α) := (List.range n).map fun i => if i < k then RW n (m i) else []
def rowup (m : Nat → Nat → α) (k : Nat) (f : Nat → α) : Nat → Nat → α := fun i j => if i = k then f j else m i j
theorem mxp_len (n k : Nat) (m : Nat → Nat → α) : (MXp n k m).length = n := by simp [MXp]
theorem mxp_get (n k : Nat) (m : Nat → Nat → α) (i : Nat) (hi : i < k) (h : i < (MXp n k m).length) : (MXp n k m)[i] = RW n (m i) := by simp [MXp, hi]
theorem mxp_congr {n k : Nat} {m m' : Nat → Nat → α} (h : ∀ i j, i < k → j < n → m i j = m' i j) : MXp n k m = MXp n k m' := by
  unfold MXp
  apply List.map_congr_left
  intro i hi
  split
  · rename_i hik
    exact rw_congr (fun v hv => h i v hik hv)
  · rfl
theorem mxp_zero (n : Nat) (m : Nat → Nat → α) : MXp n 0 m = List.replicate n [] := by
  apply List.ext_getElem
  · simp [MXp]
  · intro i h1 h2; simp [MXp]
theorem mxp_row (n k : Nat) (m : Nat → Nat → α) (f : Nat → α) : (MXp n k m).set k (RW n f) = MXp n (k + 1) (rowup m k f) := by
  apply List.ext_getElem
  · simp [MXp]
  · intro i h1 h2
    rw [List.getElem_set]
    by_cases e : k = i
    · subst e
      rw [if_pos rfl, mxp_get _ _ _ _ (by omega)]
      exact rw_congr (fun v _ => by simp [rowup])
    · rw [if_neg e]
      simp only [MXp, List.getElem_map, List.getElem_range]
      by_cases hi : i < k
      · rw [if_pos hi, if_pos (by omega)]
        exact rw_congr (fun v _ => by simp [rowup, show ¬ i = k by omega])
      · rw [if_neg hi, if_neg (by omega)]
theorem mxp_put (n k : Nat) (m : Nat → Nat → α) (i j : Nat) (hi : i < k) (x : α) (h : i < (MXp n k m).length) : (MXp n k m).set i (((MXp n k m)[i]).set j x) = MXp n k (upm m i j x) := by
  rw [mxp_get _ _ _ _ hi, rw_set]
  apply List.ext_getElem
  · simp [MXp]
  · intro a h1 h2
    rw [List.getElem_set]
    have ha : a < n := by simpa [mxp_len] using h2
    by_cases e : i = a
    · subst e
      rw [if_pos rfl, mxp_get _ _ _ _ hi]
      exact rw_congr (fun v _ => by by_cases hv : v = j <;> simp [upm, upz, hv])
    · rw [if_neg e]
      simp only [MXp, List.getElem_map, List.getElem_range]
      split
      · exact rw_congr (fun v _ => by simp [upm, show ¬ a = i from fun h => e h.symm])
      · rfl
theorem rowup_self (m : Nat → Nat → α) (k : Nat) : rowup m k (m k) = m := by
  funext i j
  unfold rowup
  split
  · rename_i h; rw [h]
  · rfl
theorem rowup_up (m : Nat → Nat → α) (k : Nat) (f : Nat → α) (j : Nat) (x : α) : upm (rowup m k f) k j x = rowup m k (upz f j x) := by
  funext a b
  simp only [upm, rowup, upz]
  by_cases h1 : a = k <;> by_cases h2 : b = j <;> simp [h1, h2]
end

/-- one element of a row stored -/
theorem Own2.setAt {α : Type} {enc : α → List Value} {eo ei : TypeId} {w : World} {base g n c : Nat} {rows : List (List α)} (h : Own2 enc 1 eo ei w base (.slice (some ⟨g, 0, none⟩) n c) rows) (hne : eo ≠ ei) (hlen : ∀ x, (enc x).length = 1) (i : Nat) (hi : i < rows.length) (j : Nat) (hj : j < rows[i].length)
    {gi ni ci : Nat} (hc : w.cell? ⟨g, i, none⟩ = some (.slice (some ⟨gi, 0, none⟩) ni ci)) (x : α) (u : Value) (hx : enc x = [u]) : Own2 enc 1 eo ei (w.setCell ⟨gi, j, none⟩ u) base (.slice (some ⟨g, 0, none⟩) n c) (rows.set i (rows[i].set j x)) := by
  have hap := h.apart hne i hi hc
  obtain ⟨vs, h1, h2, h3, h4⟩ := h
  have hi' : i < vs.length := by omega
  have hv0 : vs[i] = .slice (some ⟨gi, 0, none⟩) ni ci := by
    have := h2.get lenV i hi' 0 vs[i] (by simp [encV])
    simp at this
    rw [this] at hc
    exact Option.some.inj hc
  have hgi : gi ≠ g := by intro e; exact hap (by simp [Value.ownBlock, e])
  refine ⟨vs, by simp [h1], h2.elsewhere (by simp [Value.ownBlock]; omega) _, ?_, h4⟩
  intro a ha ha'
  rw [List.length_set] at ha
  by_cases e : i = a
  · subst e
    rw [List.getElem_set_self]
    have ho := h3 i ha ha'
    rw [hv0] at ho
    have hl := ho.len
    subst hl
    rw [hv0]
    have hj1 : (enc (rows[i][j])).set 0 u = [u] := by
      have h5 := hlen (rows[i][j])
      match hr : enc (rows[i][j]), h5 with
      | [y], _ => rfl
    have := ho.put hlen j hj 0 (by omega) u x (by rw [hx, hj1])
    simpa using this
  · rw [List.getElem_set_ne e]
    refine (h3 a ha ha').elsewhere ?_ _
    intro e2
    exact h4 i a hi' ha' gi e (by rw [hv0]; simp [Value.ownBlock]) e2
/-- a table's row: where it stands, what it holds -/
theorem Own2.rowAt {α : Type} {enc : α → List Value} {eo ei : TypeId} {w : World} {base g n c k : Nat} {m : Nat → Nat → α} (h : Own2 enc 1 eo ei w base (.slice (some ⟨g, 0, none⟩) n c) (MXp n k m)) (hne : eo ≠ ei) (hlen : ∀ x, (enc x).length = 1) (i : Nat) (hi : i < k) (hin : i < n) :
    ∃ gi ci, w.cell? ⟨g, i, none⟩ = some (.slice (some ⟨gi, 0, none⟩) n ci) ∧ (∀ j, w.frozen? ⟨gi, j, none⟩ = false) ∧ base ≤ gi ∧ gi < w.heap.size ∧ gi ≠ g ∧ ∀ j, j < n → ∀ u, enc (m i j) = [u] → w.cell? ⟨gi, j, none⟩ = some u := by
  have hi' : i < (MXp n k m).length := by rw [mxp_len]; exact hin
  obtain ⟨av, cv, h1, h2, _⟩ := h.at i hi'
  rw [mxp_get _ _ _ _ hi] at h1 h2
  rw [rw_len] at h1 h2
  obtain ⟨gi, rfl, h3, h4⟩ := h2.blockI' (by omega)
  have hap := h.apart hne i hi' h1
  refine ⟨gi, cv, h1, h2.free, h3, h4, fun e => hap (by simp [Value.ownBlock, e]), fun j hj u hu => ?_⟩
  have := h2.get hlen j (by rw [rw_len]; exact hj) 0 u (by rw [rw_get, hu]; rfl)
  simpa using this
end Go.Proofs.YtccailcjclbhlaaDoor
