/-
  Costs that give way edge by edge, in place and round by round, and what they come to. No program here.
-/
import Derived.Test.YtdpbkhempgghaaaGrow
namespace Go.Proofs.Ytdpbkhempgghaaa
set_option linter.unusedVariables false

/-- where no walk leads -/
def FAR : Int := 1099511627776
/-- an edge between places: from, to, cost -/
structure NE where
  u : Nat
  v : Nat
  c : Int
def upz {α : Type} (f : Nat → α) (i : Nat) (x : α) : Nat → α := fun v => if v = i then x else f v
theorem upz_same {α : Type} (f : Nat → α) (i : Nat) (x : α) : upz f i x i = x := by simp [upz]
theorem upz_other {α : Type} (f : Nat → α) {i v : Nat} (x : α) (h : v ≠ i) : upz f i x v = f v := by simp [upz, h]

/-- one edge, all costs taken as they were -/
def spreadE (d nx : Nat → Int) (e : NE) : Nat → Int := if d e.u < FAR then upz nx e.v (min (nx e.v) (d e.u + e.c)) else nx
def spread1 (es : List NE) (d : Nat → Int) : Nat → Int := es.foldl (spreadE d) d
def spread (es : List NE) (d : Nat → Int) : Nat → (Nat → Int) | 0 => d | k + 1 => spread1 es (spread es d k)

/-- costs, where from, the last that gave way -/
structure BS where
  d : Nat → Int
  p : Nat → Int
  last : Int
def bstep (s : BS) (e : NE) : BS := if s.d e.u < FAR ∧ s.d e.u + e.c < s.d e.v then ⟨upz s.d e.v (s.d e.u + e.c), upz s.p e.v (e.u : Int), (e.v : Int)⟩ else s
def bround (es : List NE) (s : BS) : BS := es.foldl bstep { s with last := -1 }
def brelax (es : List NE) : Nat → BS → BS | 0, s => s | n + 1, s => if (bround es s).last < 0 then bround es s else brelax es n (bround es s)

/-- a walk from a start, and what it costs with the start's own cost -/
inductive At (es : List NE) (s : Nat → Int) : Nat → Int → Prop
  | base (v : Nat) (h : s v < FAR) : At es s v (s v)
  | step (e : NE) (x : Int) (he : e ∈ es) (h : At es s e.u x) (hx : x < FAR) (hy : x + e.c < FAR) : At es s e.v (x + e.c)
def Feas (es : List NE) (f : Nat → Int) : Prop := ∀ e ∈ es, f e.u < FAR → f e.v ≤ f e.u + e.c
def Att (es : List NE) (s f : Nat → Int) : Prop := ∀ v, f v ≤ s v ∧ (f v < FAR → At es s v (f v))

theorem at_lt {es : List NE} {s : Nat → Int} {v : Nat} {x : Int} (h : At es s v x) : x < FAR := by
  cases h with
  | base v h => exact h
  | step e x he h hx hy => exact hy
theorem at_ge {es : List NE} {s f : Nat → Int} (hf : Feas es f) (hs : ∀ v, f v ≤ s v) {v : Nat} {x : Int} (h : At es s v x) : f v ≤ x := by
  induction h with
  | base v h => exact hs v
  | step e x he h hx hy ih =>
    have := hf e he (by omega)
    omega

theorem spreadE_le (d nx : Nat → Int) (e : NE) (v : Nat) : spreadE d nx e v ≤ nx v := by
  unfold spreadE
  split
  · by_cases h : v = e.v
    · subst h; rw [upz_same]; omega
    · rw [upz_other _ _ h]; exact Int.le_refl _
  · exact Int.le_refl _
theorem foldE_le (d : Nat → Int) : ∀ (es : List NE) (nx : Nat → Int) (v : Nat), es.foldl (spreadE d) nx v ≤ nx v
  | [], nx, v => Int.le_refl _
  | e :: r, nx, v => Int.le_trans (foldE_le d r _ v) (spreadE_le d nx e v)
theorem spread1_le (es : List NE) (d : Nat → Int) (v : Nat) : spread1 es d v ≤ d v := foldE_le d es d v
theorem foldE_edge (d : Nat → Int) : ∀ (es : List NE) (nx : Nat → Int) (e : NE), e ∈ es → d e.u < FAR → es.foldl (spreadE d) nx e.v ≤ d e.u + e.c
  | x :: r, nx, e, he, hu => by
    rcases List.mem_cons.1 he with rfl | hm
    · refine Int.le_trans (foldE_le d r _ e.v) ?_
      unfold spreadE
      rw [if_pos hu, upz_same]
      omega
    · exact foldE_edge d r _ e hm hu
theorem spread1_edge (es : List NE) (d : Nat → Int) (e : NE) (he : e ∈ es) (hu : d e.u < FAR) : spread1 es d e.v ≤ d e.u + e.c := foldE_edge d es d e he hu
theorem foldE_ge {f d : Nat → Int} : ∀ (es : List NE) (nx : Nat → Int), Feas es f → (∀ v, f v ≤ d v) → (∀ v, f v ≤ nx v) → ∀ v, f v ≤ es.foldl (spreadE d) nx v
  | [], nx, _, _, h, v => h v
  | e :: r, nx, hf, hd, h, v => by
    refine foldE_ge r _ (fun e he => hf e (List.mem_cons_of_mem _ he)) hd (fun v => ?_) v
    unfold spreadE
    split
    · rename_i hu
      by_cases hv : v = e.v
      · subst hv
        rw [upz_same]
        have h1 := hf e (List.mem_cons_self ..) (by have := hd e.u; omega)
        have h2 := hd e.u
        have h3 := h e.v
        omega
      · rw [upz_other _ _ hv]; exact h v
    · exact h v
theorem spread_ge {es : List NE} {s f : Nat → Int} (hf : Feas es f) (hs : ∀ v, f v ≤ s v) : ∀ t v, f v ≤ spread es s t v
  | 0, v => hs v
  | t + 1, v => foldE_ge es _ hf (spread_ge hf hs t) (spread_ge hf hs t) v
theorem spread_le (es : List NE) (s : Nat → Int) : ∀ t v, spread es s t v ≤ s v
  | 0, v => Int.le_refl _
  | t + 1, v => Int.le_trans (spread1_le es _ v) (spread_le es s t v)
theorem foldE_att {E : List NE} {s d : Nat → Int} : ∀ (es : List NE) (nx : Nat → Int), (∀ e ∈ es, e ∈ E) → (∀ v, s v ≤ FAR) → Att E s d → Att E s nx → Att E s (es.foldl (spreadE d) nx)
  | [], nx, _, _, _, h => h
  | e :: r, nx, hE, hs, hd, h => by
    refine foldE_att r _ (fun e he => hE e (List.mem_cons_of_mem _ he)) hs hd (fun v => ?_)
    have hle := spreadE_le d nx e v
    refine ⟨Int.le_trans hle (h v).1, fun hlt => ?_⟩
    unfold spreadE at hlt ⊢
    split
    · rename_i hu
      rw [if_pos hu] at hlt
      by_cases hv : v = e.v
      · subst hv
        rw [upz_same] at hlt ⊢
        rcases Int.le_total (nx e.v) (d e.u + e.c) with hh | hh
        · rw [Int.min_eq_left hh] at hlt ⊢
          exact (h e.v).2 hlt
        · rw [Int.min_eq_right hh] at hlt ⊢
          exact At.step e _ (hE e (List.mem_cons_self ..)) ((hd e.u).2 hu) hu hlt
      · rw [upz_other _ _ hv] at hlt ⊢; exact (h v).2 hlt
    · rename_i hu
      rw [if_neg hu] at hlt
      exact (h v).2 hlt
theorem att_start (es : List NE) (s : Nat → Int) : Att es s s := fun v => ⟨Int.le_refl _, fun h => At.base v h⟩
theorem spread_att (es : List NE) (s : Nat → Int) (hs : ∀ v, s v ≤ FAR) : ∀ t, Att es s (spread es s t)
  | 0 => att_start es s
  | t + 1 => foldE_att es _ (fun _ h => h) hs (spread_att es s hs t) (spread_att es s hs t)

/-- costs that no edge undercuts, each the cost of a walk, are what the rounds come to -/
theorem spread_fix {es : List NE} {s f : Nat → Int} {n : Nat} (hn : 1 ≤ n) (hes : ∀ e ∈ es, e.u < n ∧ e.v < n) (hs : ∀ v, s v ≤ FAR) (hf : Feas es f) (ha : Att es s f) (t : Nat) (ht : n ≤ t + 1) (v : Nat) (hv : v < n) : spread es s t v = f v := by
  have hfs : ∀ v, f v ≤ s v := fun v => (ha v).1
  have lo := spread_ge hf hfs
  have top : ∀ t v, f v = FAR → spread es s t v = f v := by
    intro t v h
    have h1 := lo t v
    have h2 := spread_le es s t v
    have h3 := hs v
    omega
  have tight : ∀ t, (∀ u, u < n → spread es s (t + 1) u = f u → spread es s t u = f u) → ∀ v x, At es s v x → v < n → x = f v → spread es s t v = f v := by
    intro t hst v x h
    induction h with
    | base v h =>
      intro hv hx
      have h1 := lo t v
      have h2 := spread_le es s t v
      omega
    | step e x he h hx hy ih =>
      intro hv hxe
      have h1 := at_ge hf hfs h
      have h2 := hf e he (by omega)
      have h3 : x = f e.u := by omega
      have h4 := ih (hes e he).1 h3
      have h5 := spread1_edge es (spread es s t) e he (by omega)
      have h6 := lo (t + 1) e.v
      refine hst e.v hv ?_
      have h7 : spread es s (t + 1) e.v ≤ spread es s t e.u + e.c := h5
      omega
  have all : ∀ t, (∀ u, u < n → spread es s (t + 1) u = f u → spread es s t u = f u) → ∀ v, v < n → spread es s t v = f v := by
    intro t hst v hv
    by_cases hF : f v < FAR
    · exact tight t hst v _ ((ha v).2 hF) hv rfl
    · have h1 := hs v
      have h2 := hfs v
      exact top t v (by omega)
  have some0 : ∀ v x, At es s v x → v < n → x = f v → ∃ v0, v0 < n ∧ s v0 = f v0 := by
    intro v x h
    induction h with
    | base v h => intro hv hx; exact ⟨v, hv, hx⟩
    | step e x he h hx hy ih =>
      intro hv hxe
      have h1 := at_ge hf hfs h
      have h2 := hf e he (by omega)
      exact ih (hes e he).1 (by omega)
  have g := grow (n := n) (fun t u => decide (spread es s t u = f u)) (fun t u _ h => by
      have h0 : spread es s t u = f u := by simpa using h
      have h1 := lo (t + 1) u
      have h2 : spread es s (t + 1) u ≤ spread es s t u := spread1_le es _ u
      simp
      omega)
    (fun t hst u hu _ => by
      have h0 := all t (fun u hu h => by simpa using hst u hu (by simpa using h)) u hu
      have h1 := lo (t + 1) u
      have h2 : spread es s (t + 1) u ≤ spread es s t u := spread1_le es _ u
      simp
      omega)
    (by
      by_cases hF : f 0 < FAR
      · obtain ⟨v0, h1, h2⟩ := some0 0 _ ((ha 0).2 hF) (by omega) rfl
        exact ⟨v0, h1, decide_eq_true h2⟩
      · have h1 := hs 0
        have h2 := hfs 0
        exact ⟨0, by omega, decide_eq_true (show s 0 = f 0 by omega)⟩)
    t ht
  exact all t (fun u hu h => by simpa using g u hu (by simpa using h)) v hv

/-! in place -/
theorem bstep_le (s : BS) (e : NE) (v : Nat) : (bstep s e).d v ≤ s.d v := by
  unfold bstep
  split
  · rename_i h
    by_cases hv : v = e.v
    · subst hv; simp only [upz_same]; omega
    · simp only [upz_other _ _ hv]; exact Int.le_refl _
  · exact Int.le_refl _
theorem bstep_last (s : BS) (e : NE) (h : 0 ≤ s.last) : 0 ≤ (bstep s e).last := by
  unfold bstep
  split
  · simp
  · exact h
theorem bfold_last : ∀ (es : List NE) (s : BS), 0 ≤ s.last → 0 ≤ (es.foldl bstep s).last
  | [], s, h => h
  | e :: r, s, h => bfold_last r _ (bstep_last s e h)
theorem bfold_quiet : ∀ (es : List NE) (s : BS), (es.foldl bstep s).last < 0 → es.foldl bstep s = s ∧ ∀ e ∈ es, ¬ (s.d e.u < FAR ∧ s.d e.u + e.c < s.d e.v)
  | [], s, h => ⟨rfl, fun e he => by cases he⟩
  | e :: r, s, h => by
    by_cases hc : s.d e.u < FAR ∧ s.d e.u + e.c < s.d e.v
    · have h1 : 0 ≤ (bstep s e).last := by unfold bstep; rw [if_pos hc]; simp
      have h2 := bfold_last r _ h1
      have h3 : (r.foldl bstep (bstep s e)).last < 0 := h
      omega
    · have h1 : bstep s e = s := by unfold bstep; rw [if_neg hc]
      have h2 : (r.foldl bstep (bstep s e)).last < 0 := h
      rw [h1] at h2
      have ⟨h3, h4⟩ := bfold_quiet r s h2
      refine ⟨by show r.foldl bstep (bstep s e) = s; rw [h1]; exact h3, fun x hx => ?_⟩
      cases hx with
      | head => exact hc
      | tail _ hm => exact h4 x hm
theorem bfold_same : ∀ (es : List NE) (s : BS), (∀ e ∈ es, ¬ (s.d e.u < FAR ∧ s.d e.u + e.c < s.d e.v)) → es.foldl bstep s = s
  | [], s, _ => rfl
  | e :: r, s, h => by
    have h1 : bstep s e = s := by unfold bstep; rw [if_neg (h e (List.mem_cons_self ..))]
    show r.foldl bstep (bstep s e) = s
    rw [h1]
    exact bfold_same r s (fun x hx => h x (List.mem_cons_of_mem _ hx))
theorem bfold_ge {f : Nat → Int} : ∀ (es : List NE) (s : BS), Feas es f → (∀ v, f v ≤ s.d v) → ∀ v, f v ≤ (es.foldl bstep s).d v
  | [], s, _, h, v => h v
  | e :: r, s, hf, h, v => by
    refine bfold_ge r _ (fun e he => hf e (List.mem_cons_of_mem _ he)) (fun v => ?_) v
    unfold bstep
    split
    · rename_i hu
      by_cases hv : v = e.v
      · subst hv
        simp only [upz_same]
        have h1 := hf e (List.mem_cons_self ..) (by have := h e.u; omega)
        have h2 := h e.u
        omega
      · simp only [upz_other _ _ hv]; exact h v
    · exact h v
theorem bfold_att {E : List NE} {s0 : Nat → Int} : ∀ (es : List NE) (s : BS), (∀ e ∈ es, e ∈ E) → Att E s0 s.d → (∀ v, s.d v ≤ FAR) → Att E s0 (es.foldl bstep s).d ∧ ∀ v, (es.foldl bstep s).d v ≤ FAR
  | [], s, _, h, hF => ⟨h, hF⟩
  | e :: r, s, hE, h, hF => by
    refine bfold_att r _ (fun e he => hE e (List.mem_cons_of_mem _ he)) (fun v => ?_) (fun v => Int.le_trans (bstep_le s e v) (hF v))
    refine ⟨Int.le_trans (bstep_le s e v) (h v).1, fun hlt => ?_⟩
    unfold bstep at hlt ⊢
    split
    · rename_i hu
      rw [if_pos hu] at hlt
      by_cases hv : v = e.v
      · subst hv
        simp only [upz_same] at hlt ⊢
        exact At.step e _ (hE e (List.mem_cons_self ..)) ((h e.u).2 hu.1) hu.1 hlt
      · simp only [upz_other _ _ hv] at hlt ⊢; exact (h v).2 hlt
    · rename_i hu
      rw [if_neg hu] at hlt
      exact (h v).2 hlt
theorem bfold_spread {d : Nat → Int} : ∀ (es : List NE) (s : BS) (nx : Nat → Int), (∀ v, s.d v ≤ d v) → (∀ v, s.d v ≤ nx v) → ∀ v, (es.foldl bstep s).d v ≤ es.foldl (spreadE d) nx v
  | [], s, nx, _, h, v => h v
  | e :: r, s, nx, hd, h, v => by
    refine bfold_spread r _ _ (fun v => Int.le_trans (bstep_le s e v) (hd v)) (fun v => ?_) v
    have hs := bstep_le s e v
    unfold spreadE
    split
    · rename_i hu
      by_cases hv : v = e.v
      · subst hv
        rw [upz_same]
        have h1 := hd e.u
        have h2 : (bstep s e).d e.v ≤ s.d e.u + e.c := by
          unfold bstep
          split
          · simp only [upz_same]; omega
          · rename_i hc
            have : ¬ s.d e.u + e.c < s.d e.v := fun hh => hc ⟨by omega, hh⟩
            omega
        have h3 := h e.v
        omega
      · rw [upz_other _ _ hv]; exact Int.le_trans hs (h v)
    · exact Int.le_trans hs (h v)
theorem brelax_att {es : List NE} {s0 : Nat → Int} : ∀ (m : Nat) (s : BS), Att es s0 s.d → (∀ v, s.d v ≤ FAR) → Att es s0 (brelax es m s).d ∧ ∀ v, (brelax es m s).d v ≤ FAR
  | 0, s, h, hF => ⟨h, hF⟩
  | m + 1, s, h, hF => by
    have h1 := bfold_att es { s with last := -1 } (fun _ h => h) h hF
    unfold brelax
    split
    · exact h1
    · exact brelax_att m _ h1.1 h1.2
theorem brelax_feas {es : List NE} : ∀ (m : Nat) (s : BS), 1 ≤ m → (brelax es m s).last < 0 → Feas es (brelax es m s).d
  | m + 1, s, _, h => by
    unfold brelax at h ⊢
    split
    · rename_i hl
      obtain ⟨h1, h2⟩ := bfold_quiet es _ hl
      intro e he hu
      have h3 := h2 e he
      unfold bround at hu ⊢
      rw [h1] at hu ⊢
      simp only at hu h3 ⊢
      have : ¬ s.d e.u + e.c < s.d e.v := fun hh => h3 ⟨hu, hh⟩
      omega
    · rename_i hl
      rw [if_neg hl] at h
      cases m with
      | zero => exact absurd h hl
      | succ k => exact brelax_feas (k + 1) _ (by omega) h
/-- where the rounds stand still at last, no place gives way in the last round in place -/
theorem brelax_still {es : List NE} {n : Nat} {s0 f : Nat → Int} (hes : ∀ e ∈ es, e.u < n ∧ e.v < n) (hf : Feas es f) (hfs : ∀ v, f v ≤ s0 v) (hfix : ∀ v, v < n → spread es s0 (n - 1) v = f v) :
    ∀ (m t : Nat) (s : BS), 1 ≤ m → m + t = n → (∀ v, f v ≤ s.d v) → (∀ v, s.d v ≤ spread es s0 t v) → (brelax es m s).last < 0
  | m + 1, t, s, _, hmt, hlo, hhi => by
    unfold brelax
    split
    · assumption
    · rename_i hl
      cases m with
      | zero =>
        exfalso
        apply hl
        have ht : t = n - 1 := by omega
        subst ht
        have heq : ∀ v, v < n → s.d v = f v := fun v hv => by have h1 := hlo v; have h2 := hhi v; have h3 := hfix v hv; omega
        have : bround es s = { s with last := -1 } := by
          refine bfold_same es _ (fun e he hc => ?_)
          simp only at hc
          have h1 := hf e he
          rw [heq _ (hes e he).1, heq _ (hes e he).2] at hc
          have := h1 hc.1
          omega
        rw [this]
        simp
      | succ k =>
        refine brelax_still hes hf hfs hfix (k + 1) (t + 1) _ (by omega) (by omega) ?_ ?_
        · exact bfold_ge es _ hf hlo
        · exact fun v => bfold_spread es { s with last := -1 } _ hhi hhi v

/-- what Relax comes to: it says whether there is a bad cycle, and if there is none the costs of the rounds -/
theorem brelax_says {es : List NE} {n : Nat} {s0 : Nat → Int} (p0 : Nat → Int) (l0 : Int) (hn : 1 ≤ n) (hes : ∀ e ∈ es, e.u < n ∧ e.v < n) (hs : ∀ v, s0 v ≤ FAR) :
    ((brelax es n ⟨s0, p0, l0⟩).last < 0 ↔ ∀ v, v < n → spread es s0 (n - 1) v = spread es s0 n v) ∧
    ((brelax es n ⟨s0, p0, l0⟩).last < 0 → ∀ v, v < n → (brelax es n ⟨s0, p0, l0⟩).d v = spread es s0 (n - 1) v) := by
  have hatt := brelax_att (es := es) (s0 := s0) n ⟨s0, p0, l0⟩ (att_start es s0) hs
  have key : (brelax es n ⟨s0, p0, l0⟩).last < 0 → ∀ t, n ≤ t + 1 → ∀ v, v < n → spread es s0 t v = (brelax es n ⟨s0, p0, l0⟩).d v := by
    intro h t ht v hv
    exact spread_fix hn hes hs (brelax_feas n _ hn h) hatt.1 t ht v hv
  refine ⟨⟨fun h v hv => ?_, fun h => ?_⟩, fun h v hv => ?_⟩
  · rw [key h (n - 1) (by omega) v hv, key h n (by omega) v hv]
  · -- the rounds' end is the costs that no edge undercuts, below n
    have hsp := spread_att es s0 hs (n - 1)
    let f : Nat → Int := fun v => spread es s0 (n - 1) v
    have hf : Feas es f := by
      intro e he hu
      have h1 := spread1_edge es (spread es s0 (n - 1)) e he hu
      have h2 := h e.v (hes e he).2
      have h3 : spread es s0 n e.v = spread1 es (spread es s0 (n - 1)) e.v := by
        obtain ⟨m, rfl⟩ : ∃ m, n = m + 1 := ⟨n - 1, by omega⟩
        rfl
      show spread es s0 (n - 1) e.v ≤ spread es s0 (n - 1) e.u + e.c
      omega
    exact brelax_still hes hf (fun v => (hsp v).1) (fun v _ => rfl) n 0 _ hn (by omega) (fun v => (hsp v).1) (fun v => Int.le_refl _)
  · exact (key h (n - 1) (by omega) v hv).symm
end Go.Proofs.Ytdpbkhempgghaaa
