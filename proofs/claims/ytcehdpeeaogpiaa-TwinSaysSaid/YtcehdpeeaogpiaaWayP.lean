/-
  The way back along least costs: the place before each place; costs that no edge undercuts. No program here.
-/
import Derived.Test.YtcehdpeeaogpiaaDijkP
import Derived.Test.YtcehdpeeaogpiaaAllP
namespace Go.Proofs.Ytcehdpeeaogpiaa
set_option linter.unusedVariables false

/-- the edges of one place, one after the other -/
theorem dij_scan {n : Nat} {E : List NE} {s : Nat → Int} {S : Nat → Bool} {m : Int} (hE : ∀ e ∈ E, e.u < n ∧ e.v < n ∧ 1 ≤ e.c) :
    ∀ (todo : List NE) (d : Nat → Int) (L : List P2), DInv n E s S m todo d L → (∀ e ∈ todo, e ∈ E ∧ S e.u = true ∧ d e.u = m) → ∃ d' L', DInv n E s S m [] d' L' ∧ L'.length ≤ L.length + todo.length
  | [], d, L, h, _ => ⟨d, L, h, by simp⟩
  | e :: r, d, L, h, ht => by
    obtain ⟨e1, e2, e3⟩ := ht e (List.mem_cons_self ..)
    obtain ⟨b1, b2, b3⟩ := hE e e1
    by_cases q : m + e.c < d e.v
    · have h2 := h.give e1 b2 e2 e3 (by omega) q (List.Perm.refl _)
      have hSv : S e.v = false := by
        cases hh : S e.v with
        | false => rfl
        | true => have := h.low _ hh; omega
      obtain ⟨d', L', h3, h4⟩ := dij_scan hE r _ _ h2 (fun x hx => by
        obtain ⟨f1, f2, f3⟩ := ht x (List.mem_cons_of_mem _ hx)
        refine ⟨f1, f2, ?_⟩
        rw [upz_other _ _ (by intro hc; rw [hc, hSv] at f2; cases f2)]
        exact f3)
      exact ⟨d', L', h3, by simp at h4; simp; omega⟩
    · have h2 := h.stay e3 q
      obtain ⟨d', L', h3, h4⟩ := dij_scan hE r _ _ h2 (fun x hx => ht x (List.mem_cons_of_mem _ hx))
      exact ⟨d', L', h3, by simp; omega⟩
/-- the least of what waits -/
theorem least_of : ∀ (L : List P2), L ≠ [] → ∃ p L', (p :: L').Perm L ∧ ∀ q ∈ L', p.a ≤ q.a
  | [], h => absurd rfl h
  | [x], _ => ⟨x, [], List.Perm.refl _, by simp⟩
  | x :: y :: r, _ => by
    obtain ⟨p, L', h1, h2⟩ := least_of (y :: r) (by simp)
    by_cases q : x.a ≤ p.a
    · refine ⟨x, y :: r, List.Perm.refl _, fun z hz => ?_⟩
      rcases List.mem_cons.1 (h1.mem_iff.2 hz) with rfl | hz
      · exact q
      · have := h2 z hz; omega
    · refine ⟨p, x :: L', (List.Perm.swap ..).trans (h1.cons x), fun z hz => ?_⟩
      rcases List.mem_cons.1 hz with rfl | hz
      · omega
      · exact h2 z hz
theorem dij_run {n : Nat} {E : List NE} {s : Nat → Int} (hE : ∀ e ∈ E, e.u < n ∧ e.v < n ∧ 1 ≤ e.c) :
    ∀ (M : Nat) (S : Nat → Bool) (m : Int) (d : Nat → Int) (L : List P2), DInv n E s S m [] d L → L.length + rest E S ≤ M → ∃ S' m' d', DInv n E s S' m' [] d' [] := by
  intro M
  induction M with
  | zero =>
    intro S m d L h hM
    have : L = [] := List.eq_nil_of_length_eq_zero (by omega)
    subst this
    exact ⟨S, m, d, h⟩
  | succ M ih =>
    intro S m d L h hM
    by_cases hL : L = []
    · subst hL; exact ⟨S, m, d, h⟩
    obtain ⟨p, L', h1, h2⟩ := least_of L hL
    have hlen : L.length = L'.length + 1 := by simpa using h1.length_eq.symm
    obtain ⟨p1, p2, p3, _⟩ := h.ent p (h1.mem_iff.1 (List.mem_cons_self ..))
    obtain ⟨v, hv⟩ := Int.eq_ofNat_of_zero_le p1
    by_cases q : d p.b.toNat < p.a
    · exact ih S m d L' (h.drop h1 q) (by omega)
    · have hbt : p.b.toNat = v := by rw [hv]; simp
      rw [hbt] at q
      obtain ⟨k1, k2, k3, k4⟩ := h.look (todo := E.filter (fun e => decide (e.u = v))) h1 hv (by omega) h2 (fun e he hu => List.mem_filter.2 ⟨he, by simpa using hu⟩)
      obtain ⟨d', L2, h3, h4⟩ := dij_scan hE _ d L' k4 (fun e he => by
        obtain ⟨f1, f2⟩ := List.mem_filter.1 he
        have f3 : e.u = v := by simpa using f2
        exact ⟨f1, by rw [f3, upz_same], by rw [f3]; exact k1.symm⟩)
      refine ih _ _ _ _ h3 ?_
      have hr := rest_mark (E := E) k2
      rw [← List.countP_eq_length_filter] at h4
      omega
/-- of a net of costs above 0: the rounds' costs are undercut by no edge -/
theorem spread_feas {n : Nat} {E : List NE} {v : Nat} (hE : ∀ e ∈ E, e.u < n ∧ e.v < n ∧ 1 ≤ e.c) (hv : v < n) :
    (∀ e ∈ E, spread E (stF v) (n - 1) e.u < FAR → spread E (stF v) (n - 1) e.v ≤ spread E (stF v) (n - 1) e.u + e.c) ∧ ∀ u, u < n → 0 ≤ spread E (stF v) (n - 1) u := by
  have hst := DInv.start (n := n) (E := E) (s := stF v) v hv (by simp [stF]) (fun u hu => by simp [stF, hu])
  obtain ⟨S, m, d, h⟩ := dij_run hE _ _ _ _ _ hst (Nat.le_refl _)
  have hd := fun u hu => h.done (by omega) (fun e he => ⟨(hE e he).1, (hE e he).2.1⟩) (stF_far v) u hu
  refine ⟨fun e he hlt => ?_, fun u hu => by rw [hd u hu]; exact h.pos u⟩
  obtain ⟨b1, b2, _⟩ := hE e he
  rw [hd _ b1] at hlt ⊢
  rw [hd _ b2]
  refine h.edge e he ?_ (by simp)
  cases hh : S e.u with
  | true => rfl
  | false => have := h.wait e.u b1 hlt hh; cases this
/-- the place before v on a least way: the least that there is -/
def prevF (n : Nat) (E : List NE) (d : Nat → Int) (v : Nat) : Nat := E.foldl (fun u e => if e.v = v ∧ d e.u + e.c = d v then min u e.u else u) n
theorem prev_fold {d : Nat → Int} {v : Nat} : ∀ (E : List NE) (n : Nat), E.foldl (fun u e => if e.v = v ∧ d e.u + e.c = d v then min u e.u else u) n ≤ n ∧
    (∀ e ∈ E, e.v = v → d e.u + e.c = d v → E.foldl (fun u e => if e.v = v ∧ d e.u + e.c = d v then min u e.u else u) n ≤ e.u) ∧
    (E.foldl (fun u e => if e.v = v ∧ d e.u + e.c = d v then min u e.u else u) n = n ∨ ∃ e ∈ E, e.v = v ∧ d e.u + e.c = d v ∧ e.u = E.foldl (fun u e => if e.v = v ∧ d e.u + e.c = d v then min u e.u else u) n)
  | [], n => ⟨Nat.le_refl _, by simp, .inl rfl⟩
  | x :: r, n => by
    simp only [List.foldl_cons]
    by_cases q : x.v = v ∧ d x.u + x.c = d v
    · rw [if_pos q]
      obtain ⟨h1, h2, h3⟩ := prev_fold (d := d) (v := v) r (min n x.u)
      refine ⟨by omega, fun e he h4 h5 => ?_, ?_⟩
      · rcases List.mem_cons.1 he with rfl | he
        · omega
        · exact h2 e he h4 h5
      · rcases h3 with h3 | ⟨e, he, h4, h5, h6⟩
        · rcases Nat.le_total n x.u with hh | hh
          · left; rw [h3]; omega
          · right; exact ⟨x, List.mem_cons_self .., q.1, q.2, by rw [h3]; omega⟩
        · right; exact ⟨e, List.mem_cons_of_mem _ he, h4, h5, h6⟩
    · rw [if_neg q]
      obtain ⟨h1, h2, h3⟩ := prev_fold (d := d) (v := v) r n
      refine ⟨h1, fun e he h4 h5 => ?_, ?_⟩
      · rcases List.mem_cons.1 he with rfl | he
        · exact absurd ⟨h4, h5⟩ q
        · exact h2 e he h4 h5
      · rcases h3 with h3 | ⟨e, he, h4⟩
        · exact .inl h3
        · exact .inr ⟨e, List.mem_cons_of_mem _ he, h4⟩
/-- there is a place before, nearer -/
theorem prev_is {n : Nat} {E : List NE} {f v : Nat} (hE : ∀ e ∈ E, e.u < n ∧ e.v < n ∧ 1 ≤ e.c) (hf : f < n) (hv : v < n) (hlt : spread E (stF f) (n - 1) v < FAR) (hne : v ≠ f) :
    prevF n E (spread E (stF f) (n - 1)) v < n ∧ spread E (stF f) (n - 1) (prevF n E (spread E (stF f) (n - 1)) v) < spread E (stF f) (n - 1) v ∧
    ∃ e ∈ E, e.v = v ∧ e.u = prevF n E (spread E (stF f) (n - 1)) v ∧ spread E (stF f) (n - 1) e.u + e.c = spread E (stF f) (n - 1) v := by
  obtain ⟨hfe, hpos⟩ := spread_feas hE hf
  have hatt := spread_att E (stF f) (stF_far f) (n - 1)
  obtain ⟨h1, h2, h3⟩ := prev_fold (d := spread E (stF f) (n - 1)) (v := v) E n
  have hex : ∃ e ∈ E, e.v = v ∧ spread E (stF f) (n - 1) e.u + e.c = spread E (stF f) (n - 1) v := by
    have hat := (hatt v).2 hlt
    generalize hx : spread E (stF f) (n - 1) v = x at hat
    cases hat with
    | base v h =>
      unfold stF at h
      rw [if_neg hne] at h
      omega
    | step e x he h4 h5 h6 =>
      refine ⟨e, he, rfl, ?_⟩
      have h7 := at_ge (f := spread E (stF f) (n - 1)) hfe (fun v => (hatt v).1) h4
      have h8 := hfe e he (by omega)
      omega
  obtain ⟨e0, g1, g2, g3⟩ := hex
  have h4 := h2 e0 g1 g2 g3
  have h5 := (hE e0 g1).1
  rcases h3 with h3 | ⟨e, he, h6, h7, h8⟩
  · omega
  · have hp : prevF n E (spread E (stF f) (n - 1)) v = e.u := h8.symm
    have := (hE e he).2.2
    rw [hp]
    exact ⟨(hE e he).1, by omega, e, he, h6, rfl, h7⟩
/-- step by step back -/
def backF (n : Nat) (E : List NE) (d : Nat → Int) (t : Nat) : Nat → Nat | 0 => t | i + 1 => prevF n E d (backF n E d t i)
theorem back_ends {n : Nat} {E : List NE} {f t : Nat} (hE : ∀ e ∈ E, e.u < n ∧ e.v < n ∧ 1 ≤ e.c) (hf : f < n) (ht : t < n) (hlt : spread E (stF f) (n - 1) t < FAR) :
    ∃ K : Nat, backF n E (spread E (stF f) (n - 1)) t K = f ∧ (∀ j, j ≤ K → backF n E (spread E (stF f) (n - 1)) t j < n ∧ spread E (stF f) (n - 1) (backF n E (spread E (stF f) (n - 1)) t j) < FAR) ∧ (∀ j, j < K → backF n E (spread E (stF f) (n - 1)) t j ≠ f) ∧ (K : Int) ≤ spread E (stF f) (n - 1) t := by
  obtain ⟨_, hpos⟩ := spread_feas hE hf
  have key : ∀ (M i : Nat), (∀ j, j ≤ i → backF n E (spread E (stF f) (n - 1)) t j < n ∧ spread E (stF f) (n - 1) (backF n E (spread E (stF f) (n - 1)) t j) < FAR) → (∀ j, j < i → backF n E (spread E (stF f) (n - 1)) t j ≠ f) →
      spread E (stF f) (n - 1) (backF n E (spread E (stF f) (n - 1)) t i) ≤ M → spread E (stF f) (n - 1) (backF n E (spread E (stF f) (n - 1)) t i) + i ≤ spread E (stF f) (n - 1) t →
      ∃ K : Nat, backF n E (spread E (stF f) (n - 1)) t K = f ∧ (∀ j, j ≤ K → backF n E (spread E (stF f) (n - 1)) t j < n ∧ spread E (stF f) (n - 1) (backF n E (spread E (stF f) (n - 1)) t j) < FAR) ∧ (∀ j, j < K → backF n E (spread E (stF f) (n - 1)) t j ≠ f) ∧ (K : Int) ≤ spread E (stF f) (n - 1) t := by
    intro M
    induction M with
    | zero =>
      intro i h1 h2 h3 h4
      by_cases q : backF n E (spread E (stF f) (n - 1)) t i = f
      · have := hpos _ (h1 i (Nat.le_refl _)).1
        exact ⟨i, q, h1, h2, by omega⟩
      · obtain ⟨p1, p2, _⟩ := prev_is hE hf (h1 i (Nat.le_refl _)).1 (h1 i (Nat.le_refl _)).2 q
        have := hpos _ p1
        omega
    | succ M ih =>
      intro i h1 h2 h3 h4
      by_cases q : backF n E (spread E (stF f) (n - 1)) t i = f
      · have := hpos _ (h1 i (Nat.le_refl _)).1
        exact ⟨i, q, h1, h2, by omega⟩
      · obtain ⟨p1, p2, _⟩ := prev_is hE hf (h1 i (Nat.le_refl _)).1 (h1 i (Nat.le_refl _)).2 q
        have e : backF n E (spread E (stF f) (n - 1)) t (i + 1) = prevF n E (spread E (stF f) (n - 1)) (backF n E (spread E (stF f) (n - 1)) t i) := rfl
        refine ih (i + 1) (fun j hj => ?_) (fun j hj => ?_) (by rw [e]; omega) (by rw [e]; omega)
        · by_cases hji : j ≤ i
          · exact h1 j hji
          · obtain rfl : j = i + 1 := by omega
            rw [e]
            exact ⟨p1, by have := (h1 i (Nat.le_refl _)).2; omega⟩
        · by_cases hji : j < i
          · exact h2 j hji
          · obtain rfl : j = i := by omega
            exact q
  have h0 := hpos t ht
  exact key (spread E (stF f) (n - 1) t).toNat 0 (fun j hj => by obtain rfl : j = 0 := by omega
                                                                 exact ⟨ht, hlt⟩) (fun j hj => by omega) (by show spread E (stF f) (n - 1) t ≤ _; omega) (by show spread E (stF f) (n - 1) t + ((0 : Nat) : Int) ≤ _; omega)
end Go.Proofs.Ytcehdpeeaogpiaa
