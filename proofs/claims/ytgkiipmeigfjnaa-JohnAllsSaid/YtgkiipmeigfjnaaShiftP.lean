/-
  Costs in a net flattened by heights: the heights of the ends apart. No program here.
-/
import Derived.Test.YtgkiipmeigfjnaaFlatP
import Derived.Test.YtgkiipmeigfjnaaStart
namespace Go.Proofs.Ytgkiipmeigfjnaa
set_option linter.unusedVariables false

/-- two tables of costs that differ by heights -/
def Shift (n : Nat) (f : Nat → Int) (a : Nat) (K : Int) (d d' : Nat → Int) : Prop := ∀ v, v < n → (d v = FAR ∧ d' v = FAR) ∨ (d v ≤ K ∧ d' v = d v + f a - f v)
def flN (f : Nat → Int) (e : NE) : NE := ⟨e.u, e.v, e.c + f e.u - f e.v⟩
theorem shift_one {n : Nat} {f : Nat → Int} {a : Nat} {K : Int} {d d' nx nx' : Nat → Int} (hf : ∀ v, -1000000 ≤ f v ∧ f v ≤ 1000000) (hK : K ≤ 1000000) (e : NE) (he : e.u < n ∧ e.v < n ∧ e.c ≤ 10000)
    (hd : Shift n f a K d d') (hn : Shift n f a (K + 10000) nx nx') : Shift n f a (K + 10000) (spreadE d nx e) (spreadE d' nx' (flN f e)) := by
  intro v hv
  have h1 := hd e.u he.1
  have h2 := hn v hv
  have h3 := hn e.v he.2.1
  have f1 := hf a
  have f2 := hf e.u
  have f3 := hf e.v
  rcases h1 with ⟨h1, h1'⟩ | ⟨h1, h1'⟩
  · have a1 : spreadE d nx e = nx := if_neg (by omega)
    have a2 : spreadE d' nx' (flN f e) = nx' := if_neg (by show ¬ d' e.u < FAR; omega)
    rw [a1, a2]
    exact h2
  · have a1 : spreadE d nx e = upz nx e.v (min (nx e.v) (d e.u + e.c)) := if_pos (by unfold FAR; omega)
    have a2 : spreadE d' nx' (flN f e) = upz nx' e.v (min (nx' e.v) (d' e.u + (e.c + f e.u - f e.v))) := if_pos (by show d' e.u < FAR; unfold FAR; omega)
    rw [a1, a2]
    by_cases hve : v = e.v
    · subst hve
      rw [upz_same, upz_same]
      right
      unfold FAR at h3
      omega
    · rw [upz_other _ _ hve, upz_other _ _ hve]
      exact h2
theorem shift_fold {n : Nat} {f : Nat → Int} {a : Nat} {K : Int} {d d' : Nat → Int} (hf : ∀ v, -1000000 ≤ f v ∧ f v ≤ 1000000) (hK : K ≤ 1000000) (hd : Shift n f a K d d') :
    ∀ (E : List NE) (nx nx' : Nat → Int), (∀ e ∈ E, e.u < n ∧ e.v < n ∧ e.c ≤ 10000) → Shift n f a (K + 10000) nx nx' → Shift n f a (K + 10000) (E.foldl (spreadE d) nx) ((E.map (flN f)).foldl (spreadE d') nx')
  | [], nx, nx', _, h => h
  | e :: r, nx, nx', hE, h => shift_fold hf hK hd r _ _ (fun x hx => hE x (List.mem_cons_of_mem _ hx)) (shift_one hf hK e (hE e (List.mem_cons_self ..)) hd h)
theorem Shift.mono {n : Nat} {f : Nat → Int} {a : Nat} {K L : Int} {d d' : Nat → Int} (h : Shift n f a K d d') (hl : K ≤ L) : Shift n f a L d d' := fun v hv => (h v hv).imp id (fun x => ⟨by omega, x.2⟩)
theorem shift_spread {n : Nat} {f : Nat → Int} {a : Nat} (hf : ∀ v, -1000000 ≤ f v ∧ f v ≤ 1000000) {E : List NE} (hE : ∀ e ∈ E, e.u < n ∧ e.v < n ∧ e.c ≤ 10000) : ∀ t : Nat, t ≤ 64 → Shift n f a (10000 * t) (spread E (stF a) t) (spread (E.map (flN f)) (stF a) t)
  | 0, _ => by
    intro v hv
    simp only [spread, stF]
    by_cases h : v = a
    · subst h; rw [if_pos rfl]; right; omega
    · rw [if_neg h]; exact .inl ⟨rfl, rfl⟩
  | t + 1, ht => by
    have ih := shift_spread (a := a) hf hE t (by omega)
    have := shift_fold (K := 10000 * (t : Int)) hf (by omega) ih E _ _ hE (ih.mono (by omega))
    simp only [spread, spread1]
    have e : (10000 * ((t + 1 : Nat) : Int)) = 10000 * (t : Int) + 10000 := by omega
    rw [e]
    exact this
theorem nes_fl {n : Nat} (f : Nat → Int) {es : List Ed} : nes (es.map (flE f)) = (nes es).map (flN f) := by
  simp [nes, List.map_map, Function.comp_def, flE, flN]
theorem distF_shift {n : Nat} {f : Nat → Int} {a : Nat} {es : List Ed} (hf : ∀ v, -1000000 ≤ f v ∧ f v ≤ 1000000) (hn : n ≤ 64) (hes : Right n es) (v : Nat) (hv : v < n) :
    (distF n es a v = FAR ∧ distF n (es.map (flE f)) a v = FAR) ∨ (distF n es a v ≤ 640000 ∧ distF n (es.map (flE f)) a v = distF n es a v + f a - f v) := by
  have h := shift_spread (n := n) (f := f) (a := a) hf (E := nes es) (fun e he => by
    obtain ⟨x, hx, rfl⟩ := nes_mem he
    have := hes x hx
    simp only
    omega) (n - 1) (by omega) v hv
  unfold distF
  rw [nes_fl (n := n)]
  rcases h with h | ⟨h1, h2⟩
  · exact .inl h
  · exact .inr ⟨by omega, h2⟩
theorem distF_flat {n : Nat} {f : Nat → Int} {a : Nat} {es : List Ed} (hf : ∀ v, -1000000 ≤ f v ∧ f v ≤ 1000000) (hn : n ≤ 64) (hes : Right n es) (v : Nat) (hv : v < n) :
    -3000000000000 ≤ distF n (es.map (flE f)) a v ∧ (distF n (es.map (flE f)) a v < FAR → distF n (es.map (flE f)) a v ≤ 3000000) := by
  have h := distF_shift (a := a) hf hn hes v hv
  have h1 := (distF_low hn hes a v).1
  have h2 := hf v
  have h3 := hf a
  unfold FAR at h ⊢
  omega
/-- heights that no edge undercuts leave no edge below 0 -/
theorem flat_right {n : Nat} {es : List Ed} {f : Nat → Int} (hf : ∀ v, -1000000 ≤ f v ∧ f v ≤ 1000000) (hes : Right n es) : RightK 9000000 n (es.map (flE f)) := by
  intro e he
  obtain ⟨x, hx, rfl⟩ := List.mem_map.1 he
  have := hes x hx
  have := hf x.u.toNat
  have := hf x.v.toNat
  simp only [flE]
  omega
end Go.Proofs.Ytgkiipmeigfjnaa
