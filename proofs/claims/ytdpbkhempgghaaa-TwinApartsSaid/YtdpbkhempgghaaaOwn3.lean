/-
  Elements of a slice of the call's own: read, and stored into. Conditions: the index is in bounds.
-/
import Derived.Test.YtdpbkhempgghaaaOwn2
import Derived.Laws.OwnMore
namespace Go.Proofs.Ytdpbkhempgghaaa
open Go.RowKit

section
variable {α : Type} {enc : α → List Value} {sz : Nat} {e : TypeId} {w : World} {base : Nat} {xs : List α} {g n c : Nat}

theorem flat_set (hlen : ∀ x, (enc x).length = sz) : ∀ (xs : List α) (i : Nat) (hi : i < xs.length) (j : Nat) (u : Value) (x' : α), j < sz → enc x' = (enc xs[i]).set j u → (xs.set i x').flatMap enc = (xs.flatMap enc).set (i * sz + j) u
  | [], i, hi, _, _, _, _, _ => by simp at hi
  | x :: r, 0, _, j, u, x', hj, h => by
    have h' : enc x' = (enc x).set j u := by simpa using h
    simp only [List.set_cons_zero, List.flatMap_cons, Nat.zero_mul, Nat.zero_add]
    rw [h', List.set_append_left _ _ (by rw [hlen]; exact hj)]
  | x :: r, i + 1, hi, j, u, x', hj, h => by
    simp only [List.set_cons_succ, List.flatMap_cons]
    rw [List.set_append_right _ _ (by rw [hlen, Nat.succ_mul]; omega), hlen, show (i + 1) * sz + j - sz = i * sz + j by rw [Nat.succ_mul]; omega]
    rw [flat_set hlen r i (by simpa using hi) j u x' hj (by simpa using h)]

theorem Own.len (h : Own enc sz e w base (.slice (some ⟨g, 0, none⟩) n c) xs) : xs.length = n := by
  rcases h.form with ⟨h1, _⟩ | ⟨g', c', h1, _⟩
  · cases h1
  · simp only [Value.slice.injEq] at h1; exact h1.2.1.symm
theorem Own.get (h : Own enc sz e w base (.slice (some ⟨g, 0, none⟩) n c) xs) (hlen : ∀ x, (enc x).length = sz) (i : Nat) (hi : i < xs.length) (j : Nat) (u : Value) (hu : (enc xs[i])[j]? = some u) : w.cell? ⟨g, i * sz + j, none⟩ = some u := by
  have := World.ownsRow.cells h (g := g) rfl (i * sz + j) u (flat_get hlen xs i hi j u hu)
  rwa [WideShapes.add_plain, Nat.zero_add] at this
theorem Own.free (h : Own enc sz e w base (.slice (some ⟨g, 0, none⟩) n c) xs) (j : Nat) : w.frozen? ⟨g, j, none⟩ = false := by
  have hl := h.len
  subst hl
  exact World.ownsRow.frozenAt h j
theorem Own.at_base (h : Own enc sz e w base (.slice (some ⟨g, 0, none⟩) n c) xs) : base ≤ g ∧ g < w.heap.size := h.block_lt g rfl
theorem Own.put (h : Own enc sz e w base (.slice (some ⟨g, 0, none⟩) n c) xs) (hlen : ∀ x, (enc x).length = sz) (i : Nat) (hi : i < xs.length) (j : Nat) (hj : j < sz) (u : Value) (x' : α) (hx : enc x' = (enc xs[i]).set j u) :
    Own enc sz e (w.setCell ⟨g, i * sz + j, none⟩ u) base (.slice (some ⟨g, 0, none⟩) n c) (xs.set i x') := by
  have hl := h.len
  subst hl
  have := (World.ownsRow.stored h (i * sz + j) u).1
  rw [← flat_set hlen xs i hi j u x' hj hx] at this
  unfold Own
  rw [List.length_set]
  exact this
/-- a store elsewhere -/
theorem Own.elsewhere {v : Value} (h : Own enc sz e w base v xs) {p : Addr} (hp : v.ownBlock ≠ some p.block) (u : Value) : Own enc sz e (w.setCell p u) base v xs := by
  refine ⟨h.1, ?_⟩
  rcases h.2 with hn | ⟨g, cap, cur, hv, hg, hh, r⟩
  · exact .inl hn
  · refine .inr ⟨g, cap, cur, hv, hg, ?_, r⟩
    rw [Below.heap_setCell _ _ _ _ (by rw [hv] at hp; simp [Value.ownBlock] at hp; omega)]
    exact hh
end

theorem Own.getI {e : TypeId} {w : World} {base : Nat} {xs : List Int} {g n c : Nat} (h : Own encI 1 e w base (.slice (some ⟨g, 0, none⟩) n c) xs) (i : Nat) (hi : i < xs.length) : w.cell? ⟨g, i, none⟩ = some (.int .i64 xs[i]) := by
  simpa using h.get lenI i hi 0 _ rfl
theorem Own.getB {e : TypeId} {w : World} {base : Nat} {xs : List Bool} {g n c : Nat} (h : Own encB 1 e w base (.slice (some ⟨g, 0, none⟩) n c) xs) (i : Nat) (hi : i < xs.length) : w.cell? ⟨g, i, none⟩ = some (.bool xs[i]) := by
  simpa using h.get lenB i hi 0 _ rfl
theorem Own.getE {e : TypeId} {w : World} {base : Nat} {xs : List Ed} {g n c : Nat} (h : Own encE 3 e w base (.slice (some ⟨g, 0, none⟩) n c) xs) (i : Nat) (hi : i < xs.length) :
    w.cell? ⟨g, i * 3, none⟩ = some (.int .i64 xs[i].u) ∧ w.cell? ⟨g, i * 3 + 1, none⟩ = some (.int .i64 xs[i].v) ∧ w.cell? ⟨g, i * 3 + 2, none⟩ = some (.int .i64 xs[i].c) :=
  ⟨by simpa using h.get lenE i hi 0 _ rfl, h.get lenE i hi 1 _ rfl, h.get lenE i hi 2 _ rfl⟩
theorem Own.putI {e : TypeId} {w : World} {base : Nat} {xs : List Int} {g n c : Nat} (h : Own encI 1 e w base (.slice (some ⟨g, 0, none⟩) n c) xs) (i : Nat) (hi : i < xs.length) (x : Int) :
    Own encI 1 e (w.setCell ⟨g, i, none⟩ (.int .i64 x)) base (.slice (some ⟨g, 0, none⟩) n c) (xs.set i x) := by
  simpa using h.put lenI i hi 0 (by omega) (.int .i64 x) x rfl
theorem Own.putB {e : TypeId} {w : World} {base : Nat} {xs : List Bool} {g n c : Nat} (h : Own encB 1 e w base (.slice (some ⟨g, 0, none⟩) n c) xs) (i : Nat) (hi : i < xs.length) (x : Bool) :
    Own encB 1 e (w.setCell ⟨g, i, none⟩ (.bool x)) base (.slice (some ⟨g, 0, none⟩) n c) (xs.set i x) := by
  simpa using h.put lenB i hi 0 (by omega) (.bool x) x rfl

end Go.Proofs.Ytdpbkhempgghaaa
