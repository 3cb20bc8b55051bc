/-
  Slices of slices of numbers: one that the call makes itself, row by row its own; one that is only read. Conditions: as each theorem says.
-/
import Derived.Test.YtdpbkhempgghaaaOwn3
import Derived.Deep.AppendLies
namespace Go.Proofs.Ytdpbkhempgghaaa
open Go.RowKit

/-- a reads as the rows xs (each laid out by enc in sz cells), all below block B -/
def RowsR {α : Type} (enc : α → List Value) (sz : Nat) (w : World) (B : Nat) (a : Option Addr) (rows : List (List α)) : Prop :=
  ∃ vs : List Value, vs.length = rows.length ∧ Row encV 1 w B a vs ∧ ∀ i (h : i < rows.length), ∃ ai ci, vs[i]? = some (.slice ai rows[i].length ci) ∧ Row enc sz w B ai rows[i]

theorem RowsR.below {α : Type} {enc : α → List Value} {sz : Nat} {w w' : World} {B C : Nat} {a : Option Addr} {rows : List (List α)} (h : RowsR enc sz w B a rows) (hb : Below C w w') (hB : B ≤ C) : RowsR enc sz w' B a rows := by
  obtain ⟨vs, h1, h2, h3⟩ := h
  refine ⟨vs, h1, h2.below hb hB, fun i hi => ?_⟩
  obtain ⟨ai, ci, h4, h5⟩ := h3 i hi
  exact ⟨ai, ci, h4, h5.below hb hB⟩
theorem RowsR.mono {α : Type} {enc : α → List Value} {sz : Nat} {w : World} {B C : Nat} {a : Option Addr} {rows : List (List α)} (h : RowsR enc sz w B a rows) (hB : B ≤ C) : RowsR enc sz w C a rows := by
  obtain ⟨vs, h1, h2, h3⟩ := h
  refine ⟨vs, h1, h2.mono hB, fun i hi => ?_⟩
  obtain ⟨ai, ci, h4, h5⟩ := h3 i hi
  exact ⟨ai, ci, h4, h5.mono hB⟩
theorem RowsR.nil {α : Type} (enc : α → List Value) (sz : Nat) (w : World) (B : Nat) (a : Option Addr) : RowsR enc sz w B a ([] : List (List α)) := ⟨[], rfl, Row.nil _ _ _ _ _, fun i h => by cases h⟩
theorem RowsR.get {α : Type} {enc : α → List Value} {sz : Nat} {w : World} {B : Nat} {a : Option Addr} {rows : List (List α)} (h : RowsR enc sz w B a rows) (i : Nat) (hi : i < rows.length) :
    ∃ b o ai ci, a = some ⟨b, o, none⟩ ∧ b < B ∧ w.cell? ⟨b, o + i, none⟩ = some (.slice ai rows[i].length ci) ∧ Row enc sz w B ai rows[i] := by
  obtain ⟨vs, h1, h2, h3⟩ := h
  obtain ⟨ai, ci, h4, h5⟩ := h3 i hi
  have hi' : i < vs.length := by omega
  obtain ⟨b, o, g1, g2, g3⟩ := h2.val i hi'
  rw [List.getElem?_eq_getElem hi'] at h4
  exact ⟨b, o, ai, ci, g1, g2, by rw [g3]; exact h4, h5⟩

/-- the slice of slices v (its own elements of type eo, those of its rows of type ei) is the call's own, rows apart from each other -/
def Own2 {α : Type} (enc : α → List Value) (sz : Nat) (eo ei : TypeId) (w : World) (base : Nat) (v : Value) (rows : List (List α)) : Prop :=
  ∃ vs : List Value, vs.length = rows.length ∧ Own encV 1 eo w base v vs ∧ (∀ i (h : i < rows.length) (h' : i < vs.length), Own enc sz ei w base vs[i] rows[i]) ∧
    ∀ i j (hi : i < vs.length) (hj : j < vs.length) k, i ≠ j → vs[i].ownBlock = some k → vs[j].ownBlock ≠ some k

section
variable {α : Type} {enc : α → List Value} {sz : Nat} {eo ei : TypeId} {w : World} {base : Nat} {v : Value} {rows : List (List α)}

theorem Own.type {e : TypeId} {xs : List α} (h : Own enc sz e w base v xs) {k : Nat} (hk : v.ownBlock = some k) : ∃ cur, w.heap[k]? = some (.cells cur e (0, 0)) := by
  rcases h.2 with ⟨rfl, _⟩ | ⟨g, cap, cur, rfl, hg, hh, _⟩
  · simp [Value.ownBlock] at hk
  · simp [Value.ownBlock] at hk; subst hk; exact ⟨cur, hh⟩
theorem Own2.alloc (h : Own2 enc sz eo ei w base v rows) (o : Obj) : Own2 enc sz eo ei (w.alloc o) base v rows := by
  obtain ⟨vs, h1, h2, h3, h4⟩ := h
  exact ⟨vs, h1, h2.alloc o, fun i hi hi' => (h3 i hi hi').alloc o, h4⟩
theorem Own2.drew (h : Own2 enc sz eo ei w base v rows) : Own2 enc sz eo ei w.drew base v rows := h
theorem Own2.below (h : Own2 enc sz eo ei w base v rows) {w' : World} {C : Nat} (hb : Below C w w') (hC : w.heap.size ≤ C) : Own2 enc sz eo ei w' base v rows := by
  obtain ⟨vs, h1, h2, h3, h4⟩ := h
  exact ⟨vs, h1, h2.below hb hC, fun i hi hi' => (h3 i hi hi').below hb hC, h4⟩
theorem Own2.base_le (h : Own2 enc sz eo ei w base v rows) {base' : Nat} (hb : base' ≤ base) : Own2 enc sz eo ei w base' v rows := by
  obtain ⟨vs, h1, h2, h3, h4⟩ := h
  exact ⟨vs, h1, h2.base_le hb, fun i hi hi' => (h3 i hi hi').base_le hb, h4⟩
theorem Own2.readAs (h : Own2 enc sz eo ei w base v rows) (hlen : ∀ x, (enc x).length = sz) : ∃ a c, v = .slice a rows.length c ∧ RowsR enc sz w w.heap.size a rows := by
  obtain ⟨vs, h1, h2, h3, _⟩ := h
  obtain ⟨a, c, rfl, hr, _⟩ := h2.row lenV
  refine ⟨a, c, by rw [h1], vs, h1, hr, fun i hi => ?_⟩
  have hi' : i < vs.length := by omega
  obtain ⟨ai, ci, hv, hr', _⟩ := (h3 i hi hi').row hlen
  exact ⟨ai, ci, by rw [List.getElem?_eq_getElem hi', hv], hr'⟩
theorem Own2.shape (h : Own2 enc sz eo ei w base v rows) {n : Nat} (hn : rows.length = n) : ∃ a c, v = .slice a n c := by
  obtain ⟨vs, h1, h2, _⟩ := h
  exact h2.shape (by omega)

/-- one row read: its cell, its own slice -/
theorem Own2.at {g n c : Nat} (h : Own2 enc sz eo ei w base (.slice (some ⟨g, 0, none⟩) n c) rows) (u : Nat) (hu : u < rows.length) :
    ∃ av cv, w.cell? ⟨g, u, none⟩ = some (.slice av rows[u].length cv) ∧ Own enc sz ei w base (.slice av rows[u].length cv) rows[u] ∧ (∀ j, w.frozen? ⟨g, j, none⟩ = false) := by
  obtain ⟨vs, h1, h2, h3, _⟩ := h
  have hu' : u < vs.length := by omega
  obtain ⟨av, cv, hv⟩ := (h3 u hu hu').shape rfl
  refine ⟨av, cv, ?_, by rw [← hv]; exact h3 u hu hu', h2.free⟩
  have := h2.get lenV u hu' 0 vs[u] (by simp [encV])
  rw [← hv]; simpa using this

theorem Own2.apart {g n c : Nat} (h : Own2 enc sz eo ei w base (.slice (some ⟨g, 0, none⟩) n c) rows) (hne : eo ≠ ei) (u : Nat) (hu : u < rows.length) {v0 : Value} (hc : w.cell? ⟨g, u, none⟩ = some v0) : v0.ownBlock ≠ some g := by
  obtain ⟨vs, h1, h2, h3, _⟩ := h
  have hu' : u < vs.length := by omega
  have hv0 : vs[u] = v0 := by
    have := h2.get lenV u hu' 0 vs[u] (by simp [encV])
    simp at this
    rw [this] at hc
    exact Option.some.inj hc
  intro e
  rw [← hv0] at e
  obtain ⟨cur, hcur⟩ := (h3 u hu hu').type e
  obtain ⟨cur', hcur'⟩ := h2.type (k := g) rfl
  rw [hcur] at hcur'
  simp at hcur'
  exact hne hcur'.2.symm
/-- a row that was appended to, stored back -/
theorem Own2.put {g n c : Nat} (h : Own2 enc sz eo ei w base (.slice (some ⟨g, 0, none⟩) n c) rows) (hne : eo ≠ ei) (u : Nat) (hu : u < rows.length) {v0 v' : Value} (hc : w.cell? ⟨g, u, none⟩ = some v0) {w' : World} {xs' : List α}
    (hg : w.grownBy w' v0.ownBlock) (own' : Own enc sz ei w' base v' xs') (hat : ∀ k, v'.ownBlock = some k → v0.ownBlock = some k ∨ w.heap.size ≤ k) :
    Own2 enc sz eo ei (w'.setCell ⟨g, u, none⟩ v') base (.slice (some ⟨g, 0, none⟩) n c) (rows.set u xs') := by
  obtain ⟨vs, h1, h2, h3, h4⟩ := h
  have hu' : u < vs.length := by omega
  have hv0 : vs[u] = v0 := by
    have := h2.get lenV u hu' 0 vs[u] (by simp [encV])
    simp at this
    rw [this] at hc
    exact Option.some.inj hc
  have hgt : ∃ cur, w.heap[g]? = some (.cells cur eo (0, 0)) := h2.type rfl
  have hgl : g < w.heap.size := h2.at_base.2
  -- the outer block is none of the rows'
  have houter : ∀ i (hi : i < vs.length) k, vs[i].ownBlock = some k → k ≠ g := by
    intro i hi k hk e
    subst e
    obtain ⟨cur, hcur⟩ := (h3 i (by omega) hi).type hk
    obtain ⟨cur', hcur'⟩ := hgt
    rw [hcur] at hcur'
    simp at hcur'
    exact hne hcur'.2.symm
  have h2' : Own encV 1 eo w' base (.slice (some ⟨g, 0, none⟩) n c) vs := World.ownsRow.kept h2 hg (by
    right
    intro e
    exact houter u hu' g (by rw [hv0]; exact e.symm) rfl)
  have hv'g : v'.ownBlock ≠ some g := by
    intro e
    rcases hat g e with e2 | e2
    · exact houter u hu' g (by rw [hv0]; exact e2) rfl
    · omega
  refine ⟨vs.set u v', by simp [h1], ?_, ?_, ?_⟩
  · have := h2'.put lenV u hu' 0 (by omega) v' v' rfl
    simpa using this
  · intro i hi hi'
    rw [List.length_set] at hi hi'
    by_cases e : u = i
    · subst e
      rw [List.getElem_set_self, List.getElem_set_self]
      exact own'.elsewhere hv'g _
    · rw [List.getElem_set_ne e, List.getElem_set_ne e]
      have hk : Own enc sz ei w' base vs[i] rows[i] := World.ownsRow.kept (h3 i hi hi') hg (by
        cases hob : vs[i].ownBlock with
        | none => left; rfl
        | some k =>
          right
          intro e2
          exact h4 i u hi' hu' k (fun e3 => e e3.symm) hob (by rw [hv0]; exact e2.symm))
      exact hk.elsewhere (by intro e2; exact houter i hi' g e2 rfl) _
  · intro i j hi hj k hij hki
    rw [List.length_set] at hi hj
    have key : ∀ i (hi : i < vs.length) k, i ≠ u → vs[i].ownBlock = some k → v'.ownBlock ≠ some k := by
      intro i hi k hiu hk e
      rcases hat k e with e2 | e2
      · exact h4 i u hi hu' k hiu hk (by rw [hv0]; exact e2)
      · have := (h3 i (by omega) hi).block_lt k hk; omega
    by_cases e : u = i
    · subst e
      rw [List.getElem_set_self] at hki
      rw [List.getElem_set_ne hij]
      intro e2
      exact key j hj k (fun e => hij e.symm) e2 hki
    · rw [List.getElem_set_ne e] at hki
      by_cases e3 : u = j
      · subst e3
        rw [List.getElem_set_self]
        exact key i hi k (fun e4 => e e4.symm) hki
      · rw [List.getElem_set_ne e3]
        exact h4 i j hi hj k hij hki
end

theorem made_rep (z : Value) (hz : z.cells = #[z]) (n : Nat) : (madeCells z.cells (n * 1)).toList = List.replicate n z := by
  rw [hz]
  apply List.ext_getElem
  · simp [madeCells]
  · intro i h1 h2
    simp [madeCells, Nat.mod_one]
theorem flat_rep {α : Type} (n : Nat) (x : α) (v : Value) (enc : α → List Value) (h : enc x = [v]) : (List.replicate n x).flatMap enc = List.replicate n v := by
  induction n with
  | zero => rfl
  | succ n ih => rw [List.replicate_succ, List.flatMap_cons, ih, h]; rfl
theorem own_made {α : Type} {enc : α → List Value} (w : World) (base n : Nat) (v : Value) (e : TypeId) (x : α) (z : Value) (hz : z.cells = #[z]) (hx : enc x = [z]) (hv : w.ownsRow base e 1 v n (madeCells z.cells (n * 1)).toList) : Own enc 1 e w base v (List.replicate n x) := by
  unfold Own
  rw [List.length_replicate, flat_rep n x z enc hx]
  rw [made_rep _ hz] at hv
  exact hv
theorem own2_made (w : World) (base g n : Nat) (eo ei : TypeId) (hv : w.ownsRow base eo 1 (.slice (some ⟨g, 0, none⟩) n n) n (madeCells (Value.slice none 0 0).cells (n * 1)).toList) : Own2 encI 1 eo ei w base (.slice (some ⟨g, 0, none⟩) n n) (List.replicate n ([] : List Int)) := by
  refine ⟨List.replicate n (.slice none 0 0), by simp, ?_, ?_, ?_⟩
  · unfold Own
    rw [List.length_replicate]
    rw [made_rep _ rfl] at hv
    rw [flat_rep n (.slice none 0 0) (.slice none 0 0) encV rfl]
    exact hv
  · intro i h h'
    simp only [List.getElem_replicate]
    exact Own.nil _ _
  · intro i j hi hj k _ hk
    simp [Value.ownBlock] at hk

end Go.Proofs.Ytdpbkhempgghaaa
