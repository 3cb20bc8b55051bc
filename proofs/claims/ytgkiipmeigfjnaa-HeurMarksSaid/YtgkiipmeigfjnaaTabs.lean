/-
  A square table read row by row. No program here.
-/
import Derived.Test.YtgkiipmeigfjnaaROut
import Derived.Test.YtgkiipmeigfjnaaMat2
namespace Go.Proofs.Ytgkiipmeigfjnaa
open Go.RowKit
theorem Own2.tab {eo ei : TypeId} {w : World} {base g n c : Nat} {m : Nat → Nat → Int} (h : Own2 encI 1 eo ei w base (.slice (some ⟨g, 0, none⟩) n c) (MXp n n m)) : Tab w w.heap.size (some ⟨g, 0, none⟩) n (MXp n n m) := by
  intro i hi
  have hin : i < n := by rwa [mxp_len] at hi
  obtain ⟨av, cv, h1, h2, _⟩ := h.at i hi
  obtain ⟨a', c', hv, hr, _⟩ := h2.row lenI
  simp only [Value.slice.injEq] at hv
  obtain ⟨rfl, _⟩ := hv
  refine ⟨g, 0, av, cv, rfl, ?_, ?_, hr⟩
  · have := cell_lt h1; simpa using this
  · have e : (MXp n n m)[i].length = n := by rw [mxp_get _ _ _ _ hin, rw_len]
    rw [e] at h1
    simpa using h1
theorem mxp_rows (n : Nat) (m : Nat → Nat → Int) : MXp n n m = (List.range n).map fun i => LI n (m i) := by
  unfold MXp
  apply List.map_congr_left
  intro i hi
  rw [if_pos (List.mem_range.1 hi)]
  rfl
theorem rows_len {n k : Nat} {f : Nat → Nat → Int} : ∀ r ∈ (List.range k).map (fun i => LI n (f i)), r.length = n := by
  intro r hr
  obtain ⟨i, _, rfl⟩ := List.mem_map.1 hr
  exact li_len _ _
theorem Tab.nil (w : World) (B : Nat) (a : Option Addr) (n : Nat) : Tab w B a n [] := fun i h => by cases h
end Go.Proofs.Ytgkiipmeigfjnaa
