/-
  The edges from a place, by their numbers: what is still to do. No program here.
-/
import Derived.Test.YtcehdpeeaogpiaaDijkP
import Derived.Test.YtcehdpeeaogpiaaOuts
namespace Go.Proofs.Ytcehdpeeaogpiaa
set_option linter.unusedVariables false

def edAt (es : List Ed) (i : Int) : NE := (nes es).getD i.toNat ⟨0, 0, 0⟩
def todoOf (es : List Ed) (v j : Nat) : List NE := ((outIdx es v es.length).drop j).map (edAt es)
theorem edAt_is {es : List Ed} {i u v : Nat} (hi : i < es.length) (hu : es[i].u = (u : Int)) (hv : es[i].v = (v : Int)) : edAt es (i : Int) = ⟨u, v, es[i].c⟩ := by
  unfold edAt nes
  simp [List.getD, List.getElem?_eq_getElem hi, hu, hv]
theorem outIdx_mem {es : List Ed} {v k : Nat} {x : Int} : x ∈ outIdx es v k ↔ ∃ i : Nat, x = (i : Int) ∧ i < k ∧ (es.map (·.u)).getD i (-1) = (v : Int) := by
  unfold outIdx
  simp only [List.mem_map, List.mem_filter, List.mem_range, beq_iff_eq]
  constructor
  · rintro ⟨i, ⟨h1, h2⟩, rfl⟩; exact ⟨i, rfl, h1, h2⟩
  · rintro ⟨i, rfl, h1, h2⟩; exact ⟨i, ⟨h1, h2⟩, rfl⟩
theorem outIdx_get (es : List Ed) (v j : Nat) (h : j < (outIdx es v es.length).length) : ∃ i : Nat, (outIdx es v es.length)[j] = (i : Int) ∧ ∃ hi : i < es.length, es[i].u = (v : Int) := by
  obtain ⟨i, h1, h2, h3⟩ := outIdx_mem.1 (List.getElem_mem h)
  refine ⟨i, h1, h2, ?_⟩
  simpa [List.getD, List.getElem?_eq_getElem h2] using h3
theorem todo_step {es : List Ed} {v j i u : Nat} (h : j < (outIdx es v es.length).length) (hx : (outIdx es v es.length)[j] = (i : Int)) (hi : i < es.length) (hv : es[i].u = (v : Int)) (hu : es[i].v = (u : Int)) :
    todoOf es v j = ⟨v, u, es[i].c⟩ :: todoOf es v (j + 1) := by
  unfold todoOf
  rw [List.drop_eq_getElem_cons h, List.map_cons, hx, edAt_is hi hv hu]
theorem todo_end {es : List Ed} {v : Nat} : todoOf es v (outIdx es v es.length).length = [] := by simp [todoOf]
theorem todo_all {K : Int} {n : Nat} {es : List Ed} (hR : RightK K n es) (v : Nat) : ∀ e ∈ nes es, e.u = v → e ∈ todoOf es v 0 := by
  intro e he hv
  obtain ⟨k, hk, hek⟩ := List.getElem_of_mem he
  have hk' : k < es.length := by simpa [nes] using hk
  obtain ⟨u, w, h1, h2, h3, h4, h5⟩ := right_edgeK hR k hk'
  have hee : e = ⟨u, w, es[k].c⟩ := by
    rw [← hek]; simp [nes, h1, h2]
  subst hee
  simp only at hv
  subst hv
  refine List.mem_map.2 ⟨(k : Int), ?_, edAt_is hk' h1 h2⟩
  rw [List.drop_zero]
  exact outIdx_mem.2 ⟨k, rfl, hk', by simp [List.getD, List.getElem?_eq_getElem hk', h1]⟩
theorem outIdx_succ (es : List Ed) (v k : Nat) : outIdx es v (k + 1) = outIdx es v k ++ (if (es.map (·.u)).getD k (-1) = (v : Int) then [(k : Int)] else []) := by
  unfold outIdx
  rw [List.range_succ, List.filter_append, List.map_append]
  congr 1
  by_cases h : (es.map (·.u)).getD k (-1) = (v : Int)
  · rw [if_pos h, List.filter_cons, if_pos (by simpa using h)]
    rfl
  · rw [if_neg h, List.filter_cons, if_neg (by simpa using h)]
    rfl
theorem outIdx_count {K : Int} {n : Nat} {es : List Ed} (hR : RightK K n es) (v : Nat) : ∀ k, k ≤ es.length → (outIdx es v k).length = (nes (es.take k)).countP (fun e => decide (e.u = v))
  | 0, _ => by simp [outIdx, nes]
  | k + 1, hk => by
    obtain ⟨u, w, h1, h2, h3, h4, h5⟩ := right_edgeK hR k (by omega)
    rw [outIdx_succ, List.length_append, outIdx_count hR v k (by omega), h5.2.2, List.countP_append]
    congr 1
    have e : (es.map (·.u)).getD k (-1) = (u : Int) := by simp [List.getD, List.getElem?_eq_getElem (show k < es.length by omega), h1]
    rw [e]
    by_cases h : u = v
    · subst h; simp
    · rw [if_neg (by omega)]; simp [h]
theorem todo_len {K : Int} {n : Nat} {es : List Ed} (hR : RightK K n es) (v : Nat) : (outIdx es v es.length).length = (nes es).countP (fun e => decide (e.u = v)) := by
  have := outIdx_count hR v es.length (Nat.le_refl _)
  rwa [List.take_length] at this
end Go.Proofs.Ytcehdpeeaogpiaa
