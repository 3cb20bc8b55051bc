/-
  Landmarks: what is refused, what is told. No program here.
-/
import Derived.Test.YtcehdpeeaogpiaaNetL
import Derived.Test.YtcehdpeeaogpiaaRevP
namespace Go.Proofs.Ytcehdpeeaogpiaa
set_option linter.unusedVariables false
def markErr (N : Int) (es : List Ed) (ms : List Int) : Int := if posErr N es ≠ 0 then posErr N es else if 4 < ms.length then 2 else plErr N ms
theorem mark_ok {N : Int} {es : List Ed} {ms : List Int} (h : markErr N es ms = 0) : posErr N es = 0 ∧ ms.length ≤ 4 ∧ plErr N ms = 0 := by
  unfold markErr at h
  by_cases h0 : posErr N es = 0
  · rw [if_neg (by simp [h0])] at h
    by_cases h1 : 4 < ms.length
    · rw [if_pos h1] at h; omega
    · rw [if_neg h1] at h; exact ⟨h0, by omega, h⟩
  · rw [if_pos h0] at h; exact absurd h h0
/-- what it costs from the landmarks, and to them -/
def fromRows (n : Nat) (es : List Ed) (ms : List Int) : List (List Int) := ms.map fun m => LI n (distF n es m.toNat)
def toRows (n : Nat) (es : List Ed) (ms : List Int) : List (List Int) := ms.map fun m => LI n (fun v => distF n es v m.toNat)
theorem fromRows_len (n : Nat) (es : List Ed) (ms : List Int) : (fromRows n es ms).length = ms.length := by simp [fromRows]
theorem toRows_len (n : Nat) (es : List Ed) (ms : List Int) : (toRows n es ms).length = ms.length := by simp [toRows]
theorem fromRows_take {n : Nat} {es : List Ed} {ms : List Int} {k u : Nat} (h : k < ms.length) (hu : ms[k] = (u : Int)) : fromRows n es (ms.take (k + 1)) = fromRows n es (ms.take k) ++ [LI n (distF n es u)] := by
  unfold fromRows
  rw [List.take_succ_eq_append_getElem h, List.map_append, hu]
  rfl
theorem toRows_take {n : Nat} {es : List Ed} {ms : List Int} {k u : Nat} (h : k < ms.length) (hu : ms[k] = (u : Int)) : toRows n es (ms.take (k + 1)) = toRows n es (ms.take k) ++ [LI n (fun v => distF n es v u)] := by
  unfold toRows
  rw [List.take_succ_eq_append_getElem h, List.map_append, hu]
  rfl
theorem fromRows_rows {n : Nat} {es : List Ed} {ms : List Int} : ∀ r ∈ fromRows n es ms, r.length = n := by
  intro r hr
  obtain ⟨i, _, rfl⟩ := List.mem_map.1 hr
  exact li_len _ _
theorem toRows_rows {n : Nat} {es : List Ed} {ms : List Int} : ∀ r ∈ toRows n es ms, r.length = n := by
  intro r hr
  obtain ⟨i, _, rfl⟩ := List.mem_map.1 hr
  exact li_len _ _
theorem flip_dist {n : Nat} {es : List Ed} (hes : Right n es) (hp : ∀ e ∈ es, 1 ≤ e.c) {m : Nat} (hm : m < n) : LI n (distF n (es.map flip) m) = LI n (fun v => distF n es v m) := li_congr fun v hv => distF_flip hes hp hm hv
end Go.Proofs.Ytcehdpeeaogpiaa
