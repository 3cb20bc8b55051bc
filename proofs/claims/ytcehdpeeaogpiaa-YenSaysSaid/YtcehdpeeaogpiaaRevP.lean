/-
  Costs in a net turned round: from a place to another what it costs from that one. No program here.
-/
import Derived.Test.YtcehdpeeaogpiaaWayP
import Derived.Test.YtcehdpeeaogpiaaStart
import Derived.Test.YtcehdpeeaogpiaaTurn
namespace Go.Proofs.Ytcehdpeeaogpiaa
set_option linter.unusedVariables false

def neFlip (e : NE) : NE := ⟨e.v, e.u, e.c⟩
theorem nes_flip (es : List Ed) : nes (es.map flip) = (nes es).map neFlip := by
  simp [nes, List.map_map, Function.comp_def, flip, neFlip]
theorem at_zero (es : List NE) (u : Nat) : At es (stF u) u 0 := by
  have h := At.base (es := es) (s := stF u) u (by simp [stF, FAR])
  rwa [stF_self] at h
/-- an edge ahead of a walk -/
theorem at_pre {es : List NE} (hp : ∀ e ∈ es, 0 ≤ e.c) {e : NE} (he : e ∈ es) {w : Nat} {y : Int} (h : At es (stF e.v) w y) : e.c + y < FAR → At es (stF e.u) w (e.c + y) := by
  have h0 : e.c < FAR → At es (stF e.u) e.v e.c := fun hl => by
    have := At.step e 0 he (at_zero es e.u) (by simp [FAR]) (by omega)
    rwa [Int.zero_add] at this
  induction h with
  | base v hv =>
    intro hl
    obtain rfl := stF_zero hv
    rw [stF_self] at hl ⊢
    rw [Int.add_zero] at hl ⊢
    exact h0 hl
  | step e' x he' h hx hy ih =>
    intro hl
    have hc := hp e' he'
    have h1 := At.step e' _ he' (ih (by omega)) (by omega) (by omega)
    rwa [Int.add_assoc] at h1
theorem at_rev {es : List NE} (hp : ∀ e ∈ es, 0 ≤ e.c) {u v : Nat} {x : Int} (h : At es (stF u) v x) : At (es.map neFlip) (stF v) u x := by
  have hp' : ∀ e ∈ es.map neFlip, 0 ≤ e.c := by
    intro e he
    obtain ⟨x, hx, rfl⟩ := List.mem_map.1 he
    exact hp x hx
  induction h with
  | base v hv =>
    obtain rfl := stF_zero hv
    rw [stF_self]
    exact at_zero _ _
  | step e x he h hx hy ih =>
    have hm : neFlip e ∈ es.map neFlip := List.mem_map.2 ⟨e, he, rfl⟩
    have := at_pre hp' hm (w := u) (y := x) ih (by simp only [neFlip]; omega)
    simp only [neFlip] at this
    rwa [Int.add_comm] at this
theorem rev_le {n : Nat} {E : List NE} (hE : ∀ e ∈ E, e.u < n ∧ e.v < n ∧ 1 ≤ e.c) {m u : Nat} (hm : m < n) (hu : u < n) : spread (E.map neFlip) (stF m) (n - 1) u ≤ spread E (stF u) (n - 1) m := by
  have hE' : ∀ e ∈ E.map neFlip, e.u < n ∧ e.v < n ∧ 1 ≤ e.c := by
    intro e he
    obtain ⟨x, hx, rfl⟩ := List.mem_map.1 he
    have := hE x hx
    exact ⟨this.2.1, this.1, this.2.2⟩
  have ha := spread_att E (stF u) (stF_far u) (n - 1) m
  have hf := spread_feas hE' hm
  have hle := (spread_att (E.map neFlip) (stF m) (stF_far m) (n - 1) u).1
  have hfu := stF_far m u
  rcases Int.lt_or_le (spread E (stF u) (n - 1) m) FAR with hlt | hge
  · exact at_ge (fun e he hl => hf.1 e he hl) (fun v => spread_le _ _ _ v) (at_rev (fun e he => by have := hE e he; omega) (ha.2 hlt))
  · omega
theorem rev_rev (E : List NE) : (E.map neFlip).map neFlip = E := by
  rw [List.map_map]
  have : neFlip ∘ neFlip = id := by funext e; rfl
  rw [this, List.map_id]
/-- what it costs from u to m, seen from m in the net turned round -/
theorem rev_is {n : Nat} {E : List NE} (hE : ∀ e ∈ E, e.u < n ∧ e.v < n ∧ 1 ≤ e.c) {m u : Nat} (hm : m < n) (hu : u < n) : spread (E.map neFlip) (stF m) (n - 1) u = spread E (stF u) (n - 1) m := by
  have h1 := rev_le hE hm hu
  have h2 := rev_le (E := E.map neFlip) (by
    intro e he
    obtain ⟨x, hx, rfl⟩ := List.mem_map.1 he
    have := hE x hx
    exact ⟨this.2.1, this.1, this.2.2⟩) hu hm
  rw [rev_rev] at h2
  omega
theorem distF_flip {n : Nat} {es : List Ed} (hes : Right n es) (hp : ∀ e ∈ es, 1 ≤ e.c) {m u : Nat} (hm : m < n) (hu : u < n) : distF n (es.map flip) m u = distF n es u m := by
  unfold distF
  rw [nes_flip]
  refine rev_is ?_ hm hu
  intro e he
  obtain ⟨x, hx, rfl⟩ := nes_mem he
  have := hes x hx
  have := hp x hx
  simp only
  omega
theorem flip_right {n : Nat} {es : List Ed} (hes : Right n es) : Right n (es.map flip) := by
  intro e he
  obtain ⟨x, hx, rfl⟩ := List.mem_map.1 he
  have := hes x hx
  simp only [flip]
  omega
theorem flip_pos {es : List Ed} (hp : ∀ e ∈ es, 1 ≤ e.c) : ∀ e ∈ es.map flip, 1 ≤ e.c := by
  intro e he
  obtain ⟨x, hx, rfl⟩ := List.mem_map.1 he
  exact hp x hx
end Go.Proofs.Ytcehdpeeaogpiaa
