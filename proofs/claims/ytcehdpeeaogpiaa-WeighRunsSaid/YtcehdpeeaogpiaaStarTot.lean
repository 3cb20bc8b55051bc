/-
  A search always comes to an end. No program here.
-/
import Derived.Test.YtcehdpeeaogpiaaStarW
namespace Go.Proofs.Ytcehdpeeaogpiaa
set_option linter.unusedSimpArgs false
set_option linter.unusedVariables false
theorem sedge_ord (h : Nat → Int) (v : Nat) (s : SR) (e : NE) : (sedge h v s e).ord = s.ord := by unfold sedge; split <;> rfl
theorem smid_fold {n f : Nat} {h : Nat → Int} {v : Nat} : ∀ (E : List NE) (s : SR), (∀ e ∈ E, 0 ≤ e.c ∧ e.c ≤ 10000) → s.ord.length ≤ 64 → SMid n f h v s → SMid n f h v (E.foldl (sedge h v) s) ∧ (E.foldl (sedge h v) s).ord = s.ord
  | [], s, _, _, hs => ⟨hs, rfl⟩
  | e :: r, s, hE, hl, hs => by
    have h1 := smid_edge hs (hE e (List.mem_cons_self ..)) hl
    have h2 := smid_fold r (sedge h v s e) (fun x hx => hE x (List.mem_cons_of_mem _ hx)) (by rw [sedge_ord]; exact hl) h1
    rw [List.foldl_cons]
    exact ⟨h2.1, h2.2.trans (sedge_ord h v s e)⟩
theorem sok_expand {n f : Nat} {h : Nat → Int} {E : List NE} (hE : ∀ e ∈ E, 0 ≤ e.c ∧ e.c ≤ 10000) (hn : n ≤ 64) {s : SR} {v : Nat} (hs : SOk n f h s) (hw : Waits n s v) : SOk n f h (expand E h v s) ∧ (expand E h v s).ord.length = s.ord.length + 1 := by
  have h1 := smid_start hs hw
  have h2 := sok_len h1.ok
  obtain ⟨h3, h4⟩ := smid_fold E (look1 s v) hE (by omega) h1
  exact ⟨h3.ok, by unfold expand; rw [h4]; simp [look1]⟩
theorem srun_total {key : Int → Int → Int} {E : List NE} {h : Nat → Int} {n tg f : Nat} (hE : ∀ e ∈ E, 0 ≤ e.c ∧ e.c ≤ 10000) (hn : n ≤ 64) : ∀ (k : Nat) (s : SR), SOk n f h s → n ≤ s.ord.length + k → ∃ o, SRun key E h n tg s o := by
  intro k
  induction k with
  | zero =>
    intro s hs hk
    refine ⟨none, .none s fun v hv => ?_⟩
    have h1 := sok_len (sok_look hs hv)
    simp [look1] at h1
    omega
  | succ k ih =>
    intro s hs hk
    by_cases hw : ∃ v, Waits n s v
    · obtain ⟨v0, hv0⟩ := hw
      let P : Nat → Bool := fun v => @decide (Waits n s v) (Classical.propDecidable _)
      have hP : ∀ v, P v = true ↔ Waits n s v := fun v => by simp [P]
      obtain ⟨ws, hws⟩ : ∃ ws, ws = (List.range n).filter P := ⟨_, rfl⟩
      have hwl : WL n s ws := by
        refine ⟨by rw [hws]; exact List.nodup_range.filter _, fun v => ?_⟩
        rw [hws, List.mem_filter, List.mem_range, hP]
        exact ⟨fun x => x.2, fun x => ⟨x.1, x⟩⟩
      have hne : ws ≠ [] := fun e => by have := (hwl.iff v0).2 hv0; rw [e] at this; cases this
      obtain ⟨u, _, hum, hmin⟩ := firstR_mem (plOf key h s.cost) hne
      have hnx := wl_next hwl hum hmin
      by_cases hut : u = tg
      · subst hut; exact ⟨_, .hit s hnx⟩
      · obtain ⟨h1, h2⟩ := sok_expand hE hn hs hnx.1
        obtain ⟨o, ho⟩ := ih (expand E h u s) h1 (by omega)
        exact ⟨o, .step s u o hnx hut ho⟩
    · exact ⟨none, .none s fun v hv => hw ⟨v, hv⟩⟩
end Go.Proofs.Ytcehdpeeaogpiaa
