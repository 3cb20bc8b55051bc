/-
  Groups as a forest: each place knows one of its group, no greater. No program here.
-/
import Derived.Test.YtdpbkhempgghaaaLabel
namespace Go.Proofs.Ytdpbkhempgghaaa
set_option linter.unusedVariables false

def Forest (f : Nat → Nat) : Prop := ∀ i, f i ≤ i
def root (f : Nat → Nat) (i : Nat) : Nat := if h : f i < i then root f (f i) else i
termination_by i
decreasing_by exact h
def upd (f : Nat → Nat) (i x : Nat) : Nat → Nat := fun v => if v = i then x else f v
theorem upd_same (f : Nat → Nat) (i x : Nat) : upd f i x i = x := by simp [upd]
theorem upd_other (f : Nat → Nat) {i v : Nat} (x : Nat) (h : v ≠ i) : upd f i x v = f v := by simp [upd, h]
theorem root_down {f : Nat → Nat} {i : Nat} (h : f i < i) : root f i = root f (f i) := by rw [root, dif_pos h]
theorem root_top {f : Nat → Nat} {i : Nat} (h : ¬ f i < i) : root f i = i := by rw [root, dif_neg h]
theorem root_le (f : Nat → Nat) (i : Nat) : root f i ≤ i := by
  induction i using Nat.strongRecOn with
  | ind i ih =>
    by_cases h : f i < i
    · rw [root_down h]; have := ih (f i) h; omega
    · rw [root_top h]; exact Nat.le_refl _
theorem root_fix {f : Nat → Nat} (hf : Forest f) (i : Nat) : f (root f i) = root f i := by
  induction i using Nat.strongRecOn with
  | ind i ih =>
    by_cases h : f i < i
    · rw [root_down h]; exact ih (f i) h
    · rw [root_top h]; have := hf i; omega
theorem root_step {f : Nat → Nat} (hf : Forest f) (i : Nat) : root f (f i) = root f i := by
  by_cases h : f i < i
  · rw [root_down h]
  · have : f i = i := by have := hf i; omega
    rw [this]
theorem halve_forest {f : Nat → Nat} (hf : Forest f) (i : Nat) : Forest (upd f i (f (f i))) := by
  intro j
  unfold upd
  split
  · rename_i h; subst h; have := hf j; have := hf (f j); omega
  · exact hf j
theorem halve_root {f : Nat → Nat} (hf : Forest f) (i j : Nat) : root (upd f i (f (f i))) j = root f j := by
  induction j using Nat.strongRecOn with
  | ind j ih =>
    by_cases hj : j = i
    · subst hj
      by_cases h : f j < j
      · have h1 := hf (f j)
        rw [root_down (f := upd f j (f (f j))) (by rw [upd_same]; omega), upd_same, ih (f (f j)) (by omega), root_step hf, root_step hf]
      · have e : f j = j := by have := hf j; omega
        rw [root_top (f := upd f j (f (f j))) (by rw [upd_same, e, e]; omega), root_top h]
    · by_cases h : f j < j
      · rw [root_down (f := upd f i (f (f i))) (by rw [upd_other _ _ hj]; exact h), upd_other _ _ hj, ih (f j) h, root_step hf]
      · rw [root_top (f := upd f i (f (f i))) (by rw [upd_other _ _ hj]; exact h), root_top h]
theorem link_forest {f : Nat → Nat} (hf : Forest f) {m M : Nat} (h : m ≤ M) : Forest (upd f M m) := by
  intro j
  unfold upd
  split
  · omega
  · exact hf j
theorem link_root {f : Nat → Nat} (hf : Forest f) {m M : Nat} (h : m ≤ M) (fm : f m = m) (fM : f M = M) (j : Nat) : root (upd f M m) j = if root f j = M then m else root f j := by
  have rm : root f m = m := root_top (by omega)
  have rM : root f M = M := root_top (by omega)
  have topm : root (upd f M m) m = m := by
    apply root_top
    unfold upd
    split <;> omega
  induction j using Nat.strongRecOn with
  | ind j ih =>
    by_cases hj : j = M
    · subst hj
      rw [if_pos rM]
      by_cases hlt : m < j
      · rw [root_down (f := upd f j m) (by rw [upd_same]; exact hlt), upd_same, topm]
      · have : m = j := by omega
        subst this
        exact topm
    · by_cases hd : f j < j
      · rw [root_down (f := upd f M m) (by rw [upd_other _ _ hj]; exact hd), upd_other _ _ hj, ih (f j) hd, root_step hf]
      · rw [root_top (f := upd f M m) (by rw [upd_other _ _ hj]; exact hd), root_top hd, if_neg hj]
/-- joining the groups of x and y -/
def joined (f : Nat → Nat) (x y : Nat) : Nat → Nat := upd f (max (root f x) (root f y)) (min (root f x) (root f y))
theorem joined_forest {f : Nat → Nat} (hf : Forest f) (x y : Nat) : Forest (joined f x y) := link_forest hf (by omega)
theorem joined_root {f : Nat → Nat} (hf : Forest f) (x y j : Nat) : root (joined f x y) j = if root f j = max (root f x) (root f y) then min (root f x) (root f y) else root f j := by
  have h1 := root_fix hf x
  have h2 := root_fix hf y
  refine link_root hf (by omega) ?_ ?_ j
  · rcases Nat.le_total (root f x) (root f y) with h | h
    · rw [Nat.min_eq_left h]; exact h1
    · rw [Nat.min_eq_right h]; exact h2
  · rcases Nat.le_total (root f x) (root f y) with h | h
    · rw [Nat.max_eq_right h]; exact h2
    · rw [Nat.max_eq_left h]; exact h1
/-- f's groups are those of the pairs done, and of no more than the pairs l -/
def Done (l d : List (Nat × Nat)) (f : Nat → Nat) : Prop := Forest f ∧ Inside l (root f) ∧ Resp d (root f)
theorem done_start (l : List (Nat × Nat)) : Done l [] (fun i => i) := by
  have r : ∀ v, root (fun i => i) v = v := fun v => root_top (by simp)
  exact ⟨fun _ => Nat.le_refl _, ⟨fun v => root_le _ v, fun g _ v => by rw [r]⟩, fun p hp => by cases hp⟩
theorem done_same {l d : List (Nat × Nat)} {f g : Nat → Nat} (h : Done l d f) (hg : Forest g) (e : ∀ v, root g v = root f v) : Done l d g := by
  have : root g = root f := funext e
  exact ⟨hg, by rw [this]; exact h.2.1, by rw [this]; exact h.2.2⟩
theorem done_join {l d : List (Nat × Nat)} {f : Nat → Nat} (h : Done l d f) {p : Nat × Nat} (hp : p ∈ l) : Done l (d ++ [p]) (joined f p.1 p.2) := by
  obtain ⟨hf, hi, hr⟩ := h
  refine ⟨joined_forest hf _ _, ⟨fun v => root_le _ v, fun g hg v => ?_⟩, fun q hq => ?_⟩
  · have e := hg p hp
    have e1 := hi.2 g hg p.1
    have e2 := hi.2 g hg p.2
    have ev := hi.2 g hg v
    rw [joined_root hf]
    split
    · rename_i hc
      rw [← ev, hc]
      rcases Nat.le_total (root f p.1) (root f p.2) with h | h
      · rw [Nat.min_eq_left h, Nat.max_eq_right h]; omega
      · rw [Nat.min_eq_right h, Nat.max_eq_left h]; omega
    · exact ev
  · rw [joined_root hf, joined_root hf]
    rcases List.mem_append.1 hq with hq | hq
    · rw [hr q hq]
    · simp at hq
      subst hq
      split <;> split <;> omega
theorem done_all {n : Nat} {l : List (Nat × Nat)} {f : Nat → Nat} (h : Done l l f) (hl : ∀ p ∈ l, p.1 < n ∧ p.2 < n) (v : Nat) (hv : v < n) : rounds l n v = root f v :=
  rounds_root h.2.1 h.2.2 hl v hv
end Go.Proofs.Ytdpbkhempgghaaa
