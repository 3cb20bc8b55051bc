/-
  Plain laws for the best ways (yen): all ways in order, each once. No condition.
-/
import Derived.Test.YtcehdpeeaogpiaaYenR
namespace Go.Proofs.Ytcehdpeeaogpiaa
open Go.RowKit
set_option linter.unusedSimpArgs false
set_option linter.unusedVariables false
/-- put into a list in order, behind those that are less -/
def insY (w : Wy) : List Wy → List Wy
  | [] => [w]
  | x :: r => if yLt x w = true then x :: insY w r else w :: x :: r
theorem insY_perm (w : Wy) : ∀ l, (insY w l).Perm (w :: l)
  | [] => List.Perm.refl _
  | x :: r => by
    unfold insY
    by_cases h : yLt x w = true
    · rw [if_pos h]
      exact ((insY_perm w r).cons x).trans (List.Perm.swap w x r)
    · rw [if_neg h]
theorem insY_ord (w : Wy) : ∀ l, l.Pairwise (fun a b => yLt b a = false) → (insY w l).Pairwise (fun a b => yLt b a = false)
  | [], _ => by simp [insY]
  | x :: r, h => by
    rw [List.pairwise_cons] at h
    unfold insY
    by_cases hx : yLt x w = true
    · rw [if_pos hx]
      refine List.pairwise_cons.2 ⟨fun y hy => ?_, insY_ord w r h.2⟩
      rcases List.mem_cons.1 ((insY_perm w r).mem_iff.1 hy) with rfl | hy
      · exact yLt_ord.asym _ _ hx
      · exact h.1 y hy
    · rw [if_neg hx]
      have hx2 : yLt x w = false := by simpa using hx
      refine List.pairwise_cons.2 ⟨fun y hy => ?_, List.pairwise_cons.2 h⟩
      rcases List.mem_cons.1 hy with rfl | hy
      · exact hx2
      · exact yLt_ord.trans _ _ _ hx2 (h.1 y hy)
/-- where it is put -/
def posY (w : Wy) : List Wy → Nat
  | [] => 0
  | x :: r => if yLt x w = true then posY w r + 1 else 0
theorem insY_at (w : Wy) : ∀ l, insY w l = l.take (posY w l) ++ w :: l.drop (posY w l)
  | [] => rfl
  | x :: r => by
    unfold insY posY
    by_cases h : yLt x w = true
    · rw [if_pos h, if_pos h, insY_at w r]; rfl
    · rw [if_neg h, if_neg h]; rfl
/-- each list of places once: the first -/
def onceY (l : List Wy) : List Wy := l.foldl (fun o w => if o.any (fun x => decide (x.p = w.p)) then o else o ++ [w]) []
def stepY (o : List Wy) (w : Wy) : List Wy := if o.any (fun x => decide (x.p = w.p)) then o else o ++ [w]
theorem onceY_eq (l : List Wy) : onceY l = l.foldl stepY [] := rfl
/-- what is kept of those gone through -/
structure OnceOf (d o : List Wy) : Prop where
  sub : ∀ x ∈ o, x ∈ d
  all : ∀ x ∈ d, ∃ y ∈ o, y.p = x.p ∧ yLt x y = false
  ord : o.Pairwise (fun a b => yLt a b = true)
theorem once_step {d o : List Wy} {w : Wy} (h : OnceOf d o) (hl : ∀ x ∈ d, yLt w x = false) : OnceOf (d ++ [w]) (stepY o w) := by
  unfold stepY
  by_cases hw : o.any (fun x => decide (x.p = w.p)) = true
  · rw [if_pos hw]
    obtain ⟨y, hy, hp⟩ := List.any_eq_true.1 hw
    have hp : y.p = w.p := by simpa using hp
    refine ⟨fun x hx => List.mem_append_left _ (h.sub x hx), fun x hx => ?_, h.ord⟩
    rcases List.mem_append.1 hx with hx | hx
    · exact h.all x hx
    · rw [List.mem_singleton.1 hx]
      exact ⟨y, hy, hp, hl y (h.sub y hy)⟩
  · rw [if_neg hw]
    refine ⟨fun x hx => ?_, fun x hx => ?_, ?_⟩
    · rcases List.mem_append.1 hx with hx | hx
      · exact List.mem_append_left _ (h.sub x hx)
      · exact List.mem_append_right _ hx
    · rcases List.mem_append.1 hx with hx | hx
      · obtain ⟨y, h1, h2⟩ := h.all x hx
        exact ⟨y, List.mem_append_left _ h1, h2⟩
      · exact ⟨x, List.mem_append_right _ hx, rfl, yLt_ord.irr x⟩
    · rw [List.pairwise_append]
      refine ⟨h.ord, List.pairwise_singleton _ _, fun a ha b hb => ?_⟩
      rw [List.mem_singleton.1 hb]
      by_cases hab : yLt a w = true
      · exact hab
      · have := yLt_same (hl a (h.sub a ha)) (by simpa using hab)
        exact absurd (List.any_eq_true.2 ⟨a, ha, by rw [this]; simp⟩) hw
theorem once_all : ∀ (r d o : List Wy), OnceOf d o → (d ++ r).Pairwise (fun a b => yLt b a = false) → OnceOf (d ++ r) (r.foldl stepY o)
  | [], d, o, h, _ => by simpa using h
  | w :: r, d, o, h, hp => by
    have hl : ∀ x ∈ d, yLt w x = false := fun x hx => (List.pairwise_append.1 hp).2.2 x hx w List.mem_cons_self
    have := once_all r (d ++ [w]) (stepY o w) (once_step h hl) (by simpa using hp)
    simpa using this
theorem once_of {l : List Wy} (h : l.Pairwise (fun a b => yLt b a = false)) : OnceOf l (onceY l) := by
  have := once_all l [] [] ⟨fun x hx => hx, fun x hx => (List.not_mem_nil hx).elim, List.Pairwise.nil⟩ (by simpa using h)
  simpa [onceY_eq] using this
/-- all ways in order, each once -/
theorem best_mem {es : List Ed} {s t : Nat} {l : List Wy} (h : l.Pairwise (fun a b => yLt b a = false)) (h1 : ∀ x ∈ l, Sim (nes es) s t x.p ∧ pcost es x.p ≤ x.c) (h2 : ∀ p, Sim (nes es) s t p → (⟨pcost es p, p⟩ : Wy) ∈ l) (x : Wy) : x ∈ onceY l ↔ YW es s t x := by
  have ho := once_of h
  have key : ∀ x : Wy, YW es s t x → x ∈ onceY l := fun x hx => by
    have hm : x ∈ l := by
      have := h2 x.p hx.1
      rw [← hx.2] at this
      exact this
    obtain ⟨y, hy, hp, hlt⟩ := ho.all x hm
    have hyc := (h1 y (ho.sub y hy)).2
    rw [hp, ← hx.2] at hyc
    rw [yLt_not] at hlt
    have : y = x := by
      have hc : y.c = x.c := by omega
      cases x; cases y; simp_all
    rw [← this]
    exact hy
  constructor
  · intro hx
    have hS := (h1 x (ho.sub x hx)).1
    have hb := key ⟨pcost es x.p, x.p⟩ ⟨hS, rfl⟩
    have hxc := (h1 x (ho.sub x hx)).2
    refine ⟨hS, ?_⟩
    by_cases he : x.c = pcost es x.p
    · exact he
    · exfalso
      -- two with the same places: the later would not have been kept
      have hone : ∀ a ∈ onceY l, ∀ b ∈ onceY l, a.p = b.p → a = b := by
        have : ∀ (r d o : List Wy), (∀ a ∈ o, ∀ b ∈ o, a.p = b.p → a = b) → ∀ a ∈ r.foldl stepY o, ∀ b ∈ r.foldl stepY o, a.p = b.p → a = b := by
          intro r
          induction r with
          | nil => intro d o h; exact h
          | cons w r ih =>
            intro d o h
            refine ih d (stepY o w) ?_
            unfold stepY
            by_cases hw : o.any (fun x => decide (x.p = w.p)) = true
            · rw [if_pos hw]; exact h
            · rw [if_neg hw]
              intro a ha b hb e
              rcases List.mem_append.1 ha with ha | ha <;> rcases List.mem_append.1 hb with hb | hb
              · exact h a ha b hb e
              · rw [List.mem_singleton.1 hb] at e; exact absurd (List.any_eq_true.2 ⟨a, ha, by simp [e]⟩) hw
              · rw [List.mem_singleton.1 ha] at e; exact absurd (List.any_eq_true.2 ⟨b, hb, by simp [e]⟩) hw
              · rw [List.mem_singleton.1 ha, List.mem_singleton.1 hb]
        exact this l [] [] (fun a ha => (List.not_mem_nil ha).elim)
      have := hone x hx _ hb rfl
      exact he (by rw [this])
  · exact key x
end Go.Proofs.Ytcehdpeeaogpiaa
