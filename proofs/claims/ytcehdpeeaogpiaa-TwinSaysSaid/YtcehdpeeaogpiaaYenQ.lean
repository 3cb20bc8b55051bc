/-
  Plain laws for the best ways (yen): which ways there are, and what waits. No condition.
-/
import Derived.Test.YtcehdpeeaogpiaaYenP
namespace Go.Proofs.Ytcehdpeeaogpiaa
open Go.RowKit
set_option linter.unusedSimpArgs false
set_option linter.unusedVariables false
/-- b goes on to p by a step that is none of those of no -/
def Onw (b : List Nat) (no : Nat → Prop) (p : List Nat) : Prop := ∃ v r, p = b ++ v :: r ∧ ¬ no v
/-- the steps that those of out go behind b -/
def Nxt (out : List Wy) (b : List Nat) (v : Nat) : Prop := ∃ x ∈ out, ∃ r, x.p = b ++ v :: r
/-- what is found, and what waits: S the ways there are -/
structure YI (S : Wy → Prop) (out wait : List Wy) : Prop where
  wS : ∀ x ∈ wait, S x
  oS : ∀ x ∈ out, S x
  low : ∀ x ∈ out, ∀ y, S y → y ∉ out → yLt x y = true
  inv : ∀ b v, Nxt out b v → b ≠ [] → ∀ y, S y → Onw b (Nxt out b) y.p → ∃ c ∈ wait, Onw b (Nxt out b) c.p ∧ yLt y c = false
  base : out = [] → ∀ y, S y → ∃ c ∈ wait, yLt y c = false
/-- no way is a beginning of another; all begin alike -/
structure YS (s : Nat) (S : Wy → Prop) : Prop where
  hd : ∀ x, S x → ∃ r, x.p = s :: r
  pre : ∀ x y r, S x → S y → y.p = x.p ++ r → x = y
/-- the longest beginning that a list shares with one of some -/
theorem longest (s : Nat) (p : List Nat) (Ls : List (List Nat)) (h0 : ∃ l ∈ Ls, ∃ r, l = s :: r) (hp : ∃ r, p = s :: r) : ∃ b q, p = b ++ q ∧ b ≠ [] ∧ (∃ l ∈ Ls, ∃ r, l = b ++ r) ∧ ∀ v q', q = v :: q' → ¬ ∃ l ∈ Ls, ∃ r, l = b ++ v :: r := by
  obtain ⟨r, rfl⟩ := hp
  have key : ∀ (q b : List Nat), b ≠ [] → (∃ l ∈ Ls, ∃ r, l = b ++ r) → ∃ b' q', b ++ q = b' ++ q' ∧ b' ≠ [] ∧ (∃ l ∈ Ls, ∃ r, l = b' ++ r) ∧ ∀ v q'', q' = v :: q'' → ¬ ∃ l ∈ Ls, ∃ r, l = b' ++ v :: r := by
    intro q
    induction q with
    | nil => intro b hb hl; exact ⟨b, [], rfl, hb, hl, fun v q'' h => by cases h⟩
    | cons v q ih =>
      intro b hb hl
      by_cases h : ∃ l ∈ Ls, ∃ r, l = b ++ v :: r
      · obtain ⟨b', q', h1, h2, h3, h4⟩ := ih (b ++ [v]) (by simp) (by obtain ⟨l, g1, r, g2⟩ := h; exact ⟨l, g1, r, by rw [g2]; simp⟩)
        exact ⟨b', q', by rw [← h1]; simp, h2, h3, h4⟩
      · exact ⟨b, v :: q, rfl, hb, hl, fun v' q'' e => by cases e; exact h⟩
  obtain ⟨l, g1, r', g2⟩ := h0
  obtain ⟨b', q', h1, h2, h3, h4⟩ := key r [s] (by simp) ⟨l, g1, r', by rw [g2]; rfl⟩
  exact ⟨b', q', by rw [← h1]; rfl, h2, h3, h4⟩
/-- each way that is not found has one ahead of it that waits -/
theorem yi_ahead {s : Nat} {S : Wy → Prop} {out wait : List Wy} (hs : YS s S) (h : YI S out wait) {y : Wy} (hy : S y) (hn : y ∉ out) : ∃ c ∈ wait, yLt y c = false := by
  by_cases h0 : out = []
  · exact h.base h0 y hy
  · obtain ⟨x, hx⟩ := List.exists_mem_of_ne_nil out h0
    obtain ⟨b, q, h1, h2, ⟨l, h3, r, h4⟩, h5⟩ := longest s y.p (out.map (·.p)) ⟨x.p, List.mem_map.2 ⟨x, hx, rfl⟩, hs.hd x (h.oS x hx)⟩ (hs.hd y hy)
    obtain ⟨z, hz, rfl⟩ := List.mem_map.1 h3
    cases q with
    | nil =>
      rw [List.append_nil] at h1
      have := hs.pre y z r hy (h.oS z hz) (by rw [h4, h1])
      exact absurd (this ▸ hz) hn
    | cons v q =>
      have hno : ¬ Nxt out b v := fun ⟨x', hx', r', e⟩ => h5 v q rfl ⟨x'.p, List.mem_map.2 ⟨x', hx', rfl⟩, r', e⟩
      cases r with
      | nil =>
        rw [List.append_nil] at h4
        have := hs.pre z y (v :: q) (h.oS z hz) hy (by rw [h1, h4])
        exact absurd (this ▸ hz) hn
      | cons u r =>
        obtain ⟨c, hc, -, hle⟩ := h.inv b u ⟨z, hz, r, h4⟩ h2 y hy ⟨v, q, h1, hno⟩
        exact ⟨c, hc, hle⟩
theorem yi_least {s : Nat} {S : Wy → Prop} {out wait : List Wy} (hs : YS s S) (h : YI S out wait) {m y : Wy} (hm : ∀ x ∈ wait, yLt x m = false) (hy : S y) (hn : y ∉ out) : yLt y m = false := by
  obtain ⟨c, hc, hle⟩ := yi_ahead hs h hy hn
  exact yLt_ord.trans _ _ _ (hm c hc) hle
/-- one that is found already is dropped -/
theorem yi_skip {s : Nat} {S : Wy → Prop} {out wait wait' : List Wy} {m : Wy} (hs : YS s S) (h : YI S out wait) (hp : (m :: wait').Perm wait) (hm : m ∈ out) : YI S out wait' := by
  refine ⟨fun x hx => h.wS x (hp.mem_iff.1 (List.mem_cons_of_mem _ hx)), h.oS, h.low, fun b v hv hb y hy ho => ?_, fun e => by rw [e] at hm; cases hm⟩
  obtain ⟨c, hc, ⟨u, r, g1, g2⟩, hle⟩ := h.inv b v hv hb y hy ho
  rcases List.mem_cons.1 (hp.mem_iff.2 hc) with rfl | hc'
  · exact absurd ⟨c, hm, r, g1⟩ g2
  · exact ⟨c, hc', ⟨u, r, g1, g2⟩, hle⟩
/-- the least that waits is the next -/
theorem yi_take {s : Nat} {S : Wy → Prop} {out wait wait' wait2 : List Wy} {m : Wy} (hs : YS s S) (h : YI S out wait) (hp : (m :: wait').Perm wait) (hl : ∀ x ∈ wait, yLt x m = false) (hm : m ∉ out) (h1 : ∀ x ∈ wait', x ∈ wait2) (h2 : ∀ x ∈ wait2, S x)
    (h3 : ∀ b v r, m.p = b ++ v :: r → b ≠ [] → ∀ y, S y → Onw b (Nxt (out ++ [m]) b) y.p → ∃ c ∈ wait2, Onw b (Nxt (out ++ [m]) b) c.p ∧ yLt y c = false) : YI S (out ++ [m]) wait2 := by
  have hmS : S m := h.wS m (hp.mem_iff.1 List.mem_cons_self)
  refine ⟨h2, fun x hx => ?_, fun x hx y hy hn => ?_, fun b v hv hb y hy ho => ?_, fun e => by simp at e⟩
  · rcases List.mem_append.1 hx with g | g
    · exact h.oS x g
    · rw [List.mem_singleton.1 g]; exact hmS
  · have hn1 : y ∉ out := fun g => hn (List.mem_append_left _ g)
    have hn2 : y ≠ m := fun g => hn (by rw [g]; exact List.mem_append_right _ (List.mem_singleton.2 rfl))
    rcases List.mem_append.1 hx with g | g
    · exact h.low x g y hy hn1
    · rw [List.mem_singleton.1 g]
      have g1 := yi_least hs h hl hy hn1
      by_cases g2 : yLt m y = true
      · exact g2
      · exact absurd (yLt_same g1 (by simpa using g2)) hn2
  · by_cases hb2 : ∃ u r, m.p = b ++ u :: r
    · obtain ⟨u, r, e⟩ := hb2
      exact h3 b u r e hb y hy ho
    · have hnx : ∀ u, Nxt (out ++ [m]) b u ↔ Nxt out b u := fun u => by
        constructor
        · rintro ⟨x, hx, r, e⟩
          rcases List.mem_append.1 hx with g | g
          · exact ⟨x, g, r, e⟩
          · rw [List.mem_singleton.1 g] at e; exact absurd ⟨u, r, e⟩ hb2
        · rintro ⟨x, hx, r, e⟩
          exact ⟨x, List.mem_append_left _ hx, r, e⟩
      obtain ⟨u0, r0, e0, n0⟩ := ho
      obtain ⟨c, hc, ⟨u, r, g1, g2⟩, hle⟩ := h.inv b v ((hnx v).1 hv) hb y hy ⟨u0, r0, e0, fun g => n0 ((hnx u0).2 g)⟩
      refine ⟨c, ?_, ⟨u, r, g1, fun g => g2 ((hnx u).1 g)⟩, hle⟩
      rcases List.mem_cons.1 (hp.mem_iff.2 hc) with rfl | hc'
      · exact absurd ⟨u, r, g1⟩ hb2
      · exact h1 c hc'
theorem yi_start {S : Wy → Prop} {wait : List Wy} (h1 : ∀ x ∈ wait, S x) (h2 : ∀ y, S y → ∃ c ∈ wait, yLt y c = false) : YI S [] wait :=
  ⟨h1, fun x hx => (List.not_mem_nil hx).elim, fun x hx => (List.not_mem_nil hx).elim, fun b v hv => (by obtain ⟨x, hx, _⟩ := hv; exact (List.not_mem_nil hx).elim), fun _ => h2⟩
/-- nothing waits: all are found -/
theorem yi_all {s : Nat} {S : Wy → Prop} {out : List Wy} (hs : YS s S) (h : YI S out []) {y : Wy} (hy : S y) : y ∈ out := by
  by_cases hn : y ∈ out
  · exact hn
  · obtain ⟨c, hc, _⟩ := yi_ahead hs h hy hn
    cases hc
/-- all in order, and what is found first -/
theorem yi_best {S : Wy → Prop} {out wait best : List Wy} (h : YI S out wait) (ho : out.Pairwise (fun a b => yLt a b = true)) (hb : best.Pairwise (fun a b => yLt a b = true)) (hbS : ∀ x, x ∈ best ↔ S x) : out = best.take out.length := by
  have key : ∀ (o bs : List Wy), o.Pairwise (fun a b => yLt a b = true) → bs.Pairwise (fun a b => yLt a b = true) → (∀ x ∈ o, x ∈ bs) → (∀ x ∈ o, ∀ y ∈ bs, y ∉ o → yLt x y = true) → o = bs.take o.length := by
    intro o
    induction o with
    | nil => intro bs _ _ _ _; simp
    | cons a r ih =>
      intro bs h1 h2 h3 h4
      cases bs with
      | nil => exact absurd (h3 a List.mem_cons_self) (by simp)
      | cons b bs =>
        rw [List.pairwise_cons] at h1 h2
        have hab : a = b := by
          apply Classical.byContradiction
          intro hne
          have g1 : a ∈ bs := by
            rcases List.mem_cons.1 (h3 a List.mem_cons_self) with g | g
            · exact absurd g hne
            · exact g
          have g2 := h2.1 a g1
          by_cases g3 : b ∈ r
          · have := h1.1 b g3
            rw [yLt_ord.asym _ _ g2] at this
            cases this
          · have := h4 a List.mem_cons_self b List.mem_cons_self (by simp [g3, Ne.symm hne])
            rw [yLt_ord.asym _ _ g2] at this
            cases this
        subst hab
        rw [List.length_cons, List.take_succ_cons]
        congr 1
        have hna : ∀ x ∈ r, x ≠ a := fun x hx e => by have := h1.1 x hx; rw [e, yLt_ord.irr] at this; cases this
        have hnb : ∀ x ∈ bs, x ≠ a := fun x hx e => by have := h2.1 x hx; rw [e, yLt_ord.irr] at this; cases this
        refine ih bs h1.2 h2.2 (fun x hx => ?_) (fun x hx y hy hn => h4 x (List.mem_cons_of_mem _ hx) y (List.mem_cons_of_mem _ hy) (fun g => ?_))
        · rcases List.mem_cons.1 (h3 x (List.mem_cons_of_mem _ hx)) with g | g
          · exact absurd g (hna x hx)
          · exact g
        · rcases List.mem_cons.1 g with g | g
          · exact hnb y hy g
          · exact hn g
  exact key out best ho hb (fun x hx => (hbS x).2 (h.oS x hx)) (fun x hx y hy hn => h.low x hx y ((hbS y).1 hy) hn)
end Go.Proofs.Ytcehdpeeaogpiaa
