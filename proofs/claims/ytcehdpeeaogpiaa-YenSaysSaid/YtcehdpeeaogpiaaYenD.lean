/-
  Plain laws for the best ways (yen): the least way that goes on; what K's search finds. No condition.
-/
import Derived.Test.YtcehdpeeaogpiaaYenB
import Derived.Test.YtcehdpeeaogpiaaRevP
namespace Go.Proofs.Ytcehdpeeaogpiaa
open Go.RowKit
set_option linter.unusedSimpArgs false
set_option linter.unusedVariables false
/-- the least costs to t, reckoned in the net turned round -/
theorem dok_of {n t : Nat} {es : List Ed} (hes : Right n es) (hp : ∀ e ∈ es, 1 ≤ e.c) (ht : t < n) : DOk (nes es) t (distF n (es.map flip) t) := by
  have hE : ∀ e ∈ nes es, e.u < n ∧ e.v < n ∧ 1 ≤ e.c := by
    intro e he
    obtain ⟨x, hx, rfl⟩ := nes_mem he
    have := hes x hx
    have := hp x hx
    simp only
    omega
  have hF : ∀ e ∈ nes (es.map flip), e.u < n ∧ e.v < n ∧ 1 ≤ e.c := by
    rw [nes_flip]
    intro e he
    obtain ⟨x, hx, rfl⟩ := List.mem_map.1 he
    have := hE x hx
    exact ⟨this.2.1, this.1, this.2.2⟩
  have hm : ∀ e ∈ nes es, neFlip e ∈ nes (es.map flip) := by
    intro e he
    rw [nes_flip]
    exact List.mem_map.2 ⟨e, he, rfl⟩
  have hf := spread_feas hF ht
  have hnn : ∀ v, 0 ≤ distF n (es.map flip) t v := by
    intro v
    refine spread_ge (f := fun _ => 0) (fun e he _ => ?_) (fun v => ?_) (n - 1) v
    · have := hF e he; simp only; omega
    · unfold stF; split <;> simp [FAR]
  have h0 : distF n (es.map flip) t t = 0 := by
    have h1 := spread_le (nes (es.map flip)) (stF t) (n - 1) t
    have h2 := hnn t
    rw [stF_self] at h1
    unfold distF at h2 ⊢
    omega
  refine ⟨fun e he => (hE e he).2.2, hnn, h0, fun e he hlt => ?_, fun u hu hlt => ?_⟩
  · have := hf.1 (neFlip e) (hm e he) hlt
    simp only [neFlip] at this
    unfold distF
    omega
  · have ha := (spread_att (nes (es.map flip)) (stF t) (stF_far t) (n - 1) u).2 hlt
    have key : ∀ {w : Nat} {x : Int}, At (nes (es.map flip)) (stF t) w x → w ≠ t → x = distF n (es.map flip) t w → ∃ e ∈ nes es, e.u = w ∧ distF n (es.map flip) t e.v < FAR ∧ e.c + distF n (es.map flip) t e.v = distF n (es.map flip) t w := by
      intro w x h hw hx
      cases h with
      | base v hv => exact absurd (stF_zero hv) hw
      | step e x he h hx2 hy =>
        have hge : distF n (es.map flip) t e.u ≤ x := at_ge (fun e he hl => hf.1 e he hl) (fun v => spread_le _ _ _ v) h
        have hfe := hf.1 e he (by change distF n (es.map flip) t e.u < FAR; omega)
        change distF n (es.map flip) t e.v ≤ distF n (es.map flip) t e.u + e.c at hfe
        obtain ⟨y, hy2, hye⟩ := List.mem_map.1 (by rw [nes_flip] at he; exact he)
        subst hye
        simp only [neFlip] at hfe hge hx ⊢
        exact ⟨y, hy2, rfl, by omega, by omega⟩
    exact key ha hu rfl
/-- what goes on from b, its next step none of no: the least -/
def OnwIs (es : List Ed) (s t : Nat) (b : List Nat) (no : Nat → Prop) : Option Wy → Prop
  | none => ∀ y, YW es s t y → ¬ Onw b no y.p
  | some c => YW es s t c ∧ Onw b no c.p ∧ ∀ y, YW es s t y → Onw b no y.p → yLt y c = false
/-- the rest of the edges -/
def keepB (b0 : List Nat) (u : Nat) (no : List Nat) (e : Ed) : Bool := !((b0 ++ [u]).contains e.v.toNat || b0.contains e.u.toNat || (e.u.toNat == u && no.contains e.v.toNat))
theorem rest_mem {es : List Ed} {b0 : List Nat} {u : Nat} {no : List Nat} (e : NE) : e ∈ nes (es.filter (keepB b0 u no)) ↔ e ∈ nes es ∧ Kp b0 u (fun v => v ∈ no) e := by
  unfold nes Kp
  simp only [List.mem_map, List.mem_filter]
  constructor
  · rintro ⟨x, ⟨hx, hk⟩, rfl⟩
    refine ⟨⟨x, hx, rfl⟩, ?_⟩
    simp [keepB] at hk
    simp
    obtain ⟨⟨h1, h2⟩, h3⟩ := hk
    exact ⟨h1, h2, fun q => h3.elim (fun z => absurd q z) id⟩
  · rintro ⟨⟨x, hx, rfl⟩, hk⟩
    refine ⟨x, ⟨hx, ?_⟩, rfl⟩
    simp [keepB]
    simp at hk
    obtain ⟨h1, h2, h3⟩ := hk
    exact ⟨⟨h1, h2⟩, (Classical.em _).elim (fun q => .inr (h3 q)) .inl⟩
theorem right_filter {n : Nat} {es : List Ed} (p : Ed → Bool) (h : Right n es) : Right n (es.filter p) := fun e he => h e (List.mem_filter.1 he).1
/-- the costs to the end over the rest -/
def restD (n : Nat) (es : List Ed) (t : Nat) (b0 : List Nat) (u : Nat) (no : List Nat) : Nat → Int := distF n ((es.filter (keepB b0 u no)).map flip) t
theorem rest_dok {n t : Nat} {es : List Ed} (hes : Right n es) (hp : ∀ e ∈ es, 1 ≤ e.c) (ht : t < n) (b0 : List Nat) (u : Nat) (no : List Nat) : DOk (nes (es.filter (keepB b0 u no))) t (restD n es t b0 u no) :=
  dok_of (right_filter _ hes) (fun e he => hp e (List.mem_filter.1 he).1) ht
theorem nodup_fits : ∀ {n : Nat} {l : List Nat}, l.Nodup → (∀ v ∈ l, v < n) → l.length ≤ n
  | 0, [], _, _ => Nat.le_refl _
  | 0, a :: r, _, h => absurd (h a List.mem_cons_self) (by omega)
  | n + 1, l, hd, h => by
    have h1 : (l.erase n).length ≤ n := nodup_fits (hd.erase n) (fun v hv => by
      have := (List.Nodup.mem_erase_iff hd).1 hv
      have := h v this.2
      omega)
    have := List.length_erase (a := n) (l := l)
    split at this <;> omega
theorem sim_len {n : Nat} {es : List Ed} (hes : Right n es) {s t : Nat} {p : List Nat} (hs : s < n) (h : Sim (nes es) s t p) : p.length ≤ n ∧ ∀ v ∈ p, v < n := by
  have hv : ∀ v ∈ p, v < n := by
    obtain ⟨r, hr⟩ := h.hd
    have key : ∀ (q : List Nat) (a : Nat), a < n → Lnk (nes es) (a :: q) → ∀ v ∈ a :: q, v < n := by
      intro q
      induction q with
      | nil => intro a ha _ v hv; simp at hv; omega
      | cons b q ih =>
        intro a ha hl v hv
        obtain ⟨⟨e, he, h1, h2⟩, h3⟩ := hl
        have := nes_right hes e he
        rcases List.mem_cons.1 hv with rfl | hv
        · exact ha
        · exact ih b (by omega) h3 v hv
    have hl := h.lnk
    rw [hr] at hl ⊢
    exact key r s hs hl
  refine ⟨?_, hv⟩
  exact nodup_fits h.nd hv
/-- the answer of onward -/
theorem onw_is {n s t u : Nat} {es : List Ed} (hn : n ≤ 64) (hes : Right n es) (hp : ∀ e ∈ es, 1 ≤ e.c) (hs : s < n) (ht : t < n) {b0 no : List Nat} (hh : ∃ r, b0 ++ [u] = s :: r) (hd : (b0 ++ [u]).Nodup) (hl : Lnk (nes es) (b0 ++ [u])) :
    (FAR ≤ restD n es t b0 u no u → OnwIs es s t (b0 ++ [u]) (fun v => v ∈ no) none) ∧
    (∀ g, restD n es t b0 u no u < FAR → Grd (nes (es.filter (keepB b0 u no))) (restD n es t b0 u no) t u g → YW es s t ⟨pcost es (b0 ++ u :: g), b0 ++ u :: g⟩ ∧ (u ≠ t → OnwIs es s t (b0 ++ [u]) (fun v => v ∈ no) (some ⟨pcost es (b0 ++ u :: g), b0 ++ u :: g⟩))) := by
  have hD := rest_dok hes hp ht b0 u no
  have hR := rest_mem (es := es) (b0 := b0) (u := u) (no := no)
  have hm := yen_min hes
  refine ⟨fun hF y hy ho => ?_, fun g hF hg => ?_⟩
  · refine onw_none (n := n) hR hm hD (fun p hS => ?_) (pcost_nn hp) hF hy ho
    have h1 := pcost_le hes p hS.lnk
    have h2 := (sim_len hes hs hS).1
    simp only [FAR]
    omega
  · have hSim := onw_sim hR hD hh hd hl hg
    refine ⟨⟨hSim, rfl⟩, fun hut => ⟨⟨hSim, rfl⟩, ?_, fun y hy ho => ?_⟩⟩
    · cases hg with
      | stop => exact absurd rfl hut
      | @step _ v r _ htg _ _ =>
        obtain ⟨_, e, he, h1, h2, _⟩ := htg
        refine ⟨v, r, by simp, fun hno => ?_⟩
        exact ((hR e).1 he).2.2.2 ⟨h1, by rw [h2]; exact hno⟩
    · refine onw_least hR hm hD hF hg (grd_cost hD (fun e he => ?_) hg) hy ho
      obtain ⟨he1, hk⟩ := (hR e).1 he
      obtain ⟨e', q0, q1, q2, q3, q4⟩ := hm e he1
      refine ⟨e', (hR e').2 ⟨q0, ?_⟩, q1, q2, q3, q4⟩
      unfold Kp at hk ⊢
      rw [q1, q2]
      exact hk
/-- from the start: where the first way leads, or that there is none -/
theorem onw_start {n s t : Nat} {es : List Ed} (hn : n ≤ 64) (hes : Right n es) (hp : ∀ e ∈ es, 1 ≤ e.c) (hs : s < n) (ht : t < n) :
    (FAR ≤ restD n es t [] s [] s → ∀ y, ¬ YW es s t y) ∧
    (∀ g, restD n es t [] s [] s < FAR → Grd (nes (es.filter (keepB [] s []))) (restD n es t [] s []) t s g → YW es s t ⟨pcost es (s :: g), s :: g⟩ ∧ ∀ y, YW es s t y → yLt y ⟨pcost es (s :: g), s :: g⟩ = false) := by
  have h := onw_is (s := s) (t := t) (u := s) (b0 := []) (no := []) hn hes hp hs ht ⟨[], rfl⟩ (by simp) (by simp [Lnk])
  have hone : ∀ y, YW es s t y → s ≠ t → Onw ([] ++ [s]) (fun v => v ∈ ([] : List Nat)) y.p := by
    intro y hy hst
    obtain ⟨r, hr⟩ := hy.1.hd
    cases r with
    | nil => have := hy.1.last; rw [hr] at this; simp at this; exact absurd this hst
    | cons v r => exact ⟨v, r, by rw [hr]; rfl, by simp⟩
  have hself : ∀ y, YW es s t y → s = t → y.p = [s] ∧ y.c = 0 := by
    intro y hy hst
    obtain ⟨r, hr⟩ := hy.1.hd
    have : r = [] := by
      have h1 := hy.1.last
      have h2 := hy.1.nd
      rw [hr] at h1 h2
      cases r with
      | nil => rfl
      | cons v r =>
        rw [List.getLast?_cons_cons] at h1
        exact absurd (by rw [hst]; exact List.mem_of_getLast? h1) (List.nodup_cons.1 h2).1
    subst this
    refine ⟨hr, ?_⟩
    rw [hy.2, hr]
    rfl
  have hD := rest_dok hes hp ht [] s []
  constructor
  · intro hF y hy
    by_cases hst : s = t
    · have h0 := hD.zero
      rw [← hst] at h0
      rw [hst] at hF h0
      rw [h0] at hF
      simp [FAR] at hF
    · exact h.1 hF y hy (hone y hy hst)
  · intro g hF hg
    have hyw := h.2 g hF hg
    refine ⟨hyw.1, fun y hy => ?_⟩
    by_cases hst : s = t
    · obtain ⟨p1, p2⟩ := hself y hy hst
      obtain ⟨q1, q2⟩ := hself _ hyw.1 hst
      simp only at q1 q2
      have : y = ⟨pcost es ([] ++ s :: g), [] ++ s :: g⟩ := by
        cases y
        simp only at p1 p2
        simp only [List.nil_append]
        rw [Wy.mk.injEq]
        exact ⟨by rw [p2]; exact q2.symm, by rw [p1]; exact q1.symm⟩
      rw [this]
      exact yLt_ord.irr _
    · exact (hyw.2 hst).2.2 y hy (hone y hy hst)
end Go.Proofs.Ytcehdpeeaogpiaa
