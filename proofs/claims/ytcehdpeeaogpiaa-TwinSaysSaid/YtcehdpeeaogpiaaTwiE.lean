/-
  Plain laws for twin.Two's statement: two walks that are apart and cost least answer as the document's words say. Conditions: a right net of costs above 0.
-/
import Derived.Test.YtcehdpeeaogpiaaTwiD
import Derived.Test.YtcehdpeeaogpiaaTwA
import Derived.Test.YtcehdpeeaogpiaaWayE
import Derived.Test.YtcehdpeeaogpiaaWCost
namespace Go.Proofs.Ytcehdpeeaogpiaa
open Go.RowKit
set_option linter.unusedSimpArgs false
set_option linter.unusedVariables false
theorem plc_len (es : List Ed) (l : List Nat) (u : Nat) : (plc es u l).length = l.length + 1 := by rw [plc_eq]; simp
theorem plc_lt {es : List Ed} {n : Nat} (hes : Right n es) {l : List Nat} {u : Nat} (hu : u < n) (hl : ∀ i ∈ l, i < es.length) : ∀ v ∈ plc es u l, v < n := by
  rw [plc_eq]
  intro v hv
  rcases List.mem_cons.1 hv with rfl | hv
  · exact hu
  · obtain ⟨i, hi, rfl⟩ := List.mem_map.1 hv
    have := hes (edN es i) (edN_mem (hl i hi))
    omega
theorem plc_last {es : List Ed} {t : Nat} : ∀ {l : List Nat} {u : Nat}, WkL es u l t → (plc es u l)[l.length]? = some t
  | [], u, h => by have : u = t := h; subst this; rfl
  | i :: l, u, h => by
    have ih := plc_last h.2.2
    rw [plc, List.length_cons, List.getElem?_cons_succ]
    exact ih
theorem wc_zero {n : Nat} {es : List Ed} (hes : Right n es) {t : Nat} : ∀ {l : List Nat} {u : Nat} (s : Int), WkL es u l t → (wcRest es (NI (plc es u l)) s).2 = 0
  | [], u, s, _ => by simp [plc, NI, wcRest]
  | i :: l, u, s, h => by
    have hp : plc es u (i :: l) = u :: (edN es i).v.toNat :: l.map (fun i => (edN es i).v.toNat) := by rw [plc, plc_eq]
    have hp2 : plc es (ev es i) l = (edN es i).v.toNat :: l.map (fun i => (edN es i).v.toNat) := by rw [plc_eq]; rfl
    have hr := hes (edN es i) (edN_mem h.1)
    have hu := h.2.1
    unfold eu at hu
    have hne : minE (u : Int) ((edN es i).v.toNat : Int) es ≠ 1099511627776 := by
      have := (minE_fold (u : Int) ((edN es i).v.toNat : Int) es 1099511627776).2.1 (edN es i) (edN_mem h.1) (by omega) (by omega)
      change minE (u : Int) ((edN es i).v.toNat : Int) es ≤ (edN es i).c at this
      omega
    rw [hp]
    simp only [NI, List.map_cons]
    rw [wcRest, if_neg hne]
    have ih := wc_zero hes (s + minE (u : Int) ((edN es i).v.toNat : Int) es) h.2.2
    rw [hp2] at ih
    simp only [NI, List.map_cons] at ih
    exact ih
theorem nodup_map {g : Nat → Nat} : ∀ {l : List Nat}, (l.map g).Nodup → l.Nodup
  | [], _ => List.nodup_nil
  | x :: r, h => by
    rw [List.map_cons] at h
    have h2 := List.nodup_cons.1 h
    exact List.nodup_cons.2 ⟨fun hx => h2.1 (List.mem_map.2 ⟨x, hx, rfl⟩), nodup_map h2.2⟩
theorem plc_nodup {es : List Ed} {l : List Nat} {u : Nat} (h : (plc es u l).Nodup) : l.Nodup := by
  rw [plc_eq] at h
  exact nodup_map (List.nodup_cons.1 h).2
theorem disj_app {a b : List Nat} (ha : a.Nodup) (hb : b.Nodup) (h : disjL a b = true) : (a ++ b).Nodup := by
  rw [List.nodup_append]
  exact ⟨ha, hb, fun x hx y hy e => disjL_iff.1 h x hx (by rw [e]; exact hy)⟩
/-- all that the law asks of one of the two -/
structure WayOk (n : Nat) (es : List Ed) (f t : Nat) (A : List Nat) : Prop where
  cost : (wcost (n : Int) es (NI (plc es f A))).2 = 0
  len : (plc es f A).length ≤ 64
  hd : (plc es f A)[0]? = some f
  ls : (plc es f A)[A.length]? = some t
theorem way_of {n : Nat} {es : List Ed} {f t : Nat} {A : List Nat} (h0 : netErr (n : Int) es = 0) (hf : f < n) (hA : WkL es f A t) (hd : (plc es f A).Nodup) : WayOk n es f t A := by
  obtain ⟨n1, n2, n3, n4⟩ := netErr_ok h0
  have hes : Right n es := n4
  have hlt := plc_lt hes hf (wkl_lt hA)
  have hlen : (plc es f A).length ≤ 64 := by have := nodup_fits0 _ hd hlt; omega
  refine ⟨?_, hlen, by rw [plc_eq]; rfl, plc_last hA⟩
  unfold wcost
  rw [if_neg (by simpa using h0), if_neg (by rw [ni_len, plc_len]; omega), if_neg (by rw [ni_len]; omega), if_neg]
  · exact wc_zero hes 0 hA
  · simp only [List.any_eq_true, not_exists, not_and]
    intro x hx
    obtain ⟨v, hv2, rfl⟩ := List.mem_map.1 hx
    have := hlt v hv2
    simp [badAt]
    omega
theorem sim_all {n : Nat} {es : List Ed} {f t : Nat} (hes : Right n es) (hn : n ≤ 6) (hf : f < n) (r : List Nat) : r ∈ simF es t 6 f [] ↔ EP es t f r ∧ (plc es f r).Nodup := by
  rw [simF_mem hes 6 f [] hf List.nodup_nil (fun v hv => by cases hv) (by simp) (by simpa using hn)]
  simp
theorem two_swap {es : List Ed} {f t : Nat} {A B : List Nat} (h : TwoYes es f t A B) : TwoYes es f t B A := by
  obtain ⟨⟨π, U, h1, h2, h3⟩, h4, h5, h6⟩ := h
  refine ⟨⟨π, U, h1, h2, fun i hi => h3 i ?_⟩, h5, h4, ?_⟩
  · rcases List.mem_append.1 hi with hi | hi
    · exact List.mem_append_right _ hi
    · exact List.mem_append_left _ hi
  · have := List.nodup_append.1 h6
    exact List.nodup_append.2 ⟨this.2.1, this.1, fun a ha b hb e => this.2.2 b hb a ha e.symm⟩
theorem two_way {n : Nat} {es : List Ed} {f t : Nat} {A B : List Nat} (h0 : netErr (n : Int) es = 0) (hp : ∀ e ∈ es, 1 ≤ e.c) (hf : f < n) (h : TwoYes es f t A B) : WayOk n es f t A := by
  obtain ⟨n1, n2, n3, n4⟩ := netErr_ok h0
  have hes : Right n es := n4
  obtain ⟨π, U, h1, h2, h3⟩ := h.ex
  exact way_of h0 hf h.wa (two_once (right_ends hes) (fun i hi => hp _ (edN_mem hi)) h1 h2 h.wa h.wb h.nd h3)
theorem two_costs {n : Nat} {es : List Ed} {f t : Nat} {A B : List Nat} (h0 : netErr (n : Int) es = 0) (hp : ∀ e ∈ es, 1 ≤ e.c) (hf : f < n) (h : TwoYes es f t A B) :
    ApartA n es (NI (plc es f A)) (NI (plc es f B)) ∧ sumE es A + sumE es B = costTwoF es n (NI (plc es f A)) (NI (plc es f B)) ∧ (n ≤ 6 → sumE es A + sumE es B = twoF es (simF es t 6 f [])) := by
  obtain ⟨n1, n2, n3, n4⟩ := netErr_ok h0
  have hes : Right n es := n4
  obtain ⟨π, U, h1, h2, h3⟩ := h.ex
  have hc : ∀ i, i < es.length → 1 ≤ ec es i := fun i hi => hp _ (edN_mem hi)
  obtain ⟨a1, a2⟩ := two_all (right_ends hes) hc h1 h2 h.wa h.wb h.nd h3
  have hU : ∀ i, i < es.length → (U i = true ↔ i ∈ A ++ B) := fun i hi => ⟨a1 i hi, h3 i⟩
  have o1 := two_once (right_ends hes) hc h1 h2 h.wa h.wb h.nd h3
  have hs := two_swap h
  have o2 := two_once (right_ends hes) hc h1 h2 h.wb h.wa hs.nd (fun i hi => h3 i (by
    rcases List.mem_append.1 hi with hi | hi
    · exact List.mem_append_right _ hi
    · exact List.mem_append_left _ hi))
  refine ⟨apart_is hes h.wa h.wb h.nd hU, by rw [costTwo_is hes h1 h.wa h.wb h.nd hU, a2], fun hn6 => ?_⟩
  have hz : ∀ i ∈ A ++ B, 0 ≤ (edN es i).u := fun i hi => by
    have hi2 : i < es.length := by
      rcases List.mem_append.1 hi with hi | hi
      · exact wkl_lt h.wa i hi
      · exact wkl_lt h.wb i hi
    have := hes (edN es i) (edN_mem hi2)
    omega
  have mA : A ∈ simF es t 6 f [] := (sim_all hes hn6 hf A).2 ⟨wkl_ep h.wa o1 (fun i hi => hz i (List.mem_append_left _ hi)), o1⟩
  have mB : B ∈ simF es t 6 f [] := (sim_all hes hn6 hf B).2 ⟨wkl_ep h.wb o2 (fun i hi => hz i (List.mem_append_right _ hi)), o2⟩
  have hdj : disjL A B = true := disjL_iff.2 (fun i hi hj => (List.nodup_append.1 h.nd).2.2 i hi i hj rfl)
  have bA := sum_bd hes A (wkl_lt h.wa)
  have bB := sum_bd hes B (wkl_lt h.wb)
  have lA := nodup_fits0 A (plc_nodup o1) (wkl_lt h.wa)
  have lB := nodup_fits0 B (plc_nodup o2) (wkl_lt h.wb)
  refine (twoF_is mA mB hdj (by unfold FAR; omega) (fun a ha b hb hab => ?_)).symm
  obtain ⟨ea, na⟩ := (sim_all hes hn6 hf a).1 ha
  obtain ⟨eb, nb⟩ := (sim_all hes hn6 hf b).1 hb
  rw [← a2]
  exact two_least (right_ends hes) h1 h2 (ep_wkl ea) (ep_wkl eb) (disj_app (plc_nodup na) (plc_nodup nb) hab)
theorem two_none {n : Nat} {es : List Ed} {f t : Nat} (hes : Right n es) (hn6 : n ≤ 6) (hf : f < n) (h : TwoNo es f t) : FAR = twoF es (simF es t 6 f []) := by
  refine (twoF_none (fun a ha b hb hab => ?_)).symm
  obtain ⟨ea, na⟩ := (sim_all hes hn6 hf a).1 ha
  obtain ⟨eb, nb⟩ := (sim_all hes hn6 hf b).1 hb
  exact h a b (ep_wkl ea) (ep_wkl eb) (disj_app (plc_nodup na) (plc_nodup nb) hab)
end Go.Proofs.Ytcehdpeeaogpiaa
