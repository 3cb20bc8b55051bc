/-
  Cuts and widths: the widest walk's width goes through, no less; wide edges join the places, wider ones do not. No program here.
-/
import Derived.Test.YtcehdpeeaogpiaaFlowQ
import Derived.Test.YtcehdpeeaogpiaaWideP
import Derived.Test.YtcehdpeeaogpiaaAllP
import Derived.Test.YtcehdpeeaogpiaaWayP
import Derived.Test.YtcehdpeeaogpiaaStart
namespace Go.Proofs.Ytcehdpeeaogpiaa
set_option linter.unusedSimpArgs false
set_option linter.unusedVariables false
theorem at_lead {E : List NE} {a v : Nat} {x : Int} (h : At E (stF a) v x) : Lead E (fun _ => true) a v := by
  induction h with
  | base v h => rw [stF_zero h]; exact Lead.refl
  | step e x he h hx hy ih => exact Lead.step e ih he rfl
/-- reached just if a walk leads there -/
theorem dist_lead {n a : Nat} {E : List NE} (hn : n ≤ 64) (hE : ∀ e ∈ E, e.u < n ∧ e.v < n ∧ 1 ≤ e.c ∧ e.c ≤ 10000) (ha : a < n) (v : Nat) (hv : v < n) : spread E (stF a) (n - 1) v < FAR ↔ Lead E (fun _ => true) a v := by
  have hE2 : ∀ e ∈ E, e.u < n ∧ e.v < n ∧ 1 ≤ e.c := fun e he => ⟨(hE e he).1, (hE e he).2.1, (hE e he).2.2.1⟩
  have hf := spread_feas hE2 ha
  have hup := spread_up (es := E) (K := 0) (d := stF a) (fun v => by unfold stF; split <;> omega) (fun e he => (hE e he).2.2.2) (by unfold FAR; omega) (n - 1) (by omega)
  have hat := spread_att E (stF a) (stF_far a) (n - 1)
  constructor
  · intro h
    exact at_lead ((hat v).2 h)
  · intro h
    have key : ∀ z, Lead E (fun _ => true) a z → spread E (stF a) (n - 1) z < FAR := by
      intro z hz
      induction hz with
      | refl =>
        have := (hat a).1
        rw [stF_self] at this
        unfold FAR; omega
      | step e _ he hi ih =>
        have h1 := hf.1 e he ih
        have h2 := hup e.u
        have h3 := (hE e he).2.2.2
        rcases h2 with h2 | h2
        · omega
        · unfold FAR at *; omega
    exact key v h
/-- the edges of width w and more -/
def wideE (w : Int) (es : List Ed) : List Ed := es.filter fun e => decide (w ≤ e.c)
def widerE (w : Int) (es : List Ed) : List Ed := (wideE w es).filter fun e => !(e.c == w)
theorem wideE_len (w : Int) (es : List Ed) : (wideE w es).length ≤ es.length := List.length_filter_le _ _
theorem widerE_len (w : Int) (es : List Ed) : (widerE w es).length ≤ es.length := Nat.le_trans (List.length_filter_le _ _) (wideE_len w es)
theorem wideE_mem {w : Int} {es : List Ed} {e : Ed} (h : e ∈ wideE w es) : e ∈ es := (List.mem_filter.1 h).1
theorem widerE_mem {w : Int} {es : List Ed} {e : Ed} (h : e ∈ widerE w es) : e ∈ es := wideE_mem (List.mem_filter.1 h).1
theorem wide_lead1 {es : List Ed} {w : Int} {a v : Nat} : Lead (nes (wideE w es)) (fun _ => true) a v ↔ Lead (nes es) (geE w) a v := by
  constructor
  · intro h
    induction h with
    | refl => exact Lead.refl
    | step e _ he hi ih =>
      obtain ⟨x, hx, rfl⟩ := nes_mem he
      have h1 := List.mem_filter.1 hx
      exact Lead.step ⟨x.u.toNat, x.v.toNat, x.c⟩ ih (List.mem_map.2 ⟨x, h1.1, rfl⟩) (by simpa [geE] using h1.2)
  · intro h
    induction h with
    | refl => exact Lead.refl
    | step e _ he hi ih =>
      obtain ⟨x, hx, rfl⟩ := nes_mem he
      exact Lead.step ⟨x.u.toNat, x.v.toNat, x.c⟩ ih (List.mem_map.2 ⟨x, List.mem_filter.2 ⟨hx, by simpa [geE] using hi⟩, rfl⟩) rfl
theorem wider_lead1 {es : List Ed} {w : Int} {a v : Nat} (h : Lead (nes (widerE w es)) (fun _ => true) a v) : Lead (nes es) (geE (w + 1)) a v := by
  induction h with
  | refl => exact Lead.refl
  | step e _ he hi ih =>
    obtain ⟨x, hx, rfl⟩ := nes_mem he
    have h1 := List.mem_filter.1 hx
    have h2 := List.mem_filter.1 h1.1
    refine Lead.step ⟨x.u.toNat, x.v.toNat, x.c⟩ ih (List.mem_map.2 ⟨x, h2.1, rfl⟩) ?_
    have a1 : w ≤ x.c := by simpa using h2.2
    have a2 : x.c ≠ w := by simpa using h1.2
    simp only [geE, decide_eq_true_eq]
    omega
theorem room_pos {E : List NE} (S : Nat → Bool) (hc : ∀ e ∈ E, 0 ≤ e.c) : 0 ≤ roomS E S := by
  have h0 : esum (fun _ _ => 0) E 0 = 0 := by rw [esum_const]; simp
  unfold roomS
  rw [← h0]
  refine esum_le E 0 (fun i e he => ?_)
  have := hc e (List.mem_of_getElem? he)
  unfold ifv; split <;> omega
theorem esum_ge_one {g : Nat → NE → Int} : ∀ (E : List NE) (k : Nat), (∀ i e, E[i]? = some e → 0 ≤ g (k + i) e) → ∀ i e, E[i]? = some e → g (k + i) e ≤ esum g E k
  | [], _, _, i, e, he => by simp at he
  | x :: r, k, H, i, e, he => by
    simp only [esum]
    have h0 := H 0 x rfl
    rw [Nat.add_zero] at h0
    have H' : ∀ i e, r[i]? = some e → 0 ≤ g (k + 1 + i) e := fun i e' he => by have := H (i + 1) e' (by simpa using he); rwa [show k + (i + 1) = k + 1 + i by omega] at this
    cases i with
    | zero =>
      simp at he
      subst he
      rw [Nat.add_zero]
      have h1 : 0 ≤ esum g r (k + 1) := by
        have h2 : esum (fun _ _ => 0) r (k + 1) = 0 := by rw [esum_const]; simp
        rw [← h2]
        exact esum_le r (k + 1) H'
      omega
    | succ i =>
      have := esum_ge_one r (k + 1) H' i e (by simpa using he)
      rw [show k + (i + 1) = k + 1 + i by omega]
      omega
theorem room_ge {E : List NE} (S : Nat → Bool) (hc : ∀ e ∈ E, 0 ≤ e.c) {e : NE} (he : e ∈ E) (h1 : S e.u = true) (h2 : S e.v = false) : e.c ≤ roomS E S := by
  obtain ⟨i, hi⟩ := List.getElem?_of_mem he
  have := esum_ge_one (g := fun _ e => ifv (S e.u = true ∧ S e.v = false) e.c) E 0 (fun i e he => by
    have := hc e (List.mem_of_getElem? he)
    unfold ifv; split <;> omega) i e hi
  unfold roomS
  have h3 : ifv (S e.u = true ∧ S e.v = false) e.c = e.c := ifv_t _ ⟨h1, h2⟩
  rw [h3] at this
  exact this
/-- a walk from within a set to without crosses over -/
theorem lead_cross {E : List NE} {is : NE → Bool} {S : Nat → Bool} {a v : Nat} (h : Lead E is a v) (ha : S a = true) (hv : S v = false) : ∃ e ∈ E, is e = true ∧ S e.u = true ∧ S e.v = false := by
  induction h with
  | refl => rw [ha] at hv; cases hv
  | step e _ he hi ih =>
    by_cases hu : S e.u = true
    · exact ⟨e, he, hi, hu, hv⟩
    · exact ih (by simpa using hu)
/-- what holds of a greatest flow and the widest walk -/
theorem top_cut {n s t : Nat} {es : List Ed} {fl : Nat → Int} {sum : Int} (hn : n ≤ 64) (hes : Right n es) (hpos : ∀ e ∈ es, 1 ≤ e.c) (hs : s < n) (ht : t < n) (hst : s ≠ t) (hf : FlowOk (nes es) n s t fl sum) (hnl : ¬ Lead (arcs fl (nes es) 0) posA s t) :
    (wide n (nes es) s t = -FAR ∧ sum = 0) ∨ (wide n (nes es) s t ≠ -FAR ∧ -FAR ≤ wide n (nes es) s t ∧ wide n (nes es) s t ≤ 10000 ∧ wide n (nes es) s t ≤ sum ∧ distF n (wideE (wide n (nes es) s t) es) s t < FAR ∧ distF n (widerE (wide n (nes es) s t) es) s t = FAR) := by
  classical
  have hE := nes_right hes
  have hcost : ∀ e ∈ nes es, 1 ≤ e.c ∧ e.c ≤ 10000 := fun e he => by
    obtain ⟨y, hy, rfl⟩ := nes_mem he
    exact ⟨hpos y hy, (hes y hy).2.2.2.2.2⟩
  obtain ⟨lo, hi⟩ := wide_bounds (n := n) (es := nes es) (fun e he => by have := hcost e he; unfold FAR; omega) s t
  -- the set that is reached beside the flow
  obtain ⟨S, hS⟩ : ∃ S : Nat → Bool, ∀ v, S v = true ↔ Lead (arcs fl (nes es) 0) posA s v := ⟨fun v => decide (Lead (arcs fl (nes es) 0) posA s v), fun v => by simp⟩
  have hss : S s = true := (hS s).2 Lead.refl
  have hst2 : S t = false := by
    cases h : S t with
    | false => rfl
    | true => exact absurd ((hS t).1 h) hnl
  have hsum : sum = roomS (nes es) S := (flow_eq hE hf hs S hss hst2).2 (lead_shut S (fun e he => ⟨hS e.u, hS e.v⟩))
  have hdl : ∀ (xs : List Ed), (∀ e ∈ xs, e ∈ es) → (distF n xs s t < FAR ↔ Lead (nes xs) (fun _ => true) s t) := fun xs hxs => by
    refine dist_lead hn (fun e he => ?_) hs t ht
    obtain ⟨y, hy, rfl⟩ := nes_mem he
    have h1 := nes_right hes ⟨y.u.toNat, y.v.toNat, y.c⟩ (List.mem_map.2 ⟨y, hxs y hy, rfl⟩)
    exact ⟨h1.1, h1.2, hpos y (hxs y hy), (hes y (hxs y hy)).2.2.2.2.2⟩
  by_cases hw : wide n (nes es) s t = -FAR
  · left
    refine ⟨hw, ?_⟩
    obtain ⟨T, hT⟩ : ∃ T : Nat → Bool, ∀ v, T v = true ↔ Lead (nes es) (geE 1) s v := ⟨fun v => decide (Lead (nes es) (geE 1) s v), fun v => by simp⟩
    have hTs : T s = true := (hT s).2 Lead.refl
    have hTt : T t = false := by
      cases h : T t with
      | false => rfl
      | true =>
        have := (wide_lead hE 1 (by unfold FAR; omega) (by unfold FAR; omega) s t hs ht).2 ((hT t).1 h)
        rw [hw] at this
        unfold FAR at this; omega
    have h1 := flow_le hE hf hs T hTs hTt
    have h2 : roomS (nes es) T = 0 := by
      have h0 : esum (fun _ _ => 0) (nes es) 0 = 0 := by rw [esum_const]; simp
      unfold roomS
      rw [← h0]
      refine esum_congr (nes es) 0 (fun i e he => ifv_f _ (fun hc => ?_))
      have hm := List.mem_of_getElem? he
      have : T e.v = true := (hT e.v).2 (Lead.step e ((hT e.u).1 hc.1) hm (by have := hcost e hm; simp only [geE, decide_eq_true_eq]; omega))
      rw [this] at hc
      cases hc.2
    have h3 := room_pos S (fun e he => by have := hcost e he; omega)
    omega
  · right
    have hL := (wide_lead hE _ (show -FAR < wide n (nes es) s t by omega) hi s t hs ht).1 (Int.le_refl _)
    obtain ⟨e, he, h4, h5⟩ := lead_edge hL hst
    have h6 := hcost e he
    refine ⟨hw, lo, by omega, ?_, ?_, ?_⟩
    · obtain ⟨x, hx, g1, g2, g3⟩ := lead_cross hL hss hst2
      have := room_ge S (fun e he => by have := hcost e he; omega) hx g2 g3
      simp only [geE, decide_eq_true_eq] at g1
      omega
    · exact (hdl _ (fun e he => wideE_mem he)).2 (wide_lead1.2 hL)
    · refine Classical.byContradiction fun hne => ?_
      have hle : distF n (widerE (wide n (nes es) s t) es) s t ≤ FAR := Int.le_trans (spread_le _ _ _ _) (stF_far s t)
      have h7 := wider_lead1 ((hdl (widerE (wide n (nes es) s t) es) (fun e he => widerE_mem he)).1 (by omega))
      have h8 := (wide_lead hE (wide n (nes es) s t + 1) (by omega) (by unfold FAR; omega) s t hs ht).2 h7
      omega
end Go.Proofs.Ytcehdpeeaogpiaa
