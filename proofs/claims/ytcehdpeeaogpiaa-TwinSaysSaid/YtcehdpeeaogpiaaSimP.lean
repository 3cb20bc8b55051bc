/-
  Plain laws for the reference's Simple: all walks from a place to another that come to no place twice, as lists of edges. No condition.
-/
import Derived.Test.YtcehdpeeaogpiaaYenB
namespace Go.Proofs.Ytcehdpeeaogpiaa
open Go.RowKit
set_option linter.unusedSimpArgs false
set_option linter.unusedVariables false
theorem nodup_fits0 {n : Nat} : ∀ (l : List Nat), l.Nodup → (∀ v ∈ l, v < n) → l.length ≤ n := by
  induction n with
  | zero =>
    intro l _ h
    cases l with
    | nil => exact Nat.le_refl _
    | cons a r => exact absurd (h a List.mem_cons_self) (by omega)
  | succ n ih =>
    intro l hd h
    have h1 : (l.erase n).length ≤ n := ih (l.erase n) (hd.erase n) (fun v hv => by
      have := (List.Nodup.mem_erase_iff hd).1 hv
      have := h v this.2
      omega)
    have := List.length_erase (a := n) (l := l)
    split at this <;> omega
/-- edge number i -/
def edN (es : List Ed) (i : Nat) : Ed := es.getD i ⟨0, 0, 0⟩
/-- Simple, so deep at most -/
def simF (es : List Ed) (t : Nat) : Nat → Nat → List Nat → List (List Nat)
  | 0, u, _ => if u = t then [[]] else []
  | f + 1, u, seen => if u = t then [[]] else (List.range es.length).flatMap (fun i => if (edN es i).u = (u : Int) ∧ (edN es i).v.toNat ∉ seen ∧ (edN es i).v ≠ (u : Int) then (simF es t f (edN es i).v.toNat (seen ++ [u])).map (i :: ·) else [])
/-- edges one behind the other, from u to t, t once -/
def EP (es : List Ed) (t : Nat) : Nat → List Nat → Prop
  | u, [] => u = t
  | u, i :: l => u ≠ t ∧ i < es.length ∧ (edN es i).u = (u : Int) ∧ EP es t (edN es i).v.toNat l
/-- the places of a list of edges -/
def plc (es : List Ed) : Nat → List Nat → List Nat
  | u, [] => [u]
  | u, i :: l => u :: plc es (edN es i).v.toNat l
theorem plc_eq (es : List Ed) : ∀ (l : List Nat) (u : Nat), plc es u l = u :: l.map (fun i => (edN es i).v.toNat)
  | [], u => rfl
  | i :: l, u => by rw [plc, plc_eq es l]; rfl
theorem simF_mem {es : List Ed} {n t : Nat} (hes : Right n es) : ∀ (f u : Nat) (seen : List Nat), u < n → seen.Nodup → (∀ v ∈ seen, v < n) → u ∉ seen → n ≤ seen.length + f → ∀ r, r ∈ simF es t f u seen ↔ EP es t u r ∧ (plc es u r).Nodup ∧ ∀ v ∈ plc es u r, v ∉ seen := by
  intro f
  induction f with
  | zero =>
    intro u seen hu hd hs hus hl r
    exfalso
    have := nodup_fits0 (u :: seen) (List.nodup_cons.2 ⟨hus, hd⟩) (fun v hv => by
      rcases List.mem_cons.1 hv with rfl | hv
      · exact hu
      · exact hs v hv)
    simp at this
    omega
  | succ f ih =>
    intro u seen hu hd hs hus hl r
    unfold simF
    by_cases hut : u = t
    · subst hut
      rw [if_pos rfl, List.mem_singleton]
      constructor
      · rintro rfl
        exact ⟨rfl, by simp [plc], by simpa [plc] using hus⟩
      · rintro ⟨h1, h2, h3⟩
        cases r with
        | nil => rfl
        | cons i l => exact absurd rfl h1.1
    · rw [if_neg hut, List.mem_flatMap]
      constructor
      · rintro ⟨i, hi, hr⟩
        have hi := List.mem_range.1 hi
        by_cases hc : (edN es i).u = (u : Int) ∧ (edN es i).v.toNat ∉ seen ∧ (edN es i).v ≠ (u : Int)
        · rw [if_pos hc] at hr
          obtain ⟨l, hl2, rfl⟩ := List.mem_map.1 hr
          obtain ⟨c1, c2, c3⟩ := hc
          have hr := hes (edN es i) (by unfold edN; rw [List.getD, List.getElem?_eq_getElem hi]; exact List.getElem_mem hi)
          have hne : (edN es i).v.toNat ≠ u := by omega
          obtain ⟨g1, g2, g3⟩ := (ih (edN es i).v.toNat (seen ++ [u]) (by omega) (List.nodup_append.2 ⟨hd, by simp, fun a ha b hb e => by simp at hb; subst e; subst hb; exact hus ha⟩) (fun v hv => by
            rcases List.mem_append.1 hv with hv | hv
            · exact hs v hv
            · simp at hv; omega) (fun h => by
            rcases List.mem_append.1 h with h | h
            · exact c2 h
            · simp at h; exact hne h) (by rw [List.length_append]; simp; omega) l).1 hl2
          refine ⟨⟨hut, hi, c1, g1⟩, ?_, ?_⟩
          · rw [plc]
            exact List.nodup_cons.2 ⟨fun h => g3 u h (by simp), g2⟩
          · intro v hv hsv
            rw [plc] at hv
            rcases List.mem_cons.1 hv with rfl | hv
            · exact hus hsv
            · exact g3 v hv (List.mem_append_left _ hsv)
        · rw [if_neg hc] at hr
          cases hr
      · rintro ⟨h1, h2, h3⟩
        cases r with
        | nil => exact absurd h1 hut
        | cons i l =>
          obtain ⟨_, hi, c1, g1⟩ := h1
          rw [plc] at h2 h3
          have hin : (edN es i).v.toNat ∈ plc es (edN es i).v.toNat l := by cases l <;> simp [plc]
          have hr := hes (edN es i) (by unfold edN; rw [List.getD, List.getElem?_eq_getElem hi]; exact List.getElem_mem hi)
          have c2 : (edN es i).v.toNat ∉ seen := h3 _ (List.mem_cons_of_mem _ hin)
          have c3 : (edN es i).v.toNat ≠ u := fun e => (List.nodup_cons.1 h2).1 (by rw [plc_eq, e]; exact List.mem_cons_self)
          refine ⟨i, List.mem_range.2 hi, ?_⟩
          rw [if_pos ⟨c1, c2, by omega⟩]
          refine List.mem_map.2 ⟨l, ?_, rfl⟩
          refine (ih (edN es i).v.toNat (seen ++ [u]) (by omega) (List.nodup_append.2 ⟨hd, by simp, fun a ha b hb e => by simp at hb; subst e; subst hb; exact hus ha⟩) (fun v hv => by
            rcases List.mem_append.1 hv with hv | hv
            · exact hs v hv
            · simp at hv; omega) (fun h => by
            rcases List.mem_append.1 h with h | h
            · exact c2 h
            · simp at h; exact c3 h) (by rw [List.length_append]; simp; omega) l).2 ⟨g1, (List.nodup_cons.1 h2).2, fun v hv hs2 => ?_⟩
          rcases List.mem_append.1 hs2 with hs2 | hs2
          · exact h3 v (List.mem_cons_of_mem _ hv) hs2
          · simp at hs2
            subst hs2
            exact (List.nodup_cons.1 h2).1 hv
/-- what edges cost together -/
def sumE (es : List Ed) (l : List Nat) : Int := l.foldl (fun a i => a + (edN es i).c) 0
theorem foldE_sum (es : List Ed) : ∀ (l : List Nat) (a : Int), l.foldl (fun a i => a + (edN es i).c) a = a + (l.map (fun i => (edN es i).c)).sum
  | [], a => by simp
  | i :: l, a => by rw [List.foldl_cons, foldE_sum es l]; simp; omega
theorem sumE_cons (es : List Ed) (i : Nat) (l : List Nat) : sumE es (i :: l) = (edN es i).c + sumE es l := by
  unfold sumE
  rw [foldE_sum, foldE_sum]
  simp
theorem edN_mem {es : List Ed} {i : Nat} (hi : i < es.length) : edN es i ∈ es := by unfold edN; rw [List.getD, List.getElem?_eq_getElem hi]; exact List.getElem_mem hi
/-- places joined by edges, and what the way costs -/
theorem ep_way {es : List Ed} {n t : Nat} (hes : Right n es) : ∀ (l : List Nat) (u : Nat), EP es t u l → Lnk (nes es) (plc es u l) ∧ (plc es u l).getLast? = some t ∧ pcost es (plc es u l) ≤ sumE es l
  | [], u, h => by
    have : u = t := h
    subst this
    simp [plc, Lnk, pcost, sumE]
  | i :: l, u, ⟨h1, hi, h3, h4⟩ => by
    obtain ⟨g1, g2, g3⟩ := ep_way hes l _ h4
    have hr := hes (edN es i) (edN_mem hi)
    have hm : (⟨u, (edN es i).v.toNat, (edN es i).c⟩ : NE) ∈ nes es := List.mem_map.2 ⟨edN es i, edN_mem hi, by rw [h3]; simp⟩
    obtain ⟨e', _, q1, q2, q3, q4⟩ := yen_min hes _ hm
    simp only at q3 q4
    rw [plc, sumE_cons]
    rw [plc_eq] at g1 g2 g3 ⊢
    refine ⟨⟨⟨_, hm, rfl, rfl⟩, g1⟩, by rw [List.getLast?_cons_cons]; exact g2, ?_⟩
    rw [pcost, ← q3]
    omega
/-- a way is one of least edges -/
theorem way_ep {es : List Ed} {n t : Nat} (hes : Right n es) : ∀ (p : List Nat) (u : Nat), Lnk (nes es) (u :: p) → (u :: p).getLast? = some t → (u :: p).Nodup → ∃ l, EP es t u l ∧ plc es u l = u :: p ∧ sumE es l = pcost es (u :: p)
  | [], u, _, hl, _ => by
    simp at hl
    exact ⟨[], hl, rfl, rfl⟩
  | v :: p, u, h, hl, hd => by
    rw [List.getLast?_cons_cons] at hl
    obtain ⟨l, g1, g2, g3⟩ := way_ep hes p v h.2 hl (List.nodup_cons.1 hd).2
    obtain ⟨e, he, h1, h2⟩ := h.1
    obtain ⟨e', he', q1, q2, q3, q4⟩ := yen_min hes e he
    obtain ⟨x, hx, hex⟩ := List.mem_map.1 he'
    obtain ⟨i, hi, hxi⟩ := List.getElem_of_mem hx
    have hix : edN es i = x := by unfold edN; rw [List.getD, List.getElem?_eq_getElem hi]; exact hxi
    have hr := hes x hx
    have hxu : x.u = (u : Int) := by rw [← hex] at q1; simp only at q1; omega
    have hxv : x.v.toNat = v := by rw [← hex] at q2; simp only at q2; omega
    have hxc : x.c = minE (u : Int) (v : Int) es := by rw [← hex, h1, h2] at q3; exact q3
    have hut : u ≠ t := by
      intro e2
      have := List.mem_of_getLast? hl
      rw [← e2] at this
      exact (List.nodup_cons.1 hd).1 this
    refine ⟨i :: l, ⟨hut, hi, by rw [hix]; exact hxu, by rw [hix, hxv]; exact g1⟩, by rw [plc, hix, hxv, g2], ?_⟩
    rw [sumE_cons, hix, hxc, g3, pcost]
/-- the way of a list of edges -/
def wyOf (es : List Ed) (s : Nat) (l : List Nat) : Wy := ⟨sumE es l, plc es s l⟩
/-- all ways in order, each once, as the reference reckons them -/
def bestF (es : List Ed) (s t f : Nat) : List Wy := onceY ((simF es t f s []).foldl (fun o l => insY (wyOf es s l) o) [])
theorem ins_all (es : List Ed) (s : Nat) : ∀ (ls : List (List Nat)) (o : List Wy), o.Pairwise (fun a b => yLt b a = false) → (ls.foldl (fun o l => insY (wyOf es s l) o) o).Pairwise (fun a b => yLt b a = false) ∧ ∀ x, x ∈ ls.foldl (fun o l => insY (wyOf es s l) o) o ↔ x ∈ o ∨ ∃ l ∈ ls, x = wyOf es s l
  | [], o, h => ⟨h, fun x => by simp⟩
  | l :: ls, o, h => by
    obtain ⟨g1, g2⟩ := ins_all es s ls (insY (wyOf es s l) o) (insY_ord _ o h)
    refine ⟨g1, fun x => ?_⟩
    rw [List.foldl_cons, g2 x, (insY_perm _ o).mem_iff, List.mem_cons]
    constructor
    · rintro ((h | h) | ⟨l', h1, h2⟩)
      · exact .inr ⟨l, List.mem_cons_self, h⟩
      · exact .inl h
      · exact .inr ⟨l', List.mem_cons_of_mem _ h1, h2⟩
    · rintro (h | ⟨l', h1, h2⟩)
      · exact .inl (.inr h)
      · rcases List.mem_cons.1 h1 with rfl | h1
        · exact .inl (.inl h2)
        · exact .inr ⟨l', h1, h2⟩
theorem best_is {es : List Ed} {n s t f : Nat} (hes : Right n es) (hs : s < n) (hf : n ≤ f) : (bestF es s t f).Pairwise (fun a b => yLt a b = true) ∧ ∀ x, x ∈ bestF es s t f ↔ YW es s t x := by
  obtain ⟨g1, g2⟩ := ins_all es s (simF es t f s []) [] List.Pairwise.nil
  have hm := simF_mem (t := t) hes f s [] hs List.nodup_nil (fun v hv => by cases hv) (by simp) (by simpa using hf)
  refine ⟨(once_of g1).ord, fun x => best_mem g1 (fun x hx => ?_) (fun p hp => ?_) x⟩
  · rcases (g2 x).1 hx with h | ⟨l, h1, rfl⟩
    · cases h
    · obtain ⟨e1, e2, _⟩ := (hm l).1 h1
      obtain ⟨k1, k2, k3⟩ := ep_way hes l s e1
      exact ⟨⟨⟨_, plc_eq es l s⟩, k2, e2, k1⟩, k3⟩
  · obtain ⟨r, hr⟩ := hp.hd
    subst hr
    obtain ⟨l, k1, k2, k3⟩ := way_ep hes r s hp.lnk hp.last hp.nd
    refine (g2 _).2 (.inr ⟨l, (hm l).2 ⟨k1, by rw [k2]; exact hp.nd, fun v _ h => by cases h⟩, ?_⟩)
    unfold wyOf
    rw [k2, k3]
end Go.Proofs.Ytcehdpeeaogpiaa
