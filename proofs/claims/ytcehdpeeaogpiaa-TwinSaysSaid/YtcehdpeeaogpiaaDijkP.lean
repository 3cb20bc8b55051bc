/-
  Costs from one place by a list of what waits: what stays true, step by step. No program here.
-/
import Derived.Test.YtcehdpeeaogpiaaPlainB
import Derived.Test.YtcehdpeeaogpiaaHeapB
namespace Go.Proofs.Ytcehdpeeaogpiaa
set_option linter.unusedVariables false

/-- what stays true: E the edges, s the costs to begin with, S the places looked from, m the last cost, todo the edges of the last place that are still to do -/
structure DInv (n : Nat) (E : List NE) (s : Nat → Int) (S : Nat → Bool) (m : Int) (todo : List NE) (d : Nat → Int) (L : List P2) : Prop where
  att : Att E s d
  far : ∀ v, d v ≤ FAR
  pos : ∀ v, 0 ≤ d v
  ent : ∀ p ∈ L, 0 ≤ p.b ∧ p.b < n ∧ d p.b.toNat ≤ p.a ∧ m ≤ p.a ∧ p.a ≤ FAR
  nodup : L.Nodup
  wait : ∀ v, v < n → d v < FAR → S v = false → (⟨d v, (v : Int)⟩ : P2) ∈ L
  low : ∀ v, S v = true → d v ≤ m
  edge : ∀ e ∈ E, S e.u = true → e ∉ todo → d e.v ≤ d e.u + e.c
  old : ∀ p ∈ L, S p.b.toNat = true → d p.b.toNat < p.a
theorem DInv.perm {n : Nat} {E : List NE} {s d : Nat → Int} {S : Nat → Bool} {m : Int} {todo : List NE} {L L' : List P2} (h : DInv n E s S m todo d L) (hp : L'.Perm L) : DInv n E s S m todo d L' :=
  ⟨h.att, h.far, h.pos, fun p hm => h.ent p (hp.mem_iff.1 hm), hp.nodup_iff.2 h.nodup, fun v hv h1 h2 => hp.mem_iff.2 (h.wait v hv h1 h2), h.low, h.edge, fun p hm => h.old p (hp.mem_iff.1 hm)⟩
/-- an edge that does not give way -/
theorem DInv.stay {n : Nat} {E : List NE} {s d : Nat → Int} {S : Nat → Bool} {m : Int} {e : NE} {todo : List NE} {L : List P2} (h : DInv n E s S m (e :: todo) d L) (hd : d e.u = m) (hq : ¬ m + e.c < d e.v) : DInv n E s S m todo d L := by
  refine ⟨h.att, h.far, h.pos, h.ent, h.nodup, h.wait, h.low, fun x hx hS ht => ?_, h.old⟩
  by_cases hxe : x = e
  · subst hxe; omega
  · exact h.edge x hx hS (fun hm => by rcases List.mem_cons.1 hm with e1 | e1; exact hxe e1; exact ht e1)
/-- an edge that gives way -/
theorem DInv.give {n : Nat} {E : List NE} {s d : Nat → Int} {S : Nat → Bool} {m : Int} {e : NE} {todo : List NE} {L L' : List P2} (h : DInv n E s S m (e :: todo) d L) (he : e ∈ E) (hn : e.v < n) (hS : S e.u = true) (hd : d e.u = m) (hc : 0 ≤ e.c) (hq : m + e.c < d e.v)
    (hL : L'.Perm (L ++ [⟨m + e.c, (e.v : Int)⟩])) : DInv n E s S m todo (upz d e.v (m + e.c)) L' := by
  have hF := h.far e.v
  have hP := h.pos e.u
  have hSv : S e.v = false := by
    cases hh : S e.v with
    | false => rfl
    | true => have := h.low _ hh; omega
  have hne : ∀ v, S v = true → v ≠ e.v := by rintro v hv rfl; rw [hSv] at hv; cases hv
  refine DInv.perm (L := L ++ [⟨m + e.c, (e.v : Int)⟩]) ?_ hL
  constructor
  · intro v
    by_cases hv : v = e.v
    · subst hv
      rw [upz_same]
      refine ⟨by have := (h.att e.v).1; omega, fun hlt => ?_⟩
      have h1 := (h.att e.u).2 (by omega)
      rw [hd] at h1
      exact At.step e m he h1 (by omega) hlt
    · rw [upz_other _ _ hv]; exact h.att v
  · intro v
    by_cases hv : v = e.v
    · subst hv; rw [upz_same]; omega
    · rw [upz_other _ _ hv]; exact h.far v
  · intro v
    by_cases hv : v = e.v
    · subst hv; rw [upz_same]; omega
    · rw [upz_other _ _ hv]; exact h.pos v
  · intro p hp
    rcases List.mem_append.1 hp with hp | hp
    · obtain ⟨h1, h2, h3, h4, h5⟩ := h.ent p hp
      refine ⟨h1, h2, ?_, h4, h5⟩
      by_cases hv : p.b.toNat = e.v
      · rw [hv, upz_same]; rw [hv] at h3; omega
      · rw [upz_other _ _ hv]; exact h3
    · obtain rfl := List.mem_singleton.1 hp
      simp only [Int.toNat_natCast, upz_same]
      omega
  · refine List.nodup_append.2 ⟨h.nodup, by simp, ?_⟩
    intro p hp q hq2 hpq
    obtain rfl := List.mem_singleton.1 hq2
    subst hpq
    have := (h.ent _ hp).2.2.1
    simp only [Int.toNat_natCast] at this
    omega
  · intro v hv h1 h2
    by_cases hve : v = e.v
    · subst hve
      rw [upz_same]
      exact List.mem_append_right _ (List.mem_singleton.2 rfl)
    · rw [upz_other _ _ hve] at h1 ⊢
      exact List.mem_append_left _ (h.wait v hv h1 h2)
  · intro v hv
    rw [upz_other _ _ (hne v hv)]
    exact h.low v hv
  · intro x hx hSx ht
    rw [upz_other _ _ (hne _ hSx)]
    by_cases hxe : x = e
    · subst hxe; rw [upz_same]; omega
    · have h1 := h.edge x hx hSx (fun hm => by rcases List.mem_cons.1 hm with e1 | e1; exact hxe e1; exact ht e1)
      by_cases hv : x.v = e.v
      · rw [hv, upz_same]; rw [hv] at h1; omega
      · rw [upz_other _ _ hv]; exact h1
  · intro p hp hSp
    rcases List.mem_append.1 hp with hp | hp
    · have := h.old p hp hSp
      rw [upz_other _ _ (hne _ hSp)]
      exact this
    · obtain rfl := List.mem_singleton.1 hp
      simp only [Int.toNat_natCast] at hSp
      rw [hSv] at hSp; cases hSp
/-- the least taken: it is old -/
theorem DInv.drop {n : Nat} {E : List NE} {s d : Nat → Int} {S : Nat → Bool} {m : Int} {p : P2} {L L' : List P2} (h : DInv n E s S m [] d L) (hL : (p :: L').Perm L) (ho : d p.b.toNat < p.a) : DInv n E s S m [] d L' := by
  replace h := h.perm hL
  refine ⟨h.att, h.far, h.pos, fun q hq => h.ent q (List.mem_cons_of_mem _ hq), (List.nodup_cons.1 h.nodup).2, fun v hv h1 h2 => ?_, h.low, h.edge, fun q hq => h.old q (List.mem_cons_of_mem _ hq)⟩
  rcases List.mem_cons.1 (h.wait v hv h1 h2) with e | e
  · subst e; simp at ho
  · exact e
/-- the least taken: the place is looked from -/
theorem DInv.look {n : Nat} {E : List NE} {s d : Nat → Int} {S : Nat → Bool} {m : Int} {p : P2} {L L' : List P2} {v : Nat} {todo : List NE} (h : DInv n E s S m [] d L) (hL : (p :: L').Perm L) (hv : p.b = (v : Int)) (ho : p.a ≤ d v) (hmin : ∀ q ∈ L', p.a ≤ q.a) (ht : ∀ e ∈ E, e.u = v → e ∈ todo) :
    p.a = d v ∧ S v = false ∧ v < n ∧ DInv n E s (upz S v true) p.a todo d L' := by
  replace h := h.perm hL
  obtain ⟨p1, p2, p3, p4, p5⟩ := h.ent p (List.mem_cons_self ..)
  have hbt : p.b.toNat = v := by rw [hv]; simp
  rw [hbt] at p3
  have hk : p.a = d v := by omega
  have hSv : S v = false := by
    cases hh : S v with
    | false => rfl
    | true => have := h.old p (List.mem_cons_self ..) (by rw [hbt]; exact hh); rw [hbt] at this; omega
  refine ⟨hk, hSv, by omega, h.att, h.far, h.pos, ?_, (List.nodup_cons.1 h.nodup).2, ?_, ?_, ?_, ?_⟩
  · intro q hq
    obtain ⟨h1, h2, h3, h4, h5⟩ := h.ent q (List.mem_cons_of_mem _ hq)
    exact ⟨h1, h2, h3, hmin q hq, h5⟩
  · intro u hu h1 h2
    have huv : u ≠ v := by rintro rfl; rw [upz_same] at h2; cases h2
    rw [upz_other _ _ huv] at h2
    rcases List.mem_cons.1 (h.wait u hu h1 h2) with e | e
    · subst e; simp only at hv; omega
    · exact e
  · intro u hu
    by_cases huv : u = v
    · subst huv; omega
    · rw [upz_other _ _ huv] at hu; have := h.low u hu; omega
  · intro e he hSe hte
    by_cases huv : e.u = v
    · exact absurd (ht e he huv) hte
    · rw [upz_other _ _ huv] at hSe
      exact h.edge e he hSe (by simp)
  · intro q hq hSq
    by_cases huv : q.b.toNat = v
    · obtain ⟨h1, h2, h3, h4, h5⟩ := h.ent q (List.mem_cons_of_mem _ hq)
      rw [huv] at h3 ⊢
      rcases Int.lt_or_eq_of_le h3 with hlt | heq
      · exact hlt
      · exfalso
        have : q = p := by
          obtain ⟨qa, qb⟩ := q
          obtain ⟨pa, pb⟩ := p
          simp only at *
          rw [P2.mk.injEq]
          omega
        subst this
        exact (List.nodup_cons.1 h.nodup).1 hq
    · rw [upz_other _ _ huv] at hSq
      exact h.old q (List.mem_cons_of_mem _ hq) hSq
/-- nothing waits any more: these are the costs -/
theorem DInv.done {n : Nat} {E : List NE} {s d : Nat → Int} {S : Nat → Bool} {m : Int} (h : DInv n E s S m [] d []) (hn : 1 ≤ n) (hE : ∀ e ∈ E, e.u < n ∧ e.v < n) (hs : ∀ v, s v ≤ FAR) (v : Nat) (hv : v < n) : spread E s (n - 1) v = d v := by
  refine spread_fix hn hE hs (fun e he hlt => ?_) h.att (n - 1) (by omega) v hv
  refine h.edge e he ?_ (by simp)
  cases hh : S e.u with
  | true => rfl
  | false => have := h.wait e.u (hE e he).1 hlt hh; cases this
/-- at the start -/
theorem DInv.start {n : Nat} {E : List NE} {s : Nat → Int} (f : Nat) (hf : f < n) (h1 : s f = 0) (h2 : ∀ v, v ≠ f → s v = FAR) : DInv n E s (fun _ => false) 0 [] s [⟨0, (f : Int)⟩] := by
  have h0 : ∀ v, s v = 0 ∨ s v = FAR := fun v => by
    by_cases hv : v = f
    · subst hv; exact .inl h1
    · exact .inr (h2 v hv)
  refine ⟨att_start E s, fun v => ?_, fun v => ?_, ?_, by simp, ?_, by simp, by simp, by simp⟩
  · rcases h0 v with h | h <;> rw [h] <;> simp [FAR]
  · rcases h0 v with h | h <;> rw [h] <;> simp [FAR]
  · intro p hp
    obtain rfl := List.mem_singleton.1 hp
    simp only [Int.toNat_natCast, h1]
    simp [FAR]; omega
  · intro v hv hlt _
    by_cases hvf : v = f
    · subst hvf; rw [h1]; simp
    · rw [h2 v hvf] at hlt; omega

/-! how many may still wait -/
/-- edges of places not yet looked from -/
def rest (E : List NE) (S : Nat → Bool) : Nat := E.countP fun e => !S e.u
theorem rest_mark {E : List NE} {S : Nat → Bool} {v : Nat} (h : S v = false) : rest E (upz S v true) + E.countP (fun e => decide (e.u = v)) = rest E S := by
  unfold rest
  induction E with
  | nil => rfl
  | cons e r ih =>
    simp only [List.countP_cons]
    by_cases hv : e.u = v
    · simp only [hv, upz_same, h, decide_true]; simp; omega
    · simp only [upz_other _ _ hv, decide_eq_false hv]; simp; omega
theorem rest_le (E : List NE) (S : Nat → Bool) : rest E S ≤ E.length := List.countP_le_length
end Go.Proofs.Ytcehdpeeaogpiaa
