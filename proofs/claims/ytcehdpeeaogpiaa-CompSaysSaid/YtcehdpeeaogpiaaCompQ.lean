/-
  The order of components by their least places. No program here.
-/
import Derived.Test.YtcehdpeeaogpiaaKahnQ
import Derived.Test.YtcehdpeeaogpiaaCompP
namespace Go.Proofs.Ytcehdpeeaogpiaa
set_option linter.unusedSimpArgs false
set_option linter.unusedVariables false
/-- the edges between components -/
def EK (E : List NE) (K : Nat → Nat) : List NE := (E.filter fun e => decide (K e.u ≠ K e.v)).map fun e => ⟨K e.u, K e.v, e.c⟩
def repsK (n : Nat) (K : Nat → Nat) : List Nat := (List.range n).filter fun v => decide (v = K v)
def kahnK (n : Nat) (E : List NE) (K : Nat → Nat) : List Nat := kahnG (ldE (EK E K)) (repsK n K).length (repsK n K)
theorem ek_mem {E : List NE} {K : Nat → Nat} {e : NE} : e ∈ EK E K ↔ ∃ d ∈ E, K d.u ≠ K d.v ∧ e = ⟨K d.u, K d.v, d.c⟩ := by
  unfold EK
  simp only [List.mem_map, List.mem_filter, decide_eq_true_eq]
  exact ⟨fun ⟨d, ⟨h1, h2⟩, h3⟩ => ⟨d, h1, h2, h3.symm⟩, fun ⟨d, h1, h2, h3⟩ => ⟨d, ⟨h1, h2⟩, h3.symm⟩⟩
theorem ek_app (E F : List NE) (K : Nat → Nat) : EK (E ++ F) K = EK E K ++ EK F K := by unfold EK; rw [List.filter_append, List.map_append]
theorem reps_mem {n : Nat} {K : Nat → Nat} {v : Nat} : v ∈ repsK n K ↔ v < n ∧ v = K v := by unfold repsK; simp
/-- K names a component by one of its places -/
structure KOk (n : Nat) (K : Nat → Nat) : Prop where
  lt : ∀ v, v < n → K v < n
  fix : ∀ v, v < n → K (K v) = K v
theorem ek_reps {E : List NE} {n : Nat} {K : Nat → Nat} (hE : ∀ e ∈ E, e.u < n ∧ e.v < n) (hK : KOk n K) {e : NE} (he : e ∈ EK E K) : e.u ∈ repsK n K ∧ e.v ∈ repsK n K := by
  obtain ⟨d, h1, h2, rfl⟩ := ek_mem.1 he
  obtain ⟨h3, h4⟩ := hE d h1
  exact ⟨reps_mem.2 ⟨hK.lt _ h3, (hK.fix _ h3).symm⟩, reps_mem.2 ⟨hK.lt _ h4, (hK.fix _ h4).symm⟩⟩
theorem kk_start {E : List NE} {n : Nat} {K : Nat → Nat} (hE : ∀ e ∈ E, e.u < n ∧ e.v < n) (hK : KOk n K) : KInv (EK E K) n (repsK n K) := by
  refine ⟨List.pairwise_lt_range.sublist List.filter_sublist, fun v hv => (reps_mem.1 hv).1, fun v hv hn => ?_⟩
  unfold cnt
  rw [List.length_eq_zero_iff, List.filter_eq_nil_iff]
  intro e he hc
  simp only [Bool.and_eq_true, decide_eq_true_eq] at hc
  exact hn (hc.1 ▸ (ek_reps hE hK he).2)
/-- edges between components to v among the first k -/
def headK (K : Nat → Nat) (es : List Ed) (k v : Nat) : Int := ((EK (nes (es.take k)) K).countP fun e => decide (e.v = v) : Nat)
theorem headK_zero (K : Nat → Nat) (es : List Ed) (n : Nat) : List.replicate n (0 : Int) = LI n (headK K es 0) := by
  rw [li_rep]
  exact li_congr (fun v _ => by simp [headK, nes, EK])
theorem headK_same {K : Nat → Nat} {es : List Ed} {k u v : Nat} {c : Int} (hn : nes (es.take (k + 1)) = nes (es.take k) ++ [⟨u, v, c⟩]) (h : K u = K v) : headK K es (k + 1) = headK K es k := by
  funext z
  unfold headK
  rw [hn, ek_app]
  simp [EK, h]
theorem headK_step {K : Nat → Nat} {es : List Ed} {k u v : Nat} {c : Int} (hn : nes (es.take (k + 1)) = nes (es.take k) ++ [⟨u, v, c⟩]) (hk : K u ≠ K v) : upz (headK K es k) (K v) (headK K es k (K v) + 1) = headK K es (k + 1) := by
  funext z
  unfold headK
  rw [hn, ek_app, List.countP_append]
  have e1 : EK [⟨u, v, c⟩] K = [⟨K u, K v, c⟩] := by simp [EK, hk]
  rw [e1]
  by_cases h : z = K v
  · subst h; rw [upz_same]; simp
  · rw [upz_other _ _ h]
    have hne : ¬ K v = z := fun e => h e.symm
    simp [hne]
theorem headK_le (K : Nat → Nat) (es : List Ed) (k v : Nat) : 0 ≤ headK K es k v ∧ headK K es k v ≤ k := by
  unfold headK
  have h1 := List.countP_le_length (p := fun e : NE => decide (e.v = v)) (l := EK (nes (es.take k)) K)
  have h3 : (EK (nes (es.take k)) K).length ≤ (nes (es.take k)).length := by unfold EK; rw [List.length_map]; exact List.length_filter_le _ _
  have h2 : (nes (es.take k)).length ≤ k := by simp [nes]; omega
  omega
theorem headK_cnt {n : Nat} {es : List Ed} {K : Nat → Nat} (hE : ∀ e ∈ nes es, e.u < n ∧ e.v < n) (hK : KOk n K) (v : Nat) : headK K es es.length v = (cnt (EK (nes es) K) (repsK n K) v : Int) := by
  unfold headK cnt
  rw [List.take_length, List.countP_eq_length_filter]
  congr 2
  refine List.filter_congr fun e he => ?_
  have := (ek_reps hE hK he).1
  simp [this]
/-- edges out of the component m into that of z, from edge j on -/
def tK (K : Nat → Nat) (m : Nat) (es : List Ed) (j z : Nat) : Nat := (nes (es.drop j)).countP fun e => decide (K e.u = m) && decide (K e.v ≠ m) && decide (K e.v = z)
theorem tK_end (K : Nat → Nat) (m : Nat) (es : List Ed) (z : Nat) : tK K m es es.length z = 0 := by simp [tK, nes]
theorem tK_step {K : Nat → Nat} {m : Nat} {es : List Ed} {j u v : Nat} (hj : j < es.length) (h1 : es[j].u = (u : Int)) (h2 : es[j].v = (v : Int)) (z : Nat) : tK K m es j z = (if K u = m ∧ K v ≠ m ∧ K v = z then 1 else 0) + tK K m es (j + 1) z := by
  unfold tK
  rw [List.drop_eq_getElem_cons hj]
  have : nes (es[j] :: es.drop (j + 1)) = ⟨u, v, es[j].c⟩ :: nes (es.drop (j + 1)) := by
    unfold nes
    rw [List.map_cons, h1, h2]
    rfl
  rw [this, List.countP_cons]
  by_cases a : K u = m <;> by_cases b : K v ≠ m <;> by_cases c : K v = z <;> simp [a, b, c] <;> omega
theorem tK_le (K : Nat → Nat) (m : Nat) (es : List Ed) (j z : Nat) : tK K m es j z ≤ es.length := by
  unfold tK
  refine Nat.le_trans List.countP_le_length ?_
  simp [nes]
theorem tK_start {K : Nat → Nat} (m : Nat) (es : List Ed) (z : Nat) : tK K m es 0 z = ((EK (nes es) K).filter fun e => decide (e.v = z) && decide (e.u = m)).length := by
  unfold tK EK
  rw [List.drop_zero, List.filter_map, List.length_map, List.filter_filter, ← List.countP_eq_length_filter]
  congr 1
  funext e
  by_cases a : K e.u = m
  · by_cases b : K e.v = z
    · subst a; subst b
      by_cases c : K e.u = K e.v
      · simp [c]
      · have c' : ¬ K e.v = K e.u := fun h => c h.symm
        simp [c, c']
    · simp [a, b]
  · simp [a]
theorem ek_len (E : List NE) (K : Nat → Nat) : (EK E K).length ≤ E.length := by unfold EK; rw [List.length_map]; exact List.length_filter_le _ _
theorem kok_tall {E : List NE} {n : Nat} (hE : ∀ e ∈ E, e.u < n ∧ e.v < n) : KOk n (tall E n n).lst := by
  have hlt : ∀ v, v < n → (tall E n n).lst v < n := fun v hv => by
    have := (tall_kmin hE v hv).2.2 v (ld_refl E v) (ld_refl E v)
    omega
  refine ⟨hlt, fun v hv => ?_⟩
  have h1 := tall_kmin hE v hv
  have h2 := tall_kmin hE _ (hlt v hv)
  exact kmin_one ⟨ld_trans h1.1 h2.1, ld_trans h2.2.1 h1.2.1, fun y a b => h2.2.2 y (ld_trans h1.2.1 a) (ld_trans b h1.1)⟩ h1
theorem filter_one {α : Type} (p : α → Bool) (k : α) : [k].filter p = if p k = true then [k] else [] := by cases h : p k <;> simp [h]
theorem freeK_step (A : Nat → Int) (K : Nat → Nat) (k : Nat) : freeL A (repsK (k + 1) K) = freeL A (repsK k K) ++ (if k = K k ∧ A k = 0 then [k] else []) := by
  unfold freeL repsK
  rw [List.range_succ, List.filter_append, List.filter_append]
  congr 1
  rw [filter_one]
  by_cases h1 : k = K k
  · rw [if_pos (decide_eq_true h1), filter_one]
    by_cases h2 : A k = 0
    · rw [if_pos (decide_eq_true h2), if_pos ⟨h1, h2⟩]
    · rw [if_neg (fun h => h2 (of_decide_eq_true h)), if_neg (fun h => h2 h.2)]
  · rw [if_neg (fun h => h1 (of_decide_eq_true h)), if_neg (fun h => h1 h.1)]
    rfl
end Go.Proofs.Ytcehdpeeaogpiaa
