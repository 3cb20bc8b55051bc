/-
  A region that draws its order, by what each operation leaves behind, as RegInv; each operation is told, too, that what it waits for lies apart. No condition, no program.
-/
import Derived.Test.YtcehdpeeaogpiaaRegInv
namespace Go.Proofs.Ytcehdpeeaogpiaa
open Go Go.RowKit
set_option linter.unusedSimpArgs false
set_option linter.unusedVariables false
section
variable {P : Program} {ops : Array Oper} {Q : Exit → Act → World → Prop} {md : Region.Mode}
/-- what is to be shown of one operation: it yields v, makes the blocks from lo to hi, and leaves the fact, which may speak of what it waited for -/
def StepInw (P : Program) (md : Region.Mode) (ops : Array Oper) (Q : Exit → Act → World → Prop) (D : List (Option Tmp)) (F : Nat → (Nat → Value) → (Nat → Nat) → (Nat → Nat) → World → Prop) (S : World → Prop) (R : World → World → Prop) (a0 : Act) (i : Nat) (o : Oper) : Prop :=
  ∀ (X : Nat → Value) (L H : Nat → Nat) (w : World), S w → (∀ j, depsB md ops i j = true → F j X L H w ∧ L j ≤ H j ∧ H j ≤ w.heap.size) → (∀ j k, depsB md ops i j = true → depsB md ops i k = true → j ≠ k → H j ≤ L k ∨ H k ≤ L j) → ∀ K : Act → World → Prop,
    (∀ a v lo hi w', a = (putAll a0 D X 0).put o.dst v → w.heap.size ≤ lo → lo ≤ hi → hi ≤ w'.heap.size → R w w' → S w' → F i (updX X i v) (updN L i lo) (updN H i hi) w' → K a w') → Oper.wp P o (putAll a0 D X 0) w K Q
def StepsInw (P : Program) (md : Region.Mode) (ops : Array Oper) (Q : Exit → Act → World → Prop) (D : List (Option Tmp)) (F : Nat → (Nat → Value) → (Nat → Nat) → (Nat → Nat) → World → Prop) (S : World → Prop) (R : World → World → Prop) (a0 : Act) : Nat → List Oper → Prop
  | _, [] => True
  | i, o :: r => StepInw P md ops Q D F S R a0 i o ∧ StepsInw P md ops Q D F S R a0 (i + 1) r
section
variable {D : List (Option Tmp)} {F : Nat → (Nat → Value) → (Nat → Nat) → (Nat → Nat) → World → Prop} {S : World → Prop} {R : World → World → Prop} {a0 : Act}
theorem stepsInw_at : ∀ (l : List Oper) (k i : Nat) (o : Oper), StepsInw P md ops Q D F S R a0 k l → l[i]? = some o → StepInw P md ops Q D F S R a0 (k + i) o
  | [], _, _, _, _, h => by cases h
  | x :: r, k, 0, o, hs, h => by simp only [List.getElem?_cons_zero, Option.some.injEq] at h; subst h; exact hs.1
  | x :: r, k, i + 1, o, hs, h => by
    have := stepsInw_at r (k + 1) i o hs.2 (by simpa using h)
    rw [show k + (i + 1) = k + 1 + i by omega]
    exact this
end
theorem wpAny_inw (t : Nat) (D : List (Option Tmp)) (F : Nat → (Nat → Value) → (Nat → Nat) → (Nat → Nat) → World → Prop) (S : World → Prop) (R : World → World → Prop) (a0 : Act)
    (hD : D = (ops.toList.take t).map (·.dst)) (hap : apartD D = true) (hlow : depsLow md ops = true) (hx : (Region.sinkB md ops t && Region.chainB md ops t && decide (t < ops.size)) = true)
    (hR : ∀ i X L H w w', F i X L H w → R w w' → F i X L H w') (hloc : ∀ i X L H X' L' H' w, (∀ j, j = i ∨ depsB md ops i j = true → X j = X' j ∧ L j = L' j ∧ H j = H' j) → F i X L H w → F i X' L' H' w) (hRs : ∀ w w', R w w' → w.heap.size ≤ w'.heap.size)
    (hst : StepsInw P md ops Q D F S R a0 0 (ops.toList.take t))
    (hend : ∀ (X : Nat → Value) (L H : Nat → Nat) (w : World), S w → (∀ i, i < t → F i X L H w ∧ L i ≤ H i ∧ H i ≤ w.heap.size) → (∀ i j, i < t → j < t → i ≠ j → H i ≤ L j ∨ H j ≤ L i) → wpAny P md ops Q (ops.size - t) (tailL t ops.size) (putAll a0 D X 0) w) :
    ∀ (fuel : Nat) (listed : Array Bool) (X : Nat → Value) (L H : Nat → Nat) (w : World), HeadInv md ops t listed → (List.range ops.size).countP (fun i => !listed.getD i false) = fuel → S w →
      (∀ i, i < t → listed.getD i false = true → F i X L H w ∧ L i ≤ H i ∧ H i ≤ w.heap.size) → (∀ i j, i < t → j < t → listed.getD i false = true → listed.getD j false = true → i ≠ j → H i ≤ L j ∨ H j ≤ L i) → (∀ i j, i < t → listed.getD i false = true → depsB md ops i j = true → listed.getD j false = true) → wpAny P md ops Q fuel listed (putAll a0 D X 0) w := by
  simp only [Bool.and_eq_true, decide_eq_true_eq] at hx
  obtain ⟨⟨hs1, hc1⟩, htn⟩ := hx
  have hDl : D.length = t := by rw [hD]; simp; omega
  intro fuel
  induction fuel with
  | zero =>
    intro listed X L H w inv hc hS hF hP hCl
    exfalso
    have h2 := List.countP_eq_zero.1 hc t (List.mem_range.2 htn)
    have h3 := getD_both (inv.tail t (Nat.le_refl _) htn)
    rw [h3] at h2
    exact h2 rfl
  | succ fuel ih =>
    intro listed X L H w inv hc hS hF hP hCl
    by_cases hall : ∀ i, i < t → listed.getD i false = true
    · have e1 := tailL_of inv (by omega) hall
      have e2 : fuel + 1 = ops.size - t := by
        have h1 : (List.range ops.size).countP (fun i => !listed.getD i false) = (List.range ops.size).countP (fun i => decide (t ≤ i)) := by
          refine List.countP_congr fun j hj => ?_
          have hj' := List.mem_range.1 hj
          rcases Nat.lt_or_ge j t with h | h
          · rw [hall j h]; simp; omega
          · rw [getD_both (inv.tail j h hj')]; simp; exact h
        have h2 : ∀ m, t ≤ m → (List.range m).countP (fun i => decide (t ≤ i)) = m - t := by
          intro m hm
          induction m with
          | zero => simp
          | succ m ihm =>
            rw [List.range_succ, List.countP_append]
            rcases Nat.lt_or_ge m t with h | h
            · obtain rfl : t = m + 1 := by omega
              have h3 : (List.range m).countP (fun i => decide (m + 1 ≤ i)) = 0 := List.countP_eq_zero.2 fun i hi => by have := List.mem_range.1 hi; simp; omega
              rw [h3]; simp
            · rw [ihm h]; simp [h]; omega
        rw [← hc, h1, h2 _ (by omega)]
      rw [e2, e1]
      exact hend X L H w hS (fun i hi => hF i hi (hall i hi)) (fun i j hi hj => hP i j hi hj (hall i hi) (hall j hj))
    · obtain ⟨i0, hi0, hu0⟩ : ∃ i0, i0 < t ∧ listed.getD i0 false = false := by
        refine Classical.byContradiction fun hn => hall fun i hi => ?_
        cases hli : listed.getD i false with
        | true => rfl
        | false => exact absurd ⟨i, hi, hli⟩ hn
      have hu1 : listed.getD i0 true = false := by
        have : i0 < listed.size := by rw [inv.size]; omega
        simp only [Array.getD_eq_getD_getElem?, Array.getElem?_eq_getElem this, Option.getD_some] at hu0 ⊢
        exact hu0
      refine ⟨fun hr => ?_, fun i hi => ?_⟩
      · exfalso
        have := least_ready hlow inv.size hr i0 i0 (Nat.le_refl _) (by omega)
        rw [this] at hu0
        cases hu0
      have hit : i < t := by
        rcases Nat.lt_or_ge i t with h | h
        · exact h
        · exact absurd hi (tail_waits hs1 hc1 htn inv (t - i0) i0 rfl hi0 hu1 i h)
      obtain ⟨hun, o, ho, haft⟩ := mem_ready.1 hi
      have hil : i < ops.size := by omega
      have hst' := stepsInw_at (ops.toList.take t) 0 i o hst (by rw [List.getElem?_take, if_pos hit]; simpa using ho)
      rw [Nat.zero_add] at hst'
      refine wpOp_step ho (fun K hK => ?_)
      have hl0 := hlow
      simp only [depsLow, List.all_eq_true, List.mem_range] at hl0
      have h0 := hl0 i hil
      rw [ho] at h0
      simp only [Option.map_some, Option.getD_some, Bool.and_eq_true, Array.all_eq_true_iff_forall_mem] at h0
      have hg : o.guard = none := by simpa using h0.1
      have hw : Region.wanted o (yielded ops (putAll a0 D X 0).tmps) = true := by simp [Region.wanted, hg]
      rw [if_pos hw]
      have hdep : ∀ j, depsB md ops i j = true → j < t ∧ listed.getD j false = true := fun j hj => by
        simp only [depsB, ho, Option.map_some, Option.getD_some, Array.any_eq_true', Bool.and_eq_true, beq_iff_eq] at hj
        obtain ⟨e, he, hb, rfl⟩ := hj
        have h3 := h0.2 e he
        rw [hb] at h3
        simp only [Bool.not_true, Bool.false_or, decide_eq_true_eq] at h3
        exact ⟨by omega, haft e he hb⟩
      refine hst' X L H w hS (fun j hj => hF j (hdep j hj).1 (hdep j hj).2) (fun j k hj hk hne => hP j k (hdep j hj).1 (hdep k hk).1 (hdep j hj).2 (hdep k hk).2 hne) K (fun a v lo hi' w' ha hlo1 hlo2 hlo3 hRw hS' hFi => hK a w' ?_)
      · have hDi : D[i]'(by omega) = o.dst := by
          subst hD
          have : ops[i] = o := by rw [Array.getElem?_eq_getElem hil] at ho; exact Option.some.inj ho
          simp [this]
        have hsz := hRs w w' hRw
        rw [ha, ← hDi, putAll_put a0 D X 0 i v hap (by omega), Nat.zero_add]
        have hcn := count_set (n := ops.size) inv.size hil hun
        have hset : ∀ j, listed.getD j false = true → (listed.setIfInBounds i true).getD j false = true := fun j hj => by
          simp only [Array.getD_eq_getD_getElem?, Array.getElem?_setIfInBounds] at hj ⊢
          split
          · split <;> simp_all
          · exact hj
        refine ih _ (updX X i v) (updN L i lo) (updN H i hi') w' (inv.set hi hit) (by omega) hS' (fun j hjt hj => ?_) (fun j k hjt hkt hj hk hne => ?_) (fun j k hjt hj hd => ?_)
        · by_cases hji : j = i
          · subst hji
            refine ⟨hFi, ?_⟩
            simp only [updN, if_true]
            exact ⟨hlo2, hlo3⟩
          · have hjl := (getD_set_or hj).resolve_left hji
            obtain ⟨h4, h5, h6⟩ := hF j hjt hjl
            refine ⟨hloc j X L H _ _ _ w' (fun m hm => ?_) (hR j X L H w w' h4 hRw), ?_⟩
            · have hmi : m ≠ i := by
                rcases hm with rfl | hm
                · exact hji
                · intro e
                  subst e
                  have := hCl j m hjt hjl hm
                  have h9 : listed.getD m false = false := by
                    have hms : m < listed.size := by rw [inv.size]; omega
                    simp only [Array.getD_eq_getD_getElem?, Array.getElem?_eq_getElem hms, Option.getD_some] at hun ⊢
                    exact hun
                  rw [h9] at this
                  cases this
              simp only [updX, updN, if_neg hmi]
              exact ⟨trivial, trivial, trivial⟩
            · simp only [updN, if_neg hji]
              exact ⟨h5, by omega⟩
        · unfold updN
          by_cases hji : j = i
          · subst hji
            have hkj : ¬ k = j := fun e => hne e.symm
            rw [if_pos rfl, if_neg hkj, if_pos rfl, if_neg hkj]
            obtain ⟨_, h5, h6⟩ := hF k hkt ((getD_set_or hk).resolve_left hkj)
            exact .inr (by omega)
          · by_cases hki : k = i
            · subst hki
              rw [if_neg hji, if_pos rfl, if_pos rfl, if_neg hji]
              obtain ⟨_, h5, h6⟩ := hF j hjt ((getD_set_or hj).resolve_left hji)
              exact .inl (by omega)
            · rw [if_neg hji, if_neg hki, if_neg hki, if_neg hji]
              exact hP j k hjt hkt ((getD_set_or hj).resolve_left hji) ((getD_set_or hk).resolve_left hki) hne
        · by_cases hji : j = i
          · subst hji
            exact hset k (hdep k hd).2
          · exact hset k (hCl j k hjt ((getD_set_or hj).resolve_left hji) hd)
theorem wp_region_inw {id : Nat} {a0 : Act} {w : World} (t : Nat) (hm : P.follows .mixedOrders = true) (D : List (Option Tmp)) (F : Nat → (Nat → Value) → (Nat → Nat) → (Nat → Nat) → World → Prop) (S : World → Prop) (R : World → World → Prop)
    (hD : D = (ops.toList.take t).map (·.dst)) (hap : apartD D = true) (hlow : depsLow .any ops = true) (hx : (Region.sinkB .any ops t && Region.chainB .any ops t && decide (t < ops.size)) = true)
    (hR : ∀ i X L H w w', F i X L H w → R w w' → F i X L H w') (hloc : ∀ i X L H X' L' H' w, (∀ j, j = i ∨ depsB .any ops i j = true → X j = X' j ∧ L j = L' j ∧ H j = H' j) → F i X L H w → F i X' L' H' w) (hRs : ∀ w w', R w w' → w.heap.size ≤ w'.heap.size) (hS : S w.drew)
    (hst : StepsInw P .any ops Q D F S R a0 0 (ops.toList.take t))
    (hend : ∀ (X : Nat → Value) (L H : Nat → Nat) (w : World), S w → (∀ i, i < t → F i X L H w ∧ L i ≤ H i ∧ H i ≤ w.heap.size) → (∀ i j, i < t → j < t → i ≠ j → H i ≤ L j ∨ H j ≤ L i) → wpAny P .any ops Q (ops.size - t) (tailL t ops.size) (putAll a0 D X 0) w) :
    (Code.region id ops true).wp P Q a0 w := by
  obtain ⟨X, hX⟩ := putAll_init a0 D 0
  refine wp_region_any hm ?_
  have hrep : ∀ i, (Array.replicate ops.size false).getD i false = false := fun i => by
    simp only [Array.getD_eq_getD_getElem?, Array.getElem?_replicate]
    split <;> rfl
  have := wpAny_inw (md := .any) t D F S R a0 hD hap hlow hx hR hloc hRs hst hend ops.size (Array.replicate ops.size false) X (fun _ => 0) (fun _ => 0) w.drew
    ⟨by simp, fun j oj _ hl => (by rw [hrep] at hl; cases hl), fun k hk hk' => (by simp [Array.getD_eq_getD_getElem?, hk'])⟩
    (by
      have h1 : (List.range ops.size).countP (fun i => !(Array.replicate ops.size false).getD i false) = (List.range ops.size).length := List.countP_eq_length.2 fun i _ => by rw [hrep]; rfl
      rw [h1]; simp) hS
    (fun i _ hi => by rw [hrep] at hi; cases hi) (fun i j _ _ hi => by rw [hrep] at hi; cases hi) (fun i j _ hi _ => by rw [hrep] at hi; cases hi)
  rw [hX] at this
  exact this
end
end Go.Proofs.Ytcehdpeeaogpiaa
