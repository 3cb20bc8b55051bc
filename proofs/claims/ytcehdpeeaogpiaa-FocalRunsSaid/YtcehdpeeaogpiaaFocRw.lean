/-
  Several texts in one:
  A region that draws its order, by what each operation leaves behind, as RegInv; each operation is told, too, that what it waits for lies apart. No condition, no program.
  What the stores of a better edge leave behind, in whatever order (focal.Run). No condition, no program.
-/
import Derived.Test.YtcehdpeeaogpiaaRegInv
import Derived.Test.YtcehdpeeaogpiaaFocX
/-! A region that draws its order, by what each operation leaves behind, as RegInv; each operation is told, too, that what it waits for lies apart. No condition, no program. -/
namespace Go.Proofs.Ytcehdpeeaogpiaa
open Go Go.RowKit
set_option linter.unusedSimpArgs false
set_option linter.unusedVariables false
section
variable {P : Program} {ops : Array Oper} {Q : Exit → Act → World → Prop} {md : Region.Mode}
/-- what is to be shown of one operation: it yields v, makes the blocks from lo to hi, and leaves the fact, which may speak of what it waited for -/
def StepInw (P : Program) (md : Region.Mode) (ops : Array Oper) (Q : Exit → Act → World → Prop) (D : List (Option Tmp)) (F : Nat → (Nat → Value) → (Nat → Nat) → (Nat → Nat) → World → Prop) (S : World → Prop) (R : World → World → Prop) (a0 : Act) (i : Nat) (o : Oper) : Prop :=
  ∀ (X : Nat → Value) (L H : Nat → Nat) (w : World), S w → (∀ j, depsB md ops i j = true → F j X L H w ∧ L j ≤ H j ∧ H j ≤ w.heap.size) → (∀ j k, depsB md ops i j = true → depsB md ops i k = true → j ≠ k → H j ≤ L k ∨ H k ≤ L j) → ∀ K : Act → World → Prop,
    (∀ a v lo hi w', a = (putAll a0 D X 0).put o.dst v → w.heap.size ≤ lo → lo ≤ hi → hi ≤ w'.heap.size → R w w' → S w' → F i (updX X i v) (updN L i lo) (updN H i hi) w' → K a w') → Oper.wp P o (putAll a0 D X 0) w K Q
def StepsInw (P : Program) (md : Region.Mode) (ops : Array Oper) (Q : Exit → Act → World → Prop) (D : List (Option Tmp)) (F : Nat → (Nat → Value) → (Nat → Nat) → (Nat → Nat) → World → Prop) (S : World → Prop) (R : World → World → Prop) (a0 : Act) : Nat → List Oper → Prop
  | _, [] => True
  | i, o :: r => StepInw P md ops Q D F S R a0 i o ∧ StepsInw P md ops Q D F S R a0 (i + 1) r
section
variable {D : List (Option Tmp)} {F : Nat → (Nat → Value) → (Nat → Nat) → (Nat → Nat) → World → Prop} {S : World → Prop} {R : World → World → Prop} {a0 : Act}
theorem stepsInw_at : ∀ (l : List Oper) (k i : Nat) (o : Oper), StepsInw P md ops Q D F S R a0 k l → l[i]? = some o → StepInw P md ops Q D F S R a0 (k + i) o
  | [], _, _, _, _, h => by cases h
  | x :: r, k, 0, o, hs, h => by simp only [List.getElem?_cons_zero, Option.some.injEq] at h; subst h; exact hs.1
  | x :: r, k, i + 1, o, hs, h => by
    have := stepsInw_at r (k + 1) i o hs.2 (by simpa using h)
    rw [show k + (i + 1) = k + 1 + i by omega]
    exact this
end
theorem wpAny_inw (t : Nat) (D : List (Option Tmp)) (F : Nat → (Nat → Value) → (Nat → Nat) → (Nat → Nat) → World → Prop) (S : World → Prop) (R : World → World → Prop) (a0 : Act)
    (hD : D = (ops.toList.take t).map (·.dst)) (hap : apartD D = true) (hlow : depsLow md ops = true) (hx : (Region.sinkB md ops t && Region.chainB md ops t && decide (t < ops.size)) = true)
    (hR : ∀ i X L H w w', F i X L H w → R w w' → F i X L H w') (hloc : ∀ i X L H X' L' H' w, (∀ j, j = i ∨ depsB md ops i j = true → X j = X' j ∧ L j = L' j ∧ H j = H' j) → F i X L H w → F i X' L' H' w) (hRs : ∀ w w', R w w' → w.heap.size ≤ w'.heap.size)
    (hst : StepsInw P md ops Q D F S R a0 0 (ops.toList.take t))
    (hend : ∀ (X : Nat → Value) (L H : Nat → Nat) (w : World), S w → (∀ i, i < t → F i X L H w ∧ L i ≤ H i ∧ H i ≤ w.heap.size) → (∀ i j, i < t → j < t → i ≠ j → H i ≤ L j ∨ H j ≤ L i) → wpAny P md ops Q (ops.size - t) (tailL t ops.size) (putAll a0 D X 0) w) :
    ∀ (fuel : Nat) (listed : Array Bool) (X : Nat → Value) (L H : Nat → Nat) (w : World), HeadInv md ops t listed → (List.range ops.size).countP (fun i => !listed.getD i false) = fuel → S w →
      (∀ i, i < t → listed.getD i false = true → F i X L H w ∧ L i ≤ H i ∧ H i ≤ w.heap.size) → (∀ i j, i < t → j < t → listed.getD i false = true → listed.getD j false = true → i ≠ j → H i ≤ L j ∨ H j ≤ L i) → (∀ i j, i < t → listed.getD i false = true → depsB md ops i j = true → listed.getD j false = true) → wpAny P md ops Q fuel listed (putAll a0 D X 0) w := by
  simp only [Bool.and_eq_true, decide_eq_true_eq] at hx
  obtain ⟨⟨hs1, hc1⟩, htn⟩ := hx
  have hDl : D.length = t := by rw [hD]; simp; omega
  intro fuel
  induction fuel with
  | zero =>
    intro listed X L H w inv hc hS hF hP hCl
    exfalso
    have h2 := List.countP_eq_zero.1 hc t (List.mem_range.2 htn)
    have h3 := getD_both (inv.tail t (Nat.le_refl _) htn)
    rw [h3] at h2
    exact h2 rfl
  | succ fuel ih =>
    intro listed X L H w inv hc hS hF hP hCl
    by_cases hall : ∀ i, i < t → listed.getD i false = true
    · have e1 := tailL_of inv (by omega) hall
      have e2 : fuel + 1 = ops.size - t := by
        have h1 : (List.range ops.size).countP (fun i => !listed.getD i false) = (List.range ops.size).countP (fun i => decide (t ≤ i)) := by
          refine List.countP_congr fun j hj => ?_
          have hj' := List.mem_range.1 hj
          rcases Nat.lt_or_ge j t with h | h
          · rw [hall j h]; simp; omega
          · rw [getD_both (inv.tail j h hj')]; simp; exact h
        have h2 : ∀ m, t ≤ m → (List.range m).countP (fun i => decide (t ≤ i)) = m - t := by
          intro m hm
          induction m with
          | zero => simp
          | succ m ihm =>
            rw [List.range_succ, List.countP_append]
            rcases Nat.lt_or_ge m t with h | h
            · obtain rfl : t = m + 1 := by omega
              have h3 : (List.range m).countP (fun i => decide (m + 1 ≤ i)) = 0 := List.countP_eq_zero.2 fun i hi => by have := List.mem_range.1 hi; simp; omega
              rw [h3]; simp
            · rw [ihm h]; simp [h]; omega
        rw [← hc, h1, h2 _ (by omega)]
      rw [e2, e1]
      exact hend X L H w hS (fun i hi => hF i hi (hall i hi)) (fun i j hi hj => hP i j hi hj (hall i hi) (hall j hj))
    · obtain ⟨i0, hi0, hu0⟩ : ∃ i0, i0 < t ∧ listed.getD i0 false = false := by
        refine Classical.byContradiction fun hn => hall fun i hi => ?_
        cases hli : listed.getD i false with
        | true => rfl
        | false => exact absurd ⟨i, hi, hli⟩ hn
      have hu1 : listed.getD i0 true = false := by
        have : i0 < listed.size := by rw [inv.size]; omega
        simp only [Array.getD_eq_getD_getElem?, Array.getElem?_eq_getElem this, Option.getD_some] at hu0 ⊢
        exact hu0
      refine ⟨fun hr => ?_, fun i hi => ?_⟩
      · exfalso
        have := least_ready hlow inv.size hr i0 i0 (Nat.le_refl _) (by omega)
        rw [this] at hu0
        cases hu0
      have hit : i < t := by
        rcases Nat.lt_or_ge i t with h | h
        · exact h
        · exact absurd hi (tail_waits hs1 hc1 htn inv (t - i0) i0 rfl hi0 hu1 i h)
      obtain ⟨hun, o, ho, haft⟩ := mem_ready.1 hi
      have hil : i < ops.size := by omega
      have hst' := stepsInw_at (ops.toList.take t) 0 i o hst (by rw [List.getElem?_take, if_pos hit]; simpa using ho)
      rw [Nat.zero_add] at hst'
      refine wpOp_step ho (fun K hK => ?_)
      have hl0 := hlow
      simp only [depsLow, List.all_eq_true, List.mem_range] at hl0
      have h0 := hl0 i hil
      rw [ho] at h0
      simp only [Option.map_some, Option.getD_some, Bool.and_eq_true, Array.all_eq_true_iff_forall_mem] at h0
      have hg : o.guard = none := by simpa using h0.1
      have hw : Region.wanted o (yielded ops (putAll a0 D X 0).tmps) = true := by simp [Region.wanted, hg]
      rw [if_pos hw]
      have hdep : ∀ j, depsB md ops i j = true → j < t ∧ listed.getD j false = true := fun j hj => by
        simp only [depsB, ho, Option.map_some, Option.getD_some, Array.any_eq_true', Bool.and_eq_true, beq_iff_eq] at hj
        obtain ⟨e, he, hb, rfl⟩ := hj
        have h3 := h0.2 e he
        rw [hb] at h3
        simp only [Bool.not_true, Bool.false_or, decide_eq_true_eq] at h3
        exact ⟨by omega, haft e he hb⟩
      refine hst' X L H w hS (fun j hj => hF j (hdep j hj).1 (hdep j hj).2) (fun j k hj hk hne => hP j k (hdep j hj).1 (hdep k hk).1 (hdep j hj).2 (hdep k hk).2 hne) K (fun a v lo hi' w' ha hlo1 hlo2 hlo3 hRw hS' hFi => hK a w' ?_)
      · have hDi : D[i]'(by omega) = o.dst := by
          subst hD
          have : ops[i] = o := by rw [Array.getElem?_eq_getElem hil] at ho; exact Option.some.inj ho
          simp [this]
        have hsz := hRs w w' hRw
        rw [ha, ← hDi, putAll_put a0 D X 0 i v hap (by omega), Nat.zero_add]
        have hcn := count_set (n := ops.size) inv.size hil hun
        have hset : ∀ j, listed.getD j false = true → (listed.setIfInBounds i true).getD j false = true := fun j hj => by
          simp only [Array.getD_eq_getD_getElem?, Array.getElem?_setIfInBounds] at hj ⊢
          split
          · split <;> simp_all
          · exact hj
        refine ih _ (updX X i v) (updN L i lo) (updN H i hi') w' (inv.set hi hit) (by omega) hS' (fun j hjt hj => ?_) (fun j k hjt hkt hj hk hne => ?_) (fun j k hjt hj hd => ?_)
        · by_cases hji : j = i
          · subst hji
            refine ⟨hFi, ?_⟩
            simp only [updN, if_true]
            exact ⟨hlo2, hlo3⟩
          · have hjl := (getD_set_or hj).resolve_left hji
            obtain ⟨h4, h5, h6⟩ := hF j hjt hjl
            refine ⟨hloc j X L H _ _ _ w' (fun m hm => ?_) (hR j X L H w w' h4 hRw), ?_⟩
            · have hmi : m ≠ i := by
                rcases hm with rfl | hm
                · exact hji
                · intro e
                  subst e
                  have := hCl j m hjt hjl hm
                  have h9 : listed.getD m false = false := by
                    have hms : m < listed.size := by rw [inv.size]; omega
                    simp only [Array.getD_eq_getD_getElem?, Array.getElem?_eq_getElem hms, Option.getD_some] at hun ⊢
                    exact hun
                  rw [h9] at this
                  cases this
              simp only [updX, updN, if_neg hmi]
              exact ⟨trivial, trivial, trivial⟩
            · simp only [updN, if_neg hji]
              exact ⟨h5, by omega⟩
        · unfold updN
          by_cases hji : j = i
          · subst hji
            have hkj : ¬ k = j := fun e => hne e.symm
            rw [if_pos rfl, if_neg hkj, if_pos rfl, if_neg hkj]
            obtain ⟨_, h5, h6⟩ := hF k hkt ((getD_set_or hk).resolve_left hkj)
            exact .inr (by omega)
          · by_cases hki : k = i
            · subst hki
              rw [if_neg hji, if_pos rfl, if_pos rfl, if_neg hji]
              obtain ⟨_, h5, h6⟩ := hF j hjt ((getD_set_or hj).resolve_left hji)
              exact .inl (by omega)
            · rw [if_neg hji, if_neg hki, if_neg hki, if_neg hji]
              exact hP j k hjt hkt ((getD_set_or hj).resolve_left hji) ((getD_set_or hk).resolve_left hki) hne
        · by_cases hji : j = i
          · subst hji
            exact hset k (hdep k hd).2
          · exact hset k (hCl j k hjt ((getD_set_or hj).resolve_left hji) hd)
theorem wp_region_inw {id : Nat} {a0 : Act} {w : World} (t : Nat) (hm : P.follows .mixedOrders = true) (D : List (Option Tmp)) (F : Nat → (Nat → Value) → (Nat → Nat) → (Nat → Nat) → World → Prop) (S : World → Prop) (R : World → World → Prop)
    (hD : D = (ops.toList.take t).map (·.dst)) (hap : apartD D = true) (hlow : depsLow .any ops = true) (hx : (Region.sinkB .any ops t && Region.chainB .any ops t && decide (t < ops.size)) = true)
    (hR : ∀ i X L H w w', F i X L H w → R w w' → F i X L H w') (hloc : ∀ i X L H X' L' H' w, (∀ j, j = i ∨ depsB .any ops i j = true → X j = X' j ∧ L j = L' j ∧ H j = H' j) → F i X L H w → F i X' L' H' w) (hRs : ∀ w w', R w w' → w.heap.size ≤ w'.heap.size) (hS : S w.drew)
    (hst : StepsInw P .any ops Q D F S R a0 0 (ops.toList.take t))
    (hend : ∀ (X : Nat → Value) (L H : Nat → Nat) (w : World), S w → (∀ i, i < t → F i X L H w ∧ L i ≤ H i ∧ H i ≤ w.heap.size) → (∀ i j, i < t → j < t → i ≠ j → H i ≤ L j ∨ H j ≤ L i) → wpAny P .any ops Q (ops.size - t) (tailL t ops.size) (putAll a0 D X 0) w) :
    (Code.region id ops true).wp P Q a0 w := by
  obtain ⟨X, hX⟩ := putAll_init a0 D 0
  refine wp_region_any hm ?_
  have hrep : ∀ i, (Array.replicate ops.size false).getD i false = false := fun i => by
    simp only [Array.getD_eq_getD_getElem?, Array.getElem?_replicate]
    split <;> rfl
  have := wpAny_inw (md := .any) t D F S R a0 hD hap hlow hx hR hloc hRs hst hend ops.size (Array.replicate ops.size false) X (fun _ => 0) (fun _ => 0) w.drew
    ⟨by simp, fun j oj _ hl => (by rw [hrep] at hl; cases hl), fun k hk hk' => (by simp [Array.getD_eq_getD_getElem?, hk'])⟩
    (by
      have h1 : (List.range ops.size).countP (fun i => !(Array.replicate ops.size false).getD i false) = (List.range ops.size).length := List.countP_eq_length.2 fun i _ => by rw [hrep]; rfl
      rw [h1]; simp) hS
    (fun i _ hi => by rw [hrep] at hi; cases hi) (fun i j _ _ hi => by rw [hrep] at hi; cases hi) (fun i j _ hi _ => by rw [hrep] at hi; cases hi)
  rw [hX] at this
  exact this
end
end Go.Proofs.Ytcehdpeeaogpiaa

/-! What the stores of a better edge leave behind, in whatever order (focal.Run). No condition, no program. -/
namespace Go.Proofs.Ytcehdpeeaogpiaa
open Go.RowKit
set_option linter.unusedSimpArgs false
set_option linter.unusedVariables false
theorem upz_again {α : Type} (f : Nat → α) (i : Nat) (x : α) : upz (upz f i x) i x = upz f i x := by
  funext k
  unfold upz
  split <;> rfl
section
variable (Q : (Nat → Int) → (Nat → Int) → World → Prop) (co po : Nat → Int) (vv : Nat) (x u : Int)
def Qany (w : World) : Prop := ∃ c p, (c = co ∨ c = upz co vv x) ∧ (p = po ∨ p = upz po vv u) ∧ Q c p w
def Q21 (w : World) : Prop := ∃ p, (p = po ∨ p = upz po vv u) ∧ Q (upz co vv x) p w
def Q23 (w : World) : Prop := Q (upz co vv x) (upz po vv u) w
def RQ (w w' : World) : Prop := w.heap.size ≤ w'.heap.size ∧ (Q21 Q co po vv x u w → Q21 Q co po vv x u w') ∧ (Q23 Q co po vv x u w → Q23 Q co po vv x u w')
theorem rq_refl (w : World) : RQ Q co po vv x u w w := ⟨Nat.le_refl _, id, id⟩
def F34 (sb gc gp gw n be : Nat) : Nat → (Nat → Value) → (Nat → Nat) → (Nat → Nat) → World → Prop
  | 0, X, _, _, _ => X 0 = .pointer (some ⟨sb, 0, none⟩)
  | 1, X, _, _, _ => X 1 = .pointer (some ⟨sb, 0, none⟩)
  | 2, X, _, _, _ => X 2 = .pointer (some ⟨sb, 2, none⟩)
  | 3, X, _, _, _ => X 3 = .slice (some ⟨gc, 0, none⟩) n n
  | 4, X, _, _, _ => X 4 = .pointer (some ⟨be, 1, none⟩)
  | 5, X, _, _, _ => X 5 = .int .i64 (vv : Int)
  | 6, X, _, _, _ => X 6 = .pointer (some ⟨sb, 0, none⟩)
  | 7, X, _, _, _ => X 7 = .pointer (some ⟨sb, 0, none⟩)
  | 8, X, _, _, _ => X 8 = .pointer (some ⟨sb, 3, none⟩)
  | 9, X, _, _, _ => X 9 = .slice (some ⟨gp, 0, none⟩) n n
  | 10, X, _, _, _ => X 10 = .pointer (some ⟨be, 1, none⟩)
  | 11, X, _, _, _ => X 11 = .int .i64 (vv : Int)
  | 12, X, _, _, _ => X 12 = .pointer (some ⟨sb, 0, none⟩)
  | 13, X, _, _, _ => X 13 = .pointer (some ⟨sb, 0, none⟩)
  | 14, X, _, _, _ => X 14 = .pointer (some ⟨sb, 4, none⟩)
  | 15, X, _, _, _ => X 15 = .slice (some ⟨gw, 0, none⟩) n n
  | 16, X, _, _, _ => X 16 = .pointer (some ⟨be, 1, none⟩)
  | 17, X, _, _, _ => X 17 = .int .i64 (vv : Int)
  | 18, X, _, _, _ => X 18 = .int .i64 x
  | 19, X, _, _, _ => X 19 = .int .i64 u
  | 20, X, _, _, _ => X 20 = .pointer (some ⟨gc, vv, none⟩)
  | 21, _, _, _, w => Hid (Q21 Q co po vv x u w)
  | 22, X, _, _, _ => X 22 = .pointer (some ⟨gp, vv, none⟩)
  | 23, _, _, _, w => Hid (Q23 Q co po vv x u w)
  | _, _, _, _, _ => True
theorem f34_stays (sb gc gp gw n be : Nat) : ∀ (i : Nat) (X : Nat → Value) (L H : Nat → Nat) (w w' : World), F34 Q co po vv x u sb gc gp gw n be i X L H w → RQ Q co po vv x u w w' → F34 Q co po vv x u sb gc gp gw n be i X L H w'
  | 0, _, _, _, _, _, h, _ => h
  | 1, _, _, _, _, _, h, _ => h
  | 2, _, _, _, _, _, h, _ => h
  | 3, _, _, _, _, _, h, _ => h
  | 4, _, _, _, _, _, h, _ => h
  | 5, _, _, _, _, _, h, _ => h
  | 6, _, _, _, _, _, h, _ => h
  | 7, _, _, _, _, _, h, _ => h
  | 8, _, _, _, _, _, h, _ => h
  | 9, _, _, _, _, _, h, _ => h
  | 10, _, _, _, _, _, h, _ => h
  | 11, _, _, _, _, _, h, _ => h
  | 12, _, _, _, _, _, h, _ => h
  | 13, _, _, _, _, _, h, _ => h
  | 14, _, _, _, _, _, h, _ => h
  | 15, _, _, _, _, _, h, _ => h
  | 16, _, _, _, _, _, h, _ => h
  | 17, _, _, _, _, _, h, _ => h
  | 18, _, _, _, _, _, h, _ => h
  | 19, _, _, _, _, _, h, _ => h
  | 20, _, _, _, _, _, h, _ => h
  | 21, _, _, _, _, _, h, r => r.2.1 h
  | 22, _, _, _, _, _, h, _ => h
  | 23, _, _, _, _, _, h, r => r.2.2 h
  | _ + 24, _, _, _, _, _, _, _ => trivial
theorem f34_loc (sb gc gp gw n be : Nat) : ∀ (i : Nat) (X : Nat → Value) (L H : Nat → Nat) (X' : Nat → Value) (L' H' : Nat → Nat) (w : World), X i = X' i → F34 Q co po vv x u sb gc gp gw n be i X L H w → F34 Q co po vv x u sb gc gp gw n be i X' L' H' w
  | 0, _, _, _, _, _, _, _, a, h => a.symm.trans h
  | 1, _, _, _, _, _, _, _, a, h => a.symm.trans h
  | 2, _, _, _, _, _, _, _, a, h => a.symm.trans h
  | 3, _, _, _, _, _, _, _, a, h => a.symm.trans h
  | 4, _, _, _, _, _, _, _, a, h => a.symm.trans h
  | 5, _, _, _, _, _, _, _, a, h => a.symm.trans h
  | 6, _, _, _, _, _, _, _, a, h => a.symm.trans h
  | 7, _, _, _, _, _, _, _, a, h => a.symm.trans h
  | 8, _, _, _, _, _, _, _, a, h => a.symm.trans h
  | 9, _, _, _, _, _, _, _, a, h => a.symm.trans h
  | 10, _, _, _, _, _, _, _, a, h => a.symm.trans h
  | 11, _, _, _, _, _, _, _, a, h => a.symm.trans h
  | 12, _, _, _, _, _, _, _, a, h => a.symm.trans h
  | 13, _, _, _, _, _, _, _, a, h => a.symm.trans h
  | 14, _, _, _, _, _, _, _, a, h => a.symm.trans h
  | 15, _, _, _, _, _, _, _, a, h => a.symm.trans h
  | 16, _, _, _, _, _, _, _, a, h => a.symm.trans h
  | 17, _, _, _, _, _, _, _, a, h => a.symm.trans h
  | 18, _, _, _, _, _, _, _, a, h => a.symm.trans h
  | 19, _, _, _, _, _, _, _, a, h => a.symm.trans h
  | 20, _, _, _, _, _, _, _, a, h => a.symm.trans h
  | 21, _, _, _, _, _, _, _, _, h => h
  | 22, _, _, _, _, _, _, _, a, h => a.symm.trans h
  | 23, _, _, _, _, _, _, _, _, h => h
  | _ + 24, _, _, _, _, _, _, _, _, _ => trivial
theorem st21 {gc : Nat} (hQc : ∀ c p w, Q c p w → Q (upz c vv x) p (w.setCell ⟨gc, vv, none⟩ (.int .i64 x))) {w : World} (h : Qany Q co po vv x u w) :
    Qany Q co po vv x u (w.setCell ⟨gc, vv, none⟩ (.int .i64 x)) ∧ RQ Q co po vv x u w (w.setCell ⟨gc, vv, none⟩ (.int .i64 x)) ∧ Q21 Q co po vv x u (w.setCell ⟨gc, vv, none⟩ (.int .i64 x)) := by
  obtain ⟨c, p, hc, hp, hq⟩ := h
  have h1 := hQc _ _ _ hq
  have e : upz c vv x = upz co vv x := by
    rcases hc with rfl | rfl
    · rfl
    · exact upz_again _ _ _
  rw [e] at h1
  refine ⟨⟨_, p, .inr rfl, hp, h1⟩, ⟨by simp, fun ⟨p', hp', h'⟩ => ⟨p', hp', ?_⟩, fun h' => ?_⟩, ⟨p, hp, h1⟩⟩
  · have := hQc _ _ _ h'
    rwa [upz_again] at this
  · have := hQc _ _ _ h'
    rw [upz_again] at this
    exact this
theorem st23 {gp : Nat} (hQp : ∀ c p w, Q c p w → Q c (upz p vv u) (w.setCell ⟨gp, vv, none⟩ (.int .i64 u))) {w : World} (h : Q21 Q co po vv x u w) :
    Qany Q co po vv x u (w.setCell ⟨gp, vv, none⟩ (.int .i64 u)) ∧ RQ Q co po vv x u w (w.setCell ⟨gp, vv, none⟩ (.int .i64 u)) ∧ Q23 Q co po vv x u (w.setCell ⟨gp, vv, none⟩ (.int .i64 u)) := by
  have e : ∀ p, (p = po ∨ p = upz po vv u) → upz p vv u = upz po vv u := fun p hp => by
    rcases hp with rfl | rfl
    · rfl
    · exact upz_again _ _ _
  obtain ⟨p, hp, hq⟩ := h
  have h1 := hQp _ _ _ hq
  rw [e p hp] at h1
  refine ⟨⟨_, _, .inr rfl, .inr rfl, h1⟩, ⟨by simp, fun ⟨p', hp', h'⟩ => ⟨_, .inr rfl, ?_⟩, fun h' => ?_⟩, h1⟩
  · have := hQp _ _ _ h'
    rwa [e p' hp'] at this
  · have := hQp _ _ _ h'
    rw [upz_again] at this
    exact this
end
end Go.Proofs.Ytcehdpeeaogpiaa
