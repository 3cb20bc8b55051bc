/-
  A region that draws its order and ends in one operation that waits for all others: a condition on the world is kept till that last operation, and not behind it. No condition, no program.
-/
import Derived.Test.YtcehdpeeaogpiaaBase
import Derived.StillTail
import Derived.Deep.RegionHeld3
import Derived.Deep.DrawnRows
namespace Go.Proofs.Ytcehdpeeaogpiaa
open Go Go.RowKit
set_option linter.unusedVariables false

section
variable {P : Program} {ops : Array Oper} {Q : Exit → Act → World → Prop} {md : Region.Mode} {S : World → Prop} {t : Nat}
/-- whatever order is picked from here on; S holds behind every operation but number t, the last -/
def wpAnyE (P : Program) (md : Region.Mode) (ops : Array Oper) (Q : Exit → Act → World → Prop) (S : World → Prop) (t : Nat) : Nat → Array Bool → Act → World → Prop
  | 0, listed, a, w => Region.ready md ops listed = [] ∧ Q .normal a w
  | fuel + 1, listed, a, w =>
    (Region.ready md ops listed = [] → Q .normal a w) ∧
    ∀ i ∈ Region.ready md ops listed, wpOp P ops Q i (fun a' w' => (i ≠ t → S w') ∧ wpAnyE P md ops Q S t fuel (listed.setIfInBounds i true) a' w') a w
theorem wpAny_of_end : ∀ (fuel : Nat) (listed : Array Bool) (a : Act) (w : World), wpAnyE P md ops Q S t fuel listed a w → wpAny P md ops Q fuel listed a w
  | 0, _, _, _, h => h
  | fuel + 1, _, _, _, h => ⟨h.1, fun i hi => wpOp_mono (fun a' w' h' => wpAny_of_end fuel _ a' w' h'.2) (h.2 i hi)⟩
theorem wpAnyE_first (hsink : Region.sinkB md ops t = true) (hchain : Region.chainB md ops t = true) (hsz : ops.size = t + 1) {i : Nat} {oi : Oper} {v : Value} (hit : i < t) (hi : ops[i]? = some oi) (hsel : ∀ (j : Nat) (o : Oper) cs b, ops[j]? = some o → o.op ≠ .select cs b)
    (hQ : ∀ c a w, Q (.panic c) (a.put oi.dst v) w → Q (.panic c) a w) :
    ∀ (fuel : Nat) (listed : Array Bool) (a : Act) (w : World),
      (∀ j oj, ops[j]? = some oj → j ≠ i → listed.getD j true = false → (∀ e ∈ oj.after, Region.binds md e = true → e.on ≠ i) → oi.apart ops oj = true) →
      i ∈ Region.ready md ops listed → HeadInv md ops t listed → YieldsIf P ops S oi v a → S w →
      wpAnyE P md ops Q S t fuel (listed.setIfInBounds i true) (a.put oi.dst v) w → wpAnyE P md ops Q S t (fuel + 1) listed a w := by
  intro fuel
  induction fuel with
  | zero =>
    intro listed a w _ hr inv hy hS H
    refine ⟨fun h => (by rw [h] at hr; cases hr), fun j hj => ?_⟩
    by_cases hji : j = i
    · subst hji; exact hy.wpOp hi hS ⟨fun _ => hS, H⟩
    · have := ready_mono hj hji
      rw [H.1] at this
      cases this
  | succ fuel ih =>
    intro listed a w hfree hr inv hy hS H
    refine ⟨fun h => (by rw [h] at hr; cases hr), fun j hj => ?_⟩
    by_cases hji : j = i
    · subst hji; exact hy.wpOp hi hS ⟨fun _ => hS, H⟩
    · have h1 := H.2 j (ready_mono hj hji)
      obtain ⟨hjun, oj, hoj, hall⟩ := mem_ready.1 hj
      have hnot : ∀ e ∈ oj.after, Region.binds md e = true → e.on ≠ i := fun e he hb heq => by
        have h1 := hall e he hb
        have h0 := (mem_ready.1 hr).1
        rw [heq] at h1
        rcases Nat.lt_or_ge i listed.size with h' | h'
        · simp [h'] at h0 h1; rw [h0] at h1; cases h1
        · simp [Array.getElem?_eq_none h'] at h1
      have hjt : j < t := by
        have h5 : ¬ t ≤ j := fun h => tail_waits hsink hchain (by omega) inv (t - i) i rfl hit (mem_ready.1 hr).1 j h hj
        omega
      have h2 := wpOp_putIf hoj (hfree j oj hoj hji hjun hnot) (fun cs b => hsel i oi cs b hi) (fun cs b => hsel j oj cs b hoj) hQ hy h1
      have hfree' : ∀ k ok, ops[k]? = some ok → k ≠ i → (listed.setIfInBounds j true).getD k true = false →
          (∀ e ∈ ok.after, Region.binds md e = true → e.on ≠ i) → oi.apart ops ok = true := fun k ok hk hki hun hno => by
        refine hfree k ok hk hki ?_ hno
        by_cases hjk : j = k
        · subst hjk; exact hjun
        · rw [getD_set_ne true hjk] at hun; exact hun
      refine wpOp_mono (fun a' w' h3 => ⟨h3.2.1, ih (listed.setIfInBounds j true) a' w' hfree' (ready_mono hr (Ne.symm hji)) (inv.set hj hjt) h3.1 (h3.2.1 (by omega)) ?_⟩) h2
      rw [Array.setIfInBounds_comm _ _ hji]
      exact h3.2.2

theorem wpAnyE_take {i : Nat} {oi : Oper} {v : Value} {fuel : Nat} {listed : Array Bool} {a : Act} {w : World} (hi : ops[i]? = some oi) (hx : (Region.sinkB md ops t && Region.chainB md ops t && decide (ops.size = t + 1) && decide (i < t)) = true)
    (hs : Region.noSelect ops = true) (hf : Region.free md ops listed i = true) (hr : (Region.ready md ops listed).contains i = true)
    (hQ : ∀ c a w, Q (.panic c) (a.put oi.dst v) w → Q (.panic c) a w) (hy : YieldsIf P ops S oi v a) (inv : HeadInv md ops t listed) (hS : S w)
    (h : HeadInv md ops t (listed.setIfInBounds i true) → wpAnyE P md ops Q S t fuel (listed.setIfInBounds i true) (a.put oi.dst v) w) : wpAnyE P md ops Q S t (fuel + 1) listed a w := by
  simp only [Bool.and_eq_true, decide_eq_true_eq] at hx
  obtain ⟨⟨⟨h1, h2⟩, h3⟩, h4⟩ := hx
  have hr' : i ∈ Region.ready md ops listed := by simpa using hr
  exact wpAnyE_first h1 h2 h3 h4 hi (Region.noSelect_spec hs) hQ fuel listed a w (Region.free_spec hi hf) hr' inv hy hS (h (inv.set hr' h4))
/-- the only one that may come up -/
theorem wpAnyE_one {i : Nat} {o : Oper} {fuel : Nat} {listed : Array Bool} {a : Act} {w : World} (ho : ops[i]? = some o) (hr : Region.ready md ops listed = [i])
    (h : ∀ K' : Act → World → Prop, Shut (∀ a w, (i ≠ t → S w) → ((i < t → HeadInv md ops t (listed.setIfInBounds i true)) → wpAnyE P md ops Q S t fuel (listed.setIfInBounds i true) a w) → K' a w) → if Region.wanted o (yielded ops a.tmps) = true then Oper.wp P o a w K' Q else K' (a.put o.dst undef) w)
    (inv : HeadInv md ops t listed) : wpAnyE P md ops Q S t (fuel + 1) listed a w := by
  refine ⟨fun h0 => (by rw [hr] at h0; cases h0), fun j hj => ?_⟩
  rw [hr] at hj
  obtain rfl : j = i := by simpa using hj
  exact wpOp_step ho (fun K' hK => h K' (fun a w hS hW => hK a w ⟨hS, hW (fun hlt => inv.set (by rw [hr]; exact hj) hlt)⟩))
theorem wpAnyE_done {listed : Array Bool} {a : Act} {w : World} (hr : Region.ready md ops listed = []) (h : Q .normal a w) :
    ∀ fuel, wpAnyE P md ops Q S t fuel listed a w
  | 0 => ⟨hr, h⟩
  | _ + 1 => ⟨fun _ => h, by rw [hr]; simp⟩
theorem wp_region_end {id : Nat} {a : Act} {w : World} (hm : P.follows .mixedOrders = true) (hS : S w.drew)
    (h : S w.drew → HeadInv .any ops t (Array.replicate ops.size false) → wpAnyE P .any ops Q S t ops.size (Array.replicate ops.size false) a w.drew) : (Code.region id ops true).wp P Q a w :=
  wp_region_any hm (wpAny_of_end _ _ _ _ (h hS ⟨by simp, fun j oj hj hl => (by rw [getD_replicate_false] at hl; cases hl), fun k hk hk' => (by simp [hk'])⟩))
/-- the same, with the places of the operations to be taken next -/
abbrev PlanE (L : List Nat) (P : Program) (md : Region.Mode) (ops : Array Oper) (Q : Exit → Act → World → Prop) (S : World → Prop) (t fuel : Nat) (listed : Array Bool) (a : Act) (w : World) : Prop := wpAnyE P md ops Q S t fuel listed a w
theorem planE (L : List Nat) {fuel : Nat} {listed : Array Bool} {a : Act} {w : World} (h : PlanE L P md ops Q S t fuel listed a w) : wpAnyE P md ops Q S t fuel listed a w := h
theorem PlanE.take {i : Nat} {L : List Nat} {oi : Oper} {v : Value} {fuel : Nat} {listed : Array Bool} {a : Act} {w : World} (hi : ops[i]? = some oi) (hx : (Region.sinkB md ops t && Region.chainB md ops t && decide (ops.size = t + 1) && decide (i < t) && Region.noSelect ops && Region.free md ops listed i && (Region.ready md ops listed).contains i) = true)
    (hQ : ∀ c a w, Q (.panic c) (a.put oi.dst v) w → Q (.panic c) a w) (hy : YieldsIf P ops S oi v a) (inv : HeadInv md ops t listed) (hS : S w)
    (h : HeadInv md ops t (listed.setIfInBounds i true) → PlanE L P md ops Q S t fuel (listed.setIfInBounds i true) (a.put oi.dst v) w) : PlanE (i :: L) P md ops Q S t (fuel + 1) listed a w := by
  simp only [Bool.and_eq_true] at hx
  obtain ⟨⟨⟨⟨⟨⟨h1, h2⟩, h3⟩, h4⟩, h5⟩, h6⟩, h7⟩ := hx
  exact wpAnyE_take hi (by rw [h1, h2, h3, h4]; rfl) h5 h6 h7 hQ hy inv hS h
abbrev PlanH (L : List Nat) (P : Program) (md : Region.Mode) (ops : Array Oper) (Q : Exit → Act → World → Prop) (S : World → Prop) (fuel : Nat) (listed : Array Bool) (a : Act) (w : World) : Prop := wpAnyH P md ops Q S fuel listed a w
theorem planH (L : List Nat) {fuel : Nat} {listed : Array Bool} {a : Act} {w : World} (h : PlanH L P md ops Q S fuel listed a w) : wpAnyH P md ops Q S fuel listed a w := h
theorem PlanH.take {i : Nat} {L : List Nat} {oi : Oper} {v : Value} {fuel : Nat} {listed : Array Bool} {a : Act} {w : World} (hi : ops[i]? = some oi) (hx : (Region.noSelect ops && Region.free md ops listed i && (Region.ready md ops listed).contains i) = true)
    (hQ : ∀ c a w, Q (.panic c) (a.put oi.dst v) w → Q (.panic c) a w) (hy : YieldsIf P ops S oi v a) (hS : S w)
    (h : PlanH L P md ops Q S fuel (listed.setIfInBounds i true) (a.put oi.dst v) w) : PlanH (i :: L) P md ops Q S (fuel + 1) listed a w := by
  simp only [Bool.and_eq_true] at hx
  obtain ⟨⟨h5, h6⟩, h7⟩ := hx
  exact wpAnyH_take hi h5 h6 h7 hQ hy hS h
end
end Go.Proofs.Ytcehdpeeaogpiaa
