/-
  A part of the proof of ServePlays: AMF HeldEnd RegInv
-/
import Derived.Test.YtccailcjclbhlaaTopServiceA5
import Derived.BigQuiet
import Derived.Deep.QuietTactic
import Derived.Test.YtccailcjclbhlaaTopServiceA6
import Derived.Test.YtccailcjclbhlaaTopServiceA1
import Derived.StillTail
import Derived.Deep.RegionHeld3
import Derived.Deep.DrawnRows
/-! Several texts in one: -/
/-! A search by taste: what it does, whoever does it. No program here. -/
namespace Go.Proofs.Ytccailcjclbhlaa
set_option linter.unusedSimpArgs false
set_option linter.unusedVariables false
/-- costs so far, where each was come to from, the places that wait, the places looked from -/
structure FR where
  cost : Nat → Int
  pred : Nat → Int
  wt : Nat → Bool
  ord : List Nat
def fsum (h : Nat → Int) (s : FR) (v : Nat) : Int := s.cost v + h v
/-- a place by its taste -/
def tpl (taste h : Nat → Int) (s : FR) (v : Nat) : Ed := ⟨taste v, fsum h s v, (v : Int)⟩
/-- one edge looked at from v -/
def fedge (h : Nat → Int) (v : Nat) (s : FR) (e : NE) : FR := if e.u = v ∧ h e.v ≠ FAR ∧ s.cost v + e.c < s.cost e.v then { s with cost := upz s.cost e.v (s.cost v + e.c), pred := upz s.pred e.v (v : Int), wt := upz s.wt e.v true } else s
def flook (s : FR) (v : Nat) : FR := { s with wt := upz s.wt v false, ord := s.ord ++ [v] }
def fexpand (E : List NE) (h : Nat → Int) (v : Nat) (s : FR) : FR := E.foldl (fedge h v) (flook s v)
def Least (h : Nat → Int) (n : Nat) (s : FR) (m : Int) : Prop := (∃ v, v < n ∧ s.wt v = true ∧ fsum h s v = m) ∧ ∀ v, v < n → s.wt v = true → m ≤ fsum h s v
def Adm (h : Nat → Int) (r : P2) (s : FR) (m : Int) (v : Nat) : Prop := s.wt v = true ∧ r.b * fsum h s v ≤ r.a * m
/-- the one to look from -/
def Pick (h taste : Nat → Int) (r : P2) (n : Nat) (s : FR) (v : Nat) : Prop := ∃ m, Least h n s m ∧ v < n ∧ Adm h r s m v ∧ ∀ u, u < n → Adm h r s m u → plLt (tpl taste h s u) (tpl taste h s v) = false
inductive FOut where
  | none
  | steps
  | found (s : FR)
inductive FRun (E : List NE) (h taste : Nat → Int) (r : P2) (n tg st : Nat) : FR → FOut → Prop
  | none (s : FR) (hw : ∀ v, v < n → s.wt v = false) : FRun E h taste r n tg st s .none
  | steps (s : FR) (v : Nat) (hp : Pick h taste r n s v) (hs : st ≤ s.ord.length) : FRun E h taste r n tg st s .steps
  | hit (s : FR) (hp : Pick h taste r n s tg) (hs : s.ord.length < st) : FRun E h taste r n tg st s (.found (flook s tg))
  | step (s : FR) (v : Nat) (o : FOut) (hp : Pick h taste r n s v) (hs : s.ord.length < st) (hv : v ≠ tg) (hr : FRun E h taste r n tg st (fexpand E h v s) o) : FRun E h taste r n tg st s o
/-- what holds all along: bounds on the costs, ways that fall -/
structure FOk (n fr : Nat) (h : Nat → Int) (s : FR) : Prop where
  ordLt : ∀ v ∈ s.ord, v < n
  cb : ∀ v, s.cost v = FAR ∨ (0 ≤ s.cost v ∧ s.cost v ≤ 10000 * (s.ord.length : Int))
  wt : ∀ v, s.wt v = true → s.cost v < FAR ∧ h v ≠ FAR
  pr : ∀ v, s.cost v < FAR → s.pred v < 0 ∨ ∃ u : Nat, s.pred v = (u : Int) ∧ u < n ∧ s.cost u < FAR ∧ s.cost u < s.cost v
/-- while v's edges are looked at -/
structure FMid (n fr : Nat) (h : Nat → Int) (v : Nat) (s : FR) : Prop where
  ok : FOk n fr h s
  cv : 0 ≤ s.cost v ∧ s.cost v + 10000 ≤ 10000 * (s.ord.length : Int)
end Go.Proofs.Ytccailcjclbhlaa

/-! What holds while a search by taste runs: its object, the three rows. No condition. -/
namespace Go.Proofs.Ytccailcjclbhlaa
open Go.RowKit
set_option linter.unusedSimpArgs false
set_option linter.unusedVariables false
/-- the n first of a function as bools -/
def LB (n : Nat) (f : Nat → Bool) : List Bool := (List.range n).map f
theorem lb_len (n : Nat) (f : Nat → Bool) : (LB n f).length = n := by simp [LB]
theorem lb_set (n : Nat) (f : Nat → Bool) (i : Nat) (x : Bool) : (LB n f).set i x = LB n (upz f i x) := by
  refine List.ext_getElem (by simp [LB]) fun j h1 h2 => ?_
  simp only [LB, List.getElem_set, List.getElem_map, List.getElem_range]
  by_cases h : i = j
  · subst h; simp [upz_same]
  · rw [if_neg h, upz_other _ _ (fun e => h e.symm)]
theorem Own.atLB {e : TypeId} {w : World} {base g n c : Nat} {f : Nat → Bool} (h : Own encB 1 e w base (.slice (some ⟨g, 0, none⟩) n c) (LB n f)) (i : Nat) (hi : i < n) : w.cell? ⟨g, i, none⟩ = some (.bool (f i)) := by
  have := h.getB i (by rw [lb_len]; exact hi)
  simpa [LB] using this
theorem Own.setLB {e : TypeId} {w : World} {base g n c : Nat} {f : Nat → Bool} (h : Own encB 1 e w base (.slice (some ⟨g, 0, none⟩) n c) (LB n f)) (i : Nat) (hi : i < n) (x : Bool) : Own encB 1 e (w.setCell ⟨g, i, none⟩ (.bool x)) base (.slice (some ⟨g, 0, none⟩) n c) (LB n (upz f i x)) := by
  have := h.putB i (by rw [lb_len]; exact hi) x
  rwa [lb_set] at this
/-- the blocks that a search by taste writes -/
def FXb (gc gp gw : Nat) (j : Nat) : Prop := j = gc ∨ j = gp ∨ j = gw
/-- sb: the object; gc, gp, gw: costs, where from, waits; wS: the world right behind their making -/
structure FX (base n sb gc gp gw : Nat) (hv tv : Value) (ra rb : Int) (s : FR) (wS wr : World) : Prop where
  c0 : wr.cell? ⟨sb, 0, none⟩ = some hv
  c1 : wr.cell? ⟨sb, 1, none⟩ = some tv
  c2 : wr.cell? ⟨sb, 2, none⟩ = some (.slice (some ⟨gc, 0, none⟩) n n)
  c3 : wr.cell? ⟨sb, 3, none⟩ = some (.slice (some ⟨gp, 0, none⟩) n n)
  c4 : wr.cell? ⟨sb, 4, none⟩ = some (.slice (some ⟨gw, 0, none⟩) n n)
  c5 : wr.cell? ⟨sb, 5, none⟩ = some (.int .i64 ra)
  c6 : wr.cell? ⟨sb, 6, none⟩ = some (.int .i64 rb)
  cost : Own encI 1 3 wr base (.slice (some ⟨gc, 0, none⟩) n n) (LI n s.cost)
  pred : Own encI 1 3 wr base (.slice (some ⟨gp, 0, none⟩) n n) (LI n s.pred)
  wait : Own encB 1 4 wr base (.slice (some ⟨gw, 0, none⟩) n n) (LB n s.wt)
  keep : Keep (FXb gc gp gw) wS wr
  lt : sb < wS.heap.size ∧ gc < wS.heap.size ∧ gp < wS.heap.size ∧ gw < wS.heap.size
  ne : sb ≠ gc ∧ sb ≠ gp ∧ sb ≠ gw ∧ gc ≠ gp ∧ gc ≠ gw ∧ gp ≠ gw
section
variable {base n sb gc gp gw : Nat} {hv tv : Value} {ra rb : Int} {s : FR} {wS wr w' : World}
end
end Go.Proofs.Ytccailcjclbhlaa

/-! What focal's least, better and pick return. Conditions: the object reads as FX says; bounds on costs and guesses. -/
namespace Go.Proofs.Ytccailcjclbhlaa
open Go.RowKit
set_option linter.unusedSimpArgs false
set_option linter.unusedVariables false
/-- what is read alone: the object, the rows of guesses and tastes -/
structure FV (base n sb gc gp gw hc tc B : Nat) (ha ta : Option Addr) (ra rb : Int) (h taste : Nat → Int) (s : FR) (wS w : World) : Prop where
  fx : FX base n sb gc gp gw (.slice ha n hc) (.slice ta n tc) ra rb s wS w
  hr : Row encI 1 w B ha (LI n h)
  tr : Row encI 1 w B ta (LI n taste)
  hB : B ≤ w.heap.size
  hn : n ≤ 64
  hh : ∀ u, u < n → 0 ≤ h u ∧ h u ≤ 1099511627776
  hc : ∀ u, u < n → 0 ≤ s.cost u ∧ s.cost u ≤ 1099511627776
section
variable {base n sb gc gp gw hc tc B : Nat} {ha ta : Option Addr} {ra rb : Int} {h taste : Nat → Int} {s : FR} {wS w w' : World}
end
end Go.Proofs.Ytccailcjclbhlaa

/-! What focal's pick returns: the place to look from, or -1. Conditions: the object reads as FX says; bounds; a right weight. -/
namespace Go.Proofs.Ytccailcjclbhlaa
open Go.RowKit
set_option linter.unusedSimpArgs false
set_option linter.unusedVariables false
end Go.Proofs.Ytccailcjclbhlaa

/-! What focal.Run makes at its start, what it answers. No condition. -/
namespace Go.Proofs.Ytccailcjclbhlaa
open Go.RowKit
set_option linter.unusedSimpArgs false
set_option linter.unusedVariables false
theorem lb_ordB (n : Nat) : ordB n [] = LB n (fun _ => false) := by
  unfold ordB LB
  refine List.ext_getElem (by simp) fun i h1 h2 => by simp
end Go.Proofs.Ytccailcjclbhlaa
/-! A region that draws its order and ends in one operation that waits for all others: a condition on the world is kept till that last operation, and not behind it. No condition, no program. -/
namespace Go.Proofs.Ytccailcjclbhlaa
open Go Go.RowKit
set_option linter.unusedVariables false

section
variable {P : Program} {ops : Array Oper} {Q : Exit → Act → World → Prop} {md : Region.Mode} {S : World → Prop} {t : Nat}
/-- whatever order is picked from here on; S holds behind every operation but number t, the last -/
def wpAnyE (P : Program) (md : Region.Mode) (ops : Array Oper) (Q : Exit → Act → World → Prop) (S : World → Prop) (t : Nat) : Nat → Array Bool → Act → World → Prop
  | 0, listed, a, w => Region.ready md ops listed = [] ∧ Q .normal a w
  | fuel + 1, listed, a, w =>
    (Region.ready md ops listed = [] → Q .normal a w) ∧
    ∀ i ∈ Region.ready md ops listed, wpOp P ops Q i (fun a' w' => (i ≠ t → S w') ∧ wpAnyE P md ops Q S t fuel (listed.setIfInBounds i true) a' w') a w
theorem wpAny_of_end : ∀ (fuel : Nat) (listed : Array Bool) (a : Act) (w : World), wpAnyE P md ops Q S t fuel listed a w → wpAny P md ops Q fuel listed a w
  | 0, _, _, _, h => h
  | fuel + 1, _, _, _, h => ⟨h.1, fun i hi => wpOp_mono (fun a' w' h' => wpAny_of_end fuel _ a' w' h'.2) (h.2 i hi)⟩
theorem wpAnyE_first (hsink : Region.sinkB md ops t = true) (hchain : Region.chainB md ops t = true) (hsz : ops.size = t + 1) {i : Nat} {oi : Oper} {v : Value} (hit : i < t) (hi : ops[i]? = some oi) (hsel : ∀ (j : Nat) (o : Oper) cs b, ops[j]? = some o → o.op ≠ .select cs b)
    (hQ : ∀ c a w, Q (.panic c) (a.put oi.dst v) w → Q (.panic c) a w) :
    ∀ (fuel : Nat) (listed : Array Bool) (a : Act) (w : World),
      (∀ j oj, ops[j]? = some oj → j ≠ i → listed.getD j true = false → (∀ e ∈ oj.after, Region.binds md e = true → e.on ≠ i) → oi.apart ops oj = true) →
      i ∈ Region.ready md ops listed → HeadInv md ops t listed → YieldsIf P ops S oi v a → S w →
      wpAnyE P md ops Q S t fuel (listed.setIfInBounds i true) (a.put oi.dst v) w → wpAnyE P md ops Q S t (fuel + 1) listed a w := by
  intro fuel
  induction fuel with
  | zero =>
    intro listed a w _ hr inv hy hS H
    refine ⟨fun h => (by rw [h] at hr; cases hr), fun j hj => ?_⟩
    by_cases hji : j = i
    · subst hji; exact hy.wpOp hi hS ⟨fun _ => hS, H⟩
    · have := ready_mono hj hji
      rw [H.1] at this
      cases this
  | succ fuel ih =>
    intro listed a w hfree hr inv hy hS H
    refine ⟨fun h => (by rw [h] at hr; cases hr), fun j hj => ?_⟩
    by_cases hji : j = i
    · subst hji; exact hy.wpOp hi hS ⟨fun _ => hS, H⟩
    · have h1 := H.2 j (ready_mono hj hji)
      obtain ⟨hjun, oj, hoj, hall⟩ := mem_ready.1 hj
      have hnot : ∀ e ∈ oj.after, Region.binds md e = true → e.on ≠ i := fun e he hb heq => by
        have h1 := hall e he hb
        have h0 := (mem_ready.1 hr).1
        rw [heq] at h1
        rcases Nat.lt_or_ge i listed.size with h' | h'
        · simp [h'] at h0 h1; rw [h0] at h1; cases h1
        · simp [Array.getElem?_eq_none h'] at h1
      have hjt : j < t := by
        have h5 : ¬ t ≤ j := fun h => tail_waits hsink hchain (by omega) inv (t - i) i rfl hit (mem_ready.1 hr).1 j h hj
        omega
      have h2 := wpOp_putIf hoj (hfree j oj hoj hji hjun hnot) (fun cs b => hsel i oi cs b hi) (fun cs b => hsel j oj cs b hoj) hQ hy h1
      have hfree' : ∀ k ok, ops[k]? = some ok → k ≠ i → (listed.setIfInBounds j true).getD k true = false →
          (∀ e ∈ ok.after, Region.binds md e = true → e.on ≠ i) → oi.apart ops ok = true := fun k ok hk hki hun hno => by
        refine hfree k ok hk hki ?_ hno
        by_cases hjk : j = k
        · subst hjk; exact hjun
        · rw [getD_set_ne true hjk] at hun; exact hun
      refine wpOp_mono (fun a' w' h3 => ⟨h3.2.1, ih (listed.setIfInBounds j true) a' w' hfree' (ready_mono hr (Ne.symm hji)) (inv.set hj hjt) h3.1 (h3.2.1 (by omega)) ?_⟩) h2
      rw [Array.setIfInBounds_comm _ _ hji]
      exact h3.2.2

theorem wpAnyE_take {i : Nat} {oi : Oper} {v : Value} {fuel : Nat} {listed : Array Bool} {a : Act} {w : World} (hi : ops[i]? = some oi) (hx : (Region.sinkB md ops t && Region.chainB md ops t && decide (ops.size = t + 1) && decide (i < t)) = true)
    (hs : Region.noSelect ops = true) (hf : Region.free md ops listed i = true) (hr : (Region.ready md ops listed).contains i = true)
    (hQ : ∀ c a w, Q (.panic c) (a.put oi.dst v) w → Q (.panic c) a w) (hy : YieldsIf P ops S oi v a) (inv : HeadInv md ops t listed) (hS : S w)
    (h : HeadInv md ops t (listed.setIfInBounds i true) → wpAnyE P md ops Q S t fuel (listed.setIfInBounds i true) (a.put oi.dst v) w) : wpAnyE P md ops Q S t (fuel + 1) listed a w := by
  simp only [Bool.and_eq_true, decide_eq_true_eq] at hx
  obtain ⟨⟨⟨h1, h2⟩, h3⟩, h4⟩ := hx
  have hr' : i ∈ Region.ready md ops listed := by simpa using hr
  exact wpAnyE_first h1 h2 h3 h4 hi (Region.noSelect_spec hs) hQ fuel listed a w (Region.free_spec hi hf) hr' inv hy hS (h (inv.set hr' h4))
/-- the only one that may come up -/
theorem wpAnyE_one {i : Nat} {o : Oper} {fuel : Nat} {listed : Array Bool} {a : Act} {w : World} (ho : ops[i]? = some o) (hr : Region.ready md ops listed = [i])
    (h : ∀ K' : Act → World → Prop, Shut (∀ a w, (i ≠ t → S w) → ((i < t → HeadInv md ops t (listed.setIfInBounds i true)) → wpAnyE P md ops Q S t fuel (listed.setIfInBounds i true) a w) → K' a w) → if Region.wanted o (yielded ops a.tmps) = true then Oper.wp P o a w K' Q else K' (a.put o.dst undef) w)
    (inv : HeadInv md ops t listed) : wpAnyE P md ops Q S t (fuel + 1) listed a w := by
  refine ⟨fun h0 => (by rw [hr] at h0; cases h0), fun j hj => ?_⟩
  rw [hr] at hj
  obtain rfl : j = i := by simpa using hj
  exact wpOp_step ho (fun K' hK => h K' (fun a w hS hW => hK a w ⟨hS, hW (fun hlt => inv.set (by rw [hr]; exact hj) hlt)⟩))
theorem wpAnyE_done {listed : Array Bool} {a : Act} {w : World} (hr : Region.ready md ops listed = []) (h : Q .normal a w) :
    ∀ fuel, wpAnyE P md ops Q S t fuel listed a w
  | 0 => ⟨hr, h⟩
  | _ + 1 => ⟨fun _ => h, by rw [hr]; simp⟩
theorem wp_region_end {id : Nat} {a : Act} {w : World} (hm : P.follows .mixedOrders = true) (hS : S w.drew)
    (h : S w.drew → HeadInv .any ops t (Array.replicate ops.size false) → wpAnyE P .any ops Q S t ops.size (Array.replicate ops.size false) a w.drew) : (Code.region id ops true).wp P Q a w :=
  wp_region_any hm (wpAny_of_end _ _ _ _ (h hS ⟨by simp, fun j oj hj hl => (by rw [getD_replicate_false] at hl; cases hl), fun k hk hk' => (by simp [hk'])⟩))
/-- the same, with the places of the operations to be taken next -/
abbrev PlanE (L : List Nat) (P : Program) (md : Region.Mode) (ops : Array Oper) (Q : Exit → Act → World → Prop) (S : World → Prop) (t fuel : Nat) (listed : Array Bool) (a : Act) (w : World) : Prop := wpAnyE P md ops Q S t fuel listed a w
theorem planE (L : List Nat) {fuel : Nat} {listed : Array Bool} {a : Act} {w : World} (h : PlanE L P md ops Q S t fuel listed a w) : wpAnyE P md ops Q S t fuel listed a w := h
theorem PlanE.take {i : Nat} {L : List Nat} {oi : Oper} {v : Value} {fuel : Nat} {listed : Array Bool} {a : Act} {w : World} (hi : ops[i]? = some oi) (hx : (Region.sinkB md ops t && Region.chainB md ops t && decide (ops.size = t + 1) && decide (i < t) && Region.noSelect ops && Region.free md ops listed i && (Region.ready md ops listed).contains i) = true)
    (hQ : ∀ c a w, Q (.panic c) (a.put oi.dst v) w → Q (.panic c) a w) (hy : YieldsIf P ops S oi v a) (inv : HeadInv md ops t listed) (hS : S w)
    (h : HeadInv md ops t (listed.setIfInBounds i true) → PlanE L P md ops Q S t fuel (listed.setIfInBounds i true) (a.put oi.dst v) w) : PlanE (i :: L) P md ops Q S t (fuel + 1) listed a w := by
  simp only [Bool.and_eq_true] at hx
  obtain ⟨⟨⟨⟨⟨⟨h1, h2⟩, h3⟩, h4⟩, h5⟩, h6⟩, h7⟩ := hx
  exact wpAnyE_take hi (by rw [h1, h2, h3, h4]; rfl) h5 h6 h7 hQ hy inv hS h
abbrev PlanH (L : List Nat) (P : Program) (md : Region.Mode) (ops : Array Oper) (Q : Exit → Act → World → Prop) (S : World → Prop) (fuel : Nat) (listed : Array Bool) (a : Act) (w : World) : Prop := wpAnyH P md ops Q S fuel listed a w
theorem planH (L : List Nat) {fuel : Nat} {listed : Array Bool} {a : Act} {w : World} (h : PlanH L P md ops Q S fuel listed a w) : wpAnyH P md ops Q S fuel listed a w := h
theorem PlanH.take {i : Nat} {L : List Nat} {oi : Oper} {v : Value} {fuel : Nat} {listed : Array Bool} {a : Act} {w : World} (hi : ops[i]? = some oi) (hx : (Region.noSelect ops && Region.free md ops listed i && (Region.ready md ops listed).contains i) = true)
    (hQ : ∀ c a w, Q (.panic c) (a.put oi.dst v) w → Q (.panic c) a w) (hy : YieldsIf P ops S oi v a) (hS : S w)
    (h : PlanH L P md ops Q S fuel (listed.setIfInBounds i true) (a.put oi.dst v) w) : PlanH (i :: L) P md ops Q S (fuel + 1) listed a w := by
  simp only [Bool.and_eq_true] at hx
  obtain ⟨⟨h5, h6⟩, h7⟩ := hx
  exact wpAnyH_take hi h5 h6 h7 hQ hy hS h
end
end Go.Proofs.Ytccailcjclbhlaa
/-! A region that draws its order, by what each operation leaves behind: a fact for each operation that all later operations keep; each makes blocks of its own. Operations that make memory and do not wait for each other need no branching. No condition, no program. -/
namespace Go.Proofs.Ytccailcjclbhlaa
open Go Go.RowKit
set_option linter.unusedSimpArgs false
set_option linter.unusedVariables false
/-- the frame with what the operations have yielded -/
def putAll (a0 : Act) : List (Option Tmp) → (Nat → Value) → Nat → Act
  | [], _, _ => a0
  | d :: r, X, i => (putAll a0 r X (i + 1)).put d (X i)
theorem put_comm {a : Act} {d e : Option Tmp} {v u : Value} (h : d = none ∨ d ≠ e) : (a.put d v).put e u = (a.put e u).put d v := by
  cases d with
  | none => rfl
  | some d =>
    cases e with
    | none => rfl
    | some e =>
      have hne : d ≠ e := by rcases h with h | h; cases h; exact fun x => h (by rw [x])
      simp only [Act.put]
      rw [Array.setIfInBounds_comm _ _ hne]
theorem put_put {a : Act} {d : Option Tmp} {v u : Value} : (a.put d v).put d u = a.put d u := by
  cases d with
  | none => rfl
  | some d => simp [Act.put]
def apartD : List (Option Tmp) → Bool
  | [] => true
  | d :: r => r.all (fun e => d == none || d != e) && apartD r
theorem putAll_congr (a0 : Act) : ∀ (D : List (Option Tmp)) (X Y : Nat → Value) (k : Nat), (∀ j, k ≤ j → X j = Y j) → putAll a0 D X k = putAll a0 D Y k
  | [], _, _, _, _ => rfl
  | d :: r, X, Y, k, h => by
    simp only [putAll]
    rw [h k (Nat.le_refl _), putAll_congr a0 r X Y (k + 1) (fun j hj => h j (by omega))]
def updX (X : Nat → Value) (i : Nat) (v : Value) : Nat → Value := fun j => if j = i then v else X j
theorem putAll_put (a0 : Act) : ∀ (D : List (Option Tmp)) (X : Nat → Value) (k i : Nat) (v : Value), apartD D = true → (h : i < D.length) → (putAll a0 D X k).put D[i] v = putAll a0 D (updX X (k + i) v) k
  | d :: r, X, k, 0, v, _, _ => by
    simp only [putAll, List.getElem_cons_zero, Nat.add_zero]
    rw [put_put]
    have h1 : updX X k v k = v := by simp [updX]
    rw [h1, putAll_congr a0 r (updX X k v) X (k + 1) (fun j hj => by unfold updX; rw [if_neg (by omega)])]
  | d :: r, X, k, i + 1, v, ha, h => by
    simp only [putAll, List.getElem_cons_succ]
    simp only [apartD, Bool.and_eq_true, List.all_eq_true, Bool.or_eq_true, beq_iff_eq, bne_iff_ne] at ha
    have hi : i < r.length := by simpa using h
    rw [put_comm (ha.1 r[i] (List.getElem_mem hi)), putAll_put a0 r X (k + 1) i v ha.2 hi]
    have h1 : updX X (k + (i + 1)) v k = X k := by unfold updX; rw [if_neg (by omega)]
    rw [h1, show k + 1 + i = k + (i + 1) by omega]
/-- what waits for what -/
def depsB (md : Region.Mode) (ops : Array Oper) (i j : Nat) : Bool := ((ops[i]?).map fun o => o.after.any fun e => Region.binds md e && e.on == j).getD false
def depsLow (md : Region.Mode) (ops : Array Oper) : Bool := (List.range ops.size).all fun i => ((ops[i]?).map fun o => o.guard.isNone && o.after.all fun e => !Region.binds md e || decide (e.on < i)).getD true
theorem put_same {a0 : Act} (t : Tmp) : a0.put (some t) (a0.tmps.getD t undef) = a0 := by
  simp only [Act.put]
  congr 1
  refine Array.ext (by simp) fun i h1 h2 => ?_
  rw [Array.getElem_setIfInBounds]
  split
  · subst_vars
    simp [Array.getD_eq_getD_getElem?, h2]
  · rfl
def initX (a0 : Act) (d : Option Tmp) : Value := match d with | some t => a0.tmps.getD t undef | none => undef
theorem put_init (a0 : Act) (d : Option Tmp) : a0.put d (initX a0 d) = a0 := by
  cases d with
  | none => rfl
  | some t => exact put_same t
theorem putAll_init (a0 : Act) : ∀ (D : List (Option Tmp)) (k : Nat), ∃ X : Nat → Value, putAll a0 D X k = a0
  | [], k => ⟨fun _ => undef, rfl⟩
  | d :: r, k => by
    obtain ⟨X, hX⟩ := putAll_init a0 r (k + 1)
    refine ⟨updX X k (initX a0 d), ?_⟩
    simp only [putAll]
    rw [putAll_congr a0 r _ X (k + 1) (fun j hj => by unfold updX; rw [if_neg (by omega)]), hX]
    unfold updX
    rw [if_pos rfl]
    exact put_init a0 d
section
variable {P : Program} {ops : Array Oper} {Q : Exit → Act → World → Prop} {md : Region.Mode}
/-- what is to be shown of one operation: it yields v, makes the blocks from lo to hi, and leaves the fact -/
def StepInv (P : Program) (md : Region.Mode) (ops : Array Oper) (Q : Exit → Act → World → Prop) (D : List (Option Tmp)) (F : Nat → Value → Nat → Nat → World → Prop) (S : World → Prop) (R : World → World → Prop) (a0 : Act) (i : Nat) (o : Oper) : Prop :=
  ∀ (X : Nat → Value) (L H : Nat → Nat) (w : World), S w → (∀ j, depsB md ops i j = true → F j (X j) (L j) (H j) w) → ∀ K : Act → World → Prop,
    (∀ a v lo hi w', a = (putAll a0 D X 0).put o.dst v → w.heap.size ≤ lo → lo ≤ hi → hi ≤ w'.heap.size → R w w' → S w' → F i v lo hi w' → K a w') → Oper.wp P o (putAll a0 D X 0) w K Q
def StepsInv (P : Program) (md : Region.Mode) (ops : Array Oper) (Q : Exit → Act → World → Prop) (D : List (Option Tmp)) (F : Nat → Value → Nat → Nat → World → Prop) (S : World → Prop) (R : World → World → Prop) (a0 : Act) : Nat → List Oper → Prop
  | _, [] => True
  | i, o :: r => StepInv P md ops Q D F S R a0 i o ∧ StepsInv P md ops Q D F S R a0 (i + 1) r
section
variable {D : List (Option Tmp)} {F : Nat → Value → Nat → Nat → World → Prop} {S : World → Prop} {R : World → World → Prop} {a0 : Act}
theorem stepsInv_at : ∀ (l : List Oper) (k i : Nat) (o : Oper), StepsInv P md ops Q D F S R a0 k l → l[i]? = some o → StepInv P md ops Q D F S R a0 (k + i) o
  | [], _, _, _, _, h => by cases h
  | x :: r, k, 0, o, hs, h => by simp only [List.getElem?_cons_zero, Option.some.injEq] at h; subst h; exact hs.1
  | x :: r, k, i + 1, o, hs, h => by
    have := stepsInv_at r (k + 1) i o hs.2 (by simpa using h)
    rw [show k + (i + 1) = k + 1 + i by omega]
    exact this
end
theorem getD_set_or {l : Array Bool} {i j : Nat} (h : (l.setIfInBounds i true).getD j false = true) : j = i ∨ l.getD j false = true := by
  by_cases hij : j = i
  · exact .inl hij
  · right
    simp only [Array.getD_eq_getD_getElem?, Array.getElem?_setIfInBounds] at h ⊢
    rw [if_neg (fun e => hij e.symm)] at h
    exact h
/-- the first t are listed, and no more -/
def tailL (t n : Nat) : Array Bool := (List.replicate t true ++ List.replicate (n - t) false).toArray
theorem tailL_of {t : Nat} {listed : Array Bool} (inv : HeadInv md ops t listed) (ht : t ≤ ops.size) (h : ∀ i, i < t → listed.getD i false = true) : listed = tailL t ops.size := by
  refine Array.ext (by simp [tailL, inv.size]; omega) fun i h1 h2 => ?_
  simp only [tailL, List.getElem_toArray, List.getElem_append, List.length_replicate, List.getElem_replicate]
  split
  · rename_i hlt
    have := h i hlt
    simpa [Array.getD_eq_getD_getElem?, h1] using this
  · have := inv.tail i (by omega) (by rw [← inv.size]; exact h1)
    simpa [Array.getD_eq_getD_getElem?, h1] using this
theorem least_ready (hlow : depsLow md ops = true) {listed : Array Bool} (hsz : listed.size = ops.size) (hr : Region.ready md ops listed = []) : ∀ m i, i ≤ m → i < ops.size → listed.getD i false = true := by
  have hl0 := hlow
  simp only [depsLow, List.all_eq_true, List.mem_range] at hl0
  intro m
  induction m with
  | zero =>
    intro i him hi
    obtain rfl : i = 0 := by omega
    cases hli : listed.getD 0 false with
    | true => rfl
    | false =>
      exfalso
      have h0 := hl0 0 hi
      rw [Array.getElem?_eq_getElem hi] at h0
      simp only [Option.map_some, Option.getD_some, Bool.and_eq_true, Array.all_eq_true_iff_forall_mem] at h0
      have : (0 : Nat) ∈ Region.ready md ops listed := by
        refine mem_ready.2 ⟨?_, ops[0], Array.getElem?_eq_getElem hi, fun e he hb => ?_⟩
        · simpa [Array.getD_eq_getD_getElem?, Array.getElem?_eq_getElem (show 0 < listed.size by omega)] using hli
        · have := h0.2 e he
          rw [hb] at this
          simp at this
      rw [hr] at this
      cases this
  | succ m ih =>
    intro i him hi
    rcases Nat.lt_or_ge i (m + 1) with h | h
    · exact ih i (by omega) hi
    obtain rfl : i = m + 1 := by omega
    cases hli : listed.getD (m + 1) false with
    | true => rfl
    | false =>
      exfalso
      have h0 := hl0 (m + 1) hi
      rw [Array.getElem?_eq_getElem hi] at h0
      simp only [Option.map_some, Option.getD_some, Bool.and_eq_true, Array.all_eq_true_iff_forall_mem] at h0
      have : (m + 1) ∈ Region.ready md ops listed := by
        refine mem_ready.2 ⟨?_, ops[m + 1], Array.getElem?_eq_getElem hi, fun e he hb => ?_⟩
        · simpa [Array.getD_eq_getD_getElem?, Array.getElem?_eq_getElem (show m + 1 < listed.size by omega)] using hli
        · have h3 := h0.2 e he
          rw [hb] at h3
          simp only [Bool.not_true, Bool.false_or, decide_eq_true_eq] at h3
          exact ih e.on (by omega) (by omega)
      rw [hr] at this
      cases this
theorem count_set {n i : Nat} {listed : Array Bool} (hsz : listed.size = n) (hi : i < n) (hun : listed.getD i true = false) :
    (List.range n).countP (fun j => !(listed.setIfInBounds i true).getD j false) + 1 = (List.range n).countP (fun j => !listed.getD j false) := by
  have hmem : i ∈ List.range n := List.mem_range.2 hi
  obtain ⟨s, t, hst2⟩ := List.append_of_mem hmem
  have hnd : (List.range n).Nodup := List.nodup_range
  rw [hst2] at hnd ⊢
  rw [List.countP_append, List.countP_append, List.countP_cons, List.countP_cons]
  have hi1 : (!(listed.setIfInBounds i true).getD i false) = false := by
    simp [Array.getD_eq_getD_getElem?, show i < listed.size by omega]
  have hi2 : (!listed.getD i false) = true := by
    simp only [Array.getD_eq_getD_getElem?, Array.getElem?_eq_getElem (show i < listed.size by omega), Option.getD_some] at hun ⊢
    simpa using hun
  have hs1 : ∀ l : List Nat, i ∉ l → l.countP (fun j => !(listed.setIfInBounds i true).getD j false) = l.countP (fun j => !listed.getD j false) := fun l hl => by
    refine List.countP_congr fun j hj => ?_
    have hji : j ≠ i := fun e => hl (e ▸ hj)
    simp only [Array.getD_eq_getD_getElem?, Array.getElem?_setIfInBounds, if_neg (fun e => hji e.symm : ¬ i = j)]
  have hn2 := List.nodup_append.1 hnd
  have hn3 := List.nodup_cons.1 hn2.2.1
  rw [hs1 s (fun h => hn2.2.2 i h i (List.mem_cons_self ..) rfl), hs1 t hn3.1, hi1, hi2]
  simp
  omega
def updN (X : Nat → Nat) (i : Nat) (v : Nat) : Nat → Nat := fun j => if j = i then v else X j
theorem wpAny_inv (t : Nat) (D : List (Option Tmp)) (F : Nat → Value → Nat → Nat → World → Prop) (S : World → Prop) (R : World → World → Prop) (a0 : Act)
    (hD : D = (ops.toList.take t).map (·.dst)) (hap : apartD D = true) (hlow : depsLow md ops = true) (hx : (Region.sinkB md ops t && Region.chainB md ops t && decide (t < ops.size)) = true)
    (hR : ∀ i v lo hi w w', F i v lo hi w → R w w' → F i v lo hi w') (hRs : ∀ w w', R w w' → w.heap.size ≤ w'.heap.size)
    (hst : StepsInv P md ops Q D F S R a0 0 (ops.toList.take t))
    (hend : ∀ (X : Nat → Value) (L H : Nat → Nat) (w : World), S w → (∀ i, i < t → F i (X i) (L i) (H i) w ∧ L i ≤ H i ∧ H i ≤ w.heap.size) → (∀ i j, i < t → j < t → i ≠ j → H i ≤ L j ∨ H j ≤ L i) → wpAny P md ops Q (ops.size - t) (tailL t ops.size) (putAll a0 D X 0) w) :
    ∀ (fuel : Nat) (listed : Array Bool) (X : Nat → Value) (L H : Nat → Nat) (w : World), HeadInv md ops t listed → (List.range ops.size).countP (fun i => !listed.getD i false) = fuel → S w →
      (∀ i, i < t → listed.getD i false = true → F i (X i) (L i) (H i) w ∧ L i ≤ H i ∧ H i ≤ w.heap.size) → (∀ i j, i < t → j < t → listed.getD i false = true → listed.getD j false = true → i ≠ j → H i ≤ L j ∨ H j ≤ L i) → wpAny P md ops Q fuel listed (putAll a0 D X 0) w := by
  simp only [Bool.and_eq_true, decide_eq_true_eq] at hx
  obtain ⟨⟨hs1, hc1⟩, htn⟩ := hx
  have hDl : D.length = t := by rw [hD]; simp; omega
  intro fuel
  induction fuel with
  | zero =>
    intro listed X L H w inv hc hS hF hP
    exfalso
    have h2 := List.countP_eq_zero.1 hc t (List.mem_range.2 htn)
    have h3 := getD_both (inv.tail t (Nat.le_refl _) htn)
    rw [h3] at h2
    exact h2 rfl
  | succ fuel ih =>
    intro listed X L H w inv hc hS hF hP
    by_cases hall : ∀ i, i < t → listed.getD i false = true
    · have e1 := tailL_of inv (by omega) hall
      have e2 : fuel + 1 = ops.size - t := by
        have h1 : (List.range ops.size).countP (fun i => !listed.getD i false) = (List.range ops.size).countP (fun i => decide (t ≤ i)) := by
          refine List.countP_congr fun j hj => ?_
          have hj' := List.mem_range.1 hj
          rcases Nat.lt_or_ge j t with h | h
          · rw [hall j h]; simp; omega
          · rw [getD_both (inv.tail j h hj')]; simp; exact h
        have h2 : ∀ m, t ≤ m → (List.range m).countP (fun i => decide (t ≤ i)) = m - t := by
          intro m hm
          induction m with
          | zero => simp
          | succ m ihm =>
            rw [List.range_succ, List.countP_append]
            rcases Nat.lt_or_ge m t with h | h
            · obtain rfl : t = m + 1 := by omega
              have h3 : (List.range m).countP (fun i => decide (m + 1 ≤ i)) = 0 := List.countP_eq_zero.2 fun i hi => by have := List.mem_range.1 hi; simp; omega
              rw [h3]; simp
            · rw [ihm h]; simp [h]; omega
        rw [← hc, h1, h2 _ (by omega)]
      rw [e2, e1]
      exact hend X L H w hS (fun i hi => hF i hi (hall i hi)) (fun i j hi hj => hP i j hi hj (hall i hi) (hall j hj))
    · obtain ⟨i0, hi0, hu0⟩ : ∃ i0, i0 < t ∧ listed.getD i0 false = false := by
        refine Classical.byContradiction fun hn => hall fun i hi => ?_
        cases hli : listed.getD i false with
        | true => rfl
        | false => exact absurd ⟨i, hi, hli⟩ hn
      have hu1 : listed.getD i0 true = false := by
        have : i0 < listed.size := by rw [inv.size]; omega
        simp only [Array.getD_eq_getD_getElem?, Array.getElem?_eq_getElem this, Option.getD_some] at hu0 ⊢
        exact hu0
      refine ⟨fun hr => ?_, fun i hi => ?_⟩
      · exfalso
        have := least_ready hlow inv.size hr i0 i0 (Nat.le_refl _) (by omega)
        rw [this] at hu0
        cases hu0
      have hit : i < t := by
        rcases Nat.lt_or_ge i t with h | h
        · exact h
        · exact absurd hi (tail_waits hs1 hc1 htn inv (t - i0) i0 rfl hi0 hu1 i h)
      obtain ⟨hun, o, ho, haft⟩ := mem_ready.1 hi
      have hil : i < ops.size := by omega
      have hst' := stepsInv_at (ops.toList.take t) 0 i o hst (by rw [List.getElem?_take, if_pos hit]; simpa using ho)
      rw [Nat.zero_add] at hst'
      refine wpOp_step ho (fun K hK => ?_)
      have hl0 := hlow
      simp only [depsLow, List.all_eq_true, List.mem_range] at hl0
      have h0 := hl0 i hil
      rw [ho] at h0
      simp only [Option.map_some, Option.getD_some, Bool.and_eq_true, Array.all_eq_true_iff_forall_mem] at h0
      have hg : o.guard = none := by simpa using h0.1
      have hw : Region.wanted o (yielded ops (putAll a0 D X 0).tmps) = true := by simp [Region.wanted, hg]
      rw [if_pos hw]
      refine hst' X L H w hS (fun j hj => ?_) K (fun a v lo hi' w' ha hlo1 hlo2 hlo3 hRw hS' hFi => hK a w' ?_)
      · simp only [depsB, ho, Option.map_some, Option.getD_some, Array.any_eq_true', Bool.and_eq_true, beq_iff_eq] at hj
        obtain ⟨e, he, hb, rfl⟩ := hj
        have h3 := h0.2 e he
        rw [hb] at h3
        simp only [Bool.not_true, Bool.false_or, decide_eq_true_eq] at h3
        exact (hF e.on (by omega) (haft e he hb)).1
      · have hDi : D[i]'(by omega) = o.dst := by
          subst hD
          have : ops[i] = o := by rw [Array.getElem?_eq_getElem hil] at ho; exact Option.some.inj ho
          simp [this]
        have hsz := hRs w w' hRw
        rw [ha, ← hDi, putAll_put a0 D X 0 i v hap (by omega), Nat.zero_add]
        have hcn := count_set (n := ops.size) inv.size hil hun
        refine ih _ (updX X i v) (updN L i lo) (updN H i hi') w' (inv.set hi hit) (by omega) hS' (fun j hjt hj => ?_) (fun j k hjt hkt hj hk hne => ?_)
        · by_cases hji : j = i
          · subst hji
            simp only [updX, updN, if_true]
            exact ⟨hFi, hlo2, hlo3⟩
          · simp only [updX, updN, if_neg hji]
            obtain ⟨h4, h5, h6⟩ := hF j hjt ((getD_set_or hj).resolve_left hji)
            exact ⟨hR j (X j) _ _ w w' h4 hRw, h5, by omega⟩
        · unfold updN
          by_cases hji : j = i
          · subst hji
            have hkj : ¬ k = j := fun e => hne e.symm
            rw [if_pos rfl, if_neg hkj, if_pos rfl, if_neg hkj]
            obtain ⟨_, h5, h6⟩ := hF k hkt ((getD_set_or hk).resolve_left hkj)
            exact .inr (by omega)
          · by_cases hki : k = i
            · subst hki
              rw [if_neg hji, if_pos rfl, if_pos rfl, if_neg hji]
              obtain ⟨_, h5, h6⟩ := hF j hjt ((getD_set_or hj).resolve_left hji)
              exact .inl (by omega)
            · rw [if_neg hji, if_neg hki, if_neg hki, if_neg hji]
              exact hP j k hjt hkt ((getD_set_or hj).resolve_left hji) ((getD_set_or hk).resolve_left hki) hne
theorem wp_region_inv {id : Nat} {a0 : Act} {w : World} (t : Nat) (hm : P.follows .mixedOrders = true) (D : List (Option Tmp)) (F : Nat → Value → Nat → Nat → World → Prop) (S : World → Prop) (R : World → World → Prop)
    (hD : D = (ops.toList.take t).map (·.dst)) (hap : apartD D = true) (hlow : depsLow .any ops = true) (hx : (Region.sinkB .any ops t && Region.chainB .any ops t && decide (t < ops.size)) = true)
    (hR : ∀ i v lo hi w w', F i v lo hi w → R w w' → F i v lo hi w') (hRs : ∀ w w', R w w' → w.heap.size ≤ w'.heap.size) (hS : S w.drew)
    (hst : StepsInv P .any ops Q D F S R a0 0 (ops.toList.take t))
    (hend : ∀ (X : Nat → Value) (L H : Nat → Nat) (w : World), S w → (∀ i, i < t → F i (X i) (L i) (H i) w ∧ L i ≤ H i ∧ H i ≤ w.heap.size) → (∀ i j, i < t → j < t → i ≠ j → H i ≤ L j ∨ H j ≤ L i) → wpAny P .any ops Q (ops.size - t) (tailL t ops.size) (putAll a0 D X 0) w) :
    (Code.region id ops true).wp P Q a0 w := by
  obtain ⟨X, hX⟩ := putAll_init a0 D 0
  refine wp_region_any hm ?_
  have hrep : ∀ i, (Array.replicate ops.size false).getD i false = false := fun i => by
    simp only [Array.getD_eq_getD_getElem?, Array.getElem?_replicate]
    split <;> rfl
  have := wpAny_inv (md := .any) t D F S R a0 hD hap hlow hx hR hRs hst hend ops.size (Array.replicate ops.size false) X (fun _ => 0) (fun _ => 0) w.drew
    ⟨by simp, fun j oj _ hl => (by rw [hrep] at hl; cases hl), fun k hk hk' => (by simp [Array.getD_eq_getD_getElem?, hk'])⟩
    (by
      have h1 : (List.range ops.size).countP (fun i => !(Array.replicate ops.size false).getD i false) = (List.range ops.size).length := List.countP_eq_length.2 fun i _ => by rw [hrep]; rfl
      rw [h1]; simp) hS
    (fun i _ hi => by rw [hrep] at hi; cases hi) (fun i j _ _ hi => by rw [hrep] at hi; cases hi)
  rw [hX] at this
  exact this
end
end Go.Proofs.Ytccailcjclbhlaa
