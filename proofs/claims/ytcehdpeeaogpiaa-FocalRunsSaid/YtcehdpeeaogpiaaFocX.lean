/-
  What holds while a search by taste runs: its object, the three rows. No condition.
-/
import Derived.Test.YtcehdpeeaogpiaaFocP
import Derived.Test.YtcehdpeeaogpiaaStarX
namespace Go.Proofs.Ytcehdpeeaogpiaa
open Go.RowKit
set_option linter.unusedSimpArgs false
set_option linter.unusedVariables false
/-- the n first of a function as bools -/
def LB (n : Nat) (f : Nat → Bool) : List Bool := (List.range n).map f
theorem lb_len (n : Nat) (f : Nat → Bool) : (LB n f).length = n := by simp [LB]
theorem lb_set (n : Nat) (f : Nat → Bool) (i : Nat) (x : Bool) : (LB n f).set i x = LB n (upz f i x) := by
  refine List.ext_getElem (by simp [LB]) fun j h1 h2 => ?_
  simp only [LB, List.getElem_set, List.getElem_map, List.getElem_range]
  by_cases h : i = j
  · subst h; simp [upz_same]
  · rw [if_neg h, upz_other _ _ (fun e => h e.symm)]
theorem Own.atLB {e : TypeId} {w : World} {base g n c : Nat} {f : Nat → Bool} (h : Own encB 1 e w base (.slice (some ⟨g, 0, none⟩) n c) (LB n f)) (i : Nat) (hi : i < n) : w.cell? ⟨g, i, none⟩ = some (.bool (f i)) := by
  have := h.getB i (by rw [lb_len]; exact hi)
  simpa [LB] using this
theorem Own.setLB {e : TypeId} {w : World} {base g n c : Nat} {f : Nat → Bool} (h : Own encB 1 e w base (.slice (some ⟨g, 0, none⟩) n c) (LB n f)) (i : Nat) (hi : i < n) (x : Bool) : Own encB 1 e (w.setCell ⟨g, i, none⟩ (.bool x)) base (.slice (some ⟨g, 0, none⟩) n c) (LB n (upz f i x)) := by
  have := h.putB i (by rw [lb_len]; exact hi) x
  rwa [lb_set] at this
/-- the blocks that a search by taste writes -/
def FXb (gc gp gw : Nat) (j : Nat) : Prop := j = gc ∨ j = gp ∨ j = gw
/-- sb: the object; gc, gp, gw: costs, where from, waits; wS: the world right behind their making -/
structure FX (base n sb gc gp gw : Nat) (hv tv : Value) (ra rb : Int) (s : FR) (wS wr : World) : Prop where
  c0 : wr.cell? ⟨sb, 0, none⟩ = some hv
  c1 : wr.cell? ⟨sb, 1, none⟩ = some tv
  c2 : wr.cell? ⟨sb, 2, none⟩ = some (.slice (some ⟨gc, 0, none⟩) n n)
  c3 : wr.cell? ⟨sb, 3, none⟩ = some (.slice (some ⟨gp, 0, none⟩) n n)
  c4 : wr.cell? ⟨sb, 4, none⟩ = some (.slice (some ⟨gw, 0, none⟩) n n)
  c5 : wr.cell? ⟨sb, 5, none⟩ = some (.int .i64 ra)
  c6 : wr.cell? ⟨sb, 6, none⟩ = some (.int .i64 rb)
  cost : Own encI 1 3 wr base (.slice (some ⟨gc, 0, none⟩) n n) (LI n s.cost)
  pred : Own encI 1 3 wr base (.slice (some ⟨gp, 0, none⟩) n n) (LI n s.pred)
  wait : Own encB 1 4 wr base (.slice (some ⟨gw, 0, none⟩) n n) (LB n s.wt)
  keep : Keep (FXb gc gp gw) wS wr
  lt : sb < wS.heap.size ∧ gc < wS.heap.size ∧ gp < wS.heap.size ∧ gw < wS.heap.size
  ne : sb ≠ gc ∧ sb ≠ gp ∧ sb ≠ gw ∧ gc ≠ gp ∧ gc ≠ gw ∧ gp ≠ gw
section
variable {base n sb gc gp gw : Nat} {hv tv : Value} {ra rb : Int} {s : FR} {wS wr w' : World}
theorem FX.other (h : FX base n sb gc gp gw hv tv ra rb s wS wr) {T : Nat → Prop} (kp : Keep T wr w') (hT : ∀ j, T j → wS.heap.size ≤ j) : FX base n sb gc gp gw hv tv ra rb s wS w' := by
  have hl := h.lt
  have hn : ∀ j, j < wS.heap.size → ¬ T j := fun j hj hc => by have := hT j hc; omega
  exact ⟨kp.cu h.c0 (hn sb (by omega)), kp.cu h.c1 (hn sb (by omega)), kp.cu h.c2 (hn sb (by omega)), kp.cu h.c3 (hn sb (by omega)), kp.cu h.c4 (hn sb (by omega)), kp.cu h.c5 (hn sb (by omega)), kp.cu h.c6 (hn sb (by omega)),
    kp.own h.cost (fun j hj => hn j (by simp [Value.ownBlock] at hj; omega)), kp.own h.pred (fun j hj => hn j (by simp [Value.ownBlock] at hj; omega)), kp.own h.wait (fun j hj => hn j (by simp [Value.ownBlock] at hj; omega)),
    h.keep.trans2 kp (fun j hj => .inr (hT j hj)), h.lt, h.ne⟩
theorem FX.stays (h : FX base n sb gc gp gw hv tv ra rb s wS wr) (b : Below wr.heap.size wr w') : FX base n sb gc gp gw hv tv ra rb s wS w' :=
  h.other (T := fun _ => False) (Keep.new b) (fun j hj => hj.elim)
theorem FX.setC (h : FX base n sb gc gp gw hv tv ra rb s wS wr) (u : Nat) (hu : u < n) (x : Int) : FX base n sb gc gp gw hv tv ra rb { s with cost := upz s.cost u x } wS (wr.setCell ⟨gc, u, none⟩ (.int .i64 x)) := by
  have hl := h.lt
  have hn := h.ne
  have kp := (Keep.refl (fun j => j = gc) wr).setCell (p := ⟨gc, u, none⟩) (.inl rfl) (.int .i64 x)
  exact ⟨kp.cu h.c0 (by simp; omega), kp.cu h.c1 (by simp; omega), kp.cu h.c2 (by simp; omega), kp.cu h.c3 (by simp; omega), kp.cu h.c4 (by simp; omega), kp.cu h.c5 (by simp; omega), kp.cu h.c6 (by simp; omega),
    h.cost.setI u hu x, kp.own h.pred (fun j hj => by simp [Value.ownBlock] at hj; omega), kp.own h.wait (fun j hj => by simp [Value.ownBlock] at hj; omega), h.keep.setCell (.inl (.inl rfl)) _, h.lt, h.ne⟩
theorem FX.setP (h : FX base n sb gc gp gw hv tv ra rb s wS wr) (u : Nat) (hu : u < n) (x : Int) : FX base n sb gc gp gw hv tv ra rb { s with pred := upz s.pred u x } wS (wr.setCell ⟨gp, u, none⟩ (.int .i64 x)) := by
  have hl := h.lt
  have hn := h.ne
  have kp := (Keep.refl (fun j => j = gp) wr).setCell (p := ⟨gp, u, none⟩) (.inl rfl) (.int .i64 x)
  exact ⟨kp.cu h.c0 (by simp; omega), kp.cu h.c1 (by simp; omega), kp.cu h.c2 (by simp; omega), kp.cu h.c3 (by simp; omega), kp.cu h.c4 (by simp; omega), kp.cu h.c5 (by simp; omega), kp.cu h.c6 (by simp; omega),
    kp.own h.cost (fun j hj => by simp [Value.ownBlock] at hj; omega), h.pred.setI u hu x, kp.own h.wait (fun j hj => by simp [Value.ownBlock] at hj; omega), h.keep.setCell (.inl (.inr (.inl rfl))) _, h.lt, h.ne⟩
theorem FX.setW (h : FX base n sb gc gp gw hv tv ra rb s wS wr) (u : Nat) (hu : u < n) (x : Bool) : FX base n sb gc gp gw hv tv ra rb { s with wt := upz s.wt u x } wS (wr.setCell ⟨gw, u, none⟩ (.bool x)) := by
  have hl := h.lt
  have hn := h.ne
  have kp := (Keep.refl (fun j => j = gw) wr).setCell (p := ⟨gw, u, none⟩) (.inl rfl) (.bool x)
  exact ⟨kp.cu h.c0 (by simp; omega), kp.cu h.c1 (by simp; omega), kp.cu h.c2 (by simp; omega), kp.cu h.c3 (by simp; omega), kp.cu h.c4 (by simp; omega), kp.cu h.c5 (by simp; omega), kp.cu h.c6 (by simp; omega),
    kp.own h.cost (fun j hj => by simp [Value.ownBlock] at hj; omega), kp.own h.pred (fun j hj => by simp [Value.ownBlock] at hj; omega), h.wait.setLB u hu x, h.keep.setCell (.inl (.inr (.inr rfl))) _, h.lt, h.ne⟩
theorem FX.reord (h : FX base n sb gc gp gw hv tv ra rb s wS wr) (l : List Nat) : FX base n sb gc gp gw hv tv ra rb { s with ord := l } wS wr :=
  ⟨h.c0, h.c1, h.c2, h.c3, h.c4, h.c5, h.c6, h.cost, h.pred, h.wait, h.keep, h.lt, h.ne⟩
theorem FX.recost (h : FX base n sb gc gp gw hv tv ra rb s wS wr) (s' : FR) (h1 : LI n s.cost = LI n s'.cost) (h2 : LI n s.pred = LI n s'.pred) (h3 : LB n s.wt = LB n s'.wt) : FX base n sb gc gp gw hv tv ra rb s' wS wr :=
  ⟨h.c0, h.c1, h.c2, h.c3, h.c4, h.c5, h.c6, h1 ▸ h.cost, h2 ▸ h.pred, h3 ▸ h.wait, h.keep, h.lt, h.ne⟩
end
/-- the least among the k first places that wait: its value, and whether there is one -/
def lstF (h : Nat → Int) (s : FR) : Nat → Int × Bool
  | 0 => (0, false)
  | k + 1 => if s.wt k = true ∧ ((lstF h s k).2 = false ∨ fsum h s k < (lstF h s k).1) then (fsum h s k, true) else lstF h s k
theorem lstF_least (h : Nat → Int) (s : FR) : ∀ k, ((lstF h s k).2 = false ∧ ∀ v, v < k → s.wt v = false) ∨ ((lstF h s k).2 = true ∧ Least h k s (lstF h s k).1)
  | 0 => .inl ⟨rfl, fun v hv => by omega⟩
  | k + 1 => by
    have ih := lstF_least h s k
    rw [lstF]
    by_cases hw : s.wt k = true
    · by_cases hc : (lstF h s k).2 = false ∨ fsum h s k < (lstF h s k).1
      · rw [if_pos ⟨hw, hc⟩]
        right
        refine ⟨rfl, ⟨k, by omega, hw, rfl⟩, fun v hv hwv => ?_⟩
        rcases Nat.lt_or_ge v k with hvk | hvk
        · rcases ih with ⟨i1, i2⟩ | ⟨i1, i2⟩
          · rw [i2 v hvk] at hwv; cases hwv
          · rcases hc with hc | hc
            · rw [i1] at hc; cases hc
            · have := i2.2 v hvk hwv; simp only; omega
        · obtain rfl : v = k := by omega
          exact Int.le_refl _
      · rw [if_neg (fun x => hc x.2)]
        simp only [not_or, Bool.not_eq_false, Int.not_lt] at hc
        rcases ih with ⟨i1, i2⟩ | ⟨i1, i2⟩
        · rw [i1] at hc; cases hc.1
        · right
          obtain ⟨⟨u, u1, u2, u3⟩, i3⟩ := i2
          refine ⟨i1, ⟨u, by omega, u2, u3⟩, fun v hv hwv => ?_⟩
          rcases Nat.lt_or_ge v k with hvk | hvk
          · exact i3 v hvk hwv
          · obtain rfl : v = k := by omega
            exact hc.2
    · rw [if_neg (fun x => hw x.1)]
      have hwf : s.wt k = false := by simpa using hw
      rcases ih with ⟨i1, i2⟩ | ⟨i1, i2⟩
      · refine .inl ⟨i1, fun v hv => ?_⟩
        rcases Nat.lt_or_ge v k with hvk | hvk
        · exact i2 v hvk
        · obtain rfl : v = k := by omega
          exact hwf
      · right
        obtain ⟨⟨u, u1, u2, u3⟩, i3⟩ := i2
        refine ⟨i1, ⟨u, by omega, u2, u3⟩, fun v hv hwv => ?_⟩
        rcases Nat.lt_or_ge v k with hvk | hvk
        · exact i3 v hvk hwv
        · obtain rfl : v = k := by omega
          rw [hwf] at hwv; cases hwv
/-- the best among the k first, by step -/
def pstep (pl : Nat → Ed) (adm : Nat → Bool) (b : Int) (v : Nat) : Int := if adm v = true ∧ (b < 0 ∨ plLt (pl v) (pl b.toNat) = true) then (v : Int) else b
def pickF (pl : Nat → Ed) (adm : Nat → Bool) (l : List Nat) : Int := l.foldl (pstep pl adm) (-1)
theorem pick_filter (pl : Nat → Ed) (adm : Nat → Bool) : ∀ (l : List Nat) (b : Int), l.foldl (pstep pl adm) b = (l.filter adm).foldl (fstep pl) b
  | [], b => rfl
  | x :: r, b => by
    rw [List.foldl_cons, List.filter_cons]
    by_cases h : adm x = true
    · rw [if_pos h, List.foldl_cons, pick_filter pl adm r]
      congr 1
      unfold pstep fstep
      by_cases h2 : b < 0 ∨ plLt (pl x) (pl b.toNat) = true
      · rw [if_pos ⟨h, h2⟩, if_pos h2]
      · rw [if_neg (fun y => h2 y.2), if_neg h2]
    · rw [if_neg h, pick_filter pl adm r]
      congr 1
      unfold pstep
      rw [if_neg (fun y => h y.1)]
theorem pick_none (pl : Nat → Ed) (adm : Nat → Bool) (l : List Nat) (h : ∀ v ∈ l, adm v = false) : pickF pl adm l = -1 := by
  unfold pickF
  rw [pick_filter, List.filter_eq_nil_iff.2 (fun v hv => by rw [h v hv]; simp)]
  rfl
/-- picked out of all that wait, whatever list they stand in -/
theorem pick_is {h taste : Nat → Int} {r : P2} {n : Nat} {s : FR} {m : Int} (hr : 1 ≤ r.b ∧ r.b ≤ r.a) (hm : Least h n s m) (hm0 : 0 ≤ m) (adm : Nat → Bool) (l : List Nat) (hl : ∀ v, (v ∈ l ∧ adm v = true) ↔ (v < n ∧ Adm h r s m v)) :
    ∃ v : Nat, pickF (tpl taste h s) adm l = (v : Int) ∧ Pick h taste r n s v := by
  obtain ⟨⟨u, u1, u2, u3⟩, i3⟩ := id hm
  have hua : Adm h r s m u := ⟨u2, by rw [u3]; exact Int.mul_le_mul_of_nonneg_right hr.2 hm0⟩
  have hne : l.filter adm ≠ [] := fun e => by
    have h1 := (hl u).2 ⟨u1, hua⟩
    have : u ∈ l.filter adm := List.mem_filter.2 h1
    rw [e] at this; cases this
  obtain ⟨v, v1, v2, v3⟩ := firstR_mem (tpl taste h s) hne
  refine ⟨v, ?_, m, hm, ?_⟩
  · unfold pickF
    rw [pick_filter]
    exact v1
  · have h2 := (hl v).1 (List.mem_filter.1 v2)
    exact ⟨h2.1, h2.2, fun z hz hza => v3 z (List.mem_filter.2 ((hl z).2 ⟨hz, hza⟩))⟩
end Go.Proofs.Ytcehdpeeaogpiaa
