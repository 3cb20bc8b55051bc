/-
  What holds while a search runs: its object, the three rows, the heap. No condition.
-/
import Derived.Test.YtcehdpeeaogpiaaHeapTPop
import Derived.Test.YtcehdpeeaogpiaaStarPC
import Derived.Test.YtcehdpeeaogpiaaBase
namespace Go.Proofs.Ytcehdpeeaogpiaa
open Go.RowKit
set_option linter.unusedSimpArgs false
set_option linter.unusedVariables false
/-- the blocks that a search writes -/
def SXb (gc gp gd gh : Nat) (j : Nat) : Prop := j = gc ∨ j = gp ∨ j = gd ∨ j = gh
/-- which places were looked from -/
def ordB (n : Nat) (ord : List Nat) : List Bool := (List.range n).map fun v => decide (v ∈ ord)
theorem ordB_set (n : Nat) (ord : List Nat) {v : Nat} : (ordB n ord).set v true = ordB n (ord ++ [v]) := by
  unfold ordB
  refine List.ext_getElem (by simp) fun i h1 h2 => ?_
  simp only [List.getElem_set, List.getElem_map, List.getElem_range, List.mem_append, List.mem_singleton]
  by_cases hv : v = i
  · simp [hv]
  · have : ¬ i = v := fun e => hv e.symm
    simp [hv, this]
/-- sb: the object; gc, gp, gd: costs, where from, done; gh: the heap; wS: the world right behind their making -/
structure SX (base n sb gc gp gd gh : Nat) (ov hv kf v : Value) (k : Nat) (f : Nat → Ed) (s : SR) (wS wr : World) : Prop where
  c2 : wr.cell? ⟨sb, 2, none⟩ = some ov
  c3 : wr.cell? ⟨sb, 3, none⟩ = some hv
  c4 : wr.cell? ⟨sb, 4, none⟩ = some (.slice (some ⟨gc, 0, none⟩) n n)
  c5 : wr.cell? ⟨sb, 5, none⟩ = some (.slice (some ⟨gp, 0, none⟩) n n)
  c6 : wr.cell? ⟨sb, 6, none⟩ = some (.slice (some ⟨gd, 0, none⟩) n n)
  c7 : wr.cell? ⟨sb, 7, none⟩ = some (.pointer (some ⟨gh, 0, none⟩))
  c8 : wr.cell? ⟨sb, 8, none⟩ = some kf
  cost : Own encI 1 3 wr base (.slice (some ⟨gc, 0, none⟩) n n) (LI n s.cost)
  pred : Own encI 1 3 wr base (.slice (some ⟨gp, 0, none⟩) n n) (LI n s.pred)
  done : Own encB 1 4 wr base (.slice (some ⟨gd, 0, none⟩) n n) (ordB n s.ord)
  heap : HeapT wr gh gh (.func (.func 139) #[] #[]) v k f
  keep : Keep (SXb gc gp gd gh) wS wr
  hs : ∀ j, v.ownBlock = some j → wS.heap.size ≤ j
  lt : sb < wS.heap.size ∧ gc < wS.heap.size ∧ gp < wS.heap.size ∧ gd < wS.heap.size ∧ gh < wS.heap.size
  ne : sb ≠ gc ∧ sb ≠ gp ∧ sb ≠ gd ∧ sb ≠ gh ∧ gc ≠ gp ∧ gc ≠ gd ∧ gc ≠ gh ∧ gp ≠ gd ∧ gp ≠ gh ∧ gd ≠ gh
section
variable {base n sb gc gp gd gh : Nat} {ov hv kf v : Value} {k : Nat} {f : Nat → Ed} {s : SR} {wS wr w' : World}
theorem SX.stays (h : SX base n sb gc gp gd gh ov hv kf v k f s wS wr) (b : Below wr.heap.size wr w') : SX base n sb gc gp gd gh ov hv kf v k f s wS w' :=
  have hl := h.lt
  have hz := h.keep.size
  ⟨cu_below b h.c2 (by simp; omega), cu_below b h.c3 (by simp; omega), cu_below b h.c4 (by simp; omega), cu_below b h.c5 (by simp; omega), cu_below b h.c6 (by simp; omega), cu_below b h.c7 (by simp; omega), cu_below b h.c8 (by simp; omega),
    h.cost.stays b, h.pred.stays b, h.done.stays b, h.heap.stays b, h.keep.trans (Keep.new b), h.hs, h.lt, h.ne⟩
theorem SX.setC (h : SX base n sb gc gp gd gh ov hv kf v k f s wS wr) (u : Nat) (hu : u < n) (x : Int) : SX base n sb gc gp gd gh ov hv kf v k f { s with cost := upz s.cost u x } wS (wr.setCell ⟨gc, u, none⟩ (.int .i64 x)) := by
  have hl := h.lt
  have hn := h.ne
  have kp := (Keep.refl (fun j => j = gc) wr).setCell (p := ⟨gc, u, none⟩) (.inl rfl) (.int .i64 x)
  exact ⟨kp.cu h.c2 (by simp; omega), kp.cu h.c3 (by simp; omega), kp.cu h.c4 (by simp; omega), kp.cu h.c5 (by simp; omega), kp.cu h.c6 (by simp; omega), kp.cu h.c7 (by simp; omega), kp.cu h.c8 (by simp; omega),
    h.cost.setI u hu x, kp.own h.pred (fun j hj => by simp [Value.ownBlock] at hj; omega), kp.own h.done (fun j hj => by simp [Value.ownBlock] at hj; omega), h.heap.keep kp (by omega) (fun j hj => by have := h.hs j hj; omega), h.keep.setCell (.inl (.inl rfl)) _, h.hs, h.lt, h.ne⟩
theorem SX.setP (h : SX base n sb gc gp gd gh ov hv kf v k f s wS wr) (u : Nat) (hu : u < n) (x : Int) : SX base n sb gc gp gd gh ov hv kf v k f { s with pred := upz s.pred u x } wS (wr.setCell ⟨gp, u, none⟩ (.int .i64 x)) := by
  have hl := h.lt
  have hn := h.ne
  have kp := (Keep.refl (fun j => j = gp) wr).setCell (p := ⟨gp, u, none⟩) (.inl rfl) (.int .i64 x)
  exact ⟨kp.cu h.c2 (by simp; omega), kp.cu h.c3 (by simp; omega), kp.cu h.c4 (by simp; omega), kp.cu h.c5 (by simp; omega), kp.cu h.c6 (by simp; omega), kp.cu h.c7 (by simp; omega), kp.cu h.c8 (by simp; omega),
    kp.own h.cost (fun j hj => by simp [Value.ownBlock] at hj; omega), h.pred.setI u hu x, kp.own h.done (fun j hj => by simp [Value.ownBlock] at hj; omega), h.heap.keep kp (by omega) (fun j hj => by have := h.hs j hj; omega), h.keep.setCell (.inl (.inr (.inl rfl))) _, h.hs, h.lt, h.ne⟩
theorem SX.push (h : SX base n sb gc gp gd gh ov hv kf v k f s wS wr) {k' : Nat} {f' : Nat → Ed} (hp : HeapedT wr gh gh (.func (.func 139) #[] #[]) v k' f' w') : ∃ gs c, SX base n sb gc gp gd gh ov hv kf (.slice (some ⟨gs, 0, none⟩) k' c) k' f' s wS w' ∧ Keep (fun j => j = gh ∨ v.ownBlock = some j) wr w' ∧ (v.ownBlock = some gs ∨ wr.heap.size ≤ gs) := by
  obtain ⟨gs, c, h1, kp, h3⟩ := hp
  have hl := h.lt
  have hn := h.ne
  have hz := h.keep.size
  have hT : ∀ j, j < wS.heap.size → j ≠ gh → ¬ (j = gh ∨ v.ownBlock = some j) := fun j hj hne hc => by
    rcases hc with hc | hc
    · exact hne hc
    · have := h.hs j hc; omega
  refine ⟨gs, c, ⟨kp.cu h.c2 (hT sb (by omega) (by omega)), kp.cu h.c3 (hT sb (by omega) (by omega)), kp.cu h.c4 (hT sb (by omega) (by omega)), kp.cu h.c5 (hT sb (by omega) (by omega)), kp.cu h.c6 (hT sb (by omega) (by omega)), kp.cu h.c7 (hT sb (by omega) (by omega)), kp.cu h.c8 (hT sb (by omega) (by omega)),
    kp.own h.cost (fun j hj => hT j (by simp [Value.ownBlock] at hj; omega) (by simp [Value.ownBlock] at hj; omega)), kp.own h.pred (fun j hj => hT j (by simp [Value.ownBlock] at hj; omega) (by simp [Value.ownBlock] at hj; omega)), kp.own h.done (fun j hj => hT j (by simp [Value.ownBlock] at hj; omega) (by simp [Value.ownBlock] at hj; omega)),
    h1, h.keep.trans2 kp (fun j hj => ?_), fun j hj => ?_, h.lt, h.ne⟩, kp, h3⟩
  · rcases hj with hj | hj
    · exact .inl (.inr (.inr (.inr hj)))
    · exact .inr (h.hs j hj)
  · simp [Value.ownBlock] at hj
    subst hj
    rcases h3 with h3 | h3
    · exact h.hs _ h3
    · omega
theorem SX.setD (h : SX base n sb gc gp gd gh ov hv kf v k f s wS wr) (u : Nat) (hu : u < n) : SX base n sb gc gp gd gh ov hv kf v k f (look1 s u) wS (wr.setCell ⟨gd, u, none⟩ (.bool true)) := by
  have hl := h.lt
  have hn := h.ne
  have kp := (Keep.refl (fun j => j = gd) wr).setCell (p := ⟨gd, u, none⟩) (.inl rfl) (.bool true)
  have hd := h.done.putB u (by simp [ordB]; exact hu) true
  rw [ordB_set] at hd
  exact ⟨kp.cu h.c2 (by simp; omega), kp.cu h.c3 (by simp; omega), kp.cu h.c4 (by simp; omega), kp.cu h.c5 (by simp; omega), kp.cu h.c6 (by simp; omega), kp.cu h.c7 (by simp; omega), kp.cu h.c8 (by simp; omega),
    kp.own h.cost (fun j hj => by simp [Value.ownBlock] at hj; omega), kp.own h.pred (fun j hj => by simp [Value.ownBlock] at hj; omega), hd, h.heap.keep kp (by omega) (fun j hj => by have := h.hs j hj; omega), h.keep.setCell (.inl (.inr (.inr (.inl rfl)))) _, h.hs, h.lt, h.ne⟩
theorem SX.pop (h : SX base n sb gc gp gd gh ov hv kf v k f s wS wr) {gs c k' : Nat} {f' : Nat → Ed} (hv' : v.ownBlock = some gs) (h1 : HeapT w' gh gh (.func (.func 139) #[] #[]) (.slice (some ⟨gs, 0, none⟩) k' c) k' f') (kp : Keep (fun j => j = gh ∨ j = gs) wr w') : SX base n sb gc gp gd gh ov hv kf (.slice (some ⟨gs, 0, none⟩) k' c) k' f' s wS w' := by
  have hl := h.lt
  have hn := h.ne
  have hz := h.keep.size
  have hg := h.hs gs hv'
  have hT : ∀ j, j < wS.heap.size → j ≠ gh → ¬ (j = gh ∨ j = gs) := fun j hj hne hc => by omega
  exact ⟨kp.cu h.c2 (hT sb (by omega) (by omega)), kp.cu h.c3 (hT sb (by omega) (by omega)), kp.cu h.c4 (hT sb (by omega) (by omega)), kp.cu h.c5 (hT sb (by omega) (by omega)), kp.cu h.c6 (hT sb (by omega) (by omega)), kp.cu h.c7 (hT sb (by omega) (by omega)), kp.cu h.c8 (hT sb (by omega) (by omega)),
    kp.own h.cost (fun j hj => hT j (by simp [Value.ownBlock] at hj; omega) (by simp [Value.ownBlock] at hj; omega)), kp.own h.pred (fun j hj => hT j (by simp [Value.ownBlock] at hj; omega) (by simp [Value.ownBlock] at hj; omega)), kp.own h.done (fun j hj => hT j (by simp [Value.ownBlock] at hj; omega) (by simp [Value.ownBlock] at hj; omega)),
    h1, h.keep.trans2 kp (fun j hj => by
      rcases hj with hj | hj
      · exact .inl (.inr (.inr (.inr hj)))
      · exact .inr (by omega)), fun j hj => by simp [Value.ownBlock] at hj; omega, h.lt, h.ne⟩
theorem SX.other (h : SX base n sb gc gp gd gh ov hv kf v k f s wS wr) {T : Nat → Prop} (kp : Keep T wr w') (hT : ∀ j, T j → wS.heap.size ≤ j ∧ v.ownBlock ≠ some j) : SX base n sb gc gp gd gh ov hv kf v k f s wS w' := by
  have hl := h.lt
  have hn : ∀ j, j < wS.heap.size → ¬ T j := fun j hj hc => by have := (hT j hc).1; omega
  exact ⟨kp.cu h.c2 (hn sb (by omega)), kp.cu h.c3 (hn sb (by omega)), kp.cu h.c4 (hn sb (by omega)), kp.cu h.c5 (hn sb (by omega)), kp.cu h.c6 (hn sb (by omega)), kp.cu h.c7 (hn sb (by omega)), kp.cu h.c8 (hn sb (by omega)),
    kp.own h.cost (fun j hj => hn j (by simp [Value.ownBlock] at hj; omega)), kp.own h.pred (fun j hj => hn j (by simp [Value.ownBlock] at hj; omega)), kp.own h.done (fun j hj => hn j (by simp [Value.ownBlock] at hj; omega)),
    h.heap.keep kp (hn gh (by omega)) (fun j hj hc => (hT j hc).2 hj), h.keep.trans2 kp (fun j hj => .inr (hT j hj).1), h.hs, h.lt, h.ne⟩
theorem SX.recost (h : SX base n sb gc gp gd gh ov hv kf v k f s wS wr) (s' : SR) (h1 : LI n s.cost = LI n s'.cost) (h2 : LI n s.pred = LI n s'.pred) (h3 : s.ord = s'.ord) : SX base n sb gc gp gd gh ov hv kf v k f s' wS wr :=
  ⟨h.c2, h.c3, h.c4, h.c5, h.c6, h.c7, h.c8, h1 ▸ h.cost, h2 ▸ h.pred, h3 ▸ h.done, h.heap, h.keep, h.hs, h.lt, h.ne⟩
theorem SX.below (h : SX base n sb gc gp gd gh ov hv kf v k f s wS wr) {B : Nat} (hB : B ≤ wS.heap.size) (h1 : B ≤ gc) (h2 : B ≤ gp) (h3 : B ≤ gd) (h4 : B ≤ gh) : Below B wS wr :=
  h.keep.toBelow (fun j hj => by rcases hj with rfl | rfl | rfl | rfl <;> omega) hB
theorem SX.atD (h : SX base n sb gc gp gd gh ov hv kf v k f s wS wr) (u : Nat) (hu : u < n) : wr.cell? ⟨gd, u, none⟩ = some (.bool (decide (u ∈ s.ord))) := by
  have := h.done.getB u (by simp [ordB]; exact hu)
  simpa [ordB] using this
end
end Go.Proofs.Ytcehdpeeaogpiaa
