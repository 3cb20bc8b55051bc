/-
  The table of the edges from each place, kept while other blocks are written; what star.Search makes at its start. No condition.
-/
import Derived.Test.YtcehdpeeaogpiaaStarX
import Derived.Test.YtcehdpeeaogpiaaStarZ
import Derived.Test.YtcehdpeeaogpiaaDijkO
namespace Go.Proofs.Ytcehdpeeaogpiaa
open Go.RowKit
set_option linter.unusedSimpArgs false
set_option linter.unusedVariables false
/-- the table of the edges from each place stands in the blocks from lo to hi -/
def OutsAt (wr : World) (lo hi O n : Nat) (es : List Ed) : Prop :=
  ∃ w1 : World, w1.heap.size = hi ∧ Own2 encI 1 29 3 w1 lo (.slice (some ⟨O, 0, none⟩) n n) (outRows n es es.length) ∧ hi ≤ wr.heap.size ∧ ∀ k, lo ≤ k → k < hi → wr.heap[k]? = w1.heap[k]?
section
variable {wr w' : World} {lo hi O n : Nat} {es : List Ed}
theorem OutsAt.made (h : Own2 encI 1 29 3 wr lo (.slice (some ⟨O, 0, none⟩) n n) (outRows n es es.length)) : OutsAt wr lo wr.heap.size O n es := ⟨wr, rfl, h, Nat.le_refl _, fun _ _ _ => rfl⟩
theorem OutsAt.later {S : Nat → Prop} (h : OutsAt wr lo hi O n es) (hk : Keep S wr w') (hS : ∀ k, lo ≤ k → k < hi → ¬ S k) : OutsAt w' lo hi O n es := by
  obtain ⟨w1, h1, h2, h3, h4⟩ := h
  exact ⟨w1, h1, h2, Nat.le_trans h3 hk.size, fun k a b => (hk.block k (by omega) (hS k a b)).trans (h4 k a b)⟩
theorem OutsAt.stays (h : OutsAt wr lo hi O n es) (hb : Below wr.heap.size wr w') : OutsAt w' lo hi O n es :=
  h.later (Keep.new (S := fun _ => False) hb) (fun _ _ _ h => h)
theorem OutsAt.alloc (h : OutsAt wr lo hi O n es) (o : Obj) : OutsAt (wr.alloc o) lo hi O n es := h.stays ((Below.refl _ _).alloc (Nat.le_refl _) o)
theorem OutsAt.drew (h : OutsAt wr lo hi O n es) : OutsAt wr.drew lo hi O n es := h
/-- a place's own row -/
theorem OutsAt.row (h : OutsAt wr lo hi O n es) (u : Nat) (hu : u < n) : ∃ av cv, wr.cell? ⟨O, u, none⟩ = some (.slice av (outIdx es u es.length).length cv) ∧ lo ≤ O ∧ O < hi ∧ hi ≤ wr.heap.size ∧
    Own encI 1 3 wr lo (.slice av (outIdx es u es.length).length cv) (outIdx es u es.length) ∧ ∀ k, (Value.slice av (outIdx es u es.length).length cv).ownBlock = some k → lo ≤ k ∧ k < hi := by
  obtain ⟨w1, h1, h2, h3, h4⟩ := h
  have hul : u < (outRows n es es.length).length := by rw [outRows_len]; exact hu
  obtain ⟨av, cv, r0, rown, _⟩ := h2.at u hul
  rw [outRows_get] at r0 rown
  have hO : lo ≤ O ∧ O < w1.heap.size := by obtain ⟨vs, _, h5, _⟩ := h2; exact h5.at_base
  refine ⟨av, cv, ?_, hO.1, by omega, h3, ?_, fun k hk => by have := rown.block_lt k hk; omega⟩
  · rw [World.cell?_of_block (w := w1) (h4 O hO.1 (by omega))]; exact r0
  · refine ⟨rown.1, ?_⟩
    rcases rown.2 with hn | ⟨g, cap, cur, hv, hg, hh, r⟩
    · exact .inl hn
    · refine .inr ⟨g, cap, cur, hv, hg, ?_, r⟩
      rw [h4 g hg (by have := (Array.getElem?_eq_some_iff.1 hh).1; omega)]
      exact hh
end
theorem below_made {w w' : World} {o : Obj} (h : w' = w.alloc o) : Below w.heap.size w w' := by rw [h]; exact (Below.refl _ _).alloc (Nat.le_refl _) _
theorem cell_top (w : World) (A : Array Value) (t : TypeId) (k : Nat) (v : Value) (h : A[k]? = some v) : (w.alloc (.cells A t)).cell? ⟨w.heap.size, k, none⟩ = some v := by
  simp [go_sem, h]
/-- what Search makes at its start -/
structure SMade (w0 : World) (n : Nat) (es : List Ed) (hv kf : Value) (sb gc gp gd gh O lo hi : Nat) (wx : World) : Prop where
  c2 : wx.cell? ⟨sb, 2, none⟩ = some (.slice (some ⟨O, 0, none⟩) n n)
  c3 : wx.cell? ⟨sb, 3, none⟩ = some hv
  c4 : wx.cell? ⟨sb, 4, none⟩ = some (.slice (some ⟨gc, 0, none⟩) n n)
  c5 : wx.cell? ⟨sb, 5, none⟩ = some (.slice (some ⟨gp, 0, none⟩) n n)
  c6 : wx.cell? ⟨sb, 6, none⟩ = some (.slice (some ⟨gd, 0, none⟩) n n)
  c7 : wx.cell? ⟨sb, 7, none⟩ = some (.pointer (some ⟨gh, 0, none⟩))
  c8 : wx.cell? ⟨sb, 8, none⟩ = some kf
  cost : Own encI 1 3 wx w0.heap.size (.slice (some ⟨gc, 0, none⟩) n n) (LI n (fun _ => 0))
  pred : Own encI 1 3 wx w0.heap.size (.slice (some ⟨gp, 0, none⟩) n n) (LI n (fun _ => 0))
  done : Own encB 1 4 wx w0.heap.size (.slice (some ⟨gd, 0, none⟩) n n) (ordB n [])
  heap : HeapT wx gh gh (.func (.func 139) #[] #[]) (.slice none 0 0) 0 (fun _ => ⟨0, 0, 0⟩)
  outs : OutsAt wx lo hi O n es
  below : Below w0.heap.size w0 wx
  low : w0.heap.size ≤ sb ∧ w0.heap.size ≤ gh
  lt : sb < wx.heap.size ∧ gh < wx.heap.size
  ne : sb ≠ gc ∧ sb ≠ gp ∧ sb ≠ gd ∧ sb ≠ gh ∧ gc ≠ gp ∧ gc ≠ gd ∧ gc ≠ gh ∧ gp ≠ gd ∧ gp ≠ gh ∧ gd ≠ gh
  dis : (gc < lo ∨ hi ≤ gc) ∧ (gp < lo ∨ hi ≤ gp) ∧ (gd < lo ∨ hi ≤ gd) ∧ (gh < lo ∨ hi ≤ gh)
/-- what each operation of its first statement leaves -/
def FSt (w0 : World) (n : Nat) (es : List Ed) (ng hv kf : Value) (bw : Nat) : Nat → Value → Nat → Nat → World → Prop
  | 0, v, _, _, _ => v = ng
  | 1, v, _, _, _ => v = ng
  | 2, v, lo, hi, w => ∃ O, v = .slice (some ⟨O, 0, none⟩) n n ∧ OutsAt w lo hi O n es
  | 3, v, _, _, _ => v = hv
  | 4, v, _, _, _ => v = .pointer (some ⟨bw, 0, none⟩)
  | 5, v, _, _, _ => v = .int .i64 (n : Int)
  | 6, v, lo, hi, w => v = .slice (some ⟨lo, 0, none⟩) n n ∧ lo < hi ∧ Own encI 1 3 w w0.heap.size (.slice (some ⟨lo, 0, none⟩) n n) (LI n (fun _ => 0))
  | 7, v, _, _, _ => v = .pointer (some ⟨bw, 0, none⟩)
  | 8, v, _, _, _ => v = .int .i64 (n : Int)
  | 9, v, lo, hi, w => v = .slice (some ⟨lo, 0, none⟩) n n ∧ lo < hi ∧ Own encI 1 3 w w0.heap.size (.slice (some ⟨lo, 0, none⟩) n n) (LI n (fun _ => 0))
  | 10, v, _, _, _ => v = .pointer (some ⟨bw, 0, none⟩)
  | 11, v, _, _, _ => v = .int .i64 (n : Int)
  | 12, v, lo, hi, w => v = .slice (some ⟨lo, 0, none⟩) n n ∧ lo < hi ∧ Own encB 1 4 w w0.heap.size (.slice (some ⟨lo, 0, none⟩) n n) (ordB n [])
  | 13, v, lo, hi, w => v = .pointer (some ⟨lo, 0, none⟩) ∧ lo < hi ∧ w0.heap.size ≤ lo ∧ HeapT w lo lo (.func (.func 139) #[] #[]) (.slice none 0 0) 0 (fun _ => ⟨0, 0, 0⟩)
  | 14, v, _, _, _ => v = kf
  | _, _, _, _, _ => True
theorem fst_stays {w0 : World} {n : Nat} {es : List Ed} {ng hv kf : Value} {bw : Nat} : ∀ (i : Nat) (v : Value) (lo hi : Nat) (w w' : World), FSt w0 n es ng hv kf bw i v lo hi w → Below w.heap.size w w' → FSt w0 n es ng hv kf bw i v lo hi w'
  | 0, _, _, _, _, _, h, _ => h
  | 1, _, _, _, _, _, h, _ => h
  | 2, _, _, _, _, _, ⟨O, h1, h2⟩, hb => ⟨O, h1, h2.stays hb⟩
  | 3, _, _, _, _, _, h, _ => h
  | 4, _, _, _, _, _, h, _ => h
  | 5, _, _, _, _, _, h, _ => h
  | 6, _, _, _, _, _, ⟨h1, h2, h3⟩, hb => ⟨h1, h2, h3.stays hb⟩
  | 7, _, _, _, _, _, h, _ => h
  | 8, _, _, _, _, _, h, _ => h
  | 9, _, _, _, _, _, ⟨h1, h2, h3⟩, hb => ⟨h1, h2, h3.stays hb⟩
  | 10, _, _, _, _, _, h, _ => h
  | 11, _, _, _, _, _, h, _ => h
  | 12, _, _, _, _, _, ⟨h1, h2, h3⟩, hb => ⟨h1, h2, h3.stays hb⟩
  | 13, _, _, _, _, _, ⟨h1, h2, h3, h4⟩, hb => ⟨h1, h2, h3, h4.stays hb⟩
  | 14, _, _, _, _, _, h, _ => h
  | _ + 15, _, _, _, _, _, _, _ => trivial
def MidS (w0 : World) (n : Nat) (es : List Ed) (hv kf : Value) (s12 : Value) (wx : World) : Prop :=
  ∃ sb gc gp gd gh O lo hi, s12 = .pointer (some ⟨sb, 0, none⟩) ∧ SMade w0 n es hv kf sb gc gp gd gh O lo hi wx
/-- a place's own edges -/
theorem todo_filter {n : Nat} {es : List Ed} (hR : Right n es) (v : Nat) : todoOf es v 0 = (nes es).filter fun e => decide (e.u = v) := by
  have key : ∀ k, k ≤ es.length → (outIdx es v k).map (edAt es) = (nes (es.take k)).filter fun e => decide (e.u = v) := by
    intro k
    induction k with
    | zero => intro _; simp [outIdx, nes]
    | succ k ih =>
      intro hk
      obtain ⟨u, x, h1, h2, h3, h4, h5⟩ := right_edgeK hR k (by omega)
      rw [outIdx_succ, List.map_append, ih (by omega), h5.2.2, List.filter_append]
      congr 1
      have e : (es.map (·.u)).getD k (-1) = (u : Int) := by simp [List.getD, List.getElem?_eq_getElem (show k < es.length by omega), h1]
      rw [e]
      by_cases h : u = v
      · subst h
        rw [if_pos rfl]
        simp [edAt_is (show k < es.length by omega) h1 h2]
      · rw [if_neg (by omega)]
        simp [h]
  have := key es.length (Nat.le_refl _)
  rw [List.take_length] at this
  unfold todoOf
  rw [List.drop_zero]
  exact this
/-- where a search begins -/
def s00 : SR := ⟨fun _ => FAR, fun _ => -1, []⟩
def sStart (h : Nat → Int) (v : Nat) : SR := if h v = FAR then s00 else ⟨upz (fun _ => FAR) v 0, fun _ => -1, []⟩
theorem upz_own {α : Type} (f : Nat → α) (v : Nat) : upz f v (f v) = f := by
  funext u
  unfold upz
  split
  · subst_vars; rfl
  · rfl
theorem SMade.sx {w0 wx : World} {n : Nat} {es : List Ed} {hv kf : Value} {sb gc gp gd gh O lo hi : Nat} (h : SMade w0 n es hv kf sb gc gp gd gh O lo hi wx) :
    SX w0.heap.size n sb gc gp gd gh (.slice (some ⟨O, 0, none⟩) n n) hv kf (.slice none 0 0) 0 (fun _ => ⟨0, 0, 0⟩) ⟨fun _ => 0, fun _ => 0, []⟩ wx wx :=
  ⟨h.c2, h.c3, h.c4, h.c5, h.c6, h.c7, h.c8, h.cost, h.pred, h.done, h.heap, Keep.refl _ _, fun j hj => by simp [Value.ownBlock] at hj, ⟨h.lt.1, h.cost.at_base.2, h.pred.at_base.2, h.done.at_base.2, h.lt.2⟩, h.ne⟩
theorem own_rowL {e : TypeId} {w : World} {base n c : Nat} {a : Option Addr} {xs : List Int} (h : Own encI 1 e w base (.slice a n c) xs) : Row encI 1 w w.heap.size a xs := by
  obtain ⟨a', cap, hv, hr, _⟩ := h.row lenI
  simp only [Value.slice.injEq] at hv
  rw [hv.1]
  exact hr
def FoundNone : Value := .agg #[.slice none 0 0, .int .i64 0, .slice none 0 0]
/-- what a search answers -/
def FoundAns (key : Int → Int → Int) (E : List NE) (h : Nat → Int) (n to : Nat) (s0 : SR) (w : World) (e : Ending) (w' : World) : Prop :=
  ∃ o, SRun key E h n to s0 o ∧ Below w.heap.size w w' ∧ match o with
    | none => e = .returned (.tuple #[FoundNone, .int .i64 5])
    | some s => ∃ l a k b c, Chain s.pred to l ∧ e = .returned (.tuple #[.agg #[.slice a l.length k, .int .i64 (s.cost to), .slice b s.ord.length c], .int .i64 0]) ∧ Own encI 1 3 w' w.heap.size (.slice a l.length k) (LP l.reverse) ∧ Own encI 1 3 w' w.heap.size (.slice b s.ord.length c) (LP s.ord)
/-- what each operation of Search's answer leaves -/
def FBk (n sb gp gc tg : Nat) (cst : Int) (ol : Value) (l : List Nat) (b0 : Nat) : Nat → Value → Nat → Nat → World → Prop
  | 0, v, _, _, _ => v = .pointer (some ⟨sb, 0, none⟩)
  | 1, v, _, _, _ => v = .pointer (some ⟨sb, 0, none⟩)
  | 2, v, _, _, _ => v = .pointer (some ⟨sb, 5, none⟩)
  | 3, v, _, _, _ => v = .slice (some ⟨gp, 0, none⟩) n n
  | 4, v, _, _, _ => v = .int .i64 (tg : Int)
  | 5, v, _, _, _ => v = .pointer (some ⟨sb, 0, none⟩)
  | 6, v, _, _, _ => v = .pointer (some ⟨sb, 0, none⟩)
  | 7, v, _, _, _ => v = .pointer (some ⟨sb, 4, none⟩)
  | 8, v, _, _, _ => v = .slice (some ⟨gc, 0, none⟩) n n
  | 9, v, _, _, _ => v = .int .i64 (tg : Int)
  | 10, v, _, _, _ => v = .pointer (some ⟨gc, tg, none⟩)
  | 11, v, _, _, _ => v = .int .i64 cst
  | 12, v, _, _, w => ∃ a k, v = .agg #[.slice a l.length k, .int .i64 cst] ∧ Own encI 1 3 w b0 (.slice a l.length k) (LP l.reverse)
  | 13, v, _, _, _ => v = ol
  | _, _, _, _, _ => True
theorem fbk_stays {n sb gp gc tg : Nat} {cst : Int} {ol : Value} {l : List Nat} {b0 : Nat} : ∀ (i : Nat) (v : Value) (lo hi : Nat) (w w' : World), FBk n sb gp gc tg cst ol l b0 i v lo hi w → Below w.heap.size w w' → FBk n sb gp gc tg cst ol l b0 i v lo hi w'
  | 0, _, _, _, _, _, h, _ => h
  | 1, _, _, _, _, _, h, _ => h
  | 2, _, _, _, _, _, h, _ => h
  | 3, _, _, _, _, _, h, _ => h
  | 4, _, _, _, _, _, h, _ => h
  | 5, _, _, _, _, _, h, _ => h
  | 6, _, _, _, _, _, h, _ => h
  | 7, _, _, _, _, _, h, _ => h
  | 8, _, _, _, _, _, h, _ => h
  | 9, _, _, _, _, _, h, _ => h
  | 10, _, _, _, _, _, h, _ => h
  | 11, _, _, _, _, _, h, _ => h
  | 12, _, _, _, _, _, ⟨a, k, h1, h2⟩, hb => ⟨a, k, h1, h2.stays hb⟩
  | 13, _, _, _, _, _, h, _ => h
  | _ + 14, _, _, _, _, _, _, _ => trivial
end Go.Proofs.Ytcehdpeeaogpiaa
