/-
  Costs turned by heights: what john.Flat looks at, as lists. No program here.
-/
import Derived.Test.YtcehdpeeaogpiaaNetL
import Derived.Test.YtcehdpeeaogpiaaPlainB
import Derived.Test.YtcehdpeeaogpiaaMinMax
namespace Go.Proofs.Ytcehdpeeaogpiaa
def flE (f : Nat → Int) (e : Ed) : Ed := ⟨e.u, e.v, e.c + f e.u.toNat - f e.v.toNat⟩
def flK (f : Nat → Int) (es : List Ed) (k : Nat) : List Ed := (es.take k).map (flE f) ++ es.drop k
theorem flK_len (f : Nat → Int) (es : List Ed) (k : Nat) : (flK f es k).length = es.length := by simp [flK]; omega
theorem flK_zero (f : Nat → Int) (es : List Ed) : flK f es 0 = es := by simp [flK]
theorem flK_all (f : Nat → Int) (es : List Ed) : flK f es es.length = es.map (flE f) := by simp [flK]
theorem flK_get (f : Nat → Int) (es : List Ed) (k : Nat) (h : k < es.length) (h2 : k < (flK f es k).length) : (flK f es k)[k] = es[k] := by
  have e : (flK f es k)[k]? = es[k]? := by
    unfold flK
    rw [List.getElem?_append_right (by simp; omega)]
    simp [List.getElem?_drop, Nat.min_eq_left (Nat.le_of_lt h)]
  rw [List.getElem?_eq_getElem h2, List.getElem?_eq_getElem h] at e
  exact Option.some.inj e
theorem flK_set (f : Nat → Int) (es : List Ed) (k : Nat) (h : k < es.length) : (flK f es k).set k (flE f es[k]) = flK f es (k + 1) := by
  unfold flK
  rw [List.set_append_right _ _ (by simp; omega)]
  simp only [List.length_map, List.length_take, Nat.min_eq_left (Nat.le_of_lt h), Nat.sub_self]
  rw [List.drop_eq_getElem_cons h, List.set_cons_zero, List.take_succ_eq_append_getElem h, List.map_append, List.append_assoc]
  rfl
/-- one edge's fault, the first edge's fault -/
def flErr1 (c : Int) : Int := if c < 0 then 4 else if 10000 < c then 2 else 0
def flErr : List Ed → Int | [] => 0 | e :: r => if flErr1 e.c ≠ 0 then flErr1 e.c else flErr r
theorem flErr_hit {es : List Ed} {k : Nat} (h : k < es.length) (q : flErr1 es[k].c ≠ 0) : flErr (es.drop k) = flErr1 es[k].c := by
  rw [List.drop_eq_getElem_cons h, flErr, if_pos q]
theorem flErr_miss {es : List Ed} {k : Nat} (h : k < es.length) (q : flErr1 es[k].c = 0) : flErr (es.drop k) = flErr (es.drop (k + 1)) := by
  rw [List.drop_eq_getElem_cons h, flErr, if_neg (by simp [q])]
def lErr : List Int → Int | [] => 0 | x :: r => if x < -1000000 ∨ 1000000 < x then 1 else lErr r
theorem lErr_hit {h : List Int} {k : Nat} (hk : k < h.length) (q : h[k] < -1000000 ∨ 1000000 < h[k]) : lErr (h.drop k) = 1 := by
  rw [List.drop_eq_getElem_cons hk, lErr, if_pos q]
theorem lErr_miss {h : List Int} {k : Nat} (hk : k < h.length) (q : ¬ (h[k] < -1000000 ∨ 1000000 < h[k])) : lErr (h.drop k) = lErr (h.drop (k + 1)) := by
  rw [List.drop_eq_getElem_cons hk, lErr, if_neg q]
theorem lErr_all : ∀ {h : List Int}, lErr h = 0 ↔ ∀ x ∈ h, -1000000 ≤ x ∧ x ≤ 1000000
  | [] => by simp [lErr]
  | y :: r => by
    unfold lErr
    split
    · rename_i q
      constructor
      · intro h; omega
      · intro h; have := h y (by simp); omega
    · rename_i q
      rw [lErr_all]
      constructor
      · intro h x hx
        rcases List.mem_cons.1 hx with rfl | hx
        · omega
        · exact h x hx
      · intro h x hx; exact h x (List.mem_cons_of_mem _ hx)
theorem lErr_minmax {h : List Int} (h0 : 0 < h.length) : lErr h = 0 ↔ -1000000 ≤ minL h ∧ maxL h ≤ 1000000 := by
  rw [lErr_all, minL_le h0, maxL_ge h0]
  constructor
  · intro q; exact ⟨fun x hx => (q x hx).1, fun x hx => (q x hx).2⟩
  · intro q x hx; exact ⟨q.1 x hx, q.2 x hx⟩
def lAt (h : List Int) (i : Nat) : Int := h.getD i 0
theorem li_lAt (h : List Int) : LI h.length (lAt h) = h := by
  apply List.ext_getElem
  · simp [LI]
  · intro i h1 h2
    rw [li_get]
    simp [lAt, List.getD, List.getElem?_eq_getElem h2]
theorem lAt_range {h : List Int} (q : lErr h = 0) (i : Nat) : -1000000 ≤ lAt h i ∧ lAt h i ≤ 1000000 := by
  unfold lAt
  rw [List.getD]
  cases e : h[i]? with
  | none => simp
  | some x => exact lErr_all.1 q x (List.mem_of_getElem? e)
end Go.Proofs.Ytcehdpeeaogpiaa
