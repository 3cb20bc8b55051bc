/-
  What heur.Check looks at, as lists. No program here.
-/
import Derived.Test.YtjidomfnngdomaaLook
import Derived.Test.YtjidomfnngdomaaLI
import Derived.Test.YtjidomfnngdomaaMinMax
namespace Go.Proofs.Ytjidomfnngdomaa
def hErr : List Int → Int | [] => 0 | x :: r => if x < 0 ∨ 1099511627776 < x then 1 else hErr r
def eErr (f : Nat → Int) : List Ed → Int | [] => 0 | e :: r => if e.c + f e.v.toNat < f e.u.toNat then 7 else eErr f r
def hAt (h : List Int) (i : Nat) : Int := h.getD i 0
def guessErr (N : Int) (es : List Ed) (t : Int) (h : List Int) : Int :=
  if lookErr N es [t] ≠ 0 then lookErr N es [t] else if (h.length : Int) ≠ N then 1 else if hErr h ≠ 0 then 1 else if hAt h t.toNat ≠ 0 then 7 else eErr (hAt h) es
theorem li_hAt (h : List Int) : LI h.length (hAt h) = h := by
  apply List.ext_getElem
  · simp [LI]
  · intro i h1 h2
    rw [li_get]
    simp [hAt, List.getD, List.getElem?_eq_getElem h2]
theorem hErr_hit {h : List Int} {k : Nat} (hk : k < h.length) (q : h[k] < 0 ∨ 1099511627776 < h[k]) : hErr (h.drop k) = 1 := by
  rw [List.drop_eq_getElem_cons hk, hErr, if_pos q]
theorem hErr_miss {h : List Int} {k : Nat} (hk : k < h.length) (q : ¬ (h[k] < 0 ∨ 1099511627776 < h[k])) : hErr (h.drop k) = hErr (h.drop (k + 1)) := by
  rw [List.drop_eq_getElem_cons hk, hErr, if_neg q]
theorem hErr_all : ∀ {h : List Int}, hErr h = 0 ↔ ∀ x ∈ h, 0 ≤ x ∧ x ≤ 1099511627776
  | [] => by simp [hErr]
  | y :: r => by
    unfold hErr
    split
    · rename_i q
      constructor
      · intro h; omega
      · intro h; have := h y (by simp); omega
    · rename_i q
      rw [hErr_all]
      constructor
      · intro h x hx
        rcases List.mem_cons.1 hx with rfl | hx
        · omega
        · exact h x hx
      · intro h x hx; exact h x (List.mem_cons_of_mem _ hx)
theorem hErr_vals : ∀ (h : List Int), hErr h = 0 ∨ hErr h = 1
  | [] => .inl rfl
  | y :: r => by
    unfold hErr
    split
    · exact .inr rfl
    · exact hErr_vals r
theorem hErr_minmax {h : List Int} (h0 : 0 < h.length) : hErr h = 0 ↔ 0 ≤ minL h ∧ maxL h ≤ 1099511627776 := by
  rw [hErr_all, minL_le h0, maxL_ge h0]
  constructor
  · intro q; exact ⟨fun x hx => (q x hx).1, fun x hx => (q x hx).2⟩
  · intro q x hx; exact ⟨q.1 x hx, q.2 x hx⟩
theorem hAt_range {h : List Int} (q : hErr h = 0) (i : Nat) : 0 ≤ hAt h i ∧ hAt h i ≤ 1099511627776 := by
  unfold hAt
  rw [List.getD]
  cases e : h[i]? with
  | none => simp
  | some x => exact hErr_all.1 q x (List.mem_of_getElem? e)
theorem eErr_hit {f : Nat → Int} {es : List Ed} {k : Nat} (hk : k < es.length) (q : es[k].c + f es[k].v.toNat < f es[k].u.toNat) : eErr f (es.drop k) = 7 := by
  rw [List.drop_eq_getElem_cons hk, eErr, if_pos q]
theorem eErr_miss {f : Nat → Int} {es : List Ed} {k : Nat} (hk : k < es.length) (q : ¬ es[k].c + f es[k].v.toNat < f es[k].u.toNat) : eErr f (es.drop k) = eErr f (es.drop (k + 1)) := by
  rw [List.drop_eq_getElem_cons hk, eErr, if_neg q]
/-- where the first bad edge stands, or -1 -/
def eIdx (f : Nat → Int) : List Ed → Nat → Int | [], _ => -1 | e :: r, k => if e.c + f e.v.toNat < f e.u.toNat then (k : Int) else eIdx f r (k + 1)
theorem eIdx_hit {f : Nat → Int} {es : List Ed} {k : Nat} (hk : k < es.length) (q : es[k].c + f es[k].v.toNat < f es[k].u.toNat) : eIdx f (es.drop k) k = k := by
  rw [List.drop_eq_getElem_cons hk, eIdx, if_pos q]
theorem eIdx_miss {f : Nat → Int} {es : List Ed} {k : Nat} (hk : k < es.length) (q : ¬ es[k].c + f es[k].v.toNat < f es[k].u.toNat) : eIdx f (es.drop k) k = eIdx f (es.drop (k + 1)) (k + 1) := by
  rw [List.drop_eq_getElem_cons hk, eIdx, if_neg q]
theorem eIdx_err (f : Nat → Int) : ∀ (es : List Ed) (k : Nat), decide (0 ≤ eIdx f es k) = decide (eErr f es = 7) ∧ (eErr f es = 7 ∨ eErr f es = 0)
  | [], k => by simp [eIdx, eErr]
  | e :: r, k => by
    unfold eIdx eErr
    split
    · simp
    · exact eIdx_err f r (k + 1)
end Go.Proofs.Ytjidomfnngdomaa
