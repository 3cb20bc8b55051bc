/-
  A heap of places (key, guess, number): which is less, what it holds; New, Len, Less. Conditions: none.
-/
import Derived.Test.YtcehdpeeaogpiaaHeapN
namespace Go.Proofs.Ytcehdpeeaogpiaa
open Go.RowKit
set_option linter.unusedSimpArgs false
set_option linter.unusedVariables false
/-- less: by key, then by guess, then by number -/
def plLt (a b : Ed) : Bool := decide (a.u < b.u ∨ (a.u = b.u ∧ (a.v < b.v ∨ (a.v = b.v ∧ a.c < b.c))))
theorem plLt_ord : Ord plLt := by
  constructor
  · intro a; simp [plLt]
  · intro a b h; simp only [plLt, decide_eq_true_eq, decide_eq_false_iff_not] at *; omega
  · intro a b c h1 h2; simp only [plLt, decide_eq_false_iff_not] at *; omega
theorem info_place : (Try.prog.info? 178).map (fun i => (i.zero, i.size, i.bytes)) = some (some (.agg #[.int .i64 0, .int .i64 0, .int .i64 0]), 3, 24) := by kernel_rfl
theorem Own.putT {e : TypeId} {w : World} {base : Nat} {xs : List Ed} {g n c : Nat} (h : Own encE 3 e w base (.slice (some ⟨g, 0, none⟩) n c) xs) (i : Nat) (hi : i < xs.length) (p : Ed) :
    Own encE 3 e (((w.setCell ⟨g, i * 3, none⟩ (.int .i64 p.u)).setCell ⟨g, i * 3 + 1, none⟩ (.int .i64 p.v)).setCell ⟨g, i * 3 + 2, none⟩ (.int .i64 p.c)) base (.slice (some ⟨g, 0, none⟩) n c) (xs.set i p) := by
  have h1 := h.put lenE i hi 0 (by omega) (.int .i64 p.u) ⟨p.u, xs[i].v, xs[i].c⟩ rfl
  have h2 := h1.put lenE i (by simpa using hi) 1 (by omega) (.int .i64 p.v) ⟨p.u, p.v, xs[i].c⟩ (by simp [encE])
  have h3 := h2.put lenE i (by simpa using hi) 2 (by omega) (.int .i64 p.c) p (by simp [encE])
  rw [List.set_set, List.set_set] at h3
  simpa using h3
/-- the heap at g holds the n first of f; lf says which is less -/
structure HeapT (w : World) (base g : Nat) (lf v : Value) (n : Nat) (f : Nat → Ed) : Prop where
  bg : base ≤ g
  lt : g < w.heap.size
  c0 : w.cell? ⟨g, 0, none⟩ = some lf
  c1 : w.cell? ⟨g, 1, none⟩ = some v
  f1 : w.frozen? ⟨g, 1, none⟩ = false
  own : Own encE 3 178 w base v (RW n f)
  ap : v.ownBlock ≠ some g
theorem HeapT.keep {S : Nat → Prop} {w w' : World} {base g n : Nat} {lf v : Value} {f : Nat → Ed} (h : HeapT w base g lf v n f) (k : Keep S w w') (hg : ¬ S g) (hv : ∀ k, v.ownBlock = some k → ¬ S k) : HeapT w' base g lf v n f :=
  ⟨h.bg, Nat.lt_of_lt_of_le h.lt k.size, k.cu h.c0 hg, k.cu h.c1 hg, (k.frozen (p := ⟨g, 1, none⟩) h.lt hg).trans h.f1, k.own h.own hv, h.ap⟩
theorem HeapT.stays {w w' : World} {base g n : Nat} {lf v : Value} {f : Nat → Ed} (h : HeapT w base g lf v n f) (k : Below w.heap.size w w') : HeapT w' base g lf v n f :=
  h.keep (Keep.new (S := fun _ => False) k) (fun h => h) (fun _ _ h => h)
theorem HeapT.drew {w : World} {base g n : Nat} {lf v : Value} {f : Nat → Ed} (h : HeapT w base g lf v n f) : HeapT w.drew base g lf v n f := ⟨h.bg, h.lt, h.c0, h.c1, h.f1, h.own.drew, h.ap⟩
theorem HeapT.drewN {w : World} {base g n : Nat} {lf v : Value} {f : Nat → Ed} (h : HeapT w base g lf v n f) (m : Nat) : HeapT (w.drewN m) base g lf v n f := by
  induction m with
  | zero => exact h
  | succ m ih => exact ih.drew
theorem HeapT.alloc {w : World} {base g n : Nat} {lf v : Value} {f : Nat → Ed} (h : HeapT w base g lf v n f) (o : Obj) : HeapT (w.alloc o) base g lf v n f := h.stays ((Below.refl _ _).alloc (Nat.le_refl _) o)
/-- two exchanged -/
theorem HeapT.swap {w : World} {base g n gs m c : Nat} {lf : Value} {f : Nat → Ed} (h : HeapT w base g lf (.slice (some ⟨gs, 0, none⟩) m c) n f) {i k : Nat} (hi : i < n) (hk : k < n) :
    HeapT ((((((w.setCell ⟨gs, i * 3, none⟩ (.int .i64 (f k).u)).setCell ⟨gs, i * 3 + 1, none⟩ (.int .i64 (f k).v)).setCell ⟨gs, i * 3 + 2, none⟩ (.int .i64 (f k).c)).setCell ⟨gs, k * 3, none⟩ (.int .i64 (f i).u)).setCell ⟨gs, k * 3 + 1, none⟩ (.int .i64 (f i).v)).setCell ⟨gs, k * 3 + 2, none⟩ (.int .i64 (f i).c)) base g lf (.slice (some ⟨gs, 0, none⟩) m c) n (swf f i k) := by
  have hne : gs ≠ g := fun e => h.ap (by rw [e]; rfl)
  have h1 := h.own.putT i (by rw [rw_len]; exact hi) (f k)
  have h2 := h1.putT k (by rw [List.length_set, rw_len]; exact hk) (f i)
  rw [rw_set, rw_set] at h2
  have kp := hide (((((((hide (Keep.refl (fun k => k = gs) w)).out.setCell (p := ⟨gs, i * 3, none⟩) (.inl rfl) (.int .i64 (f k).u)).setCell (p := ⟨gs, i * 3 + 1, none⟩) (.inl rfl) (.int .i64 (f k).v)).setCell (p := ⟨gs, i * 3 + 2, none⟩) (.inl rfl) (.int .i64 (f k).c)).setCell (p := ⟨gs, k * 3, none⟩) (.inl rfl) (.int .i64 (f i).u)).setCell (p := ⟨gs, k * 3 + 1, none⟩) (.inl rfl) (.int .i64 (f i).v)).setCell (p := ⟨gs, k * 3 + 2, none⟩) (.inl rfl) (.int .i64 (f i).c))
  replace kp := kp.out
  have hng : ¬ (g = gs) := fun e => hne e.symm
  exact ⟨h.bg, Nat.lt_of_lt_of_le h.lt kp.size, kp.cu h.c0 hng, kp.cu h.c1 hng, (kp.frozen (p := ⟨g, 1, none⟩) h.lt hng).trans h.f1, h2, h.ap⟩
/-- a new heap: empty -/
theorem HeapT.fresh (w : World) (lf : Value) (f : Nat → Ed) (t : TypeId) : HeapT (w.alloc (.cells #[lf, .slice none 0 0] t)) w.heap.size w.heap.size lf (.slice none 0 0) 0 f :=
  ⟨Nat.le_refl _, by simp, by simp [go_sem], by simp [go_sem], by simp [go_sem], Own.nil _ _, by simp [Value.ownBlock]⟩
set_option maxHeartbeats 2000000 in
theorem lessT_any (p q : Ed) (w : World) :
    Calls Try.prog 139 #[.agg #[.int .i64 p.u, .int .i64 p.v, .int .i64 p.c], .agg #[.int .i64 q.u, .int .i64 q.v, .int .i64 q.c]] w fun e w' => e = .returned (.bool (plLt p q)) ∧ Below w.heap.size w w' := by
  go_enter Try.func139, Try.ntmps139
  by_cases h1 : p.u = q.u
  · have q1 : (p.u != q.u) = false := by simp [h1]
    by_cases h2 : p.v < q.v
    · have e1 : plLt p q = true := by simp [plLt, h1, h2]
      rw [e1]
      replace h1 := hide h1
      go_wp2
      go_ret
      exact ⟨rfl, (by repeat (first | with_reducible exact Below.refl _ _ | with_reducible assumption | with_reducible refine up_drewN ?_ | with_reducible refine up_drew ?_ | (with_reducible refine up_alloc ?_ ?_; rotate_left; (first | omega | (simp <;> omega) | simp)) | (with_reducible refine up_set ?_ ?_; rotate_left; (first | omega | (simp <;> omega) | simp)) | (with_reducible refine Below.trans ?_ (Below.mono (by with_reducible assumption) ?_); rotate_left; (first | omega | (simp <;> omega) | simp))))⟩
    · by_cases h3 : p.v = q.v
      · have q3 : (p.v == q.v) = true := by simp [h3]
        have e1 : plLt p q = decide (p.c < q.c) := by simp [plLt, h1, h3]
        rw [e1]
        have h4 : (p.v < q.v) = False := by simp [h2]
        replace h1 := hide h1
        replace h3 := hide h3
        go_wp2
        go_ret
        exact ⟨rfl, (by repeat (first | with_reducible exact Below.refl _ _ | with_reducible assumption | with_reducible refine up_drewN ?_ | with_reducible refine up_drew ?_ | (with_reducible refine up_alloc ?_ ?_; rotate_left; (first | omega | (simp <;> omega) | simp)) | (with_reducible refine up_set ?_ ?_; rotate_left; (first | omega | (simp <;> omega) | simp)) | (with_reducible refine Below.trans ?_ (Below.mono (by with_reducible assumption) ?_); rotate_left; (first | omega | (simp <;> omega) | simp))))⟩
      · have q3 : (p.v == q.v) = false := by simp [h3]
        have e1 : plLt p q = false := by simp [plLt, h1, h2, h3]
        rw [e1]
        have h4 : (p.v < q.v) = False := by simp [h2]
        replace h1 := hide h1
        go_wp2
        go_ret
        exact ⟨rfl, (by repeat (first | with_reducible exact Below.refl _ _ | with_reducible assumption | with_reducible refine up_drewN ?_ | with_reducible refine up_drew ?_ | (with_reducible refine up_alloc ?_ ?_; rotate_left; (first | omega | (simp <;> omega) | simp)) | (with_reducible refine up_set ?_ ?_; rotate_left; (first | omega | (simp <;> omega) | simp)) | (with_reducible refine Below.trans ?_ (Below.mono (by with_reducible assumption) ?_); rotate_left; (first | omega | (simp <;> omega) | simp))))⟩
  · have q1 : (p.u != q.u) = true := by simp [h1]
    have e1 : plLt p q = decide (p.u < q.u) := by simp [plLt, h1]
    rw [e1]
    go_wp2
    go_ret
    exact ⟨rfl, (by repeat (first | with_reducible exact Below.refl _ _ | with_reducible assumption | with_reducible refine up_drewN ?_ | with_reducible refine up_drew ?_ | (with_reducible refine up_alloc ?_ ?_; rotate_left; (first | omega | (simp <;> omega) | simp)) | (with_reducible refine up_set ?_ ?_; rotate_left; (first | omega | (simp <;> omega) | simp)) | (with_reducible refine Below.trans ?_ (Below.mono (by with_reducible assumption) ?_); rotate_left; (first | omega | (simp <;> omega) | simp))))⟩
theorem newT_any (F : Nat) (w : World) : Calls Try.prog 138 #[.func (.func F) #[] #[]] w fun e w' => e = .returned (.pointer (some ⟨w.heap.size, 0, none⟩)) ∧ w' = w.alloc (.cells #[.func (.func F) #[] #[], .slice none 0 0] 230) := by
  go_enter Try.func138, Try.ntmps138
  go_wp2
  go_ret
  exact ⟨rfl, rfl⟩
theorem lenT_any (g : Nat) (a : Option Addr) (n c : Nat) (w : World) (hc : w.cell? ⟨g, 1, none⟩ = some (.slice a n c)) : Calls Try.prog 174 #[.pointer (some ⟨g, 0, none⟩)] w fun e w' => e = .returned (.int .i64 (n : Int)) ∧ w = w' := by
  go_enter Try.func174, Try.ntmps174
  go_wp2
  go_ret
  exact ⟨rfl, rfl⟩
end Go.Proofs.Ytcehdpeeaogpiaa
