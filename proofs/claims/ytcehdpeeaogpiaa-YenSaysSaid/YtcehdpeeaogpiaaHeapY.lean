/-
  A heap of ways: what it holds; New, Len. Conditions: none.
-/
import Derived.Test.YtcehdpeeaogpiaaYenL
import Derived.Test.YtcehdpeeaogpiaaHeapN
namespace Go.Proofs.Ytcehdpeeaogpiaa
open Go.RowKit
set_option linter.unusedSimpArgs false
set_option linter.unusedVariables false
/-- the heap at g holds the n first of f; lf says which is less -/
structure HeapY (w : World) (base g : Nat) (lf v : Value) (n : Nat) (f : Nat → Yv) : Prop where
  bg : base ≤ g
  lt : g < w.heap.size
  c0 : w.cell? ⟨g, 0, none⟩ = some lf
  c1 : w.cell? ⟨g, 1, none⟩ = some v
  f1 : w.frozen? ⟨g, 1, none⟩ = false
  own : Own encY 2 36 w base v (RW n f)
  ap : v.ownBlock ≠ some g
theorem HeapY.keep {S : Nat → Prop} {w w' : World} {base g n : Nat} {lf v : Value} {f : Nat → Yv} (h : HeapY w base g lf v n f) (k : Keep S w w') (hg : ¬ S g) (hv : ∀ k, v.ownBlock = some k → ¬ S k) : HeapY w' base g lf v n f :=
  ⟨h.bg, Nat.lt_of_lt_of_le h.lt k.size, k.cu h.c0 hg, k.cu h.c1 hg, (k.frozen (p := ⟨g, 1, none⟩) h.lt hg).trans h.f1, k.own h.own hv, h.ap⟩
theorem HeapY.stays {w w' : World} {base g n : Nat} {lf v : Value} {f : Nat → Yv} (h : HeapY w base g lf v n f) (k : Below w.heap.size w w') : HeapY w' base g lf v n f :=
  h.keep (Keep.new (S := fun _ => False) k) (fun h => h) (fun _ _ h => h)
theorem HeapY.drew {w : World} {base g n : Nat} {lf v : Value} {f : Nat → Yv} (h : HeapY w base g lf v n f) : HeapY w.drew base g lf v n f := ⟨h.bg, h.lt, h.c0, h.c1, h.f1, h.own.drew, h.ap⟩
theorem HeapY.drewN {w : World} {base g n : Nat} {lf v : Value} {f : Nat → Yv} (h : HeapY w base g lf v n f) (m : Nat) : HeapY (w.drewN m) base g lf v n f := by
  induction m with
  | zero => exact h
  | succ m ih => exact ih.drew
theorem HeapY.alloc {w : World} {base g n : Nat} {lf v : Value} {f : Nat → Yv} (h : HeapY w base g lf v n f) (o : Obj) : HeapY (w.alloc o) base g lf v n f := h.stays ((Below.refl _ _).alloc (Nat.le_refl _) o)
/-- two exchanged -/
theorem HeapY.swap {w : World} {base g n gs m c : Nat} {lf : Value} {f : Nat → Yv} (h : HeapY w base g lf (.slice (some ⟨gs, 0, none⟩) m c) n f) {i k : Nat} (hi : i < n) (hk : k < n) :
    HeapY ((((w.setCell ⟨gs, i * 2, none⟩ (.slice (f k).a (f k).n (f k).c)).setCell ⟨gs, i * 2 + 1, none⟩ (.int .i64 (f k).k)).setCell ⟨gs, k * 2, none⟩ (.slice (f i).a (f i).n (f i).c)).setCell ⟨gs, k * 2 + 1, none⟩ (.int .i64 (f i).k)) base g lf (.slice (some ⟨gs, 0, none⟩) m c) n (swf f i k) := by
  have hne : gs ≠ g := fun e => h.ap (by rw [e]; rfl)
  have h1 := h.own.putY i (by rw [rw_len]; exact hi) (f k)
  have h2 := h1.putY k (by rw [List.length_set, rw_len]; exact hk) (f i)
  rw [rw_set, rw_set] at h2
  have kp := hide ((((hide (Keep.refl (fun k => k = gs) w)).out.setCell (p := ⟨gs, i * 2, none⟩) (.inl rfl) (.slice (f k).a (f k).n (f k).c)).setCell (p := ⟨gs, i * 2 + 1, none⟩) (.inl rfl) (.int .i64 (f k).k)).setCell (p := ⟨gs, k * 2, none⟩) (.inl rfl) (.slice (f i).a (f i).n (f i).c) |>.setCell (p := ⟨gs, k * 2 + 1, none⟩) (.inl rfl) (.int .i64 (f i).k))
  replace kp := kp.out
  have hng : ¬ (g = gs) := fun e => hne e.symm
  exact ⟨h.bg, Nat.lt_of_lt_of_le h.lt kp.size, kp.cu h.c0 hng, kp.cu h.c1 hng, (kp.frozen (p := ⟨g, 1, none⟩) h.lt hng).trans h.f1, h2, h.ap⟩
/-- a new heap: empty -/
theorem HeapY.fresh (w : World) (lf : Value) (f : Nat → Yv) (t : TypeId) : HeapY (w.alloc (.cells #[lf, .slice none 0 0] t)) w.heap.size w.heap.size lf (.slice none 0 0) 0 f :=
  ⟨Nat.le_refl _, by simp, by simp [go_sem], by simp [go_sem], by simp [go_sem], Own.nil _ _, by simp [Value.ownBlock]⟩
theorem newY_any (F : Nat) (w : World) : Calls Try.prog 146 #[.func (.func F) #[] #[]] w fun e w' => e = .returned (.pointer (some ⟨w.heap.size, 0, none⟩)) ∧ w' = w.alloc (.cells #[.func (.func F) #[] #[], .slice none 0 0] 232) := by
  go_enter Try.func146, Try.ntmps146
  go_wp2
  go_ret
  exact ⟨rfl, rfl⟩
theorem lenY_any (g : Nat) (a : Option Addr) (n c : Nat) (w : World) (hc : w.cell? ⟨g, 1, none⟩ = some (.slice a n c)) : Calls Try.prog 150 #[.pointer (some ⟨g, 0, none⟩)] w fun e w' => e = .returned (.int .i64 (n : Int)) ∧ w = w' := by
  go_enter Try.func150, Try.ntmps150
  go_wp2
  go_ret
  exact ⟨rfl, rfl⟩
end Go.Proofs.Ytcehdpeeaogpiaa
