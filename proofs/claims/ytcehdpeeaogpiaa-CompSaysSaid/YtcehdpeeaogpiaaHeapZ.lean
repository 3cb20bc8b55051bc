/-
  A heap of numbers: what it holds; New, Len. Conditions: bounds on the length.
-/
import Derived.Test.YtcehdpeeaogpiaaHeapN
namespace Go.Proofs.Ytcehdpeeaogpiaa
open Go.RowKit
set_option linter.unusedSimpArgs false
set_option linter.unusedVariables false
/-- less by number -/
def numLt (a b : Int) : Bool := decide (a < b)
theorem numLt_ord : Ord numLt := by
  constructor
  · intro a; simp [numLt]
  · intro a b h; simp only [numLt, decide_eq_true_eq, decide_eq_false_iff_not] at *; omega
  · intro a b c h1 h2; simp only [numLt, decide_eq_false_iff_not] at *; omega
/-- the heap at g holds the n first of f; lf says which is less -/
structure HeapZ (w : World) (base g : Nat) (lf v : Value) (n : Nat) (f : Nat → Int) : Prop where
  bg : base ≤ g
  lt : g < w.heap.size
  c0 : w.cell? ⟨g, 0, none⟩ = some lf
  c1 : w.cell? ⟨g, 1, none⟩ = some v
  f1 : w.frozen? ⟨g, 1, none⟩ = false
  own : Own encI 1 3 w base v (RW n f)
  ap : v.ownBlock ≠ some g
theorem HeapZ.keep {S : Nat → Prop} {w w' : World} {base g n : Nat} {lf v : Value} {f : Nat → Int} (h : HeapZ w base g lf v n f) (k : Keep S w w') (hg : ¬ S g) (hv : ∀ k, v.ownBlock = some k → ¬ S k) : HeapZ w' base g lf v n f :=
  ⟨h.bg, Nat.lt_of_lt_of_le h.lt k.size, k.cu h.c0 hg, k.cu h.c1 hg, (k.frozen (p := ⟨g, 1, none⟩) h.lt hg).trans h.f1, k.own h.own hv, h.ap⟩
theorem HeapZ.stays {w w' : World} {base g n : Nat} {lf v : Value} {f : Nat → Int} (h : HeapZ w base g lf v n f) (k : Below w.heap.size w w') : HeapZ w' base g lf v n f :=
  h.keep (Keep.new (S := fun _ => False) k) (fun h => h) (fun _ _ h => h)
theorem HeapZ.drew {w : World} {base g n : Nat} {lf v : Value} {f : Nat → Int} (h : HeapZ w base g lf v n f) : HeapZ w.drew base g lf v n f := ⟨h.bg, h.lt, h.c0, h.c1, h.f1, h.own.drew, h.ap⟩
theorem HeapZ.drewN {w : World} {base g n : Nat} {lf v : Value} {f : Nat → Int} (h : HeapZ w base g lf v n f) (m : Nat) : HeapZ (w.drewN m) base g lf v n f := by
  induction m with
  | zero => exact h
  | succ m ih => exact ih.drew
theorem HeapZ.alloc {w : World} {base g n : Nat} {lf v : Value} {f : Nat → Int} (h : HeapZ w base g lf v n f) (o : Obj) : HeapZ (w.alloc o) base g lf v n f := h.stays ((Below.refl _ _).alloc (Nat.le_refl _) o)
theorem HeapZ.cells {w : World} {base g gs n c : Nat} {lf : Value} {f : Nat → Int} (h : HeapZ w base g lf (.slice (some ⟨gs, 0, none⟩) n c) n f) (i : Nat) (hi : i < n) : w.cell? ⟨gs, i, none⟩ = some (.int .i64 (f i)) := by
  have := h.own.getI i (by rw [rw_len]; exact hi)
  rw [rw_get] at this
  exact this
theorem HeapZ.frees {w : World} {base g gs n c : Nat} {lf : Value} {f : Nat → Int} (h : HeapZ w base g lf (.slice (some ⟨gs, 0, none⟩) n c) n f) (i : Nat) : w.frozen? ⟨gs, i, none⟩ = false := h.own.free i
/-- two exchanged -/
theorem HeapZ.swap {w : World} {base g n gs m c : Nat} {lf : Value} {f : Nat → Int} (h : HeapZ w base g lf (.slice (some ⟨gs, 0, none⟩) m c) n f) {i k : Nat} (hi : i < n) (hk : k < n) :
    HeapZ ((w.setCell ⟨gs, i, none⟩ (.int .i64 (f k))).setCell ⟨gs, k, none⟩ (.int .i64 (f i))) base g lf (.slice (some ⟨gs, 0, none⟩) m c) n (swf f i k) := by
  have hne : gs ≠ g := fun e => h.ap (by rw [e]; rfl)
  have h1 := h.own.putI i (by rw [rw_len]; exact hi) (f k)
  have h2 := h1.putI k (by rw [List.length_set, rw_len]; exact hk) (f i)
  rw [rw_set, rw_set] at h2
  have kp := ((Keep.refl (fun k => k = gs) w).setCell (p := ⟨gs, i, none⟩) (.inl rfl) (.int .i64 (f k))).setCell (p := ⟨gs, k, none⟩) (.inl rfl) (.int .i64 (f i))
  have hng : ¬ (g = gs) := fun e => hne e.symm
  exact ⟨h.bg, Nat.lt_of_lt_of_le h.lt kp.size, kp.cu h.c0 hng, kp.cu h.c1 hng, (kp.frozen (p := ⟨g, 1, none⟩) h.lt hng).trans h.f1, h2, h.ap⟩
theorem HeapZ.swap' {w : World} {base g n gs m c : Nat} {lf : Value} {f : Nat → Int} (h : HeapZ w base g lf (.slice (some ⟨gs, 0, none⟩) m c) n f) {i k : Nat} (hi : i < n) (hk : k < n) (hik : i ≠ k) :
    HeapZ ((w.setCell ⟨gs, k, none⟩ (.int .i64 (f i))).setCell ⟨gs, i, none⟩ (.int .i64 (f k))) base g lf (.slice (some ⟨gs, 0, none⟩) m c) n (swf f i k) := by
  have := h.swap hk hi
  have e : swf f k i = swf f i k := by
    funext z
    by_cases h1 : z = i
    · rw [h1, swf_right, swf_left]
    · by_cases h2 : z = k
      · rw [h2, swf_left, swf_right]
      · rw [swf_other _ h2 h1, swf_other _ h1 h2]
  rwa [e] at this
/-- what Push keeps -/
def HeapedZ (w : World) (base g : Nat) (lf v : Value) (n : Nat) (f : Nat → Int) (w' : World) : Prop :=
  ∃ gs c, HeapZ w' base g lf (.slice (some ⟨gs, 0, none⟩) n c) n f ∧ Keep (fun k => k = g ∨ v.ownBlock = some k) w w' ∧ (v.ownBlock = some gs ∨ w.heap.size ≤ gs)
/-- behind the append -/
theorem HeapZ.grew {w w2 : World} {base g n : Nat} {lf v : Value} {f : Nat → Int} {p : Int} (h : HeapZ w base g lf v n f) {X : Obj} {gs cap' : Nat}
    (own2 : Own encI 1 3 w2 base (.slice (some ⟨gs, 0, none⟩) (n + 1) cap') (RW n f ++ [p])) (hg2 : (w.alloc X).grownBy w2 v.ownBlock) (hat : v.ownBlock = some gs ∨ gs = w.heap.size + 1) :
    HeapZ (w2.setCell ⟨g, 1, none⟩ (.slice (some ⟨gs, 0, none⟩) (n + 1) cap')) base g lf (.slice (some ⟨gs, 0, none⟩) (n + 1) cap') (n + 1) (upz f n p) ∧ Keep (fun k => k = g ∨ v.ownBlock = some k) w (w2.setCell ⟨g, 1, none⟩ (.slice (some ⟨gs, 0, none⟩) (n + 1) cap')) := by
  have hlt := h.lt
  have hne : gs ≠ g := by
    rintro rfl
    rcases hat with e | e
    · exact h.ap e
    · omega
  have k0 := hg2.cell (a := ⟨g, 0, none⟩) (cu_alloc h.c0) (fun e => h.ap e.symm)
  have k1 := hg2.cell (a := ⟨g, 1, none⟩) (cu_alloc h.c1) (fun e => h.ap e.symm)
  have k2 := hg2.frozen_far ⟨g, 1, none⟩ (by simp; omega) (fun e => h.ap e.symm)
  have hf : (w.alloc X).frozen? ⟨g, 1, none⟩ = false := by
    have hb : Below w.heap.size w (w.alloc X) := up_alloc (Below.refl _ _) (Nat.le_refl _)
    exact (hb.frozen (p := ⟨g, 1, none⟩) hlt).trans h.f1
  rw [hf] at k2
  have hsz : w.heap.size ≤ w2.heap.size := by have := hg2.size; simp at this; omega
  rw [← rw_push] at own2
  refine ⟨⟨h.bg, by simp; omega, ?_, ?_, fu_set k2, own2.elsewhere (by simp [Value.ownBlock]; exact hne) _, by simp [Value.ownBlock]; exact hne⟩, ?_⟩
  · exact cu_set_off k0 (by omega)
  · exact World.cell?_setCell_same _ _ _ k1
  · have hkp : Keep (fun k => k = g ∨ v.ownBlock = some k) w (w.alloc X) := (Keep.refl _ w).alloc X
    exact (hkp.grown hg2 (fun k hk => .inl (.inr hk))).setCell (.inl (.inl rfl)) _
/-- the last put first -/
theorem HeapZ.lastFirst {w : World} {base g n gs c : Nat} {lf : Value} {f : Nat → Int} (h : HeapZ w base g lf (.slice (some ⟨gs, 0, none⟩) (n + 1) c) (n + 1) f) :
    HeapZ ((w.setCell ⟨gs, 0, none⟩ (.int .i64 (f n))).setCell ⟨g, 1, none⟩ (.slice (some ⟨gs, 0, none⟩) n c)) base g lf (.slice (some ⟨gs, 0, none⟩) n c) n (upz f 0 (f n)) ∧ Keep (fun k => k = g ∨ k = gs) w ((w.setCell ⟨gs, 0, none⟩ (.int .i64 (f n))).setCell ⟨g, 1, none⟩ (.slice (some ⟨gs, 0, none⟩) n c)) := by
  have hne : gs ≠ g := fun e => h.ap (by rw [e]; rfl)
  have h1 := h.own.putI 0 (by rw [rw_len]; omega) (f n)
  rw [rw_set, rw_snoc] at h1
  have h2 := h1.shrink lenI
  have hng : ¬ (g = gs) := fun e => hne e.symm
  have kp := (Keep.refl (fun k => k = gs) w).setCell (p := ⟨gs, 0, none⟩) (.inl rfl) (.int .i64 (f n))
  refine ⟨⟨h.bg, ?_, ?_, ?_, ?_, h2.elsewhere (by simp [Value.ownBlock]; exact hne) _, by simp [Value.ownBlock]; exact hne⟩, ?_⟩
  · have := Nat.lt_of_lt_of_le h.lt kp.size; simpa using this
  · exact cu_set_off (kp.cu h.c0 hng) (by omega)
  · exact World.cell?_setCell_same _ _ _ (kp.cu h.c1 hng)
  · exact fu_set ((kp.frozen (p := ⟨g, 1, none⟩) h.lt hng).trans h.f1)
  · exact ((Keep.refl _ w).setCell (p := ⟨gs, 0, none⟩) (.inl (.inr rfl)) _).setCell (p := ⟨g, 1, none⟩) (.inl (.inl rfl)) _
/-- what Pop hands back and keeps -/
def PoppedZ (w : World) (base g gs c : Nat) (lf : Value) (n : Nat) (f : Nat → Int) (p : Int) (e : Ending) (w' : World) : Prop :=
  e = .returned (.int .i64 p) ∧ HeapZ w' base g lf (.slice (some ⟨gs, 0, none⟩) n c) n f ∧ Keep (fun k => k = g ∨ k = gs) w w'
theorem HeapZ.fresh (w : World) (lf : Value) (f : Nat → Int) (t : TypeId) : HeapZ (w.alloc (.cells #[lf, .slice none 0 0] t)) w.heap.size w.heap.size lf (.slice none 0 0) 0 f :=
  ⟨Nat.le_refl _, by simp, by simp [go_sem], by simp [go_sem], by simp [go_sem], Own.nil _ _, by simp [Value.ownBlock]⟩
theorem newZ_any (F : Nat) (w : World) : Calls Try.prog 96 #[.func (.func F) #[] #[]] w fun e w' => e = .returned (.pointer (some ⟨w.heap.size, 0, none⟩)) ∧ w' = w.alloc (.cells #[.func (.func F) #[] #[], .slice none 0 0] 215) := by
  go_enter Try.func96, Try.ntmps96
  go_wp2
  go_ret
  exact ⟨rfl, rfl⟩
theorem lenZ_any (g : Nat) (a : Option Addr) (n c : Nat) (w : World) (hc : w.cell? ⟨g, 1, none⟩ = some (.slice a n c)) : Calls Try.prog 99 #[.pointer (some ⟨g, 0, none⟩)] w fun e w' => e = .returned (.int .i64 (n : Int)) ∧ w = w' := by
  go_enter Try.func99, Try.ntmps99
  go_wp2
  go_ret
  exact ⟨rfl, rfl⟩
end Go.Proofs.Ytcehdpeeaogpiaa
