/-
  What comp.Of returns: the least of each place's component. Conditions: that the net reads.
-/
import Derived.Test.YtcehdpeeaogpiaaCompV
import Derived.Test.YtcehdpeeaogpiaaRegInw
import Derived.Test.YtcehdpeeaogpiaaNetL
import Derived.Test.YtcehdpeeaogpiaaStarO
import Derived.Test.YtcehdpeeaogpiaaAnyBad
namespace Go.Proofs.Ytcehdpeeaogpiaa
open Go.RowKit
set_option linter.unusedSimpArgs false
set_option linter.unusedVariables false
theorem tall_tw {E : List NE} {n : Nat} (hE : ∀ e ∈ E, e.u < n ∧ e.v < n) : ∀ v, v ≤ n → TW n (tall E n v)
  | 0, _ => ⟨(fun x h => by simp [tall, tstart] at h), by simp [tall, tstart], by simpa [tall, tstart] using whites_le n tstart⟩
  | v + 1, hv => by
    have h := tall_tw hE v (by omega)
    rw [tall]
    split
    · rename_i h0
      exact (tvisit_tw hE n _ v h h0 (by omega)).1
    · exact h
theorem Row.rebase {α : Type} {enc : α → List Value} {sz : Nat} {w w' : World} {B B' : Nat} {a : Option Addr} {xs : List α} (h : Row enc sz w' B' a xs) (k : Row enc sz w B a xs) : Row enc sz w' B a xs := by
  intro i hi
  obtain ⟨b, o, h1, _, h3⟩ := h i hi
  obtain ⟨b', o', k1, k2, _⟩ := k i hi
  rw [h1] at k1
  simp only [Option.some.injEq, Addr.mk.injEq] at k1
  obtain ⟨rfl, rfl, _⟩ := k1
  exact ⟨b, o, h1, k2, h3⟩
theorem set9 {w : World} {b : Nat} {u0 u1 u2 u3 u4 u5 u6 u7 u8 : Value} (v0 v1 v2 v3 v4 v5 v6 v7 v8 : Value) (r0 : w.cell? ⟨b, 0, none⟩ = some u0) (r1 : w.cell? ⟨b, 1, none⟩ = some u1) (r2 : w.cell? ⟨b, 2, none⟩ = some u2) (r3 : w.cell? ⟨b, 3, none⟩ = some u3) (r4 : w.cell? ⟨b, 4, none⟩ = some u4) (r5 : w.cell? ⟨b, 5, none⟩ = some u5) (r6 : w.cell? ⟨b, 6, none⟩ = some u6) (r7 : w.cell? ⟨b, 7, none⟩ = some u7) (r8 : w.cell? ⟨b, 8, none⟩ = some u8) :
    ∃ W, W = (((((((((w.setCell ⟨b, 0, none⟩ v0).setCell ⟨b, 1, none⟩ v1).setCell ⟨b, 2, none⟩ v2).setCell ⟨b, 3, none⟩ v3).setCell ⟨b, 4, none⟩ v4).setCell ⟨b, 5, none⟩ v5).setCell ⟨b, 6, none⟩ v6).setCell ⟨b, 7, none⟩ v7).setCell ⟨b, 8, none⟩ v8) ∧
      W.cell? ⟨b, 0, none⟩ = some v0 ∧ W.cell? ⟨b, 1, none⟩ = some v1 ∧ W.cell? ⟨b, 2, none⟩ = some v2 ∧ W.cell? ⟨b, 3, none⟩ = some v3 ∧ W.cell? ⟨b, 4, none⟩ = some v4 ∧ W.cell? ⟨b, 5, none⟩ = some v5 ∧ W.cell? ⟨b, 6, none⟩ = some v6 ∧ W.cell? ⟨b, 7, none⟩ = some v7 ∧ W.cell? ⟨b, 8, none⟩ = some v8 ∧
      Keep (fun j => j = b) w W ∧ ∀ o, w.frozen? ⟨b, o, none⟩ = false → W.frozen? ⟨b, o, none⟩ = false := by
  obtain ⟨w0, e0⟩ : ∃ x, x = w.setCell ⟨b, 0, none⟩ v0 := ⟨_, rfl⟩
  obtain ⟨w1, e1⟩ : ∃ x, x = w0.setCell ⟨b, 1, none⟩ v1 := ⟨_, rfl⟩
  obtain ⟨w2, e2⟩ : ∃ x, x = w1.setCell ⟨b, 2, none⟩ v2 := ⟨_, rfl⟩
  obtain ⟨w3, e3⟩ : ∃ x, x = w2.setCell ⟨b, 3, none⟩ v3 := ⟨_, rfl⟩
  obtain ⟨w4, e4⟩ : ∃ x, x = w3.setCell ⟨b, 4, none⟩ v4 := ⟨_, rfl⟩
  obtain ⟨w5, e5⟩ : ∃ x, x = w4.setCell ⟨b, 5, none⟩ v5 := ⟨_, rfl⟩
  obtain ⟨w6, e6⟩ : ∃ x, x = w5.setCell ⟨b, 6, none⟩ v6 := ⟨_, rfl⟩
  obtain ⟨w7, e7⟩ : ∃ x, x = w6.setCell ⟨b, 7, none⟩ v7 := ⟨_, rfl⟩
  obtain ⟨w8, e8⟩ : ∃ x, x = w7.setCell ⟨b, 8, none⟩ v8 := ⟨_, rfl⟩
  refine ⟨w8, by rw [e8, e7, e6, e5, e4, e3, e2, e1, e0], ?_⟩
  have h0 : w8.cell? ⟨b, 0, none⟩ = some v0 := by
    have a0 : w0.cell? ⟨b, 0, none⟩ = some v0 := by rw [e0]; exact World.cell?_setCell_same _ _ _ r0
    have a1 : w1.cell? ⟨b, 0, none⟩ = some v0 := by rw [e1]; exact cu_set_off a0 (by omega)
    have a2 : w2.cell? ⟨b, 0, none⟩ = some v0 := by rw [e2]; exact cu_set_off a1 (by omega)
    have a3 : w3.cell? ⟨b, 0, none⟩ = some v0 := by rw [e3]; exact cu_set_off a2 (by omega)
    have a4 : w4.cell? ⟨b, 0, none⟩ = some v0 := by rw [e4]; exact cu_set_off a3 (by omega)
    have a5 : w5.cell? ⟨b, 0, none⟩ = some v0 := by rw [e5]; exact cu_set_off a4 (by omega)
    have a6 : w6.cell? ⟨b, 0, none⟩ = some v0 := by rw [e6]; exact cu_set_off a5 (by omega)
    have a7 : w7.cell? ⟨b, 0, none⟩ = some v0 := by rw [e7]; exact cu_set_off a6 (by omega)
    have a8 : w8.cell? ⟨b, 0, none⟩ = some v0 := by rw [e8]; exact cu_set_off a7 (by omega)
    exact a8
  have h1 : w8.cell? ⟨b, 1, none⟩ = some v1 := by
    have a0 : w0.cell? ⟨b, 1, none⟩ = some u1 := by rw [e0]; exact cu_set_off r1 (by omega)
    have a1 : w1.cell? ⟨b, 1, none⟩ = some v1 := by rw [e1]; exact World.cell?_setCell_same _ _ _ a0
    have a2 : w2.cell? ⟨b, 1, none⟩ = some v1 := by rw [e2]; exact cu_set_off a1 (by omega)
    have a3 : w3.cell? ⟨b, 1, none⟩ = some v1 := by rw [e3]; exact cu_set_off a2 (by omega)
    have a4 : w4.cell? ⟨b, 1, none⟩ = some v1 := by rw [e4]; exact cu_set_off a3 (by omega)
    have a5 : w5.cell? ⟨b, 1, none⟩ = some v1 := by rw [e5]; exact cu_set_off a4 (by omega)
    have a6 : w6.cell? ⟨b, 1, none⟩ = some v1 := by rw [e6]; exact cu_set_off a5 (by omega)
    have a7 : w7.cell? ⟨b, 1, none⟩ = some v1 := by rw [e7]; exact cu_set_off a6 (by omega)
    have a8 : w8.cell? ⟨b, 1, none⟩ = some v1 := by rw [e8]; exact cu_set_off a7 (by omega)
    exact a8
  have h2 : w8.cell? ⟨b, 2, none⟩ = some v2 := by
    have a0 : w0.cell? ⟨b, 2, none⟩ = some u2 := by rw [e0]; exact cu_set_off r2 (by omega)
    have a1 : w1.cell? ⟨b, 2, none⟩ = some u2 := by rw [e1]; exact cu_set_off a0 (by omega)
    have a2 : w2.cell? ⟨b, 2, none⟩ = some v2 := by rw [e2]; exact World.cell?_setCell_same _ _ _ a1
    have a3 : w3.cell? ⟨b, 2, none⟩ = some v2 := by rw [e3]; exact cu_set_off a2 (by omega)
    have a4 : w4.cell? ⟨b, 2, none⟩ = some v2 := by rw [e4]; exact cu_set_off a3 (by omega)
    have a5 : w5.cell? ⟨b, 2, none⟩ = some v2 := by rw [e5]; exact cu_set_off a4 (by omega)
    have a6 : w6.cell? ⟨b, 2, none⟩ = some v2 := by rw [e6]; exact cu_set_off a5 (by omega)
    have a7 : w7.cell? ⟨b, 2, none⟩ = some v2 := by rw [e7]; exact cu_set_off a6 (by omega)
    have a8 : w8.cell? ⟨b, 2, none⟩ = some v2 := by rw [e8]; exact cu_set_off a7 (by omega)
    exact a8
  have h3 : w8.cell? ⟨b, 3, none⟩ = some v3 := by
    have a0 : w0.cell? ⟨b, 3, none⟩ = some u3 := by rw [e0]; exact cu_set_off r3 (by omega)
    have a1 : w1.cell? ⟨b, 3, none⟩ = some u3 := by rw [e1]; exact cu_set_off a0 (by omega)
    have a2 : w2.cell? ⟨b, 3, none⟩ = some u3 := by rw [e2]; exact cu_set_off a1 (by omega)
    have a3 : w3.cell? ⟨b, 3, none⟩ = some v3 := by rw [e3]; exact World.cell?_setCell_same _ _ _ a2
    have a4 : w4.cell? ⟨b, 3, none⟩ = some v3 := by rw [e4]; exact cu_set_off a3 (by omega)
    have a5 : w5.cell? ⟨b, 3, none⟩ = some v3 := by rw [e5]; exact cu_set_off a4 (by omega)
    have a6 : w6.cell? ⟨b, 3, none⟩ = some v3 := by rw [e6]; exact cu_set_off a5 (by omega)
    have a7 : w7.cell? ⟨b, 3, none⟩ = some v3 := by rw [e7]; exact cu_set_off a6 (by omega)
    have a8 : w8.cell? ⟨b, 3, none⟩ = some v3 := by rw [e8]; exact cu_set_off a7 (by omega)
    exact a8
  have h4 : w8.cell? ⟨b, 4, none⟩ = some v4 := by
    have a0 : w0.cell? ⟨b, 4, none⟩ = some u4 := by rw [e0]; exact cu_set_off r4 (by omega)
    have a1 : w1.cell? ⟨b, 4, none⟩ = some u4 := by rw [e1]; exact cu_set_off a0 (by omega)
    have a2 : w2.cell? ⟨b, 4, none⟩ = some u4 := by rw [e2]; exact cu_set_off a1 (by omega)
    have a3 : w3.cell? ⟨b, 4, none⟩ = some u4 := by rw [e3]; exact cu_set_off a2 (by omega)
    have a4 : w4.cell? ⟨b, 4, none⟩ = some v4 := by rw [e4]; exact World.cell?_setCell_same _ _ _ a3
    have a5 : w5.cell? ⟨b, 4, none⟩ = some v4 := by rw [e5]; exact cu_set_off a4 (by omega)
    have a6 : w6.cell? ⟨b, 4, none⟩ = some v4 := by rw [e6]; exact cu_set_off a5 (by omega)
    have a7 : w7.cell? ⟨b, 4, none⟩ = some v4 := by rw [e7]; exact cu_set_off a6 (by omega)
    have a8 : w8.cell? ⟨b, 4, none⟩ = some v4 := by rw [e8]; exact cu_set_off a7 (by omega)
    exact a8
  have h5 : w8.cell? ⟨b, 5, none⟩ = some v5 := by
    have a0 : w0.cell? ⟨b, 5, none⟩ = some u5 := by rw [e0]; exact cu_set_off r5 (by omega)
    have a1 : w1.cell? ⟨b, 5, none⟩ = some u5 := by rw [e1]; exact cu_set_off a0 (by omega)
    have a2 : w2.cell? ⟨b, 5, none⟩ = some u5 := by rw [e2]; exact cu_set_off a1 (by omega)
    have a3 : w3.cell? ⟨b, 5, none⟩ = some u5 := by rw [e3]; exact cu_set_off a2 (by omega)
    have a4 : w4.cell? ⟨b, 5, none⟩ = some u5 := by rw [e4]; exact cu_set_off a3 (by omega)
    have a5 : w5.cell? ⟨b, 5, none⟩ = some v5 := by rw [e5]; exact World.cell?_setCell_same _ _ _ a4
    have a6 : w6.cell? ⟨b, 5, none⟩ = some v5 := by rw [e6]; exact cu_set_off a5 (by omega)
    have a7 : w7.cell? ⟨b, 5, none⟩ = some v5 := by rw [e7]; exact cu_set_off a6 (by omega)
    have a8 : w8.cell? ⟨b, 5, none⟩ = some v5 := by rw [e8]; exact cu_set_off a7 (by omega)
    exact a8
  have h6 : w8.cell? ⟨b, 6, none⟩ = some v6 := by
    have a0 : w0.cell? ⟨b, 6, none⟩ = some u6 := by rw [e0]; exact cu_set_off r6 (by omega)
    have a1 : w1.cell? ⟨b, 6, none⟩ = some u6 := by rw [e1]; exact cu_set_off a0 (by omega)
    have a2 : w2.cell? ⟨b, 6, none⟩ = some u6 := by rw [e2]; exact cu_set_off a1 (by omega)
    have a3 : w3.cell? ⟨b, 6, none⟩ = some u6 := by rw [e3]; exact cu_set_off a2 (by omega)
    have a4 : w4.cell? ⟨b, 6, none⟩ = some u6 := by rw [e4]; exact cu_set_off a3 (by omega)
    have a5 : w5.cell? ⟨b, 6, none⟩ = some u6 := by rw [e5]; exact cu_set_off a4 (by omega)
    have a6 : w6.cell? ⟨b, 6, none⟩ = some v6 := by rw [e6]; exact World.cell?_setCell_same _ _ _ a5
    have a7 : w7.cell? ⟨b, 6, none⟩ = some v6 := by rw [e7]; exact cu_set_off a6 (by omega)
    have a8 : w8.cell? ⟨b, 6, none⟩ = some v6 := by rw [e8]; exact cu_set_off a7 (by omega)
    exact a8
  have h7 : w8.cell? ⟨b, 7, none⟩ = some v7 := by
    have a0 : w0.cell? ⟨b, 7, none⟩ = some u7 := by rw [e0]; exact cu_set_off r7 (by omega)
    have a1 : w1.cell? ⟨b, 7, none⟩ = some u7 := by rw [e1]; exact cu_set_off a0 (by omega)
    have a2 : w2.cell? ⟨b, 7, none⟩ = some u7 := by rw [e2]; exact cu_set_off a1 (by omega)
    have a3 : w3.cell? ⟨b, 7, none⟩ = some u7 := by rw [e3]; exact cu_set_off a2 (by omega)
    have a4 : w4.cell? ⟨b, 7, none⟩ = some u7 := by rw [e4]; exact cu_set_off a3 (by omega)
    have a5 : w5.cell? ⟨b, 7, none⟩ = some u7 := by rw [e5]; exact cu_set_off a4 (by omega)
    have a6 : w6.cell? ⟨b, 7, none⟩ = some u7 := by rw [e6]; exact cu_set_off a5 (by omega)
    have a7 : w7.cell? ⟨b, 7, none⟩ = some v7 := by rw [e7]; exact World.cell?_setCell_same _ _ _ a6
    have a8 : w8.cell? ⟨b, 7, none⟩ = some v7 := by rw [e8]; exact cu_set_off a7 (by omega)
    exact a8
  have h8 : w8.cell? ⟨b, 8, none⟩ = some v8 := by
    have a0 : w0.cell? ⟨b, 8, none⟩ = some u8 := by rw [e0]; exact cu_set_off r8 (by omega)
    have a1 : w1.cell? ⟨b, 8, none⟩ = some u8 := by rw [e1]; exact cu_set_off a0 (by omega)
    have a2 : w2.cell? ⟨b, 8, none⟩ = some u8 := by rw [e2]; exact cu_set_off a1 (by omega)
    have a3 : w3.cell? ⟨b, 8, none⟩ = some u8 := by rw [e3]; exact cu_set_off a2 (by omega)
    have a4 : w4.cell? ⟨b, 8, none⟩ = some u8 := by rw [e4]; exact cu_set_off a3 (by omega)
    have a5 : w5.cell? ⟨b, 8, none⟩ = some u8 := by rw [e5]; exact cu_set_off a4 (by omega)
    have a6 : w6.cell? ⟨b, 8, none⟩ = some u8 := by rw [e6]; exact cu_set_off a5 (by omega)
    have a7 : w7.cell? ⟨b, 8, none⟩ = some u8 := by rw [e7]; exact cu_set_off a6 (by omega)
    have a8 : w8.cell? ⟨b, 8, none⟩ = some v8 := by rw [e8]; exact World.cell?_setCell_same _ _ _ a7
    exact a8
  have k0 : Keep (fun j => j = b) w w0 := by rw [e0]; exact Keep.setCell (S := fun j => j = b) (p := ⟨b, 0, none⟩) (Keep.refl _ w) (.inl rfl) v0
  have k1 : Keep (fun j => j = b) w w1 := by rw [e1]; exact Keep.setCell (S := fun j => j = b) (p := ⟨b, 1, none⟩) k0 (.inl rfl) v1
  have k2 : Keep (fun j => j = b) w w2 := by rw [e2]; exact Keep.setCell (S := fun j => j = b) (p := ⟨b, 2, none⟩) k1 (.inl rfl) v2
  have k3 : Keep (fun j => j = b) w w3 := by rw [e3]; exact Keep.setCell (S := fun j => j = b) (p := ⟨b, 3, none⟩) k2 (.inl rfl) v3
  have k4 : Keep (fun j => j = b) w w4 := by rw [e4]; exact Keep.setCell (S := fun j => j = b) (p := ⟨b, 4, none⟩) k3 (.inl rfl) v4
  have k5 : Keep (fun j => j = b) w w5 := by rw [e5]; exact Keep.setCell (S := fun j => j = b) (p := ⟨b, 5, none⟩) k4 (.inl rfl) v5
  have k6 : Keep (fun j => j = b) w w6 := by rw [e6]; exact Keep.setCell (S := fun j => j = b) (p := ⟨b, 6, none⟩) k5 (.inl rfl) v6
  have k7 : Keep (fun j => j = b) w w7 := by rw [e7]; exact Keep.setCell (S := fun j => j = b) (p := ⟨b, 7, none⟩) k6 (.inl rfl) v7
  have k8 : Keep (fun j => j = b) w w8 := by rw [e8]; exact Keep.setCell (S := fun j => j = b) (p := ⟨b, 8, none⟩) k7 (.inl rfl) v8
  exact ⟨h0, h1, h2, h3, h4, h5, h6, h7, h8, k8, fun o ho => by
    rw [e8, e7, e6, e5, e4, e3, e2, e1, e0]
    exact fu_set (fu_set (fu_set (fu_set (fu_set (fu_set (fu_set (fu_set (fu_set ho))))))))⟩
theorem alloc_top (w : World) (o : Obj) : (w.alloc o).heap[w.heap.size]? = some o := by show (w.heap.push _)[w.heap.size]? = _; simp
def cfz : Array Value := #[.int .i64 0, .slice none 0 0, .slice none 0 0, .slice none 0 0, .slice none 0 0, .slice none 0 0, .slice none 0 0, .int .i64 0, .slice none 0 0]
/-- what each operation of the finder's making leaves -/
def FCo (w0 : World) (n : Nat) (es : List Ed) (a : Option Addr) (m cap : Nat) : Nat → (Nat → Value) → (Nat → Nat) → (Nat → Nat) → World → Prop
  | 0, X, _, _, _ => X 0 = .agg #[.int .i64 (n : Int), .slice a m cap]
  | 1, X, _, _, _ => X 1 = .agg #[.int .i64 (n : Int), .slice a m cap]
  | 2, X, L, H, w => ∃ O, X 2 = .slice (some ⟨O, 0, none⟩) n n ∧ OutsAt w (L 2) (H 2) O n es ∧ w0.heap.size ≤ L 2
  | 3, X, _, _, _ => X 3 = .int .i64 (n : Int)
  | 4, X, L, H, w => X 4 = .slice (some ⟨L 4, 0, none⟩) n n ∧ L 4 < H 4 ∧ Own encI 1 3 w w0.heap.size (.slice (some ⟨L 4, 0, none⟩) n n) (LI n (fun _ => 0))
  | 5, X, _, _, _ => X 5 = .int .i64 (n : Int)
  | 6, X, L, H, w => X 6 = .slice (some ⟨L 6, 0, none⟩) n n ∧ L 6 < H 6 ∧ Own encI 1 3 w w0.heap.size (.slice (some ⟨L 6, 0, none⟩) n n) (LI n (fun _ => 0))
  | 7, X, _, _, _ => X 7 = .int .i64 (n : Int)
  | 8, X, L, H, w => X 8 = .slice (some ⟨L 8, 0, none⟩) n n ∧ L 8 < H 8 ∧ Own encB 1 4 w w0.heap.size (.slice (some ⟨L 8, 0, none⟩) n n) (ordB n [])
  | 9, X, _, _, _ => X 9 = .int .i64 (n : Int)
  | 10, X, L, H, w => X 10 = .slice (some ⟨L 10, 0, none⟩) n n ∧ L 10 < H 10 ∧ Own encI 1 3 w w0.heap.size (.slice (some ⟨L 10, 0, none⟩) n n) (LI n (fun _ => 0))
  | 11, X, _, _, _ => X 11 = .agg #[.int .i64 (n : Int), .slice a m cap, X 2, X 4, X 6, .slice none 0 0, X 8, .int .i64 0, X 10]
  | 12, X, L, H, w => X 12 = .pointer (some ⟨L 12, 0, none⟩) ∧ L 12 < H 12 ∧ w0.heap.size ≤ L 12 ∧ w.heap[L 12]? = some (.cells cfz 142)
  | _, _, _, _, _ => True
theorem fco_stays {w0 : World} {n : Nat} {es : List Ed} {a : Option Addr} {m cap : Nat} : ∀ (i : Nat) (X : Nat → Value) (L H : Nat → Nat) (w w' : World), FCo w0 n es a m cap i X L H w → Below w.heap.size w w' → FCo w0 n es a m cap i X L H w'
  | 0, _, _, _, _, _, h, _ => h
  | 1, _, _, _, _, _, h, _ => h
  | 2, _, _, _, _, _, ⟨O, h1, h2, h3⟩, hb => ⟨O, h1, h2.stays hb, h3⟩
  | 3, _, _, _, _, _, h, _ => h
  | 4, _, _, _, _, _, ⟨h1, h2, h3⟩, hb => ⟨h1, h2, h3.stays hb⟩
  | 5, _, _, _, _, _, h, _ => h
  | 6, _, _, _, _, _, ⟨h1, h2, h3⟩, hb => ⟨h1, h2, h3.stays hb⟩
  | 7, _, _, _, _, _, h, _ => h
  | 8, _, _, _, _, _, ⟨h1, h2, h3⟩, hb => ⟨h1, h2, h3.stays hb⟩
  | 9, _, _, _, _, _, h, _ => h
  | 10, _, _, _, _, _, ⟨h1, h2, h3⟩, hb => ⟨h1, h2, h3.stays hb⟩
  | 11, _, _, _, _, _, h, _ => h
  | 12, _, _, _, _, _, ⟨h1, h2, h3, h4⟩, hb => ⟨h1, h2, h3, by rw [hb.block _ (Array.getElem?_eq_some_iff.1 h4).1]; exact h4⟩
  | _ + 13, _, _, _, _, _, _, _ => trivial
theorem fco_loc {w0 : World} {n : Nat} {es : List Ed} {a : Option Addr} {m cap : Nat} : ∀ (i : Nat) (X : Nat → Value) (L H : Nat → Nat) (X' : Nat → Value) (L' H' : Nat → Nat) (w : World), (X i = X' i ∧ L i = L' i ∧ H i = H' i) → (i = 11 → X 2 = X' 2 ∧ X 4 = X' 4 ∧ X 6 = X' 6 ∧ X 8 = X' 8 ∧ X 10 = X' 10) → FCo w0 n es a m cap i X L H w → FCo w0 n es a m cap i X' L' H' w
  | 0, _, _, _, _, _, _, _, ⟨a, b, c⟩, _, h => by simp only [FCo] at h ⊢; rw [← a]; exact h
  | 1, _, _, _, _, _, _, _, ⟨a, b, c⟩, _, h => by simp only [FCo] at h ⊢; rw [← a]; exact h
  | 2, _, _, _, _, _, _, _, ⟨a, b, c⟩, _, h => by simp only [FCo] at h ⊢; rw [← a, ← b, ← c]; exact h
  | 3, _, _, _, _, _, _, _, ⟨a, b, c⟩, _, h => by simp only [FCo] at h ⊢; rw [← a]; exact h
  | 4, _, _, _, _, _, _, _, ⟨a, b, c⟩, _, h => by simp only [FCo] at h ⊢; rw [← a, ← b, ← c]; exact h
  | 5, _, _, _, _, _, _, _, ⟨a, b, c⟩, _, h => by simp only [FCo] at h ⊢; rw [← a]; exact h
  | 6, _, _, _, _, _, _, _, ⟨a, b, c⟩, _, h => by simp only [FCo] at h ⊢; rw [← a, ← b, ← c]; exact h
  | 7, _, _, _, _, _, _, _, ⟨a, b, c⟩, _, h => by simp only [FCo] at h ⊢; rw [← a]; exact h
  | 8, _, _, _, _, _, _, _, ⟨a, b, c⟩, _, h => by simp only [FCo] at h ⊢; rw [← a, ← b, ← c]; exact h
  | 9, _, _, _, _, _, _, _, ⟨a, b, c⟩, _, h => by simp only [FCo] at h ⊢; rw [← a]; exact h
  | 10, _, _, _, _, _, _, _, ⟨a, b, c⟩, _, h => by simp only [FCo] at h ⊢; rw [← a, ← b, ← c]; exact h
  | 11, _, _, _, _, _, _, _, ⟨a, b, c⟩, k, h => by
    simp only [FCo] at h ⊢
    obtain ⟨k1, k2, k3, k4, k5⟩ := k rfl
    rw [← a, ← k1, ← k2, ← k3, ← k4, ← k5]; exact h
  | 12, _, _, _, _, _, _, _, ⟨a, b, c⟩, _, h => by simp only [FCo] at h ⊢; rw [← a, ← b, ← c]; exact h
  | _ + 13, _, _, _, _, _, _, _, _, _, _ => trivial
/-- the finder made -/
structure CMade (w0 : World) (n : Nat) (a : Option Addr) (m cap : Nat) (es : List Ed) (fb O gi gl gt gm lo hi : Nat) (wx : World) : Prop where
  cx : CX w0.heap.size n a m cap fb O gi gl gt gm (.slice none 0 0) tstart wx wx
  outs : OutsAt wx lo hi O n es
  below : Below w0.heap.size w0 wx
  low : w0.heap.size ≤ lo
  dis : ∀ j, CXb fb gi gl gt gm j → w0.heap.size ≤ j ∧ (j < lo ∨ hi ≤ j)
def MidC (w0 : World) (n : Nat) (a : Option Addr) (m cap : Nat) (es : List Ed) (s6 : Value) (wx : World) : Prop :=
  ∃ fb O gi gl gt gm lo hi, s6 = .pointer (some ⟨fb, 0, none⟩) ∧ CMade w0 n a m cap es fb O gi gl gt gm lo hi wx
theorem CMade.ce {w0 wx : World} {n m cap fb O gi gl gt gm lo hi B : Nat} {a : Option Addr} {es : List Ed} (h : CMade w0 n a m cap es fb O gi gl gt gm lo hi wx) (hB : B ≤ w0.heap.size) (hE : Row encE 3 w0 B a es) (hn : 0 < n) : CE n m cap fb O gi gl gt gm B a es wx := by
  obtain ⟨_, _, _, O1, O2, O3, _, _⟩ := h.outs.row 0 hn
  have hlow := h.low
  have hz := h.below.size
  have hd := h.dis
  refine ⟨fun w' kp => kp.row (hE.below h.below hB) (by omega) (fun k hk hc => by have := (hd k hc).1; omega), fun v hv => ?_, ⟨by omega, by omega⟩, fun hc => by have := (hd O hc).2; omega⟩
  obtain ⟨av, cv, rc, r1, r2, r3, rown, rb⟩ := h.outs.row v hv
  refine ⟨av, cv, fun w' kp => ⟨kp.cu rc (fun hc => by have := (hd O hc).2; omega), ?_⟩⟩
  have hr := own_rowL rown
  exact (own_rowL (kp.own rown (fun j hj hc => by have := rb j hj; have := (hd j hc).2; omega))).rebase hr
/-- what comp.Of answers -/
def OfAns (n : Nat) (es : List Ed) (w : World) (e : Ending) (w' : World) : Prop := ∃ g, e = .returned (.tuple #[.slice (some ⟨g, 0, none⟩) n n, .int .i64 0]) ∧ Own encI 1 3 w' w.heap.size (.slice (some ⟨g, 0, none⟩) n n) (LI n (ZI (tall (nes es) n n).lst)) ∧ Below w.heap.size w w'
set_option maxHeartbeats 1000000 in
theorem of_bad (N : Int) (a : Option Addr) (cap : Nat) (es : List Ed) (w : World) (B : Nat) (hB : B ≤ w.heap.size) (hE : Row encE 3 w B a es) (hl : es.length ≤ 9223372036854775807) (h0 : netErr N es ≠ 0) :
    Calls Try.prog 33 #[.agg #[.int .i64 N, .slice a es.length cap]] w fun e w' => e = .returned (.tuple #[.slice none 0 0, .int .i64 (netErr N es)]) ∧ Below w.heap.size w w' := by
  have q0 : (netErr N es != 0) = true := by simp [h0]
  replace hE := hide hE
  clear h0
  go_enter Try.func33, Try.ntmps33
  go_wp2_with fail
  refine (check_any N a cap es _ B (by simp <;> omega) (hE.out.below ((by repeat (first | with_reducible exact Below.refl _ _ | with_reducible assumption | with_reducible refine up_drewN ?_ | with_reducible refine up_drew ?_ | (with_reducible refine up_alloc ?_ ?_; rotate_left; (first | omega | (simp <;> omega) | simp)) | (with_reducible refine up_set ?_ ?_; rotate_left; (first | omega | (simp <;> omega) | simp)) | (with_reducible refine Below.trans ?_ (Below.mono (by with_reducible assumption) ?_); rotate_left; (first | omega | (simp <;> omega) | simp)))) : Below w.heap.size w _) hB) hl).mono ?_
  rintro e w1 ⟨rfl, hb1⟩
  go_wp2
  go_ret2
  exact ⟨rfl, (by repeat (first | with_reducible exact Below.refl _ _ | with_reducible assumption | with_reducible refine up_drewN ?_ | with_reducible refine up_drew ?_ | (with_reducible refine up_alloc ?_ ?_; rotate_left; (first | omega | (simp <;> omega) | simp)) | (with_reducible refine up_set ?_ ?_; rotate_left; (first | omega | (simp <;> omega) | simp)) | (with_reducible refine Below.trans ?_ (Below.mono (by with_reducible assumption) ?_); rotate_left; (first | omega | (simp <;> omega) | simp))))⟩
set_option maxRecDepth 100000 in
set_option maxHeartbeats 8000000 in
theorem of_ok (n : Nat) (a : Option Addr) (cap : Nat) (es : List Ed) (w : World) (B : Nat) (hB : B ≤ w.heap.size) (hE : Row encE 3 w B a es) (hl : es.length ≤ 9223372036854775807) (h0 : netErr (n : Int) es = 0) :
    Calls Try.prog 33 #[.agg #[.int .i64 (n : Int), .slice a es.length cap]] w (OfAns n es w) := by
  obtain ⟨n1, n2, n3, n4⟩ := netErr_ok h0
  have hes : Right n es := n4
  have hn : n ≤ 64 := by omega
  have hC := hide (show ∀ w B, _ from fun w B hB hE => by have := check_any (n : Int) a cap es w B hB hE hl; rwa [h0] at this)
  have hmk := fun w => run_zeros w n (by omega)
  have hmkB := fun w => run_zerosB w n (by omega)
  replace hE := hide hE
  replace hes := hide hes
  clear h0 n4
  go_enter Try.func33, Try.ntmps33
  go_wp2_with fail
  refine (hC.out _ B (by simp <;> omega) (hE.out.below ((by repeat (first | with_reducible exact Below.refl _ _ | with_reducible assumption | with_reducible refine up_drewN ?_ | with_reducible refine up_drew ?_ | (with_reducible refine up_alloc ?_ ?_; rotate_left; (first | omega | (simp <;> omega) | simp)) | (with_reducible refine up_set ?_ ?_; rotate_left; (first | omega | (simp <;> omega) | simp)) | (with_reducible refine Below.trans ?_ (Below.mono (by with_reducible assumption) ?_); rotate_left; (first | omega | (simp <;> omega) | simp)))) : Below w.heap.size w _) hB)).mono ?_
  rintro e w0 ⟨rfl, hb1⟩
  have k0 : w0.cell? ⟨w.heap.size, 0, none⟩ = some (.int .i64 (n : Int)) := cu_below hb1 (by simp [go_sem]) (by simp <;> omega)
  have k1 : w0.cell? ⟨w.heap.size, 1, none⟩ = some (.slice a es.length cap) := cu_below hb1 (by simp [go_sem]) (by simp <;> omega)
  have hz1 : w.heap.size < w0.heap.size := cell_lt k0
  have hbw1 := hide (show Below w.heap.size w w0 from (by repeat (first | with_reducible exact Below.refl _ _ | with_reducible assumption | with_reducible refine up_drewN ?_ | with_reducible refine up_drew ?_ | (with_reducible refine up_alloc ?_ ?_; rotate_left; (first | omega | (simp <;> omega) | simp)) | (with_reducible refine up_set ?_ ?_; rotate_left; (first | omega | (simp <;> omega) | simp)) | (with_reducible refine Below.trans ?_ (Below.mono (by with_reducible assumption) ?_); rotate_left; (first | omega | (simp <;> omega) | simp)))))
  have hE0 := hide (hE.out.below hbw1.out hB)
  clear hb1 hC
  go_upto_region 5 with fail
  have key0 := hide (show ∀ w', Below w0.heap.size w0 w' → (Below w0.heap.size w0 w' ∧ w'.cell? ⟨w.heap.size, 0, none⟩ = some (.int .i64 (n : Int)) ∧ w'.cell? ⟨w.heap.size, 1, none⟩ = some (.slice a es.length cap) ∧ w0.heap.size ≤ w'.heap.size) from
    fun w' hb => ⟨hb, cu_below hb k0 hz1, cu_below hb k1 hz1, hb.size⟩)
  replace k0 := hide k0
  replace k1 := hide k1
  go_cut [6] (fun s6 wx => MidC w0 n a es.length cap es s6 wx)
  case first =>
    refine wp_region_inw 13 (by kernel_rfl) [some 15, some 16, some 17, some 18, some 19, some 20, some 21, some 22, some 23, some 24, some 25, some 26, some 6] (FCo w0 n es a es.length cap) (fun w' => Below w0.heap.size w0 w' ∧ w'.cell? ⟨w.heap.size, 0, none⟩ = some (.int .i64 (n : Int)) ∧ w'.cell? ⟨w.heap.size, 1, none⟩ = some (.slice a es.length cap) ∧ w0.heap.size ≤ w'.heap.size) (fun w w' => Below w.heap.size w w') (by kernel_rfl) (by kernel_rfl) (by kernel_rfl) (by kernel_rfl) (fco_stays) (fun i X L H X' L' H' w h hf => fco_loc i X L H X' L' H' w (h i (.inl rfl)) (fun e => by subst e; exact ⟨(h 2 (.inr (by kernel_rfl))).1, (h 4 (.inr (by kernel_rfl))).1, (h 6 (.inr (by kernel_rfl))).1, (h 8 (.inr (by kernel_rfl))).1, (h 10 (.inr (by kernel_rfl))).1⟩) hf) (fun _ _ h => h.size) (key0.out _ (below_drew _)) ?steps ?hend
    case steps =>
      refine ⟨?_, ?_, ?_, ?_, ?_, ?_, ?_, ?_, ?_, ?_, ?_, ?_, ?_, trivial⟩
      · intro X L H wI hS hd hp K hK
        have hS0 := hide hS
        (try dsimp only at hS)
        simp only [putAll, Act.put, List.setIfInBounds_toArray, List.set_cons_zero, List.set_cons_succ]
        go_simp
        refine hK _ _ wI.heap.size wI.heap.size _ ?_ (Nat.le_refl _) (Nat.le_refl _) (Nat.le_refl _) (Below.refl _ _) hS0.out rfl
        simp only [putAll, Act.put, List.setIfInBounds_toArray, List.set_cons_zero, List.set_cons_succ]
      · intro X L H wI hS hd hp K hK
        have hS0 := hide hS
        (try dsimp only at hS)
        simp only [putAll, Act.put, List.setIfInBounds_toArray, List.set_cons_zero, List.set_cons_succ]
        go_simp
        refine hK _ _ wI.heap.size wI.heap.size _ ?_ (Nat.le_refl _) (Nat.le_refl _) (Nat.le_refl _) (Below.refl _ _) hS0.out rfl
        simp only [putAll, Act.put, List.setIfInBounds_toArray, List.set_cons_zero, List.set_cons_succ]
      · intro X L H wI hS hd hp K hK
        (try have h1 : X 1 = _ := (hd 1 (by kernel_rfl)).1)
        have hS0 := hide hS
        (try dsimp only at hS)
        simp only [putAll, Act.put, List.setIfInBounds_toArray, List.set_cons_zero, List.set_cons_succ]
        (go_simp; go_at_call 94; refine (outs_any n a cap es _ w0.heap.size hS0.out.2.2.2 ((hE0.out.mono (by omega)).below hS0.out.1 (Nat.le_refl _)) hn (by omega) (fun e he => by have := hes.out e he; omega)).mono ?_; rintro e wO ⟨O, rfl, oOwn, hb5⟩; exact hK _ _ wI.heap.size wO.heap.size _ (by simp only [putAll, Act.put, List.setIfInBounds_toArray, List.set_cons_zero, List.set_cons_succ, h1]) (Nat.le_refl _) hb5.size (Nat.le_refl _) hb5 (key0.out _ (hS0.out.1.trans (hb5.mono hS0.out.2.2.2))) ⟨O, rfl, OutsAt.made oOwn, hS0.out.2.2.2⟩)
      · intro X L H wI hS hd hp K hK
        have hS0 := hide hS
        (try dsimp only at hS)
        simp only [putAll, Act.put, List.setIfInBounds_toArray, List.set_cons_zero, List.set_cons_succ]
        go_simp
        refine hK _ _ wI.heap.size wI.heap.size _ ?_ (Nat.le_refl _) (Nat.le_refl _) (Nat.le_refl _) (Below.refl _ _) hS0.out rfl
        simp only [putAll, Act.put, List.setIfInBounds_toArray, List.set_cons_zero, List.set_cons_succ]
      · intro X L H wI hS hd hp K hK
        (try have h3 : X 3 = _ := (hd 3 (by kernel_rfl)).1)
        have hS0 := hide hS
        (try dsimp only at hS)
        simp only [putAll, Act.put, List.setIfInBounds_toArray, List.set_cons_zero, List.set_cons_succ]
        (go_simp; exact hK _ (.slice (some ⟨wI.heap.size, 0, none⟩) n n) wI.heap.size (wI.heap.size + 1) _ (by simp only [putAll, Act.put, List.setIfInBounds_toArray, List.set_cons_zero, List.set_cons_succ, h3]) (Nat.le_refl _) (by omega) (by simp) ((Below.refl _ _).alloc (Nat.le_refl _) _) (key0.out _ (hS0.out.1.alloc hS0.out.2.2.2 _)) ⟨rfl, by simp [updN], own_zeros _ _ _ hS0.out.2.2.2 (by omega)⟩)
      · intro X L H wI hS hd hp K hK
        have hS0 := hide hS
        (try dsimp only at hS)
        simp only [putAll, Act.put, List.setIfInBounds_toArray, List.set_cons_zero, List.set_cons_succ]
        go_simp
        refine hK _ _ wI.heap.size wI.heap.size _ ?_ (Nat.le_refl _) (Nat.le_refl _) (Nat.le_refl _) (Below.refl _ _) hS0.out rfl
        simp only [putAll, Act.put, List.setIfInBounds_toArray, List.set_cons_zero, List.set_cons_succ]
      · intro X L H wI hS hd hp K hK
        (try have h5 : X 5 = _ := (hd 5 (by kernel_rfl)).1)
        have hS0 := hide hS
        (try dsimp only at hS)
        simp only [putAll, Act.put, List.setIfInBounds_toArray, List.set_cons_zero, List.set_cons_succ]
        (go_simp; exact hK _ (.slice (some ⟨wI.heap.size, 0, none⟩) n n) wI.heap.size (wI.heap.size + 1) _ (by simp only [putAll, Act.put, List.setIfInBounds_toArray, List.set_cons_zero, List.set_cons_succ, h5]) (Nat.le_refl _) (by omega) (by simp) ((Below.refl _ _).alloc (Nat.le_refl _) _) (key0.out _ (hS0.out.1.alloc hS0.out.2.2.2 _)) ⟨rfl, by simp [updN], own_zeros _ _ _ hS0.out.2.2.2 (by omega)⟩)
      · intro X L H wI hS hd hp K hK
        have hS0 := hide hS
        (try dsimp only at hS)
        simp only [putAll, Act.put, List.setIfInBounds_toArray, List.set_cons_zero, List.set_cons_succ]
        go_simp
        refine hK _ _ wI.heap.size wI.heap.size _ ?_ (Nat.le_refl _) (Nat.le_refl _) (Nat.le_refl _) (Below.refl _ _) hS0.out rfl
        simp only [putAll, Act.put, List.setIfInBounds_toArray, List.set_cons_zero, List.set_cons_succ]
      · intro X L H wI hS hd hp K hK
        (try have h7 : X 7 = _ := (hd 7 (by kernel_rfl)).1)
        have hS0 := hide hS
        (try dsimp only at hS)
        simp only [putAll, Act.put, List.setIfInBounds_toArray, List.set_cons_zero, List.set_cons_succ]
        (go_simp; exact hK _ (.slice (some ⟨wI.heap.size, 0, none⟩) n n) wI.heap.size (wI.heap.size + 1) _ (by simp only [putAll, Act.put, List.setIfInBounds_toArray, List.set_cons_zero, List.set_cons_succ, h7]) (Nat.le_refl _) (by omega) (by simp) ((Below.refl _ _).alloc (Nat.le_refl _) _) (key0.out _ (hS0.out.1.alloc hS0.out.2.2.2 _)) ⟨rfl, by simp [updN], own_zerosB _ _ _ hS0.out.2.2.2 (by omega)⟩)
      · intro X L H wI hS hd hp K hK
        have hS0 := hide hS
        (try dsimp only at hS)
        simp only [putAll, Act.put, List.setIfInBounds_toArray, List.set_cons_zero, List.set_cons_succ]
        go_simp
        refine hK _ _ wI.heap.size wI.heap.size _ ?_ (Nat.le_refl _) (Nat.le_refl _) (Nat.le_refl _) (Below.refl _ _) hS0.out rfl
        simp only [putAll, Act.put, List.setIfInBounds_toArray, List.set_cons_zero, List.set_cons_succ]
      · intro X L H wI hS hd hp K hK
        (try have h9 : X 9 = _ := (hd 9 (by kernel_rfl)).1)
        have hS0 := hide hS
        (try dsimp only at hS)
        simp only [putAll, Act.put, List.setIfInBounds_toArray, List.set_cons_zero, List.set_cons_succ]
        (go_simp; exact hK _ (.slice (some ⟨wI.heap.size, 0, none⟩) n n) wI.heap.size (wI.heap.size + 1) _ (by simp only [putAll, Act.put, List.setIfInBounds_toArray, List.set_cons_zero, List.set_cons_succ, h9]) (Nat.le_refl _) (by omega) (by simp) ((Below.refl _ _).alloc (Nat.le_refl _) _) (key0.out _ (hS0.out.1.alloc hS0.out.2.2.2 _)) ⟨rfl, by simp [updN], own_zeros _ _ _ hS0.out.2.2.2 (by omega)⟩)
      · intro X L H wI hS hd hp K hK
        (try have h0 : X 0 = _ := (hd 0 (by kernel_rfl)).1)
        (try have h2 : X 2 = _ := (hd 2 (by kernel_rfl)).1)
        (try have h4 : X 4 = _ := (hd 4 (by kernel_rfl)).1)
        (try have h6 : X 6 = _ := (hd 6 (by kernel_rfl)).1)
        (try have h8 : X 8 = _ := (hd 8 (by kernel_rfl)).1)
        (try have h10 : X 10 = _ := (hd 10 (by kernel_rfl)).1)
        have hS0 := hide hS
        (try dsimp only at hS)
        simp only [putAll, Act.put, List.setIfInBounds_toArray, List.set_cons_zero, List.set_cons_succ]
        (obtain ⟨O, g2, -⟩ := (hd 2 (by kernel_rfl)).1; obtain ⟨g4, -, -⟩ := (hd 4 (by kernel_rfl)).1; obtain ⟨g6, -, -⟩ := (hd 6 (by kernel_rfl)).1; obtain ⟨g8, -, -⟩ := (hd 8 (by kernel_rfl)).1; obtain ⟨g10, -, -⟩ := (hd 10 (by kernel_rfl)).1; have g0 := (hd 0 (by kernel_rfl)).1; simp only [FCo] at g0; go_simp; exact hK _ (.agg #[.int .i64 (n : Int), .slice a es.length cap, X 2, X 4, X 6, .slice none 0 0, X 8, .int .i64 0, X 10]) wI.heap.size wI.heap.size _ (by simp only [putAll, Act.put, List.setIfInBounds_toArray, List.set_cons_zero, List.set_cons_succ, g0, g2, g4, g6, g8, g10]) (Nat.le_refl _) (Nat.le_refl _) (Nat.le_refl _) (Below.refl _ _) hS0.out (by simp [FCo, updX]))
      · intro X L H wI hS hd hp K hK
        have hS0 := hide hS
        (try dsimp only at hS)
        simp only [putAll, Act.put, List.setIfInBounds_toArray, List.set_cons_zero, List.set_cons_succ]
        (go_simp; exact hK _ (.pointer (some ⟨wI.heap.size, 0, none⟩)) wI.heap.size (wI.heap.size + 1) _ (by simp only [putAll, Act.put, List.setIfInBounds_toArray, List.set_cons_zero, List.set_cons_succ]) (Nat.le_refl _) (by omega) (by simp) ((Below.refl _ _).alloc (Nat.le_refl _) _) (key0.out _ (hS0.out.1.alloc hS0.out.2.2.2 _)) ⟨rfl, by simp [updN], by simp [updN]; exact hS0.out.2.2.2, by simp only [updN, if_true]; exact alloc_top _ _⟩)
    case hend =>
      intro X L H wI hS hF hP
      (obtain ⟨O, f2, o2, k2⟩ := (hF 2 (by omega)).1; obtain ⟨f4, l4, o4⟩ := (hF 4 (by omega)).1; obtain ⟨f6, l6, o6⟩ := (hF 6 (by omega)).1; obtain ⟨f8, l8, o8⟩ := (hF 8 (by omega)).1; obtain ⟨f10, l10, o10⟩ := (hF 10 (by omega)).1; have f11 : X 11 = _ := (hF 11 (by omega)).1; obtain ⟨f12, l12, k12, b12⟩ := (hF 12 (by omega)).1; rw [f2, f4, f6, f8, f10] at f11; have z2 := (hF 2 (by omega)).2; have z4 := (hF 4 (by omega)).2; have z6 := (hF 6 (by omega)).2; have z8 := (hF 8 (by omega)).2; have z10 := (hF 10 (by omega)).2; have z12 := (hF 12 (by omega)).2; have p2_4 := hP 2 4 (by omega) (by omega) (by omega); have p2_6 := hP 2 6 (by omega) (by omega) (by omega); have p2_8 := hP 2 8 (by omega) (by omega) (by omega); have p2_10 := hP 2 10 (by omega) (by omega) (by omega); have p2_12 := hP 2 12 (by omega) (by omega) (by omega); have p4_6 := hP 4 6 (by omega) (by omega) (by omega); have p4_8 := hP 4 8 (by omega) (by omega) (by omega); have p4_10 := hP 4 10 (by omega) (by omega) (by omega); have p4_12 := hP 4 12 (by omega) (by omega) (by omega); have p6_8 := hP 6 8 (by omega) (by omega) (by omega); have p6_10 := hP 6 10 (by omega) (by omega) (by omega); have p6_12 := hP 6 12 (by omega) (by omega) (by omega); have p8_10 := hP 8 10 (by omega) (by omega) (by omega); have p8_12 := hP 8 12 (by omega) (by omega) (by omega); have p10_12 := hP 10 12 (by omega) (by omega) (by omega); have r0 : wI.cell? ⟨L 12, 0, none⟩ = some _ := (by unfold World.cell?; simp [b12, cfz]; rfl); have r1 : wI.cell? ⟨L 12, 1, none⟩ = some _ := (by unfold World.cell?; simp [b12, cfz]; rfl); have r2 : wI.cell? ⟨L 12, 2, none⟩ = some _ := (by unfold World.cell?; simp [b12, cfz]; rfl); have r3 : wI.cell? ⟨L 12, 3, none⟩ = some _ := (by unfold World.cell?; simp [b12, cfz]; rfl); have r4 : wI.cell? ⟨L 12, 4, none⟩ = some _ := (by unfold World.cell?; simp [b12, cfz]; rfl); have r5 : wI.cell? ⟨L 12, 5, none⟩ = some _ := (by unfold World.cell?; simp [b12, cfz]; rfl); have r6 : wI.cell? ⟨L 12, 6, none⟩ = some _ := (by unfold World.cell?; simp [b12, cfz]; rfl); have r7 : wI.cell? ⟨L 12, 7, none⟩ = some _ := (by unfold World.cell?; simp [b12, cfz]; rfl); have r8 : wI.cell? ⟨L 12, 8, none⟩ = some _ := (by unfold World.cell?; simp [b12, cfz]; rfl); have q0 : wI.frozen? ⟨L 12, 0, none⟩ = false := (by unfold World.frozen?; simp [b12]); have q1 : wI.frozen? ⟨L 12, 1, none⟩ = false := (by unfold World.frozen?; simp [b12]); have q2 : wI.frozen? ⟨L 12, 2, none⟩ = false := (by unfold World.frozen?; simp [b12]); have q3 : wI.frozen? ⟨L 12, 3, none⟩ = false := (by unfold World.frozen?; simp [b12]); have q4 : wI.frozen? ⟨L 12, 4, none⟩ = false := (by unfold World.frozen?; simp [b12]); have q5 : wI.frozen? ⟨L 12, 5, none⟩ = false := (by unfold World.frozen?; simp [b12]); have q6 : wI.frozen? ⟨L 12, 6, none⟩ = false := (by unfold World.frozen?; simp [b12]); have q7 : wI.frozen? ⟨L 12, 7, none⟩ = false := (by unfold World.frozen?; simp [b12]); have q8 : wI.frozen? ⟨L 12, 8, none⟩ = false := (by unfold World.frozen?; simp [b12]); have hS' := hide hS; clear hS hF hP; replace o2 := hide o2; replace o4 := hide o4; replace o6 := hide o6; replace o8 := hide o8; replace o10 := hide o10)
      simp only [putAll, Act.put, List.setIfInBounds_toArray, List.set_cons_zero, List.set_cons_succ, f2, f4, f6, f8, f10, f11, f12]
      change wpAny _ _ _ _ (0 + 1) _ _ _
      refine wpAny_ready (rs := [13]) (by kernel_rfl) (by simp) (AllReady.cons rfl (fun K hK => ?_) AllReady.nil)
      go_simp
      refine hK _ _ ?_
      clear hK K
      refine wpAny_done (by kernel_rfl) ?_ _
      go_wp2_with fail
      go_meet
      case rel =>
        have hS0 := hS'.out
        have hne1 : L 12 ≠ L 4 ∧ L 12 ≠ L 6 ∧ L 12 ≠ L 8 ∧ L 12 ≠ L 10 ∧ L 4 ≠ L 6 ∧ L 4 ≠ L 8 ∧ L 4 ≠ L 10 ∧ L 6 ≠ L 8 ∧ L 6 ≠ L 10 ∧ L 8 ≠ L 10 := by omega
        obtain ⟨W, hW, m0, m1, m2, m3, m4, m5, m6, m7, m8, kp, fz⟩ := set9 (.int .i64 (n : Int)) (.slice a es.length cap) (.slice (some ⟨O, 0, none⟩) n n) (.slice (some ⟨L 4, 0, none⟩) n n) (.slice (some ⟨L 6, 0, none⟩) n n) (.slice none 0 0) (.slice (some ⟨L 8, 0, none⟩) n n) (.int .i64 0) (.slice (some ⟨L 10, 0, none⟩) n n) r0 r1 r2 r3 r4 r5 r6 r7 r8
        rw [← hW]
        clear hW
        have hb9 := hS0.1.trans (kp.toBelow (fun j hj => by omega) hS0.2.2.2)
        have hO := o2.out
        have hWz := kp.size
        have b4 := (o4.out.block_lt (L 4) (by simp [Value.ownBlock])).1
        have b6 := (o6.out.block_lt (L 6) (by simp [Value.ownBlock])).1
        have b8 := (o8.out.block_lt (L 8) (by simp [Value.ownBlock])).1
        have b10 := (o10.out.block_lt (L 10) (by simp [Value.ownBlock])).1
        refine ⟨L 12, O, L 4, L 6, L 8, L 10, L 2, H 2, rfl, ⟨⟨m0, m1, m2, m3, m4, m5, m6, m7, m8, fun o => ?_, kp.own o4.out (fun j hj => by simp [Value.ownBlock] at hj; omega), kp.own o6.out (fun j hj => by simp [Value.ownBlock] at hj; omega), ?_, kp.own o10.out (fun j hj => by simp [Value.ownBlock] at hj; omega), Own.nil _ _, Keep.refl _ _, by omega, hne1⟩, hO.later kp (fun k h1 h2 hk => by have hk' : k = L 12 := hk; omega), hb9, by omega, fun j hj => by unfold CXb at hj; omega⟩⟩
        · exact fz o (by unfold World.frozen?; simp [b12])
        · have h8 := kp.own o8.out (fun j hj => by simp [Value.ownBlock] at hj; omega)
          rwa [← ordB_nil, rw_rep] at h8
  case rest =>
    clear hmk hmkB key0 k0 k1
    obtain ⟨fb, O, gi, gl, gt, gm, lo, hi, rfl, hM⟩ := hcut
    have hCE := hide (hM.ce (B := B) (by omega) hE0.out (by omega))
    have hX0 := hide hM.cx
    have hbw2 := hide (hbw1.out.trans (hM.below.mono (by omega)))
    have hzw := hM.below.size
    have hup := hide (show ∀ w', Keep (CXb fb gi gl gt gm) wc w' → Below w.heap.size w w' from fun w' kp => hbw2.out.trans (kp.toBelow (fun j hj => by have := (hM.dis j hj).1; omega) (by omega)))
    clear hM hbw2
    obtain ⟨wS, hwS⟩ : ∃ wS, wS = wc := ⟨_, rfl⟩
    simp only [← hwS] at hX0 hCE hup hzw ⊢
    clear hwS wc
    go_wp2
    go_loopw [28] (fun s28 wr => ∃ (k : Nat) (ao : Option Addr) (K co : Nat), k ≤ n ∧ s28 = .int .i64 (k : Int) ∧ Hid (K = (tall (nes es) n k).st.length) ∧ Hid (CX w0.heap.size n a es.length cap fb O gi gl gt gm (.slice ao K co) (tall (nes es) n k) wS wr)) (fun s28 _ => n - (intOf s28).toNat)
    case atStart => exact ⟨0, none, 0, 0, Nat.zero_le _, rfl, rfl, hX0⟩
    case round =>
      clear hX0
      obtain ⟨k, ao, K, co, hk, rfl, hK, hX⟩ := hrel
      by_cases hlt : k < n
      · have ik : (0 : Int) ≤ (k : Int) ∧ (k : Int) < (n : Int) := by omega
        have c3 := hX.out.c3
        have dI := hX.out.idx.atI k hlt
        have zfb := cell_lt c3
        have zI := cell_lt dI
        simp only at zfb zI
        have hTW := hide (tall_tw (nes_right hes.out) k hk)
        by_cases h0 : (tall (nes es) n k).idx k = 0
        · have dI0 : wr.cell? ⟨gi, k, none⟩ = some (.int .i64 0) := by rw [dI]; simp [ZI, h0]
          have hst : tall (nes es) n (k + 1) = tvisit (nes es) n (tall (nes es) n k) k := by rw [tall, if_pos h0]
          have hcall := hide (visit_any w0.heap.size n es.length cap fb O gi gl gt gm B a es wS rfl hn n3 hes.out hCE.out n (tall (nes es) n k) k ao K co wr hK.out hX.out hTW.out h0 hlt (whites_le n _))
          rw [← hst] at hcall
          clear dI h0 hst
          go_wp2_with fail
          refine hcall.out.mono ?_
          rintro e w5 ⟨rfl, ao', K', co', hK', hX'⟩
          clear hcall hX hK c3 dI0 zfb zI
          replace hK' := hide hK'
          replace hX' := hide hX'
          go_wp2
          go_roundw
          case rel => exact ⟨k + 1, ao', K', co', by omega, by first | rfl | simp, hK', hX'⟩
          case measure => simp [intOf]; omega
        · have hst : tall (nes es) n (k + 1) = tall (nes es) n k := by rw [tall, if_neg h0]
          have hx : (ZI (tall (nes es) n k).idx k == 0) = false := by simp [ZI, h0]
          rw [← hst] at hX hK
          generalize ZI (tall (nes es) n k).idx k = y at dI hx
          clear h0 hst
          go_wp2
          go_roundw
          case rel => exact ⟨k + 1, ao, K, co, by omega, by first | rfl | simp, hK, hX⟩
          case measure => simp [intOf]; omega
      · obtain rfl : k = n := by omega
        have c8 := hX.out.c8
        have zfb := cell_lt c8
        simp only at zfb
        go_wp2
        go_ret2
        exact ⟨gm, rfl, hX.out.lst.base_le (by omega), hup.out _ hX.out.keep⟩
end Go.Proofs.Ytcehdpeeaogpiaa
