/-
  Frames: a later world keeps all old blocks but those of a set. No condition, no program.
-/
import Derived.Test.YtdpbkhempgghaaaOwn3
namespace Go.Proofs.Ytdpbkhempgghaaa
open Go.RowKit

/-- w' is w but for new blocks and for what was written to blocks of the set S -/
structure Keep (S : Nat → Prop) (w w' : World) : Prop where
  os : w'.os = w.os
  tape : w'.tape = w.tape
  output : w'.output = w.output
  size : w.heap.size ≤ w'.heap.size
  block : ∀ k, k < w.heap.size → ¬ S k → w'.heap[k]? = w.heap[k]?

theorem Keep.refl (S : Nat → Prop) (w : World) : Keep S w w := ⟨rfl, rfl, rfl, Nat.le_refl _, fun _ _ _ => rfl⟩
theorem Keep.trans {S : Nat → Prop} {a b c : World} (h : Keep S a b) (k : Keep S b c) : Keep S a c :=
  ⟨k.os.trans h.os, k.tape.trans h.tape, k.output.trans h.output, Nat.le_trans h.size k.size, fun i hi hs => (k.block i (Nat.lt_of_lt_of_le hi h.size) hs).trans (h.block i hi hs)⟩
theorem Keep.mono {S T : Nat → Prop} {a b : World} (h : Keep S a b) (hs : ∀ k, k < a.heap.size → S k → T k) : Keep T a b :=
  ⟨h.os, h.tape, h.output, h.size, fun i hi ht => h.block i hi (fun x => ht (hs i hi x))⟩
theorem Keep.drew {S : Nat → Prop} {a b : World} (h : Keep S a b) : Keep S a b.drew := ⟨h.os, h.tape, h.output, h.size, h.block⟩
theorem Keep.drewN {S : Nat → Prop} {a b : World} (h : Keep S a b) (n : Nat) : Keep S a (b.drewN n) := by
  induction n with
  | zero => exact h
  | succ n ih => exact ⟨ih.os, ih.tape, ih.output, ih.size, ih.block⟩
theorem Keep.ofBelow {S : Nat → Prop} {B : Nat} {a b : World} (h : Below B a b) (hs : ∀ k, k < a.heap.size → B ≤ k → S k) : Keep S a b :=
  ⟨h.os, h.tape, h.output, h.size, fun i hi hn => h.block i (by
    rcases Nat.lt_or_ge i B with hh | hh
    · exact hh
    · exact absurd (hs i hi hh) hn)⟩
theorem Keep.new {S : Nat → Prop} {a b : World} (h : Below a.heap.size a b) : Keep S a b := Keep.ofBelow h (fun k h1 h2 => by omega)
theorem Keep.toBelow {S : Nat → Prop} {B : Nat} {a b : World} (h : Keep S a b) (hs : ∀ k, S k → B ≤ k) (hB : B ≤ a.heap.size) : Below B a b :=
  ⟨h.os, h.tape, h.output, h.size, fun i hi => h.block i (by omega) (fun x => by have := hs i x; omega)⟩
theorem Keep.alloc {S : Nat → Prop} {a b : World} (h : Keep S a b) (o : Obj) : Keep S a (b.alloc o) :=
  h.trans (Keep.new ((Below.refl _ _).alloc (Nat.le_refl _) o))
theorem Keep.setCell {S : Nat → Prop} {a b : World} (h : Keep S a b) {p : Addr} (hp : S p.block ∨ a.heap.size ≤ p.block) (u : Value) : Keep S a (b.setCell p u) := by
  refine ⟨h.os, h.tape, h.output, ?_, fun i hi hn => ?_⟩
  · have := h.size; simpa using this
  · rw [Below.heap_setCell _ _ _ _ (by rintro rfl; rcases hp with hp | hp; exact hn hp; omega)]
    exact h.block i hi hn
theorem Keep.grown {S : Nat → Prop} {a b c : World} {row : Option Nat} (h : Keep S a b) (hg : b.grownBy c row) (hr : ∀ k, row = some k → S k ∨ a.heap.size ≤ k) : Keep S a c :=
  ⟨hg.os.trans h.os, hg.tape.trans h.tape, hg.output.trans h.output, Nat.le_trans h.size hg.size, fun i hi hn => (hg.block i (Nat.lt_of_lt_of_le hi h.size) (by
    rintro rfl
    rcases hr i rfl with h1 | h1
    · exact hn h1
    · omega)).trans (h.block i hi hn)⟩
theorem Keep.cell {S : Nat → Prop} {w w' : World} (h : Keep S w w') {p : Addr} (hp : p.block < w.heap.size) (hs : ¬ S p.block) : w'.cell? p = w.cell? p := World.cell?_of_block (w := w) (h.block p.block hp hs)
theorem Keep.frozen {S : Nat → Prop} {w w' : World} (h : Keep S w w') {p : Addr} (hp : p.block < w.heap.size) (hs : ¬ S p.block) : w'.frozen? p = w.frozen? p := World.frozen?_of_block (w := w) (h.block p.block hp hs)
theorem Keep.cu {S : Nat → Prop} {w w' : World} (h : Keep S w w') {p : Addr} {v : Value} (hc : w.cell? p = some v) (hs : ¬ S p.block) : w'.cell? p = some v := by rw [h.cell (cell_lt hc) hs]; exact hc
theorem Keep.own {S : Nat → Prop} {α : Type} {enc : α → List Value} {sz : Nat} {e : TypeId} {w w' : World} {base : Nat} {v : Value} {xs : List α} (hk : Keep S w w') (h : Own enc sz e w base v xs) (hs : ∀ k, v.ownBlock = some k → ¬ S k) : Own enc sz e w' base v xs := by
  refine ⟨h.1, ?_⟩
  rcases h.2 with hn | ⟨g, cap, cur, hv, hg, hh, r⟩
  · exact .inl hn
  · refine .inr ⟨g, cap, cur, hv, hg, ?_, r⟩
    rw [hk.block g (Array.getElem?_eq_some_iff.1 hh).1 (hs g (by rw [hv]; rfl))]
    exact hh
theorem Keep.row {S : Nat → Prop} {α : Type} {enc : α → List Value} {sz : Nat} {w w' : World} {B : Nat} {a : Option Addr} {xs : List α} (hk : Keep S w w') (h : Row enc sz w B a xs) (hB : B ≤ w.heap.size) (hs : ∀ k, k < B → ¬ S k) : Row enc sz w' B a xs := by
  intro i hi
  obtain ⟨b, o, h1, h2, h3⟩ := h i hi
  exact ⟨b, o, h1, h2, fun j u hu => by rw [hk.cell (by simp; omega) (by simp; exact hs b h2)]; exact h3 j u hu⟩

/-- the block of a slice value -/
def Blk (v : Value) (k : Nat) : Prop := v.ownBlock = some k
theorem blk_slice {g o : Nat} {n c : Nat} {k : Nat} : Blk (.slice (some ⟨g, o, none⟩) n c) k ↔ g = k := by simp [Blk, Value.ownBlock]
end Go.Proofs.Ytdpbkhempgghaaa
