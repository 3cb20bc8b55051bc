/-
  A heap in memory: an object of two cells, its slice the call's own. No condition.
-/
import Derived.Test.YtdpbkhempgghaaaHeapL
import Derived.Test.YtdpbkhempgghaaaKeep
import Derived.Test.YtdpbkhempgghaaaEdge
import Derived.Deep.AppendLies
namespace Go.Proofs.Ytdpbkhempgghaaa
open Go.RowKit
set_option linter.unusedSimpArgs false
set_option linter.unusedVariables false
theorem info_pop : (Try.prog.info? 88).map (fun i => (i.zero, i.size, i.bytes)) = some (some (.agg #[.int .i64 0, .int .i64 0]), 2, 16) := by kernel_rfl
theorem Own.getP {e : TypeId} {w : World} {base : Nat} {xs : List P2} {g n c : Nat} (h : Own encP 2 e w base (.slice (some ⟨g, 0, none⟩) n c) xs) (i : Nat) (hi : i < xs.length) :
    w.cell? ⟨g, i * 2, none⟩ = some (.int .i64 xs[i].a) ∧ w.cell? ⟨g, i * 2 + 1, none⟩ = some (.int .i64 xs[i].b) :=
  ⟨by simpa using h.get lenP i hi 0 _ rfl, h.get lenP i hi 1 _ rfl⟩
theorem Own.putP {e : TypeId} {w : World} {base : Nat} {xs : List P2} {g n c : Nat} (h : Own encP 2 e w base (.slice (some ⟨g, 0, none⟩) n c) xs) (i : Nat) (hi : i < xs.length) (p : P2) :
    Own encP 2 e ((w.setCell ⟨g, i * 2, none⟩ (.int .i64 p.a)).setCell ⟨g, i * 2 + 1, none⟩ (.int .i64 p.b)) base (.slice (some ⟨g, 0, none⟩) n c) (xs.set i p) := by
  have h1 := h.put lenP i hi 0 (by omega) (.int .i64 p.a) ⟨p.a, xs[i].b⟩ rfl
  have h2 := h1.put lenP i (by simpa using hi) 1 (by omega) (.int .i64 p.b) p (by simp [encP])
  rw [List.set_set] at h2
  simpa using h2
theorem rw_push {α : Type} (n : Nat) (f : Nat → α) (x : α) : RW (n + 1) (upz f n x) = RW n f ++ [x] := by
  unfold RW
  rw [List.range_succ, List.map_append]
  congr 1
  · apply List.map_congr_left
    intro v hv
    exact upz_other _ _ (by have := List.mem_range.1 hv; omega)
  · simp [upz]
/-- the heap at g holds the n first of f; lf says which is less -/
structure HeapAt (w : World) (base g : Nat) (lf v : Value) (n : Nat) (f : Nat → P2) : Prop where
  bg : base ≤ g
  lt : g < w.heap.size
  c0 : w.cell? ⟨g, 0, none⟩ = some lf
  c1 : w.cell? ⟨g, 1, none⟩ = some v
  f1 : w.frozen? ⟨g, 1, none⟩ = false
  own : Own encP 2 88 w base v (RW n f)
  ap : v.ownBlock ≠ some g
theorem HeapAt.keep {S : Nat → Prop} {w w' : World} {base g n : Nat} {lf v : Value} {f : Nat → P2} (h : HeapAt w base g lf v n f) (k : Keep S w w') (hg : ¬ S g) (hv : ∀ k, v.ownBlock = some k → ¬ S k) : HeapAt w' base g lf v n f :=
  ⟨h.bg, Nat.lt_of_lt_of_le h.lt k.size, k.cu h.c0 hg, k.cu h.c1 hg, (k.frozen (p := ⟨g, 1, none⟩) h.lt hg).trans h.f1, k.own h.own hv, h.ap⟩
theorem HeapAt.stays {w w' : World} {base g n : Nat} {lf v : Value} {f : Nat → P2} (h : HeapAt w base g lf v n f) (k : Below w.heap.size w w') : HeapAt w' base g lf v n f :=
  h.keep (Keep.new (S := fun _ => False) k) (fun h => h) (fun _ _ h => h)
theorem HeapAt.drew {w : World} {base g n : Nat} {lf v : Value} {f : Nat → P2} (h : HeapAt w base g lf v n f) : HeapAt w.drew base g lf v n f := ⟨h.bg, h.lt, h.c0, h.c1, h.f1, h.own.drew, h.ap⟩
theorem HeapAt.drewN {w : World} {base g n : Nat} {lf v : Value} {f : Nat → P2} (h : HeapAt w base g lf v n f) (m : Nat) : HeapAt (w.drewN m) base g lf v n f := by
  induction m with
  | zero => exact h
  | succ m ih => exact ih.drew
theorem HeapAt.alloc {w : World} {base g n : Nat} {lf v : Value} {f : Nat → P2} (h : HeapAt w base g lf v n f) (o : Obj) : HeapAt (w.alloc o) base g lf v n f := h.stays ((Below.refl _ _).alloc (Nat.le_refl _) o)
/-- two exchanged -/
theorem HeapAt.swap {w : World} {base g n gs m c : Nat} {lf : Value} {f : Nat → P2} (h : HeapAt w base g lf (.slice (some ⟨gs, 0, none⟩) m c) n f) {i k : Nat} (hi : i < n) (hk : k < n) :
    HeapAt ((((w.setCell ⟨gs, i * 2, none⟩ (.int .i64 (f k).a)).setCell ⟨gs, i * 2 + 1, none⟩ (.int .i64 (f k).b)).setCell ⟨gs, k * 2, none⟩ (.int .i64 (f i).a)).setCell ⟨gs, k * 2 + 1, none⟩ (.int .i64 (f i).b)) base g lf (.slice (some ⟨gs, 0, none⟩) m c) n (swf f i k) := by
  have hne : gs ≠ g := fun e => h.ap (by rw [e]; rfl)
  have h1 := h.own.putP i (by rw [rw_len]; exact hi) (f k)
  have h2 := h1.putP k (by rw [List.length_set, rw_len]; exact hk) (f i)
  rw [rw_set, rw_set] at h2
  have kp := hide ((((hide (Keep.refl (fun k => k = gs) w)).out.setCell (p := ⟨gs, i * 2, none⟩) (.inl rfl) (.int .i64 (f k).a)).setCell (p := ⟨gs, i * 2 + 1, none⟩) (.inl rfl) (.int .i64 (f k).b)).setCell (p := ⟨gs, k * 2, none⟩) (.inl rfl) (.int .i64 (f i).a) |>.setCell (p := ⟨gs, k * 2 + 1, none⟩) (.inl rfl) (.int .i64 (f i).b))
  replace kp := kp.out
  have hng : ¬ (g = gs) := fun e => hne e.symm
  exact ⟨h.bg, Nat.lt_of_lt_of_le h.lt kp.size, kp.cu h.c0 hng, kp.cu h.c1 hng, (kp.frozen (p := ⟨g, 1, none⟩) h.lt hng).trans h.f1, h2, h.ap⟩
end Go.Proofs.Ytdpbkhempgghaaa
