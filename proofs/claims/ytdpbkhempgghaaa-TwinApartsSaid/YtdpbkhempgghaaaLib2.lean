/-
  Cells and marks carried to later worlds: behind a draw, a new block, a store elsewhere. No program.
-/
import Derived.Test.YtdpbkhempgghaaaLib
namespace Go.Proofs.Ytdpbkhempgghaaa
open Go.RowKit

theorem cu_drew {w : World} {p : Addr} {v : Value} (h : w.cell? p = some v) : w.drew.cell? p = some v := h
theorem cu_drewN {w : World} {p : Addr} {v : Value} {n : Nat} (h : w.cell? p = some v) : (w.drewN n).cell? p = some v := h
theorem cell_lt {w : World} {p : Addr} {v : Value} (h : w.cell? p = some v) : p.block < w.heap.size := by
  unfold World.cell? at h
  rcases Nat.lt_or_ge p.block w.heap.size with h' | h'
  · exact h'
  · rw [Array.getElem?_eq_none h'] at h; simp at h
theorem cu_alloc {w : World} {p : Addr} {v : Value} {o : Obj} (h : w.cell? p = some v) : (w.alloc o).cell? p = some v := cell_alloc h (cell_lt h) o
theorem cu_set {w : World} {p q : Addr} {v u : Value} (h : w.cell? p = some v) (hne : q.block ≠ p.block) : (w.setCell q u).cell? p = some v := by
  rw [World.cell?_of_block (w := w) (Below.heap_setCell w q u p.block (fun e => hne e.symm))]; exact h
theorem cu_set_off {w : World} {b i j : Nat} {v u : Value} (h : w.cell? ⟨b, i, none⟩ = some v) (hne : j ≠ i) : (w.setCell ⟨b, j, none⟩ u).cell? ⟨b, i, none⟩ = some v := by
  simp only [World.cell?, World.setCell, Array.getElem?_modify, if_true] at h ⊢
  cases hb : w.heap[b]? with
  | none => rw [hb] at h; simp at h
  | some o =>
    rw [hb] at h
    cases o <;> simp_all
theorem cu_below {w w' : World} {B : Nat} {p : Addr} {v : Value} (hb : Below B w w') (h : w.cell? p = some v) (hlt : p.block < B) : w'.cell? p = some v := by rw [hb.cell hlt]; exact h
theorem fu_drew {w : World} {p : Addr} (h : w.frozen? p = false) : w.drew.frozen? p = false := h
theorem fu_drewN {w : World} {p : Addr} {n : Nat} (h : w.frozen? p = false) : (w.drewN n).frozen? p = false := h
theorem fu_set {w : World} {p q : Addr} {u : Value} (h : w.frozen? p = false) : (w.setCell q u).frozen? p = false := by
  rw [World.frozen?_setCell]; exact h
theorem fu_alloc {w : World} {p : Addr} {cs : Array Value} {t : TypeId} (h : w.frozen? p = false) : (w.alloc (.cells cs t)).frozen? p = false := by
  by_cases hb : p.block = w.heap.size
  · obtain ⟨b, o, s⟩ := p
    simp only at hb
    subst hb
    unfold World.frozen?
    have e : (w.alloc (.cells cs t)).heap[w.heap.size]? = some (.cells cs t) := by show (w.heap.push _)[w.heap.size]? = _; simp
    simp only [e]
    simp
  · rw [World.frozen?_of_block (w := w) (by show (w.heap.push _)[p.block]? = _; rw [Array.getElem?_push, if_neg (by omega)])]
    exact h
theorem fu_below {w w' : World} {B : Nat} {p : Addr} (hb : Below B w w') (h : w.frozen? p = false) (hlt : p.block < B) : w'.frozen? p = false := by rw [hb.frozen hlt]; exact h

theorem up_drew {B : Nat} {w0 w : World} (h : Below B w0 w) : Below B w0 w.drew := h.drew
theorem up_drewN {B : Nat} {w0 w : World} {n : Nat} (h : Below B w0 w) : Below B w0 (w.drewN n) := below_drewN h n
theorem up_alloc {B : Nat} {w0 w : World} {o : Obj} (h : Below B w0 w) (hB : B ≤ w.heap.size) : Below B w0 (w.alloc o) := h.alloc hB o
theorem up_set {B : Nat} {w0 w : World} {p : Addr} {u : Value} (h : Below B w0 w) (hp : B ≤ p.block) : Below B w0 (w.setCell p u) := h.setCell hp u

end Go.Proofs.Ytdpbkhempgghaaa
