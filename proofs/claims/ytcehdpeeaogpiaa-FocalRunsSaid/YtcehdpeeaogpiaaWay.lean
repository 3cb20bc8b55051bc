/-
  What dijk.Way returns. Conditions: that the slices read.
-/
import Derived.Test.YtcehdpeeaogpiaaWayP
import Derived.Test.YtcehdpeeaogpiaaDDist
import Derived.Deep.LoopGhost
import Derived.Deep.RegionLaw
namespace Go.Proofs.Ytcehdpeeaogpiaa
open Go.RowKit
set_option linter.unusedSimpArgs false
set_option linter.unusedVariables false
/-- a slice of one number, just built -/
theorem own_one (w : World) (base : Nat) (e : TypeId) (x : Int) (hb : base ≤ w.heap.size) : Own encI 1 e (w.alloc (.cells #[.int .i64 x] e)) base (.slice (some ⟨w.heap.size, 0, none⟩) 1 1) [x] :=
  ⟨rfl, .inr ⟨w.heap.size, 1, #[.int .i64 x], rfl, hb, heap_alloc_new w _, Nat.le_refl _, by unfold maxLen; decide, rfl, rfl⟩⟩
/-- a walk, its cost and an error handed back -/
def WayBack (xs : List Int) (m : Nat) (cost err : Int) (w : World) (e : Ending) (w' : World) : Prop := ∃ a c, e = .returned (.tuple #[.agg #[.slice a m c, .int .i64 cost], .int .i64 err]) ∧ Row encI 1 w' w'.heap.size a xs ∧ Below w.heap.size w w'
theorem pos_edges {n : Nat} {es : List Ed} (h : Right n es) (hp : ∀ e ∈ es, 1 ≤ e.c) : ∀ e ∈ nes es, e.u < n ∧ e.v < n ∧ 1 ≤ e.c := by
  intro e he
  have h1 := nes_right h e he
  obtain ⟨x, hx, rfl⟩ := nes_mem he
  exact ⟨h1.1, h1.2, hp x hx⟩
set_option maxRecDepth 100000 in
set_option maxHeartbeats 2000000 in
theorem way_bad (N : Int) (a : Option Addr) (cap : Nat) (es : List Ed) (x y : Int) (w : World) (B : Nat) (hB : B ≤ w.heap.size) (hE : Row encE 3 w B a es) (hl : es.length ≤ 9223372036854775807) (h0 : lookErr N es [x, y] ≠ 0) :
    Calls Try.prog 18 #[.agg #[.int .i64 N, .slice a es.length cap], .int .i64 x, .int .i64 y] w (WayBack [] 0 0 (lookErr N es [x, y]) w) := by
  have q0 : (lookErr N es [x, y] != 0) = true := by simp [h0]
  have hL := hide (fun a1 c1 w B hB hE hP => look_any N a cap es a1 c1 2 [x, y] rfl w B hB hE hP hl (by omega))
  replace hE := hide hE
  clear h0
  go_enter Try.func18, Try.ntmps18
  go_wp2_with fail
  refine (hL.out _ _ _ (w.heap.size + 1 + 1 + 1) (by simp) ((hE.out.below ((by repeat (first | with_reducible exact Below.refl _ _ | with_reducible assumption | with_reducible refine up_drewN ?_ | with_reducible refine up_drew ?_ | (with_reducible refine up_alloc ?_ ?_; rotate_left; (first | omega | (simp <;> omega) | simp)) | (with_reducible refine up_set ?_ ?_; rotate_left; (first | omega | (simp <;> omega) | simp)) | (with_reducible refine Below.trans ?_ (Below.mono (by with_reducible assumption) ?_); rotate_left; (first | omega | (simp <;> omega) | simp)))) : Below w.heap.size w _) hB).mono (by omega)) ((row2 (by simp [go_sem]) (by simp [go_sem])).mono (by simp))).mono ?_
  rintro e w1 ⟨rfl, hb1⟩
  obtain ⟨hc1, hf1⟩ := bcell hb1
  have hz1 : w.heap.size + 1 + 1 < w1.heap.size := by have := hb1.size; simp at this; omega
  have hz0 : w.heap.size + 1 < w1.heap.size := by omega
  go_wp2
  exact bodyPost_ret (v := .tuple #[.agg #[.slice none 0 0, .int .i64 0], .int .i64 (lookErr N es [x, y])]) (by simp [results, Try.results18, go_sem, hc1, hz1, hz0, hf1]) rfl ⟨none, 0, rfl, Row.nil _ _ _ _ _, (by repeat (first | with_reducible exact Below.refl _ _ | with_reducible assumption | with_reducible refine up_drewN ?_ | with_reducible refine up_drew ?_ | (with_reducible refine up_alloc ?_ ?_; rotate_left; (first | omega | (simp <;> omega) | simp)) | (with_reducible refine up_set ?_ ?_; rotate_left; (first | omega | (simp <;> omega) | simp)) | (with_reducible refine Below.trans ?_ (Below.mono (by with_reducible assumption) ?_); rotate_left; (first | omega | (simp <;> omega) | simp))))⟩
/-- what holds behind dijk.Run in Way -/
structure WyI (w : World) (n : Nat) (a : Option Addr) (m cap : Nat) (D : Nat) (d : Nat → Int) (wr : World) : Prop where
  b0 : wr.cell? ⟨w.heap.size, 0, none⟩ = some (.int .i64 (n : Int))
  b1 : wr.cell? ⟨w.heap.size, 1, none⟩ = some (.slice a m cap)
  r0 : wr.cell? ⟨w.heap.size + 1, 0, none⟩ = some (.slice none 0 0)
  r1 : wr.cell? ⟨w.heap.size + 1, 1, none⟩ = some (.int .i64 0)
  f0 : wr.frozen? ⟨w.heap.size + 1, 0, none⟩ = false
  f1 : wr.frozen? ⟨w.heap.size + 1, 1, none⟩ = false
  dist : ∀ u, u < n → wr.cell? ⟨D, u, none⟩ = some (.int .i64 (d u))
  dlt : D < wr.heap.size
  bel : Below w.heap.size w wr
theorem WyI.stays {w wr w' : World} {n m cap D : Nat} {a : Option Addr} {d : Nat → Int} (h : WyI w n a m cap D d wr) (b : Below wr.heap.size wr w') : WyI w n a m cap D d w' :=
  ⟨cu_below b h.b0 (cell_lt h.b0), cu_below b h.b1 (cell_lt h.b1), cu_below b h.r0 (cell_lt h.r0), cu_below b h.r1 (cell_lt h.r1), fu_below b h.f0 (cell_lt h.r0), fu_below b h.f1 (cell_lt h.r1), fun u hu => cu_below b (h.dist u hu) h.dlt, Nat.lt_of_lt_of_le h.dlt b.size, h.bel.trans (b.mono h.bel.size)⟩
theorem WyI.kept {w wr w' : World} {n m cap D B : Nat} {a : Option Addr} {d : Nat → Int} (h : WyI w n a m cap D d wr) (b : Below B wr w') (hD : D < B) (hw : w.heap.size + 1 < B) : WyI w n a m cap D d w' :=
  ⟨cu_below b h.b0 (by simp; omega), cu_below b h.b1 (by simp; omega), cu_below b h.r0 (by simp; omega), cu_below b h.r1 (by simp; omega), fu_below b h.f0 (by simp; omega), fu_below b h.f1 (by simp; omega), fun u hu => cu_below b (h.dist u hu) hD, Nat.lt_of_lt_of_le h.dlt b.size, h.bel.trans (b.mono (by omega))⟩
set_option maxRecDepth 100000 in
set_option maxHeartbeats 2000000 in
theorem way_none (n : Nat) (a : Option Addr) (cap : Nat) (es : List Ed) (f t : Nat) (w : World) (B : Nat) (hB : B ≤ w.heap.size) (hE : Row encE 3 w B a es) (h0 : lookErr (n : Int) es [(f : Int), (t : Int)] = 0) (hF : distF n es f t = FAR) :
    Calls Try.prog 18 #[.agg #[.int .i64 (n : Int), .slice a es.length cap], .int .i64 (f : Int), .int .i64 (t : Int)] w (WayBack [] 0 0 5 w) := by
  obtain ⟨g1, g2⟩ := look_ok h0
  obtain ⟨g3, g4⟩ := posErr_ok g1
  obtain ⟨n1, n2, n3, n4⟩ := netErr_ok g3
  have hf : f < n := by have := g2 f (by simp); omega
  have ht : t < n := by have := g2 t (by simp); omega
  have hL := hide (fun a1 c1 w B hB hE hP => by have := look_any (n : Int) a cap es a1 c1 2 [(f : Int), (t : Int)] rfl w B hB hE hP (by omega) (by omega); rw [h0] at this; exact this)
  replace g4 := hide g4
  replace n4 := hide n4
  replace hE := hide hE
  clear h0 g1 g2 g3
  go_enter Try.func18, Try.ntmps18
  go_wp2_with fail
  refine (hL.out _ _ _ (w.heap.size + 1 + 1 + 1) (by simp) ((hE.out.below ((by repeat (first | with_reducible exact Below.refl _ _ | with_reducible assumption | with_reducible refine up_drewN ?_ | with_reducible refine up_drew ?_ | (with_reducible refine up_alloc ?_ ?_; rotate_left; (first | omega | (simp <;> omega) | simp)) | (with_reducible refine up_set ?_ ?_; rotate_left; (first | omega | (simp <;> omega) | simp)) | (with_reducible refine Below.trans ?_ (Below.mono (by with_reducible assumption) ?_); rotate_left; (first | omega | (simp <;> omega) | simp)))) : Below w.heap.size w _) hB).mono (by omega)) ((row2 (by simp [go_sem]) (by simp [go_sem])).mono (by simp))).mono ?_
  rintro e w1 ⟨rfl, hb1⟩
  obtain ⟨hc1, hf1⟩ := bcell hb1
  have hz1 : w.heap.size + 1 + 1 < w1.heap.size := by have := hb1.size; simp at this; omega
  have hz0 : w.heap.size + 1 < w1.heap.size := by omega
  have hzz : w.heap.size < w1.heap.size := by omega
  go_wp2_with fail
  refine (run_any n a cap es f _ B (by omega) (hE.out.below ((by repeat (first | with_reducible exact Below.refl _ _ | with_reducible assumption | with_reducible refine up_drewN ?_ | with_reducible refine up_drew ?_ | (with_reducible refine up_alloc ?_ ?_; rotate_left; (first | omega | (simp <;> omega) | simp)) | (with_reducible refine up_set ?_ ?_; rotate_left; (first | omega | (simp <;> omega) | simp)) | (with_reducible refine Below.trans ?_ (Below.mono (by with_reducible assumption) ?_); rotate_left; (first | omega | (simp <;> omega) | simp)))) : Below w.heap.size w _) hB) (by omega) (by omega) n3 n4.out g4.out hf).mono ?_
  rintro e w2 ⟨av, cv, rfl, own, hb2⟩
  obtain ⟨D, rfl, hD1, hD2⟩ := own.blockI (by omega)
  have c0 := own.atI t ht
  rw [hF] at c0
  have r0 : w2.cell? ⟨w.heap.size + 1, 0, none⟩ = some (.slice none 0 0) := cu_below hb2 (by simp [hc1, go_sem, hz0]) hz0
  have r1 : w2.cell? ⟨w.heap.size + 1, 1, none⟩ = some (.int .i64 0) := cu_below hb2 (by simp [hc1, go_sem, hz0]) hz0
  have f0 : w2.frozen? ⟨w.heap.size + 1, 0, none⟩ = false := fu_below hb2 (by simp [hf1, go_sem, hz0]) hz0
  have f1 : w2.frozen? ⟨w.heap.size + 1, 1, none⟩ = false := fu_below hb2 (by simp [hf1, go_sem, hz0]) hz0
  have hz2 : w.heap.size + 1 < w2.heap.size := cell_lt r0
  have hbf := hide (show Below w.heap.size w w2 from (by repeat (first | with_reducible exact Below.refl _ _ | with_reducible assumption | with_reducible refine up_drewN ?_ | with_reducible refine up_drew ?_ | (with_reducible refine up_alloc ?_ ?_; rotate_left; (first | omega | (simp <;> omega) | simp)) | (with_reducible refine up_set ?_ ?_; rotate_left; (first | omega | (simp <;> omega) | simp)) | (with_reducible refine Below.trans ?_ (Below.mono (by with_reducible assumption) ?_); rotate_left; (first | omega | (simp <;> omega) | simp)))))
  have it : (0 : Int) ≤ (t : Int) ∧ (t : Int) < (n : Int) := by omega
  unfold FAR at c0
  replace hF := hide hF
  clear own hb1 hb2 hc1 hf1
  go_wp2
  exact bodyPost_ret (v := .tuple #[.agg #[.slice none 0 0, .int .i64 0], .int .i64 5]) (by simp [results, Try.results18, go_sem, r0, r1, hz2, f0, f1]) rfl ⟨none, 0, rfl, Row.nil _ _ _ _ _, (hbf.out.setCell (by simp) _).setCell (by simp) _⟩
end Go.Proofs.Ytcehdpeeaogpiaa
