/-
  What dijk.Dist returns. Conditions: that the slice reads.
-/
import Derived.Test.YtcehdpeeaogpiaaNetL
import Derived.Test.YtcehdpeeaogpiaaDijkW
namespace Go.Proofs.Ytcehdpeeaogpiaa
open Go.RowKit
set_option linter.unusedSimpArgs false
set_option linter.unusedVariables false
theorem row1 {w : World} {b : Nat} {x : Int} (h : w.cell? ⟨b, 0, none⟩ = some (.int .i64 x)) : Row encI 1 w w.heap.size (some ⟨b, 0, none⟩) [x] := by
  intro i hi
  refine ⟨b, 0, rfl, cell_lt h, fun j u hu => ?_⟩
  have : i = 0 := by simpa using hi
  subst this
  match j, hu with
  | 0, hu => simp [encI] at hu; subst hu; simpa using h
theorem row2 {w : World} {b : Nat} {x y : Int} (h : w.cell? ⟨b, 0, none⟩ = some (.int .i64 x)) (h2 : w.cell? ⟨b, 1, none⟩ = some (.int .i64 y)) : Row encI 1 w w.heap.size (some ⟨b, 0, none⟩) [x, y] := by
  intro i hi
  refine ⟨b, 0, rfl, cell_lt h, fun j u hu => ?_⟩
  match i, hi, j, hu with
  | 0, _, 0, hu => simp [encI] at hu; subst hu; simpa using h
  | 1, _, 0, hu => simp [encI] at hu; subst hu; simpa using h2
/-- a slice and an error handed back -/
def RowN {α : Type} (enc : α → List Value) (sz : Nat) (xs : List α) (n : Nat) (err : Int) (w : World) (e' : Ending) (w' : World) : Prop := ∃ a c, e' = .returned (.tuple #[.slice a n c, .int .i64 err]) ∧ Row enc sz w' w'.heap.size a xs ∧ Below w.heap.size w w'
set_option maxRecDepth 100000 in
set_option maxHeartbeats 1000000 in
theorem ddist_bad (N : Int) (a : Option Addr) (cap : Nat) (es : List Ed) (x : Int) (w : World) (B : Nat) (hB : B ≤ w.heap.size) (hE : Row encE 3 w B a es) (hl : es.length ≤ 9223372036854775807) (h0 : lookErr N es [x] ≠ 0) :
    Calls Try.prog 25 #[.agg #[.int .i64 N, .slice a es.length cap], .int .i64 x] w (RowN encI 1 [] 0 (lookErr N es [x]) w) := by
  have q0 : (lookErr N es [x] != 0) = true := by simp [h0]
  have hL := hide (fun a1 c1 w B hB hE hP => look_any N a cap es a1 c1 1 [x] rfl w B hB hE hP hl (by omega))
  replace hE := hide hE
  clear h0
  go_enter Try.func25, Try.ntmps25
  go_wp2_with fail
  refine (hL.out _ _ _ (w.heap.size + 1 + 1) (by simp) ((hE.out.below ((by repeat (first | with_reducible exact Below.refl _ _ | with_reducible assumption | with_reducible refine up_drewN ?_ | with_reducible refine up_drew ?_ | (with_reducible refine up_alloc ?_ ?_; rotate_left; (first | omega | (simp <;> omega) | simp)) | (with_reducible refine up_set ?_ ?_; rotate_left; (first | omega | (simp <;> omega) | simp)) | (with_reducible refine Below.trans ?_ (Below.mono (by with_reducible assumption) ?_); rotate_left; (first | omega | (simp <;> omega) | simp)))) : Below w.heap.size w _) hB).mono (by omega)) ((row1 (by simp [go_sem])).mono (by simp))).mono ?_
  rintro e w1 ⟨rfl, hb1⟩
  go_wp2
  go_ret2
  exact ⟨none, 0, rfl, Row.nil _ _ _ _ _, (by repeat (first | with_reducible exact Below.refl _ _ | with_reducible assumption | with_reducible refine up_drewN ?_ | with_reducible refine up_drew ?_ | (with_reducible refine up_alloc ?_ ?_; rotate_left; (first | omega | (simp <;> omega) | simp)) | (with_reducible refine up_set ?_ ?_; rotate_left; (first | omega | (simp <;> omega) | simp)) | (with_reducible refine Below.trans ?_ (Below.mono (by with_reducible assumption) ?_); rotate_left; (first | omega | (simp <;> omega) | simp))))⟩
set_option maxRecDepth 100000 in
set_option maxHeartbeats 1000000 in
theorem ddist_ok (n : Nat) (a : Option Addr) (cap : Nat) (es : List Ed) (v : Nat) (w : World) (B : Nat) (hB : B ≤ w.heap.size) (hE : Row encE 3 w B a es) (hl : es.length ≤ 9223372036854775807) (h0 : lookErr (n : Int) es [(v : Int)] = 0) :
    Calls Try.prog 25 #[.agg #[.int .i64 (n : Int), .slice a es.length cap], .int .i64 (v : Int)] w (RowN encI 1 (LI n (distF n es v)) n 0 w) := by
  obtain ⟨g1, g2⟩ := look_ok h0
  obtain ⟨g3, g4⟩ := posErr_ok g1
  obtain ⟨n1, n2, n3, n4⟩ := netErr_ok g3
  have hv : v < n := by have := g2 v (by simp); omega
  have hL := hide (fun a1 c1 w B hB hE hP => by have := look_any (n : Int) a cap es a1 c1 1 [(v : Int)] rfl w B hB hE hP hl (by omega); rw [h0] at this; exact this)
  replace g4 := hide g4
  replace n4 := hide n4
  replace hE := hide hE
  clear h0 g1 g2 g3
  go_enter Try.func25, Try.ntmps25
  go_wp2_with fail
  refine (hL.out _ _ _ (w.heap.size + 1 + 1) (by simp) ((hE.out.below ((by repeat (first | with_reducible exact Below.refl _ _ | with_reducible assumption | with_reducible refine up_drewN ?_ | with_reducible refine up_drew ?_ | (with_reducible refine up_alloc ?_ ?_; rotate_left; (first | omega | (simp <;> omega) | simp)) | (with_reducible refine up_set ?_ ?_; rotate_left; (first | omega | (simp <;> omega) | simp)) | (with_reducible refine Below.trans ?_ (Below.mono (by with_reducible assumption) ?_); rotate_left; (first | omega | (simp <;> omega) | simp)))) : Below w.heap.size w _) hB).mono (by omega)) ((row1 (by simp [go_sem])).mono (by simp))).mono ?_
  rintro e w1 ⟨rfl, hb1⟩
  obtain ⟨hc1, hf1⟩ := bcell hb1
  have hz1 : w.heap.size + 1 < w1.heap.size := by have := hb1.size; simp at this; omega
  have hz0 : w.heap.size < w1.heap.size := by omega
  go_wp2_with fail
  refine (run_any n a cap es v _ B (by omega) (hE.out.below ((by repeat (first | with_reducible exact Below.refl _ _ | with_reducible assumption | with_reducible refine up_drewN ?_ | with_reducible refine up_drew ?_ | (with_reducible refine up_alloc ?_ ?_; rotate_left; (first | omega | (simp <;> omega) | simp)) | (with_reducible refine up_set ?_ ?_; rotate_left; (first | omega | (simp <;> omega) | simp)) | (with_reducible refine Below.trans ?_ (Below.mono (by with_reducible assumption) ?_); rotate_left; (first | omega | (simp <;> omega) | simp)))) : Below w.heap.size w _) hB) (by omega) (by omega) n3 n4.out g4.out hv).mono ?_
  rintro e w2 ⟨av, cv, rfl, own, hb2⟩
  have hr := own.row lenI
  replace own := hide own
  go_wp2
  go_ret2
  obtain ⟨a4, c4, hv4, r4, _⟩ := hr
  simp only [Value.slice.injEq] at hv4
  obtain ⟨rfl, _, rfl⟩ := hv4
  exact ⟨_, _, rfl, r4, (by repeat (first | with_reducible exact Below.refl _ _ | with_reducible assumption | with_reducible refine up_drewN ?_ | with_reducible refine up_drew ?_ | (with_reducible refine up_alloc ?_ ?_; rotate_left; (first | omega | (simp <;> omega) | simp)) | (with_reducible refine up_set ?_ ?_; rotate_left; (first | omega | (simp <;> omega) | simp)) | (with_reducible refine Below.trans ?_ (Below.mono (by with_reducible assumption) ?_); rotate_left; (first | omega | (simp <;> omega) | simp))))⟩
end Go.Proofs.Ytcehdpeeaogpiaa
