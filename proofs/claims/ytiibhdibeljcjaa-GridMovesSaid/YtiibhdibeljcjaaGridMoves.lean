/-
  Proved here: felllaw.GridMoves returns true whatever it is given. No conditions.
-/
import Derived.Test.YtiibhdibeljcjaaOpen
import Derived.Test.YtiibhdibeljcjaaRMoves
import Derived.Test.YtiibhdibeljcjaaEq
namespace Go.Proofs.Ytiibhdibeljcjaa
open Go.ChangeShapes Go.WideShapes Go.ChangeAt Go.RowKit
set_option linter.unusedSimpArgs false
set_option linter.unusedVariables false

theorem grid_at {W H p : Int} {cs : List Int} (h0 : gridErr W H cs = 0) (p0 : 0 ≤ p) (p1 : p < cs.length) :
    p.tmod W = p % W ∧ p.tdiv W = p / W ∧ 0 ≤ p % W ∧ p % W < W ∧ 0 ≤ p / W ∧ p / W < H ∧ p = p / W * W + p % W := by
  obtain ⟨b1, b2, b3, b4, hcl, hcs⟩ := gridErr_ok h0
  refine ⟨Int.tmod_eq_emod_of_nonneg p0, Int.tdiv_eq_ediv_of_nonneg p0, Int.emod_nonneg _ (by omega), Int.emod_lt_of_pos _ (by omega), Int.ediv_nonneg p0 (by omega), ?_, ?_⟩
  · refine Int.ediv_lt_of_lt_mul (by omega) ?_
    rw [Int.mul_comm H W, ← hcl]; exact p1
  · have := Int.mul_ediv_add_emod p W
    rw [Int.mul_comm] at this
    exact this.symm
def gridMoves (W H : Int) (cs : List Int) (p : Int) : List Ed := mlist (groundV W H cs (p % W) (p / W)) W H cs p (p % W) (p / W) 8

theorem moves_any (W H p : Int) (a : Option Addr) (cap : Nat) (cs : List Int) (w : World) (B : Nat) (hB : B ≤ w.heap.size) (hE : Row encI 1 w B a cs) (hl : cs.length ≤ 9223372036854775807) (xs : List Ed) (err : Int)
    (hx : (gridErr W H cs ≠ 0 ∧ err = gridErr W H cs ∧ xs = []) ∨ (gridErr W H cs = 0 ∧ (p < 0 ∨ p ≥ cs.length) ∧ err = 1 ∧ xs = []) ∨ (gridErr W H cs = 0 ∧ 0 ≤ p ∧ p < cs.length ∧ err = 0 ∧ xs = gridMoves W H cs p)) :
    Calls Try.prog 46 #[.agg #[.int .i64 W, .int .i64 H, .slice a cs.length cap], .int .i64 p] w (RowRet encE 3 xs err w) := by
  have hC := fun w hB hE => gcheck_any W H a cap cs w B hB hE hl
  rcases hx with ⟨h0, rfl, rfl⟩ | ⟨h0, hv, rfl, rfl⟩ | ⟨h0, v0, v1, rfl, rfl⟩
  · have q0 : (gridErr W H cs != 0) = true := by simp [h0]
    replace hC := hide hC
    replace hE := hide hE
    clear h0
    go_enter Try.func46, Try.ntmps46
    go_wp2_with fail
    refine (hC.out _ (by simp; omega) (hE.out.below ((by repeat (first | with_reducible exact Below.refl _ _ | with_reducible assumption | with_reducible refine up_drewN ?_ | with_reducible refine up_drew ?_ | (with_reducible refine up_alloc ?_ ?_; rotate_left; (first | omega | (simp <;> omega) | simp)) | (with_reducible refine up_set ?_ ?_; rotate_left; (first | omega | (simp <;> omega) | simp)) | (with_reducible refine Below.trans ?_ (Below.mono (by with_reducible assumption) ?_); rotate_left; (first | omega | (simp <;> omega) | simp)))) : Below w.heap.size w _) hB)).mono ?_
    rintro e w1 ⟨rfl, hb1⟩
    go_wp2
    go_ret2
    exact ⟨none, 0, rfl, Row.nil _ _ _ _ _, (by repeat (first | with_reducible exact Below.refl _ _ | with_reducible assumption | with_reducible refine up_drewN ?_ | with_reducible refine up_drew ?_ | (with_reducible refine up_alloc ?_ ?_; rotate_left; (first | omega | (simp <;> omega) | simp)) | (with_reducible refine up_set ?_ ?_; rotate_left; (first | omega | (simp <;> omega) | simp)) | (with_reducible refine Below.trans ?_ (Below.mono (by with_reducible assumption) ?_); rotate_left; (first | omega | (simp <;> omega) | simp))))⟩
  · rw [h0] at hC
    replace hC := hide hC
    replace hE := hide hE
    clear h0
    go_enter Try.func46, Try.ntmps46
    go_wp2_with fail
    refine (hC.out _ (by simp; omega) (hE.out.below ((by repeat (first | with_reducible exact Below.refl _ _ | with_reducible assumption | with_reducible refine up_drewN ?_ | with_reducible refine up_drew ?_ | (with_reducible refine up_alloc ?_ ?_; rotate_left; (first | omega | (simp <;> omega) | simp)) | (with_reducible refine up_set ?_ ?_; rotate_left; (first | omega | (simp <;> omega) | simp)) | (with_reducible refine Below.trans ?_ (Below.mono (by with_reducible assumption) ?_); rotate_left; (first | omega | (simp <;> omega) | simp)))) : Below w.heap.size w _) hB)).mono ?_
    rintro e w1 ⟨rfl, hb1⟩
    obtain ⟨hc1, hf1⟩ := bcell hb1; have hz1 : w.heap.size < w1.heap.size := (by have := hb1.size; (try simp at this); omega)
    go_wp2_with fail
    all_goals first
      | (go_ret2
         exact ⟨none, 0, rfl, Row.nil _ _ _ _ _, (by repeat (first | with_reducible exact Below.refl _ _ | with_reducible assumption | with_reducible refine up_drewN ?_ | with_reducible refine up_drew ?_ | (with_reducible refine up_alloc ?_ ?_; rotate_left; (first | omega | (simp <;> omega) | simp)) | (with_reducible refine up_set ?_ ?_; rotate_left; (first | omega | (simp <;> omega) | simp)) | (with_reducible refine Below.trans ?_ (Below.mono (by with_reducible assumption) ?_); rotate_left; (first | omega | (simp <;> omega) | simp))))⟩)
      | (exfalso; omega)
  · obtain ⟨g1, g2, g3, g4, g5, g6, g7⟩ := grid_at h0 v0 v1
    refine moves_ok W H p (p % W) (p / W) a cap cs w B hB hE h0 v0 v1 g1 g2 g3 g4 g5 g6 _ ?_
    unfold gridMoves mlist
    by_cases q : groundV W H cs (p % W) (p / W) = 0
    · exact .inl ⟨q, by rw [if_pos q]⟩
    · exact .inr ⟨q, by rw [if_neg q]⟩

set_option maxHeartbeats 1000000 in
theorem walk_GridMoves (x0 y0 : Int) (a0 : Option Addr) (cap0 : Nat) (cs0 : List Int) (x1 : Int) (w : World) (b0 : Bd x0) (c0 : Bd y0) (l0 : cs0.length ≤ cap0) (m0 : cap0 ≤ maxLen) (r0 : Row encI 1 w w.heap.size a0 cs0) (be0 : ∀ x ∈ cs0, Bd x) (b1 : Bd x1) :
    Calls Try.prog 12 #[.agg #[.int .i64 x0, .int .i64 y0, .slice a0 cs0.length cap0], .int .i64 x1] w fun e w' => e = .returned (.bool true) ∧ Below w.heap.size w w' := by
  have hl : cs0.length ≤ 9223372036854775807 := by unfold maxLen at m0; omega
  have hC := hide (fun w B hB hE => gcheck_any x0 y0 a0 cap0 cs0 w B hB hE hl)
  have hR := hide (fun w B hB hE => rgrid_any x0 y0 a0 cap0 cs0 w B hB hE hl)
  have hO := hide (fun w xs err hx => moves_any x0 y0 x1 a0 cap0 cs0 w w.heap.size (Nat.le_refl _) hx hl xs err)
  replace r0 := hide r0
  by_cases h0 : gridErr x0 y0 cs0 = 0
  · have hCx := hC.out
    have hRx := hR.out
    rw [h0] at hCx hRx
    replace hC := hide hCx
    replace hR := hide hRx
    by_cases hv : x1 < 0 ∨ x1 ≥ cs0.length
    · have hM := hide (hO.out · [] 1 · (.inr (.inl ⟨h0, hv, rfl, rfl⟩)))
      clear h0 hO
      go_enter Try.func12, Try.ntmps12
      go_wp2_with fail
      refine (hM.out _ ((r0.out.below ((by repeat (first | with_reducible exact Below.refl _ _ | with_reducible assumption | with_reducible refine up_drewN ?_ | with_reducible refine up_drew ?_ | (with_reducible refine up_alloc ?_ ?_; rotate_left; (first | omega | (simp <;> omega) | simp)) | (with_reducible refine up_set ?_ ?_; rotate_left; (first | omega | (simp <;> omega) | simp)) | (with_reducible refine Below.trans ?_ (Below.mono (by with_reducible assumption) ?_); rotate_left; (first | omega | (simp <;> omega) | simp)))) : Below w.heap.size w _) (Nat.le_refl _)).mono (by simp))).mono ?_
      rintro e w1 ⟨av, cv, rfl, rl, hb1⟩
      obtain ⟨hc1, hf1⟩ := bcell hb1; have hz1 : w.heap.size < w1.heap.size := (by have := hb1.size; (try simp at this); omega)
      go_wp2_with fail
      refine (hR.out _ w.heap.size (by first | omega | (simp <;> omega)) (r0.out.below ((by repeat (first | with_reducible exact Below.refl _ _ | with_reducible assumption | with_reducible refine up_drewN ?_ | with_reducible refine up_drew ?_ | (with_reducible refine up_alloc ?_ ?_; rotate_left; (first | omega | (simp <;> omega) | simp)) | (with_reducible refine up_set ?_ ?_; rotate_left; (first | omega | (simp <;> omega) | simp)) | (with_reducible refine Below.trans ?_ (Below.mono (by with_reducible assumption) ?_); rotate_left; (first | omega | (simp <;> omega) | simp)))) : Below w.heap.size w _) (Nat.le_refl _))).mono ?_
      rintro e w2 ⟨rfl, hb2⟩
      obtain ⟨hc2, hf2⟩ := bcell hb2; have hz2 : w.heap.size < w2.heap.size := (by have := hb2.size; (try simp at this); omega)
      go_wp2_with fail
      refine (hC.out _ w.heap.size (by first | omega | (simp <;> omega)) (r0.out.below ((by repeat (first | with_reducible exact Below.refl _ _ | with_reducible assumption | with_reducible refine up_drewN ?_ | with_reducible refine up_drew ?_ | (with_reducible refine up_alloc ?_ ?_; rotate_left; (first | omega | (simp <;> omega) | simp)) | (with_reducible refine up_set ?_ ?_; rotate_left; (first | omega | (simp <;> omega) | simp)) | (with_reducible refine Below.trans ?_ (Below.mono (by with_reducible assumption) ?_); rotate_left; (first | omega | (simp <;> omega) | simp)))) : Below w.heap.size w _) (Nat.le_refl _))).mono ?_
      rintro e w3 ⟨rfl, hb3⟩
      obtain ⟨hc3, hf3⟩ := bcell hb3; have hz3 : w.heap.size < w3.heap.size := (by have := hb3.size; (try simp at this); omega)
      rcases hv with hv | hv
      all_goals
        go_wp2
        all_goals
          go_ret
          exact ⟨rfl, (by repeat (first | with_reducible exact Below.refl _ _ | with_reducible assumption | with_reducible refine up_drewN ?_ | with_reducible refine up_drew ?_ | (with_reducible refine up_alloc ?_ ?_; rotate_left; (first | omega | (simp <;> omega) | simp)) | (with_reducible refine up_set ?_ ?_; rotate_left; (first | omega | (simp <;> omega) | simp)) | (with_reducible refine Below.trans ?_ (Below.mono (by with_reducible assumption) ?_); rotate_left; (first | omega | (simp <;> omega) | simp))))⟩
    · have v0 : 0 ≤ x1 := by omega
      have v1 : x1 < cs0.length := by omega
      obtain ⟨g1, g2, g3, g4, g5, g6, g7⟩ := grid_at h0 v0 v1
      obtain ⟨xs, hxs⟩ : ∃ xs, xs = gridMoves x0 y0 cs0 x1 := ⟨_, rfl⟩
      have hM := hide (hO.out · xs 0 · (.inr (.inr ⟨h0, v0, v1, rfl, hxs⟩)))
      have hQ := fun w B hB hE => rmoves_ok x0 y0 x1 (x1 % x0) (x1 / x0) a0 cap0 cs0 w B hB hE h0 v0 v1 g1 g2 g3 g4 g5 g6 g7
      have hxl : xs.length ≤ 8 := by rw [hxs]; exact mlist_len ..
      unfold gridMoves at hxs
      rw [← hxs] at hQ
      replace hQ := hide hQ
      clear h0 hO g1 g2 g3 g4 g5 g6 g7 hv hxs
      go_enter Try.func12, Try.ntmps12
      go_wp2_with fail
      refine (hM.out _ ((r0.out.below ((by repeat (first | with_reducible exact Below.refl _ _ | with_reducible assumption | with_reducible refine up_drewN ?_ | with_reducible refine up_drew ?_ | (with_reducible refine up_alloc ?_ ?_; rotate_left; (first | omega | (simp <;> omega) | simp)) | (with_reducible refine up_set ?_ ?_; rotate_left; (first | omega | (simp <;> omega) | simp)) | (with_reducible refine Below.trans ?_ (Below.mono (by with_reducible assumption) ?_); rotate_left; (first | omega | (simp <;> omega) | simp)))) : Below w.heap.size w _) (Nat.le_refl _)).mono (by simp))).mono ?_
      rintro e w1 ⟨av, cv, rfl, rl, hb1⟩
      replace rl := hide rl
      obtain ⟨hc1, hf1⟩ := bcell hb1; have hz1 : w.heap.size < w1.heap.size := (by have := hb1.size; (try simp at this); omega)
      go_wp2_with fail
      refine (hR.out _ w.heap.size (by first | omega | (simp <;> omega)) (r0.out.below ((by repeat (first | with_reducible exact Below.refl _ _ | with_reducible assumption | with_reducible refine up_drewN ?_ | with_reducible refine up_drew ?_ | (with_reducible refine up_alloc ?_ ?_; rotate_left; (first | omega | (simp <;> omega) | simp)) | (with_reducible refine up_set ?_ ?_; rotate_left; (first | omega | (simp <;> omega) | simp)) | (with_reducible refine Below.trans ?_ (Below.mono (by with_reducible assumption) ?_); rotate_left; (first | omega | (simp <;> omega) | simp)))) : Below w.heap.size w _) (Nat.le_refl _))).mono ?_
      rintro e w2 ⟨rfl, hb2⟩
      obtain ⟨hc2, hf2⟩ := bcell hb2; have hz2 : w.heap.size < w2.heap.size := (by have := hb2.size; (try simp at this); omega)
      have hs2 : w1.heap.size ≤ w2.heap.size := hb2.size
      go_wp2_with fail
      refine (hC.out _ w.heap.size (by first | omega | (simp <;> omega)) (r0.out.below ((by repeat (first | with_reducible exact Below.refl _ _ | with_reducible assumption | with_reducible refine up_drewN ?_ | with_reducible refine up_drew ?_ | (with_reducible refine up_alloc ?_ ?_; rotate_left; (first | omega | (simp <;> omega) | simp)) | (with_reducible refine up_set ?_ ?_; rotate_left; (first | omega | (simp <;> omega) | simp)) | (with_reducible refine Below.trans ?_ (Below.mono (by with_reducible assumption) ?_); rotate_left; (first | omega | (simp <;> omega) | simp)))) : Below w.heap.size w _) (Nat.le_refl _))).mono ?_
      rintro e w3 ⟨rfl, hb3⟩
      obtain ⟨hc3, hf3⟩ := bcell hb3; have hz3 : w.heap.size < w3.heap.size := (by have := hb3.size; (try simp at this); omega)
      have hs3 : w2.heap.size ≤ w3.heap.size := hb3.size
      go_wp2_with fail
      refine (hQ.out _ w.heap.size (by first | omega | (simp <;> omega)) (r0.out.below ((by repeat (first | with_reducible exact Below.refl _ _ | with_reducible assumption | with_reducible refine up_drewN ?_ | with_reducible refine up_drew ?_ | (with_reducible refine up_alloc ?_ ?_; rotate_left; (first | omega | (simp <;> omega) | simp)) | (with_reducible refine up_set ?_ ?_; rotate_left; (first | omega | (simp <;> omega) | simp)) | (with_reducible refine Below.trans ?_ (Below.mono (by with_reducible assumption) ?_); rotate_left; (first | omega | (simp <;> omega) | simp)))) : Below w.heap.size w _) (Nat.le_refl _))).mono ?_
      rintro e w4 ⟨av2, cv2, rfl, rl2, hb4⟩
      have rl3 := hide (rl.out.below (((hb2.trans (hb3.mono hs2)).trans (hb4.mono (by omega))) : Below w1.heap.size w1 w4) (Nat.le_refl _))
      replace rl2 := hide rl2
      go_wp2_with fail
      refine (equalE av av2 cv cv2 xs xs _ w1.heap.size w4.heap.size rl3.out rl2.out (by omega) (by omega) true (by simp)).mono ?_
      rintro e w5 ⟨rfl, m, rfl⟩
      go_wp2
      go_ret
      exact ⟨rfl, (by repeat (first | with_reducible exact Below.refl _ _ | with_reducible assumption | with_reducible refine up_drewN ?_ | with_reducible refine up_drew ?_ | (with_reducible refine up_alloc ?_ ?_; rotate_left; (first | omega | (simp <;> omega) | simp)) | (with_reducible refine up_set ?_ ?_; rotate_left; (first | omega | (simp <;> omega) | simp)) | (with_reducible refine Below.trans ?_ (Below.mono (by with_reducible assumption) ?_); rotate_left; (first | omega | (simp <;> omega) | simp))))⟩
  · have q0 : (gridErr x0 y0 cs0 != 0) = true := by simp [h0]
    have q1 : (gridErr x0 y0 cs0 == 0) = false := by simpa using h0
    have q2 : (gridErr x0 y0 cs0 == gridErr x0 y0 cs0) = true := by simp
    have q3 : (gridErr x0 y0 cs0 != gridErr x0 y0 cs0) = false := by simp
    have hM := hide (hO.out · [] (gridErr x0 y0 cs0) · (.inl ⟨h0, rfl, rfl⟩))
    clear h0 hO
    go_enter Try.func12, Try.ntmps12
    go_wp2_with fail
    refine (hM.out _ ((r0.out.below ((by repeat (first | with_reducible exact Below.refl _ _ | with_reducible assumption | with_reducible refine up_drewN ?_ | with_reducible refine up_drew ?_ | (with_reducible refine up_alloc ?_ ?_; rotate_left; (first | omega | (simp <;> omega) | simp)) | (with_reducible refine up_set ?_ ?_; rotate_left; (first | omega | (simp <;> omega) | simp)) | (with_reducible refine Below.trans ?_ (Below.mono (by with_reducible assumption) ?_); rotate_left; (first | omega | (simp <;> omega) | simp)))) : Below w.heap.size w _) (Nat.le_refl _)).mono (by simp))).mono ?_
    rintro e w1 ⟨av, cv, rfl, rl, hb1⟩
    obtain ⟨hc1, hf1⟩ := bcell hb1; have hz1 : w.heap.size < w1.heap.size := (by have := hb1.size; (try simp at this); omega)
    go_wp2_with fail
    refine (hR.out _ w.heap.size (by first | omega | (simp <;> omega)) (r0.out.below ((by repeat (first | with_reducible exact Below.refl _ _ | with_reducible assumption | with_reducible refine up_drewN ?_ | with_reducible refine up_drew ?_ | (with_reducible refine up_alloc ?_ ?_; rotate_left; (first | omega | (simp <;> omega) | simp)) | (with_reducible refine up_set ?_ ?_; rotate_left; (first | omega | (simp <;> omega) | simp)) | (with_reducible refine Below.trans ?_ (Below.mono (by with_reducible assumption) ?_); rotate_left; (first | omega | (simp <;> omega) | simp)))) : Below w.heap.size w _) (Nat.le_refl _))).mono ?_
    rintro e w2 ⟨rfl, hb2⟩
    obtain ⟨hc2, hf2⟩ := bcell hb2; have hz2 : w.heap.size < w2.heap.size := (by have := hb2.size; (try simp at this); omega)
    go_wp2_with fail
    refine (hC.out _ w.heap.size (by first | omega | (simp <;> omega)) (r0.out.below ((by repeat (first | with_reducible exact Below.refl _ _ | with_reducible assumption | with_reducible refine up_drewN ?_ | with_reducible refine up_drew ?_ | (with_reducible refine up_alloc ?_ ?_; rotate_left; (first | omega | (simp <;> omega) | simp)) | (with_reducible refine up_set ?_ ?_; rotate_left; (first | omega | (simp <;> omega) | simp)) | (with_reducible refine Below.trans ?_ (Below.mono (by with_reducible assumption) ?_); rotate_left; (first | omega | (simp <;> omega) | simp)))) : Below w.heap.size w _) (Nat.le_refl _))).mono ?_
    rintro e w3 ⟨rfl, hb3⟩
    obtain ⟨hc3, hf3⟩ := bcell hb3; have hz3 : w.heap.size < w3.heap.size := (by have := hb3.size; (try simp at this); omega)
    go_wp2
    go_ret
    exact ⟨rfl, (by repeat (first | with_reducible exact Below.refl _ _ | with_reducible assumption | with_reducible refine up_drewN ?_ | with_reducible refine up_drew ?_ | (with_reducible refine up_alloc ?_ ?_; rotate_left; (first | omega | (simp <;> omega) | simp)) | (with_reducible refine up_set ?_ ?_; rotate_left; (first | omega | (simp <;> omega) | simp)) | (with_reducible refine Below.trans ?_ (Below.mono (by with_reducible assumption) ?_); rotate_left; (first | omega | (simp <;> omega) | simp))))⟩

set_option maxRecDepth 100000 in
theorem lifted_GridMoves (os : Os) (started : os.Started) (H : Type) (enc : TypeId × Value → H) :
    ReturnsInHanded {} Try.checked os 12 .any (Rows.gridMovesSpec.pre6 enc Try.prog Try.f12 Rows.gridMovesRow.domain false) (Rows.gridMovesSpec.post enc Try.prog Try.f12 false true false false) := by
  refine returnsInHanded_of_change (C := Try.checked) own started (by kernel_rfl) Try.func12
    (ChangeSpec.witness6 (enc := enc) (C := Try.checked) false ⟨#[], #[.agg #[.int .i64 0, .int .i64 0, .slice none 0 0], .int .i64 0], []⟩ 8 (by kernel_rfl) (by kernel_rfl) (by kernel_rfl) (by kernel_rfl)) ?_
  intro W base args ds gs before hval0 hW hcnd _
  have hval : ∀ (j : Nat) t v, Try.f12.params[j]? = some t → args[j]? = some v → Value.okWide Try.prog W .any base t v := hval0
  have hW' := hW
  obtain ⟨p, q, hA0, hV, rfl, hfz, hnd⟩ := hW
  have hA : DataW.TrodAll enc Try.prog W 0 (fun _ => true) true Try.f12.params.toList args.toList ds p := hA0
  rw [Try.params12] at hA hval
  obtain ⟨v0, vs0, d0, ds0, p0, q0, hargs, rfl, rfl, h0, tr0⟩ := trodAll_cons hA
  obtain ⟨v1, vs1, d1, ds1, p1, q1, rfl, rfl, rfl, h1, tr1⟩ := trodAll_cons tr0
  obtain ⟨rfl, rfl, rfl⟩ := trodAll_nil tr1
  obtain rfl : args = #[v0, v1] := by cases args; simp_all
  obtain ⟨rfl, rfl⟩ := trodVars_none hV
  have k0 := h0
  have lt0 : ∀ x ∈ p0, x.block < W.heap.size := by obtain ⟨m, hm⟩ := k0; exact DataW.trod_lt m _ _ _ hm
  have k1 := h1
  have lt1 : ∀ x ∈ p1, x.block < W.heap.size := by obtain ⟨m, hm⟩ := k1; exact DataW.trod_lt m _ _ _ hm
  obtain ⟨x0, y0, a0, cap0, cs0, rfl, b0, c0, l0, m0, r0, be0⟩ := openT_grid (P := Try.prog) Try.underlying36 (by kernel_rfl) (by kernel_rfl) Try.underlying3 Try.underlying3 Try.underlying24 (by kernel_rfl) Try.underlying3 (hval 0 36 v0 rfl rfl) h0
  obtain ⟨x1, rfl, b1⟩ := openT_int Try.underlying3 (hval 1 3 v1 rfl rfl) h1
  clear hA0 hval0
  refine (walk_GridMoves x0 y0 a0 cap0 cs0 x1 W b0 c0 l0 m0 r0 be0 b1).mono fun e W' ⟨he, bel⟩ => ?_
  subst he
  exact ⟨_, rfl, _, _, _, [], _, [], hW', trodAll_mk1 (shut_bool Try.underlying4 _), (trodAll_cons_mk (Below.trod laidOut (by kernel_rfl) (of_decide_eq_true (by kernel_rfl)) k0 bel lt0) (trodAll_cons_mk (Below.trod laidOut (by kernel_rfl) (of_decide_eq_true (by kernel_rfl)) k1 bel lt1) trodAll_mk0)), rfl, bel.frame _, fun h => by cases h⟩

theorem over_GridMoves : Rows.gridMovesRow.holds Try.pinned (OpenSpec.ofChange Rows.gridMovesSpec) :=
  OpenClaim.holds_of_wide 12 Try.f12 rfl rfl rfl rfl rfl rfl rfl ⟨rfl, rfl, rfl, rfl, rfl⟩ rfl rfl rfl rfl rfl (by kernel_rfl) Try.func12 (by kernel_rfl)
    (of_decide_eq_true (by kernel_rfl)) (by unfold Func.isWrapper; first | (rw [if_pos (by decide +kernel)]; kernel_rfl) | (rw [if_neg (by decide +kernel)]; exact ⟨rfl, rfl⟩))
    (fun os started H enc _ => lifted_GridMoves os started H enc)

/-- The given statement. -/
theorem proved_GridMoves : Rows.GridMovesSaid := over_GridMoves
#print axioms proved_GridMoves

end Go.Proofs.Ytiibhdibeljcjaa
