/-
  The walk of felllaw.DijkDists: it returns true. Conditions: the arguments read as data.
-/
import Derived.Test.YtjidomfnngdomaaDDist
import Derived.Test.YtjidomfnngdomaaEqL
import Derived.Test.YtjidomfnngdomaaOpen
namespace Go.Proofs.Ytjidomfnngdomaa
open Go.RowKit
set_option linter.unusedSimpArgs false
set_option linter.unusedVariables false

set_option maxRecDepth 100000 in
set_option maxHeartbeats 4000000 in
theorem walk_DijkDists (x0 : Int) (a0 : Option Addr) (cap0 : Nat) (es0 : List Ed) (x1 : Int) (x2 : Int) (w : World) (b0 : Bd x0) (l0 : es0.length ≤ cap0) (m0 : cap0 ≤ maxLen) (r0 : Row encE 3 w w.heap.size a0 es0) (be0 : ∀ x ∈ es0, BdE x) (b1 : Bd x1) (b2 : Bd x2) :
    Calls Try.prog 11 #[.agg #[.int .i64 x0, .slice a0 es0.length cap0], .int .i64 x1, .int .i64 x2] w fun e w' => e = .returned (.bool true) ∧ Below w.heap.size w w' := by
  have hl : es0.length ≤ 9223372036854775807 := by unfold maxLen at m0; omega
  replace r0 := hide r0
  have hL2 := hide (fun (b : Nat) (w : World) (hE : Row encE 3 w w.heap.size a0 es0) (hP : Row encI 1 w w.heap.size (some ⟨b, 0, none⟩) [x1, x2]) => look_any x0 a0 cap0 es0 (some ⟨b, 0, none⟩) 2 2 [x1, x2] rfl w w.heap.size (Nat.le_refl _) hE hP hl (by omega))
  have hR2 := hide (fun (b : Nat) (w : World) (hE : Row encE 3 w w.heap.size a0 es0) (hP : Row encI 1 w w.heap.size (some ⟨b, 0, none⟩) [x1, x2]) => rlook_any x0 a0 cap0 es0 (some ⟨b, 0, none⟩) 2 2 [x1, x2] rfl w w.heap.size (Nat.le_refl _) hE hP hl (by omega))
  have hL0 := hide (fun (w : World) (hE : Row encE 3 w w.heap.size a0 es0) => look_any x0 a0 cap0 es0 none 0 0 [] rfl w w.heap.size (Nat.le_refl _) hE (Row.nil _ _ _ _ _) hl (by omega))
  have hR0 := hide (fun (w : World) (hE : Row encE 3 w w.heap.size a0 es0) => rlook_any x0 a0 cap0 es0 none 0 0 [] rfl w w.heap.size (Nat.le_refl _) hE (Row.nil _ _ _ _ _) hl (by omega))
  replace be0 := hide be0
  go_enter Try.func11, Try.ntmps11
  go_wp2
  obtain ⟨w0, h0⟩ : ∃ w0, w0 = w.alloc (.cells #[.int .i64 x0, .slice a0 es0.length cap0] 27) := ⟨_, rfl⟩
  have hB0 : Below w.heap.size w w0 := by rw [h0]; exact (Below.refl _ _).alloc (Nat.le_refl _) _
  have c0 : w0.cell? ⟨w.heap.size, 0, none⟩ = some (.int .i64 x0) := by rw [h0]; simp [go_sem]
  have c1 : w0.cell? ⟨w.heap.size, 1, none⟩ = some (.slice a0 es0.length cap0) := by rw [h0]; simp [go_sem]
  have hz0 : w.heap.size < w0.heap.size := cell_lt c0
  have key := hide (show ∀ w', Below w0.heap.size w0 w' → (Below w0.heap.size w0 w' ∧ w'.cell? ⟨w.heap.size, 0, none⟩ = some (.int .i64 x0) ∧ w'.cell? ⟨w.heap.size, 1, none⟩ = some (.slice a0 es0.length cap0)) from
    fun w' hb => ⟨hb, (hb.cell (cell_lt c0)).trans c0, (hb.cell (cell_lt c1)).trans c1⟩)
  have hE0 := hide ((r0.out.below hB0 (Nat.le_refl _)).mono (show w.heap.size ≤ w0.heap.size by omega))
  simp only [← h0]
  replace hB0 := hide hB0
  clear h0 c0 c1
  go_region_held3 (fun w' => Below w0.heap.size w0 w' ∧ w'.cell? ⟨w.heap.size, 0, none⟩ = some (.int .i64 x0) ∧ w'.cell? ⟨w.heap.size, 1, none⟩ = some (.slice a0 es0.length cap0))
    (first | exact key.out _ (below_drew _) | exact key.out _ (by assumption) | exact key.out _ (up_alloc_self (below_drew _)) | exact key.out _ (up_alloc_self (up_alloc_self (below_drew _))) | exact key.out _ (up_alloc_self (And.left (by assumption))) | exact key.out _ (up_alloc_self (by assumption)))
    (first
      | (go_at_call 43; (with_reducible refine Calls.mono (hL0.out _ ?_) ?_); (next => exact (hE0.out.below (‹Below w0.heap.size w0 _ ∧ _› : _ ∧ _).1 (Nat.le_refl _)).mono (‹Below w0.heap.size w0 _ ∧ _› : _ ∧ _).1.size); have hb10 := (‹Below w0.heap.size w0 _ ∧ _› : _ ∧ _).1; rintro e w6 ⟨rfl, hb11⟩; have hb12 := below_step hb10 hb11)
      | (go_at_call 44; (with_reducible refine Calls.mono (hR0.out _ ?_) ?_); (next => exact (hE0.out.below (‹Below w0.heap.size w0 _ ∧ _› : _ ∧ _).1 (Nat.le_refl _)).mono (‹Below w0.heap.size w0 _ ∧ _› : _ ∧ _).1.size); have hb13 := (‹Below w0.heap.size w0 _ ∧ _› : _ ∧ _).1; rintro e w7 ⟨rfl, hb14⟩; have hb15 := below_step hb13 hb14)
      | (go_at_call 43; (with_reducible refine Calls.mono (hL2.out _ _ ?_ ?_) ?_); (next => exact (hE0.out.below (‹Below w0.heap.size w0 _ ∧ _› : _ ∧ _).1 (Nat.le_refl _)).mono (‹Below w0.heap.size w0 _ ∧ _› : _ ∧ _).1.size); (next => exact row2 (by simp [go_sem]) (by simp [go_sem])); have hb4 := (‹Below w0.heap.size w0 _ ∧ _› : _ ∧ _).1; rintro e w4 ⟨rfl, hb5⟩; have hb6 := below_step hb4 hb5)
      | (go_at_call 44; (with_reducible refine Calls.mono (hR2.out _ _ ?_ ?_) ?_); (next => exact (hE0.out.below (‹Below w0.heap.size w0 _ ∧ _› : _ ∧ _).1 (Nat.le_refl _)).mono (‹Below w0.heap.size w0 _ ∧ _› : _ ∧ _).1.size); (next => (first | (refine row2 ?_ ?_ <;> simp [go_sem]; done) | (refine row2 ?_ ?_ <;> exact cu_below hb5 (by simp [go_sem]) (by simp <;> omega)))); have hb7 := (‹Below w0.heap.size w0 _ ∧ _› : _ ∧ _).1; rintro e w5 ⟨rfl, hb8⟩; have hb9 := below_step hb7 hb8))
  all_goals
    have hs7 := (‹Below w0.heap.size w0 w7 ∧ _› : _ ∧ _)
    have hb7' := hide (hB0.out.trans (hs7.1.mono hB0.out.size))
    have c0 := hs7.2.1
    have c1 := hs7.2.2
    have hz7 : w.heap.size < w7.heap.size := cell_lt c0
    clear hL2 hR2 hL0 hR0 key hE0 hB0 hs7
    by_cases h1 : lookErr x0 es0 [x1] = 0
    · obtain ⟨g1, g2⟩ := look_ok h1
      obtain ⟨g3, g4⟩ := posErr_ok g1
      obtain ⟨n1, n2, n3, n4⟩ := netErr_ok g3
      obtain ⟨n, rfl⟩ := Int.eq_ofNat_of_zero_le (show 0 ≤ x0 by omega)
      have g5 := g2 x1 (by simp)
      obtain ⟨v, rfl⟩ := Int.eq_ofNat_of_zero_le g5.1
      have hes := hide (show Right n es0 from n4)
      have hD := hide (fun w B hB hE => ddist_ok n a0 cap0 es0 v w B hB hE hl h1)
      have hR1 := hide (fun (b : Nat) (w : World) (hE : Row encE 3 w w.heap.size a0 es0) (hP : Row encI 1 w w.heap.size (some ⟨b, 0, none⟩) [(v : Int)]) => by have := rlook_any (n : Int) a0 cap0 es0 (some ⟨b, 0, none⟩) 1 1 [(v : Int)] rfl w w.heap.size (Nat.le_refl _) hE hP hl (by omega); rw [h1] at this; exact this)
      clear h1 g1 g2 g3 g4 n4
      go_wp2_with fail
      refine (hD.out _ w.heap.size (by omega) (r0.out.below hb7'.out (Nat.le_refl _))).mono ?_
      rintro e w8 ⟨av, cv, rfl, hr8, hb8⟩
      have d0 := cu_below hb8 c0 hz7
      have d1 := cu_below hb8 c1 hz7
      have hz8 : w.heap.size < w8.heap.size := cell_lt d0
      have hb8' := hide (hb7'.out.trans (hb8.mono (by omega)))
      replace hr8 := hide hr8
      clear hb8 c0 c1
      go_wp2_with fail
      refine (hR1.out _ _ ((r0.out.below (up_alloc hb8'.out (by omega)) (Nat.le_refl _)).mono (by simp; omega)) (row1 (by simp [go_sem]))).mono ?_
      rintro e w9 ⟨rfl, hb9⟩
      have hb9' := hide (unalloc (hb9.mono (by simp)) (Nat.le_refl _) : Below w8.heap.size w8 w9)
      have e0 := cu_below hb9'.out d0 hz8
      have e1 := cu_below hb9'.out d1 hz8
      have hz9 : w.heap.size < w9.heap.size := cell_lt e0
      have hr9 := hide ((hr8.out.below hb9'.out (Nat.le_refl _)).mono hb9'.out.size)
      have hbw9 := hide (hb8'.out.trans (hb9'.out.mono (by omega)))
      clear hb9 d0 d1 hr8
      go_wp2_with fail
      refine (rdist_any n a0 cap0 es0 v _ w.heap.size (by omega) (r0.out.below hbw9.out (Nat.le_refl _)) (by omega) (by omega) n3 hes.out (by omega)).mono ?_
      rintro e w10 ⟨av4, cv4, rfl, hr10, hb10⟩
      replace hr10 := hide hr10
      have hr11 := hide (hr9.out.below hb10 (Nat.le_refl _))
      have hz10 := hb10.size
      have hbw10 := hide (hbw9.out.trans (hb10.mono (by omega)))
      go_wp2_with fail
      refine (eqI av av4 cv cv4 n n _ _ w10 w9.heap.size w10.heap.size (li_len _ _) (li_len _ _) hr11.out hr10.out (by omega) (by omega) true (by simp)).mono ?_
      rintro e w11 ⟨rfl, m2, rfl⟩
      go_wp2
      go_ret
      exact ⟨rfl, up_drewN hbw10.out⟩
    · have q0 : (lookErr x0 es0 [x1] != 0) = true := by simp [h1]
      have hD := hide (fun w B hB hE => ddist_bad x0 a0 cap0 es0 x1 w B hB hE hl h1)
      have hR1 := hide (fun (b : Nat) (w : World) (hE : Row encE 3 w w.heap.size a0 es0) (hP : Row encI 1 w w.heap.size (some ⟨b, 0, none⟩) [x1]) => rlook_any x0 a0 cap0 es0 (some ⟨b, 0, none⟩) 1 1 [x1] rfl w w.heap.size (Nat.le_refl _) hE hP hl (by omega))
      clear h1
      go_wp2_with fail
      refine (hD.out _ w.heap.size (by omega) (r0.out.below hb7'.out (Nat.le_refl _))).mono ?_
      rintro e w8 ⟨av, cv, rfl, hr8, hb8⟩
      have d0 := cu_below hb8 c0 hz7
      have d1 := cu_below hb8 c1 hz7
      have hz8 : w.heap.size < w8.heap.size := cell_lt d0
      have hb8' := hide (hb7'.out.trans (hb8.mono (by omega)))
      clear hb8 c0 c1 hr8
      go_wp2_with fail
      refine (hR1.out _ _ ((r0.out.below (up_alloc hb8'.out (by omega)) (Nat.le_refl _)).mono (by simp; omega)) (row1 (by simp [go_sem]))).mono ?_
      rintro e w9 ⟨rfl, hb9⟩
      have hb9' := hide (unalloc (hb9.mono (by simp)) (Nat.le_refl _) : Below w8.heap.size w8 w9)
      have hbw9 := hide (hb8'.out.trans (hb9'.out.mono (by omega)))
      clear hb9
      go_wp2
      go_ret
      exact ⟨rfl, hbw9.out⟩
end Go.Proofs.Ytjidomfnngdomaa
