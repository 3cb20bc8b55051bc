/-
  The walk of felllaw.JohnFlats: it returns true. Conditions: the arguments read as data.
-/
import Derived.Test.YtjidomfnngdomaaJGood
import Derived.Test.YtjidomfnngdomaaSameNet
import Derived.Test.YtjidomfnngdomaaOpen
import Derived.Deep.RegionHeld3
namespace Go.Proofs.Ytjidomfnngdomaa
open Go.RowKit
set_option linter.unusedSimpArgs false
set_option linter.unusedVariables false
set_option maxRecDepth 100000 in
set_option maxHeartbeats 4000000 in
theorem walk_JohnFlats (x0 : Int) (a0 : Option Addr) (cap0 : Nat) (es0 : List Ed) (a1 : Option Addr) (cap1 : Nat) (x1 : List Int) (w : World) (b0 : Bd x0) (l0 : es0.length ≤ cap0) (m0 : cap0 ≤ maxLen) (r0 : Row encE 3 w w.heap.size a0 es0) (be0 : ∀ x ∈ es0, BdE x) (l1 : x1.length ≤ cap1) (m1 : cap1 ≤ maxLen) (r1 : Row encI 1 w w.heap.size a1 x1) (b1 : ∀ x ∈ x1, Bd x) :
    Calls Try.prog 4 #[.agg #[.int .i64 x0, .slice a0 es0.length cap0], .slice a1 x1.length cap1] w fun e w' => e = .returned (.bool true) ∧ Below w.heap.size w w' := by
  have hl : es0.length ≤ 9223372036854775807 := by unfold maxLen at m0; omega
  have hl1 : x1.length ≤ 9223372036854775807 := by unfold maxLen at m1; omega
  replace r0 := hide r0
  replace r1 := hide r1
  replace be0 := hide be0
  replace b1 := hide b1
  by_cases h0 : netErr x0 es0 = 0
  · obtain ⟨n1, n2, n3, n4⟩ := netErr_ok h0
    obtain ⟨n, rfl⟩ := Int.eq_ofNat_of_zero_le (show 0 ≤ x0 by omega)
    have hes := hide (show Right n es0 from n4)
    have hC := hide (fun w B hB hE => by have := rnet_any (n : Int) a0 cap0 es0 w B hB hE hl; rw [h0] at this; exact this)
    have hJ0 := hide (fun w B hB hE hH => jflat_ok n a0 cap0 es0 a1 cap1 x1 w B hB hE hH hl1 h0)
    have hj0 := hide (show jErr (n : Int) es0 x1 = if (x1.length : Int) ≠ n then 1 else if lErr x1 ≠ 0 then 1 else flErr (es0.map (flE (lAt x1))) by unfold jErr; rw [if_neg (by simp [h0])])
    have hg0 := hide h0
    clear h0 n4
    by_cases hlen : x1.length = n
    · subst hlen
      have hmm := hide (lErr_minmax (h := x1) (by omega))
      have hMin := hide (fun w B hE => smin_any a1 cap1 x1 w B hE (by omega) hl1)
      have hMax := hide (fun w B hE => smax_any a1 cap1 x1 w B hE (by omega) hl1)
      obtain ⟨mi, hmi⟩ : ∃ m, m = minL x1 := ⟨_, rfl⟩
      obtain ⟨ma, hma⟩ : ∃ m, m = maxL x1 := ⟨_, rfl⟩
      rw [← hmi] at hMin hmm
      rw [← hma] at hMax hmm
      replace hmi := hide hmi
      replace hma := hide hma
      by_cases q1 : mi < -1000000
      · have hj : jErr (x1.length : Int) es0 x1 = 1 := by
          rw [hj0.out, if_neg (by simp), if_pos]; intro h0; have := (hmm.out.1 h0).1; omega
        have hJ := hide (fun w B hB hE hH => by have := hJ0.out w B hB hE hH; rw [hj] at this; unfold FlatBack at this; exact this)
        simp only [show ¬ ((1 : Int) = 0) by omega, if_false] at hJ
        clear hj hJ0 hj0 hmm hMax
        go_enter Try.func4, Try.ntmps4
        go_wp2_with fail
        refine (hJ.out _ w.heap.size (by simp) (r0.out.below ((by repeat (first | with_reducible exact Below.refl _ _ | with_reducible assumption | with_reducible refine up_drewN ?_ | with_reducible refine up_drew ?_ | (with_reducible refine up_alloc ?_ ?_; rotate_left; (first | omega | (simp <;> omega) | simp)) | (with_reducible refine up_set ?_ ?_; rotate_left; (first | omega | (simp <;> omega) | simp)) | (with_reducible refine Below.trans ?_ (Below.mono (by with_reducible assumption) ?_); rotate_left; (first | omega | (simp <;> omega) | simp)))) : Below w.heap.size w _) (Nat.le_refl _)) (r1.out.below ((by repeat (first | with_reducible exact Below.refl _ _ | with_reducible assumption | with_reducible refine up_drewN ?_ | with_reducible refine up_drew ?_ | (with_reducible refine up_alloc ?_ ?_; rotate_left; (first | omega | (simp <;> omega) | simp)) | (with_reducible refine up_set ?_ ?_; rotate_left; (first | omega | (simp <;> omega) | simp)) | (with_reducible refine Below.trans ?_ (Below.mono (by with_reducible assumption) ?_); rotate_left; (first | omega | (simp <;> omega) | simp)))) : Below w.heap.size w _) (Nat.le_refl _))).mono ?_
        rintro e w1 ⟨v, rfl, own, hb1⟩
        obtain ⟨av, cv, rfl⟩ := own.shape (n := 0) (by simp)
        have k0 : w1.cell? ⟨w.heap.size, 0, none⟩ = some (.int .i64 (x1.length : Int)) := cu_below hb1 (by simp [go_sem]) (by simp)
        have k1 : w1.cell? ⟨w.heap.size, 1, none⟩ = some (.slice a0 es0.length cap0) := cu_below hb1 (by simp [go_sem]) (by simp)
        have hbw1 := hide (unalloc (hb1.mono (by simp)) (Nat.le_refl _) : Below w.heap.size w w1)
        have hz1 : w.heap.size < w1.heap.size := cell_lt k0
        have hb2 : Below w1.heap.size w1 (w1.alloc (.cells #[.int .i64 0, .slice av 0 cv] 27)) := (Below.refl _ _).alloc (Nat.le_refl _) _
        have k0 := cu_below hb2 k0 hz1
        have k1 := cu_below hb2 k1 hz1
        have p0 : (w1.alloc (.cells #[.int .i64 0, .slice av 0 cv] 27)).cell? ⟨w1.heap.size, 0, none⟩ = some (.int .i64 0) := by simp [go_sem]
        have p1 : (w1.alloc (.cells #[.int .i64 0, .slice av 0 cv] 27)).cell? ⟨w1.heap.size, 1, none⟩ = some (.slice av 0 cv) := by simp [go_sem]
        have hbw2 := hide (hbw1.out.trans (hb2.mono (by omega)))
        clear own hb1 hb2
        go_wp2_with fail
        generalize (w1.alloc (.cells #[.int .i64 0, .slice av 0 cv] 27)) = w2 at k0 k1 p0 p1 hbw2 ⊢
        have hz2 : w1.heap.size < w2.heap.size := cell_lt p0
        refine (hC.out _ w.heap.size (by omega) (r0.out.below hbw2.out (Nat.le_refl _))).mono ?_
        rintro e w3 ⟨rfl, hb3⟩
        have k0 := cu_below hb3 k0 (by simp; omega)
        have k1 := cu_below hb3 k1 (by simp; omega)
        have p0 := cu_below hb3 p0 hz2
        have p1 := cu_below hb3 p1 hz2
        have hbw3 := hide (hbw2.out.trans (hb3.mono (by omega)))
        have hz3 : w1.heap.size < w3.heap.size := cell_lt p0
        have hz3' : w.heap.size < w3.heap.size := by omega
        clear hb3
        go_wp2_with fail
        refine (hMin.out _ w.heap.size (r1.out.below hbw3.out (Nat.le_refl _))).mono ?_
        rintro e w9 ⟨rfl, m2, rfl⟩
        have hb9 : Below w3.heap.size w3 (w3.drewN m2) := up_drewN (Below.refl _ _)
        have k0 := cu_below hb9 k0 (by simp; omega)
        have k1 := cu_below hb9 k1 (by simp; omega)
        have p0 := cu_below hb9 p0 hz3
        have p1 := cu_below hb9 p1 hz3
        have hbw3 := hide (hbw3.out.trans (hb9.mono (by omega)))
        have hz3 : w1.heap.size < (w3.drewN m2).heap.size := cell_lt p0
        have hz3' : w.heap.size < (w3.drewN m2).heap.size := by omega
        clear hb9
        generalize w3.drewN m2 = w9 at k0 k1 p0 p1 hbw3 hz3 hz3' ⊢
        have hb4 : Below w9.heap.size w9 (w9.alloc (.cells #[.int .i64 (x1.length : Int), .slice none 0 0] 27)) := up_alloc (Below.refl _ _) (Nat.le_refl _)
        have k0 := cu_below hb4 k0 (by simp; omega)
        have k1 := cu_below hb4 k1 (by simp; omega)
        have p0 := cu_below hb4 p0 hz3
        have p1 := cu_below hb4 p1 hz3
        have hbw4 := hide (hbw3.out.trans (hb4.mono (by omega)))
        have hz4 := hb4.size
        clear hb4
        go_wp2
        generalize (w9.alloc (.cells #[.int .i64 (x1.length : Int), .slice none 0 0] 27)) = w4 at k0 k1 p0 p1 hbw4 hz4 ⊢
        have hz4' : w1.heap.size < w4.heap.size := by omega
        have hz4'' : w.heap.size < w4.heap.size := by omega
        go_loopw [7, 9] (fun s7 s9 wr => s7 = .int .i64 1 ∧ s9 = .int .i64 0 ∧ w4 = wr) (fun _ _ _ => 0)
        case atStart => exact ⟨rfl, rfl, rfl⟩
        case round =>
          obtain ⟨rfl, rfl, rfl⟩ := hrel
          rcases Nat.eq_zero_or_pos es0.length with hl0 | hl0
          · have i0 : ((es0.length : Nat) : Int) = 0 := by omega
            have i1 : decide ((0 : Int) < (es0.length : Int)) = false := decide_eq_false (by omega)
            have i2 : ¬ 0 < es0.length := by omega
            clear hl0 i0
            go_wp2_with fail
            refine (samenet_any 0 0 av none cv 0 [] [] _ (Row.nil _ _ _ _ _) (Row.nil _ _ _ _ _) (by simp) (by simp) true (by simp)).mono ?_
            rintro e w5 ⟨rfl, hb5⟩
            go_wp2
            go_ret
            exact ⟨rfl, hbw4.out.trans (hb5.mono (by omega))⟩
          · have i0 : (0 : Int) < (es0.length : Int) := by omega
            go_wp2_with fail
            refine (samenet_any 0 0 av none cv 0 [] [] _ (Row.nil _ _ _ _ _) (Row.nil _ _ _ _ _) (by simp) (by simp) true (by simp)).mono ?_
            rintro e w5 ⟨rfl, hb5⟩
            go_wp2
            go_ret
            exact ⟨rfl, hbw4.out.trans (hb5.mono (by omega))⟩
      by_cases q2 : 1000000 < ma
      · have hj : jErr (x1.length : Int) es0 x1 = 1 := by
          rw [hj0.out, if_neg (by simp), if_pos]; intro h0; have := (hmm.out.1 h0).2; omega
        have hJ := hide (fun w B hB hE hH => by have := hJ0.out w B hB hE hH; rw [hj] at this; unfold FlatBack at this; exact this)
        simp only [show ¬ ((1 : Int) = 0) by omega, if_false] at hJ
        have q1' : -1000000 ≤ mi := by omega
        clear hj hJ0 hj0 hmm q1
        go_enter Try.func4, Try.ntmps4
        go_wp2_with fail
        refine (hJ.out _ w.heap.size (by simp) (r0.out.below ((by repeat (first | with_reducible exact Below.refl _ _ | with_reducible assumption | with_reducible refine up_drewN ?_ | with_reducible refine up_drew ?_ | (with_reducible refine up_alloc ?_ ?_; rotate_left; (first | omega | (simp <;> omega) | simp)) | (with_reducible refine up_set ?_ ?_; rotate_left; (first | omega | (simp <;> omega) | simp)) | (with_reducible refine Below.trans ?_ (Below.mono (by with_reducible assumption) ?_); rotate_left; (first | omega | (simp <;> omega) | simp)))) : Below w.heap.size w _) (Nat.le_refl _)) (r1.out.below ((by repeat (first | with_reducible exact Below.refl _ _ | with_reducible assumption | with_reducible refine up_drewN ?_ | with_reducible refine up_drew ?_ | (with_reducible refine up_alloc ?_ ?_; rotate_left; (first | omega | (simp <;> omega) | simp)) | (with_reducible refine up_set ?_ ?_; rotate_left; (first | omega | (simp <;> omega) | simp)) | (with_reducible refine Below.trans ?_ (Below.mono (by with_reducible assumption) ?_); rotate_left; (first | omega | (simp <;> omega) | simp)))) : Below w.heap.size w _) (Nat.le_refl _))).mono ?_
        rintro e w1 ⟨v, rfl, own, hb1⟩
        obtain ⟨av, cv, rfl⟩ := own.shape (n := 0) (by simp)
        have k0 : w1.cell? ⟨w.heap.size, 0, none⟩ = some (.int .i64 (x1.length : Int)) := cu_below hb1 (by simp [go_sem]) (by simp)
        have k1 : w1.cell? ⟨w.heap.size, 1, none⟩ = some (.slice a0 es0.length cap0) := cu_below hb1 (by simp [go_sem]) (by simp)
        have hbw1 := hide (unalloc (hb1.mono (by simp)) (Nat.le_refl _) : Below w.heap.size w w1)
        have hz1 : w.heap.size < w1.heap.size := cell_lt k0
        have hb2 : Below w1.heap.size w1 (w1.alloc (.cells #[.int .i64 0, .slice av 0 cv] 27)) := (Below.refl _ _).alloc (Nat.le_refl _) _
        have k0 := cu_below hb2 k0 hz1
        have k1 := cu_below hb2 k1 hz1
        have p0 : (w1.alloc (.cells #[.int .i64 0, .slice av 0 cv] 27)).cell? ⟨w1.heap.size, 0, none⟩ = some (.int .i64 0) := by simp [go_sem]
        have p1 : (w1.alloc (.cells #[.int .i64 0, .slice av 0 cv] 27)).cell? ⟨w1.heap.size, 1, none⟩ = some (.slice av 0 cv) := by simp [go_sem]
        have hbw2 := hide (hbw1.out.trans (hb2.mono (by omega)))
        clear own hb1 hb2
        go_wp2_with fail
        generalize (w1.alloc (.cells #[.int .i64 0, .slice av 0 cv] 27)) = w2 at k0 k1 p0 p1 hbw2 ⊢
        have hz2 : w1.heap.size < w2.heap.size := cell_lt p0
        refine (hC.out _ w.heap.size (by omega) (r0.out.below hbw2.out (Nat.le_refl _))).mono ?_
        rintro e w3 ⟨rfl, hb3⟩
        have k0 := cu_below hb3 k0 (by simp; omega)
        have k1 := cu_below hb3 k1 (by simp; omega)
        have p0 := cu_below hb3 p0 hz2
        have p1 := cu_below hb3 p1 hz2
        have hbw3 := hide (hbw2.out.trans (hb3.mono (by omega)))
        have hz3 : w1.heap.size < w3.heap.size := cell_lt p0
        have hz3' : w.heap.size < w3.heap.size := by omega
        clear hb3
        go_wp2_with fail
        refine (hMin.out _ w.heap.size (r1.out.below hbw3.out (Nat.le_refl _))).mono ?_
        rintro e w9 ⟨rfl, m2, rfl⟩
        have hb9 : Below w3.heap.size w3 (w3.drewN m2) := up_drewN (Below.refl _ _)
        have k0 := cu_below hb9 k0 (by simp; omega)
        have k1 := cu_below hb9 k1 (by simp; omega)
        have p0 := cu_below hb9 p0 hz3
        have p1 := cu_below hb9 p1 hz3
        have hbw3 := hide (hbw3.out.trans (hb9.mono (by omega)))
        have hz3 : w1.heap.size < (w3.drewN m2).heap.size := cell_lt p0
        have hz3' : w.heap.size < (w3.drewN m2).heap.size := by omega
        clear hb9
        generalize w3.drewN m2 = w8 at k0 k1 p0 p1 hbw3 hz3 hz3' ⊢
        go_wp2_with fail
        refine (hMax.out _ w.heap.size (r1.out.below hbw3.out (Nat.le_refl _))).mono ?_
        rintro e w9 ⟨rfl, m3, rfl⟩
        have hb9 : Below w8.heap.size w8 (w8.drewN m3) := up_drewN (Below.refl _ _)
        have k0 := cu_below hb9 k0 (by simp; omega)
        have k1 := cu_below hb9 k1 (by simp; omega)
        have p0 := cu_below hb9 p0 hz3
        have p1 := cu_below hb9 p1 hz3
        have hbw3 := hide (hbw3.out.trans (hb9.mono (by omega)))
        have hz3 : w1.heap.size < (w8.drewN m3).heap.size := cell_lt p0
        have hz3' : w.heap.size < (w8.drewN m3).heap.size := by omega
        clear hb9
        generalize w8.drewN m3 = w9 at k0 k1 p0 p1 hbw3 hz3 hz3' ⊢
        have hb4 : Below w9.heap.size w9 (w9.alloc (.cells #[.int .i64 (x1.length : Int), .slice none 0 0] 27)) := up_alloc (Below.refl _ _) (Nat.le_refl _)
        have k0 := cu_below hb4 k0 (by simp; omega)
        have k1 := cu_below hb4 k1 (by simp; omega)
        have p0 := cu_below hb4 p0 hz3
        have p1 := cu_below hb4 p1 hz3
        have hbw4 := hide (hbw3.out.trans (hb4.mono (by omega)))
        have hz4 := hb4.size
        clear hb4
        go_wp2
        generalize (w9.alloc (.cells #[.int .i64 (x1.length : Int), .slice none 0 0] 27)) = w4 at k0 k1 p0 p1 hbw4 hz4 ⊢
        have hz4' : w1.heap.size < w4.heap.size := by omega
        have hz4'' : w.heap.size < w4.heap.size := by omega
        go_loopw [7, 9] (fun s7 s9 wr => s7 = .int .i64 1 ∧ s9 = .int .i64 0 ∧ w4 = wr) (fun _ _ _ => 0)
        case atStart => exact ⟨rfl, rfl, rfl⟩
        case round =>
          obtain ⟨rfl, rfl, rfl⟩ := hrel
          rcases Nat.eq_zero_or_pos es0.length with hl0 | hl0
          · have i0 : ((es0.length : Nat) : Int) = 0 := by omega
            have i1 : decide ((0 : Int) < (es0.length : Int)) = false := decide_eq_false (by omega)
            have i2 : ¬ 0 < es0.length := by omega
            clear hl0 i0
            go_wp2_with fail
            refine (samenet_any 0 0 av none cv 0 [] [] _ (Row.nil _ _ _ _ _) (Row.nil _ _ _ _ _) (by simp) (by simp) true (by simp)).mono ?_
            rintro e w5 ⟨rfl, hb5⟩
            go_wp2
            go_ret
            exact ⟨rfl, hbw4.out.trans (hb5.mono (by omega))⟩
          · have i0 : (0 : Int) < (es0.length : Int) := by omega
            go_wp2_with fail
            refine (samenet_any 0 0 av none cv 0 [] [] _ (Row.nil _ _ _ _ _) (Row.nil _ _ _ _ _) (by simp) (by simp) true (by simp)).mono ?_
            rintro e w5 ⟨rfl, hb5⟩
            go_wp2
            go_ret
            exact ⟨rfl, hbw4.out.trans (hb5.mono (by omega))⟩
      · exact jf_good a0 cap0 es0 a1 cap1 x1 w hl hl1 r0 r1 hg0.out (hmm.out.2 ⟨by omega, by omega⟩)
    · have hj : jErr (n : Int) es0 x1 = 1 := by rw [hj0.out, if_pos (by omega)]
      have hJ := hide (fun w B hB hE hH => by have := hJ0.out w B hB hE hH; rw [hj] at this; unfold FlatBack at this; exact this)
      simp only [show ¬ ((1 : Int) = 0) by omega, if_false] at hJ
      have q0 : ((x1.length : Int) != (n : Int)) = true := by simp; omega
      clear hj hJ0 hj0 hlen
      go_enter Try.func4, Try.ntmps4
      go_wp2_with fail
      refine (hJ.out _ w.heap.size (by simp) (r0.out.below ((by repeat (first | with_reducible exact Below.refl _ _ | with_reducible assumption | with_reducible refine up_drewN ?_ | with_reducible refine up_drew ?_ | (with_reducible refine up_alloc ?_ ?_; rotate_left; (first | omega | (simp <;> omega) | simp)) | (with_reducible refine up_set ?_ ?_; rotate_left; (first | omega | (simp <;> omega) | simp)) | (with_reducible refine Below.trans ?_ (Below.mono (by with_reducible assumption) ?_); rotate_left; (first | omega | (simp <;> omega) | simp)))) : Below w.heap.size w _) (Nat.le_refl _)) (r1.out.below ((by repeat (first | with_reducible exact Below.refl _ _ | with_reducible assumption | with_reducible refine up_drewN ?_ | with_reducible refine up_drew ?_ | (with_reducible refine up_alloc ?_ ?_; rotate_left; (first | omega | (simp <;> omega) | simp)) | (with_reducible refine up_set ?_ ?_; rotate_left; (first | omega | (simp <;> omega) | simp)) | (with_reducible refine Below.trans ?_ (Below.mono (by with_reducible assumption) ?_); rotate_left; (first | omega | (simp <;> omega) | simp)))) : Below w.heap.size w _) (Nat.le_refl _))).mono ?_
      rintro e w1 ⟨v, rfl, own, hb1⟩
      obtain ⟨av, cv, rfl⟩ := own.shape (n := 0) (by simp)
      have k0 : w1.cell? ⟨w.heap.size, 0, none⟩ = some (.int .i64 (n : Int)) := cu_below hb1 (by simp [go_sem]) (by simp)
      have k1 : w1.cell? ⟨w.heap.size, 1, none⟩ = some (.slice a0 es0.length cap0) := cu_below hb1 (by simp [go_sem]) (by simp)
      have hbw1 := hide (unalloc (hb1.mono (by simp)) (Nat.le_refl _) : Below w.heap.size w w1)
      have hz1 : w.heap.size < w1.heap.size := cell_lt k0
      have hb2 : Below w1.heap.size w1 (w1.alloc (.cells #[.int .i64 0, .slice av 0 cv] 27)) := (Below.refl _ _).alloc (Nat.le_refl _) _
      have k0 := cu_below hb2 k0 hz1
      have k1 := cu_below hb2 k1 hz1
      have p0 : (w1.alloc (.cells #[.int .i64 0, .slice av 0 cv] 27)).cell? ⟨w1.heap.size, 0, none⟩ = some (.int .i64 0) := by simp [go_sem]
      have p1 : (w1.alloc (.cells #[.int .i64 0, .slice av 0 cv] 27)).cell? ⟨w1.heap.size, 1, none⟩ = some (.slice av 0 cv) := by simp [go_sem]
      have hbw2 := hide (hbw1.out.trans (hb2.mono (by omega)))
      clear own hb1 hb2
      go_wp2_with fail
      generalize (w1.alloc (.cells #[.int .i64 0, .slice av 0 cv] 27)) = w2 at k0 k1 p0 p1 hbw2 ⊢
      have hz2 : w1.heap.size < w2.heap.size := cell_lt p0
      refine (hC.out _ w.heap.size (by omega) (r0.out.below hbw2.out (Nat.le_refl _))).mono ?_
      rintro e w3 ⟨rfl, hb3⟩
      have k0 := cu_below hb3 k0 (by simp; omega)
      have k1 := cu_below hb3 k1 (by simp; omega)
      have p0 := cu_below hb3 p0 hz2
      have p1 := cu_below hb3 p1 hz2
      have hbw3 := hide (hbw2.out.trans (hb3.mono (by omega)))
      have hz3 : w1.heap.size < w3.heap.size := cell_lt p0
      have hz3' : w.heap.size < w3.heap.size := by omega
      clear hb3
      have hb4 : Below w3.heap.size w3 ((w3).alloc (.cells #[.int .i64 (n : Int), .slice none 0 0] 27)) := up_alloc (Below.refl _ _) (Nat.le_refl _)
      have k0 := cu_below hb4 k0 (by simp; omega)
      have k1 := cu_below hb4 k1 (by simp; omega)
      have p0 := cu_below hb4 p0 hz3
      have p1 := cu_below hb4 p1 hz3
      have hbw4 := hide (hbw3.out.trans (hb4.mono (by omega)))
      have hz4 := hb4.size
      clear hb4
      go_wp2
      generalize ((w3).alloc (.cells #[.int .i64 (n : Int), .slice none 0 0] 27)) = w4 at k0 k1 p0 p1 hbw4 hz4 ⊢
      have hz4' : w1.heap.size < w4.heap.size := by omega
      have hz4'' : w.heap.size < w4.heap.size := by omega
      go_loopw [7, 9] (fun s7 s9 wr => s7 = .int .i64 1 ∧ s9 = .int .i64 0 ∧ w4 = wr) (fun _ _ _ => 0)
      case atStart => exact ⟨rfl, rfl, rfl⟩
      case round =>
        obtain ⟨rfl, rfl, rfl⟩ := hrel
        rcases Nat.eq_zero_or_pos es0.length with hl0 | hl0
        · have i0 : ((es0.length : Nat) : Int) = 0 := by omega
          have i1 : decide ((0 : Int) < (es0.length : Int)) = false := decide_eq_false (by omega)
          have i2 : ¬ 0 < es0.length := by omega
          clear hl0 i0
          go_wp2_with fail
          refine (samenet_any 0 0 av none cv 0 [] [] _ (Row.nil _ _ _ _ _) (Row.nil _ _ _ _ _) (by simp) (by simp) true (by simp)).mono ?_
          rintro e w5 ⟨rfl, hb5⟩
          go_wp2
          go_ret
          exact ⟨rfl, hbw4.out.trans (hb5.mono (by omega))⟩
        · have i0 : (0 : Int) < (es0.length : Int) := by omega
          go_wp2_with fail
          refine (samenet_any 0 0 av none cv 0 [] [] _ (Row.nil _ _ _ _ _) (Row.nil _ _ _ _ _) (by simp) (by simp) true (by simp)).mono ?_
          rintro e w5 ⟨rfl, hb5⟩
          go_wp2
          go_ret
          exact ⟨rfl, hbw4.out.trans (hb5.mono (by omega))⟩
  · have q0 : (netErr x0 es0 != 0) = true := by simp [h0]
    have q1 : (netErr x0 es0 == 0) = false := by simpa using h0
    have hJ := hide (fun w B hB hE (hH : Row encI 1 w B a1 x1) => by have := jflat_bad x0 a0 cap0 es0 a1 cap1 x1 w B hB hE hl h0; unfold FlatBack jErr at this; rw [if_pos h0, if_neg h0, if_neg h0] at this; exact this)
    have hC := hide (fun w B hB hE => rnet_any x0 a0 cap0 es0 w B hB hE hl)
    clear h0
    go_enter Try.func4, Try.ntmps4
    go_wp2_with fail
    refine (hJ.out _ w.heap.size (by simp) (r0.out.below ((by repeat (first | with_reducible exact Below.refl _ _ | with_reducible assumption | with_reducible refine up_drewN ?_ | with_reducible refine up_drew ?_ | (with_reducible refine up_alloc ?_ ?_; rotate_left; (first | omega | (simp <;> omega) | simp)) | (with_reducible refine up_set ?_ ?_; rotate_left; (first | omega | (simp <;> omega) | simp)) | (with_reducible refine Below.trans ?_ (Below.mono (by with_reducible assumption) ?_); rotate_left; (first | omega | (simp <;> omega) | simp)))) : Below w.heap.size w _) (Nat.le_refl _)) (r1.out.below ((by repeat (first | with_reducible exact Below.refl _ _ | with_reducible assumption | with_reducible refine up_drewN ?_ | with_reducible refine up_drew ?_ | (with_reducible refine up_alloc ?_ ?_; rotate_left; (first | omega | (simp <;> omega) | simp)) | (with_reducible refine up_set ?_ ?_; rotate_left; (first | omega | (simp <;> omega) | simp)) | (with_reducible refine Below.trans ?_ (Below.mono (by with_reducible assumption) ?_); rotate_left; (first | omega | (simp <;> omega) | simp)))) : Below w.heap.size w _) (Nat.le_refl _))).mono ?_
    rintro e w1 ⟨v, rfl, own, hb1⟩
    obtain ⟨av, cv, rfl⟩ := own.shape (n := 0) (by simp)
    have k0 : w1.cell? ⟨w.heap.size, 0, none⟩ = some (.int .i64 x0) := cu_below hb1 (by simp [go_sem]) (by simp)
    have k1 : w1.cell? ⟨w.heap.size, 1, none⟩ = some (.slice a0 es0.length cap0) := cu_below hb1 (by simp [go_sem]) (by simp)
    have hbw1 := hide (unalloc (hb1.mono (by simp)) (Nat.le_refl _) : Below w.heap.size w w1)
    have hz1 : w.heap.size < w1.heap.size := cell_lt k0
    have hb2 : Below w1.heap.size w1 (w1.alloc (.cells #[.int .i64 0, .slice av 0 cv] 27)) := (Below.refl _ _).alloc (Nat.le_refl _) _
    have k0 := cu_below hb2 k0 hz1
    have k1 := cu_below hb2 k1 hz1
    have p0 : (w1.alloc (.cells #[.int .i64 0, .slice av 0 cv] 27)).cell? ⟨w1.heap.size, 0, none⟩ = some (.int .i64 0) := by simp [go_sem]
    have p1 : (w1.alloc (.cells #[.int .i64 0, .slice av 0 cv] 27)).cell? ⟨w1.heap.size, 1, none⟩ = some (.slice av 0 cv) := by simp [go_sem]
    have hbw2 := hide (hbw1.out.trans (hb2.mono (by omega)))
    clear own hb1 hb2
    go_wp2_with fail
    generalize (w1.alloc (.cells #[.int .i64 0, .slice av 0 cv] 27)) = w2 at k0 k1 p0 p1 hbw2 ⊢
    have hz2 : w1.heap.size < w2.heap.size := cell_lt p0
    refine (hC.out _ w.heap.size (by omega) (r0.out.below hbw2.out (Nat.le_refl _))).mono ?_
    rintro e w3 ⟨rfl, hb3⟩
    have k0 := cu_below hb3 k0 (by simp; omega)
    have k1 := cu_below hb3 k1 (by simp; omega)
    have p0 := cu_below hb3 p0 hz2
    have p1 := cu_below hb3 p1 hz2
    have hbw3 := hide (hbw2.out.trans (hb3.mono (by omega)))
    have hz3 : w1.heap.size < w3.heap.size := cell_lt p0
    have hz3' : w.heap.size < w3.heap.size := by omega
    clear hb3
    have hb4 : Below w3.heap.size w3 ((w3).alloc (.cells #[.int .i64 x0, .slice none 0 0] 27)) := up_alloc (Below.refl _ _) (Nat.le_refl _)
    have k0 := cu_below hb4 k0 (by simp; omega)
    have k1 := cu_below hb4 k1 (by simp; omega)
    have p0 := cu_below hb4 p0 hz3
    have p1 := cu_below hb4 p1 hz3
    have hbw4 := hide (hbw3.out.trans (hb4.mono (by omega)))
    have hz4 := hb4.size
    clear hb4
    go_wp2
    generalize ((w3).alloc (.cells #[.int .i64 x0, .slice none 0 0] 27)) = w4 at k0 k1 p0 p1 hbw4 hz4 ⊢
    have hz4' : w1.heap.size < w4.heap.size := by omega
    have hz4'' : w.heap.size < w4.heap.size := by omega
    go_loopw [7, 9] (fun s7 s9 wr => s7 = .int .i64 (netErr x0 es0) ∧ s9 = .int .i64 0 ∧ w4 = wr) (fun _ _ _ => 0)
    case atStart => exact ⟨rfl, rfl, rfl⟩
    case round =>
      obtain ⟨rfl, rfl, rfl⟩ := hrel
      rcases Nat.eq_zero_or_pos es0.length with hl0 | hl0
      · have i0 : ((es0.length : Nat) : Int) = 0 := by omega
        have i1 : decide ((0 : Int) < (es0.length : Int)) = false := decide_eq_false (by omega)
        have i2 : ¬ 0 < es0.length := by omega
        clear hl0 i0
        go_wp2_with fail
        refine (samenet_any 0 0 av none cv 0 [] [] _ (Row.nil _ _ _ _ _) (Row.nil _ _ _ _ _) (by simp) (by simp) true (by simp)).mono ?_
        rintro e w5 ⟨rfl, hb5⟩
        go_wp2
        go_ret
        exact ⟨rfl, hbw4.out.trans (hb5.mono (by omega))⟩
      · have i0 : (0 : Int) < (es0.length : Int) := by omega
        go_wp2_with fail
        refine (samenet_any 0 0 av none cv 0 [] [] _ (Row.nil _ _ _ _ _) (Row.nil _ _ _ _ _) (by simp) (by simp) true (by simp)).mono ?_
        rintro e w5 ⟨rfl, hb5⟩
        go_wp2
        go_ret
        exact ⟨rfl, hbw4.out.trans (hb5.mono (by omega))⟩
end Go.Proofs.Ytjidomfnngdomaa
