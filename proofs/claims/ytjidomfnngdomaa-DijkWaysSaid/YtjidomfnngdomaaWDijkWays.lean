/-
  The walk of felllaw.DijkWays: it returns true. Conditions: the arguments read as data.
-/
import Derived.Test.YtjidomfnngdomaaWayOk
import Derived.Test.YtjidomfnngdomaaWayR
import Derived.Test.YtjidomfnngdomaaEqL
import Derived.Test.YtjidomfnngdomaaOpen
import Derived.Deep.RegionHeld3
namespace Go.Proofs.Ytjidomfnngdomaa
open Go.RowKit
set_option linter.unusedSimpArgs false
set_option linter.unusedVariables false
set_option maxHeartbeats 1000000 in
theorem sameway_any (a b : Option Addr) (c1 c2 m : Nat) (xs : List Int) (cost : Int) (w : World) (h1 : xs.length = m) (hx : Row encI 1 w w.heap.size a xs) (hy : Row encI 1 w w.heap.size b xs) (hl : m ≤ 9223372036854775807) :
    Calls Try.prog 48 #[.agg #[.slice a m c1, .int .i64 cost], .agg #[.slice b m c2, .int .i64 cost]] w fun e w' => e = .returned (.bool true) ∧ Below w.heap.size w w' := by
  have hE := hide (fun (w' : World) (hb : Below w.heap.size w w') => eqI a b c1 c2 m m xs xs w' w.heap.size w.heap.size h1 h1 (hx.below hb (Nat.le_refl _)) (hy.below hb (Nat.le_refl _)) hl hl true (by simp))
  clear hx hy
  replace h1 := hide h1
  go_enter Try.func48, Try.ntmps48
  go_wp2_with fail
  refine (hE.out _ (by exact (by repeat (first | with_reducible exact Below.refl _ _ | with_reducible assumption | with_reducible refine up_drewN ?_ | with_reducible refine up_drew ?_ | (with_reducible refine up_alloc ?_ ?_; rotate_left; (first | omega | (simp <;> omega) | simp)) | (with_reducible refine up_set ?_ ?_; rotate_left; (first | omega | (simp <;> omega) | simp)) | (with_reducible refine Below.trans ?_ (Below.mono (by with_reducible assumption) ?_); rotate_left; (first | omega | (simp <;> omega) | simp)))))).mono ?_
  rintro e w1 ⟨rfl, m2, rfl⟩
  go_wp2
  go_ret
  exact ⟨rfl, (by repeat (first | with_reducible exact Below.refl _ _ | with_reducible assumption | with_reducible refine up_drewN ?_ | with_reducible refine up_drew ?_ | (with_reducible refine up_alloc ?_ ?_; rotate_left; (first | omega | (simp <;> omega) | simp)) | (with_reducible refine up_set ?_ ?_; rotate_left; (first | omega | (simp <;> omega) | simp)) | (with_reducible refine Below.trans ?_ (Below.mono (by with_reducible assumption) ?_); rotate_left; (first | omega | (simp <;> omega) | simp))))⟩
set_option maxRecDepth 100000 in
set_option maxHeartbeats 4000000 in
theorem walk_DijkWays (x0 : Int) (a0 : Option Addr) (cap0 : Nat) (es0 : List Ed) (x1 : Int) (x2 : Int) (w : World) (b0 : Bd x0) (l0 : es0.length ≤ cap0) (m0 : cap0 ≤ maxLen) (r0 : Row encE 3 w w.heap.size a0 es0) (be0 : ∀ x ∈ es0, BdE x) (b1 : Bd x1) (b2 : Bd x2) :
    Calls Try.prog 12 #[.agg #[.int .i64 x0, .slice a0 es0.length cap0], .int .i64 x1, .int .i64 x2] w fun e w' => e = .returned (.bool true) ∧ Below w.heap.size w w' := by
  have hl : es0.length ≤ 9223372036854775807 := by unfold maxLen at m0; omega
  replace r0 := hide r0
  replace be0 := hide be0
  by_cases h0 : lookErr x0 es0 [x1, x2] = 0
  · obtain ⟨g1, g2⟩ := look_ok h0
    obtain ⟨g3, g4⟩ := posErr_ok g1
    obtain ⟨n1, n2, n3, n4⟩ := netErr_ok g3
    obtain ⟨n, rfl⟩ := Int.eq_ofNat_of_zero_le (show 0 ≤ x0 by omega)
    have g5 := g2 x1 (by simp)
    have g6 := g2 x2 (by simp)
    obtain ⟨f, rfl⟩ := Int.eq_ofNat_of_zero_le g5.1
    obtain ⟨t, rfl⟩ := Int.eq_ofNat_of_zero_le g6.1
    have hf : f < n := by omega
    have ht : t < n := by omega
    have hes := hide (show Right n es0 from n4)
    have hpe := pos_edges hes.out g4
    have hL := hide (fun (b : Nat) (w : World) (hE : Row encE 3 w w.heap.size a0 es0) (hP : Row encI 1 w w.heap.size (some ⟨b, 0, none⟩) [(f : Int), (t : Int)]) => by have := rlook_any (n : Int) a0 cap0 es0 (some ⟨b, 0, none⟩) 2 2 [(f : Int), (t : Int)] rfl w w.heap.size (Nat.le_refl _) hE hP hl (by omega); rw [h0] at this; exact this)
    have hD := hide (fun w B hB hE => rdist_any n a0 cap0 es0 f w B hB hE (by omega) (by omega) n3 hes.out hf)
    have it : (0 : Int) ≤ (t : Int) ∧ (t : Int) < (n : Int) := by omega
    by_cases hF : distF n es0 f t = FAR
    · have hW := hide (fun w B hB hE => way_none n a0 cap0 es0 f t w B hB hE h0 hF)
      clear h0 g1 g2 g3 g4 n4 hpe
      go_enter Try.func12, Try.ntmps12
      go_wp2_with fail
      refine (hW.out _ w.heap.size (by simp) (r0.out.below ((by repeat (first | with_reducible exact Below.refl _ _ | with_reducible assumption | with_reducible refine up_drewN ?_ | with_reducible refine up_drew ?_ | (with_reducible refine up_alloc ?_ ?_; rotate_left; (first | omega | (simp <;> omega) | simp)) | (with_reducible refine up_set ?_ ?_; rotate_left; (first | omega | (simp <;> omega) | simp)) | (with_reducible refine Below.trans ?_ (Below.mono (by with_reducible assumption) ?_); rotate_left; (first | omega | (simp <;> omega) | simp)))) : Below w.heap.size w _) (Nat.le_refl _))).mono ?_
      rintro e w1 ⟨av, cv, rfl, hr1, hb1⟩
      have k0 : w1.cell? ⟨w.heap.size, 0, none⟩ = some (.int .i64 (n : Int)) := cu_below hb1 (by simp [go_sem]) (by simp)
      have k1 : w1.cell? ⟨w.heap.size, 1, none⟩ = some (.slice a0 es0.length cap0) := cu_below hb1 (by simp [go_sem]) (by simp)
      have hbw1 := hide (unalloc (hb1.mono (by simp)) (Nat.le_refl _) : Below w.heap.size w w1)
      have hz1 : w.heap.size < w1.heap.size := cell_lt k0
      have hb2 : Below w1.heap.size w1 (w1.alloc (.cells #[.slice av 0 cv, .int .i64 0] 73)) := (Below.refl _ _).alloc (Nat.le_refl _) _
      have k0 := cu_below hb2 k0 hz1
      have k1 := cu_below hb2 k1 hz1
      have p0 : (w1.alloc (.cells #[.slice av 0 cv, .int .i64 0] 73)).cell? ⟨w1.heap.size, 0, none⟩ = some (.slice av 0 cv) := by simp [go_sem]
      have p1 : (w1.alloc (.cells #[.slice av 0 cv, .int .i64 0] 73)).cell? ⟨w1.heap.size, 1, none⟩ = some (.int .i64 0) := by simp [go_sem]
      have hbw2 := hide (hbw1.out.trans (hb2.mono (by omega)))
      clear hr1 hb1 hb2
      go_wp2_with fail
      have hsz2 : (w1.alloc (.cells #[.slice av 0 cv, .int .i64 0] 73)).heap.size = w1.heap.size + 1 := by simp
      generalize (w1.alloc (.cells #[.slice av 0 cv, .int .i64 0] 73)) = w2 at k0 k1 p0 p1 hbw2 hsz2 ⊢
      have hz2 : w1.heap.size < w2.heap.size := cell_lt p0
      refine Calls.mono (hL.out _ _ ?_ ?_) ?_
      · exact (r0.out.below (up_alloc hbw2.out (by omega)) (Nat.le_refl _)).mono (by simp; omega)
      · refine row2 ?_ ?_
        · rw [← hsz2]; simp [go_sem]
        · rw [← hsz2]; simp [go_sem]
      rintro e w3 ⟨rfl, hb3⟩
      clear hsz2
      have hb3' : Below w2.heap.size w2 w3 := unalloc (hb3.mono (by simp)) (Nat.le_refl _)
      have p0 := cu_below hb3' p0 hz2
      have p1 := cu_below hb3' p1 hz2
      have hz3 : w1.heap.size < w3.heap.size := cell_lt p0
      have hbw3 := hide (hbw2.out.trans (hb3'.mono (by omega)))
      have k0 := cu_below hb3' k0 (by simp; omega)
      have k1 := cu_below hb3' k1 (by simp; omega)
      have hz3' : w.heap.size < w3.heap.size := cell_lt k0
      clear hb3 hb3'
      go_wp2_with fail
      refine (hD.out _ w.heap.size (by omega) (r0.out.below hbw3.out (Nat.le_refl _))).mono ?_
      rintro e w4 ⟨av4, cv4, rfl, hr4, hb4⟩
      obtain ⟨b4, o4, rfl, _, ct⟩ := hr4.atI t ht
      rw [hF] at ct
      unfold FAR at ct
      have p0 := cu_below hb4 p0 hz3
      have p1 := cu_below hb4 p1 hz3
      have hz4 : w1.heap.size < w4.heap.size := cell_lt p0
      have hbw4 := hide (hbw3.out.trans (hb4.mono (by omega)))
      have hl4 := cell_lt ct
      replace hF := hide hF
      clear hr4 hb4 k0 k1
      go_wp2_with fail
      refine (sameway_any av none cv 0 0 [] 0 w4 rfl (Row.nil _ _ _ _ _) (Row.nil _ _ _ _ _) (by omega)).mono ?_
      rintro e w5 ⟨rfl, hb5⟩
      go_wp2
      go_ret
      exact ⟨rfl, hbw4.out.trans (hb5.mono (by omega))⟩
    · obtain ⟨hsf, hsp⟩ := spread_feas hpe hf
      have hle : ∀ u, distF n es0 f u ≤ FAR := fun u => Int.le_trans ((spread_att (nes es0) (stF f) (stF_far f) (n - 1)) u).1 (stF_far f u)
      have hlt : distF n es0 f t < FAR := by have := hle t; omega
      obtain ⟨K, hK0, hK1, hK2, hK3⟩ := back_ends hpe hf ht hlt
      have hd0 : ∀ u, u < n → 0 ≤ distF n es0 f u ∧ distF n es0 f u ≤ FAR := fun u hu => ⟨hsp u hu, hle u⟩
      have hW := hide (fun w B hB hE => way_ok n a0 cap0 es0 f t w B hB hE h0 K hK0 hK1 hK2 hK3 hd0)
      have hO := hide (fun w B hB hE => wayof_ok n a0 cap0 es0 f t w B hB hE h0 K hK0 hK1 hK2 hK3 hd0)
      have hxl : (pathL (backF n (nes es0) (distF n es0 f) t) K).length = K + 1 := pathL_len _ _
      have hfx : frontL (backF n (nes es0) (distF n es0 f) t) K = pathL (backF n (nes es0) (distF n es0 f) t) K := rfl
      rw [hfx] at hO
      obtain ⟨xs, hxs⟩ : ∃ xs, xs = pathL (backF n (nes es0) (distF n es0 f) t) K := ⟨_, rfl⟩
      rw [← hxs] at hW hO hxl
      obtain ⟨mm, hmm⟩ : ∃ mm, mm = K + 1 := ⟨_, rfl⟩
      rw [← hmm] at hW hO hxl
      obtain ⟨dt, hdt⟩ : ∃ x, x = distF n es0 f t := ⟨_, rfl⟩
      have hdt1 : dt < 1099511627776 := by rw [hdt]; exact hlt
      have hmb : mm ≤ 9223372036854775807 := by have : FAR = 1099511627776 := rfl; have h5 : (K : Int) ≤ distF n es0 f t := hK3; omega
      rw [← hdt] at hW hO
      have q5 : (dt == 1099511627776) = false := by simp; omega
      have q6 : decide (dt = 1099511627776) = false := by simp; omega
      replace hxs := hide hxs
      replace hxl := hide hxl
      replace hmm := hide hmm
      replace hdt := hide hdt
      clear h0 g1 g2 g3 g4 n4 hpe hsf hsp hle hlt hK0 hK1 hK2 hK3 hd0 hfx hF
      go_enter Try.func12, Try.ntmps12
      go_wp2_with fail
      refine (hW.out _ w.heap.size (by simp) (r0.out.below ((by repeat (first | with_reducible exact Below.refl _ _ | with_reducible assumption | with_reducible refine up_drewN ?_ | with_reducible refine up_drew ?_ | (with_reducible refine up_alloc ?_ ?_; rotate_left; (first | omega | (simp <;> omega) | simp)) | (with_reducible refine up_set ?_ ?_; rotate_left; (first | omega | (simp <;> omega) | simp)) | (with_reducible refine Below.trans ?_ (Below.mono (by with_reducible assumption) ?_); rotate_left; (first | omega | (simp <;> omega) | simp)))) : Below w.heap.size w _) (Nat.le_refl _))).mono ?_
      rintro e w1 ⟨av, cv, rfl, hr1, hb1⟩
      have k0 : w1.cell? ⟨w.heap.size, 0, none⟩ = some (.int .i64 (n : Int)) := cu_below hb1 (by simp [go_sem]) (by simp)
      have k1 : w1.cell? ⟨w.heap.size, 1, none⟩ = some (.slice a0 es0.length cap0) := cu_below hb1 (by simp [go_sem]) (by simp)
      have hbw1 := hide (unalloc (hb1.mono (by simp)) (Nat.le_refl _) : Below w.heap.size w w1)
      have hz1 : w.heap.size < w1.heap.size := cell_lt k0
      have hb2 : Below w1.heap.size w1 (w1.alloc (.cells #[.slice av mm cv, .int .i64 dt] 73)) := (Below.refl _ _).alloc (Nat.le_refl _) _
      have k0 := cu_below hb2 k0 hz1
      have k1 := cu_below hb2 k1 hz1
      have p0 : (w1.alloc (.cells #[.slice av mm cv, .int .i64 dt] 73)).cell? ⟨w1.heap.size, 0, none⟩ = some (.slice av mm cv) := by simp [go_sem]
      have p1 : (w1.alloc (.cells #[.slice av mm cv, .int .i64 dt] 73)).cell? ⟨w1.heap.size, 1, none⟩ = some (.int .i64 dt) := by simp [go_sem]
      have hbw2 := hide (hbw1.out.trans (hb2.mono (by omega)))
      have hr2 := hide (hr1.below hb2 (Nat.le_refl _))
      clear hr1 hb1 hb2
      go_wp2_with fail
      have hsz2 : (w1.alloc (.cells #[.slice av mm cv, .int .i64 dt] 73)).heap.size = w1.heap.size + 1 := by simp
      generalize (w1.alloc (.cells #[.slice av mm cv, .int .i64 dt] 73)) = w2 at k0 k1 p0 p1 hbw2 hsz2 hr2 ⊢
      have hz2 : w1.heap.size < w2.heap.size := cell_lt p0
      refine Calls.mono (hL.out _ _ ?_ ?_) ?_
      · exact (r0.out.below (up_alloc hbw2.out (by omega)) (Nat.le_refl _)).mono (by simp; omega)
      · refine row2 ?_ ?_
        · rw [← hsz2]; simp [go_sem]
        · rw [← hsz2]; simp [go_sem]
      rintro e w3 ⟨rfl, hb3⟩
      clear hsz2
      have hb3' : Below w2.heap.size w2 w3 := unalloc (hb3.mono (by simp)) (Nat.le_refl _)
      have p0 := cu_below hb3' p0 hz2
      have p1 := cu_below hb3' p1 hz2
      have hz3 : w1.heap.size < w3.heap.size := cell_lt p0
      have hbw3 := hide (hbw2.out.trans (hb3'.mono (by omega)))
      have k0 := cu_below hb3' k0 (by simp; omega)
      have k1 := cu_below hb3' k1 (by simp; omega)
      have hz3' : w.heap.size < w3.heap.size := cell_lt k0
      have hr3 := hide (hr2.out.below hb3' (by omega))
      clear hb3 hb3'
      go_wp2_with fail
      refine (hD.out _ w.heap.size (by omega) (r0.out.below hbw3.out (Nat.le_refl _))).mono ?_
      rintro e w4 ⟨av4, cv4, rfl, hr4, hb4⟩
      obtain ⟨b4, o4, rfl, _, ct⟩ := hr4.atI t ht
      rw [← hdt.out] at ct
      have k0 := cu_below hb4 k0 hz3'
      have k1 := cu_below hb4 k1 hz3'
      have p0 := cu_below hb4 p0 hz3
      have p1 := cu_below hb4 p1 hz3
      have hz4 : w1.heap.size < w4.heap.size := cell_lt p0
      have hz4' : w.heap.size < w4.heap.size := cell_lt k0
      have hbw4 := hide (hbw3.out.trans (hb4.mono (by omega)))
      have hr5 := hide (hr3.out.below hb4 (by omega))
      have hl4 := cell_lt ct
      have key := hide (show ∀ w', Below w4.heap.size w4 w' → (Below w4.heap.size w4 w' ∧ w'.cell? ⟨w.heap.size, 0, none⟩ = some (.int .i64 (n : Int)) ∧ w'.cell? ⟨w.heap.size, 1, none⟩ = some (.slice a0 es0.length cap0) ∧ w'.cell? ⟨w1.heap.size, 0, none⟩ = some (.slice av mm cv) ∧ w'.cell? ⟨w1.heap.size, 1, none⟩ = some (.int .i64 dt)) from
        fun w' hb => ⟨hb, cu_below hb k0 hz4', cu_below hb k1 hz4', cu_below hb p0 hz4, cu_below hb p1 hz4⟩)
      have hE4 := hide (r0.out.below hbw4.out (Nat.le_refl _))
      clear hr4 hb4
      go_wp2
      clear ct
      go_region_held3 (fun w' => Below w4.heap.size w4 w' ∧ w'.cell? ⟨w.heap.size, 0, none⟩ = some (.int .i64 (n : Int)) ∧ w'.cell? ⟨w.heap.size, 1, none⟩ = some (.slice a0 es0.length cap0) ∧ w'.cell? ⟨w1.heap.size, 0, none⟩ = some (.slice av mm cv) ∧ w'.cell? ⟨w1.heap.size, 1, none⟩ = some (.int .i64 dt))
        (first | exact key.out _ (below_drew _) | exact key.out _ (by assumption))
        (first
          | (go_at_call 49; have hb4 := (‹Below w4.heap.size w4 _ ∧ _› : _ ∧ _).1; refine (hO.out _ w.heap.size (Nat.le_trans (Nat.le_of_lt hz4') hb4.size) (hE4.out.below hb4 (by omega))).mono ?_; rintro e w5 ⟨a5, c5, rfl, r5, hb5⟩; have hb6 := below_step hb4 hb5; replace r5 := hide r5)
          | (go_at_call 48; have hb7 := (‹Below w4.heap.size w4 _ ∧ _› : _ ∧ _).1; refine (sameway_any av a5 cv c5 mm xs dt _ hxl.out ((hr5.out.below hb7 (by omega)).mono (Nat.le_trans (by omega) hb7.size)) r5.out hmb).mono ?_; rintro e w6 ⟨rfl, hb8⟩; have hb9 := below_step hb7 hb8))
      all_goals
        have hb10 := (‹Below w4.heap.size w4 _ ∧ _› : _ ∧ _).1
        go_wp2
        go_ret
        exact ⟨rfl, hbw4.out.trans (hb10.mono (by omega))⟩
  · have q0 : (lookErr x0 es0 [x1, x2] != 0) = true := by simp [h0]
    have q1 : (lookErr x0 es0 [x1, x2] == 0) = false := by simpa using h0
    have hW := hide (fun w B hB hE => way_bad x0 a0 cap0 es0 x1 x2 w B hB hE hl h0)
    have hL := hide (fun (b : Nat) (w : World) (hE : Row encE 3 w w.heap.size a0 es0) (hP : Row encI 1 w w.heap.size (some ⟨b, 0, none⟩) [x1, x2]) => rlook_any x0 a0 cap0 es0 (some ⟨b, 0, none⟩) 2 2 [x1, x2] rfl w w.heap.size (Nat.le_refl _) hE hP hl (by omega))
    clear h0
    go_enter Try.func12, Try.ntmps12
    go_wp2_with fail
    refine (hW.out _ w.heap.size (by simp) (r0.out.below ((by repeat (first | with_reducible exact Below.refl _ _ | with_reducible assumption | with_reducible refine up_drewN ?_ | with_reducible refine up_drew ?_ | (with_reducible refine up_alloc ?_ ?_; rotate_left; (first | omega | (simp <;> omega) | simp)) | (with_reducible refine up_set ?_ ?_; rotate_left; (first | omega | (simp <;> omega) | simp)) | (with_reducible refine Below.trans ?_ (Below.mono (by with_reducible assumption) ?_); rotate_left; (first | omega | (simp <;> omega) | simp)))) : Below w.heap.size w _) (Nat.le_refl _))).mono ?_
    rintro e w1 ⟨av, cv, rfl, hr1, hb1⟩
    have k0 : w1.cell? ⟨w.heap.size, 0, none⟩ = some (.int .i64 x0) := cu_below hb1 (by simp [go_sem]) (by simp)
    have k1 : w1.cell? ⟨w.heap.size, 1, none⟩ = some (.slice a0 es0.length cap0) := cu_below hb1 (by simp [go_sem]) (by simp)
    have hbw1 := hide (unalloc (hb1.mono (by simp)) (Nat.le_refl _) : Below w.heap.size w w1)
    have hz1 : w.heap.size < w1.heap.size := cell_lt k0
    have hb2 : Below w1.heap.size w1 (w1.alloc (.cells #[.slice av 0 cv, .int .i64 0] 73)) := (Below.refl _ _).alloc (Nat.le_refl _) _
    have k0 := cu_below hb2 k0 hz1
    have k1 := cu_below hb2 k1 hz1
    have p0 : (w1.alloc (.cells #[.slice av 0 cv, .int .i64 0] 73)).cell? ⟨w1.heap.size, 0, none⟩ = some (.slice av 0 cv) := by simp [go_sem]
    have p1 : (w1.alloc (.cells #[.slice av 0 cv, .int .i64 0] 73)).cell? ⟨w1.heap.size, 1, none⟩ = some (.int .i64 0) := by simp [go_sem]
    have hbw2 := hide (hbw1.out.trans (hb2.mono (by omega)))
    clear hr1 hb1 hb2
    go_wp2_with fail
    have hsz2 : (w1.alloc (.cells #[.slice av 0 cv, .int .i64 0] 73)).heap.size = w1.heap.size + 1 := by simp
    generalize (w1.alloc (.cells #[.slice av 0 cv, .int .i64 0] 73)) = w2 at k0 k1 p0 p1 hbw2 hsz2 ⊢
    have hz2 : w1.heap.size < w2.heap.size := cell_lt p0
    refine Calls.mono (hL.out _ _ ?_ ?_) ?_
    · exact (r0.out.below (up_alloc hbw2.out (by omega)) (Nat.le_refl _)).mono (by simp; omega)
    · refine row2 ?_ ?_
      · rw [← hsz2]; simp [go_sem]
      · rw [← hsz2]; simp [go_sem]
    rintro e w3 ⟨rfl, hb3⟩
    clear hsz2
    have hb3' : Below w2.heap.size w2 w3 := unalloc (hb3.mono (by simp)) (Nat.le_refl _)
    have p0 := cu_below hb3' p0 hz2
    have p1 := cu_below hb3' p1 hz2
    have hz3 : w1.heap.size < w3.heap.size := cell_lt p0
    have hbw3 := hide (hbw2.out.trans (hb3'.mono (by omega)))
    clear hb3 hb3' k0 k1
    go_wp2_with fail
    refine (sameway_any av none cv 0 0 [] 0 w3 rfl (Row.nil _ _ _ _ _) (Row.nil _ _ _ _ _) (by omega)).mono ?_
    rintro e w4 ⟨rfl, hb4⟩
    go_wp2
    go_ret
    exact ⟨rfl, hbw3.out.trans (hb4.mono (by omega))⟩
end Go.Proofs.Ytjidomfnngdomaa
