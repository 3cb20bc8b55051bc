/-
  The walk of felllaw.HeurBounds: it returns true. Conditions: the arguments read as data, at most 1048576 rows.
-/
import Derived.Test.YtdpbkhempgghaaaRTable
import Derived.Test.YtdpbkhempgghaaaOpen
namespace Go.Proofs.Ytdpbkhempgghaaa
open Go.RowKit
set_option linter.unusedSimpArgs false
set_option linter.unusedVariables false
def ArgBad (N v t : Int) : Prop := N < 1 ∨ 64 < N ∨ v < 0 ∨ N ≤ v ∨ t < 0 ∨ N ≤ t
set_option maxRecDepth 100000 in
set_option maxHeartbeats 1000000 in
theorem hb_arg (N v t : Int) (x y : Value) (w : World) (h : ArgBad N v t) :
    Calls Try.prog 28 #[.agg #[x, y], .int .i64 N, .int .i64 v, .int .i64 t] w fun e w' => e = .returned (.tuple #[.int .i64 0, .int .i64 1]) ∧ Below w.heap.size w w' := by
  have hd : (N < 1) ∨ (1 ≤ N ∧ 64 < N) ∨ (1 ≤ N ∧ N ≤ 64 ∧ v < 0) ∨ (1 ≤ N ∧ N ≤ 64 ∧ 0 ≤ v ∧ N ≤ v) ∨ (1 ≤ N ∧ N ≤ 64 ∧ 0 ≤ v ∧ v < N ∧ t < 0) ∨ (1 ≤ N ∧ N ≤ 64 ∧ 0 ≤ v ∧ v < N ∧ 0 ≤ t ∧ N ≤ t) := by
    unfold ArgBad at h; omega
  clear h
  rcases hd with h1 | ⟨h1, h2⟩ | ⟨h1, h2, h3⟩ | ⟨h1, h2, h3, h4⟩ | ⟨h1, h2, h3, h4, h5⟩ | ⟨h1, h2, h3, h4, h5, h6⟩
  all_goals
    go_enter Try.func28, Try.ntmps28
    go_wp2
    go_ret2
    exact ⟨rfl, up_alloc (Below.refl _ _) (Nat.le_refl _)⟩
set_option maxRecDepth 100000 in
set_option maxHeartbeats 1000000 in
theorem hb_ok (n v t : Nat) (a b : Option Addr) (ca cb : Nat) (fs ts : List SR) (w : World) (B : Nat) (hB : B ≤ w.heap.size) (h1 : Row encR 1 w B a fs) (h2 : Row encR 1 w B b ts) (q1 : ∀ s ∈ fs, QR w B s) (q2 : ∀ s ∈ ts, QR w B s) (lf : fs.length ≤ 1048576) (lt : ts.length ≤ 1048576) (hn : 1 ≤ n) (hn2 : n ≤ 64) (hv : v < n) (ht : t < n) :
    Calls Try.prog 28 #[.agg #[.slice a fs.length ca, .slice b ts.length cb], .int .i64 (n : Int), .int .i64 (v : Int), .int .i64 (t : Int)] w fun e w' => e = .returned (.tuple #[.int .i64 (if okTab n fs ts = true then bndK (fs.map SR.xs) (ts.map SR.xs) v t fs.length else 0), .int .i64 (if okTab n fs ts = true then 0 else 3)]) ∧ Below w.heap.size w w' := by
  have hF := hide (fun w' (hb : Below w.heap.size w w') => fit_any n a b ca cb fs ts w' B (by have := hb.size; omega) (h1.below hb hB) (h2.below hb hB) (fun s hs => (q1 s hs).below hb hB) (fun s hs => (q2 s hs).below hb hB) lf lt hn2)
  have hBd := hide (show okTab n fs ts = true → ∀ w', Below w.heap.size w w' → Calls Try.prog 79 #[.agg #[.slice a fs.length ca, .slice b ts.length cb], .int .i64 (v : Int), .int .i64 (t : Int)] w' fun e w2 => e = .returned (.int .i64 (bndK (fs.map SR.xs) (ts.map SR.xs) v t fs.length)) ∧ Below w'.heap.size w' w2 from fun hok w' hb => by
    obtain ⟨g1, g2, g3, g4⟩ := okTab_fit hok
    have hT1 := tab_of (h1.below hb hB) (fun s hs => (q1 s hs).below hb hB) g3
    have hT2 := tab_of (h2.below hb hB) (fun s hs => (q2 s hs).below hb hB) g4
    have := bound_any n v t fs.length a b ca cb (fs.map SR.xs) (ts.map SR.xs) w' B (by have := hb.size; omega) hT1 hT2 g3 g4 (by simp) (by simp [g1]) (by omega) hv ht (by omega)
    rw [← g1]
    exact this)
  obtain ⟨nf, hnf⟩ : ∃ nf, nf = fs.length := ⟨_, rfl⟩
  obtain ⟨nt, hnt⟩ : ∃ nt, nt = ts.length := ⟨_, rfl⟩
  rw [← hnf] at hF hBd ⊢
  rw [← hnt] at hF hBd ⊢
  replace hnf := hide hnf
  replace hnt := hide hnt
  clear h1 h2 q1 q2
  generalize bndK (fs.map SR.xs) (ts.map SR.xs) v t nf = x at hBd ⊢
  have i1 : (1 : Int) ≤ (n : Int) := by omega
  have i2 : (n : Int) ≤ 64 := by omega
  have i3 : (v : Int) < (n : Int) := by omega
  have i4 : (t : Int) < (n : Int) := by omega
  cases hok : okTab n fs ts with
  | true =>
    have hB2 := hide (hBd.out hok)
    rw [hok] at hF
    replace hok := hide hok
    clear hBd
    go_enter Try.func28, Try.ntmps28
    go_wp2_with fail
    refine (hF.out _ (up_alloc (Below.refl _ _) (Nat.le_refl _))).mono ?_
    rintro e w1 ⟨rfl, hb1⟩
    have k0 : w1.cell? ⟨w.heap.size, 0, none⟩ = some (.slice a nf ca) := cu_below hb1 (by simp [go_sem]) (by simp)
    have k1 : w1.cell? ⟨w.heap.size, 1, none⟩ = some (.slice b nt cb) := cu_below hb1 (by simp [go_sem]) (by simp)
    have z0 := cell_lt k0
    have hbw := hide (show Below w.heap.size w w1 from (by repeat (first | with_reducible exact Below.refl _ _ | with_reducible assumption | with_reducible refine up_drewN ?_ | with_reducible refine up_drew ?_ | (with_reducible refine up_alloc ?_ ?_; rotate_left; (first | omega | (simp <;> omega) | simp)) | (with_reducible refine up_set ?_ ?_; rotate_left; (first | omega | (simp <;> omega) | simp)) | (with_reducible refine Below.trans ?_ (Below.mono (by with_reducible assumption) ?_); rotate_left; (first | omega | (simp <;> omega) | simp)))))
    clear hb1
    go_wp2_with fail
    refine (hB2.out _ hbw.out).mono ?_
    rintro e w2 ⟨rfl, hb2⟩
    have hbw2 := hide (hbw.out.trans (hb2.mono hbw.out.size))
    go_wp2
    go_ret2
    exact ⟨rfl, hbw2.out⟩
  | false =>
    rw [hok] at hF
    replace hok := hide hok
    clear hBd
    go_enter Try.func28, Try.ntmps28
    go_wp2_with fail
    refine (hF.out _ (up_alloc (Below.refl _ _) (Nat.le_refl _))).mono ?_
    rintro e w1 ⟨rfl, hb1⟩
    have hbw := hide (show Below w.heap.size w w1 from (by repeat (first | with_reducible exact Below.refl _ _ | with_reducible assumption | with_reducible refine up_drewN ?_ | with_reducible refine up_drew ?_ | (with_reducible refine up_alloc ?_ ?_; rotate_left; (first | omega | (simp <;> omega) | simp)) | (with_reducible refine up_set ?_ ?_; rotate_left; (first | omega | (simp <;> omega) | simp)) | (with_reducible refine Below.trans ?_ (Below.mono (by with_reducible assumption) ?_); rotate_left; (first | omega | (simp <;> omega) | simp)))))
    clear hb1
    go_wp2
    go_ret2
    exact ⟨rfl, hbw.out⟩
set_option maxRecDepth 100000 in
set_option maxHeartbeats 2000000 in
theorem walk_HeurBounds (a0 b0 : Option Addr) (ca0 cb0 : Nat) (fs0 ts0 : List SR) (x1 : Int) (x2 : Int) (x3 : Int) (w : World) (r0 : Row encR 1 w w.heap.size a0 fs0) (s0 : Row encR 1 w w.heap.size b0 ts0) (q0 : ∀ s ∈ fs0, QR w w.heap.size s) (p0q : ∀ s ∈ ts0, QR w w.heap.size s) (b1 : Bd x1) (b2 : Bd x2) (b3 : Bd x3) (n0 : (fs0 ++ ts0).length ≤ 1048576) :
    Calls Try.prog 6 #[.agg #[.slice a0 fs0.length ca0, .slice b0 ts0.length cb0], .int .i64 x1, .int .i64 x2, .int .i64 x3] w fun e w' => e = .returned (.bool true) ∧ Below w.heap.size w w' := by
  rw [List.length_append] at n0
  have lf : fs0.length ≤ 1048576 := by omega
  have lt : ts0.length ≤ 1048576 := by omega
  by_cases hbad : ArgBad x1 x2 x3
  · have hA := hide (fun w => hb_arg x1 x2 x3 (.slice a0 fs0.length ca0) (.slice b0 ts0.length cb0) w hbad)
    obtain ⟨nf, hnf⟩ : ∃ nf, nf = fs0.length := ⟨_, rfl⟩
    obtain ⟨nt, hnt⟩ : ∃ nt, nt = ts0.length := ⟨_, rfl⟩
    rw [← hnf, ← hnt] at hA ⊢
    replace hnf := hide hnf
    replace hnt := hide hnt
    have hd : (x1 < 1) ∨ (1 ≤ x1 ∧ 64 < x1) ∨ (1 ≤ x1 ∧ x1 ≤ 64 ∧ min x2 x3 < 0) ∨ (1 ≤ x1 ∧ x1 ≤ 64 ∧ 0 ≤ min x2 x3 ∧ x1 ≤ max x2 x3) := by
      unfold ArgBad at hbad; omega
    clear hbad r0 s0 q0 p0q
    rcases hd with h1 | ⟨h1, h2⟩ | ⟨h1, h2, h3⟩ | ⟨h1, h2, h3, h4⟩
    all_goals
      go_enter Try.func6, Try.ntmps6
      go_wp2_with fail
      refine (hA.out _).mono ?_
      rintro e w1 ⟨rfl, hb1⟩
      have hbw := hide (show Below w.heap.size w w1 from (by repeat (first | with_reducible exact Below.refl _ _ | with_reducible assumption | with_reducible refine up_drewN ?_ | with_reducible refine up_drew ?_ | (with_reducible refine up_alloc ?_ ?_; rotate_left; (first | omega | (simp <;> omega) | simp)) | (with_reducible refine up_set ?_ ?_; rotate_left; (first | omega | (simp <;> omega) | simp)) | (with_reducible refine Below.trans ?_ (Below.mono (by with_reducible assumption) ?_); rotate_left; (first | omega | (simp <;> omega) | simp)))))
      clear hb1
      go_wp2
      all_goals
        go_ret
        exact ⟨rfl, hbw.out⟩
  · unfold ArgBad at hbad
    obtain ⟨n, rfl⟩ := Int.eq_ofNat_of_zero_le (show 0 ≤ x1 by omega)
    obtain ⟨v, rfl⟩ := Int.eq_ofNat_of_zero_le (show 0 ≤ x2 by omega)
    obtain ⟨t, rfl⟩ := Int.eq_ofNat_of_zero_le (show 0 ≤ x3 by omega)
    have i1 : (1 : Int) ≤ (n : Int) := by omega
    have i2 : (n : Int) ≤ 64 := by omega
    have i3 : (0 : Int) ≤ min (v : Int) (t : Int) := by omega
    have i4 : max (v : Int) (t : Int) < (n : Int) := by omega
    have hO := hide (fun w' (hb : Below w.heap.size w w') => hb_ok n v t a0 b0 ca0 cb0 fs0 ts0 w' w.heap.size hb.size (r0.below hb (Nat.le_refl _)) (s0.below hb (Nat.le_refl _)) (fun s hs => (q0 s hs).below hb (Nat.le_refl _)) (fun s hs => (p0q s hs).below hb (Nat.le_refl _)) lf lt (by omega) (by omega) (by omega) (by omega))
    have hR := hide (fun w' (hb : Below w.heap.size w w') => rtable_any n a0 b0 ca0 cb0 fs0 ts0 w' w.heap.size hb.size (r0.below hb (Nat.le_refl _)) (s0.below hb (Nat.le_refl _)) (fun s hs => (q0 s hs).below hb (Nat.le_refl _)) (fun s hs => (p0q s hs).below hb (Nat.le_refl _)) lf lt (by omega) (by omega))
    have hRB := hide (show okTab n fs0 ts0 = true → ∀ w', Below w.heap.size w w' → Calls Try.prog 30 #[.agg #[.slice a0 fs0.length ca0, .slice b0 ts0.length cb0], .int .i64 (v : Int), .int .i64 (t : Int)] w' fun e w2 => e = .returned (.int .i64 (bndK (fs0.map SR.xs) (ts0.map SR.xs) v t fs0.length)) ∧ Below w'.heap.size w' w2 from fun hok w' hb => by
      obtain ⟨g1, g2, g3, g4⟩ := okTab_fit hok
      have hT1 := tab_of (r0.below hb (Nat.le_refl _)) (fun s hs => (q0 s hs).below hb (Nat.le_refl _)) g3
      have hT2 := tab_of (s0.below hb (Nat.le_refl _)) (fun s hs => (p0q s hs).below hb (Nat.le_refl _)) g4
      have := rbound_any n v t fs0.length a0 b0 ca0 cb0 (fs0.map SR.xs) (ts0.map SR.xs) w' w.heap.size hb.size hT1 hT2 g3 g4 (by simp) (by simp [g1]) (by omega) (by omega) (by omega) (by omega)
      rw [← g1]
      exact this)
    obtain ⟨nf, hnf⟩ : ∃ nf, nf = fs0.length := ⟨_, rfl⟩
    obtain ⟨nt, hnt⟩ : ∃ nt, nt = ts0.length := ⟨_, rfl⟩
    rw [← hnf] at hO hR hRB ⊢
    rw [← hnt] at hO hR hRB ⊢
    replace hnf := hide hnf
    replace hnt := hide hnt
    clear r0 s0 q0 p0q n0 lf lt hbad
    generalize bndK (fs0.map SR.xs) (ts0.map SR.xs) v t nf = x at hO hRB ⊢
    have hvt : (v < t ∧ ¬ t < v) ∨ (¬ v < t ∧ ¬ t < v) ∨ (¬ v < t ∧ t < v) := by omega
    rcases hvt with ⟨j1, j2⟩ | ⟨j1, j2⟩ | ⟨j1, j2⟩
    all_goals
      cases hok : okTab n fs0 ts0 with
      | true =>
        have hB2 := hide (hRB.out hok)
        rw [hok, if_pos rfl, if_pos rfl] at hO
        rw [hok] at hR
        replace hok := hide hok
        clear hRB
        go_enter Try.func6, Try.ntmps6
        go_wp2_with fail
        refine (hO.out _ (up_alloc (Below.refl _ _) (Nat.le_refl _))).mono ?_
        rintro e w1 ⟨rfl, hb1⟩
        have k0 : w1.cell? ⟨w.heap.size, 0, none⟩ = some (.slice a0 nf ca0) := cu_below hb1 (by simp [go_sem]) (by simp)
        have k1 : w1.cell? ⟨w.heap.size, 1, none⟩ = some (.slice b0 nt cb0) := cu_below hb1 (by simp [go_sem]) (by simp)
        have z0 := cell_lt k0
        have hbw := hide (show Below w.heap.size w w1 from (by repeat (first | with_reducible exact Below.refl _ _ | with_reducible assumption | with_reducible refine up_drewN ?_ | with_reducible refine up_drew ?_ | (with_reducible refine up_alloc ?_ ?_; rotate_left; (first | omega | (simp <;> omega) | simp)) | (with_reducible refine up_set ?_ ?_; rotate_left; (first | omega | (simp <;> omega) | simp)) | (with_reducible refine Below.trans ?_ (Below.mono (by with_reducible assumption) ?_); rotate_left; (first | omega | (simp <;> omega) | simp)))))
        clear hb1
        go_wp2_with fail
        refine (hR.out _ hbw.out).mono ?_
        rintro e w2 ⟨rfl, hb2⟩
        have hbw2 := hide (hbw.out.trans (hb2.mono hbw.out.size))
        have k2 := cu_below hb2 k0 (by simpa using z0)
        have k3 := cu_below hb2 k1 (by simpa using z0)
        have z2 := cell_lt k2
        clear hb2 k0 k1
        go_wp2_with fail
        refine (hB2.out _ hbw2.out).mono ?_
        rintro e w3 ⟨rfl, hb3⟩
        have hbw3 := hide (hbw2.out.trans (hb3.mono hbw2.out.size))
        go_wp2
        go_ret
        exact ⟨rfl, hbw3.out⟩
      | false =>
        rw [hok, if_neg (by simp), if_neg (by simp)] at hO
        rw [hok] at hR
        replace hok := hide hok
        clear hRB
        go_enter Try.func6, Try.ntmps6
        go_wp2_with fail
        refine (hO.out _ (up_alloc (Below.refl _ _) (Nat.le_refl _))).mono ?_
        rintro e w1 ⟨rfl, hb1⟩
        have k0 : w1.cell? ⟨w.heap.size, 0, none⟩ = some (.slice a0 nf ca0) := cu_below hb1 (by simp [go_sem]) (by simp)
        have k1 : w1.cell? ⟨w.heap.size, 1, none⟩ = some (.slice b0 nt cb0) := cu_below hb1 (by simp [go_sem]) (by simp)
        have z0 := cell_lt k0
        have hbw := hide (show Below w.heap.size w w1 from (by repeat (first | with_reducible exact Below.refl _ _ | with_reducible assumption | with_reducible refine up_drewN ?_ | with_reducible refine up_drew ?_ | (with_reducible refine up_alloc ?_ ?_; rotate_left; (first | omega | (simp <;> omega) | simp)) | (with_reducible refine up_set ?_ ?_; rotate_left; (first | omega | (simp <;> omega) | simp)) | (with_reducible refine Below.trans ?_ (Below.mono (by with_reducible assumption) ?_); rotate_left; (first | omega | (simp <;> omega) | simp)))))
        clear hb1
        go_wp2_with fail
        refine (hR.out _ hbw.out).mono ?_
        rintro e w2 ⟨rfl, hb2⟩
        have hbw2 := hide (hbw.out.trans (hb2.mono hbw.out.size))
        clear hb2
        go_wp2
        go_ret
        exact ⟨rfl, hbw2.out⟩
end Go.Proofs.Ytdpbkhempgghaaa
