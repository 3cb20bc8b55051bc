/-
  The walk of felllaw.YenSays: it returns true. Conditions: the arguments read as data.
-/
import Derived.Test.YtcehdpeeaogpiaaYenK
import Derived.Test.YtcehdpeeaogpiaaRBest
import Derived.Test.YtcehdpeeaogpiaaOpen
namespace Go.Proofs.Ytcehdpeeaogpiaa
open Go.RowKit
set_option linter.unusedSimpArgs false
set_option linter.unusedVariables false
def kErr (N : Int) (es : List Ed) (s t k : Int) : Int := if lookErr N es [s, t] ≠ 0 then lookErr N es [s, t] else if k < 1 ∨ 8 < k then 1 else 0
theorem rowST {w : World} {b : Nat} {s t : Int} (h0 : w.cell? ⟨b, 0, none⟩ = some (.int .i64 s)) (h1 : w.cell? ⟨b, 1, none⟩ = some (.int .i64 t)) : Row encI 1 w w.heap.size (some ⟨b, 0, none⟩) [s, t] := by
  have hl := cell_lt h0
  intro i hi
  match i, hi with
  | 0, _ => exact ⟨_, 0, rfl, hl, fun j u hu => by cases j with | zero => simp [encI] at hu; subst hu; simpa using h0 | succ j => simp [encI] at hu⟩
  | 1, _ => exact ⟨_, 0, rfl, hl, fun j u hu => by cases j with | zero => simp [encI] at hu; subst hu; simpa using h1 | succ j => simp [encI] at hu⟩
set_option maxHeartbeats 2000000 in
theorem kbad_any (N : Int) (a : Option Addr) (cap : Nat) (es : List Ed) (s t k : Int) (w : World) (B : Nat) (hB : B ≤ w.heap.size) (hE : Row encE 3 w B a es) (hl : es.length ≤ 9223372036854775807) (h0 : kErr N es s t k ≠ 0) (r : Int) (hr : r = kErr N es s t k) :
    Calls Try.prog 73 #[.agg #[.int .i64 N, .slice a es.length cap], .int .i64 s, .int .i64 t, .int .i64 k] w fun e w' => e = .returned (.tuple #[.slice none 0 0, .int .i64 r]) ∧ Below w.heap.size w w' := by
  obtain ⟨z, hz⟩ : ∃ z, z = lookErr N es [s, t] := ⟨_, rfl⟩
  have hL := hide (fun (w' : World) (a1 : Option Addr) (hb : Below w.heap.size w w') (hr : Row encI 1 w' w'.heap.size a1 [s, t]) => (show Calls Try.prog 23 #[.agg #[.int .i64 N, .slice a es.length cap], .slice a1 2 2] w' (fun e w'' => e = .returned (.int .i64 z) ∧ Below w'.heap.size w' w'') from by
    rw [hz]
    exact look_any N a cap es a1 2 2 [s, t] rfl w' w'.heap.size (Nat.le_refl _) ((hE.below hb hB).mono (by have := hb.size; omega)) hr hl (by omega)))
  unfold kErr at h0 hr
  rw [← hz] at h0 hr
  replace hz := hide hz
  clear hE
  by_cases h1 : z = 0
  · rw [if_neg (by simpa using h1)] at h0 hr
    have h2 : k < 1 ∨ 8 < k := by
      by_cases h : k < 1 ∨ 8 < k
      · exact h
      · rw [if_neg h] at h0; exact absurd rfl h0
    rw [if_pos h2] at hr
    subst hr
    have q1 : (z != 0) = false := by simp [h1]
    replace h1 := hide h1
    have h3 : ((k < 1) = True) ∨ ((k < 1) = False ∧ (8 < k) = True) := by
      rcases h2 with h | h
      · exact .inl (by simp [h])
      · by_cases h4 : k < 1
        · exact .inl (by simp [h4])
        · exact .inr ⟨by simp [h4], by simp [h]⟩
    clear h0 h2
    rcases h3 with h3 | ⟨h3, h4⟩
    all_goals
      go_enter Try.func73, Try.ntmps73
      go_wp2_with fail
      refine (hL.out _ _ (by repeat (first | with_reducible exact Below.refl _ _ | with_reducible assumption | with_reducible refine up_drewN ?_ | with_reducible refine up_drew ?_ | (with_reducible refine up_alloc ?_ ?_; rotate_left; (first | omega | (simp <;> omega) | simp)) | (with_reducible refine up_set ?_ ?_; rotate_left; (first | omega | (simp <;> omega) | simp)) | (with_reducible refine Below.trans ?_ (Below.mono (by with_reducible assumption) ?_); rotate_left; (first | omega | (simp <;> omega) | simp)))) (rowST (by simp [go_sem]) (by simp [go_sem]))).mono ?_
      rintro e w1 ⟨rfl, hb1⟩
      have hB1 := hide (show Below w.heap.size w w1 from (by repeat (first | with_reducible exact Below.refl _ _ | with_reducible assumption | with_reducible refine up_drewN ?_ | with_reducible refine up_drew ?_ | (with_reducible refine up_alloc ?_ ?_; rotate_left; (first | omega | (simp <;> omega) | simp)) | (with_reducible refine up_set ?_ ?_; rotate_left; (first | omega | (simp <;> omega) | simp)) | (with_reducible refine Below.trans ?_ (Below.mono (by with_reducible assumption) ?_); rotate_left; (first | omega | (simp <;> omega) | simp)))))
      clear hb1
      go_wp2
      refine bodyPost_ret (v := .tuple #[.slice none 0 0, .int .i64 1]) (by simp [results, Try.results73, go_sem]) rfl ⟨rfl, hB1.out⟩
  · rw [if_pos (by simpa using h1)] at hr
    rw [hr]
    clear hr h0
    have q1 : (z != 0) = true := by simp [h1]
    replace h1 := hide h1
    go_enter Try.func73, Try.ntmps73
    go_wp2_with fail
    refine (hL.out _ _ (by repeat (first | with_reducible exact Below.refl _ _ | with_reducible assumption | with_reducible refine up_drewN ?_ | with_reducible refine up_drew ?_ | (with_reducible refine up_alloc ?_ ?_; rotate_left; (first | omega | (simp <;> omega) | simp)) | (with_reducible refine up_set ?_ ?_; rotate_left; (first | omega | (simp <;> omega) | simp)) | (with_reducible refine Below.trans ?_ (Below.mono (by with_reducible assumption) ?_); rotate_left; (first | omega | (simp <;> omega) | simp)))) (rowST (by simp [go_sem]) (by simp [go_sem]))).mono ?_
    rintro e w1 ⟨rfl, hb1⟩
    have hB1 := hide (show Below w.heap.size w w1 from (by repeat (first | with_reducible exact Below.refl _ _ | with_reducible assumption | with_reducible refine up_drewN ?_ | with_reducible refine up_drew ?_ | (with_reducible refine up_alloc ?_ ?_; rotate_left; (first | omega | (simp <;> omega) | simp)) | (with_reducible refine up_set ?_ ?_; rotate_left; (first | omega | (simp <;> omega) | simp)) | (with_reducible refine Below.trans ?_ (Below.mono (by with_reducible assumption) ?_); rotate_left; (first | omega | (simp <;> omega) | simp)))))
    clear hb1
    go_wp2
    refine bodyPost_ret (v := .tuple #[.slice none 0 0, .int .i64 z]) (by simp [results, Try.results73, go_sem]) rfl ⟨rfl, hB1.out⟩
theorem yk_take {S : Wy → Prop} {s k : Nat} (hs : YS s S) {out wait best : List Wy} (h : YI S out wait) (ho : out.Pairwise (fun a b => yLt a b = true)) (hk : out.length = k ∨ wait = []) (hle : out.length ≤ k) (hb : best.Pairwise (fun a b => yLt a b = true)) (hbS : ∀ x, x ∈ best ↔ S x) : out = best.take (min k best.length) := by
  have h1 := yi_best h ho hb hbS
  have h2 : out.length ≤ best.length := by
    have := congrArg List.length h1
    rw [List.length_take] at this
    omega
  rcases hk with hk | hk
  · rw [Nat.min_eq_left (by omega), ← hk]; exact h1
  · subst hk
    have h3 : out.length = best.length := by
      rcases Nat.lt_or_ge out.length best.length with hlt | hge
      · exfalso
        have hy := yi_all hs h ((hbS best[out.length]).1 (List.getElem_mem hlt))
        obtain ⟨i, hi, hie⟩ := List.getElem_of_mem hy
        have h5 := List.getElem_of_eq h1 hi
        rw [List.getElem_take, hie] at h5
        have := (List.pairwise_iff_getElem.1 hb) i out.length (by omega) hlt hi
        rw [← h5, yLt_ord.irr] at this
        cases this
      · omega
    rw [Nat.min_eq_right (by omega), ← h3]
    exact h1
theorem Row.takeY {w : World} {B : Nat} {a : Option Addr} {xs : List Yv} (h : Row encY 2 w B a xs) (i : Nat) : Row encY 2 w B a (xs.take i) := by
  intro j hj
  have hj2 : j < xs.length := by rw [List.length_take] at hj; omega
  obtain ⟨b', o', q1, q2, q3⟩ := h j hj2
  exact ⟨b', o', q1, q2, fun z u' hz => q3 z u' (by rw [List.getElem_take] at hz; exact hz)⟩
set_option maxRecDepth 100000 in
set_option maxHeartbeats 4000000 in
theorem walk_YenSays (x0 : Int) (a0 : Option Addr) (cap0 : Nat) (es0 : List Ed) (x1 : Int) (x2 : Int) (x3 : Int) (w : World) (b0 : Bd x0) (l0 : es0.length ≤ cap0) (m0 : cap0 ≤ maxLen) (r0 : Row encE 3 w w.heap.size a0 es0) (be0 : ∀ x ∈ es0, BdE x) (b1 : Bd x1) (b2 : Bd x2) (b3 : Bd x3) :
    Calls Try.prog 13 #[.agg #[.int .i64 x0, .slice a0 es0.length cap0], .int .i64 x1, .int .i64 x2, .int .i64 x3] w fun e w' => e = .returned (.bool true) ∧ Below w.heap.size w w' := by
  have hl : es0.length ≤ 9223372036854775807 := by unfold maxLen at m0; omega
  replace r0 := hide r0
  replace be0 := hide be0
  obtain ⟨z, hz⟩ : ∃ z, z = lookErr x0 es0 [x1, x2] := ⟨_, rfl⟩
  have hLk := hide (fun (w' : World) (a1 : Option Addr) (hb : Below w.heap.size w w') (hr : Row encI 1 w' w'.heap.size a1 [x1, x2]) => (show Calls Try.prog 45 #[.agg #[.int .i64 x0, .slice a0 es0.length cap0], .slice a1 2 2] w' (fun e w'' => e = .returned (.int .i64 z) ∧ Below w'.heap.size w' w'') from by
    rw [hz]
    exact rlook_any x0 a0 cap0 es0 a1 2 2 [x1, x2] rfl w' w'.heap.size (Nat.le_refl _) ((r0.out.below hb (Nat.le_refl _)).mono hb.size) hr hl (by omega)))
  by_cases h0 : kErr x0 es0 x1 x2 x3 = 0
  · have hz0 : z = 0 := by
      unfold kErr at h0
      rw [← hz] at h0
      by_cases h : z = 0
      · exact h
      · rw [if_pos (by simpa using h)] at h0; exact h0
    have hkk : 1 ≤ x3 ∧ x3 ≤ 8 := by
      unfold kErr at h0
      rw [← hz, hz0, if_neg (by simp)] at h0
      by_cases h : x3 < 1 ∨ 8 < x3
      · rw [if_pos h] at h0; cases h0
      · omega
    subst hz0
    have hz' := hz.symm
    obtain ⟨g1, g2⟩ := look_ok hz'
    obtain ⟨g3, g4⟩ := posErr_ok g1
    obtain ⟨n1, n2, n3, n4⟩ := netErr_ok g3
    obtain ⟨n, rfl⟩ := Int.eq_ofNat_of_zero_le (show 0 ≤ x0 by omega)
    have g5 := g2 x1 (by simp)
    have g6 := g2 x2 (by simp)
    obtain ⟨s, rfl⟩ := Int.eq_ofNat_of_zero_le g5.1
    obtain ⟨t, rfl⟩ := Int.eq_ofNat_of_zero_le g6.1
    obtain ⟨k, rfl⟩ := Int.eq_ofNat_of_zero_le (show 0 ≤ x3 by omega)
    have hs : s < n := by omega
    have hes : Right n es0 := n4
    have hpe : ∀ e ∈ es0, 1 ≤ e.c := g4
    have hK := hide (fun (w' : World) (hb : Below w.heap.size w w') => kgood_any n a0 cap0 es0 s t k w' w.heap.size hb.size (r0.out.below hb (Nat.le_refl _)) hz' (by omega) (by omega) g3 hpe)
    have hBe := hide (fun (hn6 : n ≤ 6) (hE12 : es0.length ≤ 12) (w' : World) (hb : Below w.heap.size w w') => rbest_any n a0 cap0 es0 s t w' w.heap.size hb.size (r0.out.below hb (Nat.le_refl _)) hes hE12 hn6 hs)
    have hbi := hide (fun (hn6 : n ≤ 6) => best_is (t := t) hes hs hn6)
    have hys := yw_ys es0 s t
    have hk1 : ¬ ((k : Int) < 1) := by omega
    have hk8 : ¬ ((8 : Int) < (k : Int)) := by omega
    have hkn : 1 ≤ k := by omega
    replace hys := hide hys
    replace hes := hide hes
    replace hpe := hide hpe
    replace hz := hide hz
    clear h0 hz' g1 g2 g3 g4 g5 g6 n4
    go_enter Try.func13, Try.ntmps13
    go_wp2_with fail
    refine (hK.out _ (by repeat (first | with_reducible exact Below.refl _ _ | with_reducible assumption | with_reducible refine up_drewN ?_ | with_reducible refine up_drew ?_ | (with_reducible refine up_alloc ?_ ?_; rotate_left; (first | omega | (simp <;> omega) | simp)) | (with_reducible refine up_set ?_ ?_; rotate_left; (first | omega | (simp <;> omega) | simp)) | (with_reducible refine Below.trans ?_ (Below.mono (by with_reducible assumption) ?_); rotate_left; (first | omega | (simp <;> omega) | simp))))).mono ?_
    rintro e w1 ⟨hb1, ao, co, xs, wait, hY, hD, hKW, hle, hown, hPB, he0, he1⟩
    have hB1 := hide (show Below w.heap.size w w1 from (by repeat (first | with_reducible exact Below.refl _ _ | with_reducible assumption | with_reducible refine up_drewN ?_ | with_reducible refine up_drew ?_ | (with_reducible refine up_alloc ?_ ?_; rotate_left; (first | omega | (simp <;> omega) | simp)) | (with_reducible refine up_set ?_ ?_; rotate_left; (first | omega | (simp <;> omega) | simp)) | (with_reducible refine Below.trans ?_ (Below.mono (by with_reducible assumption) ?_); rotate_left; (first | omega | (simp <;> omega) | simp)))))
    have k0 : w1.cell? ⟨w.heap.size, 0, none⟩ = some (.int .i64 n) := cu_below hb1 (by simp [go_sem]) (by simp)
    have k1 : w1.cell? ⟨w.heap.size, 1, none⟩ = some (.slice a0 es0.length cap0) := cu_below hb1 (by simp [go_sem]) (by simp)
    have hz1 : w.heap.size < w1.heap.size := cell_lt k0
    have hxr := hide (own_rowY hown)
    have hxp := hide hPB
    have hxs8 : xs.length ≤ 8 := by omega
    clear hb1 hown hPB
    have hempty := hide (show xs.length = 0 → ∀ y, ¬ YW es0 s t y from fun h y hy => by
      have hx : xs = [] := List.length_eq_zero_iff.1 h
      subst hx
      rcases hKW with h2 | h2
      · simp at h2; omega
      · subst h2
        have := yi_all hys.out hY hy
        simp at this)
    have htk := hide (fun (best : List Wy) (hb : best.Pairwise (fun a b => yLt a b = true)) (hbS : ∀ x, x ∈ best ↔ YW es0 s t x) => yk_take hys.out hY hD (by rw [List.length_map]; exact hKW) (by rw [List.length_map]; exact hle) hb hbS)
    have hoS := hide hY.oS
    clear hY hD hKW
    by_cases hx0 : xs.length = 0
    · obtain rfl := he0 hx0
      have hno := hide (hempty.out hx0)
      clear he0 he1 hempty htk
      go_wp2_with fail
      refine (hLk.out _ _ (up_alloc hB1.out (by omega)) (rowST (by simp [go_sem]) (by simp [go_sem]))).mono ?_
      rintro e w2 ⟨rfl, hb2⟩
      have hB2 := hide (show Below w.heap.size w w2 from (up_alloc hB1.out (by omega)).trans (hb2.mono (by simp; omega)))
      have hb12 := hide ((up_alloc (Below.refl w1.heap.size w1) (Nat.le_refl _) : Below w1.heap.size w1 (w1.alloc (.cells #[.int .i64 (s : Int), .int .i64 (t : Int)] 3))).trans (hb2.mono (by simp)))
      have j0 := cu_below hb12.out k0 hz1
      have j1 := cu_below hb12.out k1 hz1
      have hz2 := cell_lt j0
      simp only at hz2
      clear hb2 k0 k1
      have hsz : ((6 < (n : Int)) = True) ∨ ((6 < (n : Int)) = False ∧ (12 < (es0.length : Int)) = True) ∨ ((6 < (n : Int)) = False ∧ (12 < (es0.length : Int)) = False ∧ n ≤ 6 ∧ es0.length ≤ 12) := by
        by_cases h1 : 6 < (n : Int)
        · exact .inl (by simp [h1])
        · by_cases h2 : 12 < (es0.length : Int)
          · exact .inr (.inl ⟨by simp [h1], by simp [h2]⟩)
          · exact .inr (.inr ⟨by simp [h1], by simp [h2], by omega, by omega⟩)
      rcases hsz with s1 | ⟨s1, s2⟩ | ⟨s1, s2, s3, s4⟩
      · go_wp2
        go_ret
        exact ⟨rfl, hB2.out⟩
      · go_wp2
        go_ret
        exact ⟨rfl, hB2.out⟩
      · obtain ⟨hbp, hbm⟩ := hbi.out s3
        have hBe2 := hide (hBe.out s3 s4 w2 hB2.out)
        have hbe : bestF es0 s t 6 = [] := by
          cases h : bestF es0 s t 6 with
          | nil => rfl
          | cons y r => exact absurd ((hbm y).1 (by rw [h]; exact List.mem_cons_self)) (hno.out y)
        replace hbe := hide hbe
        clear hbp hbm hBe
        go_wp2_with fail
        refine hBe2.out.mono ?_
        rintro e w3 ⟨a3, c3, ys, rfl, hym, hyr, hyp, hyl, hyc1, hyc2, hb3⟩
        have hy0 : ys.length = 0 := by
          have := congrArg List.length hym
          rw [hbe.out, List.length_map] at this
          exact this
        rw [hy0]
        have hB3 := hide (hB2.out.trans (hb3.mono hB2.out.size))
        replace hy0 := hide hy0
        clear hb3 hyr hyp hym
        go_wp2
        go_ret
        exact ⟨rfl, hB3.out⟩
    · obtain rfl := he1 hx0
      clear he0 he1 hempty
      obtain ⟨m, hm⟩ : ∃ m, m = xs.length := ⟨_, rfl⟩
      rw [← hm] at hx0 hxs8 hle ⊢
      have hm0 : (0 : Int) < (m : Int) := by omega
      replace hm := hide hm
      replace hx0 := hide hx0
      go_wp2_with fail
      refine (hLk.out _ _ (up_alloc hB1.out (by omega)) (rowST (by simp [go_sem]) (by simp [go_sem]))).mono ?_
      rintro e w2 ⟨rfl, hb2⟩
      have hB2 := hide (show Below w.heap.size w w2 from (up_alloc hB1.out (by omega)).trans (hb2.mono (by simp; omega)))
      have hb12 := hide ((up_alloc (Below.refl w1.heap.size w1) (Nat.le_refl _) : Below w1.heap.size w1 (w1.alloc (.cells #[.int .i64 (s : Int), .int .i64 (t : Int)] 3))).trans (hb2.mono (by simp)))
      have j0 := cu_below hb12.out k0 hz1
      have j1 := cu_below hb12.out k1 hz1
      have hz2 := cell_lt j0
      simp only at hz2
      clear hb2 k0 k1
      have hsz : ((6 < (n : Int)) = True) ∨ ((6 < (n : Int)) = False ∧ (12 < (es0.length : Int)) = True) ∨ ((6 < (n : Int)) = False ∧ (12 < (es0.length : Int)) = False ∧ n ≤ 6 ∧ es0.length ≤ 12) := by
        by_cases h1 : 6 < (n : Int)
        · exact .inl (by simp [h1])
        · by_cases h2 : 12 < (es0.length : Int)
          · exact .inr (.inl ⟨by simp [h1], by simp [h2]⟩)
          · exact .inr (.inr ⟨by simp [h1], by simp [h2], by omega, by omega⟩)
      rcases hsz with s1 | ⟨s1, s2⟩ | ⟨s1, s2, s3, s4⟩
      · go_wp2
        go_ret
        exact ⟨rfl, hB2.out⟩
      · go_wp2
        go_ret
        exact ⟨rfl, hB2.out⟩
      · obtain ⟨hbp, hbm⟩ := hbi.out s3
        have hBe2 := hide (hBe.out s3 s4 w2 hB2.out)
        have ht := hide (htk.out _ hbp hbm)
        clear hbp hbm hBe htk
        go_wp2_with fail
        refine hBe2.out.mono ?_
        rintro e w3 ⟨a3, c3, ys, rfl, hym, hyr, hyp, hyl, hyc1, hyc2, hb3⟩
        have hB3 := hide (hB2.out.trans (hb3.mono hB2.out.size))
        have ht2 := ht.out
        rw [← hym] at ht2
        obtain ⟨p, hp⟩ : ∃ p, p = ys.length := ⟨_, rfl⟩
        have hmp : m ≤ p := by
          have := congrArg List.length ht2
          rw [List.length_map, ← hm.out, List.length_take, List.length_map, ← hp] at this
          omega
        have hmk : m = min k p := by
          have := congrArg List.length ht2
          rw [List.length_map, ← hm.out, List.length_take, List.length_map, ← hp] at this
          omega
        have ht3 := hide (show xs.map Yv.wy = (ys.take m).map Yv.wy by rw [ht2, hmk, List.map_take, List.length_map, ← hp])
        rw [← hp] at hyl hyc1 ⊢
        have hxr3 := hide ((hxr.out.below (hb12.out.trans (hb3.mono hb12.out.size)) (Nat.le_refl _)).mono (by have := hb12.out.size; have := hb3.size; omega : w1.heap.size ≤ w3.heap.size))
        have hxp3 := hide (fun x hx => ((hxp.out x hx).stays hb12.out).stays hb3)
        have hyr3 := hide (hyr.takeY m)
        have hyp3 := hide (fun y (hy : y ∈ ys.take m) => hyp y (List.mem_of_mem_take hy))
        have hEq := hide (eqways_any ao a3 m m co c3 xs (ys.take m) w3 hxr3.out hyr3.out hm.out.symm (by rw [List.length_take]; omega) hxp3.out hyp3.out (by omega) (by omega) ht3.out)
        have q1 : ((p : Int) == 0) = false := by simp; omega
        have hmc : (m : Int) ≤ (c3 : Int) := by omega
        have hmc0 : (0 : Int) ≤ (m : Int) := by omega
        replace hp := hide hp
        clear hb3 hyr hyp hym ht2
        rcases Nat.lt_or_ge p k with hpk | hpk
        · obtain rfl : p = m := by omega
          have hpkI : (p : Int) < (k : Int) := by omega
          clear hmk hmp
          go_wp2_with fail
          rw [show (min (k : Int) (p : Int)).toNat = p by omega]
          refine hEq.out.mono ?_
          rintro e w4 ⟨rfl, hb4⟩
          have hB4 := hide (hB3.out.trans (hb4.mono hB3.out.size))
          go_wp2
          go_ret
          exact ⟨rfl, hB4.out⟩
        · obtain rfl : k = m := by omega
          have hpkI : (k : Int) ≤ (p : Int) := by omega
          clear hmk hmp
          go_wp2_with fail
          rw [show (min (k : Int) (p : Int)).toNat = k by omega]
          refine hEq.out.mono ?_
          rintro e w4 ⟨rfl, hb4⟩
          have hB4 := hide (hB3.out.trans (hb4.mono hB3.out.size))
          go_wp2
          go_ret
          exact ⟨rfl, hB4.out⟩
  · obtain ⟨r, hr⟩ : ∃ r, r = kErr x0 es0 x1 x2 x3 := ⟨_, rfl⟩
    have hK := hide (fun (w' : World) (hb : Below w.heap.size w w') => kbad_any x0 a0 cap0 es0 x1 x2 x3 w' w.heap.size hb.size (r0.out.below hb (Nat.le_refl _)) hl h0 r hr)
    unfold kErr at hr h0
    rw [← hz] at hr h0
    replace hz := hide hz
    by_cases h1 : z = 0
    · rw [if_neg (by simpa using h1)] at hr h0
      have h2 : x3 < 1 ∨ 8 < x3 := by
        by_cases h : x3 < 1 ∨ 8 < x3
        · exact h
        · rw [if_neg h] at h0; exact absurd rfl h0
      rw [if_pos h2] at hr
      subst hr
      have q1 : (z == 0) = true := by simp [h1]
      have h3 : ((x3 < 1) = True) ∨ ((x3 < 1) = False ∧ (8 < x3) = True) := by
        rcases h2 with h | h
        · exact .inl (by simp [h])
        · by_cases h4 : x3 < 1
          · exact .inl (by simp [h4])
          · exact .inr ⟨by simp [h4], by simp [h]⟩
      replace h1 := hide h1
      clear h0 h2
      rcases h3 with h3 | ⟨h3, h4⟩
      all_goals
        go_enter Try.func13, Try.ntmps13
        go_wp2_with fail
        refine (hK.out _ (by repeat (first | with_reducible exact Below.refl _ _ | with_reducible assumption | with_reducible refine up_drewN ?_ | with_reducible refine up_drew ?_ | (with_reducible refine up_alloc ?_ ?_; rotate_left; (first | omega | (simp <;> omega) | simp)) | (with_reducible refine up_set ?_ ?_; rotate_left; (first | omega | (simp <;> omega) | simp)) | (with_reducible refine Below.trans ?_ (Below.mono (by with_reducible assumption) ?_); rotate_left; (first | omega | (simp <;> omega) | simp))))).mono ?_
        rintro e w1 ⟨rfl, hb1⟩
        have hB1 := hide (show Below w.heap.size w w1 from (by repeat (first | with_reducible exact Below.refl _ _ | with_reducible assumption | with_reducible refine up_drewN ?_ | with_reducible refine up_drew ?_ | (with_reducible refine up_alloc ?_ ?_; rotate_left; (first | omega | (simp <;> omega) | simp)) | (with_reducible refine up_set ?_ ?_; rotate_left; (first | omega | (simp <;> omega) | simp)) | (with_reducible refine Below.trans ?_ (Below.mono (by with_reducible assumption) ?_); rotate_left; (first | omega | (simp <;> omega) | simp)))))
        have k0 : w1.cell? ⟨w.heap.size, 0, none⟩ = some (.int .i64 x0) := cu_below hb1 (by simp [go_sem]) (by simp)
        have k1 : w1.cell? ⟨w.heap.size, 1, none⟩ = some (.slice a0 es0.length cap0) := cu_below hb1 (by simp [go_sem]) (by simp)
        have hz1 : w.heap.size < w1.heap.size := cell_lt k0
        clear hb1
        go_wp2_with fail
        refine (hLk.out _ _ (up_alloc hB1.out (by omega)) (rowST (by simp [go_sem]) (by simp [go_sem]))).mono ?_
        rintro e w2 ⟨rfl, hb2⟩
        have hB2 := hide (show Below w.heap.size w w2 from (up_alloc hB1.out (by omega)).trans (hb2.mono (by simp; omega)))
        clear hb2
        go_wp2
        go_ret
        exact ⟨rfl, hB2.out⟩
    · rw [if_pos (by simpa using h1)] at hr
      rw [hr] at hK
      clear hr h0
      have q1 : (z == 0) = false := by simp [h1]
      have q2 : (z != 0) = true := by simp [h1]
      have q3 : (z == z) = true := by simp
      replace h1 := hide h1
      go_enter Try.func13, Try.ntmps13
      go_wp2_with fail
      refine (hK.out _ (by repeat (first | with_reducible exact Below.refl _ _ | with_reducible assumption | with_reducible refine up_drewN ?_ | with_reducible refine up_drew ?_ | (with_reducible refine up_alloc ?_ ?_; rotate_left; (first | omega | (simp <;> omega) | simp)) | (with_reducible refine up_set ?_ ?_; rotate_left; (first | omega | (simp <;> omega) | simp)) | (with_reducible refine Below.trans ?_ (Below.mono (by with_reducible assumption) ?_); rotate_left; (first | omega | (simp <;> omega) | simp))))).mono ?_
      rintro e w1 ⟨rfl, hb1⟩
      have hB1 := hide (show Below w.heap.size w w1 from (by repeat (first | with_reducible exact Below.refl _ _ | with_reducible assumption | with_reducible refine up_drewN ?_ | with_reducible refine up_drew ?_ | (with_reducible refine up_alloc ?_ ?_; rotate_left; (first | omega | (simp <;> omega) | simp)) | (with_reducible refine up_set ?_ ?_; rotate_left; (first | omega | (simp <;> omega) | simp)) | (with_reducible refine Below.trans ?_ (Below.mono (by with_reducible assumption) ?_); rotate_left; (first | omega | (simp <;> omega) | simp)))))
      have k0 : w1.cell? ⟨w.heap.size, 0, none⟩ = some (.int .i64 x0) := cu_below hb1 (by simp [go_sem]) (by simp)
      have k1 : w1.cell? ⟨w.heap.size, 1, none⟩ = some (.slice a0 es0.length cap0) := cu_below hb1 (by simp [go_sem]) (by simp)
      have hz1 : w.heap.size < w1.heap.size := cell_lt k0
      clear hb1
      go_wp2_with fail
      refine (hLk.out _ _ (up_alloc hB1.out (by omega)) (rowST (by simp [go_sem]) (by simp [go_sem]))).mono ?_
      rintro e w2 ⟨rfl, hb2⟩
      have hB2 := hide (show Below w.heap.size w w2 from (up_alloc hB1.out (by omega)).trans (hb2.mono (by simp; omega)))
      clear hb2
      go_wp2
      go_ret
      exact ⟨rfl, hB2.out⟩
end Go.Proofs.Ytcehdpeeaogpiaa
