/-
  What the reference's sum returns; SameWay; EqualFunc over ways. Conditions: bounds.
-/
import Derived.Test.YtcehdpeeaogpiaaSimP
import Derived.Test.YtcehdpeeaogpiaaYenC
import Derived.LoopTactic
namespace Go.Proofs.Ytcehdpeeaogpiaa
open Go.RowKit
set_option linter.unusedSimpArgs false
set_option linter.unusedVariables false
theorem sumE_take {es : List Ed} {l : List Nat} {k : Nat} (h : k < l.length) : sumE es (l.take (k + 1)) = sumE es (l.take k) + (edN es l[k]).c := by
  unfold sumE
  rw [List.take_succ_eq_append_getElem h, List.foldl_append]
  rfl
theorem sumE_bd {es : List Ed} {n : Nat} (hes : Right n es) : ∀ (l : List Nat), (∀ i ∈ l, i < es.length) → -10000 * (l.length : Int) ≤ sumE es l ∧ sumE es l ≤ 10000 * (l.length : Int)
  | [], _ => by simp [sumE]
  | i :: l, h => by
    obtain ⟨h1, h2⟩ := sumE_bd hes l (fun j hj => h j (List.mem_cons_of_mem _ hj))
    have := hes (edN es i) (edN_mem (h i List.mem_cons_self))
    rw [sumE_cons]
    simp only [List.length_cons]
    omega
set_option maxRecDepth 100000 in
set_option maxHeartbeats 1000000 in
theorem rsum_any (n : Nat) (a : Option Addr) (cap : Nat) (es : List Ed) (al : Option Addr) (m cl : Nat) (l : List Nat) (w : World) (B : Nat) (hB : B ≤ w.heap.size) (hE : Row encE 3 w B a es) (hL : Row encI 1 w w.heap.size al (NI l)) (hm : l.length = m) (hm6 : m ≤ 1000) (hes : Right n es) (hl : ∀ i ∈ l, i < es.length) (he : es.length ≤ 600) (r : Int) (hr : r = sumE es l) :
    Calls Try.prog 155 #[.agg #[.int .i64 (n : Int), .slice a es.length cap], .slice al m cl] w fun e w' => e = .returned (.int .i64 r) ∧ Below w.heap.size w w' := by
  have hbd := hide (fun (k : Nat) (hk : k ≤ m) => (show -10000 * (k : Int) ≤ sumE es (l.take k) ∧ sumE es (l.take k) ≤ 10000 * (k : Int) from by
    have := sumE_bd hes (l.take k) (fun i hi => hl i (List.mem_of_mem_take hi))
    rw [List.length_take, Nat.min_eq_left (by omega)] at this
    exact this))
  have hst := hide (fun (k : Nat) (hk : k < m) => (show sumE es (l.take (k + 1)) = sumE es (l.take k) + (edN es (l.getD k 0)).c from by
    rw [sumE_take (by omega)]
    simp [List.getD, List.getElem?_eq_getElem (show k < l.length by omega)]))
  have hix := hide (fun (k : Nat) (hk : k < m) => (show l.getD k 0 < es.length from by
    simp only [List.getD, List.getElem?_eq_getElem (show k < l.length by omega)]
    exact hl _ (List.getElem_mem _)))
  have hce := hide (fun (k : Nat) (hk : k < m) => (show ∃ b o, al = some ⟨b, o, none⟩ ∧ b < w.heap.size ∧ w.cell? ⟨b, o + k, none⟩ = some (.int .i64 (l.getD k 0 : Nat)) from by
    obtain ⟨b, o, e1, e2, e3⟩ := hL.int k (by rw [ni_len]; omega)
    refine ⟨b, o, e1, e2, ?_⟩
    rw [e3, ni_get l k (by rw [ni_len]; omega) (by omega)]
    simp [List.getD, List.getElem?_eq_getElem (show k < l.length by omega)]))
  replace hr := hide (show r = sumE es (l.take m) by rw [hr, List.take_of_length_le (by omega)])
  replace hE := hide hE
  replace hm := hide hm
  replace hes := hide hes
  clear hL hl
  go_enter Try.func155, Try.ntmps155
  go_wp2
  go_loopw [5, 10] (fun s5 s10 wr => ∃ (k : Nat), k ≤ m ∧ s10 = .int .i64 k ∧ s5 = .int .i64 (sumE es (l.take k)) ∧ Hid (Below w.heap.size w wr) ∧ wr.cell? ⟨w.heap.size, 1, none⟩ = some (.slice a es.length cap)) (fun _ s10 _ => m - (intOf s10).toNat)
  case atStart => exact ⟨0, Nat.zero_le _, rfl, rfl, hide (by repeat (first | with_reducible exact Below.refl _ _ | with_reducible assumption | with_reducible refine up_drewN ?_ | with_reducible refine up_drew ?_ | (with_reducible refine up_alloc ?_ ?_; rotate_left; (first | omega | (simp <;> omega) | simp)) | (with_reducible refine up_set ?_ ?_; rotate_left; (first | omega | (simp <;> omega) | simp)) | (with_reducible refine Below.trans ?_ (Below.mono (by with_reducible assumption) ?_); rotate_left; (first | omega | (simp <;> omega) | simp)))), by simp [go_sem]⟩
  case round =>
    obtain ⟨k, hk, rfl, rfl, hb, x1⟩ := hrel
    have hz := hb.out.size
    have xz := cell_lt x1
    simp only at xz
    by_cases hlt : k < m
    · obtain ⟨b, o, rfl, hbB, c0⟩ := hce.out k hlt
      have c0 := cu_below hb.out c0 (by simp; omega)
      have hbr : b < wr.heap.size := cell_lt c0
      obtain ⟨i, hi⟩ : ∃ i, i = l.getD k 0 := ⟨_, rfl⟩
      have hil := hix.out k hlt
      have hs := hst.out k hlt
      rw [← hi] at c0 hil hs
      obtain ⟨b2, o2, rfl, hbB2, d0, d1, d2⟩ := (hE.out.below hb.out hB).ed i hil
      have hex : es[i] = edN es i := by unfold edN; rw [List.getD, List.getElem?_eq_getElem hil]; rfl
      rw [hex] at d2
      have hb1 := hbd.out k hk
      have hb2 := hbd.out (k + 1) (by omega)
      rw [hs] at hb2
      obtain ⟨sk, hsk⟩ : ∃ z, z = sumE es (l.take k) := ⟨_, rfl⟩
      obtain ⟨xc, hxc⟩ : ∃ z, z = (edN es i).c := ⟨_, rfl⟩
      rw [← hxc] at d2 hs hb2
      rw [← hsk] at hb1 hb2 hs ⊢
      have hw1 : IntKind.i64.wrap (sk + xc) = sk + xc := by rw [IntKind.wrap_i64]; omega
      have hw2 : IntKind.i64.wrap ((k : Int) + 1) = (k : Int) + 1 := by rw [IntKind.wrap_i64]; omega
      have ik : (0 : Int) ≤ (k : Int) ∧ (k : Int) < (m : Int) := by omega
      have ii : (0 : Int) ≤ (i : Int) ∧ (i : Int) < (es.length : Int) := by omega
      have hb2r : b2 < wr.heap.size := cell_lt d2
      replace hs := hide hs
      replace hsk := hide hsk
      replace hxc := hide hxc
      replace hi := hide hi
      clear hex d0 d1
      go_wp2
      go_roundw
      case rel => exact ⟨k + 1, by omega, by go_num, by rw [hs.out], hb, x1⟩
      case measure => simp [intOf]; omega
    · obtain rfl : m = k := by omega
      rw [← hr.out]
      go_wp2
      go_ret
      exact ⟨rfl, hb.out⟩
theorem sameway_any (x y : Yv) (w : World) (hx : PB w x) (hy : PB w y) (t : Bool) (ht : t = (decide (x.k = y.k) && decide (x.p = y.p))) :
    Calls Try.prog 53 #[.agg #[.slice x.a x.n x.c, .int .i64 x.k], .agg #[.slice y.a y.n y.c, .int .i64 y.k]] w fun e w' => e = .returned (.bool t) ∧ Below w.heap.size w w' := by
  obtain ⟨tt, htt⟩ : ∃ tt, tt = decide (x.p = y.p) := ⟨_, rfl⟩
  have hE := hide (fun (w' : World) (hb : Below w.heap.size w w') => eqI x.a y.a x.c y.c x.n y.n (NI x.p) (NI y.p) w' w'.heap.size w'.heap.size (by rw [ni_len]; exact hx.len) (by rw [ni_len]; exact hy.len) (hx.stays hb).row (hy.stays hb).row (Nat.le_trans hx.cap hx.max) (Nat.le_trans hy.cap hy.max) tt (by rw [htt, decide_eq_true_eq]; exact ⟨fun h => by rw [h], fun h => ni_inj h⟩))
  have ht2 : t = (decide (x.k = y.k) && tt) := by
    rw [ht, htt]
  clear ht hx hy
  replace htt := hide htt
  go_enter Try.func53, Try.ntmps53
  by_cases h1 : x.k = y.k
  · have q1 : (x.k == y.k) = true := by simp [h1]
    have q2 : t = tt := by rw [ht2]; simp [h1]
    subst q2
    replace h1 := hide h1
    clear ht2
    go_wp2_with fail
    refine (hE.out _ (by repeat (first | with_reducible exact Below.refl _ _ | with_reducible assumption | with_reducible refine up_drewN ?_ | with_reducible refine up_drew ?_ | (with_reducible refine up_alloc ?_ ?_; rotate_left; (first | omega | (simp <;> omega) | simp)) | (with_reducible refine up_set ?_ ?_; rotate_left; (first | omega | (simp <;> omega) | simp)) | (with_reducible refine Below.trans ?_ (Below.mono (by with_reducible assumption) ?_); rotate_left; (first | omega | (simp <;> omega) | simp))))).mono ?_
    rintro e w1 ⟨rfl, k1, rfl⟩
    go_wp2
    go_ret
    exact ⟨rfl, (by repeat (first | with_reducible exact Below.refl _ _ | with_reducible assumption | with_reducible refine up_drewN ?_ | with_reducible refine up_drew ?_ | (with_reducible refine up_alloc ?_ ?_; rotate_left; (first | omega | (simp <;> omega) | simp)) | (with_reducible refine up_set ?_ ?_; rotate_left; (first | omega | (simp <;> omega) | simp)) | (with_reducible refine Below.trans ?_ (Below.mono (by with_reducible assumption) ?_); rotate_left; (first | omega | (simp <;> omega) | simp))))⟩
  · have q1 : (x.k == y.k) = false := by simp [h1]
    have q2 : t = false := by rw [ht2]; simp [h1]
    subst q2
    replace h1 := hide h1
    clear ht2
    go_wp2
    go_ret
    exact ⟨rfl, (by repeat (first | with_reducible exact Below.refl _ _ | with_reducible assumption | with_reducible refine up_drewN ?_ | with_reducible refine up_drew ?_ | (with_reducible refine up_alloc ?_ ?_; rotate_left; (first | omega | (simp <;> omega) | simp)) | (with_reducible refine up_set ?_ ?_; rotate_left; (first | omega | (simp <;> omega) | simp)) | (with_reducible refine Below.trans ?_ (Below.mono (by with_reducible assumption) ?_); rotate_left; (first | omega | (simp <;> omega) | simp))))⟩
set_option maxRecDepth 100000 in
set_option maxHeartbeats 1000000 in
theorem eqways_any (a b : Option Addr) (n m c1 c2 : Nat) (xs ys : List Yv) (w : World) (hx : Row encY 2 w w.heap.size a xs) (hy : Row encY 2 w w.heap.size b ys) (hn : xs.length = n) (hm : ys.length = m) (hpx : ∀ x ∈ xs, PB w x) (hpy : ∀ y ∈ ys, PB w y) (hn2 : n ≤ 1000000) (hm2 : m ≤ 100000000) (h : xs.map Yv.wy = ys.map Yv.wy) :
    Calls Try.prog 75 #[.slice a n c1, .slice b m c2, .func (.func 53) #[] #[]] w fun e w' => e = .returned (.bool true) ∧ Below w.heap.size w w' := by
  have hnm : n = m := by rw [← hn, ← hm]; have := congrArg List.length h; simpa using this
  subst hnm
  have q0 : ((n : Int) != (n : Int)) = false := by simp
  have hS := hide (fun (k : Nat) (hk1 : k < xs.length) (hk2 : k < ys.length) (w' : World) (hb : Below w.heap.size w w') => sameway_any xs[k] ys[k] w' ((hpx _ (List.getElem_mem hk1)).stays hb) ((hpy _ (List.getElem_mem hk2)).stays hb) true (by
    have h1 : (xs.map Yv.wy)[k]'(by simpa using hk1) = (ys.map Yv.wy)[k]'(by simpa using hk2) := by simp only [h]
    simp only [List.getElem_map] at h1
    have h2 : xs[k].k = ys[k].k := congrArg Wy.c h1
    have h3 : xs[k].p = ys[k].p := congrArg Wy.p h1
    simp [h2, h3]))
  replace hx := hide hx
  replace hy := hide hy
  replace hn := hide hn
  replace hm := hide hm
  clear hpx hpy h
  go_enter Try.func75, Try.ntmps75
  go_wp2
  go_loopw [17] (fun i wr => ∃ k : Nat, k ≤ n ∧ i = .int .i64 k ∧ Hid (Below w.heap.size w wr)) (fun i _ => n - (intOf i).toNat)
  case atStart => exact ⟨0, Nat.zero_le _, rfl, hide (Below.refl _ _)⟩
  case round =>
    obtain ⟨k, hk, rfl, hb⟩ := hrel
    have hz := hb.out.size
    by_cases hlt : k < n
    · have hk1 : k < xs.length := by rw [hn.out]; exact hlt
      have hk2 : k < ys.length := by rw [hm.out]; exact hlt
      obtain ⟨b1, o1, rfl, hb1, d0, d1⟩ := hx.out.wayY k hk1
      obtain ⟨b2, o2, rfl, hb2, e0, e1⟩ := hy.out.wayY k hk2
      have d0 := cu_below hb.out d0 hb1
      have d1 := cu_below hb.out d1 hb1
      have e0 := cu_below hb.out e0 hb2
      have e1 := cu_below hb.out e1 hb2
      have z1 : b1 < wr.heap.size := by omega
      have z2 : b2 < wr.heap.size := by omega
      have hSk := hide (hS.out k hk1 hk2)
      generalize xs[k] = x at d0 d1 hSk
      generalize ys[k] = y at e0 e1 hSk
      have ik : (0 : Int) ≤ (k : Int) ∧ (k : Int) < (n : Int) := by omega
      have hwk : IntKind.i64.wrap ((k : Int) + 1) = (k : Int) + 1 := by rw [IntKind.wrap_i64]; omega
      go_wp2_with fail
      refine (hSk.out _ (by first | exact up_alloc (up_alloc hb.out hz) (by simp; omega) | exact up_drew (up_alloc (up_alloc hb.out hz) (by simp; omega)))).mono ?_
      rintro e w1 ⟨rfl, hb9⟩
      have hbb := hide (hb.out.trans ((up_alloc (up_alloc (Below.refl wr.heap.size wr) (Nat.le_refl _)) (by simp) : Below wr.heap.size wr ((wr.alloc (.cells #[.slice x.a x.n x.c, .int .i64 x.k] 36)).alloc (.cells #[.slice y.a y.n y.c, .int .i64 y.k] 36))).mono hz))
      have hbb2 := hide (hbb.out.trans (hb9.mono (by simp; omega)))
      go_wp2
      go_roundw
      case rel => exact ⟨k + 1, by omega, by go_num, hbb2⟩
      case measure => simp [intOf]; omega
    · obtain rfl : n = k := by omega
      go_wp2
      go_ret
      exact ⟨rfl, hb.out⟩
end Go.Proofs.Ytcehdpeeaogpiaa
