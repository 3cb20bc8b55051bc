/-
  The walk of felllaw.WalkCuts: it returns true. Conditions: the arguments read as data, at most 1048576 numbers each.
-/
import Derived.Test.YtdpbkhempgghaaaWCut
import Derived.Test.YtdpbkhempgghaaaJoin
import Derived.Test.YtdpbkhempgghaaaConcatI
import Derived.Test.YtdpbkhempgghaaaEqL
import Derived.Test.YtdpbkhempgghaaaOpen
namespace Go.Proofs.Ytdpbkhempgghaaa
open Go.RowKit
set_option linter.unusedSimpArgs false
set_option linter.unusedVariables false
theorem meet_eq {xs ys : List Int} (h : Meet xs ys) : xs ++ ys.drop 1 = xs.take (xs.length - 1) ++ ys := by
  obtain ⟨h1, h2, h3⟩ := h
  cases ys with
  | nil => simp at h2
  | cons y r =>
    have hx : xs = xs.take (xs.length - 1) ++ [y] := by
      have hg : xs.getD (xs.length - 1) 0 = xs[xs.length - 1] := by simp [List.getD, List.getElem?_eq_getElem (show xs.length - 1 < xs.length by omega)]
      rw [hg] at h3
      have := List.take_succ_eq_append_getElem (l := xs) (i := xs.length - 1) (by omega)
      rw [h3, show xs.length - 1 + 1 = xs.length by omega, List.take_length] at this
      simpa using this
    show xs ++ r = xs.take (xs.length - 1) ++ (y :: r)
    conv => lhs; rw [hx]
    simp
theorem row_twoS (w : World) (t : TypeId) (x y : S3) : Row encS 1 (w.alloc (.cells #[.slice x.a x.n x.c, .slice y.a y.n y.c] t)) (w.heap.size + 1) (some ⟨w.heap.size, 0, none⟩) [x, y] := by
  intro i hi
  refine ⟨w.heap.size, 0, rfl, by omega, fun j u hu => ?_⟩
  have hi2 : i = 0 ∨ i = 1 := by simp at hi; omega
  rcases hi2 with rfl | rfl
  · match j, hu with
    | 0, hu => simp [encS] at hu; subst hu; simp [go_sem]
  · match j, hu with
    | 0, hu => simp [encS] at hu; subst hu; simp [go_sem]
theorem Row.takeI {w : World} {B : Nat} {a : Option Addr} {l : List Int} (h : Row encI 1 w B a l) (k : Nat) : Row encI 1 w B a (l.take k) := by
  intro i hi
  obtain ⟨b, o, e1, e2, e3⟩ := h i (by rw [List.length_take] at hi; omega)
  exact ⟨b, o, e1, e2, fun j u hu => e3 j u (by simpa using hu)⟩
set_option maxRecDepth 100000 in
set_option maxHeartbeats 2000000 in
theorem walk_WalkCuts (a0 : Option Addr) (cap0 : Nat) (x0 : List Int) (a1 : Option Addr) (cap1 : Nat) (x1 : List Int) (w : World) (l0 : x0.length ≤ cap0) (m0 : cap0 ≤ maxLen) (r0 : Row encI 1 w w.heap.size a0 x0) (b0 : ∀ x ∈ x0, Bd x) (l1 : x1.length ≤ cap1) (m1 : cap1 ≤ maxLen) (r1 : Row encI 1 w w.heap.size a1 x1) (b1 : ∀ x ∈ x1, Bd x) (n0 : x0.length ≤ 1048576) (n1 : x1.length ≤ 1048576) :
    Calls Try.prog 3 #[.slice a0 x0.length cap0, .slice a1 x1.length cap1] w fun e w' => e = .returned (.bool true) ∧ Below w.heap.size w w' := by
  replace r0 := hide r0
  replace r1 := hide r1
  obtain ⟨na, hna⟩ : ∃ na, na = x0.length := ⟨_, rfl⟩
  obtain ⟨nb, hnb⟩ : ∃ nb, nb = x1.length := ⟨_, rfl⟩
  rw [← hna] at l0 n0 ⊢
  rw [← hnb] at l1 n1 ⊢
  replace hna := hide hna
  replace hnb := hide hnb
  replace b0 := hide b0
  clear b1
  have hcase : na = 0 ∨ (100 < na ∧ 0 < na) ∨ (0 < na ∧ na ≤ 100) := by omega
  have hc0 : cap0 ≤ 9223372036854775807 := by unfold maxLen at m0; omega
  rcases hcase with hc | ⟨hc, hc'⟩ | ⟨hc, hc'⟩
  · have q0 : ((na : Int) == 0) = true := by simp [hc]
    have hC := hide (show ∀ w, _ from fun w => by have := cut_none a0 cap0 w; rwa [← hc] at this)
    replace hc := hide hc
    go_enter Try.func3, Try.ntmps3
    go_wp2_with fail
    refine (hC.out _).mono ?_
    rintro e w3 ⟨rfl, hbw3⟩
    replace hbw3 := hide hbw3
    clear hC
    go_wp2_with fail
    have hz3 := hbw3.out.size
    have hr0 := hide (r0.out.below hbw3.out (Nat.le_refl _))
    have hr1 := hide (r1.out.below hbw3.out (Nat.le_refl _))
    by_cases hM : Meet x0 x1
    · exact absurd hM.1 (by rw [← hna.out]; have := hc.out; omega)
    · have hJ := hide (join_bad a0 a1 na nb cap0 cap1 x0 x1 hna.out.symm hnb.out.symm w3 w.heap.size hz3 hr0.out hr1.out (by omega) (by omega) hM)
      refine hJ.out.mono ?_
      rintro e w4 ⟨rfl, hb4⟩
      have hbw4 := hide (hbw3.out.trans (hb4.mono hz3))
      have hz4 := hbw4.out.size
      have hr04 := hide (r0.out.below hbw4.out (Nat.le_refl _))
      have hr14 := hide (r1.out.below hbw4.out (Nat.le_refl _))
      replace hM := hide hM
      clear hJ hb4 hr0 hr1
      by_cases h1 : na = 0
      · have g1 : ((na : Int) == 0) = true := by simp [h1]
        clear h1
        go_wp2
        go_quiet (fail)
        go_wp2
        go_ret
        exact ⟨rfl, up_drewN hbw4.out⟩
      · exact absurd hc.out h1
  · have q0 : ((na : Int) == 0) = false := by simp; omega
    have hC := hide (fun w => cut_large a0 na cap0 w hc)
    go_enter Try.func3, Try.ntmps3
    go_wp2_with fail
    refine (hC.out _).mono ?_
    rintro e w3 ⟨rfl, hbw3⟩
    replace hbw3 := hide hbw3
    clear hC
    go_wp2_with fail
    have hz3 := hbw3.out.size
    have hr0 := hide (r0.out.below hbw3.out (Nat.le_refl _))
    have hr1 := hide (r1.out.below hbw3.out (Nat.le_refl _))
    by_cases hM : Meet x0 x1
    · have hJ := hide (join_ok a0 a1 na nb cap0 cap1 x0 x1 hna.out.symm hnb.out.symm w3 w.heap.size hz3 hr0.out hr1.out (by omega) (by omega) l1 m1 hM)
      have hme := hide (meet_eq hM)
      obtain ⟨h1, h2, h3⟩ := hM
      rw [← hna.out] at h1 h3
      rw [← hnb.out] at h2
      obtain ⟨b1, o1, rfl, hb1, e1⟩ := row_getD hr0.out (na - 1) (by rw [← hna.out]; omega)
      obtain ⟨b2, o2, rfl, hb2, e2⟩ := row_getD hr1.out 0 (by rw [← hnb.out]; omega)
      rw [h3] at e1
      generalize x1.getD 0 0 = y at e1 e2 h3
      have g1 : ((na : Int) == 0) = false := by simp; omega
      have g2 : ((nb : Int) == 0) = false := by simp; omega
      have g3 : (y != y) = false := by simp
      have hw1 : IntKind.i64.wrap ((na : Int) - 1) = (na : Int) - 1 := by rw [IntKind.wrap_i64]; omega
      have hw3 : ((na : Int) - 1).toNat = na - 1 := by omega
      have hw4 : (0 : Int) < (nb : Int) := by omega
      have hw5 : (1 : Int) ≤ (na : Int) := by omega
      have hw6 : (0 : Int) ≤ (na : Int) - 1 := by omega
      have hw7 : (na : Int) - 1 < (na : Int) := by omega
      have e2 : w3.cell? ⟨b2, o2, none⟩ = some (.int .i64 y) := by simpa using e2
      obtain ⟨pj, hpj⟩ : ∃ pj, pj = (x0 ++ x1.drop 1).length := ⟨_, rfl⟩
      have hpj2 : pj ≤ 3000000 := by rw [hpj, List.length_append, List.length_drop, ← hna.out, ← hnb.out]; omega
      replace hpj := hide hpj
      clear h3
      refine hJ.out.mono ?_
      rintro e w4 ⟨v4, rfl, own4, hb4⟩
      obtain ⟨a4, c4, rfl⟩ := own4.shape hpj.out.symm
      have f1 := cu_below hb4 e1 (by simp; omega)
      have f2 := cu_below hb4 e2 (by simp; omega)
      have z1 := cell_lt f1
      have z2 := cell_lt f2
      have hbw4 := hide (hbw3.out.trans (hb4.mono hz3))
      replace own4 := hide own4
      clear hJ e1 e2 hb4
      go_wp2
      go_quiet (fail)
      obtain ⟨w5, hw5'⟩ : ∃ wx : World, wx = w4.drewN nq := ⟨_, rfl⟩
      have own5 := hide (show Own encI 1 3 w5 w3.heap.size (.slice a4 pj c4) (x0 ++ x1.drop 1) by rw [hw5']; exact own4.out.drewN _)
      have hbw5 := hide (show Below w.heap.size w w5 by rw [hw5']; exact up_drewN hbw4.out)
      simp only [← hw5']
      replace hw5' := hide hw5'
      have hz5 := hbw5.out.size
      have hr05 := hide (r0.out.below hbw5.out (Nat.le_refl _))
      have hr15 := hide (r1.out.below hbw5.out (Nat.le_refl _))
      have hrS := row_twoS w5 22 ⟨some ⟨b1, o1, none⟩, na - 1, cap0⟩ ⟨some ⟨b2, o2, none⟩, nb, cap1⟩
      have hCc := hide (fun t => concatI_any 2 2 (some ⟨w5.heap.size, 0, none⟩) [⟨some ⟨b1, o1, none⟩, na - 1, cap0⟩, ⟨some ⟨b2, o2, none⟩, nb, cap1⟩] [x0.take (na - 1), x1] (w5.alloc (.cells #[.slice (some ⟨b1, o1, none⟩) (na - 1) cap0, .slice (some ⟨b2, o2, none⟩) nb cap1] t)) (w5.heap.size + 1) (by simp) rfl rfl (row_twoS w5 t ⟨some ⟨b1, o1, none⟩, na - 1, cap0⟩ ⟨some ⟨b2, o2, none⟩, nb, cap1⟩) (fun i hi => by
        have hb' : Below w5.heap.size w5 (w5.alloc (.cells #[.slice (some ⟨b1, o1, none⟩) (na - 1) cap0, .slice (some ⟨b2, o2, none⟩) nb cap1] t)) := (Below.refl _ _).alloc (Nat.le_refl _) _
        have hi2 : i = 0 ∨ i = 1 := by omega
        rcases hi2 with rfl | rfl
        · exact ⟨by simp only [List.getElem_cons_zero, List.length_take]; rw [← hna.out]; omega, ((hr05.out.takeI _).below hb' (by omega)).mono (by omega)⟩
        · exact ⟨by simp only [List.getElem_cons_succ, List.getElem_cons_zero]; exact hnb.out, (hr15.out.below hb' (by omega)).mono (by omega)⟩) (by omega) (by simp only [List.flatten_cons, List.flatten_nil, List.append_nil, List.length_append, List.length_take]; rw [← hnb.out, ← hna.out]; omega))
      clear f1 f2 hrS own4 hbw4
      go_wp2_with fail
      refine (hCc.out _).mono ?_
      rintro e w6 ⟨v6, rfl, own6, hb6⟩
      rw [show [x0.take (na - 1), x1].flatten = x0 ++ x1.drop 1 by rw [hme.out, ← hna.out]; simp] at own6
      obtain ⟨a6, c6, rfl⟩ := own6.shape hpj.out.symm
      have hb6' : Below w5.heap.size w5 w6 := unalloc (hb6.mono (by simp)) (Nat.le_refl _)
      have own56 := hide (own5.out.stays hb6')
      have hbw6 := hide (hbw5.out.trans (hb6'.mono hz5))
      have rr (a : Option Addr) (c base : Nat) (h : Own encI 1 3 w6 base (.slice a pj c) (x0 ++ x1.drop 1)) : Row encI 1 w6 w6.heap.size a (x0 ++ x1.drop 1) := by
        obtain ⟨a', c', hv', hr', _⟩ := h.row lenI
        injection hv' with g1 g2 g3
        subst g1
        exact hr'
      have hE := hide (eqI a4 a6 c4 c6 pj pj (x0 ++ x1.drop 1) (x0 ++ x1.drop 1) w6 w6.heap.size w6.heap.size hpj.out.symm hpj.out.symm (rr _ _ _ own56.out) (rr _ _ _ own6) (by omega) (by omega) true (by simp))
      clear rr own6 hb6 hb6' own5
      go_wp2_with fail
      refine hE.out.mono ?_
      rintro e w7 ⟨rfl, nq7, rfl⟩
      go_wp2
      go_ret
      exact ⟨rfl, up_drewN hbw6.out⟩
    · have hJ := hide (join_bad a0 a1 na nb cap0 cap1 x0 x1 hna.out.symm hnb.out.symm w3 w.heap.size hz3 hr0.out hr1.out (by omega) (by omega) hM)
      refine hJ.out.mono ?_
      rintro e w4 ⟨rfl, hb4⟩
      have hbw4 := hide (hbw3.out.trans (hb4.mono hz3))
      have hz4 := hbw4.out.size
      have hr04 := hide (r0.out.below hbw4.out (Nat.le_refl _))
      have hr14 := hide (r1.out.below hbw4.out (Nat.le_refl _))
      replace hM := hide hM
      clear hJ hb4 hr0 hr1
      by_cases h1 : na = 0
      · exact absurd h1 (by omega)
      · have g1 : ((na : Int) == 0) = false := by simp [h1]
        by_cases h2 : nb = 0
        · have g2 : ((nb : Int) == 0) = true := by simp [h2]
          clear h1 h2
          go_wp2
          go_quiet (fail)
          go_wp2
          go_ret
          exact ⟨rfl, up_drewN hbw4.out⟩
        · have g2 : ((nb : Int) == 0) = false := by simp [h2]
          obtain ⟨b1, o1, rfl, hb1, e1⟩ := row_getD hr04.out (na - 1) (by rw [← hna.out]; omega)
          obtain ⟨b2, o2, rfl, hb2, e2⟩ := row_getD hr14.out 0 (by rw [← hnb.out]; omega)
          have hne : ¬ x0.getD (na - 1) 0 = x1.getD 0 0 := fun e => hM.out ⟨by rw [← hna.out]; omega, by rw [← hnb.out]; omega, by rw [← hna.out]; exact e⟩
          generalize x0.getD (na - 1) 0 = x at e1 hne
          generalize x1.getD 0 0 = y at e2 hne
          have g3 : (x != y) = true := by simp [hne]
          have hw1 : IntKind.i64.wrap ((na : Int) - 1) = (na : Int) - 1 := by rw [IntKind.wrap_i64]; omega
          have hw3 : ((na : Int) - 1).toNat = na - 1 := by omega
          have hw4 : (0 : Int) < (nb : Int) := by omega
          have hw5 : (1 : Int) ≤ (na : Int) := by omega
          have hw6 : (0 : Int) ≤ (na : Int) - 1 := by omega
          have hw7 : (na : Int) - 1 < (na : Int) := by omega
          have e2 : w4.cell? ⟨b2, o2, none⟩ = some (.int .i64 y) := by simpa using e2
          have z1 := cell_lt e1
          have z2 := cell_lt e2
          clear h1 h2 hne
          go_wp2
          go_quiet (fail)
          go_wp2
          go_ret
          exact ⟨rfl, up_drewN hbw4.out⟩
  · have q0 : ((na : Int) == 0) = false := by simp; omega
    have hC := hide (cut_ok a0 na cap0 x0 hna.out.symm w w.heap.size (Nat.le_refl _) r0.out b0.out hc hc')
    have hR := hide (fun w' hB hE => rcut_any na x0 a0 cap0 na w' w.heap.size hB hE hna.out.symm hc (Nat.le_refl _) hc' l0 hc0)
    go_enter Try.func3, Try.ntmps3
    go_wp2_with fail
    refine hC.out.mono ?_
    rintro e w1 ⟨v1, rfl, own1, hb1⟩
    obtain ⟨p, hp⟩ : ∃ p, p = (cutQ x0.length x0).length := ⟨_, rfl⟩
    have hpl := cutQ_len x0.length x0
    rw [← hp, ← hna.out] at hpl
    obtain ⟨a1', c1, rfl⟩ := own1.shape hp.symm
    rw [← hna.out] at own1 hp
    replace hp := hide hp
    replace own1 := hide own1
    replace hb1 := hide hb1
    have hz1 := hb1.out.size
    clear hC
    go_wp2_with fail
    refine (hR.out w1 hz1 (r0.out.below hb1.out (Nat.le_refl _))).mono ?_
    rintro e w2 ⟨v2, rfl, own2, hb2⟩
    obtain ⟨a2', c2', rfl⟩ := own2.shape hp.out.symm
    have own12 := hide (own1.out.stays hb2)
    have hbw2 := hide (hb1.out.trans (hb2.mono hz1))
    have rr (a : Option Addr) (c base : Nat) (h : Own encI 1 3 w2 base (.slice a p c) (cutQ na x0)) : Row encI 1 w2 w2.heap.size a (cutQ na x0) := by
      obtain ⟨a', c', hv', hr', _⟩ := h.row lenI
      injection hv' with g1 g2 g3
      subst g1
      exact hr'
    have hE := hide (eqI a1' a2' c1 c2' p p (cutQ na x0) (cutQ na x0) w2 w2.heap.size w2.heap.size hp.out.symm hp.out.symm (rr _ _ _ own12.out) (rr _ _ _ own2) (by omega) (by omega) true (by simp))
    clear rr own2 own12 hb2 hR own1 hb1
    go_wp2_with fail
    refine hE.out.mono ?_
    rintro e wy ⟨rfl, nq2, rfl⟩
    obtain ⟨w3, hw3'⟩ : ∃ w3, w3 = w2.drewN nq2 := ⟨_, rfl⟩
    have hbw3 := hide (show Below w.heap.size w w3 by rw [hw3']; exact up_drewN hbw2.out)
    simp only [← hw3']
    replace hw3' := hide hw3'
    go_wp2_with fail
    have hz3 := hbw3.out.size
    have hr0 := hide (r0.out.below hbw3.out (Nat.le_refl _))
    have hr1 := hide (r1.out.below hbw3.out (Nat.le_refl _))
    by_cases hM : Meet x0 x1
    · have hJ := hide (join_ok a0 a1 na nb cap0 cap1 x0 x1 hna.out.symm hnb.out.symm w3 w.heap.size hz3 hr0.out hr1.out (by omega) (by omega) l1 m1 hM)
      have hme := hide (meet_eq hM)
      obtain ⟨h1, h2, h3⟩ := hM
      rw [← hna.out] at h1 h3
      rw [← hnb.out] at h2
      obtain ⟨b1, o1, rfl, hb1, e1⟩ := row_getD hr0.out (na - 1) (by rw [← hna.out]; omega)
      obtain ⟨b2, o2, rfl, hb2, e2⟩ := row_getD hr1.out 0 (by rw [← hnb.out]; omega)
      rw [h3] at e1
      generalize x1.getD 0 0 = y at e1 e2 h3
      have g1 : ((na : Int) == 0) = false := by simp; omega
      have g2 : ((nb : Int) == 0) = false := by simp; omega
      have g3 : (y != y) = false := by simp
      have hw1 : IntKind.i64.wrap ((na : Int) - 1) = (na : Int) - 1 := by rw [IntKind.wrap_i64]; omega
      have hw3 : ((na : Int) - 1).toNat = na - 1 := by omega
      have hw4 : (0 : Int) < (nb : Int) := by omega
      have hw5 : (1 : Int) ≤ (na : Int) := by omega
      have hw6 : (0 : Int) ≤ (na : Int) - 1 := by omega
      have hw7 : (na : Int) - 1 < (na : Int) := by omega
      have e2 : w3.cell? ⟨b2, o2, none⟩ = some (.int .i64 y) := by simpa using e2
      obtain ⟨pj, hpj⟩ : ∃ pj, pj = (x0 ++ x1.drop 1).length := ⟨_, rfl⟩
      have hpj2 : pj ≤ 3000000 := by rw [hpj, List.length_append, List.length_drop, ← hna.out, ← hnb.out]; omega
      replace hpj := hide hpj
      clear h3
      refine hJ.out.mono ?_
      rintro e w4 ⟨v4, rfl, own4, hb4⟩
      obtain ⟨a4, c4, rfl⟩ := own4.shape hpj.out.symm
      have f1 := cu_below hb4 e1 (by simp; omega)
      have f2 := cu_below hb4 e2 (by simp; omega)
      have z1 := cell_lt f1
      have z2 := cell_lt f2
      have hbw4 := hide (hbw3.out.trans (hb4.mono hz3))
      replace own4 := hide own4
      clear hJ e1 e2 hb4
      go_wp2
      go_quiet (fail)
      obtain ⟨w5, hw5'⟩ : ∃ wx : World, wx = w4.drewN nq := ⟨_, rfl⟩
      have own5 := hide (show Own encI 1 3 w5 w3.heap.size (.slice a4 pj c4) (x0 ++ x1.drop 1) by rw [hw5']; exact own4.out.drewN _)
      have hbw5 := hide (show Below w.heap.size w w5 by rw [hw5']; exact up_drewN hbw4.out)
      simp only [← hw5']
      replace hw5' := hide hw5'
      have hz5 := hbw5.out.size
      have hr05 := hide (r0.out.below hbw5.out (Nat.le_refl _))
      have hr15 := hide (r1.out.below hbw5.out (Nat.le_refl _))
      have hrS := row_twoS w5 22 ⟨some ⟨b1, o1, none⟩, na - 1, cap0⟩ ⟨some ⟨b2, o2, none⟩, nb, cap1⟩
      have hCc := hide (fun t => concatI_any 2 2 (some ⟨w5.heap.size, 0, none⟩) [⟨some ⟨b1, o1, none⟩, na - 1, cap0⟩, ⟨some ⟨b2, o2, none⟩, nb, cap1⟩] [x0.take (na - 1), x1] (w5.alloc (.cells #[.slice (some ⟨b1, o1, none⟩) (na - 1) cap0, .slice (some ⟨b2, o2, none⟩) nb cap1] t)) (w5.heap.size + 1) (by simp) rfl rfl (row_twoS w5 t ⟨some ⟨b1, o1, none⟩, na - 1, cap0⟩ ⟨some ⟨b2, o2, none⟩, nb, cap1⟩) (fun i hi => by
        have hb' : Below w5.heap.size w5 (w5.alloc (.cells #[.slice (some ⟨b1, o1, none⟩) (na - 1) cap0, .slice (some ⟨b2, o2, none⟩) nb cap1] t)) := (Below.refl _ _).alloc (Nat.le_refl _) _
        have hi2 : i = 0 ∨ i = 1 := by omega
        rcases hi2 with rfl | rfl
        · exact ⟨by simp only [List.getElem_cons_zero, List.length_take]; rw [← hna.out]; omega, ((hr05.out.takeI _).below hb' (by omega)).mono (by omega)⟩
        · exact ⟨by simp only [List.getElem_cons_succ, List.getElem_cons_zero]; exact hnb.out, (hr15.out.below hb' (by omega)).mono (by omega)⟩) (by omega) (by simp only [List.flatten_cons, List.flatten_nil, List.append_nil, List.length_append, List.length_take]; rw [← hnb.out, ← hna.out]; omega))
      clear f1 f2 hrS own4 hbw4
      go_wp2_with fail
      refine (hCc.out _).mono ?_
      rintro e w6 ⟨v6, rfl, own6, hb6⟩
      rw [show [x0.take (na - 1), x1].flatten = x0 ++ x1.drop 1 by rw [hme.out, ← hna.out]; simp] at own6
      obtain ⟨a6, c6, rfl⟩ := own6.shape hpj.out.symm
      have hb6' : Below w5.heap.size w5 w6 := unalloc (hb6.mono (by simp)) (Nat.le_refl _)
      have own56 := hide (own5.out.stays hb6')
      have hbw6 := hide (hbw5.out.trans (hb6'.mono hz5))
      have rr (a : Option Addr) (c base : Nat) (h : Own encI 1 3 w6 base (.slice a pj c) (x0 ++ x1.drop 1)) : Row encI 1 w6 w6.heap.size a (x0 ++ x1.drop 1) := by
        obtain ⟨a', c', hv', hr', _⟩ := h.row lenI
        injection hv' with g1 g2 g3
        subst g1
        exact hr'
      have hE := hide (eqI a4 a6 c4 c6 pj pj (x0 ++ x1.drop 1) (x0 ++ x1.drop 1) w6 w6.heap.size w6.heap.size hpj.out.symm hpj.out.symm (rr _ _ _ own56.out) (rr _ _ _ own6) (by omega) (by omega) true (by simp))
      clear rr own6 hb6 hb6' own5
      go_wp2_with fail
      refine hE.out.mono ?_
      rintro e w7 ⟨rfl, nq7, rfl⟩
      go_wp2
      go_ret
      exact ⟨rfl, up_drewN hbw6.out⟩
    · have hJ := hide (join_bad a0 a1 na nb cap0 cap1 x0 x1 hna.out.symm hnb.out.symm w3 w.heap.size hz3 hr0.out hr1.out (by omega) (by omega) hM)
      refine hJ.out.mono ?_
      rintro e w4 ⟨rfl, hb4⟩
      have hbw4 := hide (hbw3.out.trans (hb4.mono hz3))
      have hz4 := hbw4.out.size
      have hr04 := hide (r0.out.below hbw4.out (Nat.le_refl _))
      have hr14 := hide (r1.out.below hbw4.out (Nat.le_refl _))
      replace hM := hide hM
      clear hJ hb4 hr0 hr1
      by_cases h1 : na = 0
      · exact absurd h1 (by omega)
      · have g1 : ((na : Int) == 0) = false := by simp [h1]
        by_cases h2 : nb = 0
        · have g2 : ((nb : Int) == 0) = true := by simp [h2]
          clear h1 h2
          go_wp2
          go_quiet (fail)
          go_wp2
          go_ret
          exact ⟨rfl, up_drewN hbw4.out⟩
        · have g2 : ((nb : Int) == 0) = false := by simp [h2]
          obtain ⟨b1, o1, rfl, hb1, e1⟩ := row_getD hr04.out (na - 1) (by rw [← hna.out]; omega)
          obtain ⟨b2, o2, rfl, hb2, e2⟩ := row_getD hr14.out 0 (by rw [← hnb.out]; omega)
          have hne : ¬ x0.getD (na - 1) 0 = x1.getD 0 0 := fun e => hM.out ⟨by rw [← hna.out]; omega, by rw [← hnb.out]; omega, by rw [← hna.out]; exact e⟩
          generalize x0.getD (na - 1) 0 = x at e1 hne
          generalize x1.getD 0 0 = y at e2 hne
          have g3 : (x != y) = true := by simp [hne]
          have hw1 : IntKind.i64.wrap ((na : Int) - 1) = (na : Int) - 1 := by rw [IntKind.wrap_i64]; omega
          have hw3 : ((na : Int) - 1).toNat = na - 1 := by omega
          have hw4 : (0 : Int) < (nb : Int) := by omega
          have hw5 : (1 : Int) ≤ (na : Int) := by omega
          have hw6 : (0 : Int) ≤ (na : Int) - 1 := by omega
          have hw7 : (na : Int) - 1 < (na : Int) := by omega
          have e2 : w4.cell? ⟨b2, o2, none⟩ = some (.int .i64 y) := by simpa using e2
          have z1 := cell_lt e1
          have z2 := cell_lt e2
          clear h1 h2 hne
          go_wp2
          go_quiet (fail)
          go_wp2
          go_ret
          exact ⟨rfl, up_drewN hbw4.out⟩
end Go.Proofs.Ytdpbkhempgghaaa
