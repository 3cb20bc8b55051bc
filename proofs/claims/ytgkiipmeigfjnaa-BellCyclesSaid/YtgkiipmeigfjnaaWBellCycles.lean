/-
  The walk of felllaw.BellCycles: it returns true. Conditions: the argument reads as data.
-/
import Derived.Test.YtgkiipmeigfjnaaCycle
import Derived.Test.YtgkiipmeigfjnaaRWCost
import Derived.Test.YtgkiipmeigfjnaaClone
import Derived.Test.YtgkiipmeigfjnaaTabs2
import Derived.Test.YtgkiipmeigfjnaaOpen
import Derived.Deep.RegionLaw
namespace Go.Proofs.Ytgkiipmeigfjnaa
open Go.RowKit
set_option linter.unusedSimpArgs false
set_option linter.unusedVariables false
set_option maxHeartbeats 1000000 in
theorem idx_none (xs : List Int) (x : Int) (a : Option Addr) (n c : Nat) (hn : xs.length = n) (w : World) (B : Nat) (hE : Row encI 1 w B a xs) (h : x ∉ xs) (hm : n ≤ 1000) :
    Calls Try.prog 78 #[.slice a n c, .int .i64 x] w fun e w' => e = .returned (.int .i64 (-1)) ∧ w' = w := by
  subst hn
  replace hE := hide hE
  replace h := hide h
  go_enter Try.func78, Try.ntmps78
  go_wp2
  go_loopw [8] (fun i wr => ∃ k : Nat, k ≤ xs.length ∧ i = .int .i64 k ∧ wr = w) (fun i _ => xs.length - (intOf i).toNat)
  case atStart => exact ⟨0, Nat.zero_le _, rfl, rfl⟩
  case round =>
    obtain ⟨k, hk, rfl, rfl⟩ := hrel
    by_cases hlt : k < xs.length
    · obtain ⟨b, o, rfl, hb, e0⟩ := hE.out.int k hlt
      have hbl := cell_lt e0
      have hne : (x == xs[k]) = false := by
        simp only [beq_eq_false_iff_ne, ne_eq]
        intro e
        exact h.out (by rw [e]; exact List.getElem_mem hlt)
      obtain ⟨y, hy⟩ : ∃ y, y = xs[k] := ⟨_, rfl⟩
      rw [← hy] at e0 hne
      replace hy := hide hy
      have ik : (0 : Int) ≤ (k : Int) ∧ (k : Int) < (xs.length : Int) := by omega
      go_wp2
      go_roundw
      case rel => exact ⟨k + 1, by omega, by go_num, by first | rfl | trivial⟩
      case measure => simp [intOf]; omega
    · go_wp2
      go_ret
      exact ⟨rfl, rfl⟩
theorem ct_none (xs : List Int) (x : Int) (a : Option Addr) (n c : Nat) (hn : xs.length = n) (w : World) (B : Nat) (hE : Row encI 1 w B a xs) (h : x ∉ xs) (hm : n ≤ 1000) :
    Calls Try.prog 24 #[.slice a n c, .int .i64 x] w fun e w' => e = .returned (.bool false) ∧ w' = w := by
  have hI := hide (idx_none xs x a n c hn w B hE h hm)
  clear hE h
  go_enter Try.func24, Try.ntmps24
  go_wp2_with fail
  refine hI.out.mono ?_
  rintro e w1 ⟨rfl, rfl⟩
  go_wp2
  go_ret
  exact ⟨rfl, rfl⟩
theorem cellI {w : World} {b o : Nat} {x : Int} (h : w.cell? ⟨b, o, none⟩ = some (.int .i64 x)) : ∀ j u, (encI x)[j]? = some u → w.cell? ((⟨b, o, none⟩ : Addr).add j) = some u := by
  intro j u hj
  match j, hj with
  | 0, hj => simp [encI] at hj; subst hj; simpa [Addr.add] using h
theorem Row.take {w : World} {B : Nat} {a : Option Addr} {xs : List Int} (h : Row encI 1 w B a xs) (k : Nat) : Row encI 1 w B a (xs.take k) := by
  intro i hi
  have hi' : i < xs.length := by rw [List.length_take] at hi; omega
  obtain ⟨b, o, h1, h2, h3⟩ := h i hi'
  refine ⟨b, o, h1, h2, fun j u hu => h3 j u ?_⟩
  rwa [List.getElem_take] at hu
theorem cyc_nodup {n : Nat} {es : List Ed} {p : Nat → Int} {v K : Nat} (hF : Found n es p v K) (i : Nat) (hi : i < K) : ((cycL p K v).reverse[i]'(by rw [List.length_reverse, cycL_len]; exact hi)) ∉ (cycL p K v).reverse.take i := by
  intro hm
  obtain ⟨j, hj, e⟩ := List.getElem_of_mem hm
  rw [List.length_take, List.length_reverse, cycL_len] at hj
  rw [List.getElem_take, List.getElem_reverse, List.getElem_reverse, cycL_get, cycL_get, cycL_len] at e
  have h1 := cyc_apart hF.back hF.first (a := K - 1 - i) (b := K - 1 - j) (by omega) (by omega)
  omega
set_option maxRecDepth 100000 in
set_option maxHeartbeats 4000000 in
theorem walk_BellCycles (x0 : Int) (a0 : Option Addr) (cap0 : Nat) (es0 : List Ed) (w : World) (b0 : Bd x0) (l0 : es0.length ≤ cap0) (m0 : cap0 ≤ maxLen) (r0 : Row encE 3 w w.heap.size a0 es0) (be0 : ∀ x ∈ es0, BdE x) :
    Calls Try.prog 5 #[.agg #[.int .i64 x0, .slice a0 es0.length cap0]] w fun e w' => e = .returned (.bool true) ∧ Below w.heap.size w w' := by
  have hl : es0.length ≤ 9223372036854775807 := by unfold maxLen at m0; omega
  replace r0 := hide r0
  by_cases h0 : netErr x0 es0 = 0
  · obtain ⟨n1, n2, n3, n4⟩ := netErr_ok h0
    obtain ⟨n, rfl⟩ := Int.eq_ofNat_of_zero_le (show 0 ≤ x0 by omega)
    have hes : Right n es0 := n4
    have hC := hide (show ∀ w B, _ from fun w B hB hE => by have := rnet_any (n : Int) a0 cap0 es0 w B hB hE hl; rwa [h0] at this)
    have hJ := hide (fun w B hB hE => cycle_ok n a0 cap0 es0 w B hB hE hl h0)
    have hsay := hide (lift_says (n := n) (es := es0) (by omega) hes)
    have hA := hide (fun w B hB hE t ht => anybad_any n a0 cap0 es0 w B hB hE (by omega) (by omega) n3 hes t ht)
    have hW := hide (fun pa pc p w B hB hE hP hp0 hp1 => rwcost_ok n a0 cap0 es0 pa pc p w B hB hE hP hl h0 hp0 hp1)
    clear h0 be0 n4 hes
    go_enter Try.func5, Try.ntmps5
    go_wp2_with fail
    refine (hJ.out _ w.heap.size (by simp) (r0.out.below ((by repeat (first | with_reducible exact Below.refl _ _ | with_reducible assumption | with_reducible refine up_drewN ?_ | with_reducible refine up_drew ?_ | (with_reducible refine up_alloc ?_ ?_; rotate_left; (first | omega | (simp <;> omega) | simp)) | (with_reducible refine up_set ?_ ?_; rotate_left; (first | omega | (simp <;> omega) | simp)) | (with_reducible refine Below.trans ?_ (Below.mono (by with_reducible assumption) ?_); rotate_left; (first | omega | (simp <;> omega) | simp)))) : Below w.heap.size w _) (Nat.le_refl _))).mono ?_
    rintro e w1 hpost
    rcases hpost with ⟨hneg, rfl, hb1⟩ | ⟨p, v, K, ac, cc, hlast, hKc, hF, rfl, hr, hb1⟩
    · obtain ⟨hc1, hf1⟩ := bcell hb1; have hz1 : w.heap.size < w1.heap.size := (by have := hb1.size; (try simp at this); omega)
      have hgood := hide (hsay.out.1.1 hneg)
      replace hneg := hide hneg
      go_wp2_with fail
      refine (hC.out _ w.heap.size (by omega) (r0.out.below ((by repeat (first | with_reducible exact Below.refl _ _ | with_reducible assumption | with_reducible refine up_drewN ?_ | with_reducible refine up_drew ?_ | (with_reducible refine up_alloc ?_ ?_; rotate_left; (first | omega | (simp <;> omega) | simp)) | (with_reducible refine up_set ?_ ?_; rotate_left; (first | omega | (simp <;> omega) | simp)) | (with_reducible refine Below.trans ?_ (Below.mono (by with_reducible assumption) ?_); rotate_left; (first | omega | (simp <;> omega) | simp)))) : Below w.heap.size w _) (Nat.le_refl _))).mono ?_
      rintro e w2 ⟨rfl, hb2⟩
      obtain ⟨hc2, hf2⟩ := bcell hb2
      have hz2 := hb2.size
      go_wp2_with fail
      refine (hA.out _ w.heap.size (by omega) (r0.out.below ((by repeat (first | with_reducible exact Below.refl _ _ | with_reducible assumption | with_reducible refine up_drewN ?_ | with_reducible refine up_drew ?_ | (with_reducible refine up_alloc ?_ ?_; rotate_left; (first | omega | (simp <;> omega) | simp)) | (with_reducible refine up_set ?_ ?_; rotate_left; (first | omega | (simp <;> omega) | simp)) | (with_reducible refine Below.trans ?_ (Below.mono (by with_reducible assumption) ?_); rotate_left; (first | omega | (simp <;> omega) | simp)))) : Below w.heap.size w _) (Nat.le_refl _)) true (by simp [hgood.out])).mono ?_
      rintro e w3 ⟨rfl, hb3⟩
      go_wp2
      go_ret
      exact ⟨rfl, (by repeat (first | with_reducible exact Below.refl _ _ | with_reducible assumption | with_reducible refine up_drewN ?_ | with_reducible refine up_drew ?_ | (with_reducible refine up_alloc ?_ ?_; rotate_left; (first | omega | (simp <;> omega) | simp)) | (with_reducible refine up_set ?_ ?_; rotate_left; (first | omega | (simp <;> omega) | simp)) | (with_reducible refine Below.trans ?_ (Below.mono (by with_reducible assumption) ?_); rotate_left; (first | omega | (simp <;> omega) | simp))))⟩
    · obtain ⟨hc1, hf1⟩ := bcell hb1; have hz1 : w.heap.size < w1.heap.size := (by have := hb1.size; (try simp at this); omega)
      have hbad : ¬ LI n (lift n es0) = LI n (lift1 n es0) := fun h => by
        have := hsay.out.1.2 h
        omega
      replace hr := hide hr
      have hK1 := hF.pos
      have hK2 := hF.le
      replace hF := hide hF
      go_wp2_with fail
      refine (hC.out _ w.heap.size (by omega) (r0.out.below ((by repeat (first | with_reducible exact Below.refl _ _ | with_reducible assumption | with_reducible refine up_drewN ?_ | with_reducible refine up_drew ?_ | (with_reducible refine up_alloc ?_ ?_; rotate_left; (first | omega | (simp <;> omega) | simp)) | (with_reducible refine up_set ?_ ?_; rotate_left; (first | omega | (simp <;> omega) | simp)) | (with_reducible refine Below.trans ?_ (Below.mono (by with_reducible assumption) ?_); rotate_left; (first | omega | (simp <;> omega) | simp)))) : Below w.heap.size w _) (Nat.le_refl _))).mono ?_
      rintro e w2 ⟨rfl, hb2⟩
      obtain ⟨hc2, hf2⟩ := bcell hb2
      have hz2 := hb2.size
      go_wp2_with fail
      refine (hA.out _ w.heap.size (by omega) (r0.out.below ((by repeat (first | with_reducible exact Below.refl _ _ | with_reducible assumption | with_reducible refine up_drewN ?_ | with_reducible refine up_drew ?_ | (with_reducible refine up_alloc ?_ ?_; rotate_left; (first | omega | (simp <;> omega) | simp)) | (with_reducible refine up_set ?_ ?_; rotate_left; (first | omega | (simp <;> omega) | simp)) | (with_reducible refine Below.trans ?_ (Below.mono (by with_reducible assumption) ?_); rotate_left; (first | omega | (simp <;> omega) | simp)))) : Below w.heap.size w _) (Nat.le_refl _)) false (by simp [hbad])).mono ?_
      rintro e w3 ⟨rfl, hb3⟩
      have hz3 := hb3.size
      have k0 : w3.cell? ⟨w.heap.size, 0, none⟩ = some (.int .i64 (n : Int)) := cu_below hb3 (by rw [hc2 _ _ hz1, hc1 _ _ (by simp)]; simp [go_sem]) (by simp; omega)
      have k1 : w3.cell? ⟨w.heap.size, 1, none⟩ = some (.slice a0 es0.length cap0) := cu_below hb3 (by rw [hc2 _ _ hz1, hc1 _ _ (by simp)]; simp [go_sem]) (by simp; omega)
      have hzw : w.heap.size < w3.heap.size := cell_lt k0
      have hb13 := hide (hb2.trans (hb3.mono hz2))
      have hbw3 := hide (show Below w.heap.size w w3 from (by repeat (first | with_reducible exact Below.refl _ _ | with_reducible assumption | with_reducible refine up_drewN ?_ | with_reducible refine up_drew ?_ | (with_reducible refine up_alloc ?_ ?_; rotate_left; (first | omega | (simp <;> omega) | simp)) | (with_reducible refine up_set ?_ ?_; rotate_left; (first | omega | (simp <;> omega) | simp)) | (with_reducible refine Below.trans ?_ (Below.mono (by with_reducible assumption) ?_); rotate_left; (first | omega | (simp <;> omega) | simp)))))
      have hr3 := hide (hr.out.below hb13.out (Nat.le_refl _))
      have hnd := hide (show ∀ (i : Nat) (hi : i < (cycL p K v).reverse.length), (cycL p K v).reverse[i] ∉ (cycL p K v).reverse.take i from fun i hi => cyc_nodup hF.out i (by rw [List.length_reverse, cycL_len] at hi; exact hi))
      have hll := hide (show (cycL p K v).reverse.length = K by rw [List.length_reverse, cycL_len])
      have hP0 := hide (show (cycL p K v).reverse ++ [((itb p (K - 1) v : Nat) : Int)] = roundL p K (itb p (K - 1) v) from round_is hK1 hF.out.back)
      have hl0 := hide (show ∀ (h : 0 < (cycL p K v).reverse.length), (cycL p K v).reverse[0] = ((itb p (K - 1) v : Nat) : Int) from fun h => by rw [List.getElem_reverse, cycL_get]; simp [cycL_len])
      have hcost := hide hF.out.cost
      rw [← hP0.out] at hcost
      have hPl := hide (show ((cycL p K v).reverse ++ [((itb p (K - 1) v : Nat) : Int)]).length = K + 1 by rw [List.length_append, hll.out]; rfl)
      generalize (cycL p K v).reverse = l at *
      obtain ⟨x, hx⟩ : ∃ x, x = itb p (K - 1) v := ⟨_, rfl⟩
      rw [← hx] at hl0 hcost hPl
      have hneg := hide hcost.out.2
      have hWc := hide (fun pa pc w B hB hE hP => by have := hW.out pa pc (l ++ [(x : Int)]) w B hB hE hP (by rw [hPl.out]; omega) (by rw [hPl.out]; omega); rw [hPl.out, hcost.out.1] at this; exact this)
      generalize wtb (EE es0) p K x = cst at *
      replace hx := hide hx
      clear hc1 hc2 hf1 hf2 hb1 hb2 hb3 hr hP0 hcost hbad hlast hA hC hJ hW hsay
      have qK : ((K : Int) == 0) = false := by simp; omega
      have qd : decide (n < K) = false := by simp; omega
      go_wp2
      clear qd
      go_loopw [2, 6, 7, 49] (fun _ _ _ i wr => ∃ j : Nat, j ≤ K ∧ i = .int .i64 j ∧ wr = w3) (fun _ _ _ i _ => K - (intOf i).toNat)
      case atStart => exact ⟨0, Nat.zero_le _, rfl, rfl⟩
      case round =>
        obtain ⟨j, hj, rfl, rfl⟩ := hrel
        by_cases hlt : j < K
        · have hjl : j < l.length := by rw [hll.out]; exact hlt
          obtain ⟨b, o, rfl, hb, e0⟩ := hr3.out.int j hjl
          have hbl := cell_lt e0
          have hni := hnd.out j hjl
          obtain ⟨y, hy⟩ : ∃ y, y = l[j] := ⟨_, rfl⟩
          rw [← hy] at e0 hni
          replace hy := hide hy
          have hni2 := hide hni
          have htl := hide (show (l.take j).length = j by rw [List.length_take]; omega)
          have ij : (0 : Int) ≤ (j : Int) ∧ (j : Int) < (K : Int) := by omega
          have hjc : j ≤ cc := by omega
          clear hni
          go_wp2_with fail
          refine (ct_none (l.take j) y _ j _ htl.out wr w1.heap.size (hr3.out.take j) hni2.out (by omega)).mono ?_
          rintro e w5 ⟨rfl, rfl⟩
          go_wp2
          go_roundw
          case rel => exact ⟨j + 1, by omega, by go_num, by first | rfl | trivial⟩
          case measure => simp [intOf]; omega
        · obtain rfl : j = K := by omega
          have hjl : 0 < l.length := by rw [hll.out]; exact hK1
          obtain ⟨b, o, rfl, hb, e0⟩ := hr3.out.int 0 hjl
          have hbl := cell_lt e0
          rw [hl0.out hjl] at e0
          simp only [Nat.add_zero] at e0
          have i0 : (0 : Int) ≤ 0 ∧ (0 : Int) < (j : Int) := by omega
          have hj64 : j + 1 ≤ 65 := by omega
          have hCl := hide (fun w' (hb : Below wr.heap.size wr w') => cloneI (some ⟨b, o, none⟩) cc j l w' w1.heap.size (Nat.le_trans hb13.out.size hb.size) hll.out (hr3.out.below hb hb13.out.size) (by omega))
          go_wp2
          go_region_law (first
            | (go_simp; go_at_call 25; refine (hCl.out _ (by first | exact below_drew _ | exact Below.refl _ _ | exact up_alloc_self (below_drew _) | exact up_alloc_self (Below.refl _ _) | exact up_drew (up_alloc_self (Below.refl _ _)))).mono ?_; rintro e w5 ⟨a5, c5, rfl, own5, hb5⟩; have hb5x : Below wr.heap.size wr w5 := (by first | exact hb5 | exact below_step (below_drew _) hb5 | exact below_step (up_alloc_self (below_drew _)) hb5 | exact below_step (up_alloc_self (Below.refl _ _)) hb5); have e5 := cu_below hb5x e0 hbl; have hbl5 := cell_lt e5; have kx0 := cu_below hb5x k0 hzw; have hzw5 : w.heap.size < w5.heap.size := cell_lt kx0; have kx1 := cu_below hb5x k1 hzw)
            | (refine step_pushL (base := wr.heap.size) (e := 3) (enc := encI) (xs := l) (v := .slice a5 j c5) rfl (.tmp 63) (.tmp 67) 34 rfl _ 8 Try.underlying34 info_int rfl (by omega) lenI oneI j hll.out rfl ?_ ⟨w5.heap.size, 0, none⟩ 1 (x : Int) rfl (newI _ _ _ _ rfl) (by omega) (by unfold maxLen; omega) ?_ ?_; (next => exact (own5.base_le (by simp)).alloc _); (next => have := hb5x.size; simp; omega); intro g6 c6 w6 own6 hb6 hg6 hat6 hlt6; have hb36 : Below wr.heap.size wr w6 := hb5x.trans (unalloc hb6 hb5x.size); have hbw6 := hbw3.out.trans (hb36.mono (Nat.le_of_lt hzw)); have hr6 := hide (own6.row lenI); have hE6 := hide ((r0.out.below hbw6 (Nat.le_refl _)).mono hbw6.size); have ky0 := cu_below hb36 k0 hzw; have ky1 := cu_below hb36 k1 hzw; have hzw6 : w.heap.size < w6.heap.size := cell_lt ky0; have hRP : Row encI 1 w6 w6.heap.size (some ⟨g6, 0, none⟩) (l ++ [(x : Int)]) := (by obtain ⟨a', c', hv', hr', _⟩ := hr6.out; injection hv' with g1 g2 g3; subst g1; exact hr'); replace hRP := hide hRP)
            | (refine step_pushL (base := wr.heap.size) (e := 3) (enc := encI) (xs := l) (v := .slice a5 j c5) rfl (.tmp 63) (.tmp 67) 34 rfl _ 8 Try.underlying34 info_int rfl (by omega) lenI oneI j hll.out rfl ?_ ⟨wr.heap.size, 0, none⟩ 1 (x : Int) rfl (cellI (cu_below hb5 (cu_drew (by simp [go_sem])) (by first | (simp; done) | (simp; omega)))) (by omega) (by unfold maxLen; omega) ?_ ?_; (next => exact own5.base_le (by first | (simp; done) | (simp; omega))); (next => have := hb5x.size; omega); intro g6 c6 w6 own6 hb6 hg6 hat6 hlt6; have hb36 : Below wr.heap.size wr w6 := hb5x.trans hb6; have hbw6 := hbw3.out.trans (hb36.mono (Nat.le_of_lt hzw)); have hr6 := hide (own6.row lenI); have hE6 := hide ((r0.out.below hbw6 (Nat.le_refl _)).mono hbw6.size); have ky0 := cu_below hb36 k0 hzw; have ky1 := cu_below hb36 k1 hzw; have hzw6 : w.heap.size < w6.heap.size := cell_lt ky0; have hRP : Row encI 1 w6 w6.heap.size (some ⟨g6, 0, none⟩) (l ++ [(x : Int)]) := (by obtain ⟨a', c', hv', hr', _⟩ := hr6.out; injection hv' with g1 g2 g3; subst g1; exact hr'); replace hRP := hide hRP)
            | (go_simp; go_at_call 19; refine (hWc.out _ _ _ w6.heap.size (Nat.le_refl _) hE6.out hRP.out).mono ?_; rintro e w7 ⟨rfl, hb7⟩))
          all_goals
            have hfin := hide (hbw6.trans (hb7.mono hbw6.size))
            have hng := hneg.out
            go_wp2
            go_ret
            exact ⟨rfl, hfin.out⟩
  · have q0 : (netErr x0 es0 != 0) = true := by simp [h0]
    have q1 : (netErr x0 es0 == 0) = false := by simp [h0]
    have hJ := hide (fun w B hB hE => cycle_bad x0 a0 cap0 es0 w B hB hE hl h0)
    have hC := hide (show ∀ w B, _ from fun w B hB hE => rnet_any x0 a0 cap0 es0 w B hB hE hl)
    clear h0 be0
    go_enter Try.func5, Try.ntmps5
    go_wp2_with fail
    refine (hJ.out _ w.heap.size (by simp) (r0.out.below ((by repeat (first | with_reducible exact Below.refl _ _ | with_reducible assumption | with_reducible refine up_drewN ?_ | with_reducible refine up_drew ?_ | (with_reducible refine up_alloc ?_ ?_; rotate_left; (first | omega | (simp <;> omega) | simp)) | (with_reducible refine up_set ?_ ?_; rotate_left; (first | omega | (simp <;> omega) | simp)) | (with_reducible refine Below.trans ?_ (Below.mono (by with_reducible assumption) ?_); rotate_left; (first | omega | (simp <;> omega) | simp)))) : Below w.heap.size w _) (Nat.le_refl _))).mono ?_
    rintro e w1 ⟨rfl, hb1⟩
    obtain ⟨hc1, hf1⟩ := bcell hb1; have hz1 : w.heap.size < w1.heap.size := (by have := hb1.size; (try simp at this); omega)
    go_wp2_with fail
    refine (hC.out _ w.heap.size (by omega) (r0.out.below ((by repeat (first | with_reducible exact Below.refl _ _ | with_reducible assumption | with_reducible refine up_drewN ?_ | with_reducible refine up_drew ?_ | (with_reducible refine up_alloc ?_ ?_; rotate_left; (first | omega | (simp <;> omega) | simp)) | (with_reducible refine up_set ?_ ?_; rotate_left; (first | omega | (simp <;> omega) | simp)) | (with_reducible refine Below.trans ?_ (Below.mono (by with_reducible assumption) ?_); rotate_left; (first | omega | (simp <;> omega) | simp)))) : Below w.heap.size w _) (Nat.le_refl _))).mono ?_
    rintro e w2 ⟨rfl, hb2⟩
    go_wp2
    go_ret
    exact ⟨rfl, (by repeat (first | with_reducible exact Below.refl _ _ | with_reducible assumption | with_reducible refine up_drewN ?_ | with_reducible refine up_drew ?_ | (with_reducible refine up_alloc ?_ ?_; rotate_left; (first | omega | (simp <;> omega) | simp)) | (with_reducible refine up_set ?_ ?_; rotate_left; (first | omega | (simp <;> omega) | simp)) | (with_reducible refine Below.trans ?_ (Below.mono (by with_reducible assumption) ?_); rotate_left; (first | omega | (simp <;> omega) | simp))))⟩
end Go.Proofs.Ytgkiipmeigfjnaa
