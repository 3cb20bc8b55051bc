/-
  The walk of felllaw.HeapSorts: it returns true. Conditions: the arguments read as data, at most 524288 pairs.
-/
import Derived.Test.YtdpbkhempgghaaaHLeast
import Derived.Test.YtdpbkhempgghaaaRSorted
import Derived.Test.YtdpbkhempgghaaaEqL
import Derived.Test.YtdpbkhempgghaaaOpen
namespace Go.Proofs.Ytdpbkhempgghaaa
open Go.RowKit
set_option linter.unusedSimpArgs false
set_option linter.unusedVariables false
theorem Own.rowP2 {w : World} {base n c : Nat} {e : TypeId} {a : Option Addr} {xs : List P2} (h : Own encP 2 e w base (.slice a n c) xs) : xs.length = n ∧ Row encP 2 w w.heap.size a xs := by
  obtain ⟨a', c', hv, hr, _⟩ := h.row lenP
  injection hv with g1 g2 g3
  subst g1
  exact ⟨g2.symm, hr⟩
set_option maxRecDepth 100000 in
set_option maxHeartbeats 2000000 in
theorem walk_HeapSorts (a0 : Option Addr) (cap0 : Nat) (x0 : List P2) (x1 : Int) (w : World) (l0 : x0.length ≤ cap0) (m0 : cap0 ≤ maxLen) (r0 : Row encP 2 w w.heap.size a0 x0) (b0 : ∀ x ∈ x0, BdP x) (b1 : Bd x1) (n0 : x0.length ≤ 524288) :
    Calls Try.prog 10 #[.slice a0 x0.length cap0, .int .i64 x1] w fun e w' => e = .returned (.bool true) ∧ Below w.heap.size w w' := by
  replace r0 := hide r0
  clear b0
  have hlen := hide (show (sortP x0).length = x0.length from (sortP_ok _).1.length_eq)
  obtain ⟨m, hm⟩ : ∃ m, m = x0.length := ⟨_, rfl⟩
  rw [← hm] at n0 l0 hlen ⊢
  replace hm := hide hm
  have hR := hide (fun w' hB' hE' => rsorted_any a0 cap0 m x0 hm.out.symm w' w.heap.size hB' hE' (by omega))
  have hS := hide (fun w' hB' hE' => sort_any a0 cap0 m x0 hm.out.symm w' w.heap.size hB' hE' (by omega))
  have hL := hide (fun w' hB' hE' hn => least_ok a0 cap0 m x0 hm.out.symm x1 hn w' w.heap.size hB' hE' (by omega))
  go_enter Try.func10, Try.ntmps10
  go_wp2_with fail
  refine (hR.out w (Nat.le_refl _) r0.out).mono ?_
  rintro e w1 ⟨v1, rfl, own1, hb1⟩
  obtain ⟨a1, c1, rfl⟩ := own1.shape hlen.out
  have hr1 := hide (r0.out.below hb1 (Nat.le_refl _))
  have hz1 := hb1.size
  replace own1 := hide own1
  replace hb1 := hide hb1
  clear hR
  by_cases hn : x1 < 0
  · go_wp2_with fail
    refine (least_bad a0 cap0 m x1 hn w1).mono ?_
    rintro e w2 ⟨rfl, hb2⟩
    have hr2 := hide (hr1.out.below hb2 hz1)
    have own12 := hide (own1.out.stays hb2)
    have hb02 := hide (hb1.out.trans (hb2.mono hz1))
    have hz2 := hb02.out.size
    clear hb2 hr1 own1
    go_wp2_with fail
    refine (hS.out w2 hz2 hr2.out).mono ?_
    rintro e w3 ⟨v3, rfl, own3, hb3⟩
    obtain ⟨a3, c3, rfl⟩ := own3.shape hlen.out
    have own13 := hide (own12.out.stays hb3)
    have hb03 := hide (hb02.out.trans (hb3.mono hz2))
    have hE := hide (eqP a3 a1 c3 c1 m m (sortP x0) (sortP x0) w3 w3.heap.size w3.heap.size hlen.out hlen.out own3.rowP2.2 own13.out.rowP2.2 (by omega) (by omega) true (by simp))
    clear own3 hb3
    go_wp2_with fail
    refine hE.out.mono ?_
    rintro e w4 ⟨rfl, nq, rfl⟩
    have hb04 := hide (up_drewN (n := nq) hb03.out)
    go_wp2
    go_ret
    exact ⟨rfl, by first | exact hb04.out | exact hb04.out.drew⟩
  · have hn0 : 0 ≤ x1 := by omega
    go_wp2_with fail
    refine (hL.out w1 hz1 hr1.out hn0).mono ?_
    rintro e w2 ⟨v2, rfl, own2, hb2⟩
    have hr2 := hide (hr1.out.below hb2 hz1)
    have own12 := hide (own1.out.stays hb2)
    have hb02 := hide (hb1.out.trans (hb2.mono hz1))
    have hz2 := hb02.out.size
    obtain ⟨q, hq⟩ : ∃ q, q = min x1.toNat m := ⟨_, rfl⟩
    have hqi : (min x1 (m : Int)).toNat = q := by omega
    have hfl := hide (show (firstN x1 (sortP x0)).length = q by rw [firstN, List.length_take, hlen.out, hq])
    have hqm : q ≤ m := by omega
    have hft := hide (show firstN x1 (sortP x0) = (sortP x0).take q by
      rw [firstN, hq]
      by_cases h : x1.toNat ≤ m
      · rw [Nat.min_eq_left h]
      · rw [Nat.min_eq_right (by omega), List.take_of_length_le (by rw [hlen.out]; omega), List.take_of_length_le (by rw [hlen.out]; exact Nat.le_refl _)])
    replace hq := hide hq
    obtain ⟨a2, c2, rfl⟩ := own2.shape hfl.out
    replace own2 := hide own2
    clear hb2 hr1 own1
    go_wp2_with fail
    refine (hS.out w2 hz2 hr2.out).mono ?_
    rintro e w3 ⟨v3, rfl, own3, hb3⟩
    obtain ⟨a3, c3, rfl⟩ := own3.shape hlen.out
    have own13 := hide (own12.out.stays hb3)
    have own23 := hide (own2.out.stays hb3)
    have hb03 := hide (hb02.out.trans (hb3.mono hz2))
    have hE := hide (eqP a3 a1 c3 c1 m m (sortP x0) (sortP x0) w3 w3.heap.size w3.heap.size hlen.out hlen.out own3.rowP2.2 own13.out.rowP2.2 (by omega) (by omega) true (by simp))
    have hcap : m ≤ c1 := by
      obtain ⟨a', c', hv, _, h3, _⟩ := own13.out.row lenP
      injection hv with g1 g2 g3
      rw [hlen.out] at h3
      omega
    clear own3 hb3
    go_wp2_with fail
    refine hE.out.mono ?_
    rintro e w4 ⟨rfl, nq, rfl⟩
    have hb04 := hide (up_drewN (n := nq) hb03.out)
    have hrow2 : Row encP 2 w3 w3.heap.size a1 ((sortP x0).take q) := by
      intro i hi
      obtain ⟨b, o, h1, h2, h3⟩ := own13.out.rowP2.2 i (by rw [List.length_take] at hi; omega)
      exact ⟨b, o, h1, h2, fun j u hu => h3 j u (by simpa using hu)⟩
    have hE2 := hide (fun n c => eqP a2 a1 c2 c q q (firstN x1 (sortP x0)) ((sortP x0).take q) (w3.drewN n) w3.heap.size w3.heap.size hfl.out (by rw [List.length_take, hlen.out]; omega) own23.out.rowP2.2 hrow2 (by omega) (by omega) true (by simp [hft.out]))
    replace hqi := hide hqi
    clear hrow2
    go_wp2_with fail
    simp only [hqi.out]
    refine (hE2.out _ _).mono ?_
    rintro e w5 ⟨rfl, nq2, rfl⟩
    have hb05 := hide (up_drewN (n := nq2) hb04.out)
    go_wp2
    go_ret
    exact ⟨rfl, by first | exact hb05.out | exact up_drewN hb03.out⟩
end Go.Proofs.Ytdpbkhempgghaaa
